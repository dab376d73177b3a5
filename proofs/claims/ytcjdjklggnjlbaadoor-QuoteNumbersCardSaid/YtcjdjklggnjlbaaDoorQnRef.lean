/- The reference's Number: walked. -/
import Derived.Test.YtcjdjklggnjlbaaDoorQnPlain
import Derived.Test.YtcjdjklggnjlbaaDoorChecked
import Derived.WalkKit
import Derived.WalkSpells
import Derived.WalkLawsBesides
import Derived.IntWalk
import Derived.Laws.BytesArg
import Derived.Lib.Hide
namespace Go.Proofs.Qn
open Go Go.RowKit Go.Qn

def emp : Value → Nat | .string s => if s.data.toList = [] then 1 else 0 | _ => 0

def one (k : Nat) : ByteArray := ⟨[UInt8.ofNat (48 + k % 10)].toArray⟩
def more (k : Nat) (l : List UInt8) : ByteArray := ⟨(UInt8.ofNat (48 + k % 10) :: l).toArray⟩

theorem conv_digit (k : Nat) (w : World) : (convert 35 9 (.slice (some ⟨w.heap.size, 0, none⟩) 1 1)).run Tryd.prog (w.alloc (.cells #[.int .u8 (48 + (k : Int) % 10)] 5)) = .ok (.string (one k)) (w.alloc (.cells #[.int .u8 (48 + (k : Int) % 10)] 5)) := by
  have := run_convert_bytes_arg (P := Tryd.prog) (w.alloc (.cells #[.int .u8 (48 + (k : Int) % 10)] 5)) 35 5 (by kernel_rfl) (by kernel_rfl) w.heap.size 0 1 1 [48 + (k : Int) % 10] rfl (by
    intro i hi
    obtain rfl : i = 0 := by omega
    simp) 9 (by kernel_rfl)
  rw [this]
  have e : ((48 : Int) + (k : Int) % 10).toNat = 48 + k % 10 := by omega
  simp [strOfNums, e, one]

theorem add_digit (k : Nat) (l : List UInt8) (hl : l.length ≤ 19) (w : World) : (Op.stringOp .add (one k) ⟨l.toArray⟩).run Tryd.prog w = .ok (.string (more k l)) w := by
  unfold one more
  rw [run_string_add_sum w _ _ (by simp [ByteArray.size]; omega), ByteArray.mk_append_mk]
  rfl

theorem emp_more (k : Nat) (l : List UInt8) : emp (.string (more k l)) = 0 := by simp [emp, more]

set_option maxHeartbeats 400000 in
theorem ref_pos (u : Nat) (hu : u ≤ 9223372036854775807) (w : World) :
    Calls Tryd.prog 7 #[.int .i64 u] w fun e w' => e = .returned (.string ⟨(Lib.decDigits u).toArray⟩) ∧ Below w.heap.size w w' := by
  have hneg : decide ((u : Int) < 0) = false := by simp
  go_enter Tryd.func7, Tryd.ntmps7
  go_wp2
  go_loopw [0, 3] (fun n s wr => ∃ (k : Nat) (l : List UInt8), k ≤ u ∧ Gone u l k ∧ n = .int .i64 k ∧ s = .string ⟨l.toArray⟩ ∧ Below w.heap.size w wr) (fun n s _ => 2 * (intOf n).toNat + emp s)
  case atStart => exact ⟨u, [], Nat.le_refl _, .inl ⟨rfl, rfl⟩, rfl, rfl, Below.refl _ _⟩
  case round =>
    obtain ⟨k, l, hk, hL, rfl, rfl, hb⟩ := hrel
    have hl := left_len hL (by omega)
    by_cases go : l = [] ∨ 0 < k
    · have HL : Hid (Gone u (UInt8.ofNat (48 + k % 10) :: l) (k / 10)) := Lib.hid (left_step hL go)
      have hcd := conv_digit k wr
      have had := fun w => add_digit k l hl w
      have hb2 : Below w.heap.size w (wr.alloc (.cells #[.int .u8 (48 + (k : Int) % 10)] 5)) := hb.alloc hb.size _
      have hb2 := Lib.hid hb2
      clear hL
      by_cases hs : l = []
      · subst hs
        clear go hl
        have had : ∀ w, (Op.stringOp .add (one k) ⟨#[]⟩).run Tryd.prog w = .ok (.string (more k [])) w := had
        go_wp2
        go_roundw
        case rel => exact ⟨k / 10, _, by omega, HL.out, by go_num, rfl, hb2.out⟩
        case measure => simp [intOf, emp_more]; simp [emp]; omega
      · have h0 : 0 < k := by rcases go with h | h; exact absurd h hs; exact h
        obtain ⟨c, t, rfl⟩ : ∃ c t, l = c :: t := by
          cases l with
          | nil => exact absurd rfl hs
          | cons c t => exact ⟨c, t, rfl⟩
        clear go hs
        have ht : decide ((0 : Int) < (k : Int)) = true := by simpa using h0
        go_wp2
        go_roundw
        case rel => exact ⟨k / 10, _, by omega, HL.out, by go_num, rfl, hb2.out⟩
        case measure => simp [intOf, emp_more]; simp [emp]; omega
    · obtain ⟨h1, h2⟩ := not_or.1 go
      have he := Lib.hid (left_end hL h1 h2)
      obtain rfl : k = 0 := by omega
      clear hL go h2
      have ht : decide ((0 : Int) < 0) = false := by simp
      obtain ⟨c, t, rfl⟩ : ∃ c t, l = c :: t := by
        cases l with
        | nil => exact absurd rfl h1
        | cons c t => exact ⟨c, t, rfl⟩
      go_wp2
      go_ret
      exact ⟨by rw [← he.out]; rfl, hb⟩

theorem itoa_min : Lib.itoa (-9223372036854775808) = [45, 57, 50, 50, 51, 51, 55, 50, 48, 51, 54, 56, 53, 52, 55, 55, 53, 56, 48, 56] := by
  have e : (-9223372036854775808 : Int).natAbs = 9223372036854775808 := rfl
  unfold Lib.itoa
  rw [if_pos (by decide), e]
  simp [Lib.decDigits]

theorem add_minus (u : Nat) (hl : (Lib.decDigits u).length ≤ 19) (w : World) : (Op.stringOp .add ⟨#[45]⟩ ⟨(Lib.decDigits u).toArray⟩).run Tryd.prog w = .ok (.string ⟨(45 :: Lib.decDigits u).toArray⟩) w := by
  rw [run_string_add_sum w _ _ (by simp [ByteArray.size]; omega)]
  exact congrArg (fun x => Result.ok (Value.string x) w) (ByteArray.mk_append_mk [45] (Lib.decDigits u))

set_option maxHeartbeats 400000 in
theorem ref_any (n : Int) (h0 : -9223372036854775808 ≤ n) (h1 : n ≤ 9223372036854775807) (w : World) :
    Calls Tryd.prog 7 #[.int .i64 n] w fun e w' => e = .returned (.string ⟨(Lib.itoa n).toArray⟩) ∧ Below w.heap.size w w' := by
  by_cases hn : n < 0
  · by_cases hm : n = -9223372036854775808
    · subst hm
      rw [itoa_min]
      go_enter Tryd.func7, Tryd.ntmps7
      go_wp2
      go_ret
      exact ⟨rfl, Below.refl _ _⟩
    · obtain ⟨u, rfl⟩ : ∃ u : Nat, n = -(u : Int) := ⟨n.natAbs, by omega⟩
      have hu : u ≤ 9223372036854775807 := by omega
      have hi : Lib.itoa (-(u : Int)) = 45 :: Lib.decDigits u := by
        unfold Lib.itoa
        rw [if_pos hn]
        simp
      rw [hi]
      have had := add_minus u (dec_len (by omega))
      have hm2 : ((-(u : Int)) == -9223372036854775808) = false := by simpa using hm
      have hu1 : 0 < u := by omega
      clear hi hm
      go_enter Tryd.func7, Tryd.ntmps7
      go_wp2_with (go_at_call 7; refine (ref_pos u hu _).mono ?_; rintro e w' ⟨rfl, hb⟩)
      go_ret
      exact ⟨rfl, hb⟩
  · obtain ⟨u, rfl⟩ : ∃ u : Nat, n = (u : Int) := ⟨n.toNat, by omega⟩
    have hi : Lib.itoa (u : Int) = Lib.decDigits u := by
      unfold Lib.itoa
      rw [if_neg hn]
      simp
    rw [hi]
    exact ref_pos u (by omega) w
end Go.Proofs.Qn
