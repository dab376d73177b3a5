/- measure.Table: walked. -/
import Derived.Test.YtcioaghchnkepaaGreatDoorMtBuilder
import Derived.Test.YtcioaghchnkepaaGreatDoorMoB
import Derived.Test.YtcioaghchnkepaaGreatDoorQnPlain
import Derived.Lib.AppendIntMem
import Derived.Lib.LaidTab
namespace Go.Proofs.Mt
open Go Go.RowKit Go.Proofs.YtcioaghchnkepaaGreatDoorW.PrintWords Go.Proofs.YtcioaghchnkepaaGreatDoor.PMeasureOrders

def TabOk (w : World) : Prop := Lib.TabIs Tryz.prog w "internal/strconv.uint64pow10" .u64 Lib.pow10Tab

theorem tab_at : ∃ g, Tryz.prog.globalNamed "internal/strconv.uint64pow10" = some g := ⟨1, by kernel_rfl⟩

theorem TabOk.below {w w' : World} (h : TabOk w) (hb : Below w.heap.size w w') : TabOk w' := by
  obtain ⟨g, hn⟩ := tab_at
  unfold TabOk Lib.TabIs World.var? at *
  rw [hn] at h ⊢
  simp only [Option.bind_some] at h ⊢
  have hlt : g < w.heap.size := by
    rcases Nat.lt_or_ge g w.heap.size with k | k
    · exact k
    · rw [Array.getElem?_eq_none k] at h
      cases h
  rw [hb.block g hlt]
  exact h

def str (l : List UInt8) : ByteArray := ⟨l.toArray⟩
theorem str_list (l : List UInt8) : (str l).data.toList = l := by simp [str]

theorem number_any {n : Int} (h0 : -9223372036854775808 ≤ n) (h1 : n ≤ 9223372036854775807) {w : World} (hT : TabOk w) :
    Calls Tryz.prog 22 #[.int .i64 n] w fun e w' => e = .returned (.string (str (Lib.itoa n))) ∧ Below w.heap.size w w' := by
  have HI : Hid (Calls Tryz.prog 32 #[.int .i64 n] w fun e w' => e = .returned (.string (str (Lib.itoa n))) ∧ Below w.heap.size w w') := by
    refine (Tryz.strconv_Itoa n h0 h1 w hT).mono ?_
    rintro e w' ⟨rfl, k, os, rfl⟩
    exact ⟨rfl, Lib.below_grow _ _ (Nat.le_refl _) _ _⟩
  clear hT
  go_enter Tryz.func22, Tryz.ntmps22
  go_wp2_with (go_at_call 32; refine HI.out.mono ?_; rintro e w' ⟨rfl, hb⟩)
  go_ret
  exact ⟨rfl, hb⟩

/-- two words with a blank between -/
def two (a b : List UInt8) : List UInt8 := a ++ [32] ++ b

theorem words_two {w : World} {g : Nat} {a b : List UInt8} (h0 : w.cell? ⟨g, 0, none⟩ = some (.string (str a))) (h1 : w.cell? ⟨g, 1, none⟩ = some (.string (str b))) (hg : g < w.heap.size) (hl : a.length + b.length ≤ 1000) :
    Calls Tryz.prog 21 #[.slice (some ⟨g, 0, none⟩) 2 2] w fun e w' => e = .returned (.string (str (two a b))) ∧ Below w.heap.size w w' := by
  have hj : Lib.join ([str a, str b].map (·.data.toList)) (⟨#[32]⟩ : ByteArray).data.toList = two a b := by
    simp [str_list, Lib.join_cons, Lib.joinTail, two]
  have HJ : Hid (Calls Tryz.prog 31 #[.slice (some ⟨g, 0, none⟩) 2 2, .string ⟨#[32]⟩] w fun e w' => e = .returned (.string (str (two a b))) ∧ Below w.heap.size w w') := by
    refine (Tryz.strings_Join g 0 2 [str a, str b] ⟨#[32]⟩ w ?_ hg (by simp) (by simp) (by rw [hj]; simp [two]; omega)).mono ?_
    · intro j x hx
      match j with
      | 0 => simp at hx; subst hx; exact h0
      | 1 => simp at hx; subst hx; exact h1
      | j + 2 => simp at hx
    · rintro e w' ⟨rfl, hb⟩
      rw [hj]
      exact ⟨rfl, hb⟩
  clear hj h0 h1
  go_enter Tryz.func21, Tryz.ntmps21
  go_wp2_with (go_at_call 31; refine HJ.out.mono ?_; rintro e w' ⟨rfl, hb⟩)
  go_ret
  exact ⟨rfl, hb⟩

/-- a row of the table -/
def rowL (k : Nat) (x : Int) : List UInt8 := two (Lib.itoa ((k : Int) + 1)) (Lib.itoa x) ++ [10]
/-- the table's first rows -/
def tableL (l : List Int) : Nat → List UInt8
  | 0 => []
  | k + 1 => tableL l k ++ rowL k (l.getD k 0)

theorem row_len (k : Nat) (x : Int) (hk : k ≤ 1000) (hx : -1000000 ≤ x ∧ x ≤ 1000000) : (rowL k x).length ≤ 50 := by
  have h1 := Qn.itoa_len (n := (k : Int) + 1) (by omega) (by omega)
  have h2 := Qn.itoa_len (n := x) (by omega) (by omega)
  simp only [rowL, two, List.length_append, List.length_cons, List.length_nil]
  omega

theorem table_len {l : List Int} (hB : Bd 1000000 l) : ∀ k, k ≤ 1000 → (tableL l k).length ≤ 50 * k
  | 0, _ => by simp [tableL]
  | k + 1, hk => by
    have h1 := table_len hB k (by omega)
    have h2 := row_len k (l.getD k 0) (by omega) (getD_bd hB (by decide) k)
    simp only [tableL, List.length_append]
    omega

theorem builder_below {B b : Nat} {bs : List Value} {w w' : World} (h : Lib.IsBuilder 46 5 B b bs w) (hb : Below w.heap.size w w') : Lib.IsBuilder 46 5 B b bs w' := by
  have key : ∀ p, Lib.BuilderAt 46 5 B b p bs w → Lib.BuilderAt 46 5 B b p bs w' := by
    intro p h
    obtain ⟨h1, v, h2, h3, h4⟩ := h
    have hlt : b < w.heap.size := by
      rcases Nat.lt_or_ge b w.heap.size with k | k
      · exact k
      · rw [Array.getElem?_eq_none k] at h2; cases h2
    have hg : w.grownBy w' none := ⟨hb.os, hb.tape, hb.output, hb.size, fun k hk _ => hb.block k hk⟩
    refine ⟨h1, v, (hb.block b hlt).trans h2, h3.kept hg ?_, h4⟩
    cases hv : v.ownBlock with
    | none => exact .inl rfl
    | some k => exact .inr (by simp)
  rcases h with h | h
  · exact .inl (key _ h)
  · exact .inr (key _ h)

theorem add_end (l : List UInt8) (hl : l.length ≤ 1000) (w : World) : (Op.stringOp .add (str l) ⟨#[10]⟩).run Tryz.prog w = .ok (.string (str (l ++ [10]))) w := by
  unfold str
  rw [run_string_add_sum w _ _ (by simp [ByteArray.size]; omega)]
  exact congrArg (fun x => Result.ok (Value.string x) w) (ByteArray.mk_append_mk l [10])

theorem alloc_two (w : World) (x y : Value) :
    (w.alloc (.cells #[x, y] 9)).cell? ⟨w.heap.size, 0, none⟩ = some x ∧ (w.alloc (.cells #[x, y] 9)).cell? ⟨w.heap.size, 1, none⟩ = some y ∧ w.heap.size < (w.alloc (.cells #[x, y] 9)).heap.size ∧ Below w.heap.size w (w.alloc (.cells #[x, y] 9)) := by
  have h : (w.alloc (.cells #[x, y] 9)).heap[w.heap.size]? = some (.cells #[x, y] 9) := by
    show (w.heap.push _)[w.heap.size]? = _
    simp
  refine ⟨?_, ?_, ?_, (Below.refl _ _).alloc (Nat.le_refl _) _⟩
  · rw [Lib.cell_of_heap h]; rfl
  · rw [Lib.cell_of_heap h]; rfl
  · show _ < (w.heap.push _).size
    simp

theorem byteCells_len (l : List UInt8) : (Lib.byteCells l).length = l.length := by simp [Lib.byteCells]
theorem byteCells_add (a b : List UInt8) : Lib.byteCells (a ++ b) = Lib.byteCells a ++ Lib.strCells (str b) := by
  simp [Lib.byteCells, Lib.strCells, str]
/-- the loop of Table -/
def TRel (l : List Int) (w : World) (i : Value) (wr : World) : Prop :=
  ∃ k : Nat, k ≤ l.length ∧ i = .int .i64 k ∧ Lib.IsBuilder 46 5 w.heap.size w.heap.size (Lib.byteCells (tableL l k)) wr ∧ Below w.heap.size w wr

def tableB (l : List Int) : ByteArray := str (tableL l l.length)

set_option maxHeartbeats 2000000 in
theorem table_any (l : List Int) (hl : l.length ≤ 60) (hB : Bd 1000000 l) (A : Option Addr) (c : Nat) (w : World) (hr : Kd.C (Kd.int .i64) w A l.length l) (hT : TabOk w) :
    Calls Tryz.prog 13 #[.slice A l.length c] w fun e w' => e = .returned (.string (tableB l)) ∧ Below w.heap.size w w' := by
  have HR : Hid (Kd.C (Kd.int .i64) w A l.length l) := hr
  have HT : Hid (TabOk w) := hT
  have HBd : Hid (Bd 1000000 l) := hB
  clear hr hT hB
  go_enter Tryz.func13, Tryz.ntmps13
  go_wp2
  have HS : Hid (TRel l w (.int .i64 0) (w.alloc (.cells #[.pointer none, .slice none 0 0] 46))) := by
    refine ⟨0, Nat.zero_le _, rfl, .inl ⟨Nat.le_refl _, .slice none 0 0, ?_, ⟨rfl, .inl ⟨rfl, rfl⟩⟩, by simp [Value.ownBlock]⟩, (Below.refl _ _).alloc (Nat.le_refl _) _⟩
    show (w.heap.push _)[w.heap.size]? = _
    simp
  go_loopw [8] (fun i wr => TRel l w i wr) (fun i _ => l.length - (intOf i).toNat)
  case atStart => exact HS.out
  case round =>
    obtain ⟨k, hk, rfl, hIs, hBl⟩ := hrel
    have HI := Hid.mk'' hIs
    have HBl := Hid.mk'' hBl
    have HTr : Hid (TabOk wr) := HT.out.below hBl
    have HRr : Hid (Kd.C (Kd.int .i64) wr A l.length l) := Kd.C_below HR.out hBl
    clear hIs hBl HS
    by_cases hlt : k < l.length
    · obtain ⟨ad, rfl, hcell⟩ := read_at HRr.out hlt
      have hx := getD_bd HBd.out (by decide) k
      have hrow := row_len k (l.getD k 0) (by omega) hx
      have htab := table_len HBd.out k (by omega)
      have hnx : tableL l (k + 1) = tableL l k ++ rowL k (l.getD k 0) := rfl
      have HNX := Hid.mk'' hnx
      clear hnx
      generalize l.getD k 0 = x at hcell hx hrow HNX
      have hk1 : (k : Int) ≤ 60 := by omega
      have hk0 : (0 : Int) ≤ k := by omega
      go_wp2_with fail
      go_at_call 22
      refine (number_any (n := (k : Int) + 1) (by omega) (by omega) HTr.out).mono ?_
      rintro e w1 ⟨rfl, hb1⟩
      have HT1 : Hid (TabOk w1) := HTr.out.below hb1
      go_wp2_with fail
      go_at_call 22
      refine (number_any (n := x) (by omega) (by omega) HT1.out).mono ?_
      rintro e w2 ⟨rfl, hb2⟩
      go_wp2_with fail
      have HA3 := Hid.mk'' (alloc_two w2 (.string (str (Lib.itoa ((k : Int) + 1)))) (.string (str (Lib.itoa x))))
      have hl2 : (Lib.itoa ((k : Int) + 1)).length + (Lib.itoa x).length ≤ 1000 := by
        simp only [rowL, two, List.length_append] at hrow
        omega
      refine (words_two HA3.out.1 HA3.out.2.1 HA3.out.2.2.1 hl2).mono ?_
      rintro e w3 ⟨rfl, hb3⟩
      have HB3 : Hid (Below wr.heap.size wr w3) := hb1.trans ((hb2.mono hb1.size).trans ((HA3.out.2.2.2.trans (hb3.mono (Nat.le_of_lt HA3.out.2.2.1))).mono (Nat.le_trans hb1.size hb2.size)))
      clear hb1 hb2 hb3
      have hsz : ¬ 9223372036854775807 < (str (two (Lib.itoa ((k : Int) + 1)) (Lib.itoa x))).size + 1 := by
        simp [str, ByteArray.size, two]
        omega
      go_wp2_with fail
      have hcat : str (two (Lib.itoa ((k : Int) + 1)) (Lib.itoa x)) ++ (⟨#[10]⟩ : ByteArray) = str (rowL k x) := ByteArray.mk_append_mk _ [10]
      rw [hcat]
      have hsize : (str (rowL k x)).size = (rowL k x).length := by simp [str, ByteArray.size]
      go_at_call 20
      refine (write_string w.heap.size w.heap.size _ (str (rowL k x)) w3 (builder_below HI.out HB3.out) (by rw [hsize, byteCells_len]; omega) (Nat.le_trans HBl.out.size HB3.out.size)).mono ?_
      rintro e w4 ⟨rfl, hB4, hb4⟩
      rw [← byteCells_add, ← HNX.out] at hB4
      have HM : Hid (TRel l w (.int .i64 (k + 1 : Nat)) w4) := ⟨k + 1, by omega, rfl, .inr hB4, (HBl.out.trans (HB3.out.mono HBl.out.size)).trans hb4⟩
      clear hB4 hb4 hcat hsize hsz HB3 HA3
      go_wp2
      go_roundw
      case rel => exact HM.out
      case measure => simp [intOf]; omega
    · obtain rfl : k = l.length := by omega
      go_wp2_with fail
      go_at_call 23
      refine (Tryz.Builder_String_any w.heap.size w.heap.size (tableL l l.length) wr HI.out HBl.out.size).mono ?_
      rintro e w4 ⟨rfl, hb4⟩
      have HF := Hid.mk'' (HBl.out.trans hb4)
      go_wp2
      go_ret
      exact ⟨rfl, HF.out⟩
end Go.Proofs.Mt
