/- nat.Mul of two numbers: walked. -/
import Derived.Test.YtcioaghchnkepaaGreatDoorMtTable
import Derived.Laws.MathBits
namespace Go.Proofs.YtcioaghchnkepaaGreatDoor.PMeasureTables
open Go Go.RowKit Go.Proofs.YtcioaghchnkepaaGreatDoor.PMeasureOrders Go.Proofs.YtcioaghchnkepaaGreatDoorW.PrintWords Go.Proofs.YtcioaghchnkepaaGreatDoorW.PrintLast Go.Proofs.YtcioaghchnkepaaGreatDoorW.PrintMore
attribute [local go_sem] max2_int min2_int max_two min_two

theorem u64_small {n : Int} (h : 0 ≤ n) (h' : n ≤ 1000000000000) : IntKind.u64.wrap n = n := by
  have : IntKind.u64.wrap n = n % 18446744073709551616 := by simp [IntKind.wrap, IntKind.bits, IntKind.signed]
  omega

theorem least_any (n : Int) (h : 0 ≤ n) (h' : n ≤ 1000000000) (w : World) : Calls Tryz.prog 53 #[.int .i64 n] w fun e w' => e = .returned (.int .u64 n) ∧ w = w' := by
  have h1 : decide (n < 0) = false := by simp; omega
  have h2 : IntKind.u64.wrap n = n := u64_small h (by omega)
  go_enter Tryz.func53, Tryz.ntmps53
  go_wp2
  go_ret
  exact ⟨rfl, rfl⟩

theorem most_any (n : Int) (h : 0 ≤ n) (h' : n ≤ 1000000000) (w : World) : Calls Tryz.prog 54 #[.int .u64 0, .int .u64 n] w fun e w' => e = .returned (.int .i64 n) ∧ w = w' := by
  have h1 : decide (9223372036854775807 < n) = false := by simp; omega
  have h2 : wrap64 n = n := by unfold wrap64; omega
  go_enter Tryz.func54, Tryz.ntmps54
  go_wp2
  go_ret
  exact ⟨rfl, rfl⟩

theorem mul64_any (a b : Int) (h : 0 ≤ a) (h' : a ≤ 2) (hb : 0 ≤ b) (hb' : b ≤ 1000000000) (w : World) : Calls Tryz.prog 52 #[.int .u64 a, .int .u64 b] w fun e w' => e = .returned (.tuple #[.int .u64 0, .int .u64 (a * b)]) ∧ w = w' := by
  have h1 := and_low32 a (by omega) (by omega)
  have h2 := and_low32 b (by omega) (by omega)
  have h3 : a % 4294967296 = a := by omega
  have h4 : b % 4294967296 = b := by omega
  have h5 : a / 4294967296 = 0 := by omega
  have h6 : b / 4294967296 = 0 := by omega
  rw [h3] at h1
  rw [h4] at h2
  have h7 : 0 ≤ a * b ∧ a * b ≤ 2000000000 := ⟨Int.mul_nonneg h hb, by have := Int.mul_le_mul h' hb' hb (by omega); omega⟩
  have h8 := u64_small h7.1 (by omega)
  have h9 : a * b / 4294967296 = 0 := by have := h7.1; have := h7.2; omega
  have h10 : bits .and .u64 0 4294967295 = 0 := by rw [and_low32 0 (by omega) (by omega)]; rfl
  have h11 : IntKind.u64.wrap 0 = 0 := u64_small (by omega) (by omega)
  clear h3 h4 h' hb' h7
  go_enter Tryz.func52, Tryz.ntmps52
  go_wp2
  go_ret2
  exact ⟨rfl, rfl⟩
theorem mul_any (a b : Int) (h : 0 ≤ a) (h' : a ≤ 2) (hb : 0 ≤ b) (hb' : b ≤ 100000000) (w : World) : Calls Tryz.prog 34 #[.int .i64 a, .int .i64 b] w fun e w' => e = .returned (.int .i64 (a * b)) ∧ w = w' := by
  have h7 : 0 ≤ a * b ∧ a * b ≤ 200000000 := ⟨Int.mul_nonneg h hb, by have := Int.mul_le_mul h' hb' hb (by omega); omega⟩
  have HA := Hid.mk'' (show a ≤ 1000000000 by omega)
  have HB := Hid.mk'' (show b ≤ 1000000000 by omega)
  have HA0 := Hid.mk'' h
  have HA2 := Hid.mk'' h'
  have HB0 := Hid.mk'' hb
  have H7 := Hid.mk'' h7.1
  have H8 := Hid.mk'' (show a * b ≤ 1000000000 by omega)
  clear h h' hb hb' h7
  go_enter Tryz.func34, Tryz.ntmps34
  go_wp2_with fail
  go_at_call 53
  refine (least_any a HA0.out HA.out _).mono ?_
  rintro e w1 ⟨rfl, rfl⟩
  go_wp2_with fail
  go_at_call 53
  refine (least_any b HB0.out HB.out _).mono ?_
  rintro e w1 ⟨rfl, rfl⟩
  go_wp2_with fail
  go_at_call 52
  refine (mul64_any a b HA0.out HA2.out HB0.out HB.out _).mono ?_
  rintro e w1 ⟨rfl, rfl⟩
  go_wp2_with fail
  go_at_call 54
  refine (most_any (a * b) H7.out H8.out _).mono ?_
  rintro e w1 ⟨rfl, rfl⟩
  go_wp2
  go_ret
  exact ⟨rfl, rfl⟩

/-- the products so far -/
def upto (x : Int) (k : Nat) : Int := if k = 0 then 1 else if k = 1 then 2 else 2 * x
theorem upto_facts (x : Int) (h0 : 1 ≤ x) (h1 : x ≤ 1000000) (k : Nat) (hk : k < 2) :
    (0 ≤ upto x k ∧ upto x k ≤ 2) ∧ (1 ≤ ([2, x] : List Int).getD k 0 ∧ ([2, x] : List Int).getD k 0 ≤ 1000000) ∧ upto x k * ([2, x] : List Int).getD k 0 = upto x (k + 1) := by
  match k, hk with
  | 0, _ => simp [upto]
  | 1, _ => simp [upto, h0, h1]

set_option maxHeartbeats 400000 in
theorem fold_any (x : Int) (h0 : 1 ≤ x) (h1 : x ≤ 1000000) {A : Option Addr} {c : Nat} {w : World} (hr : Kd.C (Kd.int .i64) w A 2 [2, x]) :
    Calls Tryz.prog 33 #[.int .i64 1, .slice A 2 c, .func (.func 34) #[] #[]] w fun e w' => e = .returned (.int .i64 (2 * x)) ∧ w = w' := by
  have HR : Hid (Kd.C (Kd.int .i64) w A ([2, x] : List Int).length [2, x]) := hr
  have HU := Hid.mk'' (upto_facts x h0 h1)
  clear hr h0 h1
  go_enter Tryz.func33, Tryz.ntmps33
  go_wp2
  go_loop [0, 11] (fun f i => ∃ k : Nat, k ≤ 2 ∧ f = .int .i64 (upto x k) ∧ i = .int .i64 k) (fun _ i => 2 - (intOf i).toNat)
  case atStart => exact ⟨0, Nat.zero_le _, rfl, rfl⟩
  case round =>
    obtain ⟨k, hk, rfl, rfl⟩ := hrel
    by_cases hlt : k < 2
    · obtain ⟨ad, rfl, hcell⟩ := read_at HR.out (j := k) hlt
      obtain ⟨⟨u0, u1⟩, ⟨y0, y1⟩, hm⟩ := HU.out k hlt
      have HM := Hid.mk'' hm
      clear hm
      generalize ([2, x] : List Int).getD k 0 = y at hcell y0 y1 HM
      generalize upto x k = u at u0 u1 HM ⊢
      have hk1 : (k : Int) < 2 := by omega
      go_wp2_with (go_at_call 34; refine (mul_any u y u0 u1 (by omega) (by omega) _).mono ?_; rintro e w1 ⟨rfl, rfl⟩)
      go_round
      case rel => exact ⟨k + 1, by omega, by rw [HM.out], by go_num⟩
      case measure => simp [intOf]; omega
    · obtain rfl : k = 2 := by omega
      have hu : upto x 2 = 2 * x := rfl
      rw [hu]
      go_wp2
      go_ret
      exact ⟨rfl, rfl⟩

/-- nat.Mul of 2 and a small number -/
theorem Mul_any (x : Int) (h0 : 1 ≤ x) (h1 : x ≤ 1000000) {A : Option Addr} {c : Nat} {w : World} (hr : Kd.C (Kd.int .i64) w A 2 [2, x]) :
    Calls Tryz.prog 24 #[.slice A 2 c] w fun e w' => e = .returned (.int .i64 (2 * x)) ∧ w = w' := by
  have HF := Hid.mk'' (fold_any x h0 h1 (c := c) hr)
  have HR : Hid (Kd.C (Kd.int .i64) w A ([2, x] : List Int).length [2, x]) := hr
  have HU := Hid.mk'' (upto_facts x h0 h1)
  clear hr h0 h1
  go_enter Tryz.func24, Tryz.ntmps24
  go_wp2
  go_loop [7] (fun i => ∃ k : Nat, k ≤ 2 ∧ i = .int .i64 k) (fun i => 2 - (intOf i).toNat)
  case atStart => exact ⟨0, Nat.zero_le _, rfl⟩
  case round =>
    obtain ⟨k, hk, rfl⟩ := hrel
    by_cases hlt : k < 2
    · obtain ⟨ad, rfl, hcell⟩ := read_at HR.out (j := k) hlt
      obtain ⟨_, ⟨y0, _⟩, _⟩ := HU.out k hlt
      generalize ([2, x] : List Int).getD k 0 = y at hcell y0
      have hy : decide (y ≤ 0) = false := by simp; omega
      have hk1 : (k : Int) < 2 := by omega
      go_wp2
      go_round
      case rel => exact ⟨k + 1, by omega, by go_num⟩
      case measure => simp [intOf]; omega
    · obtain rfl : k = 2 := by omega
      go_wp2_with (go_at_call 33; refine HF.out.mono ?_; rintro e w1 ⟨rfl, rfl⟩)
      go_ret
      exact ⟨rfl, rfl⟩

theorem two_of {l : List Int} (h : l.length = 2) : l = [2, l.getD 1 0] ↔ l.getD 0 0 = 2 := by
  match l, h with
  | [a, b], _ => simp

def nat_Mul.f (l0 : List Int) : Option (Int) := if l0.length = 2 ∧ l0.getD 0 0 = 2 ∧ 1 ≤ l0.getD 1 0 ∧ l0.getD 1 0 ≤ 1000000 then some (2 * l0.getD 1 0) else none
theorem nat_Mul.calls (A0 : Option Addr) (c0 : Nat) (l0 : List Int) (r : Int) (w : World) (hr0 : Kd.C (Kd.int .i64) w A0 l0.length l0) (_ : l0.length ≤ c0) (h : nat_Mul.f l0 = some r) :
    Calls Tryz.prog 24 #[.slice A0 l0.length c0] w fun e w' => e = .returned (.int .i64 r) ∧ Drawn0 w w' := by
  unfold nat_Mul.f at h
  split at h
  next hs =>
    obtain ⟨h1, h2, h3, h4⟩ := hs
    have he := (two_of h1).2 h2
    obtain rfl := Option.some.inj h
    have hr : Kd.C (Kd.int .i64) w A0 2 [2, l0.getD 1 0] := by rw [← he, ← h1]; exact hr0
    rw [h1]
    refine (Mul_any _ h3 h4 hr).mono ?_
    rintro e w' ⟨rfl, rfl⟩
    exact ⟨rfl, Drawn0.refl _⟩
  next => cases h
end Go.Proofs.YtcioaghchnkepaaGreatDoor.PMeasureTables
