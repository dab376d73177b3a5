/- Differences of a series, and its order: plain. -/
import Derived.Test.YtcioaghchnkepaaGreatDoorMoA
namespace Go.Proofs.YtcioaghchnkepaaGreatDoor.PMeasureOrders
open Go.RowKit Go.Proofs.YtcioaghchnkepaaGreatDoorW.PrintWords Go.Proofs.YtcioaghchnkepaaGreatDoorW.PrintLast Go.Proofs.YtcioaghchnkepaaGreatDoorW.PrintMore

def Bd (b : Int) (l : List Int) : Prop := ∀ x ∈ l, -b ≤ x ∧ x ≤ b

theorem wrap_id {x : Int} (h : -9223372036854775808 ≤ x) (h' : x ≤ 9223372036854775807) : wrap64 x = x := by unfold wrap64; omega
theorem rd_nat (l : List Int) (i : Nat) : rd l (i : Int) = l.getD i 0 := by simp [rd]
theorem getD_bd {b : Int} {l : List Int} (h : Bd b l) (hb : 0 ≤ b) (i : Nat) : -b ≤ l.getD i 0 ∧ l.getD i 0 ≤ b := by
  by_cases hi : i < l.length
  · have : l.getD i 0 = l[i] := by simp [List.getD, hi]
    rw [this]; exact h _ (List.getElem_mem hi)
  · have : l.getD i 0 = 0 := by simp [List.getD, List.getElem?_eq_none (Nat.le_of_not_lt hi)]
    rw [this]; omega

/-- a series' differences -/
def sub (l : List Int) (s : Nat) : List Int := (List.range (l.length - s)).map fun j => l.getD (j + s) 0 - l.getD j 0
theorem sub_len (l : List Int) (s : Nat) : (sub l s).length = l.length - s := by simp [sub]
theorem sub_at (l : List Int) (s j : Nat) (h : j < l.length - s) : (sub l s).getD j 0 = l.getD (j + s) 0 - l.getD j 0 := by
  simp [sub, List.getD, h]
theorem sub_bd {b : Int} {l : List Int} (h : Bd b l) (hb : 0 ≤ b) (s : Nat) : Bd (b + b) (sub l s) := by
  intro x hx
  obtain ⟨j, _, rfl⟩ := List.mem_map.1 hx
  have h1 := getD_bd h hb (j + s)
  have h2 := getD_bd h hb j
  omega

theorem diff_step (l : List Int) (s : Nat) (hs' : s ≤ 1000) (hl : l.length ≤ 60) (hB : Bd 1099511627776 l) (m : Nat) (out : List Int) (i : Nat) (hi : i < l.length) (hsi : s ≤ i) (ho : out.length ≤ 1000) :
    measure_Differences.l0 (m + 1) l s out i = measure_Differences.l0 m l s (out ++ [l.getD i 0 - l.getD (i - s) 0]) ((i + 1 : Nat) : Int) := by
  have e1 : wrap64 ((i : Int) - (s : Int)) = ((i - s : Nat) : Int) := by rw [wrap_id (by omega) (by omega)]; omega
  have b1 := getD_bd hB (by decide) i
  have b2 := getD_bd hB (by decide) (i - s)
  have e2 : wrap64 ((i : Int) + 1) = ((i + 1 : Nat) : Int) := by rw [wrap_id (by omega) (by omega)]; omega
  have e3 : wrap64 (l.getD i 0 - l.getD (i - s) 0) = l.getD i 0 - l.getD (i - s) 0 := wrap_id (by omega) (by omega)
  simp only [measure_Differences.l0]
  have h1 : (i : Int) < (l.length : Int) := by omega
  have h2 : (0 : Int) ≤ (i : Int) := by omega
  have h3 : (0 : Int) ≤ ((i - s : Nat) : Int) := by omega
  have h4 : ((i - s : Nat) : Int) < (l.length : Int) := by omega
  have h5 : out.length < 17592186044416 := by omega
  rw [e1, rd_nat, rd_nat, e2, e3, if_pos h1, if_pos h2, if_pos h3, if_pos h4, if_pos h5]

theorem diff_loop (l : List Int) (s : Nat) (hs' : s ≤ 1000) (hl : l.length ≤ 60) (hB : Bd 1099511627776 l) (n : Nat) : ∀ (k : Nat) (out : List Int) (i : Nat), i + n = l.length → s ≤ i → n < k → out.length + n ≤ 1000 →
    measure_Differences.l0 k l s out i = some (out ++ (List.range n).map fun j => l.getD (i + j) 0 - l.getD (i + j - s) 0) := by
  induction n with
  | zero =>
    intro k out i hi hsi hk ho
    obtain ⟨m, rfl⟩ : ∃ m, k = m + 1 := ⟨k - 1, by omega⟩
    simp only [measure_Differences.l0]
    have h1 : ¬ (i : Int) < (l.length : Int) := by omega
    rw [if_neg h1]
    simp
  | succ n ih =>
    intro k out i hi hsi hk ho
    obtain ⟨m, rfl⟩ : ∃ m, k = m + 1 := ⟨k - 1, by omega⟩
    rw [diff_step l s hs' hl hB m out i (by omega) hsi (by omega), ih m _ (i + 1) (by omega) (by omega) (by omega) (by simp; omega)]
    rw [List.range_succ_eq_map, List.map_cons, List.append_assoc, List.singleton_append, List.map_map]
    congr 3
    apply List.map_congr_left
    intro j _
    simp only [Function.comp, Nat.succ_eq_add_one]
    rw [show i + 1 + j = i + (j + 1) by omega]

theorem diff_f {l : List Int} {s : Nat} (h1 : 1 ≤ s) (hs' : s ≤ 1000) (hl : l.length ≤ 60) (hB : Bd 1099511627776 l) {k : Nat} (hk : 100 ≤ k) : measure_Differences.f k l s = some (sub l s) := by
  unfold measure_Differences.f
  rw [if_neg (by omega)]
  by_cases h : s ≤ l.length
  · rw [diff_loop l s hs' hl hB (l.length - s) k [] s (by omega) (Nat.le_refl _) (by omega) (by simp; omega)]
    simp only [List.nil_append, sub]
    congr 1
    apply List.map_congr_left
    intro j _
    rw [Nat.add_comm s j, Nat.add_sub_cancel]
  · obtain ⟨m, rfl⟩ : ∃ m, k = m + 1 := ⟨k - 1, by omega⟩
    simp only [measure_Differences.l0]
    rw [if_neg (by omega)]
    simp [sub, show l.length - s = 0 by omega]

/-- the order, from so many differences on -/
def orderFrom (l : List Int) (s : Nat) : Nat → List Int → Nat → Nat → Int × Bool
  | 0, _, _, _ => (0, false)
  | n + 1, now, gone, d =>
    if ((sub now s).drop (l.length / 2 - (gone + min s l.length)) ≠ []) ∧ ∀ x ∈ (sub now s).drop (l.length / 2 - (gone + min s l.length)), x = 0 then ((d : Int), true)
    else orderFrom l s n (sub now s) (gone + min s l.length) (d + 1)

/-- where measure.Order is asked: a short series of small numbers -/
def Small (l : List Int) (a1 : Int) : Prop := l.length ≤ 60 ∧ a1 ≤ 1000 ∧ Bd 1000000 l
instance (l : List Int) (a1 : Int) : Decidable (Small l a1) := by unfold Small Bd; infer_instance
def measure_Order.f (_k : Nat) (l0 : List Int) (a1 : Int) : Option (Int × Bool) :=
  if Small l0 a1 then (if a1 < 1 then some (0, false) else some (orderFrom l0 a1.toNat 9 l0 0 0)) else none
theorem measure_Order.mono : ∀ a0 a1 k, LeO (measure_Order.f k a0 a1) (measure_Order.f (k + 1) a0 a1) := fun _ _ _ => LeO.refl _
end Go.Proofs.YtcioaghchnkepaaGreatDoor.PMeasureOrders
