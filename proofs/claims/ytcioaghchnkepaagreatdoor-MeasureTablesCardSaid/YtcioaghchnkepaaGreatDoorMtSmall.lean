/- The numbers, brought to a span. -/
import Derived.Test.YtcioaghchnkepaaGreatDoorMoPlain
namespace Go.Proofs.YtcioaghchnkepaaGreatDoor.Pure
open Go.RowKit Go.Proofs.YtcioaghchnkepaaGreatDoor.PMeasureOrders Go.Proofs.YtcioaghchnkepaaGreatDoorW.PrintWords Go.Proofs.YtcioaghchnkepaaGreatDoorW.PrintLast

/-- the numbers, brought to a span -/
def smallL (l : List Int) : List Int := (l.take 60).map fun x => Int.tmod x 1000000

theorem smallL_len (l : List Int) : (smallL l).length = min 60 l.length := by simp [smallL]
theorem smallL_bd (l : List Int) : Bd 1000000 (smallL l) := by
  intro x hx
  obtain ⟨y, _, rfl⟩ := List.mem_map.1 hx
  have h1 := Int.tmod_lt_of_pos y (show (0 : Int) < 1000000 by decide)
  have h2 := Int.tmod_lt_of_pos (-y) (show (0 : Int) < 1000000 by decide)
  rw [Int.neg_tmod] at h2
  omega

theorem small_loop (l : List Int) (n : Nat) : ∀ (k : Nat) (out : List Int) (i : Nat), i + n = min 60 l.length → n < k → out.length + n ≤ 1000 →
    caltroplaw24_small.l0 k l out i = some (out ++ ((l.drop i).take n).map fun x => Int.tmod x 1000000) := by
  induction n with
  | zero =>
    intro k out i hi hk ho
    obtain ⟨m, rfl⟩ : ∃ m, k = m + 1 := ⟨k - 1, by omega⟩
    simp only [caltroplaw24_small.l0]
    by_cases h : i < l.length
    · have h1 : (i : Int) < (l.length : Int) := by omega
      have h2 : ¬ (i : Int) < 60 := by omega
      rw [if_pos h1, if_neg h2]; simp
    · have h1 : ¬ (i : Int) < (l.length : Int) := by omega
      rw [if_neg h1]; simp
  | succ n ih =>
    intro k out i hi hk ho
    obtain ⟨m, rfl⟩ : ∃ m, k = m + 1 := ⟨k - 1, by omega⟩
    simp only [caltroplaw24_small.l0]
    have hil : i < l.length := by omega
    have h1 : (i : Int) < (l.length : Int) := by omega
    have h2 : (i : Int) < 60 := by omega
    have h3 : (0 : Int) ≤ (i : Int) := by omega
    have h4 : out.length < 17592186044416 := by omega
    have e2 : wrap64 ((i : Int) + 1) = ((i + 1 : Nat) : Int) := by rw [wrap_id (by omega) (by omega)]; omega
    rw [if_pos h1, if_pos h2, if_pos h3, if_pos h4, e2, rd_nat, ih m _ (i + 1) (by omega) (by omega) (by simp; omega)]
    rw [List.drop_eq_getElem_cons hil, List.take_succ_cons, List.map_cons, List.append_assoc, List.singleton_append]
    simp [List.getD, hil]

theorem small_f {l : List Int} {k : Nat} (hk : 100 ≤ k) : caltroplaw24_small.f k l = some (smallL l) := by
  unfold caltroplaw24_small.f
  have := small_loop l (min 60 l.length) k [] 0 (by omega) (by omega) (by simp; omega)
  simp only [List.drop_zero, List.nil_append] at this
  have e : l.take (min 60 l.length) = l.take 60 := by
    by_cases h : 60 ≤ l.length
    · rw [Nat.min_eq_left h]
    · rw [Nat.min_eq_right (by omega), List.take_of_length_le (Nat.le_refl _), List.take_of_length_le (by omega)]
  rw [e] at this
  exact this
end Go.Proofs.YtcioaghchnkepaaGreatDoor.Pure
