/- MeasureOrders: the plain law. -/
import Derived.Test.YtcioaghchnkepaaGreatDoorMoC
namespace Go.Proofs.YtcioaghchnkepaaGreatDoor.Pure
open Go.RowKit Go.Proofs.YtcioaghchnkepaaGreatDoor.PMeasureOrders Go.Proofs.YtcioaghchnkepaaGreatDoorW.PrintWords Go.Proofs.YtcioaghchnkepaaGreatDoorW.PrintLast

/-- the numbers, brought to a span -/
def smallL (l : List Int) : List Int := (l.take 60).map fun x => Int.tmod x 1000000

theorem smallL_len (l : List Int) : (smallL l).length = min 60 l.length := by simp [smallL]
theorem smallL_bd (l : List Int) : Bd 1000000 (smallL l) := by
  intro x hx
  obtain ⟨y, _, rfl⟩ := List.mem_map.1 hx
  have h1 := Int.tmod_lt_of_pos y (show (0 : Int) < 1000000 by decide)
  have h2 := Int.tmod_lt_of_pos (-y) (show (0 : Int) < 1000000 by decide)
  rw [Int.neg_tmod] at h2
  omega

theorem small_loop (l : List Int) (n : Nat) : ∀ (k : Nat) (out : List Int) (i : Nat), i + n = min 60 l.length → n < k → out.length + n ≤ 1000 →
    caltroplaw24_small.l0 k l out i = some (out ++ ((l.drop i).take n).map fun x => Int.tmod x 1000000) := by
  induction n with
  | zero =>
    intro k out i hi hk ho
    obtain ⟨m, rfl⟩ : ∃ m, k = m + 1 := ⟨k - 1, by omega⟩
    simp only [caltroplaw24_small.l0]
    by_cases h : i < l.length
    · have h1 : (i : Int) < (l.length : Int) := by omega
      have h2 : ¬ (i : Int) < 60 := by omega
      rw [if_pos h1, if_neg h2]; simp
    · have h1 : ¬ (i : Int) < (l.length : Int) := by omega
      rw [if_neg h1]; simp
  | succ n ih =>
    intro k out i hi hk ho
    obtain ⟨m, rfl⟩ : ∃ m, k = m + 1 := ⟨k - 1, by omega⟩
    simp only [caltroplaw24_small.l0]
    have hil : i < l.length := by omega
    have h1 : (i : Int) < (l.length : Int) := by omega
    have h2 : (i : Int) < 60 := by omega
    have h3 : (0 : Int) ≤ (i : Int) := by omega
    have h4 : out.length < 17592186044416 := by omega
    have e2 : wrap64 ((i : Int) + 1) = ((i + 1 : Nat) : Int) := by rw [wrap_id (by omega) (by omega)]; omega
    rw [if_pos h1, if_pos h2, if_pos h3, if_pos h4, e2, rd_nat, ih m _ (i + 1) (by omega) (by omega) (by simp; omega)]
    rw [List.drop_eq_getElem_cons hil, List.take_succ_cons, List.map_cons, List.append_assoc, List.singleton_append]
    simp [List.getD, hil]

theorem small_f {l : List Int} {k : Nat} (hk : 100 ≤ k) : caltroplaw24_small.f k l = some (smallL l) := by
  unfold caltroplaw24_small.f
  have := small_loop l (min 60 l.length) k [] 0 (by omega) (by omega) (by simp; omega)
  simp only [List.drop_zero, List.nil_append] at this
  have e : l.take (min 60 l.length) = l.take 60 := by
    by_cases h : 60 ≤ l.length
    · rw [Nat.min_eq_left h]
    · rw [Nat.min_eq_right (by omega), List.take_of_length_le (Nat.le_refl _), List.take_of_length_le (by omega)]
  rw [e] at this
  exact this

theorem same_loop (a : List Int) (hl : a.length ≤ 1000) (n : Nat) : ∀ (k i : Nat), i + n = a.length → n < k → caltroplaw24_same.l0 k a a i = some true := by
  induction n with
  | zero =>
    intro k i hi hk
    obtain ⟨m, rfl⟩ : ∃ m, k = m + 1 := ⟨k - 1, by omega⟩
    simp only [caltroplaw24_same.l0]
    have h1 : ¬ (i : Int) < (a.length : Int) := by omega
    rw [if_neg h1]
  | succ n ih =>
    intro k i hi hk
    obtain ⟨m, rfl⟩ : ∃ m, k = m + 1 := ⟨k - 1, by omega⟩
    simp only [caltroplaw24_same.l0]
    have h1 : (i : Int) < (a.length : Int) := by omega
    have h3 : (0 : Int) ≤ (i : Int) := by omega
    have e2 : wrap64 ((i : Int) + 1) = ((i + 1 : Nat) : Int) := by rw [wrap_id (by omega) (by omega)]; omega
    rw [if_pos h1, if_pos h3, if_pos h1, if_pos trivial, e2]
    exact ih m (i + 1) (by omega) (by omega)

theorem same_f {a : List Int} (hl : a.length ≤ 1000) {k : Nat} (hk : 2000 ≤ k) : caltroplaw24_same.f k a a = some true := by
  unfold caltroplaw24_same.f
  rw [if_pos rfl]
  exact same_loop a hl a.length k 0 (by omega) (by omega)

/-- binomial numbers, the signs in turn -/
def coef : Nat → Nat → Int
  | 0, 0 => 1
  | 0, _ + 1 => 0
  | t + 1, 0 => coef t 0
  | t + 1, q + 1 => coef t (q + 1) - coef t q

theorem coef_step : ∀ t : Fin 10, ∀ q : Fin 10, q.val ≤ t.val → Int.tdiv (-(coef t.val q.val) * ((t.val : Int) - (q.val : Int))) ((q.val : Int) + 1) = coef t.val (q.val + 1) := by decide +kernel
theorem coef_bd : ∀ t : Fin 10, ∀ q : Fin 11, -200 ≤ coef t.val q.val ∧ coef t.val q.val ≤ 200 := by decide +kernel
theorem coef_zero (t : Nat) : coef t 0 = 1 := by
  induction t with
  | zero => rfl
  | succ t ih => simpa [coef] using ih
theorem coef_over : ∀ (t q : Nat), t < q → coef t q = 0
  | 0, q + 1, _ => rfl
  | t + 1, q + 1, h => by simp only [coef]; rw [coef_over t (q + 1) (by omega), coef_over t q (by omega)]; rfl

/-- the sum of so many terms, at a place -/
def part (l : List Int) (s t p : Nat) : Nat → Int
  | 0 => 0
  | q + 1 => part l s t p q + coef t q * l.getD (p - q * s) 0

theorem mul_bd {c x : Int} (hc : -200 ≤ c ∧ c ≤ 200) (hx : -1000000 ≤ x ∧ x ≤ 1000000) : -200000000 ≤ c * x ∧ c * x ≤ 200000000 := by
  have h1 : (200 - c) * (1000000 - x) ≥ 0 := Int.mul_nonneg (by omega) (by omega)
  have h2 : (200 - c) * (1000000 + x) ≥ 0 := Int.mul_nonneg (by omega) (by omega)
  have h3 : (200 + c) * (1000000 - x) ≥ 0 := Int.mul_nonneg (by omega) (by omega)
  have h4 : (200 + c) * (1000000 + x) ≥ 0 := Int.mul_nonneg (by omega) (by omega)
  rw [Int.sub_mul, Int.mul_sub, Int.mul_sub] at h1
  rw [Int.sub_mul, Int.mul_add, Int.mul_add] at h2
  rw [Int.add_mul, Int.mul_sub, Int.mul_sub] at h3
  rw [Int.add_mul, Int.mul_add, Int.mul_add] at h4
  omega

theorem part_bd {l : List Int} (h : Bd 1000000 l) (s p : Nat) {t : Nat} (ht : t ≤ 9) : ∀ q : Nat, q ≤ 11 → -(q : Int) * 200000000 ≤ part l s t p q ∧ part l s t p q ≤ (q : Int) * 200000000
  | 0, _ => by simp [part]
  | q + 1, hq => by
    have ih := part_bd h s p ht q (by omega)
    have h1 := getD_bd h (by decide) (p - q * s)
    have h2 := coef_bd ⟨t, by omega⟩ ⟨q, by omega⟩
    simp only at h2
    have h3 := mul_bd h2 h1
    simp only [part]
    generalize coef t q * l.getD (p - q * s) 0 = x at h3 ⊢
    omega

theorem e_mul {q s u : Nat} (hu : u = q * s) (h : u ≤ 1000) : wrap64 ((q : Int) * (s : Int)) = (u : Int) := by
  rw [← Int.natCast_mul, ← hu]
  exact wrap_id (by omega) (by omega)
theorem e_sub {p u : Nat} (h : u ≤ p) (hp : p ≤ 1000) : wrap64 ((p : Int) - (u : Int)) = ((p - u : Nat) : Int) := by rw [wrap_id (by omega) (by omega)]; omega
theorem e_succ {q : Nat} (h : q ≤ 1000) : wrap64 ((q : Int) + 1) = ((q + 1 : Nat) : Int) := by rw [wrap_id (by omega) (by omega)]; omega

theorem inner_nums {c c' x y t q : Int} (c1 : -200 ≤ c ∧ c ≤ 200) (c2 : -200 ≤ c' ∧ c' ≤ 200) (x1 : -1000000 ≤ x ∧ x ≤ 1000000) (y1 : -2200000000 ≤ y ∧ y ≤ 2200000000) (h0 : 0 ≤ q) (h1 : q ≤ t) (h2 : t ≤ 9)
    (st : Int.tdiv (-c * (t - q)) (q + 1) = c') : wrap64 (c * x) = c * x ∧ wrap64 (y + c * x) = y + c * x ∧ wrap64 (-c) = -c ∧ wrap64 (t - q) = t - q ∧ wrap64 (-c * (t - q)) = -c * (t - q) ∧ wrap64 (Int.tdiv (-c * (t - q)) (q + 1)) = c' := by
  have m1 := mul_bd c1 x1
  have m2 : -200000000 ≤ -c * (t - q) ∧ -c * (t - q) ≤ 200000000 := mul_bd (by omega) (by omega)
  rw [st]
  clear st
  generalize c * x = v at *
  generalize -c * (t - q) = u at *
  exact ⟨wrap_id (by omega) (by omega), wrap_id (by omega) (by omega), wrap_id (by omega) (by omega), wrap_id (by omega) (by omega), wrap_id (by omega) (by omega), wrap_id (by omega) (by omega)⟩

theorem inner_facts {l : List Int} (h : Bd 1000000 l) (s p u : Nat) {t q : Nat} (ht : t ≤ 9) (hq : q ≤ t) :
    wrap64 (coef t q * l.getD (p - u) 0) = coef t q * l.getD (p - u) 0 ∧ wrap64 (part l s t p q + coef t q * l.getD (p - u) 0) = part l s t p q + coef t q * l.getD (p - u) 0 ∧ wrap64 (-(coef t q)) = -(coef t q) ∧
      wrap64 ((t : Int) - (q : Int)) = (t : Int) - (q : Int) ∧ wrap64 (-(coef t q) * ((t : Int) - (q : Int))) = -(coef t q) * ((t : Int) - (q : Int)) ∧ wrap64 (Int.tdiv (-(coef t q) * ((t : Int) - (q : Int))) ((q + 1 : Nat) : Int)) = coef t (q + 1) := by
  have c1 := coef_bd ⟨t, by omega⟩ ⟨q, by omega⟩
  have c2 := coef_bd ⟨t, by omega⟩ ⟨q + 1, by omega⟩
  have st := coef_step ⟨t, by omega⟩ ⟨q, by omega⟩ (by show q ≤ t; omega)
  have x1 := getD_bd h (by decide) (p - u)
  have b1 := part_bd h s p ht q (by omega)
  simp only at c1 c2 st
  have e : ((q + 1 : Nat) : Int) = (q : Int) + 1 := by omega
  rw [e]
  generalize part l s t p q = y at *
  generalize coef t q = c at *
  generalize coef t (q + 1) = c' at *
  generalize l.getD (p - u) 0 = x at *
  exact inner_nums c1 c2 x1 (by omega) (by omega) (by omega) (by omega) st

/-- the reference's inner loop -/
theorem ref_inner {l : List Int} (hl : l.length ≤ 60) (h : Bd 1000000 l) {s t : Nat} (_hs : s ≤ 100) (ht : t ≤ 9) {p : Nat} (hp : t * s ≤ p) (hpl : p < l.length) (out : List Int) (ho : out.length ≤ 1000) (n : Nat) :
    ∀ (k q : Nat), q + n = t + 1 → n < k → caltroplaw24_differences.l1 k l s t out p (part l s t p q) (coef t q) q = caltroplaw24_differences.l0 (k - n - 1) l s t (out ++ [part l s t p (t + 1)]) ((p + 1 : Nat) : Int) := by
  induction n with
  | zero =>
    intro k q hq hk
    obtain ⟨m, rfl⟩ : ∃ m, k = m + 1 := ⟨k - 1, by omega⟩
    simp only [caltroplaw24_differences.l1]
    have h1 : ¬ (q : Int) ≤ (t : Int) := by omega
    have h4 : out.length < 17592186044416 := by omega
    have e2 : wrap64 ((p : Int) + 1) = ((p + 1 : Nat) : Int) := by rw [wrap_id (by omega) (by omega)]; omega
    rw [if_neg h1, if_pos h4, e2, show q = t + 1 by omega]
    rfl
  | succ n ih =>
    intro k q hq hk
    obtain ⟨m, rfl⟩ : ∃ m, k = m + 1 := ⟨k - 1, by omega⟩
    have hqs : q * s ≤ t * s := Nat.mul_le_mul_right s (by clear ih; omega)
    have hup' : q * s ≤ p := Nat.le_trans hqs hp
    have hqt : q ≤ t := by clear ih; omega
    have hq2 : q + 1 + n = t + 1 := by clear ih; omega
    have hk2 : n < m := by clear ih; omega
    have hp1 : p ≤ 1000 := by clear ih; omega
    have hk3 : m - n - 1 = m + 1 - (n + 1) - 1 := by clear ih; omega
    obtain ⟨u, hu⟩ : ∃ u, u = q * s := ⟨_, rfl⟩
    have hpart : part l s t p (q + 1) = part l s t p q + coef t q * l.getD (p - u) 0 := by rw [hu]; rfl
    rw [← hu] at hup'
    have e1 : wrap64 ((q : Int) * (s : Int)) = (u : Int) := e_mul hu (Nat.le_trans hup' hp1)
    clear hu hqs hp
    have h2 : (0 : Int) ≤ ((p - u : Nat) : Int) := Int.natCast_nonneg _
    have h3 : ((p - u : Nat) : Int) < (l.length : Int) := by clear ih hpart e1; omega
    have h1 : (q : Int) ≤ (t : Int) := by clear ih hpart e1; omega
    have h5 : ¬ ((q + 1 : Nat) : Int) = 0 := by clear ih hpart e1; omega
    have e2 : wrap64 ((p : Int) - (u : Int)) = ((p - u : Nat) : Int) := e_sub hup' hp1
    have e3 : wrap64 ((q : Int) + 1) = ((q + 1 : Nat) : Int) := e_succ (by clear ih hpart e1 e2; omega)
    obtain ⟨e4, e5, e6, e7, e8, e9⟩ := inner_facts h s p u ht hqt
    simp only [caltroplaw24_differences.l1]
    rw [e1, e2, e3, rd_nat, e4, e5, ← hpart, e6, e7, e8, e9, if_pos h1, if_pos h2, if_pos h3, if_neg h5, ih m (q + 1) hq2 hk2, hk3]

theorem ref_outer {l : List Int} (hl : l.length ≤ 60) (h : Bd 1000000 l) {s t : Nat} (hs : s ≤ 100) (ht : t ≤ 9) (n : Nat) :
    ∀ (k p : Nat) (out : List Int), p + n = l.length → t * s ≤ p → 20 * n < k → out.length + n ≤ 500 →
      caltroplaw24_differences.l0 k l s t out p = some (out ++ (List.range n).map fun j => part l s t (p + j) (t + 1)) := by
  induction n with
  | zero =>
    intro k p out hp _ hk _
    obtain ⟨m, rfl⟩ : ∃ m, k = m + 1 := ⟨k - 1, by omega⟩
    simp only [caltroplaw24_differences.l0]
    have h1 : ¬ (p : Int) < (l.length : Int) := by omega
    rw [if_neg h1]; simp
  | succ n ih =>
    intro k p out hp htp hk ho
    obtain ⟨m, rfl⟩ : ∃ m, k = m + 1 := ⟨k - 1, by omega⟩
    simp only [caltroplaw24_differences.l0]
    have h1 : (p : Int) < (l.length : Int) := by omega
    rw [if_pos h1]
    have := ref_inner hl h hs ht htp (by omega) out (by omega) (t + 1) m 0 (by omega) (by omega)
    rw [coef_zero] at this
    have e : caltroplaw24_differences.l1 m l s t out p 0 1 0 = caltroplaw24_differences.l1 m l s t out p (part l s t p 0) 1 (0 : Nat) := rfl
    rw [e, this, ih (m - (t + 1) - 1) (p + 1) _ (by omega) (by omega) (by omega) (by simp; omega)]
    rw [List.range_succ_eq_map, List.map_cons, List.append_assoc, List.singleton_append, List.map_map]
    congr 3
    apply List.map_congr_left
    intro j _
    simp only [Function.comp, Nat.succ_eq_add_one]
    rw [show p + 1 + j = p + (j + 1) by omega]

/-- the reference's differences -/
def refd (l : List Int) (s t : Nat) : List Int := (List.range (l.length - s * t)).map fun j => part l s t (j + s * t) (t + 1)

theorem ref_f {l : List Int} (hl : l.length ≤ 60) (h : Bd 1000000 l) {s t : Nat} (hs : s ≤ 100) (ht : t ≤ 9) {k : Nat} (hk : 2000 ≤ k) : caltroplaw24_differences.f k l s t = some (refd l s t) := by
  have hst : s * t ≤ 900 := by have := Nat.mul_le_mul hs ht; omega
  have e : wrap64 ((s : Int) * (t : Int)) = ((s * t : Nat) : Int) := by rw [← Int.natCast_mul]; exact wrap_id (by omega) (by omega)
  unfold caltroplaw24_differences.f
  rw [e]
  by_cases hc : s * t ≤ l.length
  · rw [ref_outer hl h hs ht (l.length - s * t) k (s * t) [] (by omega) (by rw [Nat.mul_comm]; omega) (by omega) (by simp; omega)]
    simp only [List.nil_append, refd]
    congr 1
    apply List.map_congr_left
    intro j _
    rw [Nat.add_comm]
  · obtain ⟨m, rfl⟩ : ∃ m, k = m + 1 := ⟨k - 1, by omega⟩
    simp only [caltroplaw24_differences.l0]
    have h1 : ¬ ((s * t : Nat) : Int) < (l.length : Int) := by omega
    rw [if_neg h1]
    simp [refd, show l.length - s * t = 0 by omega]

theorem part_succ (l : List Int) (s t p : Nat) : ∀ q, part l s (t + 1) p (q + 1) = part l s t p (q + 1) - part l s t (p - s) q
  | 0 => by simp [part, coef]
  | q + 1 => by
    have ih := part_succ l s t p q
    rw [part, ih]
    simp only [part, coef]
    rw [show p - s - q * s = p - (q + 1) * s by rw [Nat.sub_sub]; congr 1; rw [Nat.succ_mul]; omega, Int.sub_mul]
    omega

theorem refd_succ (l : List Int) (s t : Nat) : refd l s (t + 1) = sub (refd l s t) s := by
  have hlen : (refd l s t).length = l.length - s * t := by simp [refd]
  have hm : s * (t + 1) = s * t + s := Nat.mul_succ s t
  have hat : ∀ j, j < l.length - s * t → (refd l s t).getD j 0 = part l s t (j + s * t) (t + 1) := by
    intro j hj
    simp [refd, List.getD, hj]
  unfold sub
  rw [hlen]
  conv => lhs; unfold refd
  rw [show l.length - s * (t + 1) = l.length - s * t - s by omega]
  apply List.map_congr_left
  intro j hj
  have hj : j < l.length - s * t - s := List.mem_range.1 hj
  rw [hat (j + s) (by omega), hat j (by omega), part_succ, part, coef_over t (t + 1) (by omega)]
  rw [show j + s * (t + 1) - s = j + s * t by omega, show j + s * (t + 1) = j + s + s * t by omega]
  omega

theorem refd_zero (l : List Int) (s : Nat) : refd l s 0 = l := by
  unfold refd
  apply List.ext_getElem
  · simp
  · intro i h1 h2
    simp [part, coef, List.getD, h2]

theorem sub_refd (l : List Int) (s : Nat) : sub l s = refd l s 1 := by rw [refd_succ, refd_zero]

/-- the law's scan of one list of differences -/
def scan (y : List Int) (m : Nat) : Nat → Nat → Bool → Bool → Bool × Bool
  | 0, _, z, o => (z, o)
  | n + 1, i, z, o => if m ≤ i then scan y m n (i + 1) (z && (y.getD i 0 == 0)) true else scan y m n (i + 1) z o

theorem scan_eq (y : List Int) (m : Nat) : ∀ (n i : Nat) (z o : Bool), i + n = y.length → scan y m n i z o = (z && (y.drop (max i m)).all (· == 0), o || decide (max i m < y.length))
  | 0, i, z, o, h => by
    simp only [scan]
    rw [List.drop_eq_nil_of_le (by omega)]
    have : ¬ max i m < y.length := by omega
    simp [this]
  | n + 1, i, z, o, h => by
    simp only [scan]
    by_cases hm : m ≤ i
    · rw [if_pos hm, scan_eq y m n (i + 1) _ _ (by omega), Nat.max_eq_left hm, Nat.max_eq_left (by omega : m ≤ i + 1)]
      have hi : i < y.length := by omega
      have e : (y.drop i).all (· == 0) = (y[i] == 0 && (y.drop (i + 1)).all (· == 0)) := by
        rw [List.drop_eq_getElem_cons hi]; rfl
      have e' : y.getD i 0 = y[i] := by simp [List.getD, hi]
      rw [e, e', Bool.and_assoc]
      simp [hi]
    · rw [if_neg hm, scan_eq y m n (i + 1) _ _ (by omega), show max (i + 1) m = max i m by omega]

theorem inner_scan {x y : List Int} (hx : x.length ≤ 60) (hy : y.length ≤ 60) {s d first : Nat} (hf : first ≤ 1000) (d0 : Int) (ok : Bool) (n : Nat) :
    ∀ (k i : Nat) (z o : Bool), i + n = y.length → n < k →
      caltroplaw24_MeasureOrders.l1 k s x d0 ok d y first z o i =
        (if (scan y (x.length / 2 - first) n i z o).2 = true then (if (scan y (x.length / 2 - first) n i z o).1 = true then (if d0 = d then (if ok = true then some true else some false) else some false)
          else caltroplaw24_MeasureOrders.l0 (k - n - 1) s x d0 ok (wrap64 (d + 1))) else caltroplaw24_MeasureOrders.l0 (k - n - 1) s x d0 ok (wrap64 (d + 1))) := by
  induction n with
  | zero =>
    intro k i z o hi hk
    obtain ⟨m, rfl⟩ : ∃ m, k = m + 1 := ⟨k - 1, by omega⟩
    simp only [caltroplaw24_MeasureOrders.l1]
    have h1 : ¬ (i : Int) < (y.length : Int) := by omega
    rw [if_neg h1]
    rfl
  | succ n ih =>
    intro k i z o hi hk
    obtain ⟨m, rfl⟩ : ∃ m, k = m + 1 := ⟨k - 1, by omega⟩
    simp only [caltroplaw24_MeasureOrders.l1]
    have h1 : (i : Int) < (y.length : Int) := by omega
    have h3 : (0 : Int) ≤ (i : Int) := by omega
    have e1 : wrap64 ((first : Int) + (i : Int)) = ((first + i : Nat) : Int) := by rw [wrap_id (by omega) (by omega)]; omega
    have e2 : wrap64 ((x.length : Int) / 2) = ((x.length / 2 : Nat) : Int) := by rw [wrap_id (by omega) (by omega)]; omega
    have e3 : wrap64 ((i : Int) + 1) = ((i + 1 : Nat) : Int) := by rw [wrap_id (by omega) (by omega)]; omega
    rw [if_pos h1, e1, e2, e3, rd_nat]
    by_cases hm : x.length / 2 - first ≤ i
    · have h4 : ((first + i : Nat) : Int) ≥ ((x.length / 2 : Nat) : Int) := by omega
      have hsc : scan y (x.length / 2 - first) (n + 1) i z o = scan y (x.length / 2 - first) n (i + 1) (z && (y.getD i 0 == 0)) true := by simp only [scan]; rw [if_pos hm]
      rw [if_pos h4]
      simp only [hsc]
      cases z with
      | true =>
        rw [if_pos rfl, if_pos h3, ih m (i + 1) _ _ (by omega) (by omega), Bool.true_and]
        rw [show m + 1 - (n + 1) - 1 = m - n - 1 by omega]
      | false =>
        rw [if_neg (by decide), ih m (i + 1) _ _ (by omega) (by omega), Bool.false_and]
        rw [show m + 1 - (n + 1) - 1 = m - n - 1 by omega]
    · have h4 : ¬ ((first + i : Nat) : Int) ≥ ((x.length / 2 : Nat) : Int) := by omega
      have hsc : scan y (x.length / 2 - first) (n + 1) i z o = scan y (x.length / 2 - first) n (i + 1) z o := by simp only [scan]; rw [if_neg hm]
      simp only [hsc]
      rw [if_neg h4, ih m (i + 1) _ _ (by omega) (by omega)]
      rw [show m + 1 - (n + 1) - 1 = m - n - 1 by omega]

set_option maxRecDepth 100000 in
theorem outer_law {x : List Int} (hx : x.length ≤ 60) (hB : Bd 1000000 x) {s : Nat} (hs : s ≤ 100) (n : Nat) :
    ∀ (k d : Nat) (d0 : Int) (ok : Bool), d + n = 9 → 4000 + 4000 * n ≤ k → orderFrom x s n (refd x s d) (d * min s x.length) d = (d0, ok) → caltroplaw24_MeasureOrders.l0 k s x d0 ok d = some true := by
  induction n with
  | zero =>
    intro k d d0 ok hd hk ho
    obtain ⟨m, rfl⟩ : ∃ m, k = m + 1 := ⟨k - 1, by omega⟩
    simp only [orderFrom, Prod.mk.injEq] at ho
    obtain ⟨rfl, rfl⟩ := ho
    simp only [caltroplaw24_MeasureOrders.l0]
    have h2 : ¬ (d : Int) ≤ 8 := by omega
    rw [if_neg h2, if_pos trivial, if_neg (by decide)]
    rfl
  | succ n ih =>
    intro k d d0 ok hd hk ho
    obtain ⟨m, rfl⟩ : ∃ m, k = m + 1 := ⟨k - 1, by omega⟩
    simp only [caltroplaw24_MeasureOrders.l0]
    have h2 : (d : Int) ≤ 8 := by omega
    have e3 : wrap64 ((d : Int) + 1) = ((d + 1 : Nat) : Int) := by rw [wrap_id (by omega) (by omega)]; omega
    have hst : s * (d + 1) ≤ 900 := by have := Nat.mul_le_mul hs (show d + 1 ≤ 9 by omega); omega
    have e4 : wrap64 ((s : Int) * ((d + 1 : Nat) : Int)) = ((s * (d + 1) : Nat) : Int) := by rw [← Int.natCast_mul]; exact wrap_id (by omega) (by omega)
    rw [if_pos h2, e3, ref_f (t := d + 1) (k := m) hx hB hs (by omega) (by omega), Option.bind_some, e4]
    have hyl : (refd x s (d + 1)).length = x.length - s * (d + 1) := by simp [refd]
    have hsc := inner_scan (s := s) (d := d) hx (y := refd x s (d + 1)) (by omega) (first := s * (d + 1)) (by omega) d0 ok (refd x s (d + 1)).length m 0 true false (by omega) (by omega)
    have e0 : ((0 : Nat) : Int) = 0 := rfl
    rw [e0] at hsc
    rw [hsc, scan_eq _ _ _ _ _ _ (by omega), e3]
    simp only [orderFrom] at ho
    rw [← refd_succ] at ho
    have hdrop : (refd x s (d + 1)).drop (x.length / 2 - (d * min s x.length + min s x.length)) = (refd x s (d + 1)).drop (max 0 (x.length / 2 - s * (d + 1))) := by
      by_cases hc : s ≤ x.length
      · rw [Nat.min_eq_left hc, show d * s + s = s * (d + 1) by rw [Nat.mul_succ, Nat.mul_comm], Nat.max_eq_right (Nat.zero_le _)]
      · have : x.length - s * (d + 1) = 0 := by
          have := Nat.le_mul_of_pos_right s (show 0 < d + 1 by omega)
          omega
        rw [List.drop_eq_nil_of_le (by omega), List.drop_eq_nil_of_le (by omega)]
    rw [hdrop] at ho
    have hgone : d * min s x.length + min s x.length = (d + 1) * min s x.length := (Nat.succ_mul _ _).symm
    rw [hgone] at ho
    generalize hT : (refd x s (d + 1)).drop (max 0 (x.length / 2 - s * (d + 1))) = T at ho ⊢
    have hne : decide (max 0 (x.length / 2 - s * (d + 1)) < (refd x s (d + 1)).length) = true ↔ T ≠ [] := by
      rw [decide_eq_true_iff, ← hT, ne_eq, List.drop_eq_nil_iff]
      omega
    have hall : T.all (· == 0) = true ↔ ∀ x ∈ T, x = 0 := by simp [List.all_eq_true]
    rw [Bool.false_or, Bool.true_and]
    by_cases hc : T ≠ [] ∧ ∀ x ∈ T, x = 0
    · rw [if_pos hc] at ho
      simp only [Prod.mk.injEq] at ho
      obtain ⟨rfl, rfl⟩ := ho
      rw [if_pos (hne.2 hc.1), if_pos (hall.2 hc.2), if_pos rfl, if_pos rfl]
    · rw [if_neg hc] at ho
      have hnext := ih (m - (refd x s (d + 1)).length - 1) (d + 1) d0 ok (by omega) (by omega) ho
      by_cases hn : T ≠ []
      · rw [if_pos (hne.2 hn), if_neg (fun h => hc ⟨hn, hall.1 h⟩)]
        exact hnext
      · rw [if_neg (fun h => hn (hne.1 h))]
        exact hnext

theorem j0_law {x : List Int} (hx : x.length ≤ 60) (hB : Bd 1000000 x) {a : Int} (ha : a ≤ 100) : caltroplaw24_MeasureOrders.j0 100000 a x = some true := by
  have hS : Small x a := ⟨hx, by omega, hB⟩
  rw [show (100000 : Nat) = 99999 + 1 from rfl]
  simp only [caltroplaw24_MeasureOrders.j0]
  by_cases h1 : a < 1
  · have e1 : measure_Differences.f 99999 x a = some [] := by unfold measure_Differences.f; rw [if_pos h1]
    have e2 : measure_Order.f 99999 x a = some (0, false) := by unfold measure_Order.f; rw [if_pos hS, if_pos h1]
    rw [e1, e2]
    simp only [Option.bind_some]
    rw [if_pos h1]
    rfl
  · obtain ⟨s, rfl⟩ : ∃ s : Nat, a = s := ⟨a.toNat, by omega⟩
    have e1 := diff_f (l := x) (s := s) (k := 99999) (by omega) (by omega) hx (Bd.mono hB (by decide)) (by omega)
    have e2 : measure_Order.f 99999 x s = some (orderFrom x s 9 x 0 0) := by unfold measure_Order.f; rw [if_pos hS, if_neg h1, Int.toNat_natCast]
    have e3 := ref_f hx hB (s := s) (t := 1) (by omega) (by omega) (k := 99999) (by omega)
    have e3 : caltroplaw24_differences.f 99999 x s 1 = some (refd x s 1) := e3
    rw [e1, e2, Option.bind_some, Option.bind_some, if_neg h1, e3, Option.bind_some, sub_refd, same_f (by simp [refd]; omega) (by omega), Option.bind_some, if_pos rfl]
    have := outer_law hx hB (s := s) (by omega) 9 99999 0 (orderFrom x s 9 x 0 0).1 (orderFrom x s 9 x 0 0).2 (by omega) (by omega) (by rw [refd_zero, Nat.zero_mul])
    exact this

theorem MeasureOrders : caltroplaw24_MeasureOrders.Pure := by
  intro l0 a1 _ _ _ _
  refine ⟨100000, ?_⟩
  unfold caltroplaw24_MeasureOrders.f
  rw [small_f (by omega), Option.bind_some]
  have hx : (smallL l0).length ≤ 60 := by rw [smallL_len]; omega
  by_cases h : a1 > 100
  · rw [if_pos h]; exact j0_law hx (smallL_bd l0) (by omega)
  · rw [if_neg h]; exact j0_law hx (smallL_bd l0) (by omega)
end Go.Proofs.YtcioaghchnkepaaGreatDoor.Pure
