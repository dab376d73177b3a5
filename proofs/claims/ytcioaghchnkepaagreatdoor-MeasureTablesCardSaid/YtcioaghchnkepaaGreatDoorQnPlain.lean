/- Numbers told in tens, and back: plain laws, no program. -/
import Derived.Lib.ItoaNum
import Derived.Lib.AtoiAllCases
namespace Go.Qn
open Go.Lib

theorem parse_append : ∀ (l r : List UInt8) (acc : Nat), parseUint10 acc (l ++ r) = match parseUint10 acc l with | .ok v => parseUint10 v r | e => e
  | [], r, acc => by simp [parseUint10]
  | c :: l, r, acc => by
    simp only [List.cons_append, parseUint10]
    split
    · split
      · rfl
      · split
        · rfl
        · exact parse_append l r _
    · rfl

theorem ofNat_digit {d : Nat} (h : d < 10) : (UInt8.ofNat (48 + d)).toNat = 48 + d := by
  rw [UInt8.toNat_ofNat']; omega

theorem parse_dec (u : Nat) : u ≤ 9223372036854775808 → parseUint10 0 (decDigits u) = .ok u := by
  induction u using Nat.strongRecOn with
  | _ u ih =>
    intro hu
    rw [decDigits]
    split
    · rename_i h
      simp only [parseUint10, ofNat_digit h]
      rw [if_pos (by omega), if_neg (by omega), if_neg (by omega)]
      congr 1; omega
    · rename_i h
      rw [parse_append, ih (u / 10) (by omega) (by omega)]
      have hd : u % 10 < 10 := Nat.mod_lt _ (by decide)
      simp only [parseUint10, ofNat_digit hd]
      rw [if_pos (by omega), if_neg (by omega), if_neg (by omega)]
      congr 1; omega

theorem dec_ne (u : Nat) : decDigits u ≠ [] := by
  rw [decDigits]; split <;> simp

theorem dec_all (u : Nat) : ∀ c ∈ decDigits u, 48 ≤ c.toNat ∧ c.toNat ≤ 57 := by
  induction u using Nat.strongRecOn with
  | _ u ih =>
    rw [decDigits]
    split
    · rename_i h
      intro c hc
      rw [List.mem_singleton.1 hc, ofNat_digit h]; omega
    · rename_i h
      intro c hc
      rcases List.mem_append.1 hc with hc | hc
      · exact ih (u / 10) (by omega) c hc
      · rw [List.mem_singleton.1 hc, ofNat_digit (Nat.mod_lt _ (by decide))]; omega

theorem mag_dec {u : Nat} (h : u ≤ 9223372036854775808) : parseMag (decDigits u) = .ok u := by
  unfold parseMag
  rw [if_neg (dec_ne u), parse_dec u h]

/-- told, and back -/
theorem atoi_itoa {n : Int} (h0 : -9223372036854775808 ≤ n) (h1 : n ≤ 9223372036854775807) : atoiAll (itoa n) = .ok n := by
  unfold itoa
  split
  · rename_i h
    rw [atoiAll_minus, mag_dec (by omega)]
    simp only [signed]
    rw [if_neg (by omega)]
    congr 1; omega
  · rename_i h
    match hd : decDigits n.toNat, dec_ne n.toNat with
    | c :: r, _ =>
      have hc := dec_all n.toNat c (by rw [hd]; simp)
      rw [atoiAll_plain c r (by omega) (by omega), ← hd, mag_dec (by omega)]
      simp only [signless]
      rw [if_neg (by omega)]
      congr 1; omega

/-- a text of digits, the first one not 0, tells its number -/
theorem digits_parse : ∀ (k : Nat) (l : List UInt8), l.length = k → k < 19 → (∀ c ∈ l, 48 ≤ c.toNat ∧ c.toNat ≤ 57) → (∃ c r, l = c :: r ∧ 49 ≤ c.toNat) → ∃ u, parseUint10 0 l = .ok u ∧ 1 ≤ u ∧ u < 10 ^ k ∧ decDigits u = l
  | 0, l, hl, _, _, ⟨c, r, e, _⟩ => by subst e; simp at hl
  | k + 1, l, hl, hk, hd, ⟨c, r, e, hc⟩ => by
    have hne : l ≠ [] := by subst e; simp
    have hsp : l = l.dropLast ++ [l.getLast hne] := (List.dropLast_concat_getLast hne).symm
    have hlast := hd (l.getLast hne) (List.getLast_mem hne)
    have hlen : l.dropLast.length = k := by simp [hl]
    generalize hq : l.getLast hne = q at hsp hlast
    generalize hp : l.dropLast = p at hsp hlen
    have hq10 : UInt8.ofNat (48 + (q.toNat - 48)) = q := by
      apply UInt8.toNat_inj.1
      rw [UInt8.toNat_ofNat']; have := q.toNat_lt; omega
    cases p with
    | nil =>
      simp only [List.length_nil] at hlen
      subst hlen
      simp only [List.nil_append] at hsp
      have : c = q := by rw [e] at hsp; exact (List.cons.inj hsp).1
      subst this
      refine ⟨c.toNat - 48, ?_, by omega, by simp; omega, ?_⟩
      · rw [hsp]
        simp only [parseUint10]
        rw [if_pos hlast, if_neg (by omega), if_neg (by omega)]
        congr 1; omega
      · rw [hsp, decDigits, dif_pos (by omega), hq10]
    | cons c' p' =>
      have hcc : c' = c := by rw [e] at hsp; exact (List.cons.inj hsp).1.symm
      subst hcc
      obtain ⟨u, h1, h2, h3, h4⟩ := digits_parse k (c' :: p') hlen (by omega) (fun x hx => hd x (by rw [hsp]; exact List.mem_append_left _ hx)) ⟨c', p', rfl, hc⟩
      have hk18 : 10 ^ k ≤ 10 ^ 17 := Nat.pow_le_pow_right (by decide) (by omega)
      have hpow : (10:Nat) ^ (k + 1) = 10 ^ k * 10 := Nat.pow_succ _ _
      have h17 : (10:Nat) ^ 17 = 100000000000000000 := by decide
      refine ⟨u * 10 + (q.toNat - 48), ?_, by omega, by omega, ?_⟩
      · rw [hsp, parse_append, h1]
        simp only [parseUint10]
        rw [if_pos hlast, if_neg (by omega), if_neg (by omega)]
      · rw [hsp, decDigits, dif_neg (by omega), show (u * 10 + (q.toNat - 48)) / 10 = u by omega, show (u * 10 + (q.toNat - 48)) % 10 = q.toNat - 48 by omega, h4, hq10]

/-- what is one byte of a told number, at its place -/
def okAt (l : List UInt8) (i : Nat) (c : UInt8) : Bool := decide (48 ≤ c.toNat ∧ c.toNat ≤ 57 ∨ i = 0 ∧ c.toNat = 45 ∧ 1 < l.length)

/-- the law's own look at a text, up to a place -/
def told (l : List UInt8) (k : Nat) : Bool := decide (0 < l.length) && (List.range k).all fun i => okAt l i (l.getD i 0)

theorem told_succ (l : List UInt8) (k : Nat) : told l (k + 1) = (told l k && okAt l k (l.getD k 0)) := by
  unfold told
  rw [List.range_succ, List.all_append]
  simp [Bool.and_assoc]

theorem told_all {l : List UInt8} : told l l.length = true ↔ 0 < l.length ∧ ∀ i, i < l.length → okAt l i (l.getD i 0) = true := by
  unfold told
  simp [List.all_eq_true]

/-- a told number is one of digits, a minus ahead of some -/
theorem told_itoa (n : Int) : told (itoa n) (itoa n).length = true := by
  rw [told_all]
  have key : ∀ u i, i < (decDigits u).length → 48 ≤ ((decDigits u).getD i 0).toNat ∧ ((decDigits u).getD i 0).toNat ≤ 57 := by
    intro u i hi
    have : (decDigits u).getD i 0 = (decDigits u)[i] := by simp [List.getD, hi]
    rw [this]
    exact dec_all u _ (List.getElem_mem hi)
  have pos : ∀ u, 0 < (decDigits u).length := fun u => List.length_pos_iff.2 (dec_ne u)
  unfold itoa
  split
  · refine ⟨by simp, ?_⟩
    intro i hi
    unfold okAt
    cases i with
    | zero => have := pos n.natAbs; simp; omega
    | succ i =>
      have := key n.natAbs i (by simpa using hi)
      simp only [List.getD_cons_succ, this, true_and, true_or, decide_true]
  · refine ⟨pos _, ?_⟩
    intro i hi
    have := key n.toNat i hi
    unfold okAt
    simp only [this, true_and, true_or, decide_true]

/-- what Parse gives: the number that is told so -/
def parse (l : List UInt8) : Option Int := match atoiAll l with
  | .ok v => if itoa v = l then some v else none
  | _ => none

theorem parse_itoa {n : Int} (h0 : -9223372036854775808 ≤ n) (h1 : n ≤ 9223372036854775807) : parse (itoa n) = some n := by
  unfold parse
  rw [atoi_itoa h0 h1]
  simp

theorem parse_told {l : List UInt8} {m : Int} (h : parse l = some m) : told l l.length = true ∧ itoa m = l := by
  unfold parse at h
  split at h
  · split at h
    · rename_i e
      cases h
      rw [← e]
      exact ⟨told_itoa _, rfl⟩
    · cases h
  · cases h

/-- digits, not too many, the first one no 0: they tell a number -/
theorem parse_some {l : List UInt8} (h : told l l.length = true) (hl : l.length < 18) {c : UInt8} {r : List UInt8} (e : l = c :: r) (hc : 49 ≤ c.toNat) : ∃ m, parse l = some m := by
  rw [told_all] at h
  have hall : ∀ x ∈ l, 48 ≤ x.toNat ∧ x.toNat ≤ 57 := by
    intro x hx
    obtain ⟨i, hi, rfl⟩ := List.getElem_of_mem hx
    have := h.2 i hi
    have hg : l.getD i 0 = l[i] := by simp [List.getD, hi]
    rw [hg] at this
    unfold okAt at this
    rcases of_decide_eq_true this with h | ⟨h1, h2, h3⟩
    · exact h
    · exfalso
      subst h1
      have : l[0] = c := by subst e; rfl
      rw [this] at h2; omega
  obtain ⟨u, h1, h2, h3, h4⟩ := digits_parse l.length l rfl (by omega) hall ⟨c, r, e, hc⟩
  have hp : 10 ^ l.length ≤ 10 ^ 17 := Nat.pow_le_pow_right (by decide) (by omega)
  have h17 : (10:Nat) ^ 17 = 100000000000000000 := by decide
  have hc' := hall c (by rw [e]; simp)
  refine ⟨(u : Int), ?_⟩
  unfold parse
  have ha : atoiAll l = .ok (u : Int) := by
    rw [e, atoiAll_plain c r (by omega) (by omega), ← e]
    unfold parseMag
    rw [if_neg (by rw [e]; simp), h1]
    simp only [signless]
    rw [if_neg (by omega)]
  rw [ha]
  have : itoa (u : Int) = l := by
    unfold itoa
    rw [if_neg (by omega)]
    simpa using h4
  simp [this]

/-- the reference's loop: what is left of the number, and what is told of it already -/
def Gone (u : Nat) (s : List UInt8) (n : Nat) : Prop := (s = [] ∧ n = u) ∨ (s ≠ [] ∧ n = 0 ∧ s = decDigits u) ∨ (s ≠ [] ∧ 0 < n ∧ decDigits n ++ s = decDigits u)

theorem left_step {u n : Nat} {s : List UInt8} (h : Gone u s n) (go : s = [] ∨ 0 < n) : Gone u (UInt8.ofNat (48 + n % 10) :: s) (n / 10) := by
  rcases h with ⟨rfl, rfl⟩ | ⟨h1, h2, h3⟩ | ⟨h1, h2, h3⟩
  · by_cases h : n < 10
    · refine .inr (.inl ⟨by simp, by omega, ?_⟩)
      rw [decDigits, dif_pos h, Nat.mod_eq_of_lt h]
    · refine .inr (.inr ⟨by simp, by omega, ?_⟩)
      rw [decDigits.eq_def n, dif_neg h]
  · rcases go with h | h
    · exact absurd h h1
    · omega
  · by_cases h : n < 10
    · refine .inr (.inl ⟨by simp, by omega, ?_⟩)
      rw [← h3, decDigits, dif_pos h, Nat.mod_eq_of_lt h]
      rfl
    · refine .inr (.inr ⟨by simp, by omega, ?_⟩)
      rw [← h3, decDigits.eq_def n, dif_neg h]
      simp

theorem left_end {u n : Nat} {s : List UInt8} (h : Gone u s n) (h1 : s ≠ []) (h2 : ¬ 0 < n) : s = decDigits u := by
  rcases h with ⟨rfl, rfl⟩ | ⟨_, _, h3⟩ | ⟨_, h, _⟩
  · exact absurd rfl h1
  · exact h3
  · exact absurd h h2

end Go.Qn
namespace Go.Qn
open Go.Lib
theorem nDigits_le : ∀ (k u : Nat), u < 10 ^ (k + 1) → nDigits u ≤ k + 1
  | 0, u, h => by rw [nDigits_small (by simpa using h)]; exact Nat.le_refl _
  | k + 1, u, h => by
    by_cases h' : u < 10
    · rw [nDigits_small h']; omega
    · rw [nDigits_big h']
      have := nDigits_le k (u / 10) (by rw [Nat.pow_succ] at h; omega)
      omega

theorem dec_len {u : Nat} (h : u ≤ 9223372036854775808) : (decDigits u).length ≤ 19 := by
  rw [decDigits_length]
  exact nDigits_le 18 u (Nat.lt_of_le_of_lt h (by decide))

theorem left_len {u n : Nat} {s : List UInt8} (h : Gone u s n) (hu : u ≤ 9223372036854775808) : s.length ≤ 19 := by
  have hd := dec_len hu
  rcases h with ⟨rfl, rfl⟩ | ⟨_, _, h3⟩ | ⟨_, _, h3⟩
  · simp
  · rw [h3]; exact hd
  · have := congrArg List.length h3
    rw [List.length_append] at this
    omega

theorem itoa_len {n : Int} (h0 : -9223372036854775808 ≤ n) (h1 : n ≤ 9223372036854775807) : (itoa n).length ≤ 20 := by
  unfold itoa
  split
  · have := dec_len (u := n.natAbs) (by omega)
    simp only [List.length_cons]; omega
  · have := dec_len (u := n.toNat) (by omega)
    exact Nat.le_trans this (by decide)

end Go.Qn
