/- MeasureTables: the plain law. -/
import Derived.Test.YtcioaghchnkepaaGreatDoorMtC
import Derived.Test.YtcioaghchnkepaaGreatDoorMtSmall
namespace Go.Proofs.YtcioaghchnkepaaGreatDoor.Pure
open Go.RowKit Go.Proofs.YtcioaghchnkepaaGreatDoor.PMeasureTables Go.Proofs.YtcioaghchnkepaaGreatDoorW.PrintWords Go.Proofs.YtcioaghchnkepaaGreatDoorW.PrintLast
open Go.Proofs.YtcioaghchnkepaaGreatDoor.PMeasureOrders (Bd wrap_id rd_nat getD_bd caltroplaw24_small.f)
open Go.Proofs.Mt (str tableL rowL two tableB)

theorem str_app (a b : List UInt8) : str a ++ str b = str (a ++ b) := ByteArray.mk_append_mk a b
theorem str_size (a : List UInt8) : (str a).size = a.length := by simp [str, ByteArray.size]
theorem str_toList (a : List UInt8) : (str a).toList = a := ByteArray.toList_mk a
theorem str_32 : (⟨#[32]⟩ : ByteArray) = str [32] := rfl
theorem str_10 : (⟨#[10]⟩ : ByteArray) = str [10] := rfl
theorem str_45 : (⟨#[45]⟩ : ByteArray) = str [45] := rfl
theorem str_nil : (⟨#[]⟩ : ByteArray) = str [] := rfl

theorem digit_str (n : Nat) : strOfNums ([(wrap64 (48 + (Int.tmod (n : Int) 10))) % 256] : List Int) = str [UInt8.ofNat (48 + n % 10)] := by
  have h1 : Int.tmod (n : Int) 10 = ((n % 10 : Nat) : Int) := by rw [Int.tmod_eq_emod_of_nonneg (by omega)]; omega
  have h2 : wrap64 (48 + ((n % 10 : Nat) : Int)) % 256 = ((48 + n % 10 : Nat) : Int) := by rw [wrap_id (by omega) (by omega)]; omega
  rw [h1, h2]
  rfl

theorem num_loop (u : Nat) (hu : u ≤ 1000000000) : ∀ (m k n : Nat) (s : List UInt8), n < 10 ^ m → (s = [] → 1 ≤ m) → n ≤ 1000000000 → m < k → Qn.Gone u s n →
    caltropref02_Number.l0 k (n : Int) (str s) = some (str (Lib.decDigits u)) := by
  intro m
  induction m with
  | zero =>
    intro k n s hn hs hb hk hg
    obtain ⟨k, rfl⟩ : ∃ q, k = q + 1 := ⟨k - 1, by omega⟩
    have hs' : s ≠ [] := fun h => absurd (hs h) (by omega)
    have hn0 : n = 0 := by simpa using hn
    simp only [caltropref02_Number.l0]
    rw [str_toList, if_neg hs', if_neg (by omega), Qn.left_end hg hs' (by omega)]
  | succ m ih =>
    intro k n s hn hs hb hk hg
    obtain ⟨k, rfl⟩ : ∃ q, k = q + 1 := ⟨k - 1, by omega⟩
    have hl := Qn.left_len hg (by omega)
    have hq : wrap64 (Int.tdiv (n : Int) 10) = ((n / 10 : Nat) : Int) := by rw [Int.tdiv_eq_ediv_of_nonneg (by omega), wrap_id (by omega) (by omega)]; omega
    have hn' : n / 10 < 10 ^ m := by rw [Nat.pow_succ] at hn; omega
    simp only [caltropref02_Number.l0, Option.bind_some]
    rw [str_toList]
    by_cases he : s = []
    · rw [if_pos he, digit_str, hq, str_app, if_pos (by rw [str_size, str_size]; simp; omega)]
      exact ih k (n / 10) _ hn' (fun h => by cases h) (by omega) (by omega) (Qn.left_step hg (.inl he))
    · rw [if_neg he]
      by_cases hp : 0 < n
      · rw [if_pos (by omega), digit_str, hq, str_app, if_pos (by rw [str_size, str_size]; simp; omega)]
        exact ih k (n / 10) _ hn' (fun h => by cases h) (by omega) (by omega) (Qn.left_step hg (.inr hp))
      · rw [if_neg (by omega), Qn.left_end hg he hp]

theorem num_pos (n : Nat) (hn : n ≤ 1000000000) (k : Nat) (hk : 20 ≤ k) : caltropref02_Number.f k (n : Int) = some (str (Lib.decDigits n)) := by
  obtain ⟨k, rfl⟩ : ∃ q, k = q + 1 := ⟨k - 1, by omega⟩
  simp only [caltropref02_Number.f]
  rw [if_neg (by omega), str_nil]
  exact num_loop n hn 10 k n [] (by omega) (fun _ => by omega) hn (by omega) (.inl ⟨rfl, rfl⟩)

theorem num_f (n : Int) (h0 : -1000000000 ≤ n) (h1 : n ≤ 1000000000) (k : Nat) (hk : 30 ≤ k) : caltropref02_Number.f k n = some (str (Lib.itoa n)) := by
  unfold Lib.itoa
  by_cases h : n < 0
  · rw [if_pos h]
    obtain ⟨k, rfl⟩ : ∃ q, k = q + 1 := ⟨k - 1, by omega⟩
    have hw : wrap64 (-n) = (n.natAbs : Int) := by rw [wrap_id (by omega) (by omega)]; omega
    have hl := Qn.dec_len (u := n.natAbs) (by omega)
    simp only [caltropref02_Number.f]
    rw [if_pos h, if_neg (by omega), hw, num_pos _ (by omega) k (by omega), Option.bind_some, if_pos (by rw [str_size]; omega), str_45, str_app]
    rfl
  · rw [if_neg h]
    obtain ⟨m, rfl⟩ : ∃ m : Nat, n = m := ⟨n.toNat, by omega⟩
    rw [num_pos m (by omega) k (by omega), Int.toNat_natCast]

/-- each at least twice the one s before it, which is at least 1 -/
def dbl (l : List Int) (s : Nat) : Nat → Nat → Bool
  | 0, _ => true
  | n + 1, i => if l.getD (i - s) 0 < 1 then false else if l.getD i 0 < 2 * l.getD (i - s) 0 then false else dbl l s n (i + 1)

theorem doubles_loop {l : List Int} (hl : l.length ≤ 60) (hB : Bd 1000000 l) {s : Nat} (hs1 : 1 ≤ s) (hs : s ≤ 100) (n : Nat) : ∀ (k i : Nat), i + n = l.length → s ≤ i → n < k →
    measure_Doubles.l0 k l s i = some (dbl l s n i) := by
  induction n with
  | zero =>
    intro k i hi hsi hk
    obtain ⟨k, rfl⟩ : ∃ q, k = q + 1 := ⟨k - 1, by omega⟩
    simp only [measure_Doubles.l0]
    rw [if_neg (by omega)]
    rfl
  | succ n ih =>
    intro k i hi hsi hk
    obtain ⟨k, rfl⟩ : ∃ q, k = q + 1 := ⟨k - 1, by omega⟩
    have e1 : wrap64 ((i : Int) - (s : Int)) = ((i - s : Nat) : Int) := by rw [wrap_id (by omega) (by omega)]; omega
    have e2 : wrap64 ((i : Int) + 1) = ((i + 1 : Nat) : Int) := by rw [wrap_id (by omega) (by omega)]; omega
    have b1 := getD_bd hB (by decide) (i - s)
    simp only [measure_Doubles.l0, dbl]
    rw [if_pos (by omega), e1, if_pos (by omega), if_pos (by omega), rd_nat]
    by_cases h1 : l.getD (i - s) 0 < 1
    · rw [if_pos h1, if_pos h1]
    · rw [if_neg h1, if_neg h1, if_pos (by omega), rd_nat]
      have em : nat_Mul.f ([2, l.getD (i - s) 0] : List Int) = some (2 * l.getD (i - s) 0) := by
        unfold nat_Mul.f
        rw [if_pos]
        · rfl
        · refine ⟨rfl, rfl, ?_, ?_⟩
          · show 1 ≤ l.getD (i - s) 0; omega
          · show l.getD (i - s) 0 ≤ 1000000; omega
      rw [em, Option.bind_some]
      by_cases h2 : l.getD i 0 < 2 * l.getD (i - s) 0
      · rw [if_pos h2, if_pos h2]
      · rw [if_neg h2, if_neg h2, e2]
        exact ih k (i + 1) (by omega) (by omega) (by omega)

theorem doubles_no {l : List Int} {a : Int} (h : a < 1 ∨ (l.length : Int) ≤ a) (k : Nat) (hk : 1 ≤ k) : measure_Doubles.f k l a = some false := by
  obtain ⟨k, rfl⟩ : ∃ q, k = q + 1 := ⟨k - 1, by omega⟩
  unfold measure_Doubles.f
  simp only [measure_Doubles.j0]
  by_cases h1 : a < 1
  · rw [if_pos h1]; simp
  · have : decide (a ≥ (l.length : Int)) = true := by simp; omega
    rw [if_neg h1, this]; simp

theorem doubles_yes {l : List Int} (hl : l.length ≤ 60) (hB : Bd 1000000 l) {s : Nat} (hs1 : 1 ≤ s) (hs : s ≤ 100) (hsl : s < l.length) (k : Nat) (hk : 100 ≤ k) :
    measure_Doubles.f k l s = some (dbl l s (l.length - s) s) := by
  obtain ⟨k, rfl⟩ : ∃ q, k = q + 1 := ⟨k - 1, by omega⟩
  unfold measure_Doubles.f
  simp only [measure_Doubles.j0]
  have : decide ((s : Int) ≥ (l.length : Int)) = false := by simp; omega
  rw [if_neg (by omega), this, if_neg (by simp)]
  exact doubles_loop hl hB hs1 hs _ k s (by omega) (by omega) (by omega)

theorem ratio_f {l : List Int} (hl : l.length ≤ 60) (h : 0 < l.length) : measure_Ratio.f l = some (l.getD (l.length - 1) 0, l.getD (l.length / 2) 0) := by
  have e1 : wrap64 ((l.length : Int) - 1) = ((l.length - 1 : Nat) : Int) := by rw [wrap_id (by omega) (by omega)]; omega
  have e2 : wrap64 ((l.length : Int) / 2) = ((l.length / 2 : Nat) : Int) := by rw [wrap_id (by omega) (by omega)]; omega
  unfold measure_Ratio.f
  rw [if_neg (by omega), e1, e2, if_pos (by omega), if_pos (by omega), if_pos (by omega), if_pos (by omega), rd_nat, rd_nat]

theorem table_f {l : List Int} (hl : l.length ≤ 60) (hB : Bd 1000000 l) : measure_Table.f l = some (tableB l) := by
  unfold measure_Table.f
  rw [if_pos ⟨hl, hB⟩]

theorem l1_law {x : List Int} (hx : x.length ≤ 60) (hB : Bd 1000000 x) {a : Int} {D : Bool} (hD : ∀ k, 100 ≤ k → measure_Doubles.f k x a = some D) (hE : x.length = 0 → D = false) (n : Nat) :
    ∀ (k i : Nat), i + n = x.length → 300 + n < k → caltroplaw24_MeasureTables.l1 k a x D (str (tableL x i)) i = some true := by
  induction n with
  | zero =>
    intro k i hi hk
    obtain ⟨k, rfl⟩ : ∃ q, k = q + 1 := ⟨k - 1, by omega⟩
    obtain rfl : i = x.length := by omega
    simp only [caltroplaw24_MeasureTables.l1]
    rw [if_neg (by omega)]
    by_cases h0 : x.length = 0
    · have e0 : (x.length : Int) = 0 := by omega
      have er : measure_Ratio.f x = some (0, 0) := by unfold measure_Ratio.f; rw [if_pos e0]
      have et : (tableB x).toList = ([] : List UInt8) := by
        show (str (tableL x x.length)).toList = _
        rw [str_toList, h0]; rfl
      rw [er, Option.bind_some, if_pos e0, if_pos rfl, if_pos rfl, table_f hx hB, Option.bind_some, if_pos et, hD k (by omega), Option.bind_some, hE h0, if_neg (by simp)]
      rfl
    · have e1 : wrap64 ((x.length : Int) - 1) = ((x.length - 1 : Nat) : Int) := by rw [wrap_id (by omega) (by omega)]; omega
      have e2 : wrap64 ((x.length : Int) / 2) = ((x.length / 2 : Nat) : Int) := by rw [wrap_id (by omega) (by omega)]; omega
      rw [ratio_f hx (by omega), Option.bind_some, if_neg (by omega), hD k (by omega), Option.bind_some, if_pos (by simp), e1, e2, if_pos (by omega), if_pos (by omega), rd_nat, if_pos rfl, if_pos (by omega), if_pos (by omega), rd_nat, if_pos rfl, table_f hx hB, Option.bind_some, show (tableB x).toList = (str (tableL x x.length)).toList from rfl, if_pos rfl]
      rfl
  | succ n ih =>
    intro k i hi hk
    obtain ⟨k, rfl⟩ : ∃ q, k = q + 1 := ⟨k - 1, by omega⟩
    have e2 : wrap64 ((i : Int) + 1) = ((i + 1 : Nat) : Int) := by rw [wrap_id (by omega) (by omega)]; omega
    have b1 := getD_bd hB (by decide) i
    have ht := Mt.table_len hB i (by omega)
    have hr := Mt.row_len i (x.getD i 0) (by omega) b1
    have hrow : rowL i (x.getD i 0) = Lib.itoa ((i : Int) + 1) ++ [32] ++ Lib.itoa (x.getD i 0) ++ [10] := rfl
    rw [hrow] at hr
    simp only [List.length_append, List.length_cons, List.length_nil] at hr
    have hnext : tableL x i ++ Lib.itoa ((i : Int) + 1) ++ [32] ++ Lib.itoa (x.getD i 0) ++ [10] = tableL x (i + 1) := by
      show _ = tableL x i ++ rowL i (x.getD i 0)
      rw [hrow]; simp
    simp only [caltroplaw24_MeasureTables.l1]
    rw [if_pos (by omega), rd_nat, e2, num_f ((i + 1 : Nat) : Int) (by omega) (by omega) k (by omega), Option.bind_some]
    have ec : ((i + 1 : Nat) : Int) = (i : Int) + 1 := by omega
    rw [ec, str_app, str_32, str_app, if_pos (by rw [str_size, str_size]; omega), if_pos (by rw [str_size]; simp only [List.length_append]; omega), if_pos (by omega), num_f _ (by omega) (by omega) k (by omega), Option.bind_some, str_app, str_10, str_app, if_pos (by rw [str_size, str_size]; simp only [List.length_append, List.length_cons, List.length_nil]; omega), if_pos (by rw [str_size]; simp only [List.length_append, List.length_cons, List.length_nil]; omega), hnext, ← ec]
    exact ih k (i + 1) (by omega) (by omega)

theorem l0_law {x : List Int} (hx : x.length ≤ 60) (hB : Bd 1000000 x) {s : Nat} (hs1 : 1 ≤ s) (hs : s ≤ 100) {D : Bool} (hD : ∀ k, 100 ≤ k → measure_Doubles.f k x s = some D) (hE : x.length = 0 → D = false) (n : Nat) :
    ∀ (k i : Nat) (b : Bool), i + n = x.length → s ≤ i → 500 + n < k → D = (b && dbl x s n i) → caltroplaw24_MeasureTables.l0 k s x b i = some true := by
  have j3 : ∀ k, 400 < k → caltroplaw24_MeasureTables.j3 k s x D = some true := by
    intro k hk
    obtain ⟨k, rfl⟩ : ∃ q, k = q + 1 := ⟨k - 1, by omega⟩
    simp only [caltroplaw24_MeasureTables.j3]
    exact l1_law hx hB hD hE x.length k 0 (by omega) (by omega)
  induction n with
  | zero =>
    intro k i b hi hsi hk hb
    obtain ⟨k, rfl⟩ : ∃ q, k = q + 1 := ⟨k - 1, by omega⟩
    have hb : b = D := by simpa [dbl] using hb.symm
    simp only [caltroplaw24_MeasureTables.l0]
    rw [if_neg (by omega), hb]
    exact j3 k (by omega)
  | succ n ih =>
    intro k i b hi hsi hk hb
    obtain ⟨k, rfl⟩ : ∃ q, k = q + 1 := ⟨k - 1, by omega⟩
    have e1 : wrap64 ((i : Int) - (s : Int)) = ((i - s : Nat) : Int) := by rw [wrap_id (by omega) (by omega)]; omega
    have e2 : wrap64 ((i : Int) + 1) = ((i + 1 : Nat) : Int) := by rw [wrap_id (by omega) (by omega)]; omega
    have b1 := getD_bd hB (by decide) (i - s)
    have e3 : wrap64 (2 * x.getD (i - s) 0) = 2 * x.getD (i - s) 0 := wrap_id (by omega) (by omega)
    simp only [caltroplaw24_MeasureTables.l0]
    rw [if_pos (by omega), if_pos (by omega)]
    cases b with
    | false =>
      rw [if_neg (by simp)]
      have hb : D = false := by simpa using hb
      rw [e2]
      exact ih k (i + 1) false (by omega) (by omega) (by omega) (by rw [hb]; rfl)
    | true =>
      rw [if_pos rfl, e1, if_pos (by omega), if_pos (by omega), rd_nat, rd_nat, e2, e3]
      simp only [dbl, Bool.true_and] at hb
      by_cases h1 : x.getD (i - s) 0 < 1
      · rw [if_pos h1] at hb
        rw [if_neg (by omega)]
        exact ih k (i + 1) false (by omega) (by omega) (by omega) (by rw [hb]; rfl)
      · rw [if_neg h1] at hb
        rw [if_pos (by omega), if_pos (by omega)]
        by_cases h2 : x.getD i 0 < 2 * x.getD (i - s) 0
        · rw [if_pos h2] at hb
          exact ih k (i + 1) _ (by omega) (by omega) (by omega) (by rw [hb, decide_eq_false (by omega)]; rfl)
        · rw [if_neg h2] at hb
          exact ih k (i + 1) _ (by omega) (by omega) (by omega) (by rw [hb, decide_eq_true (by omega)]; rfl)

theorem j0_tab {x : List Int} (hx : x.length ≤ 60) (hB : Bd 1000000 x) {a : Int} (ha : a ≤ 100) : caltroplaw24_MeasureTables.j0 10000 a x = some true := by
  rw [show (10000 : Nat) = 9997 + 1 + 1 + 1 from rfl]
  simp only [caltroplaw24_MeasureTables.j0, caltroplaw24_MeasureTables.j1]
  by_cases h1 : a ≥ 1
  · obtain ⟨s, rfl⟩ : ∃ s : Nat, a = s := ⟨a.toNat, by omega⟩
    rw [if_pos h1]
    have hm : mx (s : Int) 1 = s := by unfold mx; split <;> omega
    by_cases h2 : s < x.length
    · rw [decide_eq_true (by omega), hm]
      have hD := doubles_yes hx hB (s := s) (by omega) (by omega) h2
      exact l0_law hx hB (s := s) (by omega) (by omega) hD (fun h => by omega) (x.length - s) _ s true (by omega) (by omega) (by omega) (by rw [Bool.true_and])
    · rw [decide_eq_false (by omega), hm]
      have hD : ∀ k, 100 ≤ k → measure_Doubles.f k x s = some false := fun k hk => doubles_no (.inr (by omega)) k (by omega)
      rw [caltroplaw24_MeasureTables.l0, if_neg (by omega), caltroplaw24_MeasureTables.j3]
      exact l1_law hx hB hD (fun _ => rfl) x.length _ 0 (by omega) (by omega)
  · rw [if_neg h1]
    have hD : ∀ k, 100 ≤ k → measure_Doubles.f k x a = some false := fun k hk => doubles_no (.inl (by omega)) k (by omega)
    have hm : mx a 1 = 1 := by unfold mx; split <;> omega
    have j3 : ∀ k, 400 < k → caltroplaw24_MeasureTables.j3 k a x false = some true := by
      intro k hk
      obtain ⟨k, rfl⟩ : ∃ q, k = q + 1 := ⟨k - 1, by omega⟩
      simp only [caltroplaw24_MeasureTables.j3]
      exact l1_law hx hB hD (fun _ => rfl) x.length k 0 (by omega) (by omega)
    rw [hm, caltroplaw24_MeasureTables.l0]
    by_cases h2 : (1 : Int) < x.length
    · rw [if_pos h2, if_neg h1]; exact j3 _ (by omega)
    · rw [if_neg h2]; exact j3 _ (by omega)

theorem MeasureTables : caltroplaw24_MeasureTables.Pure := by
  intro l0 a1 _ _ _ _
  refine ⟨10000, ?_⟩
  unfold caltroplaw24_MeasureTables.f
  rw [small_f (by omega), Option.bind_some]
  have hx : (smallL l0).length ≤ 60 := by rw [smallL_len]; omega
  by_cases h : a1 > 100
  · rw [if_pos h]; exact j0_tab hx (smallL_bd l0) (by omega)
  · rw [if_neg h]; exact j0_tab hx (smallL_bd l0) (by omega)
end Go.Proofs.YtcioaghchnkepaaGreatDoor.Pure
