/- measure.Order, and what it calls: walked by hand. -/
import Derived.Test.YtcioaghchnkepaaGreatDoorMoPlain
namespace Go.Proofs.YtcioaghchnkepaaGreatDoor.PMeasureOrders
open Go Go.RowKit Go.Proofs.YtcioaghchnkepaaGreatDoorW.PrintWords Go.Proofs.YtcioaghchnkepaaGreatDoorW.PrintLast Go.Proofs.YtcioaghchnkepaaGreatDoorW.PrintMore
attribute [local go_sem] max2_int min2_int max_two min_two

theorem Hid.mk'' {p : Prop} (h : p) : Hid p := h

theorem nonzero (n : Int) (w : World) : Calls Tryz.prog 17 #[.int .i64 n] w fun e w' => e = .returned (.bool (n != 0)) ∧ w = w' := by
  go_enter Tryz.func17, Tryz.ntmps17
  go_wp2
  go_ret
  exact ⟨rfl, rfl⟩

theorem read_at {l : List Int} {A : Option Addr} {w : World} (h : Kd.C (Kd.int .i64) w A l.length l) {j : Nat} (hj : j < l.length) : ∃ ad, A = some ad ∧ w.cell? (ad.add j) = some (.int .i64 (l.getD j 0)) := by
  obtain ⟨ad, c, hA, hc, hr, hcell⟩ := ReadsRow.get_ h 0 (j : Int) (by omega) (by omega)
  have hr : c = [.int .i64 (l.getD ((j : Int)).toNat 0)] := hr
  rw [Int.toNat_natCast] at hr
  subst hr
  refine ⟨ad, hA, ?_⟩
  have := hcell 0 _ rfl
  have e : (Kd.int .i64).sz = 1 := rfl
  simpa [e] using this

/-- what slices.IndexFunc finds -/
def Found (l : List Int) (w : World) (e : Ending) (w' : World) : Prop := ∃ r : Int, e = .returned (.int .i64 r) ∧ w = w' ∧ (-1 ≤ r ∧ r ≤ 1000) ∧ ((∃ x ∈ l, x ≠ 0) ↔ 0 ≤ r)

def noneTo (l : List Int) (k : Nat) : Prop := ∀ j, j < k → l.getD j 0 = 0

theorem found_at {l : List Int} (hl : l.length ≤ 60) {w : World} {k : Nat} (hk : k < l.length) (h : l.getD k 0 ≠ 0) : Found l w (.returned (.int .i64 k)) w := by
  refine ⟨k, rfl, rfl, by omega, ?_⟩
  constructor
  · intro _; omega
  · intro _
    refine ⟨l[k], List.getElem_mem hk, ?_⟩
    simpa [List.getD, hk] using h
theorem found_no {l : List Int} {w : World} (h : noneTo l l.length) : Found l w (.returned (.int .i64 (-1))) w := by
  refine ⟨-1, rfl, rfl, by omega, ?_⟩
  constructor
  · rintro ⟨x, hx, hne⟩
    obtain ⟨j, hj, rfl⟩ := List.getElem_of_mem hx
    have := h j hj
    simp [List.getD, hj] at this
    exact absurd this hne
  · intro h; omega

set_option maxHeartbeats 400000 in
theorem index_any {l : List Int} (hl : l.length ≤ 60) {A : Option Addr} {c : Nat} {w : World} (hr : Kd.C (Kd.int .i64) w A l.length l) :
    Calls Tryz.prog 25 #[.slice A l.length c, .func (.func 17) #[] #[]] w (Found l w) := by
  have HR : Hid (Kd.C (Kd.int .i64) w A l.length l) := hr
  clear hr
  go_enter Tryz.func25, Tryz.ntmps25
  go_wp2
  go_loop [8] (fun i => ∃ k : Nat, k ≤ l.length ∧ i = .int .i64 k ∧ noneTo l k) (fun i => l.length - (intOf i).toNat)
  case atStart => exact ⟨0, Nat.zero_le _, rfl, fun j hj => absurd hj (Nat.not_lt_zero _)⟩
  case round =>
    obtain ⟨k, hk, rfl, hn⟩ := hrel
    have HN : Hid (noneTo l k) := hn
    clear hn
    by_cases hlt : k < l.length
    · obtain ⟨ad, rfl, hcell⟩ := read_at HR.out hlt
      by_cases hz : l.getD k 0 = 0
      · have hz' : (l.getD k 0 != 0) = false := by simpa using hz
        have HZ : Hid (noneTo l (k + 1)) := by
          intro j hj
          rcases Nat.lt_succ_iff_lt_or_eq.1 hj with h | rfl
          · exact HN.out j h
          · exact hz
        clear hz
        generalize l.getD k 0 = x at hcell hz'
        go_wp2_with (go_at_call 17; refine (nonzero _ _).mono ?_; rintro e w' ⟨rfl, rfl⟩)
        go_round
        case rel => exact ⟨k + 1, by omega, by go_num, HZ.out⟩
        case measure => simp [intOf]; omega
      · have hz' : (l.getD k 0 != 0) = true := by simpa using hz
        have HZ : Hid (Found l w (.returned (.int .i64 k)) w) := found_at hl hlt hz
        clear hz
        generalize l.getD k 0 = x at hcell hz'
        go_wp2_with (go_at_call 17; refine (nonzero _ _).mono ?_; rintro e w' ⟨rfl, rfl⟩)
        go_ret
        exact HZ.out
    · obtain rfl : k = l.length := by omega
      have HZ : Hid (Found l w (.returned (.int .i64 (-1))) w) := found_no HN.out
      go_wp2
      go_ret
      exact HZ.out

/-- slices.ContainsFunc: some isn't 0 -/
theorem contains_any {l : List Int} (hl : l.length ≤ 60) {A : Option Addr} {c : Nat} {w : World} (hr : Kd.C (Kd.int .i64) w A l.length l) (b : Bool) (hb : b = true ↔ ∃ x ∈ l, x ≠ 0) :
    Calls Tryz.prog 16 #[.slice A l.length c, .func (.func 17) #[] #[]] w fun e w' => e = .returned (.bool b) ∧ w = w' := by
  have HR : Hid (Kd.C (Kd.int .i64) w A l.length l) := hr
  have HB : Hid (b = true ↔ ∃ x ∈ l, x ≠ 0) := hb
  clear hr hb
  go_enter Tryz.func16, Tryz.ntmps16
  go_wp2_with (go_at_call 25; refine (index_any hl HR.out).mono ?_; rintro e w' ⟨r, rfl, rfl, hr1, hr2⟩)
  go_ret
  refine ⟨?_, rfl⟩
  have : b = decide (0 ≤ r) := by
    rw [Bool.eq_iff_iff, HB.out, hr2]
    simp
  rw [this]
  rfl

/-- a list that can be read -/
def Tailed (t : List Int) (w : World) (e : Ending) (w' : World) : Prop := ∃ A' c', e = .returned (.slice A' t.length c') ∧ t.length ≤ c' ∧ Kd.C (Kd.int .i64) w A' t.length t ∧ w = w'

set_option maxHeartbeats 400000 in
theorem tail_any (l : List Int) (f g : Nat) (hf : f ≤ 1000) (hg : g ≤ 100000) (hl : l.length ≤ 60) (A : Option Addr) (c : Nat) (hc : l.length ≤ c) (w : World) (hr : Kd.C (Kd.int .i64) w A l.length l) :
    Calls Tryz.prog 15 #[.slice A l.length c, .int .i64 f, .int .i64 g] w (Tailed (l.drop (f - g)) w) := by
  obtain ⟨i09, hi09, _, hsz9, _⟩ := info_parts info3
  have key : ∀ m : Nat, m ≤ l.length → l.drop m = l.drop (f - g) → (min (f - g) l.length = m) →
      ∀ W : World, (Instr.slice 22 (.slice A l.length c) (some (.int .i64 m)) none none).run Tryz.prog W = .ok (.slice (if c = m then A else A.map (·.add (m * 1))) (l.drop (f - g)).length (c - m)) W := by
    intro m hm e _ W
    have := cut_from (P := Tryz.prog) 22 3 .i64 Tryz.underlying22 hi09 1 hsz9 A l.length c (m : Int) (by omega) (by omega) W
    rw [← e, List.length_drop]
    simpa using this
  obtain ⟨m, hm⟩ : ∃ m, m = min (f - g) l.length := ⟨_, rfl⟩
  have hml : m ≤ l.length := by omega
  have hdrop : l.drop m = l.drop (f - g) := by
    by_cases h : f - g ≤ l.length
    · rw [show m = f - g by omega]
    · rw [List.drop_eq_nil_of_le (by omega), List.drop_eq_nil_of_le (by omega)]
  have hcut := key m hml hdrop hm.symm
  have HC := Hid.mk'' (Kd.C_drop (m := m) hr hml hc)
  have hmx : (if ((f : Int) - (g : Int)) < 0 then (0 : Int) else ((f : Int) - (g : Int))) = ((f - g : Nat) : Int) := by split <;> omega
  have hmn : (if (l.length : Int) < ((f - g : Nat) : Int) then (l.length : Int) else ((f - g : Nat) : Int)) = (m : Int) := by split <;> omega
  have hmn2 : (if l.length < f - g then (l.length : Int) else ((f - g : Nat) : Int)) = (m : Int) := by split <;> omega
  have HD : Hid (l.drop m = l.drop (f - g)) := hdrop
  have hT : Hid (Tailed (l.drop (f - g)) w (.returned (.slice (if c = m then A else A.map (·.add (m * 1))) (l.drop (f - g)).length (c - m))) w) := by
    refine ⟨_, _, rfl, ?_, ?_, rfl⟩
    · rw [← hdrop, List.length_drop]; omega
    · rw [← hdrop]; exact HC.out
  clear hm hdrop key hr hi09 hsz9 HC HD
  generalize Tailed (l.drop (f - g)) w = T at hT ⊢
  generalize (if c = m then A else A.map (·.add (m * 1))) = A1 at hcut hT
  generalize (l.drop (f - g)).length = n1 at hcut hT
  go_enter Tryz.func15, Tryz.ntmps15
  go_wp2
  exact hT.out

theorem tail_at (l : List Int) (f g : Nat) (x y : Int) (hx : x = f) (hy : y = g) (hf : f ≤ 1000) (hg : g ≤ 100000) (hl : l.length ≤ 60) (A : Option Addr) (c : Nat) (hc : l.length ≤ c) (w : World) (hr : Kd.C (Kd.int .i64) w A l.length l) :
    Calls Tryz.prog 15 #[.slice A l.length c, .int .i64 x, .int .i64 y] w (Tailed (l.drop (f - g)) w) := by
  subst hx hy
  exact tail_any l f g hf hg hl A c hc w hr

theorem pow_le {d : Nat} (h : d ≤ 10) : (1000000 : Int) * 2 ^ d ≤ 1099511627776 := by
  have : (2 : Int) ^ d ≤ 2 ^ 10 := by
    have := Nat.pow_le_pow_right (n := 2) (by decide) h
    exact_mod_cast this
  omega

theorem pow_nn (d : Nat) : (0 : Int) ≤ 1000000 * 2 ^ d := by
  have : (0 : Int) ≤ 2 ^ d := by exact_mod_cast Nat.zero_le (2 ^ d)
  omega
theorem sub_pow {l : List Int} {d : Nat} (h : Bd (1000000 * 2 ^ d) l) (s : Nat) : Bd (1000000 * 2 ^ (d + 1)) (sub l s) := by
  have e : (1000000 : Int) * 2 ^ (d + 1) = 1000000 * 2 ^ d + 1000000 * 2 ^ d := by rw [Int.pow_succ]; omega
  rw [e]
  exact sub_bd h (pow_nn d) s

theorem order_step {l now t : List Int} {s q gone d : Nat} {n : Nat} (hq : min s l.length = q) (ht : t = (sub now s).drop (l.length / 2 - (gone + q))) (hn : n = 9 - d) (hd : d < 9) {R : Int × Bool} (ho : orderFrom l s n now gone d = R) :
    ((t ≠ [] ∧ ∀ x ∈ t, x = 0) → R = ((d : Int), true)) ∧ (¬ (t ≠ [] ∧ ∀ x ∈ t, x = 0) → orderFrom l s (9 - (d + 1)) (sub now s) (gone + q) (d + 1) = R) := by
  subst hq ht
  obtain ⟨m, rfl⟩ : ∃ m, n = m + 1 := ⟨n - 1, by omega⟩
  simp only [orderFrom] at ho
  constructor
  · intro h
    rw [if_pos h] at ho
    exact ho.symm
  · intro h
    rw [if_neg h] at ho
    rw [show 9 - (d + 1) = m by omega]
    exact ho

theorem Bd.mono {a b : Int} {l : List Int} (h : Bd a l) (k : a ≤ b) : Bd b l := fun x hx => by have := h x hx; omega

/-- the loop of measure.Order -/
structure Rnd (l : List Int) (s : Nat) (w wr : World) (v7 v8 v17 : Value) (d gone : Nat) (now : List Int) (A : Option Addr) (c : Nat) : Prop where
  hd : d ≤ 9
  hg : gone ≤ 60 * d
  hn : now.length ≤ 60
  hb : Bd (1000000 * 2 ^ d) now
  h7 : v7 = .int .i64 gone
  h8 : v8 = .slice A now.length c
  hc : now.length ≤ c
  hr : Kd.C (Kd.int .i64) wr A now.length now
  h17 : v17 = .int .i64 d
  ho : orderFrom l s (9 - d) now gone d = orderFrom l s 9 l 0 0
  hB : Below w.heap.size w wr

def Rel7 (l : List Int) (s : Nat) (w : World) (v7 v8 v17 : Value) (wr : World) : Prop := ∃ d gone now A c, Rnd l s w wr v7 v8 v17 d gone now A c

set_option maxHeartbeats 2000000 in
theorem order_pos (l : List Int) (s : Nat) (hs : 1 ≤ s) (hs' : s ≤ 1000) (hl : l.length ≤ 60) (hB : Bd 1000000 l) (A0 : Option Addr) (c0 : Nat) (w : World) (hr0 : Kd.C (Kd.int .i64) w A0 l.length l) (hc0 : l.length ≤ c0) (r1 : Int) (r2 : Bool) (ho : orderFrom l s 9 l 0 0 = (r1, r2)) :
    Calls Tryz.prog 7 #[.slice A0 l.length c0, .int .i64 s] w fun e w' => e = .returned (.tuple #[.int .i64 r1, .bool r2]) ∧ Below w.heap.size w w' := by
  have HO : Hid (orderFrom l s 9 l 0 0 = (r1, r2)) := ho
  have HS : Hid (Rel7 l s w (.int .i64 0) (.slice A0 l.length c0) (.int .i64 0) w) := ⟨0, 0, l, A0, c0, by omega, by omega, hl, by simpa using hB, rfl, rfl, hc0, hr0, rfl, rfl, Below.refl _ _⟩
  have hmn : (if (l.length : Int) < (s : Int) then (l.length : Int) else (s : Int)) = ((min s l.length : Nat) : Int) := by split <;> omega
  have hmn2 : (if l.length < s then (l.length : Int) else (s : Int)) = ((min s l.length : Nat) : Int) := by split <;> omega
  have hq : min s l.length ≤ 60 := by omega
  clear ho hr0 hB
  generalize hmm : min s l.length = q at hmn hmn2 hq
  have HQ : Hid (min s l.length = q) := hmm
  clear hmm
  have h1 : decide ((s : Int) < 1) = false := by simp; omega
  go_enter Tryz.func7, Tryz.ntmps7
  go_wp2
  go_loopw [7, 8, 17] (fun v7 v8 v17 wr => Rel7 l s w v7 v8 v17 wr) (fun _ _ v17 _ => 9 - (intOf v17).toNat)
  case atStart => exact HS.out
  case round =>
    obtain ⟨d, gone, now, A, c, hd, hg, hn, hb, rfl, rfl, hc, hr, rfl, hoo, hBl⟩ := hrel
    have HR : Hid (Kd.C (Kd.int .i64) wr A now.length now) := hr
    have HOO : Hid (orderFrom l s (9 - d) now gone d = orderFrom l s 9 l 0 0) := hoo
    have HBb : Hid (Bd (1000000 * 2 ^ d) now) := hb
    clear hr hoo hb HS
    by_cases h9 : d < 9
    · have hd2 : Hid (measure_Differences.f 100 now s = some (sub now s)) := diff_f hs hs' hn (Bd.mono HBb.out (pow_le (by omega))) (Nat.le_refl _)
      have hsl : (sub now s).length ≤ 60 := by rw [sub_len]; omega
      have hst := order_step (t := (sub now s).drop (l.length / 2 - (gone + q))) HQ.out rfl rfl h9 (HOO.out.trans HO.out)
      have HB2 : Hid (Bd (1000000 * 2 ^ (d + 1)) (sub now s)) := sub_pow HBb.out s
      have HT1 := Hid.mk'' hst.1
      have HT2 := Hid.mk'' hst.2
      clear hst
      go_wp2_with fail
      refine (measure_Differences.calls 100 A c now s (sub now s) _ HR.out hc hd2.out).mono ?_
      rintro e w1 ⟨v0, rfl, hR, hb1⟩
      obtain ⟨A1, c1, rfl, hc1, hr1⟩ := Kd.R_reads hR
      have HB1 := Hid.mk'' (hBl.trans (hb1.mono hBl.size))
      have HR1 := Hid.mk'' hr1
      clear hR hr1 hb1 hBl HR hd2
      go_wp2_with fail
      refine (tail_at (sub now s) (l.length / 2) (gone + q) _ _ (by omega) (by omega) (by omega) (by omega) hsl A1 c1 hc1 w1 HR1.out).mono ?_
      rintro e w2 ⟨A2, c2, rfl, hc2, hr2, rfl⟩
      have HR2 := Hid.mk'' hr2
      have htl : ((sub now s).drop (l.length / 2 - (gone + q))).length ≤ 60 := by rw [List.length_drop]; omega
      have hg2 : gone + q ≤ 60 * (d + 1) := by omega
      have HNX : Hid (orderFrom l s (9 - (d + 1)) (sub now s) (gone + q) (d + 1) = orderFrom l s 9 l 0 0 → Rel7 l s w (.int .i64 (gone + q : Nat)) (.slice A1 (sub now s).length c1) (.int .i64 (d + 1 : Nat)) w1) := fun h => ⟨d + 1, gone + q, sub now s, A1, c1, by omega, hg2, hsl, HB2.out, rfl, rfl, hc1, HR1.out, rfl, h, HB1.out⟩
      clear hr2 HR1 HB2 HOO HBb
      generalize (sub now s).drop (l.length / 2 - (gone + q)) = t at HT1 HT2 HR2 htl hc2
      by_cases ht : t = []
      · subst ht
        have HF : Hid (Rel7 l s w (.int .i64 (gone + q : Nat)) (.slice A1 (sub now s).length c1) (.int .i64 (d + 1 : Nat)) w1) := HNX.out ((HT2.out fun h => h.1 rfl).trans HO.out.symm)
        clear HNX HT1 HT2 HR2
        go_wp2
        go_roundw
        case rel => exact HF.out
        case measure => simp [intOf]; omega
      · have hp : 0 < t.length := List.length_pos_iff.2 ht
        by_cases hz : ∀ x ∈ t, x = 0
        · have hR : Hid (((d : Int), true) = (r1, r2)) := (HT1.out ⟨ht, hz⟩).symm
          have HC : Hid (false = true ↔ ∃ x ∈ t, x ≠ 0) := by
            constructor
            · intro h; cases h
            · rintro ⟨x, hx, hne⟩; exact absurd (hz x hx) hne
          clear HNX HT1 HT2 hz ht
          go_wp2_with (go_at_call 16; refine (contains_any htl HR2.out false HC.out).mono ?_; rintro e w3 ⟨rfl, rfl⟩)
          go_ret2
          have := hR.out
          simp only [Prod.mk.injEq] at this
          obtain ⟨rfl, rfl⟩ := this
          exact ⟨rfl, HB1.out⟩
        · have HF : Hid (Rel7 l s w (.int .i64 (gone + q : Nat)) (.slice A1 (sub now s).length c1) (.int .i64 (d + 1 : Nat)) w1) := HNX.out ((HT2.out fun h => hz h.2).trans HO.out.symm)
          have HC : Hid (∃ x ∈ t, x ≠ 0) := by
            exact Classical.byContradiction fun h => hz fun x hx => Classical.byContradiction fun hne => h ⟨x, hx, hne⟩
          clear HNX HT1 HT2 hz ht
          go_wp2_with (go_at_call 16; refine (contains_any htl HR2.out true ⟨fun _ => HC.out, fun _ => rfl⟩).mono ?_; rintro e w3 ⟨rfl, rfl⟩)
          go_roundw
          case rel => exact HF.out
          case measure => simp [intOf]; omega
    · obtain rfl : d = 9 := by omega
      have hR : Hid (((0 : Int), false) = (r1, r2)) := HOO.out.trans HO.out
      go_wp2
      go_ret2
      have := hR.out
      simp only [Prod.mk.injEq] at this
      obtain ⟨rfl, rfl⟩ := this
      exact ⟨rfl, hBl⟩

theorem measure_Order.calls (k : Nat) (A0 : Option Addr) (c0 : Nat) (l0 : List Int) (a1 : Int) (r1 : Int) (r2 : Bool) (w : World) (hr0 : Kd.C (Kd.int .i64) w A0 l0.length l0) (hc0 : l0.length ≤ c0) (h : measure_Order.f k l0 a1 = some (r1, r2)) :
    Calls Tryz.prog 7 #[.slice A0 l0.length c0, .int .i64 a1] w fun e w' => e = .returned (.tuple #[.int .i64 r1, .bool r2]) ∧ Below w.heap.size w w' := by
  unfold measure_Order.f at h
  split at h
  · rename_i hS
    obtain ⟨hl, ha, hB⟩ := hS
    split at h
    · rename_i h1
      cases h
      have hd : decide (a1 < 1) = true := by simpa using h1
      clear hr0
      go_enter Tryz.func7, Tryz.ntmps7
      go_wp2
      go_ret2
      exact ⟨rfl, Below.refl _ _⟩
    · rename_i h1
      obtain ⟨s, rfl⟩ : ∃ s : Nat, a1 = s := ⟨a1.toNat, by omega⟩
      rw [Int.toNat_natCast] at h
      exact order_pos l0 s (by omega) (by omega) hl hB A0 c0 w hr0 hc0 r1 r2 (Option.some.inj h)
  · cases h
end Go.Proofs.YtcioaghchnkepaaGreatDoor.PMeasureOrders
