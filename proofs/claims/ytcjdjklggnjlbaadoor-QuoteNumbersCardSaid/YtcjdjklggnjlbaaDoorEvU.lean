/- Regions of open order: the evaluator does what is calm. -/
import Derived.Test.YtcjdjklggnjlbaaDoorEvT
namespace Go.Ab
open Go.RowKit

theorem natIn_iff {l : List Nat} {n : Nat} : natIn l n = true ↔ n ∈ l := by
  unfold natIn
  rw [List.any_eq_true]
  constructor
  · rintro ⟨m, hm, h⟩; rw [← nat_beq h]; exact hm
  · intro h; exact ⟨n, h, Nat.beq_refl n⟩

theorem qval_congr {P : Program} {d : Nat} {ops : Array Oper} {o : Oper} {g : List Tmp} (hgt : guardTmp ops o = some g) {a a1 : AA} (h : ∀ t, (t ∈ tmpsOf o.op ∨ t ∈ g) → slot d a t = slot d a1 t) (w : AW) : (qval P d ops o).run a w = (qval P d ops o).run a1 w := by
  unfold qval
  cases hq : quiet P d o.op with
  | none => rfl
  | some q =>
    have hc := quiet_congr hq (a := a) (a1 := a1) (congr_slots fun t ht => h t (.inl ht)) w
    unfold guardTmp at hgt
    unfold guardF
    cases hgd : o.guard with
    | none => exact hc
    | some p =>
      obtain ⟨j, want⟩ := p
      rw [hgd] at hgt
      simp only at hgt ⊢
      cases hb : (ops[j]?).bind (·.dst) with
      | none => rfl
      | some t =>
        rw [hb] at hgt
        cases hgt
        simp only [Box.run_mk, opd_slot, h t (.inr (by simp)), hc]

theorem qval_more {P : Program} {d : Nat} {ops : Array Oper} {o : Oper} {a : AA} {w w1 : AW} (hm : More w w1) {v : Value} (h : (qval P d ops o).run a w = some v) : (qval P d ops o).run a w1 = some v := by
  unfold qval at *
  split at h
  · rename_i q hq _
    exact quiet_more hq hm h
  · rename_i q t want hq _
    simp only [Box.run_mk] at *
    cases hb : isBool ((opd d (.tmp t)).run a) want with
    | true => rw [hb] at h; exact quiet_more hq hm h
    | false => rw [hb] at h; exact h
  · cases h

theorem qval_noread {P : Program} {d : Nat} {ops : Array Oper} {o : Oper} {a : AA} (hr : reads P o.op = false) (w w1 : AW) : (qval P d ops o).run a w = (qval P d ops o).run a w1 := by
  unfold qval
  split
  · rename_i q hq _
    exact quiet_noread hq hr w w1
  · rename_i q t want hq _
    simp only [Box.run_mk, quiet_noread hq hr w w1]
  · rfl

section
variable {P : Program} {G B : Nat} {w0 : World} {good : Res → Prop} {pend0 : Nat → Option Blk} {ρ0 : Env} {d n : Nat} {ops : Array Oper} {ks : List Bool}
    {D : List Nat} {pr : Nat → Nat} {listed : Array Bool} {pend : Nat → Option Blk} {ρ : Env} {a : AA} {w : AW} {a' : Act} {w' : World}

/-- what an operation reads isn't written by a calm one that isn't done -/
theorem unread (hR : RegOk P G d n ops ks) (hdc : ∀ i ∈ D, ∀ j, Behind ops i j → j ∈ D) {i : Nat} (hi : i ∉ D) (hC : isC ks i = true) {o : Oper} (ho : ops[i]? = some o) {t : Tmp} (hdst : o.dst = some t) {k : Nat} (hk : k = i ∨ k ∈ D) {p : Oper} (hp : ops[k]? = some p) :
    ∃ g, guardTmp ops p = some g ∧ ∀ u, (u ∈ tmpsOf p.op ∨ u ∈ g) → u ≠ t := by
  obtain ⟨g, hg, hrd⟩ := hR.reads k p hp
  refine ⟨g, hg, fun u hu hut => ?_⟩
  subst hut
  rcases hrd i o u ho hdst hu with h | ⟨_, h⟩
  · rcases hk with rfl | hk
    · exact absurd (hR.back _ _ ho _ h) (Nat.lt_irrefl _)
    · exact hi (hdc k hk i h)
  · rw [isC_isA hC] at h; cases h

theorem tmp_lt (hR : RegOk P G d n ops ks) {p : Oper} (hp : p ∈ ops) {g : List Tmp} (hg : guardTmp ops p = some g) {u : Tmp} (hu : u ∈ tmpsOf p.op ∨ u ∈ g) : u < n := by
  rcases hu with hu | hu
  · have := hR.right p hp
    unfold operRight at this
    rw [Bool.and_eq_true] at this
    obtain ⟨x, hx, hxu⟩ := List.mem_filterMap.1 hu
    have hok := List.all_eq_true.1 this.1 x hx
    cases x <;> simp at hxu
    subst hxu
    exact blt_iff.1 hok
  · unfold guardTmp at hg
    split at hg
    · cases hg; cases hu
    · rename_i j want _
      split at hg
      · rename_i t hb
        cases hg
        obtain rfl : u = t := by simpa using hu
        cases hj : ops[j]? with
        | none => rw [hj] at hb; cases hb
        | some o1 =>
          rw [hj] at hb
          have hb : o1.dst = some u := hb
          have := all_put hR o1 (Array.mem_of_getElem? hj)
          rw [hb] at this
          exact blt_iff.1 this
      · cases hg

theorem pending_lt (hR : RegOk P G d n ops ks) (H : Inv P G B w0 good pend0 ρ0 d n ops ks D pr listed pend ρ a w a' w') {j : Nat} (hj : j ∈ D) (hl : ¬ Lst listed j) (hal : isAl P d ops j) : pr j < w.next := by
  obtain ⟨o, ho, hq⟩ := hal
  have hC : isC ks j = true := by
    rcases hR.either j (H.din j hj) with h | h
    · exact h
    · exact absurd (H.acts j hj h) hl
  obtain ⟨_, t, ht⟩ := hR.kinds j o ho hC
  obtain ⟨_, _, _, _, _, _, h⟩ := H.pa j hj hl o t ho ht hq
  exact (H.wr.pend _ _ h).2.2

theorem calm_step (hR : RegOk P G d n ops ks) (H : Inv P G B w0 good pend0 ρ0 d n ops ks D pr listed pend ρ a w a' w') {i : Nat} (hi : i ∉ D) (hC : isC ks i = true) (hanc : ∀ j, Behind ops i j → j ∈ D) {o : Oper} (ho : ops[i]? = some o) {t : Tmp} (hdst : o.dst = some t)
    {v : Value} {w1 : AW} {pr1 : Nat → Nat} {pend1 : Nat → Option Blk} (hm : More w w1) (hwr : WR ⟨P, G, B, w0, pend1, good⟩ ρ w1 w') (hpr : ∀ k, k ∈ D → pr1 k = pr k)
    (hq : ∀ q, quiet P d o.op = some q → (qval P d ops o).run a w = some v ∧ pend1 = pend)
    (ha : quiet P d o.op = none → ∃ f ob g, allocF P d o.op = some f ∧ f.run a = some (ob, g) ∧ v = g (pr1 i) ∧ pr1 i = w.next ∧ pend1 = fun k => if k = w.next then some ⟨ob, true⟩ else pend k) :
    Inv P G B w0 good pend0 ρ0 d n ops ks (i :: D) pr1 listed pend1 ρ ((putF d o.dst).run v a) w1 a' w' := by
  have hil : ¬ Lst listed i := fun h => hi (H.sub i h)
  have hne : ∀ k ∈ D, k ≠ i := fun k hk h => hi (h ▸ hk)
  have htn := dst_lt hR ho hdst
  have hput : PutOk n o.dst := put_ok (hR.right o (Array.mem_of_getElem? ho))
  have hsl : ∀ u, u < n → slot d ((putF d o.dst).run v a) u = if o.dst = some u then v else slot d a u := fun u hu => slot_put hR.deep hput v a hu
  have hrest : ∀ k, k = i ∨ k ∈ D → ∀ p, ops[k]? = some p → ∃ g, guardTmp ops p = some g ∧ ∀ u, (u ∈ tmpsOf p.op ∨ u ∈ g) → slot d a u = slot d ((putF d o.dst).run v a) u := by
    intro k hk p hp
    obtain ⟨g, hg, hun⟩ := unread hR H.dclosed hi hC ho hdst hk hp
    refine ⟨g, hg, fun u hu => ?_⟩
    have hu2 := tmp_lt hR (Array.mem_of_getElem? hp) hg hu
    rw [hsl u hu2, if_neg]
    rw [hdst]
    intro h
    cases h
    exact hun _ hu rfl
  have holds : ∀ r b, pend r = some b → pend1 r = some b := by
    intro r b hb
    cases hqq : quiet P d o.op with
    | some q => rw [(hq q hqq).2]; exact hb
    | none =>
      obtain ⟨f, ob, g, _, _, _, _, h⟩ := ha hqq
      rw [h]
      show (if r = w.next then _ else pend r) = _
      rw [if_neg (by have : r < w.next := (H.wr.pend r b hb).2.2; omega)]
      exact hb
  refine ⟨H.size, ?_, ?_, ?_, H.lclosed, ?_, H.asize, H.defers, ?_, ?_, ?_, ?_, ?_, ?_, ?_, H.le, hwr⟩
  · intro k hk
    rcases List.mem_cons.1 hk with rfl | hk
    · exact (Array.getElem?_eq_some_iff.1 ho).1
    · exact H.din k hk
  · exact fun k hk => List.mem_cons_of_mem _ (H.sub k hk)
  · intro k hk hA
    rcases List.mem_cons.1 hk with rfl | hk
    · rw [isC_isA hC] at hA; cases hA
    · exact H.acts k hk hA
  · intro k hk j hj
    rcases List.mem_cons.1 hk with rfl | hk
    · exact List.mem_cons_of_mem _ (hanc j hj)
    · exact List.mem_cons_of_mem _ (H.dclosed k hk j hj)
  · intro u hu hno
    unfold SR
    rw [hsl u hu, if_neg (hno i (by simp) hil o ho)]
    exact H.vals u hu fun k hk => hno k (List.mem_cons_of_mem _ hk)
  · intro k hk hkl p u hp hu q hqk
    obtain ⟨g, hg, hcs⟩ := hrest k (List.mem_cons.1 hk) p hp
    have hun := dst_lt hR hp hu
    rw [hsl u hun, ← qval_congr hg hcs]
    rcases List.mem_cons.1 hk with rfl | hk
    · rw [ho] at hp
      cases hp
      rw [if_pos hu]
      exact qval_more hm (hq q hqk).1
    · rw [if_neg (fun h => hne k hk (hR.once k i p o u hp ho hu h))]
      exact qval_more hm (H.pq k hk hkl p u hp hu q hqk)
  · intro k hk hkl p u hp hu hqk
    obtain ⟨g, hg, hcs⟩ := hrest k (List.mem_cons.1 hk) p hp
    have hun := dst_lt hR hp hu
    rw [hsl u hun]
    rcases List.mem_cons.1 hk with rfl | hk
    · rw [ho] at hp
      cases hp
      rw [if_pos hu]
      obtain ⟨f, ob, gg, h1, h2, h3, h4, h5⟩ := ha hqk
      refine ⟨f, ob, gg, h1, ?_, h3, ?_⟩
      · rw [← alloc_congr h1 (congr_slots fun t ht => hcs t (.inl ht))]; exact h2
      · rw [h5, h4]; show (if w.next = w.next then _ else _) = _; rw [if_pos rfl]
    · rw [if_neg (fun h => hne k hk (hR.once k i p o u hp ho hu h))]
      obtain ⟨f, ob, gg, h1, h2, h3, h4⟩ := H.pa k hk hkl p u hp hu hqk
      refine ⟨f, ob, gg, h1, ?_, by rw [hpr k hk]; exact h3, by rw [hpr k hk]; exact holds _ _ h4⟩
      rw [← alloc_congr h1 (congr_slots fun t ht => hcs t (.inl ht))]; exact h2
  · intro k hk j hj hkl hjl hka hja hp
    have nx : isAl P d ops i → pr1 i = w.next := fun h => by
      obtain ⟨o2, ho2, hq2⟩ := h
      rw [ho] at ho2
      cases ho2
      obtain ⟨_, _, _, _, _, _, h4, _⟩ := ha hq2
      exact h4
    rcases List.mem_cons.1 hk with rfl | hk2
    · rcases List.mem_cons.1 hj with rfl | hj2
      · rfl
      · exfalso
        rw [nx hka, hpr j hj2] at hp
        have := pending_lt hR H hj2 hjl hja
        omega
    · rcases List.mem_cons.1 hj with rfl | hj2
      · exfalso
        rw [nx hja, hpr k hk2] at hp
        have := pending_lt hR H hk2 hkl hka
        omega
      · rw [hpr k hk2, hpr j hj2] at hp
        exact H.pinj k hk2 j hj2 hkl hjl hka hja hp
  · exact fun r b hb => holds r b (H.base r b hb)
  · intro r b hb
    have old : pend r = some b → pend0 r = some b ∨ ∃ k ∈ i :: D, ¬ Lst listed k ∧ isAl P d ops k ∧ pr1 k = r := by
      intro h
      rcases H.only r b h with h | ⟨k, hk, h1, h2, h3⟩
      · exact .inl h
      · exact .inr ⟨k, List.mem_cons_of_mem _ hk, h1, h2, by rw [hpr k hk]; exact h3⟩
    cases hqq : quiet P d o.op with
    | some q => rw [(hq q hqq).2] at hb; exact old hb
    | none =>
      obtain ⟨f, ob, g, _, _, _, h4, h⟩ := ha hqq
      rw [h] at hb
      have hb : (if r = w.next then some ⟨ob, true⟩ else pend r) = some b := hb
      split at hb
      · rename_i hr
        exact .inr ⟨i, by simp, hil, ⟨o, ho, hqq⟩, by rw [h4, hr]⟩
      · exact old hb
  · intro k hk hkl hka
    rcases List.mem_cons.1 hk with rfl | hk
    · obtain ⟨o2, ho2, hq2⟩ := hka
      rw [ho] at ho2
      cases ho2
      obtain ⟨_, _, _, _, _, _, h4, _⟩ := ha hq2
      rw [h4]
      cases h0 : pend0 w.next with
      | none => rfl
      | some b =>
        have : w.next < w.next := (H.wr.pend _ _ (H.base _ _ h0)).2.2
        omega
    · rw [hpr k hk]; exact H.fresh k hk hkl hka
end
end Go.Ab
