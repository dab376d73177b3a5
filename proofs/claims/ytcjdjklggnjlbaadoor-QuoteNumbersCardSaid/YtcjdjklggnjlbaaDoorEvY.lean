/- Regions of open order: the whole region. -/
import Derived.Test.YtcjdjklggnjlbaaDoorEvW
namespace Go.Ab
open Go.RowKit

def unlisted (listed : Array Bool) (n : Nat) : Nat := ((List.range n).filter fun i => !listed.getD i false).length

theorem filter_le {p q : Nat → Bool} (hpq : ∀ j, q j = true → p j = true) (l : List Nat) : (l.filter q).length ≤ (l.filter p).length := by
  induction l with
  | nil => exact Nat.le_refl _
  | cons x l ih =>
    rw [List.filter_cons, List.filter_cons]
    cases hq : q x with
    | true => rw [hpq x hq]; exact Nat.succ_le_succ ih
    | false =>
      cases hp : p x with
      | true => exact Nat.le_succ_of_le ih
      | false => exact ih

theorem filter_lt {p q : Nat → Bool} (hpq : ∀ j, q j = true → p j = true) {i : Nat} (hp : p i = true) (hq : q i = false) (l : List Nat) (hi : i ∈ l) : (l.filter q).length < (l.filter p).length := by
  induction l with
  | nil => cases hi
  | cons x l ih =>
    rw [List.filter_cons, List.filter_cons]
    by_cases hxi : x = i
    · subst hxi
      rw [hp, hq]
      exact Nat.lt_succ_of_le (filter_le hpq l)
    · have hm := (List.mem_cons.1 hi).resolve_left (fun h => hxi h.symm)
      have := ih hm
      cases hqx : q x with
      | true => rw [hpq x hqx]; exact Nat.succ_lt_succ this
      | false =>
        cases hpx : p x with
        | true => exact Nat.lt_succ_of_lt this
        | false => exact this

theorem unlisted_set {listed : Array Bool} {n i : Nat} (hi : i < n) (hs : listed.size = n) (hl : ¬ Lst listed i) : unlisted (listed.setIfInBounds i true) n < unlisted listed n := by
  unfold unlisted
  refine filter_lt (i := i) ?_ ?_ ?_ _ (List.mem_range.2 hi)
  · intro j hj
    cases hx : listed.getD j false with
    | true => rw [getD_set_true hx] at hj; cases hj
    | false => rfl
  · unfold Lst at hl
    cases hx : listed.getD i false with
    | true => exact absurd hx hl
    | false => rfl
  · have h1 : (listed.setIfInBounds i true).getD i false = true := (lst_set (by omega)).2 (.inl rfl)
    rw [h1]
    rfl

section
variable {P : Program} {G B : Nat} {w0 : World} {good : Res → Prop} {pend0 : Nat → Option Blk} {ρ0 : Env} {d n : Nat} {ops : Array Oper} {ks : List Bool}

theorem all_listed (hR : RegOk P G d n ops ks) {D : List Nat} {pr : Nat → Nat} {listed : Array Bool} {pend : Nat → Option Blk} {ρ : Env} {a : AA} {w : AW} {a' : Act} {w' : World}
    (H : Inv P G B w0 good pend0 ρ0 d n ops ks D pr listed pend ρ a w a' w') (hr : Region.ready .any ops listed = []) : ∀ i, i < ops.size → Lst listed i := by
  intro i
  induction i using Nat.strongRecOn with
  | _ i ih =>
    intro hi
    cases hl : listed.getD i false with
    | true => exact hl
    | false =>
      exfalso
      have hmem : i ∈ Region.ready .any ops listed := by
        refine mem_ready.2 ⟨?_, ops[i], by simp [hi], ?_⟩
        · have : i < listed.size := by rw [H.size]; exact hi
          simp [this] at hl ⊢
          exact hl
        · intro e he hb
          have hlt := hR.edges i ops[i] (by simp [hi]) e he hb
          exact ih e.on hlt (by omega)
      rw [hr] at hmem
      cases hmem

theorem region_run (hfi : Fine good) (hg : GR G ρ0) (hR : RegOk P G d n ops ks) {call : CallF} (hcall : CallOk P G B w0 call) {ext : Known} (hext : ExtOk P ext) {K : AA → AW → Res} {Q : Exit → Act → World → Prop}
    (hQ : ∀ ρ a w a' w', Env.le ρ0 ρ → AAR ρ d n a a' → WR ⟨P, G, B, w0, pend0, good⟩ ρ w w' → good (K a w) → Q .normal a' w') :
    ∀ (fuel : Nat) (ss : List Stage) (D : List Nat) (pr : Nat → Nat) (listed : Array Bool) (pend : Nat → Option Blk) (ρ : Env) (a : AA) (w : AW) (a' : Act) (w' : World),
      Inv P G B w0 good pend0 ρ0 d n ops ks D pr listed pend ρ a w a' w' → stagesRight P ops (masks ops.toList []) ks D ss = true → good ((stagesF P G ext d ops ss).run call a w K) → unlisted listed ops.size ≤ fuel →
      wpAny P .any ops Q fuel listed a' w' := by
  have fin : ∀ (ss : List Stage) (D : List Nat) (pr : Nat → Nat) (listed : Array Bool) (pend : Nat → Option Blk) (ρ : Env) (a : AA) (w : AW) (a' : Act) (w' : World),
      Inv P G B w0 good pend0 ρ0 d n ops ks D pr listed pend ρ a w a' w' → stagesRight P ops (masks ops.toList []) ks D ss = true → good ((stagesF P G ext d ops ss).run call a w K) → Region.ready .any ops listed = [] → Q .normal a' w' := by
    intro ss D pr listed pend ρ a w a' w' H hst h hr
    have hall := all_listed hR H hr
    cases ss with
    | cons s rest =>
      exfalso
      simp only [stagesRight, Bool.and_eq_true, Bool.not_eq_true'] at hst
      obtain ⟨⟨⟨⟨⟨⟨⟨hA, hin⟩, _⟩, _⟩, _⟩, _⟩, _⟩, _⟩ := hst
      unfold stagesF at h
      cases ho : ops[s.act]? with
      | none => rw [ho] at h; exact absurd h hfi.bad
      | some o =>
        have := H.sub _ (hall s.act (Array.getElem?_eq_some_iff.1 ho).1)
        rw [natIn_iff.2 this] at hin
        cases hin
    | nil =>
      have hD : ∀ i ∈ D, Lst listed i := fun i hi => hall i (H.din i hi)
      have hpe : pend = pend0 := by
        funext r
        cases h1 : pend r with
        | some b =>
          rcases H.only r b h1 with h2 | ⟨i, hi, hl, _⟩
          · rw [h2]
          · exact absurd (hD i hi) hl
        | none =>
          cases h2 : pend0 r with
          | none => rfl
          | some b => rw [H.base r b h2] at h1; cases h1
      refine hQ ρ a w a' w' H.le ⟨H.asize, hR.deep, H.defers, fun t ht => H.vals t ht fun i hi hl => absurd (hD i hi) hl⟩ ?_ h
      rw [← hpe]
      exact H.wr
  intro fuel
  induction fuel with
  | zero =>
    intro ss D pr listed pend ρ a w a' w' H hst h hu
    have hr : Region.ready .any ops listed = [] := by
      cases hq : Region.ready .any ops listed with
      | nil => rfl
      | cons i l =>
        exfalso
        obtain ⟨hnl, hlt, _⟩ := ready_anc H (i := i) (by rw [hq]; simp)
        have := unlisted_set hlt H.size hnl
        omega
    exact ⟨hr, fin ss D pr listed pend ρ a w a' w' H hst h hr⟩
  | succ fuel ih =>
    intro ss D pr listed pend ρ a w a' w' H hst h hu
    refine ⟨fun hr => fin ss D pr listed pend ρ a w a' w' H hst h hr, fun i hi => ?_⟩
    obtain ⟨hnl, hlt, o, ho, hanc⟩ := ready_anc H hi
    have hless := unlisted_set hlt H.size hnl
    by_cases hiD : i ∈ D
    · exact step_done hg hR H hiD hi fun pend2 ρ2 a2' w2' H2 => ih ss D pr _ pend2 ρ2 a w a2' w2' H2 hst h (by omega)
    · cases ss with
      | nil =>
        exfalso
        have := List.all_eq_true.1 hst i (List.mem_range.2 hlt)
        exact hiD (natIn_iff.1 this)
      | cons s rest =>
        simp only [stagesRight, Bool.and_eq_true, Bool.not_eq_true'] at hst
        obtain ⟨⟨⟨⟨⟨⟨⟨hA, hin⟩, _⟩, hrd⟩, _⟩, hbeh⟩, hcalms⟩, hrest⟩ := hst
        have hia : i = s.act := by
          have := List.all_eq_true.1 hbeh i (List.mem_range.2 hlt)
          simp only [Bool.or_eq_true] at this
          rcases this with (h1 | h1) | h1
          · exact absurd (natIn_iff.1 h1) hiD
          · exact nat_beq h1
          · have := H.sub _ (hanc s.act h1)
            rw [natIn_iff.2 this] at hin
            cases hin
        subst hia
        unfold stagesF at h
        rw [ho] at h
        simp only [Box.run_mk] at h
        obtain ⟨g, hgt, hslots⟩ := ready_slots hR H hi ho
        have hright := hR.right o (Array.mem_of_getElem? ho)
        have hgρ := hg.mono H.le
        have hov := ov_slots hgρ hright (fun t ht htn => hslots t (.inl ht) htn)
        have hguard := guard_one H.asize (all_put hR) hgt (fun t ht htn => hslots t (.inr ht) htn)
        have next : ∀ ρ2 v v' w2 w2', Env.le ρ ρ2 → VR ρ2 v v' → WR ⟨P, G, B, w0, pend, good⟩ ρ2 w2 w2' →
            good ((putK d o.dst).run v a fun a => cond ((again P d ops s.again).run a w2) ((runC P d ops s.calms).run a w2 fun a w => (stagesF P G ext d ops rest).run call a w K) .bad) →
            wpAny P .any ops Q fuel (listed.setIfInBounds s.act true) (a'.put o.dst v') w2' := by
          intro ρ2 v v' w2 w2' q1 q2 q3 q4
          rw [putK_eq'] at q4
          cases hag : (again P d ops s.again).run ((putF d o.dst).run v a) w2 with
          | false => rw [hag] at q4; exact absurd q4 hfi.bad
          | true =>
            rw [hag] at q4
            have H2 := act_inv hR H hiD hA hanc ho q1 q2 q3 (by
              intro k hk hkl hkC p t hp ht hrp
              refine again_ok s.again hag k ?_ p t hp ht
              have := List.all_eq_true.1 hrd k hk
              simp only [Bool.or_eq_true, Bool.not_eq_true'] at this
              rcases this with ((h1 | h1) | h1) | h1
              · rw [hkC] at h1; cases h1
              · unfold readsAt at h1; rw [hp] at h1; simp only at h1; rw [hrp] at h1; cases h1
              · exact absurd (hanc k h1) hkl
              · exact natIn_iff.1 h1)
            obtain ⟨pr2, pend2, a2, w3, H3, h3⟩ := calms_run hfi hR s.calms _ pr pend _ w2 H2 hcalms _ q4
            exact ih rest _ pr2 _ pend2 ρ2 a2 w3 _ w2' H3 hrest h3 (by omega)
        unfold wpOp
        simp only [ho]
        have run : ∀ (h : good ((operF P G ext d o).run call a w fun v w => (putK d o.dst).run v a fun a => cond ((again P d ops s.again).run a w) ((runC P d ops s.calms).run a w fun a w => (stagesF P G ext d ops rest).run call a w K) .bad)),
            o.wp P a' w' (wpAny P .any ops Q fuel (listed.setIfInBounds s.act true)) Q := by
          intro h
          exact Out.wp (operF_run (C := ⟨P, G, B, w0, pend, good⟩) hfi hgρ H.wr hcall hext hov h) next
        unfold actF at h
        rcases hguard with ⟨h1, h2⟩ | ⟨t, want, h1, _, h2⟩
        · rw [h1] at h
          rw [h2]
          exact .inl (run h)
        · rw [h1] at h
          rw [h2]
          simp only [Box.run_mk] at h
          cases hb : isBool ((opd d (.tmp t)).run a) want with
          | true => rw [hb] at h; exact .inl (run h)
          | false =>
            rw [hb] at h
            exact next ρ undef undef w w' (Env.le.refl _) VR.undef H.wr h
end
end Go.Ab
