/- Regions of open order: the model does what the evaluator has done. -/
import Derived.Test.YtcjdjklggnjlbaaDoorEvS
namespace Go.Ab
open Go.RowKit

section
variable {P : Program} {G B : Nat} {w0 : World} {good : Res → Prop} {pend0 : Nat → Option Blk} {ρ0 : Env} {d n : Nat} {ops : Array Oper} {ks : List Bool}
    {D : List Nat} {pr : Nat → Nat} {listed : Array Bool} {pend : Nat → Option Blk} {ρ : Env} {a : AA} {w : AW} {a' : Act} {w' : World}

theorem dst_lt (hR : RegOk P G d n ops ks) {i : Nat} {o : Oper} (ho : ops[i]? = some o) {t : Tmp} (ht : o.dst = some t) : t < n := by
  have := put_ok (hR.right o (Array.mem_of_getElem? ho))
  rw [ht] at this
  exact this

theorem all_put (hR : RegOk P G d n ops ks) : ∀ o ∈ ops, putRight n o.dst = true := by
  intro o ho
  have := hR.right o ho
  unfold operRight at this
  rw [Bool.and_eq_true] at this
  exact this.2

theorem step_done (hg : GR G ρ0) (hR : RegOk P G d n ops ks) (H : Inv P G B w0 good pend0 ρ0 d n ops ks D pr listed pend ρ a w a' w') {i : Nat} (hi : i ∈ D) (hr : i ∈ Region.ready .any ops listed) {Q : Exit → Act → World → Prop} {K : Act → World → Prop}
    (hK : ∀ pend2 ρ2 a2' w2', Inv P G B w0 good pend0 ρ0 d n ops ks D pr (listed.setIfInBounds i true) pend2 ρ2 a w a2' w2' → K a2' w2') : wpOp P ops Q i K a' w' := by
  obtain ⟨hnl, hlt, o, ho, hanc⟩ := ready_anc H hr
  obtain ⟨g, hgt, hslots⟩ := ready_slots hR H hr ho
  have hC : isC ks i = true := by
    rcases hR.either i hlt with h | h
    · exact h
    · exact absurd (H.acts i hi h) hnl
  obtain ⟨hcalm, t, hdst⟩ := hR.kinds i o ho hC
  have hright := hR.right o (Array.mem_of_getElem? ho)
  have hgρ := hg.mono H.le
  have hov := ov_slots hgρ hright (fun t ht htn => hslots t (.inl ht) htn)
  have hguard := guard_one H.asize (all_put hR) hgt (fun t ht htn => hslots t (.inr ht) htn)
  unfold wpOp
  simp only [ho]
  cases hq : quiet P d o.op with
  | some q =>
    have hval := H.pq i hi hnl o t ho hdst q hq
    -- the invariant behind the step, for a value that stands in the relation
    have fin : ∀ v', VR ρ (slot d a t) v' → K (a'.put o.dst v') w' := by
      intro v' hv'
      refine hK pend ρ _ w' (H.list hR hi hnl hanc ho hdst (Env.le.refl _) H.wr hv' H.base ?_ (fun _ _ _ _ _ => rfl))
      intro r b hb
      rcases H.only r b hb with h | ⟨k, hk, hkl, hal, hpr⟩
      · exact .inl h
      · refine .inr ⟨k, hk, hkl, ?_, hal, hpr⟩
        intro hki
        subst hki
        obtain ⟨o2, ho2, hn2⟩ := hal
        rw [ho] at ho2
        cases ho2
        rw [hq] at hn2
        cases hn2
    have run : q.run a w = some (slot d a t) → o.wp P a' w' K Q := by
      intro hrun
      obtain ⟨v', h1, h2⟩ := quiet_run H.wr hq hov hrun
      unfold Oper.wp
      have h1 : (execOp a'.eval o).run P w' = .ok (.value v') w' := h1 w' (.inr rfl)
      rw [h1]
      exact fin v' h2
    unfold qval at hval
    rw [hq] at hval
    rcases hguard with ⟨h1, h2⟩ | ⟨u, want, h1, _, h2⟩
    · rw [h1] at hval
      rw [h2]
      exact .inl (run hval)
    · rw [h1] at hval
      rw [h2]
      simp only [Box.run_mk] at hval
      cases hb : isBool ((opd d (.tmp u)).run a) want with
      | true => rw [hb] at hval; exact .inl (run hval)
      | false =>
        rw [hb] at hval
        have hval : undef = slot d a t := Option.some.inj hval
        exact fin undef (by rw [← hval]; exact VR.undef)
  | none =>
    obtain ⟨f, ob, gg, hf, hfr, hsl, hpd⟩ := H.pa i hi hnl o t ho hdst hq
    have hng : o.guard = none := by
      unfold calmOp at hcalm
      rw [hq] at hcalm
      simp only [Option.isSome_none, Bool.false_or, Bool.and_eq_true, Option.isNone_iff_eq_none] at hcalm
      exact hcalm.2
    have hw : Region.wanted o (yielded ops a'.tmps) = true := by unfold Region.wanted; rw [hng]
    rw [hw]
    refine .inl ?_
    obtain ⟨s, o', g', he, hm, hor, hvr⟩ := alloc_run (C := ⟨P, G, B, w0, pend, good⟩) (ρ := ρ) hf hov hfr
    unfold Oper.wp
    have hrun : (do pure (.value (← s)) : Sem Next).run P w' = .ok (.value (g' w'.heap.size)) { w' with heap := w'.heap.push o' } := by
      have hm : s.run P w' = _ := hm w'
      rw [Sem.run_bind, hm]
      rfl
    rw [he, hrun]
    have hal : isAl P d ops i := ⟨o, ho, hq⟩
    have hnone : ρ (pr i) = none := (H.wr.pend _ _ hpd).2.1
    refine hK (fun k => if k = pr i then none else pend k) (ρ.ext (pr i) ⟨w'.heap.size, 0⟩) _ _ (H.list hR hi hnl hanc ho hdst (Env.le_ext _ hnone) (H.wr.adopt hpd o' hor) ?_ ?_ ?_ ?_)
    · rw [hsl]
      exact hvr _ _ _ (Env.le_ext _ hnone) Env.ext_same
    · intro r b hb
      have := H.fresh i hi hnl hal
      show (if r = pr i then none else pend r) = some b
      rw [if_neg (by intro k; subst k; rw [this] at hb; cases hb)]
      exact H.base r b hb
    · intro r b hb
      have hb : (if r = pr i then none else pend r) = some b := hb
      split at hb
      · cases hb
      · rename_i hne
        rcases H.only r b hb with h | ⟨k, hk, hkl, halk, hpr⟩
        · exact .inl h
        · exact .inr ⟨k, hk, hkl, fun hki => hne (by rw [← hpr, hki]), halk, hpr⟩
    · intro k hk hkl hki halk
      show (if pr k = pr i then none else pend (pr k)) = pend (pr k)
      rw [if_neg]
      intro hp
      exact hki (H.pinj k hk i hi hkl hnl halk hal hp)
end
end Go.Ab
