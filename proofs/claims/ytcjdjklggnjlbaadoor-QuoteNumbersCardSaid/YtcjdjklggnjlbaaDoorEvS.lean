/- Regions of open order: the invariant, and the model's step at an operation that the evaluator has done. -/
import Derived.Test.YtcjdjklggnjlbaaDoorEvR
namespace Go.Ab
open Go.RowKit

def Behind (ops : Array Oper) (i j : Nat) : Prop := inMask (masks ops.toList []) i j = true

structure RegOk (P : Program) (G d n : Nat) (ops : Array Oper) (ks : List Bool) : Prop where
  deep : n ≤ 2 ^ d
  right : ∀ o ∈ ops, operRight G n o = true
  kinds : ∀ i o, ops[i]? = some o → isC ks i = true → calmOp P d o = true ∧ ∃ t, o.dst = some t
  either : ∀ i, i < ops.size → isC ks i = true ∨ isA ks i = true
  reads : ∀ i o, ops[i]? = some o → ∃ g, guardTmp ops o = some g ∧ ∀ j p t, ops[j]? = some p → p.dst = some t → (t ∈ tmpsOf o.op ∨ t ∈ g) → Behind ops i j ∨ (Behind ops j i ∧ isA ks j = true)
  edges : ∀ i o, ops[i]? = some o → ∀ e ∈ o.after, Region.binds .any e = true → e.on < i
  back : ∀ i o, ops[i]? = some o → ∀ j, Behind ops i j → j < i
  once : ∀ (i j : Nat) (o p : Oper) (t : Tmp), ops[i]? = some o → ops[j]? = some p → o.dst = some t → p.dst = some t → i = j

theorem isC_isA {ks : List Bool} {i : Nat} (h : isC ks i = true) : isA ks i = false := by
  unfold isC at h
  unfold isA
  split at h
  · rename_i b hb; subst h; rfl
  · cases h

def Lst (listed : Array Bool) (i : Nat) : Prop := listed.getD i false = true

def isAl (P : Program) (d : Nat) (ops : Array Oper) (i : Nat) : Prop := ∃ o, ops[i]? = some o ∧ quiet P d o.op = none

structure Inv (P : Program) (G B : Nat) (w0 : World) (good : Res → Prop) (pend0 : Nat → Option Blk) (ρ0 : Env) (d n : Nat) (ops : Array Oper) (ks : List Bool)
    (D : List Nat) (pr : Nat → Nat) (listed : Array Bool) (pend : Nat → Option Blk) (ρ : Env) (a : AA) (w : AW) (a' : Act) (w' : World) : Prop where
  size : listed.size = ops.size
  din : ∀ i ∈ D, i < ops.size
  sub : ∀ i, Lst listed i → i ∈ D
  acts : ∀ i ∈ D, isA ks i = true → Lst listed i
  lclosed : ∀ i, Lst listed i → ∀ j, Behind ops i j → Lst listed j
  dclosed : ∀ i ∈ D, ∀ j, Behind ops i j → j ∈ D
  asize : a'.tmps.size = n
  defers : a'.defers = []
  vals : ∀ t, t < n → (∀ i ∈ D, ¬ Lst listed i → ∀ o, ops[i]? = some o → o.dst ≠ some t) → SR ρ d a a' t
  pq : ∀ i ∈ D, ¬ Lst listed i → ∀ o t, ops[i]? = some o → o.dst = some t → ∀ q, quiet P d o.op = some q → (qval P d ops o).run a w = some (slot d a t)
  pa : ∀ i ∈ D, ¬ Lst listed i → ∀ o t, ops[i]? = some o → o.dst = some t → quiet P d o.op = none → ∃ f ob g, allocF P d o.op = some f ∧ f.run a = some (ob, g) ∧ slot d a t = g (pr i) ∧ pend (pr i) = some ⟨ob, true⟩
  pinj : ∀ i ∈ D, ∀ j ∈ D, ¬ Lst listed i → ¬ Lst listed j → isAl P d ops i → isAl P d ops j → pr i = pr j → i = j
  base : ∀ r b, pend0 r = some b → pend r = some b
  only : ∀ r b, pend r = some b → pend0 r = some b ∨ ∃ i ∈ D, ¬ Lst listed i ∧ isAl P d ops i ∧ pr i = r
  fresh : ∀ i ∈ D, ¬ Lst listed i → isAl P d ops i → pend0 (pr i) = none
  le : Env.le ρ0 ρ
  wr : WR ⟨P, G, B, w0, pend, good⟩ ρ w w'

theorem lst_set {listed : Array Bool} {i j : Nat} (hi : i < listed.size) : Lst (listed.setIfInBounds i true) j ↔ j = i ∨ Lst listed j := by
  unfold Lst
  by_cases h : j = i
  · subst h
    simp [hi]
  · rw [getD_set_ne false (fun k => h k.symm)]
    simp [h]

section
variable {P : Program} {G B : Nat} {w0 : World} {good : Res → Prop} {pend0 : Nat → Option Blk} {ρ0 : Env} {d n : Nat} {ops : Array Oper} {ks : List Bool}
    {D : List Nat} {pr : Nat → Nat} {listed : Array Bool} {pend : Nat → Option Blk} {ρ : Env} {a : AA} {w : AW} {a' : Act} {w' : World}

/-- what is ready stands behind nothing that isn't listed -/
theorem ready_anc (H : Inv P G B w0 good pend0 ρ0 d n ops ks D pr listed pend ρ a w a' w') {i : Nat} (hr : i ∈ Region.ready .any ops listed) :
    ¬ Lst listed i ∧ i < ops.size ∧ ∃ o, ops[i]? = some o ∧ ∀ j, Behind ops i j → Lst listed j := by
  obtain ⟨h0, o, ho, hall⟩ := mem_ready.1 hr
  have hlt : i < ops.size := (Array.getElem?_eq_some_iff.1 ho).1
  refine ⟨?_, hlt, o, ho, ?_⟩
  · unfold Lst
    have : i < listed.size := by rw [H.size]; exact hlt
    simp [this] at h0
    simp [this, h0]
  · intro j hj
    obtain ⟨e, he, hb, h1⟩ := masks_spec ho hj
    have hl : Lst listed e.on := hall e he hb
    rcases h1 with rfl | h1
    · exact hl
    · exact H.lclosed _ hl j h1

/-- the slots that a ready operation reads stand in the relation -/
theorem ready_slots (hR : RegOk P G d n ops ks) (H : Inv P G B w0 good pend0 ρ0 d n ops ks D pr listed pend ρ a w a' w') {i : Nat} (hr : i ∈ Region.ready .any ops listed) {o : Oper} (ho : ops[i]? = some o) :
    ∃ g, guardTmp ops o = some g ∧ ∀ t, (t ∈ tmpsOf o.op ∨ t ∈ g) → t < n → SR ρ d a a' t := by
  obtain ⟨_, _, _, _, hanc⟩ := ready_anc H hr
  obtain ⟨g, hg, hreads⟩ := hR.reads i o ho
  refine ⟨g, hg, fun t ht htn => H.vals t htn ?_⟩
  intro k hk hkl p hp hdst
  rcases hreads k p t hp hdst ht with h | ⟨h, hA⟩
  · exact hkl (hanc k h)
  · exact hkl (H.acts k hk hA)

/-- an operation that the evaluator has done is done by the model -/
theorem Inv.list (_hR : RegOk P G d n ops ks) (H : Inv P G B w0 good pend0 ρ0 d n ops ks D pr listed pend ρ a w a' w') {i : Nat} (hi : i ∈ D) (hnl : ¬ Lst listed i) (hanc : ∀ j, Behind ops i j → Lst listed j) {o : Oper} (ho : ops[i]? = some o) {t : Tmp} (hdst : o.dst = some t)
    {pend2 : Nat → Option Blk} {ρ2 : Env} {w2' : World} {v' : Value} (hle : Env.le ρ ρ2) (hwr : WR ⟨P, G, B, w0, pend2, good⟩ ρ2 w w2') (hv : VR ρ2 (slot d a t) v')
    (hp1 : ∀ r b, pend0 r = some b → pend2 r = some b) (hp2 : ∀ r b, pend2 r = some b → pend0 r = some b ∨ ∃ k ∈ D, ¬ Lst listed k ∧ k ≠ i ∧ isAl P d ops k ∧ pr k = r)
    (hp3 : ∀ k ∈ D, ¬ Lst listed k → k ≠ i → isAl P d ops k → pend2 (pr k) = pend (pr k)) :
    Inv P G B w0 good pend0 ρ0 d n ops ks D pr (listed.setIfInBounds i true) pend2 ρ2 a w (a'.put o.dst v') w2' := by
  have hlt : i < listed.size := by rw [H.size]; exact H.din i hi
  have hls : ∀ j, Lst (listed.setIfInBounds i true) j ↔ j = i ∨ Lst listed j := fun j => lst_set hlt
  have hnls : ∀ j, ¬ Lst (listed.setIfInBounds i true) j → ¬ Lst listed j ∧ j ≠ i := fun j h => ⟨fun k => h ((hls j).2 (.inr k)), fun k => h ((hls j).2 (.inl k))⟩
  refine ⟨by simp [H.size], H.din, ?_, ?_, ?_, H.dclosed, ?_, ?_, ?_, ?_, ?_, ?_, hp1, ?_, ?_, H.le.trans hle, hwr⟩
  · intro j hj
    rcases (hls j).1 hj with rfl | h
    · exact hi
    · exact H.sub j h
  · exact fun j hj hA => (hls j).2 (.inr (H.acts j hj hA))
  · intro j hj k hk
    rcases (hls j).1 hj with rfl | h
    · exact (hls k).2 (.inr (hanc k hk))
    · exact (hls k).2 (.inr (H.lclosed j h k hk))
  · rw [hdst]; simp [Act.put, H.asize]
  · rw [hdst]; exact H.defers
  · intro u hu hno
    unfold SR
    rw [put_get H.asize v' hu]
    by_cases h : o.dst = some u
    · rw [if_pos h]
      rw [hdst] at h
      cases h
      exact hv
    · rw [if_neg h]
      refine (H.vals u hu ?_).mono hle
      intro k hk hkl p hp
      by_cases hki : k = i
      · subst hki
        rw [ho] at hp
        cases hp
        exact h
      · exact hno k hk (fun q => ((hls k).1 q).elim hki hkl) p hp
  · exact fun j hj hjl => H.pq j hj (hnls j hjl).1
  · intro j hj hjl p u hp hu hq
    obtain ⟨f, ob, g, h1, h2, h3, h4⟩ := H.pa j hj (hnls j hjl).1 p u hp hu hq
    exact ⟨f, ob, g, h1, h2, h3, by rw [hp3 j hj (hnls j hjl).1 (hnls j hjl).2 ⟨p, hp, hq⟩]; exact h4⟩
  · exact fun j hj k hk hjl hkl => H.pinj j hj k hk (hnls j hjl).1 (hnls k hkl).1
  · intro r b hb
    rcases hp2 r b hb with h | ⟨k, hk, hkl, hki, hal, hpr⟩
    · exact .inl h
    · exact .inr ⟨k, hk, fun q => ((hls k).1 q).elim hki hkl, hal, hpr⟩
  · exact fun j hj hjl => H.fresh j hj (hnls j hjl).1
end
end Go.Ab
