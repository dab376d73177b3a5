/- Regions of open order: the model's step at the next act; the whole region. -/
import Derived.Test.YtcjdjklggnjlbaaDoorEvV
namespace Go.Ab
open Go.RowKit

section
variable {P : Program} {G B : Nat} {w0 : World} {good : Res → Prop} {pend0 : Nat → Option Blk} {ρ0 : Env} {d n : Nat} {ops : Array Oper} {ks : List Bool}
    {D : List Nat} {pr : Nat → Nat} {listed : Array Bool} {pend : Nat → Option Blk} {ρ : Env} {a : AA} {w : AW} {a' : Act} {w' : World}

/-- behind an act: the invariant, where what reads has been asked again -/
theorem act_inv (hR : RegOk P G d n ops ks) (H : Inv P G B w0 good pend0 ρ0 d n ops ks D pr listed pend ρ a w a' w') {i : Nat} (hi : i ∉ D) (hA : isA ks i = true) (hanc : ∀ j, Behind ops i j → Lst listed j) {o : Oper} (ho : ops[i]? = some o)
    {ρ2 : Env} {v v' : Value} {w2 : AW} {w2' : World} (hle : Env.le ρ ρ2) (hv : VR ρ2 v v') (hwr : WR ⟨P, G, B, w0, pend, good⟩ ρ2 w2 w2')
    (hag : ∀ k ∈ D, ¬ Lst listed k → isC ks k = true → ∀ p t, ops[k]? = some p → p.dst = some t → reads P p.op = true → (qval P d ops p).run ((putF d o.dst).run v a) w2 = some (slot d ((putF d o.dst).run v a) t)) :
    Inv P G B w0 good pend0 ρ0 d n ops ks (i :: D) pr (listed.setIfInBounds i true) pend ρ2 ((putF d o.dst).run v a) w2 (a'.put o.dst v') w2' := by
  have hlt : i < ops.size := (Array.getElem?_eq_some_iff.1 ho).1
  have hls : ∀ j, Lst (listed.setIfInBounds i true) j ↔ j = i ∨ Lst listed j := fun j => lst_set (by rw [H.size]; exact hlt)
  have hnls : ∀ j, ¬ Lst (listed.setIfInBounds i true) j → ¬ Lst listed j ∧ j ≠ i := fun j h => ⟨fun k => h ((hls j).2 (.inr k)), fun k => h ((hls j).2 (.inl k))⟩
  have inD : ∀ j, j ∈ i :: D → ¬ Lst (listed.setIfInBounds i true) j → j ∈ D ∧ ¬ Lst listed j ∧ j ≠ i := by
    intro j hj hl
    obtain ⟨h1, h2⟩ := hnls j hl
    exact ⟨(List.mem_cons.1 hj).resolve_left h2, h1, h2⟩
  have hput : PutOk n o.dst := put_ok (hR.right o (Array.mem_of_getElem? ho))
  have hsl : ∀ u, u < n → slot d ((putF d o.dst).run v a) u = if o.dst = some u then v else slot d a u := fun u hu => slot_put hR.deep hput v a hu
  -- what a pending operation reads isn't touched
  have hrest : ∀ k ∈ D, ¬ Lst listed k → ∀ p, ops[k]? = some p → ∃ g, guardTmp ops p = some g ∧ ∀ u, (u ∈ tmpsOf p.op ∨ u ∈ g) → slot d a u = slot d ((putF d o.dst).run v a) u := by
    intro k hk hkl p hp
    obtain ⟨g, hg, hrd⟩ := hR.reads k p hp
    refine ⟨g, hg, fun u hu => ?_⟩
    rw [hsl u (tmp_lt hR (Array.mem_of_getElem? hp) hg hu), if_neg]
    intro hd
    rcases hrd i o u ho hd hu with h | ⟨h, _⟩
    · exact hi (H.dclosed k hk i h)
    · exact hkl (hanc k h)
  have hslk : ∀ k ∈ D, k ≠ i → ∀ p t, ops[k]? = some p → p.dst = some t → slot d ((putF d o.dst).run v a) t = slot d a t := by
    intro k hk hki p t hp ht
    rw [hsl t (dst_lt hR hp ht), if_neg (fun h => hki (hR.once k i p o t hp ho ht h))]
  have calm : ∀ k ∈ D, ¬ Lst listed k → isC ks k = true := by
    intro k hk hkl
    rcases hR.either k (H.din k hk) with h | h
    · exact h
    · exact absurd (H.acts k hk h) hkl
  refine ⟨by simp [H.size], ?_, ?_, ?_, ?_, ?_, ?_, ?_, ?_, ?_, ?_, ?_, H.base, ?_, ?_, H.le.trans hle, hwr⟩
  · intro k hk
    rcases List.mem_cons.1 hk with rfl | hk
    · exact hlt
    · exact H.din k hk
  · intro k hk
    rcases (hls k).1 hk with rfl | h
    · simp
    · exact List.mem_cons_of_mem _ (H.sub k h)
  · intro k hk hA
    rcases List.mem_cons.1 hk with rfl | hk
    · exact (hls _).2 (.inl rfl)
    · exact (hls k).2 (.inr (H.acts k hk hA))
  · intro k hk j hj
    rcases (hls k).1 hk with rfl | h
    · exact (hls j).2 (.inr (hanc j hj))
    · exact (hls j).2 (.inr (H.lclosed k h j hj))
  · intro k hk j hj
    rcases List.mem_cons.1 hk with rfl | hk
    · exact List.mem_cons_of_mem _ (H.sub j (hanc j hj))
    · exact List.mem_cons_of_mem _ (H.dclosed k hk j hj)
  · cases hd : o.dst with
    | none => exact H.asize
    | some t => simp [Act.put, H.asize]
  · cases hd : o.dst with
    | none => exact H.defers
    | some t => exact H.defers
  · intro u hu hno
    unfold SR
    rw [put_get H.asize v' hu, hsl u hu]
    by_cases h : o.dst = some u
    · rw [if_pos h, if_pos h]; exact hv
    · rw [if_neg h, if_neg h]
      refine (H.vals u hu ?_).mono hle
      intro k hk hkl p hp
      exact hno k (List.mem_cons_of_mem _ hk) (fun q => ((hls k).1 q).elim (fun e => hi (e ▸ hk)) hkl) p hp
  · intro k hk hkl p t hp ht q hq
    obtain ⟨h1, h2, h3⟩ := inD k hk hkl
    cases hrp : reads P p.op with
    | true => exact hag k h1 h2 (calm k h1 h2) p t hp ht hrp
    | false =>
      obtain ⟨g, hg, hcs⟩ := hrest k h1 h2 p hp
      rw [← qval_congr hg hcs, hslk k h1 h3 p t hp ht, qval_noread hrp w2 w]
      exact H.pq k h1 h2 p t hp ht q hq
  · intro k hk hkl p t hp ht hq
    obtain ⟨h1, h2, h3⟩ := inD k hk hkl
    obtain ⟨g, hg, hcs⟩ := hrest k h1 h2 p hp
    obtain ⟨f, ob, gg, q1, q2, q3, q4⟩ := H.pa k h1 h2 p t hp ht hq
    exact ⟨f, ob, gg, q1, by rw [← alloc_congr q1 (congr_slots fun t ht => hcs t (.inl ht))]; exact q2, by rw [hslk k h1 h3 p t hp ht]; exact q3, q4⟩
  · intro k hk j hj hkl hjl
    obtain ⟨h1, h2, _⟩ := inD k hk hkl
    obtain ⟨h3, h4, _⟩ := inD j hj hjl
    exact H.pinj k h1 j h3 h2 h4
  · intro r b hb
    rcases H.only r b hb with h | ⟨k, hk, hkl, hal, hpr⟩
    · exact .inl h
    · exact .inr ⟨k, List.mem_cons_of_mem _ hk, fun q => ((hls k).1 q).elim (fun e => hi (e ▸ hk)) hkl, hal, hpr⟩
  · intro k hk hkl
    obtain ⟨h1, h2, _⟩ := inD k hk hkl
    exact H.fresh k h1 h2
end
end Go.Ab
