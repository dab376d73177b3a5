/- Regions of open order: what the plan's check gives; the region in the program. -/
import Derived.Test.YtcjdjklggnjlbaaDoorEvY
namespace Go.Ab
open Go.RowKit

theorem tmpIn_iff {l : List Tmp} {t : Tmp} : tmpIn l t = true ↔ t ∈ l := natIn_iff

theorem regOk_of {P : Program} {G d n : Nat} {ops : Array Oper} {p : Plan} (hd : n ≤ 2 ^ d) (hall : ∀ o ∈ ops, operRight G n o = true) (h : planOk P d ops p = true) : RegOk P G d n ops p.kinds := by
  unfold planOk at h
  simp only [Bool.and_eq_true] at h
  obtain ⟨⟨⟨hk, hr⟩, _⟩, _⟩ := h
  unfold kindsRight at hk
  rw [Bool.and_eq_true] at hk
  obtain ⟨hlen, hk⟩ := hk
  have hlen := nat_beq hlen
  have hright : ∀ i o, ops[i]? = some o → rightAt ops (masks ops.toList []) p.kinds i o = true := by
    intro i o ho
    have := List.all_eq_true.1 hr i (List.mem_range.2 (Array.getElem?_eq_some_iff.1 ho).1)
    rw [ho] at this
    exact this
  have hedges : ∀ i o, ops[i]? = some o → ∀ e ∈ o.after, Region.binds .any e = true → e.on < i := by
    intro i o ho e he hb
    have := hright i o ho
    unfold rightAt at this
    rw [Bool.and_eq_true] at this
    have := List.all_eq_true.1 this.1 e (by simpa using he)
    rw [binds_any] at hb
    rw [hb] at this
    exact blt_iff.1 (by simpa using this)
  have hback : ∀ i o, ops[i]? = some o → ∀ j, Behind ops i j → j < i := by
    intro i
    induction i using Nat.strongRecOn with
    | _ i ih =>
      intro o ho j hj
      obtain ⟨e, he, hb, h1⟩ := masks_spec ho hj
      have hlt := hedges i o ho e he hb
      rcases h1 with rfl | h1
      · exact hlt
      · have hsz : e.on < ops.size := by have := (Array.getElem?_eq_some_iff.1 ho).1; omega
        have := ih e.on hlt ops[e.on] (by simp [hsz]) j h1
        omega
  have hpair : ∀ i o j q t, ops[i]? = some o → ops[j]? = some q → q.dst = some t → ∃ g, guardTmp ops o = some g ∧
      ((t ∈ tmpsOf o.op ∨ t ∈ g) → Behind ops i j ∨ (Behind ops j i ∧ isA p.kinds j = true)) ∧ (o.dst = some t → i = j) := by
    intro i o j q t ho hq ht
    have := hright i o ho
    unfold rightAt at this
    rw [Bool.and_eq_true] at this
    have h2 := this.2
    cases hg : guardTmp ops o with
    | none => rw [hg] at h2; cases h2
    | some g =>
      rw [hg] at h2
      have h3 := List.all_eq_true.1 h2 j (List.mem_range.2 (Array.getElem?_eq_some_iff.1 hq).1)
      rw [hq] at h3
      simp only [ht, Bool.and_eq_true, Bool.or_eq_true] at h3
      refine ⟨g, rfl, ?_, ?_⟩
      · intro hm
        rcases h3.1 with (h4 | h4) | h4
        · exfalso
          have : (tmpIn (tmpsOf o.op) t || tmpIn g t) = true := by
            rw [Bool.or_eq_true]
            exact hm.imp tmpIn_iff.2 tmpIn_iff.2
          rw [this] at h4
          cases h4
        · exact .inl h4
        · exact .inr h4
      · intro hd
        rcases h3.2 with h4 | h4
        · exact nat_beq h4
        · rw [hd] at h4
          simp at h4
  refine ⟨hd, hall, ?_, ?_, ?_, hedges, hback, ?_⟩
  · intro i o ho hC
    have := List.all_eq_true.1 hk i (List.mem_range.2 (Array.getElem?_eq_some_iff.1 ho).1)
    unfold isC at hC
    rw [ho] at this
    cases hki : p.kinds[i]? with
    | none => rw [hki] at hC; cases hC
    | some b =>
      rw [hki] at hC this
      have hC : b = true := hC
      subst hC
      simp only [Bool.and_eq_true] at this
      exact ⟨this.1, Option.isSome_iff_exists.1 this.2⟩
  · intro i hi
    unfold isC isA
    have : i < p.kinds.length := by omega
    rw [List.getElem?_eq_getElem this]
    cases p.kinds[i] <;> simp
  · intro i o ho
    have := hright i o ho
    cases hg : guardTmp ops o with
    | none =>
      unfold rightAt at this
      rw [hg, Bool.and_eq_true] at this
      cases this.2
    | some g =>
      refine ⟨g, rfl, fun j q t hq ht hm => ?_⟩
      obtain ⟨g2, hg2, h1, _⟩ := hpair i o j q t ho hq ht
      rw [hg] at hg2
      cases hg2
      exact h1 hm
  · intro i j o q t ho hq ht hqt
    obtain ⟨_, _, _, h2⟩ := hpair i o j q t ho hq hqt
    exact h2 ht

theorem drawOk {C : Ctx} (hfi : Fine C.good) (hm : C.P.follows .mixedOrders = true) {call : CallF} (hcall : CallOk C.P C.G C.B C.w0 call) {ext : Known} (hext : ExtOk C.P ext) {d n : Nat} (hd : n ≤ 2 ^ d) : DrawOk C call ext d n := by
  intro id ops hall K ρ a w a' w' hg haar hwr h
  obtain ⟨P, G, B, w0, pend, good⟩ := C
  unfold drawF drawP at h
  cases hp : planOk P d ops (planOf P d ops) with
  | false => rw [hp] at h; exact absurd h hfi.bad
  | true =>
    rw [hp] at h
    have hR := regOk_of hd hall hp
    simp only [cond_true, Box.run_mk] at h
    unfold planOk at hp
    simp only [Bool.and_eq_true] at hp
    obtain ⟨⟨⟨_, _⟩, hfirst⟩, hstages⟩ := hp
    have hno : ∀ i, ¬ Lst (Array.replicate ops.size false) i := by
      intro i hi
      unfold Lst at hi
      by_cases hs : i < ops.size <;> simp [hs] at hi
    have H0 : Inv P G B w0 good pend ρ d n ops (planOf P d ops).kinds [] (fun _ => 0) (Array.replicate ops.size false) pend ρ a w a' { w' with drawn := w'.drawn + 1 } := by
      refine ⟨by simp, ?_, fun i hi => absurd hi (hno i), ?_, fun i hi => absurd hi (hno i), ?_, haar.size, haar.defers, fun t ht _ => haar.vals t ht, ?_, ?_, ?_, fun _ _ h => h, fun _ _ h => .inl h, ?_, Env.le.refl _, hwr.drawn _⟩
      all_goals intro i hi; cases hi
    obtain ⟨pr2, pend2, a2, w2, H2, h2⟩ := calms_run hfi hR _ _ _ _ _ _ H0 hfirst _ h
    rw [List.append_nil] at H2
    refine wp_region_any hm ?_
    refine region_run hfi hg hR hcall hext (K := K .normal) ?_ ops.size _ _ pr2 _ pend2 ρ a2 w2 a' _ H2 hstages h2 ?_
    · intro ρ2 a w a' w' q1 q2 q3 q4
      exact ⟨.normal, ρ2, a, w, rfl, q1, q2, q3, q4⟩
    · unfold unlisted
      have := List.length_filter_le (fun i => !(Array.replicate ops.size false).getD i false) (List.range ops.size)
      simpa using this
end Go.Ab
