/- Regions of open order: the evaluator's calm operations, one behind the other; the model's acts. -/
import Derived.Test.YtcjdjklggnjlbaaDoorEvU
namespace Go.Ab
open Go.RowKit

section
variable {P : Program} {G B : Nat} {w0 : World} {good : Res → Prop} {pend0 : Nat → Option Blk} {ρ0 : Env} {d n : Nat} {ops : Array Oper} {ks : List Bool} {listed : Array Bool} {ρ : Env} {a' : Act} {w' : World}

theorem calms_run (hfi : Fine good) (hR : RegOk P G d n ops ks) : ∀ (l : List Nat) (D : List Nat) (pr : Nat → Nat) (pend : Nat → Option Blk) (a : AA) (w : AW), Inv P G B w0 good pend0 ρ0 d n ops ks D pr listed pend ρ a w a' w' →
    calmsRight (masks ops.toList []) ks ops.size D l = true → ∀ (K : AA → AW → Res), good ((runC P d ops l).run a w K) →
    ∃ pr2 pend2 a2 w2, Inv P G B w0 good pend0 ρ0 d n ops ks (l.reverse ++ D) pr2 listed pend2 ρ a2 w2 a' w' ∧ good (K a2 w2)
  | [], D, pr, pend, a, w, H, _, K, h => ⟨pr, pend, a, w, H, h⟩
  | i :: l, D, pr, pend, a, w, H, hc, K, h => by
    simp only [calmsRight, Bool.and_eq_true, Bool.not_eq_true'] at hc
    obtain ⟨⟨⟨hC, hin⟩, hanc⟩, hrest⟩ := hc
    have hi : i ∉ D := fun hm => by rw [natIn_iff.2 hm] at hin; cases hin
    have hnext : ∀ pr1 pend1 a1 w1, Inv P G B w0 good pend0 ρ0 d n ops ks (i :: D) pr1 listed pend1 ρ a1 w1 a' w' → good ((runC P d ops l).run a1 w1 K) →
        ∃ pr2 pend2 a2 w2, Inv P G B w0 good pend0 ρ0 d n ops ks ((i :: l).reverse ++ D) pr2 listed pend2 ρ a2 w2 a' w' ∧ good (K a2 w2) := by
      intro pr1 pend1 a1 w1 H1 h1
      have := calms_run hfi hR l (i :: D) pr1 pend1 a1 w1 H1 hrest K h1
      rw [List.reverse_cons, List.append_assoc]
      exact this
    unfold runC at h
    cases ho : ops[i]? with
    | none => rw [ho] at h; exact absurd h hfi.bad
    | some o =>
      rw [ho] at h
      simp only at h
      have hlt : i < ops.size := (Array.getElem?_eq_some_iff.1 ho).1
      obtain ⟨hcalm, t, hdst⟩ := hR.kinds i o ho hC
      have hanc2 : ∀ j, Behind ops i j → j ∈ D := by
        intro j hj
        have hji := hR.back i o ho j hj
        have := List.all_eq_true.1 hanc j (List.mem_range.2 (by omega))
        have hj : inMask (masks ops.toList []) i j = true := hj
        rw [hj] at this
        exact natIn_iff.1 (by simpa using this)
      split at h
      · rename_i q _ hq
        obtain ⟨v, hv, hk⟩ := onSome_good hfi h
        rw [putK_eq'] at hk
        exact hnext pr pend _ w (calm_step hR H hi hC hanc2 ho hdst (fun _ _ h => h) H.wr (fun _ _ => rfl) (fun _ _ => ⟨hv, rfl⟩) (fun hn => by rw [hq] at hn; cases hn)) hk
      · rename_i f hq hf
        simp only [Box.run_mk] at h
        obtain ⟨ob, gg, hx, hlim, hk⟩ := allocK_good hfi h
        rw [putK_eq'] at hk
        refine hnext (fun k => if k = i then w.next else pr k) (fun k => if k = w.next then some ⟨ob, true⟩ else pend k) _ _ (calm_step hR H hi hC hanc2 ho hdst ?_ (H.wr.reserve ⟨ob, true⟩ hlim) ?_ ?_ ?_) hk
        · intro r b hb
          have := H.wr.fit r b hb
          rw [AW.get_push hlim, if_neg (by omega)]
          exact hb
        · intro k hk
          show (if k = i then _ else _) = _
          rw [if_neg (fun (e : k = i) => hi (e ▸ hk))]
        · intro q hq2; rw [hq] at hq2; cases hq2
        · intro _
          exact ⟨f, ob, gg, hf, hx, by simp, by simp, rfl⟩
      · exact absurd h hfi.bad

theorem again_ok : ∀ (l : List Nat) {a : AA} {w : AW}, (again P d ops l).run a w = true → ∀ i ∈ l, ∀ o t, ops[i]? = some o → o.dst = some t → (qval P d ops o).run a w = some (slot d a t)
  | [], _, _, _, i, hi, _, _, _, _ => by cases hi
  | j :: l, a, w, h, i, hi, o, t, ho, ht => by
    unfold again at h
    cases hj : ops[j]? with
    | none => rw [hj] at h; cases h
    | some p =>
      rw [hj] at h
      simp only at h
      cases hd : p.dst with
      | none =>
        rw [hd] at h
        rcases List.mem_cons.1 hi with rfl | hi
        · rw [hj] at ho; cases ho; rw [hd] at ht; cases ht
        · exact again_ok l h i hi o t ho ht
      | some u =>
        rw [hd] at h
        simp only [Box.run_mk, orElse] at h
        cases hv : (qval P d ops p).run a w with
        | none => rw [hv] at h; cases h
        | some v =>
          rw [hv] at h
          simp only at h
          cases hq : veq v ((opd d (.tmp u)).run a) with
          | false => rw [hq] at h; cases h
          | true =>
            rw [hq] at h
            rcases List.mem_cons.1 hi with rfl | hi
            · rw [hj] at ho
              cases ho
              rw [hd] at ht
              cases ht
              rw [hv, veq_sound hq, opd_slot]
            · exact again_ok l h i hi o t ho ht
end
end Go.Ab
