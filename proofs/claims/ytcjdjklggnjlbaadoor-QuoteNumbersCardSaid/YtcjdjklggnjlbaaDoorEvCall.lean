/- Calls, by induction on their depth. -/
import Derived.Test.YtcjdjklggnjlbaaDoorEvFn
namespace Go.Ab
open Go.RowKit

theorem WR.after {C : Ctx} {ρ : Env} {w : AW} {w' w'' : World} (h : WR C ρ w w') (hb : Below w'.heap.size w' w'') : WR C ρ w w'' := by
  refine ⟨h.top, ?_, h.inj, ?_, ?_, h.pend, h.fit⟩
  · intro i b e h1 h2
    obtain ⟨o', h3, h4⟩ := h.live i b e h1 h2
    exact ⟨o', by rw [hb.block _ (heap_lt h3)]; exact h3, h4⟩
  · exact h.below.trans (hb.mono h.big)
  · exact Nat.le_trans h.big hb.size

/-- functions whose answers are known -/
def KnOk (P : Program) (kn : Known) : Prop :=
  ∀ f k args v, kn f = some k → k args = some v → ∀ (ρ : Env) (args' : Array Value), VRs ρ args args'.toList → ∃ v', VR ρ v v' ∧ Enterable P f ∧ ∀ w' : World, Calls P f args' w' fun en w'' => en = .returned v' ∧ Below w'.heap.size w' w''

theorem callOk {P : Program} {G B : Nat} {w0 : World} (hm : P.follows .mixedOrders = true) {ext kn : Known} (hext : ExtOk P ext) (hkn : KnOk P kn) {jn : FuncId → Bool} (hj : ∀ f, jn f = false) (fuel : Nat) :
    ∀ depth, CallOk P G B w0 (evCall P G ext kn jn (fnOkText G) fuel depth) := by
  intro depth
  induction depth with
  | zero => intro pend good hfi f args args' w w' ρ K _ _ _ h; exact absurd h hfi.bad
  | succ depth ih =>
    intro pend good hfi f args args' w w' ρ K hg ha hw h
    have h : good ((funcAt P G ext kn jn (fnOkText G) fuel f).run (evCall P G ext kn jn (fnOkText G) fuel depth) args w K) := h
    unfold funcAt at h
    cases hk : kn f with
    | some k =>
      rw [hk] at h
      obtain ⟨v, hv, hk2⟩ := onSome_good hfi h
      obtain ⟨v', h1, h2, h3⟩ := hkn f k args v hk hv ρ args' ha
      refine ⟨h2, Calls.mono (h3 w') ?_⟩
      rintro en w'' ⟨rfl, hb⟩
      exact ⟨v', rfl, v, ρ, w, Env.le.refl _, h1, hw.after hb, hk2⟩
    | none =>
      rw [hk] at h
      simp only at h
      cases hf : P.funcs[f]? with
      | none => rw [hf] at h; exact absurd h hfi.bad
      | some fn =>
        rw [hf] at h
        simp only at h
        cases hok : fnOkText G fn with
        | false => rw [hok] at h; exact absurd h hfi.bad
        | true =>
          rw [hok, hj f] at h
          simp only [cond_true, cond_false, Box.run_mk] at h
          cases hn : Nat.ble args.length fn.ntmps with
          | false => rw [hn] at h; exact absurd h hfi.bad
          | true =>
            rw [hn] at h
            exact funcF_run (C := ⟨P, G, B, w0, pend, good⟩) hfi hm ih hext hf hok hg ha (Nat.le_of_ble_eq_true hn) hw h
end Go.Ab
