/- From the evaluator's word to a call. -/
import Derived.Test.YtcjdjklggnjlbaaDoorEvCall
namespace Go.Ab
open Go.RowKit

/-- all ways end, and none leaves anything to ask -/
def Done (r : Res) : Prop := r = .ok []

theorem done_fine : Fine Done := by
  refine ⟨fun h => (by cases h), ?_⟩
  intro a b h
  unfold Done at *
  cases a with
  | bad => cases h
  | ok l =>
    cases b with
    | bad => cases h
    | ok m =>
      have h : l ++ m = [] := by
        have := h
        injection this
      obtain ⟨h1, h2⟩ := List.append_eq_nil_iff.1 h
      rw [h1, h2]
      exact ⟨rfl, rfl⟩

/-- what is asked at the end: one certain value -/
noncomputable def yes : VK := fun v _ => match v with | .bool true => .ok [] | _ => .bad

theorem yes_done {v : Value} {w : AW} (h : Done (yes v w)) : v = .bool true := by
  unfold yes at h
  split at h
  · rfl
  · cases h

/-- a world of which nothing is known but where the program's own variables lie -/
theorem WR.start {P : Program} {G B : Nat} {w' : World} (hB : B ≤ w'.heap.size) : WR ⟨P, G, B, w', fun _ => none, Done⟩ (fun i => if i < G then some ⟨i, 0⟩ else none) ⟨G, .e⟩ w' := by
  have hget : ∀ i, (⟨G, .e⟩ : AW).get i = none := by
    intro i
    unfold AW.get
    cases Nat.blt i lim with
    | false => rfl
    | true => exact T.get_e dep i
  refine ⟨?_, ?_, ?_, Below.refl _ _, hB, ?_, ?_⟩
  · intro i hi
    exact if_neg (by have : G ≤ i := hi; omega)
  · intro i b e h; rw [hget] at h; cases h
  · intro i j b c e f h; rw [hget] at h; cases h
  · intro i b h; cases h
  · intro i b h; rw [hget] at h; cases h

/-- a function that asks for nothing answers true in every world -/
theorem answers_true {P : Program} {G : Nat} (hm : P.follows .mixedOrders = true) {ext kn : Known} (hext : ExtOk P ext) (hkn : KnOk P kn) {fuel depth : Nat} {f : FuncId}
    (h : Done (evCall P G ext kn (fun _ => false) (fnOkText G) fuel depth f [] ⟨G, .e⟩ yes)) {w' : World} :
    Calls P f #[] w' fun en w'' => en = .returned (.bool true) ∧ Below w'.heap.size w' w'' := by
  have hg : GR G (fun i => if i < G then some ⟨i, 0⟩ else none) := fun g hg => if_pos hg
  have := (callOk (B := w'.heap.size) (w0 := w') hm hext hkn (fun _ => rfl) fuel depth (fun _ => none) Done done_fine f [] #[] ⟨G, .e⟩ w' _ yes hg .nil (WR.start (Nat.le_refl _)) h).2
  refine Calls.mono this ?_
  rintro en w'' ⟨v', rfl, v, ρ2, w3, _, hv, hw, hd⟩
  have := yes_done hd
  subst this
  exact ⟨by rw [hv.bool_inv], hw.below⟩
end Go.Ab
