/- A function: its arguments, its code, its results. -/
import Derived.Test.YtcjdjklggnjlbaaDoorEvZ
namespace Go.Ab
open Go.RowKit

theorem enterK_eq (d : Nat) : ∀ (l : List Value) (i : Nat) (a : AA) (K : AA → Res), enterK d l i a K = K (enterF d l i a)
  | [], _, _, _ => rfl
  | v :: l, i, a, K => by
    unfold enterK enterF
    rw [T.toK_eq]
    exact enterK_eq d l (i + 1) _ K

theorem enterF_slot (d : Nat) : ∀ (l : List Value) (i : Nat) (a : AA) (t : Nat), i + l.length ≤ 2 ^ d → t < 2 ^ d → slot d (enterF d l i a) t = if i ≤ t ∧ t < i + l.length then l[t - i]?.getD undef else slot d a t
  | [], i, a, t, _, _ => by
    unfold enterF
    rw [if_neg (by simp)]
  | v :: l, i, a, t, h, ht => by
    simp only [List.length_cons] at h
    unfold enterF
    rw [enterF_slot d l (i + 1) _ t (by omega) ht]
    by_cases h1 : i + 1 ≤ t ∧ t < i + 1 + l.length
    · rw [if_pos h1, if_pos (by simp; omega)]
      have : t - i = (t - (i + 1)) + 1 := by omega
      rw [this, List.getElem?_cons_succ]
    · rw [if_neg h1]
      have hs : slot d (T.to v (path d i) a) t = if t = i then v else slot d a t := by
        unfold slot
        rw [T.to_path, T.get_put d a i (some v) t (by omega) ht]
        split <;> rfl
      rw [hs]
      by_cases h2 : t = i
      · subst h2
        rw [if_pos rfl, if_pos (by simp), Nat.sub_self]
        rfl
      · rw [if_neg h2, if_neg (by simp; omega)]

theorem slot_e (d t : Nat) : slot d .e t = undef := by
  unfold slot
  rw [T.get_e]
  rfl

theorem enter_rel {ρ : Env} {d n : Nat} (hd : n ≤ 2 ^ d) {args : List Value} {args' : Array Value} (h : VRs ρ args args'.toList) (hn : args.length ≤ n) :
    AAR ρ d n (enterF d args 0 .e) { tmps := args' ++ Array.replicate (n - args'.size) undef, defers := [] } := by
  have hl := h.length
  simp only [Array.length_toList] at hl
  refine ⟨by simp; omega, hd, rfl, fun t ht => ?_⟩
  rw [enterF_slot d args 0 .e t (by omega) (by omega)]
  by_cases h1 : t < args.length
  · rw [if_pos (by omega), Nat.sub_zero]
    obtain ⟨u, hu, r⟩ := h.get t (List.getElem?_eq_getElem h1)
    have hu2 : args'[t]? = some u := by simpa using hu
    have hlt : t < args'.size := by omega
    rw [List.getElem?_eq_getElem h1]
    have : (args' ++ Array.replicate (n - args'.size) undef).getD t undef = u := by
      rw [Array.getD_eq_getD_getElem?, Array.getElem?_append_left hlt, hu2]
      rfl
    rw [this]
    exact r
  · rw [if_neg (by omega), slot_e]
    have : (args' ++ Array.replicate (n - args'.size) undef).getD t undef = undef := by
      rw [Array.getD_eq_getD_getElem?, Array.getElem?_append_right (by omega), Array.getElem?_replicate]
      split <;> rfl
    rw [this]
    exact VR.undef

def resTmp : ResultVar → Tmp
  | .tmp t => t
  | .cell a _ => a

def oneRes (tmps : Array Value) : ResultVar → Sem Value
  | .tmp t => pure (tmps.getD t undef)
  | .cell a t => do Go.loadVar t (← asAddr (tmps.getD a undef))

theorem resF_run {C : Ctx} {ρ : Env} {w : AW} {w' : World} (hw : WR C ρ w w') {d n : Nat} {a : AA} {a' : Act} (h : AAR ρ d n a a') {r : ResultVar} (hr : resTmp r < n) {v : Value} (hv : (resF C.P d r).run a w = some v) :
    ∃ u, (oneRes a'.tmps r).run C.P w' = .ok u w' ∧ VR ρ v u := by
  cases r with
  | tmp t =>
    cases hv
    refine ⟨_, rfl, ?_⟩
    rw [opd_slot]
    exact h.vals t hr
  | cell p t =>
    obtain ⟨q, hq, h1⟩ := addrF_some hv
    have := h.vals p hr
    rw [opd_slot] at hq
    rw [hq] at this
    obtain ⟨b, hb, hab⟩ := this.ptr_inv
    obtain ⟨u, hu, hr⟩ := loadF_sound hw hab h1
    refine ⟨u, ?_, hr⟩
    simp only [oneRes, hb]
    exact hu

theorem resAll_run {C : Ctx} {ρ : Env} {w : AW} {w' : World} (hw : WR C ρ w w') {d n : Nat} {a : AA} {a' : Act} (h : AAR ρ d n a a') : ∀ (l : List ResultVar), (∀ r ∈ l, resTmp r < n) → ∀ vs, (resAll C.P d l).run a w = some vs →
    ∃ us, (l.mapM (oneRes a'.tmps)).run C.P w' = .ok us w' ∧ VRs ρ vs us
  | [], _, vs, hv => by cases hv; exact ⟨[], rfl, .nil⟩
  | r :: l, hr, vs, hv => by
    simp only [resAll, Box.run_mk, orElse] at hv
    cases h1 : (resF C.P d r).run a w with
    | none => rw [h1] at hv; cases hv
    | some v =>
      rw [h1] at hv
      simp only at hv
      cases h2 : (resAll C.P d l).run a w with
      | none => rw [h2] at hv; cases hv
      | some vs2 =>
        rw [h2] at hv
        cases hv
        obtain ⟨u, h3, h4⟩ := resF_run hw h (hr r (by simp)) h1
        obtain ⟨us, h5, h6⟩ := resAll_run hw h l (fun r hr2 => hr r (by simp [hr2])) vs2 h2
        refine ⟨u :: us, ?_, .cons _ _ _ _ h4 h6⟩
        rw [List.mapM_cons]
        simp only [Sem.run_bind, h3, h5, Result.andThen_ok, Sem.run_pure]

theorem results_run {C : Ctx} {ρ : Env} {w : AW} {w' : World} (hw : WR C ρ w w') {d n : Nat} {a : AA} {a' : Act} (h : AAR ρ d n a a') {fn : Func} (hr : ∀ r ∈ fn.results.toList, resTmp r < n) {vs : List Value} (hv : (resAll C.P d fn.results.toList).run a w = some vs) {K : VK} (hk : C.good (resK K w vs)) :
    ∃ v v', (Go.results fn a'.tmps).run C.P w' = .ok v' w' ∧ VR ρ v v' ∧ C.good (K v w) := by
  obtain ⟨us, h1, h2⟩ := resAll_run hw h _ hr vs hv
  have hm : (fn.results.mapM (oneRes a'.tmps)).run C.P w' = .ok ⟨us⟩ w' := by
    rw [Array.mapM_eq_mapM_toList, Sem.run_map, h1]
    rfl
  have hrun : (Go.results fn a'.tmps).run C.P w' = .ok (if h : us.toArray.size = 1 then us.toArray[0] else .tuple us.toArray) w' := by
    have e : Go.results fn a'.tmps = (do let vs ← fn.results.mapM (oneRes a'.tmps); pure (if h : vs.size = 1 then vs[0] else .tuple vs)) := by
      unfold Go.results
      congr 1
    rw [e, Sem.run_bind, hm]
    rfl
  have hl := h2.length
  unfold resK at hk
  split at hk
  · rename_i v
    cases h2 with
    | cons _ u _ l r t =>
      cases t
      exact ⟨v, u, hrun, r, hk⟩
  · rename_i hne
    refine ⟨.tuple ⟨vs⟩, .tuple us.toArray, ?_, .tuple _ _ h2, hk⟩
    rw [hrun, dif_neg]
    intro h
    have : vs.length = 1 := by rw [hl]; simpa using h
    match vs, this with
    | [v], _ => exact hne v rfl

def fnOkText (G : Nat) (fn : Func) : Bool :=
  Nat.ble fn.ntmps (2 ^ deep fn.ntmps) && (match fn.body with | some c => codeRight G fn.ntmps c | none => false) && (fn.results.toList.all fun r => Nat.blt (resTmp r) fn.ntmps) && !(fn.name == "runtime.NumGoroutine")

theorem funcF_run {C : Ctx} (hfi : Fine C.good) (hm : C.P.follows .mixedOrders = true) {call : CallF} (hcall : CallOk C.P C.G C.B C.w0 call) {ext : Known} (hext : ExtOk C.P ext) {f : FuncId} {fn : Func} (hf : C.P.funcs[f]? = some fn) (hok : fnOkText C.G fn = true)
    {fuel : Nat} {args : List Value} {args' : Array Value} {w : AW} {w' : World} {ρ : Env} {K : VK} (hg : GR C.G ρ) (ha : VRs ρ args args'.toList) (hn : args.length ≤ fn.ntmps) (hw : WR C ρ w w')
    (h : C.good ((funcF C.P C.G ext fuel fn).run call args w K)) : Enterable C.P f ∧ Calls C.P f args' w' (Ends C ρ K) := by
  unfold fnOkText at hok
  simp only [Bool.and_eq_true, Bool.not_eq_true'] at hok
  obtain ⟨⟨⟨hd, hcr⟩, hres⟩, hname⟩ := hok
  have hd : fn.ntmps ≤ 2 ^ deep fn.ntmps := Nat.le_of_ble_eq_true hd
  have hres : ∀ r ∈ fn.results.toList, resTmp r < fn.ntmps := fun r hr => blt_iff.1 (List.all_eq_true.1 hres r hr)
  unfold funcF at h
  cases hb : fn.body with
  | none => rw [hb] at hcr; cases hcr
  | some c =>
    rw [hb] at h hcr
    simp only [Box.run_mk, enterK_eq] at h
    refine ⟨⟨fn, hf, by rw [hb]; rfl, by simpa using hname⟩, ?_⟩
    refine calls_of_wp hf hb (wp_mono (codeF_run hfi hcall hext (drawOk hfi hm hcall hext hd) c hcr fuel _ ρ _ w _ w' hg (enter_rel hd ha hn) hw h) ?_)
    rintro e a2' w2' ⟨x, ρ2, a2, w2, rfl, q1, q2, q3, q4⟩
    cases x with
    | normal =>
      obtain ⟨vs, hv, hk⟩ := onSome_good hfi q4
      obtain ⟨v, v', h1, h2, h3⟩ := results_run q3 q2 hres hv hk
      exact ⟨q2.defers, v', h1, v', rfl, v, ρ2, w2, q1, h2, q3, h3⟩
    | exit id => exact absurd q4 hfi.bad
    | ret =>
      obtain ⟨vs, hv, hk⟩ := onSome_good hfi q4
      obtain ⟨v, v', h1, h2, h3⟩ := results_run q3 q2 hres hv hk
      exact ⟨q2.defers, v', h1, v', rfl, v, ρ2, w2, q1, h2, q3, h3⟩
end Go.Ab
