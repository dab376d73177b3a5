/- An operation that acts. -/
import Derived.Test.YtcjdjklggnjlbaaDoorEvM
namespace Go.Ab
open Go.RowKit

/-- a function that is entered by a call -/
def Enterable (P : Program) (f : FuncId) : Prop := ∃ fn, P.funcs[f]? = some fn ∧ fn.body.isSome = true ∧ fn.name ≠ "runtime.NumGoroutine"

/-- how a call ends: the value and the world stand in the relation, and the rest is good -/
def Ends (C : Ctx) (ρ : Env) (K : VK) (en : Ending) (w3' : World) : Prop :=
  ∃ v', en = .returned v' ∧ ∃ v ρ2 w3, Env.le ρ ρ2 ∧ VR ρ2 v v' ∧ WR C ρ2 w3 w3' ∧ C.good (K v w3)

def CallOk (P : Program) (G B : Nat) (w0 : World) (call : CallF) : Prop :=
  ∀ (pend : Nat → Option Blk) (good : Res → Prop), Fine good → ∀ (f : FuncId) (args : List Value) (args' : Array Value) (w : AW) (w' : World) (ρ : Env) (K : VK), GR G ρ → VRs ρ args args'.toList →
    WR ⟨P, G, B, w0, pend, good⟩ ρ w w' → good (call f args w K) → Enterable P f ∧ Calls P f args' w' (Ends ⟨P, G, B, w0, pend, good⟩ ρ K)

def ExtOk (P : Program) (ext : Known) : Prop :=
  ∀ f k args v, ext f = some k → k args = some v → ∀ (ρ : Env) (args' : Array Value), VRs ρ args args'.toList → ∃ v', (∀ w', (callFunc f args').run P w' = .ok (.value v') w') ∧ VR ρ v v'

/-- what becomes of an operation that acts -/
def Out (C : Ctx) (ρ : Env) (w' : World) (s : Sem Next) (K : VK) : Prop :=
  (∃ v v' ρ2 w2 w2', s.run C.P w' = .ok (.value v') w2' ∧ Env.le ρ ρ2 ∧ VR ρ2 v v' ∧ WR C ρ2 w2 w2' ∧ C.good (K v w2)) ∨
  (∃ w2 w2', s.run C.P w' = .ok .skip w2' ∧ WR C ρ w2 w2' ∧ C.good (K undef w2)) ∨
  (∃ f args, s.run C.P w' = .ok (.enter f args) w' ∧ Calls C.P f args w' (Ends C ρ K))

theorem Out.gets {C : Ctx} {ρ : Env} {w' : World} {s : Sem Value} {K : VK} (h : Gets C ρ w' s K) : Out C ρ w' (do pure (.value (← s))) K := by
  obtain ⟨v, v', ρ2, w2, w2', h1, h2, h3, h4, h5⟩ := h
  exact .inl ⟨v, v', ρ2, w2, w2', by rw [Sem.run_bind, h1]; rfl, h2, h3, h4, h5⟩

theorem Out.stay {C : Ctx} {ρ : Env} {w : AW} {w' : World} {s : Sem Value} {K : VK} {v v' : Value} (h : s.run C.P w' = .ok v' w') (hv : VR ρ v v') (hw : WR C ρ w w') (hk : C.good (K v w)) : Gets C ρ w' s K :=
  ⟨v, v', ρ, w, w', h, Env.le.refl _, hv, hw, hk⟩

theorem onSome_good {α : Type} {x : Option α} {k : α → Res} {good : Res → Prop} (hfi : Fine good) (h : good (onSome x k)) : ∃ v, x = some v ∧ good (k v) := by
  cases x with
  | none => exact absurd h hfi.bad
  | some v => exact ⟨v, rfl, h⟩

theorem run_enter {P : Program} {f : FuncId} (h : Enterable P f) (args : Array Value) (w : World) : (callFunc f args).run P w = .ok (.enter f args) w := by
  obtain ⟨fn, hf, hb, hn⟩ := h
  have hn : (fn.name == "runtime.NumGoroutine") = false := by simpa using hn
  have hb : fn.body.isNone = false := by cases hq : fn.body with | none => rw [hq] at hb; cases hb | some _ => rfl
  simp only [callFunc, Sem.run_bind, run_prog, Result.andThen_ok, hf, hn, hb, Bool.false_eq_true, if_false]
  rfl

theorem goK_run {C : Ctx} {ρ : Env} {w : AW} {w' : World} (hfi : Fine C.good) (hg : GR C.G ρ) (hw : WR C ρ w w') {call : CallF} (hc : CallOk C.P C.G C.B C.w0 call) {ext : Known} (he : ExtOk C.P ext) {g : FuncId} {args : List Value} {args' : Array Value} (ha : VRs ρ args args'.toList) {K : VK}
    (h : C.good (goK ext g args call w K)) : Out C ρ w' (callFunc g args') K := by
  unfold goK at h
  cases hx : ext g with
  | some k =>
    rw [hx] at h
    obtain ⟨v, hv, hk⟩ := onSome_good hfi h
    obtain ⟨v', h1, h2⟩ := he g k args v hx hv ρ args' ha
    exact .inl ⟨v, v', ρ, w, w', h1 w', Env.le.refl _, h2, hw, hk⟩
  | none =>
    rw [hx] at h
    obtain ⟨P, G, B, w0, pend, good⟩ := C
    obtain ⟨h1, h2⟩ := hc pend good hfi g args args' w w' ρ K hg ha hw h
    exact .inr (.inr ⟨g, args', run_enter h1 _ _, h2⟩)

theorem sliceArrK_run {C : Ctx} {ρ : Env} {w : AW} {w' : World} (hfi : Fine C.good) (hw : WR C ρ w w') {t e : TypeId} {n : Nat} {inf : TypeInfo} (ht : C.P.underlying t = some (.array n e)) (hi : C.P.info? e = some inf) {x x' : Value} {lo hi' lo' hi2 : Option Value} (hx : VR ρ x x') (hl : VRo ρ lo lo') (hh : VRo ρ hi' hi2) {K : VK}
    (h : C.good (sliceArrK n inf.size x lo hi' w K)) : Gets C ρ w' (Instr.sliceAt t x' lo' hi2 none) K := by
  unfold sliceArrK at h
  split at h
  · rename_i a
    obtain ⟨b, rfl, hab⟩ := hx.ptr_inv
    split at h
    · rename_i o hg
      split at h
      · rename_i hb lb hhb hlb
        cases hc : (Nat.ble lb hb && Nat.blt lb n && Nat.ble hb n && a.spot.isNone) with
        | false => rw [hc] at h; exact absurd h hfi.bad
        | true =>
          rw [hc] at h
          simp only [cond_true] at h
          simp only [Bool.and_eq_true] at hc
          obtain ⟨⟨⟨h1, h2⟩, h3⟩, h4⟩ := hc
          have h1 := Nat.le_of_ble_eq_true h1
          have h2 := blt_iff.1 h2
          have h3 := Nat.le_of_ble_eq_true h3
          have h4 : a.spot = none := by simpa using h4
          have hhb' := bound_VRo hh hhb
          have hlb' := bound_VRo hl hlb
          obtain ⟨en, he, rfl⟩ := hab
          obtain ⟨_, _, _, hex, _⟩ := hw.live _ _ _ hg he
          have hex : en.extra = 0 := hex rfl
          refine Out.stay (v' := .slice (some ((⟨en.id, a.off, a.spot⟩ : Addr).add (lb * inf.size))) (hb - lb) (n - lb)) ?_ ?_ hw h
          · simp only [Instr.sliceAt, Sem.run_bind, run_underlying ht, Result.andThen_ok, Instr.sureAddr, Sem.run_pure, run_sliceBounds hhb' hlb' h1 h3, run_sizeOf' hi]
            rw [if_neg (by omega)]
          · have := VR.sl (ρ := ρ) (a.add (lb * inf.size)) ((⟨en.id, a.off, a.spot⟩ : Addr).add (lb * inf.size)) (hb - lb) (n - lb) en (by rw [add_block]; exact he) (by rw [add_block]) ⟨add_spot h4 _, add_spot (a := ⟨en.id, a.off, a.spot⟩) h4 _⟩ (.inl (by rw [add_off', add_off'])) (by omega)
            rw [hex, Nat.add_zero] at this
            exact this
      · exact absurd h hfi.bad
    · exact absurd h hfi.bad
  · exact absurd h hfi.bad

theorem unsafeData_run {C : Ctx} {ρ : Env} {w : AW} {w' : World} {ts : Array TypeId} {ty : TypeId} (hw : WR C ρ w w') {s s' : Value} (hs : VR ρ s s') {K : VK} (hfi : Fine C.good)
    (h : C.good (sliceDataK s w K)) : Gets C ρ w' (Builtin.unsafeSliceData_ ts ty #[s']) K := by
  unfold sliceDataK at h
  split at h
  · have : ∃ l c, s' = .slice none l c := by cases hs; exact ⟨_, _, rfl⟩
    obtain ⟨l, c, rfl⟩ := this
    exact Out.stay (v' := .pointer none) rfl .nilp hw h
  · rename_i q l c
    obtain ⟨b, en, rfl, he, hbl, hsp, ho, hlc⟩ := hs.sl_inv
    refine Out.stay (v' := .pointer (some b)) (Lib.run_unsafeSliceData_row w' ts ty b l _ (by omega)) (.ptr _ _ (AR.of_sl he hbl hsp ho (by omega))) hw h
  · exact absurd h hfi.bad

theorem storeAt_run {C : Ctx} {ρ : Env} {w : AW} {w' : World} (hfi : Fine C.good) (hw : WR C ρ w w') {t : TypeId} {inf : TypeInfo} (hi : C.P.info? t = some inf) {q q' x x' : Value} (hq : VR ρ q q') (hx : VR ρ x x') {K : VK}
    (h : C.good (storeOpK C.G inf.size q x w K)) :
    ∃ w2 w2', (Instr.storeAt t q' x').run C.P w' = .ok () w2' ∧ WR C ρ w2 w2' ∧ C.good (K undef w2) := by
  unfold storeOpK at h
  split at h
  · rename_i a
    obtain ⟨b, rfl, hab⟩ := hq.ptr_inv
    cases hc : Nat.beq x.cells.toList.length inf.size with
    | false => rw [hc] at h; exact absurd h hfi.bad
    | true =>
      rw [hc] at h
      have hsz : x.cells.toList.length = inf.size := nat_beq hc
      have hr := cells_rel hx
      obtain ⟨en, he, hb⟩ := hab
      obtain ⟨w2, w2', h1, h2, h3⟩ := storeK_run (b := b) hfi hw he (by rw [hb]) (fun hs => by rw [hb]; exact hs) (fun _ => by rw [hb]) hr h
      refine ⟨w2, w2', ?_, h2, h3⟩
      have hl := hr.length
      simp only [Array.length_toList] at hl hsz
      simp only [Instr.storeAt, Instr.sureAddr, Go.storeVar, Sem.run_bind, Sem.run_pure, Result.andThen_ok, run_sizeOf' hi, ← hl, hsz, ne_eq, not_true, if_false]
      exact h1
  · exact absurd h hfi.bad

theorem exec_call {e : Operand → Value} {f : Operand} {args : Array Operand} {argTypes : Array TypeId} {dst : Option Tmp} {ty : TypeId} {pos : String} {after : Array Edge} {gd : Option (Nat × Bool)} {g : FuncId} {x y : Array Value}
    (h : e f = .func (.func g) x y) : execOp e ⟨dst, .call ⟨.value f, args, argTypes⟩, ty, pos, after, gd⟩ = callFunc g ((x ++ args.map e) ++ y) := by
  simp only [execOp, resolve, h]
  rfl

theorem effect_run {C : Ctx} {ρ : Env} {w : AW} {w' : World} (hfi : Fine C.good) (hg : GR C.G ρ) (hw : WR C ρ w w') {call : CallF} (hcall : CallOk C.P C.G C.B C.w0 call) {ext : Known} (hext : ExtOk C.P ext) {d : Nat} {o : Oper} {a : AA} {e : Operand → Value}
    (hv : ∀ x ∈ o.op.operands, OV ρ d a e x) {K : VK} (h : C.good ((effect C.P C.G ext d o).run call a w K)) : Out C ρ w' (execOp e o) K := by
  obtain ⟨dst, op, ty, pos, after, gd⟩ := o
  simp only at hv
  have hbad : ¬ C.good Res.bad := hfi.bad
  have upd : ∀ (t : TypeId) (m k x : Operand), OV ρ d a e m → OV ρ d a e k → OV ρ d a e x → ∀ (s : Sem Next), s = (do Instr.mapUpdate t (e m) (e k) (e x); pure .skip) →
      C.good ((match C.P.underlying t with | some (.map key _) => (.mk fun _ a w K => mapUpdateK C.P C.G key ((opd d m).run a) ((opd d k).run a) ((opd d x).run a) w K : Box EF) | _ => .mk fun _ _ _ _ => .bad).run call a w K) → Out C ρ w' s K := by
    intro t m k x hm hk hx s hs h
    subst hs
    split at h
    · rename_i key el ht
      obtain ⟨w2, w2', h1, h2, h3⟩ := mapUpdateK_run hfi hw ht hm hk hx h
      exact .inr (.inl ⟨w2, w2', by rw [Sem.run_bind, h1]; rfl, h2, h3⟩)
    · exact absurd h hbad
  cases op with
  | store t p x =>
    have hp : OV ρ d a e p := hv p (by simp [Op.operands])
    have hx : OV ρ d a e x := hv x (by simp [Op.operands])
    simp only [effect] at h
    split at h
    · rename_i inf hi
      obtain ⟨w2, w2', h1, h2, h3⟩ := storeAt_run hfi hw hi hp hx h
      refine .inr (.inl ⟨w2, w2', ?_, h2, h3⟩)
      show (do Instr.storeAt t (e p) (e x); pure .skip : Sem Next).run C.P w' = _
      rw [Sem.run_bind, h1]
      rfl
    · exact absurd h hbad
  | slice t x lo hi mx =>
    cases mx with
    | some m => exact absurd h hbad
    | none =>
      simp only [effect] at h
      split at h
      · rename_i n el ht
        split at h
        · rename_i inf hi2
          exact Out.gets (sliceArrK_run hfi hw ht hi2 (hv x (by simp [Op.operands])) (OVo (x := lo) fun y hy => hv y (by simp [Op.operands, hy])) (OVo (x := hi) fun y hy => hv y (by simp [Op.operands, hy])) h)
        · exact absurd h hbad
      · exact absurd h hbad
  | convert s t x =>
    have hx : OV ρ d a e x := hv x (by simp [Op.operands])
    refine Out.gets (s := convert s t (e x)) ?_
    simp only [effect] at h
    split at h
    · rename_i el hs ht
      split at h
      · rename_i inf he hi
        simp only [Box.run_mk] at h
        split at h
        · rename_i b hb
          unfold OV at hx
          rw [hb] at hx
          rw [hx.string_inv]
          exact bytes_run hfi hw hs ht he hi h
        · exact absurd h hbad
      · exact absurd h hbad
    · rename_i el hs ht
      split at h
      · rename_i he
        obtain ⟨v, hv1, hk⟩ := onSome_good hfi h
        obtain ⟨h1, h2⟩ := toStr_run hw hs ht he hx hv1
        exact Out.stay h1 h2 hw hk
      · exact absurd h hbad
    · rename_i u hs ht
      obtain ⟨v, hv1, hk⟩ := onSome_good hfi h
      obtain ⟨v', h1, h2⟩ := toUnsafe_run hw hs ht hx hv1
      exact Out.stay h1 h2 hw hk
    · rename_i u hs ht
      obtain ⟨v, hv1, hk⟩ := onSome_good hfi h
      obtain ⟨v', h1, h2⟩ := fromUnsafe_run hw hs ht hx hv1
      exact Out.stay h1 h2 hw hk
    · exact absurd h hbad
  | mapUpdate t m k x => exact upd t m k x (hv m (by simp [Op.operands])) (hv k (by simp [Op.operands])) (hv x (by simp [Op.operands])) _ rfl h
  | insert t m k x => exact upd t m k x (hv m (by simp [Op.operands])) (hv k (by simp [Op.operands])) (hv x (by simp [Op.operands])) _ rfl h
  | range t x =>
    simp only [effect] at h
    split at h
    · rename_i key el ht
      exact Out.gets (s := Instr.range t (e x)) (rangeK_run hfi hw ht (hv x (by simp [Op.operands])) h)
    · exact absurd h hbad
  | next it b =>
    cases b with
    | true => exact absurd h hbad
    | false => exact Out.gets (s := Instr.next (e it) false ty) (nextK_run hfi hw (hv it (by simp [Op.operands])) h)
  | entry it =>
    obtain ⟨v, hv1, hk⟩ := onSome_good hfi h
    obtain ⟨v', h1, h2⟩ := entryF_run hw (hv it (by simp [Op.operands])) hv1
    exact Out.gets (s := Instr.entry (e it)) (Out.stay h1 h2 hw hk)
  | call c =>
    obtain ⟨callee, args, argTypes⟩ := c
    have hargs : ∀ x ∈ args.toList, OV ρ d a e x := fun x hx => hv x (by simp only [Op.operands, Call.operands]; exact Array.mem_append.2 (.inr (by simpa using hx)))
    have hall := OVs hargs
    simp only [effect] at h
    cases callee with
    | builtin b =>
      cases b with
      | append =>
        simp only at h
        split at h
        · rename_i s x st xt hA hT
          have hA : args = #[s, x] := Array.toList_inj.1 hA
          have hT : argTypes = #[st, xt] := Array.toList_inj.1 hT
          subst hA hT
          split at h
          · rename_i el xd ht hx
            split at h
            · rename_i inf hi
              split at h
              · exact absurd h hbad
              · rename_i hxd
                have hm : (#[s, x] : Array Operand).map e = #[e s, e x] := by simp
                show Out C ρ w' (do pure (.value (← Builtin.append_ #[st, xt] ty ((#[s, x] : Array Operand).map e)))) K
                rw [hm]
                exact Out.gets (appendK_run hfi hw ht hx hxd hi (hargs s (by simp)) (hargs x (by simp)) h)
            · exact absurd h hbad
          · exact absurd h hbad
        · exact absurd h hbad
      | unsafeString =>
        simp only at h
        split at h
        · rename_i p n pt it hA hT
          have hA : args = #[p, n] := Array.toList_inj.1 hA
          have hT : argTypes = #[pt, it] := Array.toList_inj.1 hT
          subst hA hT
          split at h
          · rename_i u hu
            have hm : (#[p, n] : Array Operand).map e = #[e p, e n] := by simp
            show Out C ρ w' (do pure (.value (← Builtin.unsafeString_ #[pt, it] ty ((#[p, n] : Array Operand).map e)))) K
            rw [hm]
            exact Out.gets (unsafeString_run hfi hw hu (hargs p (by simp)) (hargs n (by simp)) h)
          · exact absurd h hbad
        · exact absurd h hbad
      | copy =>
        simp only at h
        split at h
        · rename_i s x st xt hA hT
          have hA : args = #[s, x] := Array.toList_inj.1 hA
          have hT : argTypes = #[st, xt] := Array.toList_inj.1 hT
          subst hA hT
          split at h
          · rename_i el ht
            split at h
            · rename_i inf hi
              have hm : (#[s, x] : Array Operand).map e = #[e s, e x] := by simp
              show Out C ρ w' (do pure (.value (← Builtin.copy_ #[st, xt] ty ((#[s, x] : Array Operand).map e)))) K
              rw [hm]
              exact Out.gets (copyK_run hfi hw ht hi (hargs s (by simp)) (hargs x (by simp)) h)
            · exact absurd h hbad
          · exact absurd h hbad
        · exact absurd h hbad
      | unsafeSliceData =>
        simp only at h
        split at h
        · rename_i s hA
          have hA : args = #[s] := Array.toList_inj.1 hA
          subst hA
          have hm : (#[s] : Array Operand).map e = #[e s] := by simp
          show Out C ρ w' (do pure (.value (← Builtin.unsafeSliceData_ argTypes ty ((#[s] : Array Operand).map e)))) K
          rw [hm]
          exact Out.gets (unsafeData_run hw (hargs s (by simp)) hfi h)
        · exact absurd h hbad
      | _ => exact absurd h hbad
    | invoke r name => exact absurd h hbad
    | value f =>
      have hf : OV ρ d a e f := hv f (by simp [Op.operands, Call.operands])
      have gen : ∀ (g : FuncId) (first captured : Array Value), (opd d f).run a = .func (.func g) first captured →
          C.good (goK ext g ((first.toList ++ args.toList.map fun x => (opd d x).run a) ++ captured.toList) call w K) → Out C ρ w' (execOp e ⟨dst, .call ⟨.value f, args, argTypes⟩, ty, pos, after, gd⟩) K := by
        intro g first captured hval h
        unfold OV at hf
        rw [hval] at hf
        generalize hz : e f = z at hf
        cases hf with
        | func _ _ f' _ c' h1 h2 h3 =>
          rw [exec_call hz]
          refine goK_run hfi hg hw hcall hext ?_ h
          rw [Array.toList_append, Array.toList_append, Array.toList_map]
          exact VRs.append (VRs.append h2 hall) h3
      have dyn : ∀ (h : C.good (match (opd d f).run a with | .func (.func g) first captured => goK ext g ((first.toList ++ args.toList.map fun x => (opd d x).run a) ++ captured.toList) call w K | _ => .bad)), Out C ρ w' (execOp e ⟨dst, .call ⟨.value f, args, argTypes⟩, ty, pos, after, gd⟩) K := by
        intro h
        split at h
        · rename_i g first captured hval
          exact gen g first captured hval h
        · exact absurd h hbad
      cases f with
      | func g =>
        refine gen g #[] #[] rfl ?_
        have h : C.good (goK ext g (args.toList.map fun x => (opd d x).run a) call w K) := h
        simpa using h
      | tmp t => exact dyn h
      | const t => exact dyn h
      | global t => exact dyn h
  | _ => exact absurd h hbad

theorem forceO_eq {R : Type} (o : Obj) (K : Obj → R) : forceO o K = K o := by
  cases o <;> first | rfl | (simp only [forceO, forceL_eq])

theorem allocK_good {x : Option (Obj × (Nat → Value))} {w : AW} {K : VK} {good : Res → Prop} (hfi : Fine good) (h : good (allocK x w K)) :
    ∃ o g, x = some (o, g) ∧ w.next < lim ∧ good (K (g w.next) (w.push ⟨o, true⟩)) := by
  obtain ⟨⟨o, g⟩, hx, h1⟩ := onSome_good hfi h
  rw [forceO_eq] at h1
  obtain ⟨h2, h3⟩ := pushK_good hfi h1
  exact ⟨o, g, hx, h2, h3⟩

theorem operF_run {C : Ctx} {ρ : Env} {w : AW} {w' : World} (hfi : Fine C.good) (hg : GR C.G ρ) (hw : WR C ρ w w') {call : CallF} (hcall : CallOk C.P C.G C.B C.w0 call) {ext : Known} (hext : ExtOk C.P ext) {d : Nat} {o : Oper} {a : AA} {e : Operand → Value}
    (hv : ∀ x ∈ o.op.operands, OV ρ d a e x) {K : VK} (h : C.good ((operF C.P C.G ext d o).run call a w K)) : Out C ρ w' (execOp e o) K := by
  unfold operF at h
  split at h
  · rename_i q hq
    simp only [Box.run_mk] at h
    cases hr : q.run a w with
    | none => rw [hr] at h; exact absurd h hfi.bad
    | some v =>
      rw [hr] at h
      obtain ⟨v', h1, h2⟩ := quiet_run hw hq hv hr
      exact .inl ⟨v, v', ρ, w, w', h1 w' (.inr rfl), Env.le.refl _, h2, hw, h⟩
  · split at h
    · rename_i f hf
      obtain ⟨ob, g, hx, hlt, hk⟩ := allocK_good hfi h
      obtain ⟨s, o', g', he, hm, hor, hvr⟩ := alloc_run (ρ := ρ) hf hv hx
      rw [he]
      exact Out.gets ⟨_, _, _, _, _, hm w', Env.le_ext _ (hw.top _ (Nat.le_refl _)), hvr _ _ _ (Env.le_ext _ (hw.top _ (Nat.le_refl _))) Env.ext_same, hw.push ⟨ob, true⟩ o' 0 (fun _ => rfl) hlt hor, hk⟩
    · exact effect_run hfi hg hw hcall hext hv h
end Go.Ab
