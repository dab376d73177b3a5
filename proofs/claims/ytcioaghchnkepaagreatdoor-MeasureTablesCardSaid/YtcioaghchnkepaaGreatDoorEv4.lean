/- An operation that acts. -/
import Derived.Test.YtcioaghchnkepaaGreatDoorEv3
import Derived.Orders
import Derived.LoopN
/- An operation that acts. -/
namespace Go.Ab
open Go.RowKit

/-- a function that is entered by a call -/
def Enterable (P : Program) (f : FuncId) : Prop := ∃ fn, P.funcs[f]? = some fn ∧ fn.body.isSome = true ∧ fn.name ≠ "runtime.NumGoroutine"

/-- how a call ends: the value and the world stand in the relation, and the rest is good -/
def Ends (C : Ctx) (ρ : Env) (K : VK) (en : Ending) (w3' : World) : Prop :=
  ∃ v', en = .returned v' ∧ ∃ v ρ2 w3, Env.le ρ ρ2 ∧ VR ρ2 v v' ∧ WR C ρ2 w3 w3' ∧ C.good (K v w3)

def CallOk (P : Program) (G B : Nat) (w0 : World) (call : CallF) : Prop :=
  ∀ (pend : Nat → Option Blk) (good : Res → Prop), Fine good → ∀ (f : FuncId) (args : List Value) (args' : Array Value) (w : AW) (w' : World) (ρ : Env) (K : VK), GR G ρ → VRs ρ args args'.toList →
    WR ⟨P, G, B, w0, pend, good⟩ ρ w w' → good (call f args w K) → Enterable P f ∧ Calls P f args' w' (Ends ⟨P, G, B, w0, pend, good⟩ ρ K)

def ExtOk (P : Program) (ext : Known) : Prop :=
  ∀ f k args v, ext f = some k → k args = some v → ∀ (ρ : Env) (args' : Array Value), VRs ρ args args'.toList → ∃ v', (∀ w', (callFunc f args').run P w' = .ok (.value v') w') ∧ VR ρ v v'

/-- what becomes of an operation that acts -/
def Out (C : Ctx) (ρ : Env) (w' : World) (s : Sem Next) (K : VK) : Prop :=
  (∃ v v' ρ2 w2 w2', s.run C.P w' = .ok (.value v') w2' ∧ Env.le ρ ρ2 ∧ VR ρ2 v v' ∧ WR C ρ2 w2 w2' ∧ C.good (K v w2)) ∨
  (∃ w2 w2', s.run C.P w' = .ok .skip w2' ∧ WR C ρ w2 w2' ∧ C.good (K undef w2)) ∨
  (∃ f args, s.run C.P w' = .ok (.enter f args) w' ∧ Calls C.P f args w' (Ends C ρ K))

theorem Out.gets {C : Ctx} {ρ : Env} {w' : World} {s : Sem Value} {K : VK} (h : Gets C ρ w' s K) : Out C ρ w' (do pure (.value (← s))) K := by
  obtain ⟨v, v', ρ2, w2, w2', h1, h2, h3, h4, h5⟩ := h
  exact .inl ⟨v, v', ρ2, w2, w2', by rw [Sem.run_bind, h1]; rfl, h2, h3, h4, h5⟩

theorem Out.stay {C : Ctx} {ρ : Env} {w : AW} {w' : World} {s : Sem Value} {K : VK} {v v' : Value} (h : s.run C.P w' = .ok v' w') (hv : VR ρ v v') (hw : WR C ρ w w') (hk : C.good (K v w)) : Gets C ρ w' s K :=
  ⟨v, v', ρ, w, w', h, Env.le.refl _, hv, hw, hk⟩

theorem onSome_good {α : Type} {x : Option α} {k : α → Res} {good : Res → Prop} (hfi : Fine good) (h : good (onSome x k)) : ∃ v, x = some v ∧ good (k v) := by
  cases x with
  | none => exact absurd h hfi.bad
  | some v => exact ⟨v, rfl, h⟩

theorem run_enter {P : Program} {f : FuncId} (h : Enterable P f) (args : Array Value) (w : World) : (callFunc f args).run P w = .ok (.enter f args) w := by
  obtain ⟨fn, hf, hb, hn⟩ := h
  have hn : (fn.name == "runtime.NumGoroutine") = false := by simpa using hn
  have hb : fn.body.isNone = false := by cases hq : fn.body with | none => rw [hq] at hb; cases hb | some _ => rfl
  simp only [callFunc, Sem.run_bind, run_prog, Result.andThen_ok, hf, hn, hb, Bool.false_eq_true, if_false]
  rfl

theorem goK_run {C : Ctx} {ρ : Env} {w : AW} {w' : World} (hfi : Fine C.good) (hg : GR C.G ρ) (hw : WR C ρ w w') {call : CallF} (hc : CallOk C.P C.G C.B C.w0 call) {ext : Known} (he : ExtOk C.P ext) {g : FuncId} {args : List Value} {args' : Array Value} (ha : VRs ρ args args'.toList) {K : VK}
    (h : C.good (goK ext g args call w K)) : Out C ρ w' (callFunc g args') K := by
  unfold goK at h
  cases hx : ext g with
  | some k =>
    rw [hx] at h
    obtain ⟨v, hv, hk⟩ := onSome_good hfi h
    obtain ⟨v', h1, h2⟩ := he g k args v hx hv ρ args' ha
    exact .inl ⟨v, v', ρ, w, w', h1 w', Env.le.refl _, h2, hw, hk⟩
  | none =>
    rw [hx] at h
    obtain ⟨P, G, B, w0, pend, good⟩ := C
    obtain ⟨h1, h2⟩ := hc pend good hfi g args args' w w' ρ K hg ha hw h
    exact .inr (.inr ⟨g, args', run_enter h1 _ _, h2⟩)

theorem sliceArrK_run {C : Ctx} {ρ : Env} {w : AW} {w' : World} (hfi : Fine C.good) (hw : WR C ρ w w') {t e : TypeId} {n : Nat} {inf : TypeInfo} (ht : C.P.underlying t = some (.array n e)) (hi : C.P.info? e = some inf) {x x' : Value} {lo hi' lo' hi2 : Option Value} (hx : VR ρ x x') (hl : VRo ρ lo lo') (hh : VRo ρ hi' hi2) {K : VK}
    (h : C.good (sliceArrK n inf.size x lo hi' w K)) : Gets C ρ w' (Instr.sliceAt t x' lo' hi2 none) K := by
  unfold sliceArrK at h
  split at h
  · rename_i a
    obtain ⟨b, rfl, hab⟩ := hx.ptr_inv
    split at h
    · rename_i o hg
      split at h
      · rename_i hb lb hhb hlb
        cases hc : (Nat.ble lb hb && Nat.blt lb n && Nat.ble hb n && a.spot.isNone) with
        | false => rw [hc] at h; exact absurd h hfi.bad
        | true =>
          rw [hc] at h
          simp only [cond_true] at h
          simp only [Bool.and_eq_true] at hc
          obtain ⟨⟨⟨h1, h2⟩, h3⟩, h4⟩ := hc
          have h1 := Nat.le_of_ble_eq_true h1
          have h2 := blt_iff.1 h2
          have h3 := Nat.le_of_ble_eq_true h3
          have h4 : a.spot = none := by simpa using h4
          have hhb' := bound_VRo hh hhb
          have hlb' := bound_VRo hl hlb
          obtain ⟨en, he, rfl⟩ := hab
          obtain ⟨_, _, _, hex, _⟩ := hw.live _ _ _ hg he
          have hex : en.extra = 0 := hex rfl
          refine Out.stay (v' := .slice (some ((⟨en.id, a.off, a.spot⟩ : Addr).add (lb * inf.size))) (hb - lb) (n - lb)) ?_ ?_ hw h
          · simp only [Instr.sliceAt, Sem.run_bind, run_underlying ht, Result.andThen_ok, Instr.sureAddr, Sem.run_pure, run_sliceBounds hhb' hlb' h1 h3, run_sizeOf' hi]
            rw [if_neg (by omega)]
          · have := VR.sl (ρ := ρ) (a.add (lb * inf.size)) ((⟨en.id, a.off, a.spot⟩ : Addr).add (lb * inf.size)) (hb - lb) (n - lb) en (by rw [add_block]; exact he) (by rw [add_block]) ⟨add_spot h4 _, add_spot (a := ⟨en.id, a.off, a.spot⟩) h4 _⟩ (.inl (by rw [add_off', add_off'])) (by omega)
            rw [hex, Nat.add_zero] at this
            exact this
      · exact absurd h hfi.bad
    · exact absurd h hfi.bad
  · exact absurd h hfi.bad

theorem unsafeData_run {C : Ctx} {ρ : Env} {w : AW} {w' : World} {ts : Array TypeId} {ty : TypeId} (hw : WR C ρ w w') {s s' : Value} (hs : VR ρ s s') {K : VK} (hfi : Fine C.good)
    (h : C.good (sliceDataK s w K)) : Gets C ρ w' (Builtin.unsafeSliceData_ ts ty #[s']) K := by
  unfold sliceDataK at h
  split at h
  · have : ∃ l c, s' = .slice none l c := by cases hs; exact ⟨_, _, rfl⟩
    obtain ⟨l, c, rfl⟩ := this
    exact Out.stay (v' := .pointer none) rfl .nilp hw h
  · rename_i q l c
    obtain ⟨b, en, rfl, he, hbl, hsp, ho, hlc⟩ := hs.sl_inv
    refine Out.stay (v' := .pointer (some b)) (Lib.run_unsafeSliceData_row w' ts ty b l _ (by omega)) (.ptr _ _ (AR.of_sl he hbl hsp ho (by omega))) hw h
  · exact absurd h hfi.bad

theorem storeAt_run {C : Ctx} {ρ : Env} {w : AW} {w' : World} (hfi : Fine C.good) (hw : WR C ρ w w') {t : TypeId} {inf : TypeInfo} (hi : C.P.info? t = some inf) {q q' x x' : Value} (hq : VR ρ q q') (hx : VR ρ x x') {K : VK}
    (h : C.good (storeOpK C.G inf.size q x w K)) :
    ∃ w2 w2', (Instr.storeAt t q' x').run C.P w' = .ok () w2' ∧ WR C ρ w2 w2' ∧ C.good (K undef w2) := by
  unfold storeOpK at h
  split at h
  · rename_i a
    obtain ⟨b, rfl, hab⟩ := hq.ptr_inv
    cases hc : Nat.beq x.cells.toList.length inf.size with
    | false => rw [hc] at h; exact absurd h hfi.bad
    | true =>
      rw [hc] at h
      have hsz : x.cells.toList.length = inf.size := nat_beq hc
      have hr := cells_rel hx
      obtain ⟨en, he, hb⟩ := hab
      obtain ⟨w2, w2', h1, h2, h3⟩ := storeK_run (b := b) hfi hw he (by rw [hb]) (fun hs => by rw [hb]; exact hs) (fun _ => by rw [hb]) hr h
      refine ⟨w2, w2', ?_, h2, h3⟩
      have hl := hr.length
      simp only [Array.length_toList] at hl hsz
      simp only [Instr.storeAt, Instr.sureAddr, Go.storeVar, Sem.run_bind, Sem.run_pure, Result.andThen_ok, run_sizeOf' hi, ← hl, hsz, ne_eq, not_true, if_false]
      exact h1
  · exact absurd h hfi.bad

theorem exec_call {e : Operand → Value} {f : Operand} {args : Array Operand} {argTypes : Array TypeId} {dst : Option Tmp} {ty : TypeId} {pos : String} {after : Array Edge} {gd : Option (Nat × Bool)} {g : FuncId} {x y : Array Value}
    (h : e f = .func (.func g) x y) : execOp e ⟨dst, .call ⟨.value f, args, argTypes⟩, ty, pos, after, gd⟩ = callFunc g ((x ++ args.map e) ++ y) := by
  simp only [execOp, resolve, h]
  rfl

theorem effect_run {C : Ctx} {ρ : Env} {w : AW} {w' : World} (hfi : Fine C.good) (hg : GR C.G ρ) (hw : WR C ρ w w') {call : CallF} (hcall : CallOk C.P C.G C.B C.w0 call) {ext : Known} (hext : ExtOk C.P ext) {d : Nat} {o : Oper} {a : AA} {e : Operand → Value}
    (hv : ∀ x ∈ o.op.operands, OV ρ d a e x) {K : VK} (h : C.good ((effect C.P C.G ext d o).run call a w K)) : Out C ρ w' (execOp e o) K := by
  obtain ⟨dst, op, ty, pos, after, gd⟩ := o
  simp only at hv
  have hbad : ¬ C.good Res.bad := hfi.bad
  have upd : ∀ (t : TypeId) (m k x : Operand), OV ρ d a e m → OV ρ d a e k → OV ρ d a e x → ∀ (s : Sem Next), s = (do Instr.mapUpdate t (e m) (e k) (e x); pure .skip) →
      C.good ((match C.P.underlying t with | some (.map key _) => (.mk fun _ a w K => mapUpdateK C.P C.G key ((opd d m).run a) ((opd d k).run a) ((opd d x).run a) w K : Box EF) | _ => .mk fun _ _ _ _ => .bad).run call a w K) → Out C ρ w' s K := by
    intro t m k x hm hk hx s hs h
    subst hs
    split at h
    · rename_i key el ht
      obtain ⟨w2, w2', h1, h2, h3⟩ := mapUpdateK_run hfi hw ht hm hk hx h
      exact .inr (.inl ⟨w2, w2', by rw [Sem.run_bind, h1]; rfl, h2, h3⟩)
    · exact absurd h hbad
  cases op with
  | store t p x =>
    have hp : OV ρ d a e p := hv p (by simp [Op.operands])
    have hx : OV ρ d a e x := hv x (by simp [Op.operands])
    simp only [effect] at h
    split at h
    · rename_i inf hi
      obtain ⟨w2, w2', h1, h2, h3⟩ := storeAt_run hfi hw hi hp hx h
      refine .inr (.inl ⟨w2, w2', ?_, h2, h3⟩)
      show (do Instr.storeAt t (e p) (e x); pure .skip : Sem Next).run C.P w' = _
      rw [Sem.run_bind, h1]
      rfl
    · exact absurd h hbad
  | slice t x lo hi mx =>
    cases mx with
    | some m => exact absurd h hbad
    | none =>
      simp only [effect] at h
      split at h
      · rename_i n el ht
        split at h
        · rename_i inf hi2
          exact Out.gets (sliceArrK_run hfi hw ht hi2 (hv x (by simp [Op.operands])) (OVo (x := lo) fun y hy => hv y (by simp [Op.operands, hy])) (OVo (x := hi) fun y hy => hv y (by simp [Op.operands, hy])) h)
        · exact absurd h hbad
      · exact absurd h hbad
  | convert s t x =>
    have hx : OV ρ d a e x := hv x (by simp [Op.operands])
    refine Out.gets (s := convert s t (e x)) ?_
    simp only [effect] at h
    split at h
    · rename_i el hs ht
      split at h
      · rename_i inf he hi
        simp only [Box.run_mk] at h
        split at h
        · rename_i b hb
          unfold OV at hx
          rw [hb] at hx
          rw [hx.string_inv]
          exact bytes_run hfi hw hs ht he hi h
        · exact absurd h hbad
      · exact absurd h hbad
    · rename_i el hs ht
      split at h
      · rename_i he
        obtain ⟨v, hv1, hk⟩ := onSome_good hfi h
        obtain ⟨h1, h2⟩ := toStr_run hw hs ht he hx hv1
        exact Out.stay h1 h2 hw hk
      · exact absurd h hbad
    · rename_i u hs ht
      obtain ⟨v, hv1, hk⟩ := onSome_good hfi h
      obtain ⟨v', h1, h2⟩ := toUnsafe_run hw hs ht hx hv1
      exact Out.stay h1 h2 hw hk
    · rename_i u hs ht
      obtain ⟨v, hv1, hk⟩ := onSome_good hfi h
      obtain ⟨v', h1, h2⟩ := fromUnsafe_run hw hs ht hx hv1
      exact Out.stay h1 h2 hw hk
    · exact absurd h hbad
  | mapUpdate t m k x => exact upd t m k x (hv m (by simp [Op.operands])) (hv k (by simp [Op.operands])) (hv x (by simp [Op.operands])) _ rfl h
  | insert t m k x => exact upd t m k x (hv m (by simp [Op.operands])) (hv k (by simp [Op.operands])) (hv x (by simp [Op.operands])) _ rfl h
  | range t x =>
    simp only [effect] at h
    split at h
    · rename_i key el ht
      exact Out.gets (s := Instr.range t (e x)) (rangeK_run hfi hw ht (hv x (by simp [Op.operands])) h)
    · exact absurd h hbad
  | next it b =>
    cases b with
    | true => exact absurd h hbad
    | false => exact Out.gets (s := Instr.next (e it) false ty) (nextK_run hfi hw (hv it (by simp [Op.operands])) h)
  | entry it =>
    obtain ⟨v, hv1, hk⟩ := onSome_good hfi h
    obtain ⟨v', h1, h2⟩ := entryF_run hw (hv it (by simp [Op.operands])) hv1
    exact Out.gets (s := Instr.entry (e it)) (Out.stay h1 h2 hw hk)
  | call c =>
    obtain ⟨callee, args, argTypes⟩ := c
    have hargs : ∀ x ∈ args.toList, OV ρ d a e x := fun x hx => hv x (by simp only [Op.operands, Call.operands]; exact Array.mem_append.2 (.inr (by simpa using hx)))
    have hall := OVs hargs
    simp only [effect] at h
    cases callee with
    | builtin b =>
      cases b with
      | append =>
        simp only at h
        split at h
        · rename_i s x st xt hA hT
          have hA : args = #[s, x] := Array.toList_inj.1 hA
          have hT : argTypes = #[st, xt] := Array.toList_inj.1 hT
          subst hA hT
          split at h
          · rename_i el xd ht hx
            split at h
            · rename_i inf hi
              split at h
              · exact absurd h hbad
              · rename_i hxd
                have hm : (#[s, x] : Array Operand).map e = #[e s, e x] := by simp
                show Out C ρ w' (do pure (.value (← Builtin.append_ #[st, xt] ty ((#[s, x] : Array Operand).map e)))) K
                rw [hm]
                exact Out.gets (appendK_run hfi hw ht hx hxd hi (hargs s (by simp)) (hargs x (by simp)) h)
            · exact absurd h hbad
          · exact absurd h hbad
        · exact absurd h hbad
      | unsafeString =>
        simp only at h
        split at h
        · rename_i p n pt it hA hT
          have hA : args = #[p, n] := Array.toList_inj.1 hA
          have hT : argTypes = #[pt, it] := Array.toList_inj.1 hT
          subst hA hT
          split at h
          · rename_i u hu
            have hm : (#[p, n] : Array Operand).map e = #[e p, e n] := by simp
            show Out C ρ w' (do pure (.value (← Builtin.unsafeString_ #[pt, it] ty ((#[p, n] : Array Operand).map e)))) K
            rw [hm]
            exact Out.gets (unsafeString_run hfi hw hu (hargs p (by simp)) (hargs n (by simp)) h)
          · exact absurd h hbad
        · exact absurd h hbad
      | copy =>
        simp only at h
        split at h
        · rename_i s x st xt hA hT
          have hA : args = #[s, x] := Array.toList_inj.1 hA
          have hT : argTypes = #[st, xt] := Array.toList_inj.1 hT
          subst hA hT
          split at h
          · rename_i el ht
            split at h
            · rename_i inf hi
              have hm : (#[s, x] : Array Operand).map e = #[e s, e x] := by simp
              show Out C ρ w' (do pure (.value (← Builtin.copy_ #[st, xt] ty ((#[s, x] : Array Operand).map e)))) K
              rw [hm]
              exact Out.gets (copyK_run hfi hw ht hi (hargs s (by simp)) (hargs x (by simp)) h)
            · exact absurd h hbad
          · exact absurd h hbad
        · exact absurd h hbad
      | unsafeSliceData =>
        simp only at h
        split at h
        · rename_i s hA
          have hA : args = #[s] := Array.toList_inj.1 hA
          subst hA
          have hm : (#[s] : Array Operand).map e = #[e s] := by simp
          show Out C ρ w' (do pure (.value (← Builtin.unsafeSliceData_ argTypes ty ((#[s] : Array Operand).map e)))) K
          rw [hm]
          exact Out.gets (unsafeData_run hw (hargs s (by simp)) hfi h)
        · exact absurd h hbad
      | _ => exact absurd h hbad
    | invoke r name => exact absurd h hbad
    | value f =>
      have hf : OV ρ d a e f := hv f (by simp [Op.operands, Call.operands])
      have gen : ∀ (g : FuncId) (first captured : Array Value), (opd d f).run a = .func (.func g) first captured →
          C.good (goK ext g ((first.toList ++ args.toList.map fun x => (opd d x).run a) ++ captured.toList) call w K) → Out C ρ w' (execOp e ⟨dst, .call ⟨.value f, args, argTypes⟩, ty, pos, after, gd⟩) K := by
        intro g first captured hval h
        unfold OV at hf
        rw [hval] at hf
        generalize hz : e f = z at hf
        cases hf with
        | func _ _ f' _ c' h1 h2 h3 =>
          rw [exec_call hz]
          refine goK_run hfi hg hw hcall hext ?_ h
          rw [Array.toList_append, Array.toList_append, Array.toList_map]
          exact VRs.append (VRs.append h2 hall) h3
      have dyn : ∀ (h : C.good (match (opd d f).run a with | .func (.func g) first captured => goK ext g ((first.toList ++ args.toList.map fun x => (opd d x).run a) ++ captured.toList) call w K | _ => .bad)), Out C ρ w' (execOp e ⟨dst, .call ⟨.value f, args, argTypes⟩, ty, pos, after, gd⟩) K := by
        intro h
        split at h
        · rename_i g first captured hval
          exact gen g first captured hval h
        · exact absurd h hbad
      cases f with
      | func g =>
        refine gen g #[] #[] rfl ?_
        have h : C.good (goK ext g (args.toList.map fun x => (opd d x).run a) call w K) := h
        simpa using h
      | tmp t => exact dyn h
      | const t => exact dyn h
      | global t => exact dyn h
  | _ => exact absurd h hbad

theorem forceO_eq {R : Type} (o : Obj) (K : Obj → R) : forceO o K = K o := by
  cases o <;> first | rfl | (simp only [forceO, forceL_eq])

theorem allocK_good {x : Option (Obj × (Nat → Value))} {w : AW} {K : VK} {good : Res → Prop} (hfi : Fine good) (h : good (allocK x w K)) :
    ∃ o g, x = some (o, g) ∧ w.next < lim ∧ good (K (g w.next) (w.push ⟨o, true⟩)) := by
  obtain ⟨⟨o, g⟩, hx, h1⟩ := onSome_good hfi h
  rw [forceO_eq] at h1
  obtain ⟨h2, h3⟩ := pushK_good hfi h1
  exact ⟨o, g, hx, h2, h3⟩

theorem operF_run {C : Ctx} {ρ : Env} {w : AW} {w' : World} (hfi : Fine C.good) (hg : GR C.G ρ) (hw : WR C ρ w w') {call : CallF} (hcall : CallOk C.P C.G C.B C.w0 call) {ext : Known} (hext : ExtOk C.P ext) {d : Nat} {o : Oper} {a : AA} {e : Operand → Value}
    (hv : ∀ x ∈ o.op.operands, OV ρ d a e x) {K : VK} (h : C.good ((operF C.P C.G ext d o).run call a w K)) : Out C ρ w' (execOp e o) K := by
  unfold operF at h
  split at h
  · rename_i q hq
    simp only [Box.run_mk] at h
    cases hr : q.run a w with
    | none => rw [hr] at h; exact absurd h hfi.bad
    | some v =>
      rw [hr] at h
      obtain ⟨v', h1, h2⟩ := quiet_run hw hq hv hr
      exact .inl ⟨v, v', ρ, w, w', h1 w' (.inr rfl), Env.le.refl _, h2, hw, h⟩
  · split at h
    · rename_i f hf
      obtain ⟨ob, g, hx, hlt, hk⟩ := allocK_good hfi h
      obtain ⟨s, o', g', he, hm, hor, hvr⟩ := alloc_run (ρ := ρ) hf hv hx
      rw [he]
      exact Out.gets ⟨_, _, _, _, _, hm w', Env.le_ext _ (hw.top _ (Nat.le_refl _)), hvr _ _ _ (Env.le_ext _ (hw.top _ (Nat.le_refl _))) Env.ext_same, hw.push ⟨ob, true⟩ o' 0 (fun _ => rfl) hlt hor, hk⟩
    · exact effect_run hfi hg hw hcall hext hv h
end Go.Ab
/- Operations in program order; code. -/
namespace Go.Ab
open Go.RowKit

def putRight (n : Nat) (dst : Option Tmp) : Bool := match dst with | some t => Nat.blt t n | none => true

/-- what is asked of an operation's text -/
def operRight (G n : Nat) (o : Oper) : Bool := (o.op.operands.toList.all (opOk G n)) && putRight n o.dst

theorem putRight_ok {n : Nat} {dst : Option Tmp} (h : putRight n dst = true) : PutOk n dst := by
  cases dst with
  | none => trivial
  | some t => exact blt_iff.1 h

theorem ov_of {ρ : Env} {G d n : Nat} {a : AA} {a' : Act} (hg : GR G ρ) (h : AAR ρ d n a a') {o : Oper} (ho : operRight G n o = true) : ∀ x ∈ o.op.operands, OV ρ d a a'.eval x := by
  unfold operRight at ho
  rw [Bool.and_eq_true] at ho
  intro x hx
  exact opd_sound hg h (List.all_eq_true.1 ho.1 x (by simpa using hx))

theorem put_ok {G n : Nat} {o : Oper} (ho : operRight G n o = true) : PutOk n o.dst := by
  unfold operRight at ho
  rw [Bool.and_eq_true] at ho
  exact putRight_ok ho.2

theorem putK_eq' (d : Nat) (dst : Option Tmp) (v : Value) (a : AA) (K : AA → Res) : (putK d dst).run v a K = K ((putF d dst).run v a) := by
  cases dst with
  | none => rfl
  | some t => exact T.toK_eq v (path d t) a K

/-- an operation that acts, in a region -/
theorem Out.wp {C : Ctx} {ρ : Env} {w' : World} {o : Oper} {a' : Act} {K : VK} {next : Act → World → Prop} {Q : Exit → Act → World → Prop} (h : Out C ρ w' (execOp a'.eval o) K)
    (hn : ∀ ρ2 v v' w2 w2', Env.le ρ ρ2 → VR ρ2 v v' → WR C ρ2 w2 w2' → C.good (K v w2) → next (a'.put o.dst v') w2') : o.wp C.P a' w' next Q := by
  unfold Oper.wp
  rcases h with ⟨v, v', ρ2, w2, w2', h1, h2, h3, h4, h5⟩ | ⟨w2, w2', h1, h4, h5⟩ | ⟨f, args, h1, h2⟩
  · rw [h1]
    exact hn ρ2 v v' w2 w2' h2 h3 h4 h5
  · rw [h1]
    exact hn ρ undef undef w2 w2' (Env.le.refl _) VR.undef h4 h5
  · rw [h1]
    refine Calls.mono h2 ?_
    rintro en w3' ⟨v', rfl, v, ρ2, w3, q1, q2, q3, q4⟩
    exact hn ρ2 v v' w3 w3' q1 q2 q3 q4

theorem tmp_val {ρ : Env} {G d n : Nat} {a : AA} {a' : Act} (hg : GR G ρ) (h : AAR ρ d n a a') {t : Tmp} (ht : t < n) : ∃ u, a'.tmps[t]? = some u ∧ VR ρ ((opd d (.tmp t)).run a) u := by
  have := opd_sound hg h (x := .tmp t) (blt_iff.2 ht)
  have hlt : t < a'.tmps.size := by rw [h.size]; exact ht
  refine ⟨a'.tmps[t], by simp [hlt], ?_⟩
  have he : a'.eval (.tmp t) = a'.tmps[t] := by simp [Act.eval, hlt]
  rw [he] at this
  exact this

def asB (u : Value) : Option Bool := match u with | .bool b => some b | _ => none

theorem asB_want {ρ : Env} {v u : Value} (h : VR ρ v u) (want : Bool) : (asB u == some want) = isBool v want := by
  cases h <;> rfl

theorem guard_wanted {ρ : Env} {G d n : Nat} {a : AA} {a' : Act} (hg : GR G ρ) (h : AAR ρ d n a a') {ops : Array Oper} {o : Oper} (hall : ∀ o ∈ ops, putRight n o.dst = true) :
    (guardF d ops o = some none → Region.wanted o (yielded ops a'.tmps) = true) ∧
    (∀ t want, guardF d ops o = some (some (t, want)) → Region.wanted o (yielded ops a'.tmps) = isBool ((opd d (.tmp t)).run a) want) := by
  unfold guardF Region.wanted
  cases hgd : o.guard with
  | none => exact ⟨fun _ => rfl, fun t want h => by cases h⟩
  | some p =>
    obtain ⟨j, want⟩ := p
    simp only
    cases hb : (ops[j]?).bind (·.dst) with
    | none => exact ⟨fun h => (by cases h), fun t want h => by cases h⟩
    | some t =>
      refine ⟨fun h => (by cases h), fun t' want' h1 => ?_⟩
      cases h1
      have ht : t < n := by
        cases hj : ops[j]? with
        | none => rw [hj] at hb; cases hb
        | some o1 =>
          rw [hj] at hb
          have hb : o1.dst = some t := hb
          have := hall o1 (Array.mem_of_getElem? hj)
          rw [hb] at this
          exact blt_iff.1 this
      obtain ⟨u, hu, hr⟩ := tmp_val hg h ht
      have hy : yielded ops a'.tmps j = asB u := by
        unfold yielded
        rw [hb]
        simp only [Option.bind_some, hu]
        cases u <;> rfl
      rw [hy]
      exact asB_want hr want

/-- what a piece of code ends in, told of both sides -/
def X.out : X → Exit
  | .normal => .normal
  | .exit id => .exit id
  | .ret => .ret

def QX (C : Ctx) (ρ0 : Env) (d n : Nat) (K : X → AA → AW → Res) : Exit → Act → World → Prop := fun e a' w' =>
  ∃ (x : X) (ρ2 : Env) (a : AA) (w : AW), e = x.out ∧ Env.le ρ0 ρ2 ∧ AAR ρ2 d n a a' ∧ WR C ρ2 w w' ∧ C.good (K x a w)

theorem opsF_run {C : Ctx} (hfi : Fine C.good) {ρ0 : Env} (hg : GR C.G ρ0) {call : CallF} (hcall : CallOk C.P C.G C.B C.w0 call) {ext : Known} (hext : ExtOk C.P ext) {d n : Nat} {ops : Array Oper} (hall : ∀ o ∈ ops, operRight C.G n o = true)
    {K : AA → AW → Res} {Q : Exit → Act → World → Prop} (hQ : ∀ ρ a w a' w', Env.le ρ0 ρ → AAR ρ d n a a' → WR C ρ w w' → C.good (K a w) → Q .normal a' w') :
    ∀ (l : List Oper) (k : Nat), (∀ j, l[j]? = ops[k + j]?) → ∀ (ρ : Env) (a : AA) (w : AW) (a' : Act) (w' : World), Env.le ρ0 ρ → AAR ρ d n a a' → WR C ρ w w' → C.good ((opsF C.P C.G ext d ops l).run call a w K) →
      wpOps C.P ops Q (List.range' k l.length) a' w'
  | [], k, _, ρ, a, w, a', w', h1, h2, h3, h4 => hQ ρ a w a' w' h1 h2 h3 h4
  | o :: l, k, hl, ρ, a, w, a', w', h1, h2, h3, h4 => by
    have ho : ops[k]? = some o := by have := hl 0; simpa using this.symm
    have hoa := hall o (Array.mem_of_getElem? ho)
    have hgρ := hg.mono h1
    have rest := opsF_run hfi hg hcall hext hall hQ l (k + 1) (fun j => by
      have := hl (j + 1)
      rw [List.getElem?_cons_succ] at this
      rw [this]
      congr 1
      omega)
    obtain ⟨hw1, hw2⟩ := guard_wanted hgρ h2 (ops := ops) (o := o) (fun o ho => by have := hall o ho; unfold operRight at this; rw [Bool.and_eq_true] at this; exact this.2)
    have run : ∀ (h : C.good ((operF C.P C.G ext d o).run call a w fun v w => (putK d o.dst).run v a fun a => (opsF C.P C.G ext d ops l).run call a w K)), o.wp C.P a' w' (wpOps C.P ops Q (List.range' (k + 1) l.length)) Q := by
      intro h
      refine Out.wp (operF_run hfi hgρ h3 hcall hext (ov_of hgρ h2 hoa) h) ?_
      intro ρ2 v v' w2 w2' q1 q2 q3 q4
      rw [putK_eq'] at q4
      exact rest ρ2 _ w2 _ w2' (h1.trans q1) ((h2.mono q1).put' (put_ok hoa) q2) q3 q4
    rw [List.length_cons, List.range'_succ]
    simp only [wpOps, ho]
    unfold opsF at h4
    split at h4
    · rename_i hgd
      rw [hw1 hgd]
      exact .inl (run h4)
    · rename_i t want hgd
      rw [hw2 t want hgd]
      simp only [Box.run_mk] at h4
      cases hb : isBool ((opd d (.tmp t)).run a) want with
      | true => rw [hb] at h4; exact .inl (run h4)
      | false =>
        rw [hb] at h4
        simp only [putK_eq'] at h4
        exact rest ρ _ w _ w' h1 (h2.put' (put_ok hoa) VR.undef) h3 h4
    · exact absurd h4 hfi.bad

theorem QX.mono {C : Ctx} {ρ0 ρ1 : Env} {d n : Nat} {K : X → AA → AW → Res} (h : Env.le ρ0 ρ1) {e : Exit} {a' : Act} {w' : World} (k : QX C ρ1 d n K e a' w') : QX C ρ0 d n K e a' w' := by
  obtain ⟨x, ρ2, a, w, h1, h2, h3⟩ := k
  exact ⟨x, ρ2, a, w, h1, h.trans h2, h3⟩

/-- what is asked of a function's text -/
def codeRight (G n : Nat) : Code → Bool
  | .region _ ops _ => ops.toList.all (operRight G n)
  | .seq x y => codeRight G n x && codeRight G n y
  | .cond c x y => opOk G n c && codeRight G n x && codeRight G n y
  | .block _ b => codeRight G n b
  | .loop b => codeRight G n b
  | _ => true

/-- regions whose order is open -/
def DrawOk (C : Ctx) (call : CallF) (ext : Known) (d n : Nat) : Prop :=
  ∀ (id : Nat) (ops : Array Oper), (∀ o ∈ ops, operRight C.G n o = true) → ∀ (K : X → AA → AW → Res) (ρ : Env) (a : AA) (w : AW) (a' : Act) (w' : World), GR C.G ρ → AAR ρ d n a a' → WR C ρ w w' →
    C.good ((drawF C.P C.G ext d ops).run call a w (K .normal)) → (Code.region id ops true).wp C.P (QX C ρ d n K) a' w'

theorem codeF_run {C : Ctx} (hfi : Fine C.good) {call : CallF} (hcall : CallOk C.P C.G C.B C.w0 call) {ext : Known} (hext : ExtOk C.P ext) {d n : Nat} (hdraw : DrawOk C call ext d n) :
    ∀ (c : Code), codeRight C.G n c = true → ∀ (fuel : Nat) (K : X → AA → AW → Res) (ρ : Env) (a : AA) (w : AW) (a' : Act) (w' : World), GR C.G ρ → AAR ρ d n a a' → WR C ρ w w' →
      C.good ((codeF C.P C.G ext d c).run fuel call a w K) → c.wp C.P (QX C ρ d n K) a' w' := by
  intro c
  induction c with
  | skip => intro _ fuel K ρ a w a' w' _ h2 h3 h4; exact wp_skip ⟨.normal, ρ, a, w, rfl, Env.le.refl _, h2, h3, h4⟩
  | region id ops draw =>
    intro hr fuel K ρ a w a' w' h1 h2 h3 h4
    have hr2 : ∀ o ∈ ops, operRight C.G n o = true := fun o ho => List.all_eq_true.1 hr o (by simpa using ho)
    cases draw with
    | true => exact hdraw id ops hr2 K ρ a w a' w' h1 h2 h3 h4
    | false =>
      refine wp_region ?_
      have := opsF_run hfi h1 hcall hext hr2 (K := K .normal) (Q := QX C ρ d n K) (fun ρ2 a w a' w' q1 q2 q3 q4 => ⟨.normal, ρ2, a, w, rfl, q1, q2, q3, q4⟩) ops.toList 0 (fun j => by simp) ρ a w a' w' (Env.le.refl _) h2 h3 h4
      rw [List.range_eq_range']
      simpa using this
  | seq x y ihx ihy =>
    intro hr fuel K ρ a w a' w' h1 h2 h3 h4
    simp only [codeRight, Bool.and_eq_true] at hr
    refine wp_seq (wp_mono (ihx hr.1 fuel _ ρ a w a' w' h1 h2 h3 h4) ?_)
    rintro e a2' w2' ⟨q, ρ2, a2, w2, rfl, q1, q2, q3, q4⟩
    cases q with
    | normal => exact wp_mono (ihy hr.2 fuel K ρ2 a2 w2 a2' w2' (h1.mono q1) q2 q3 q4) fun e a w => QX.mono q1
    | exit id => exact ⟨.exit id, ρ2, a2, w2, rfl, q1, q2, q3, q4⟩
    | ret => exact ⟨.ret, ρ2, a2, w2, rfl, q1, q2, q3, q4⟩
  | cond c x y ihx ihy =>
    intro hr fuel K ρ a w a' w' h1 h2 h3 h4
    simp only [codeRight, Bool.and_eq_true] at hr
    obtain ⟨⟨hc, hx⟩, hy⟩ := hr
    have hv := opd_sound h1 h2 hc
    simp only [codeF, Box.run_mk] at h4
    split at h4
    · rename_i b hb
      rw [hb] at hv
      cases b with
      | true => exact wp_cond_true hv.bool_inv (ihx hx fuel K ρ a w a' w' h1 h2 h3 h4)
      | false => exact wp_cond_false hv.bool_inv (ihy hy fuel K ρ a w a' w' h1 h2 h3 h4)
    · exact absurd h4 hfi.bad
  | block id b ih =>
    intro hr fuel K ρ a w a' w' h1 h2 h3 h4
    refine wp_block (wp_mono (ih hr fuel _ ρ a w a' w' h1 h2 h3 h4) ?_)
    rintro e a2' w2' ⟨q, ρ2, a2, w2, rfl, q1, q2, q3, q4⟩
    cases q with
    | normal => exact ⟨.normal, ρ2, a2, w2, rfl, q1, q2, q3, q4⟩
    | exit i =>
      show if i = id then _ else _
      have q4 : C.good (@Bool.rec (fun _ => Res) (K (.exit i) a2 w2) (K .normal a2 w2) (Nat.beq i id)) := q4
      by_cases hi : i = id
      · subst hi
        rw [if_pos rfl]
        simp only [Nat.beq_refl] at q4
        exact ⟨.normal, ρ2, a2, w2, rfl, q1, q2, q3, q4⟩
      · rw [if_neg hi]
        have : Nat.beq i id = false := by cases hq : Nat.beq i id with | false => rfl | true => exact absurd (nat_beq hq) hi
        rw [this] at q4
        exact ⟨.exit i, ρ2, a2, w2, rfl, q1, q2, q3, q4⟩
    | ret => exact ⟨.ret, ρ2, a2, w2, rfl, q1, q2, q3, q4⟩
  | loop b ih =>
    intro hr fuel K ρ a w a' w' h1 h2 h3 h4
    have h4 : C.good (loopF ((codeF C.P C.G ext d b).run fuel) call fuel a w K) := h4
    refine wp_loop_rounds fuel ?_
    have key : ∀ (m : Nat) (ρ2 : Env) (a : AA) (w : AW) (a' : Act) (w' : World), Env.le ρ ρ2 → AAR ρ2 d n a a' → WR C ρ2 w w' → C.good (loopF ((codeF C.P C.G ext d b).run fuel) call m a w K) → Code.rounds C.P b (QX C ρ d n K) m a' w' := by
      intro m
      induction m with
      | zero => intro ρ2 a w a' w' _ _ _ h; exact absurd h hfi.bad
      | succ m ihm =>
        intro ρ2 a w a' w' q1 q2 q3 h
        have h : C.good ((codeF C.P C.G ext d b).run fuel call a w fun e a w => @X.rec (fun _ => Res) (loopF ((codeF C.P C.G ext d b).run fuel) call m a w K) (fun id => K (.exit id) a w) (K .ret a w) e) := h
        rw [rounds_succ]
        refine wp_mono (ih hr fuel _ ρ2 a w a' w' (h1.mono q1) q2 q3 h) ?_
        rintro e a2' w2' ⟨q, ρ3, a2, w2, rfl, p1, p2, p3, p4⟩
        cases q with
        | normal => exact ihm ρ3 a2 w2 a2' w2' (q1.trans p1) p2 p3 p4
        | exit i => exact ⟨.exit i, ρ3, a2, w2, rfl, q1.trans p1, p2, p3, p4⟩
        | ret => exact ⟨.ret, ρ3, a2, w2, rfl, q1.trans p1, p2, p3, p4⟩
    exact key fuel ρ a w a' w' (Env.le.refl _) h2 h3 h4
  | exit id => intro _ fuel K ρ a w a' w' _ h2 h3 h4; exact wp_exit ⟨.exit id, ρ, a, w, rfl, Env.le.refl _, h2, h3, h4⟩
  | ret => intro _ fuel K ρ a w a' w' _ h2 h3 h4; exact wp_ret ⟨.ret, ρ, a, w, rfl, Env.le.refl _, h2, h3, h4⟩
  | _ => intros; exact absurd ‹C.good _› hfi.bad
end Go.Ab
/- What regions of open order need: on what quiet operations depend, and when values are one. -/
namespace Go.Ab
open Go.RowKit

theorem map_opd_congr {d : Nat} {a a1 : AA} {l : List Operand} (h : ∀ x ∈ l, (opd d x).run a = (opd d x).run a1) : (l.map fun y => (opd d y).run a) = l.map fun y => (opd d y).run a1 :=
  List.map_congr_left h

theorem omap_congr {d : Nat} {a a1 : AA} {x : Option Operand} (h : ∀ y, x = some y → (opd d y).run a = (opd d y).run a1) : (x.map fun y => (opd d y).run a) = x.map fun y => (opd d y).run a1 := by
  cases x with
  | none => rfl
  | some y => simp [h y rfl]

theorem amap_congr {d : Nat} {a a1 : AA} {x : Array Operand} (h : ∀ y ∈ x, (opd d y).run a = (opd d y).run a1) : (x.map fun y => (opd d y).run a) = x.map fun y => (opd d y).run a1 := by
  apply Array.toList_inj.1
  rw [Array.toList_map, Array.toList_map]
  exact map_opd_congr fun y hy => h y (by simpa using hy)

theorem parts_congr {d : Nat} {a a1 : AA} {l : List (Nat × Operand)} (h : ∀ p ∈ l, (opd d p.2).run a = (opd d p.2).run a1) : (l.map fun p => (p.1, (opd d p.2).run a)) = l.map fun p => (p.1, (opd d p.2).run a1) :=
  List.map_congr_left fun p hp => by rw [h p hp]

theorem quiet_congr {P : Program} {d : Nat} {op : Op} {q : Box QF} (hq : quiet P d op = some q) {a a1 : AA} (h : ∀ x ∈ op.operands, (opd d x).run a = (opd d x).run a1) (w : AW) : q.run a w = q.run a1 w := by
  cases op with
  | move x => cases hq; simp only [Box.run_mk, h x (by simp [Op.operands])]
  | assign x => cases hq; simp only [Box.run_mk, h x (by simp [Op.operands])]
  | pick c x y => cases hq; simp only [Box.run_mk, h c (by simp [Op.operands]), h x (by simp [Op.operands]), h y (by simp [Op.operands])]
  | load t x => cases hq; simp only [Box.run_mk, h x (by simp [Op.operands])]
  | nilCheck x => cases hq; simp only [Box.run_mk, h x (by simp [Op.operands])]
  | binOp op t x y g => cases hq; simp only [Box.run_mk, h x (by simp [Op.operands]), h y (by simp [Op.operands])]
  | unOp op t x =>
    cases op with
    | plus => cases hq
    | _ => cases hq; simp only [Box.run_mk, h x (by simp [Op.operands])]
  | build t parts =>
    simp only [quiet] at hq
    split at hq
    · cases hq
      simp only [Box.run_mk]
      rw [parts_congr (fun p hp => h p.2 (by simp [Op.operands]; exact ⟨p.1, by simpa using hp⟩))]
    · cases hq
  | lookup t x ix ok =>
    simp only [quiet] at hq
    split at hq
    · split at hq
      · split at hq
        · rename_i z _
          cases hc : constOk 4 z with
          | false => rw [hc] at hq; cases hq
          | true => rw [hc] at hq; cases hq; simp only [Box.run_mk, h x (by simp [Op.operands]), h ix (by simp [Op.operands])]
        · cases hq
      · cases hq
    · cases hq
  | convert s t x =>
    simp only [quiet] at hq
    split at hq <;> cases hq <;> simp only [Box.run_mk, h x (by simp [Op.operands])]
  | makeInterface t x =>
    simp only [quiet] at hq
    split at hq <;> cases hq
    simp only [Box.run_mk, h x (by simp [Op.operands])]
  | makeFunc f first captured =>
    simp only [quiet] at hq
    cases hc : fnFine f with
    | false => rw [hc] at hq; cases hq
    | true =>
      rw [hc] at hq
      cases hq
      simp only [Box.run_mk]
      rw [amap_congr (x := first) (fun x hx => h x (by simp [Op.operands, hx])), amap_congr (x := captured) (fun x hx => h x (by simp [Op.operands, hx]))]
  | fieldAddr s x i =>
    simp only [quiet] at hq
    split at hq
    · rename_i f _
      cases hc : Nat.blt 0 (sizeIs P f.type) with
      | false => rw [hc] at hq; cases hq
      | true => rw [hc] at hq; cases hq; simp only [Box.run_mk, h x (by simp [Op.operands])]
    · cases hq
  | field s x i =>
    simp only [quiet] at hq
    split at hq
    · cases hq; simp only [Box.run_mk, h x (by simp [Op.operands])]
    · cases hq
  | indexAddr t x ix => cases hq; simp only [Box.run_mk, h x (by simp [Op.operands]), h ix (by simp [Op.operands])]
  | index t x ix => cases hq; simp only [Box.run_mk, h x (by simp [Op.operands]), h ix (by simp [Op.operands])]
  | extract x i => cases hq; simp only [Box.run_mk, h x (by simp [Op.operands])]
  | slice t x lo hi mx =>
    cases mx with
    | some m => cases hq
    | none =>
      simp only [quiet] at hq
      cases hc : arrType P t with
      | true => rw [hc] at hq; cases hq
      | false =>
        rw [hc] at hq
        cases hq
        simp only [Box.run_mk, h x (by simp [Op.operands])]
        rw [omap_congr (x := lo) (fun y hy => h y (by simp [Op.operands, hy])), omap_congr (x := hi) (fun y hy => h y (by simp [Op.operands, hy]))]
  | call c =>
    obtain ⟨callee, args, argTypes⟩ := c
    simp only [quiet] at hq
    have hm : ∀ y ∈ args.toList, (opd d y).run a = (opd d y).run a1 := fun y hy => h y (by simp only [Op.operands, Call.operands]; exact Array.mem_append.2 (.inr (by simpa using hy)))
    split at hq
    · rename_i x t hA _
      cases hq
      simp only [Box.run_mk, hm x (by rw [hA]; simp)]
    · rename_i x l hA
      cases hq
      simp only [Box.run_mk, hm x (by rw [hA]; simp)]
      rw [map_opd_congr (l := l) (fun y hy => hm y (by rw [hA]; simp [hy]))]
    · rename_i x l hA
      cases hq
      simp only [Box.run_mk, hm x (by rw [hA]; simp)]
      rw [map_opd_congr (l := l) (fun y hy => hm y (by rw [hA]; simp [hy]))]
    · cases hq
  | _ => cases hq

theorem alloc_congr {P : Program} {d : Nat} {op : Op} {f : Box (AA → Option (Obj × (Nat → Value)))} (hf : allocF P d op = some f) {a a1 : AA} (h : ∀ x ∈ op.operands, (opd d x).run a = (opd d x).run a1) : f.run a = f.run a1 := by
  cases op with
  | alloc t =>
    simp only [allocF] at hf
    split at hf
    · split at hf
      · rename_i z _
        cases hc : constOk 4 z with
        | false => rw [hc] at hf; cases hf
        | true => rw [hc] at hf; cases hf; rfl
      · cases hf
    · cases hf
  | box t x => cases hf; simp only [Box.run_mk, h x (by simp [Op.operands])]
  | buildSlice t len parts =>
    simp only [allocF] at hf
    split at hf
    · split at hf
      · rename_i inf _
        split at hf
        · rename_i z _
          cases hc : (Nat.ble (Nat.mul len inf.size) lim && Nat.beq z.cells.size inf.size && Nat.blt 0 inf.size && constOk 4 z) with
          | false => rw [hc] at hf; cases hf
          | true =>
            rw [hc] at hf
            cases hf
            simp only [Box.run_mk]
            rw [parts_congr (fun p hp => h p.2 (by simp [Op.operands]; exact ⟨p.1, by simpa using hp⟩))]
        · cases hf
      · cases hf
    · cases hf
  | makeMap t r =>
    cases r with
    | some r => cases hf
    | none => cases hf; rfl
  | makeSlice t l c =>
    simp only [allocF] at hf
    split at hf
    · split at hf
      · rename_i inf _
        split at hf
        · rename_i z _
          cases hc : (Nat.ble inf.bytes lim && Nat.beq inf.size 1 && Nat.beq z.cells.size 1 && constOk 4 z) with
          | false => rw [hc] at hf; cases hf
          | true => rw [hc] at hf; cases hf; simp only [Box.run_mk, h l (by simp [Op.operands]), h c (by simp [Op.operands])]
        · cases hf
      · cases hf
    · cases hf
  | _ => cases hf

/-- one world knows all that another knows -/
def More (w w1 : AW) : Prop := ∀ r b, w.get r = some b → w1.get r = some b

theorem loadAgg_more {w w1 : AW} (hm : More w w1) {n : Nat} {p : Addr} {v : Value} (h : loadAgg n p w = some v) : loadAgg n p w1 = some v := by
  unfold loadAgg at *
  split at h
  · rename_i c e fr x hg
    rw [hm _ _ hg]
    exact h
  · cases h

theorem cell_more {w w1 : AW} (hm : More w w1) {p : Addr} {v : Value} (h : w.cell p = some v) : w1.cell p = some v := by
  unfold AW.cell at *
  split at h
  · rename_i c e fr x hg
    rw [hm _ _ hg]
    exact h
  · cases h

theorem loadF_more {P : Program} {t : TypeId} {w w1 : AW} (hm : More w w1) {p : Addr} {v : Value} (h : (loadF P t).run p w = some v) : (loadF P t).run p w1 = some v := by
  unfold loadF at *
  split at h
  · rename_i d inf _ _
    cases hc : isAggD d with
    | true => rw [hc] at h; exact loadAgg_more hm h
    | false => rw [hc] at h; exact cell_more hm h
  · exact h

theorem entriesOf_more {w w1 : AW} (hm : More w w1) {x : Value} {es : Array MapEntry} (h : entriesOf w x = some es) : entriesOf w1 x = some es := by
  unfold entriesOf at *
  split at h
  · exact h
  · split at h
    · rename_i es' k x hg
      rw [hm _ _ hg]
      exact h
    · cases h
  · cases h

theorem lookupF_more {P : Program} {key : TypeId} {z : Value} {ok : Bool} {x k : Value} {w w1 : AW} (hm : More w w1) {v : Value} (h : lookupF P key z ok x k w = some v) : lookupF P key z ok x k w1 = some v := by
  unfold lookupF at *
  simp only [orElse] at *
  cases he : entriesOf w x with
  | none => rw [he] at h; cases h
  | some es => rw [he] at h; rw [entriesOf_more hm he]; exact h

theorem lenB_more {P : Program} {t : TypeId} {x : Value} {w w1 : AW} (hm : More w w1) {v : Value} (h : (lenB P t).run x w = some v) : (lenB P t).run x w1 = some v := by
  unfold lenB at *
  split at h
  · exact h
  · exact h
  · simp only [Box.run_mk] at *
    split at h
    · exact h
    · split at h
      · rename_i es k fl hg
        rw [hm _ _ hg]
        exact h
      · cases h
    · cases h
  · exact h

theorem quiet_more {P : Program} {d : Nat} {op : Op} {q : Box QF} (hq : quiet P d op = some q) {a : AA} {w w1 : AW} (hm : More w w1) {v : Value} (h : q.run a w = some v) : q.run a w1 = some v := by
  cases op with
  | load t x =>
    cases hq
    obtain ⟨p, hp, h1⟩ := addrF_some h
    simp only [Box.run_mk, hp, addrF]
    exact loadF_more hm h1
  | lookup t x ix ok =>
    simp only [quiet] at hq
    split at hq
    · split at hq
      · split at hq
        · rename_i z _
          cases hc : constOk 4 z with
          | false => rw [hc] at hq; cases hq
          | true => rw [hc] at hq; cases hq; exact lookupF_more hm h
        · cases hq
      · cases hq
    · cases hq
  | call c =>
    obtain ⟨callee, args, argTypes⟩ := c
    simp only [quiet] at hq
    split at hq
    · cases hq; exact lenB_more hm h
    · cases hq; exact h
    · cases hq; exact h
    · cases hq
  | unOp op t x =>
    cases op with
    | plus => cases hq
    | _ => cases hq; exact h
  | build t parts =>
    simp only [quiet] at hq
    split at hq <;> cases hq
    exact h
  | convert s t x =>
    simp only [quiet] at hq
    split at hq <;> cases hq <;> exact h
  | makeInterface t x =>
    simp only [quiet] at hq
    split at hq <;> cases hq
    exact h
  | makeFunc f first captured =>
    simp only [quiet] at hq
    cases hc : fnFine f with
    | false => rw [hc] at hq; cases hq
    | true => rw [hc] at hq; cases hq; exact h
  | fieldAddr s x i =>
    simp only [quiet] at hq
    split at hq
    · rename_i f _
      cases hc : Nat.blt 0 (sizeIs P f.type) with
      | false => rw [hc] at hq; cases hq
      | true => rw [hc] at hq; cases hq; exact h
    · cases hq
  | field s x i =>
    simp only [quiet] at hq
    split at hq <;> cases hq
    exact h
  | slice t x lo hi mx =>
    cases mx with
    | some m => cases hq
    | none =>
      simp only [quiet] at hq
      cases hc : arrType P t with
      | true => rw [hc] at hq; cases hq
      | false => rw [hc] at hq; cases hq; exact h
  | move x => cases hq; exact h
  | assign x => cases hq; exact h
  | pick c x y => cases hq; exact h
  | nilCheck x => cases hq; exact h
  | binOp op t x y g => cases hq; exact h
  | indexAddr t x ix => cases hq; exact h
  | index t x ix => cases hq; exact h
  | extract x i => cases hq; exact h
  | _ => cases hq

theorem lenB_noread {P : Program} {t : TypeId} (ht : mapType P t = false) (x : Value) (w w1 : AW) : (lenB P t).run x w = (lenB P t).run x w1 := by
  unfold mapType at ht
  unfold lenB
  split
  · rfl
  · rfl
  · rename_i k e hu; rw [hu] at ht; cases ht
  · rfl

theorem quiet_noread {P : Program} {d : Nat} {op : Op} {q : Box QF} (hq : quiet P d op = some q) (hr : reads P op = false) {a : AA} (w w1 : AW) : q.run a w = q.run a w1 := by
  cases op with
  | load t x => cases hr
  | lookup t x ix ok => cases hr
  | call c =>
    obtain ⟨callee, args, argTypes⟩ := c
    simp only [quiet] at hq
    split at hq
    · rename_i x t _ ht
      cases hq
      have : mapType P t = false := by simp only [reads] at hr; rw [ht] at hr; exact hr
      exact lenB_noread this _ w w1
    · cases hq; rfl
    · cases hq; rfl
    · cases hq
  | unOp op t x =>
    cases op with
    | plus => cases hq
    | _ => cases hq; rfl
  | build t parts =>
    simp only [quiet] at hq
    split at hq <;> cases hq
    rfl
  | convert s t x =>
    simp only [quiet] at hq
    split at hq <;> cases hq <;> rfl
  | makeInterface t x =>
    simp only [quiet] at hq
    split at hq <;> cases hq
    rfl
  | makeFunc f first captured =>
    simp only [quiet] at hq
    cases hc : fnFine f with
    | false => rw [hc] at hq; cases hq
    | true => rw [hc] at hq; cases hq; rfl
  | fieldAddr s x i =>
    simp only [quiet] at hq
    split at hq
    · rename_i f _
      cases hc : Nat.blt 0 (sizeIs P f.type) with
      | false => rw [hc] at hq; cases hq
      | true => rw [hc] at hq; cases hq; rfl
    · cases hq
  | field s x i =>
    simp only [quiet] at hq
    split at hq <;> cases hq
    rfl
  | slice t x lo hi mx =>
    cases mx with
    | some m => cases hq
    | none =>
      simp only [quiet] at hq
      cases hc : arrType P t with
      | true => rw [hc] at hq; cases hq
      | false => rw [hc] at hq; cases hq; rfl
  | move x => cases hq; rfl
  | assign x => cases hq; rfl
  | pick c x y => cases hq; rfl
  | nilCheck x => cases hq; rfl
  | binOp op t x y g => cases hq; rfl
  | indexAddr t x ix => cases hq; rfl
  | index t x ix => cases hq; rfl
  | extract x i => cases hq; rfl
  | _ => cases hq
end Go.Ab
/- Values that are spelt alike are one; what stands behind what. -/
namespace Go.Ab
open Go.RowKit

theorem addrEq_eq {a b : Addr} (h : addrEq a b = true) : a = b := addr_of h

theorem byteArr_eq {a b : ByteArray} (h : bytesEq a.data.toList b.data.toList = true) : a = b := by
  rw [bytesEq_eq] at h
  have : a.data.toList = b.data.toList := by simpa using h
  apply ByteArray.ext
  exact Array.toList_inj.1 this

theorem iEq_sound {m n : Int} (h : iEq m n = true) : m = n := by
  rw [iEq_eq] at h
  simpa using h

theorem veq0_sound {x y : Value} (h : veq0 x y = true) : x = y := by
  unfold veq0 at h
  split at h
  · split at h
    · rw [eq_of_beq h]
    · cases h
  · split at h
    · rw [Bool.and_eq_true] at h; rw [kq_eq h.1, iEq_sound h.2]
    · cases h
  · split at h
    · rw [byteArr_eq h]
    · cases h
  · split at h
    · rfl
    · cases h
  · split at h
    · rw [addrEq_eq h]
    · cases h
  · split at h
    · rw [Bool.and_eq_true] at h; rw [nat_beq h.1, nat_beq h.2]
    · cases h
  · split at h
    · simp only [Bool.and_eq_true] at h; rw [addrEq_eq h.1.1, nat_beq h.1.2, nat_beq h.2]
    · cases h
  · split at h
    · rfl
    · cases h
  · split at h
    · rw [nat_beq h]
    · cases h
  · split at h
    · rfl
    · cases h
  · split at h
    · rfl
    · cases h
  · cases h

theorem veqs0_sound : ∀ {l m : List Value}, veqs0 l m = true → l = m
  | [], [], _ => rfl
  | [], _ :: _, h => by cases h
  | _ :: _, [], h => by cases h
  | x :: l, y :: m, h => by
    simp only [veqs0, Bool.and_eq_true] at h
    rw [veq0_sound h.1, veqs0_sound h.2]

theorem arr_eq {l m : Array Value} (h : l.toList = m.toList) : l = m := Array.toList_inj.1 h

theorem veq1_sound {x y : Value} (h : veq1 x y = true) : x = y := by
  unfold veq1 at h
  split at h
  · split at h
    · simp only [Bool.and_eq_true] at h; rw [nat_beq h.1.1, arr_eq (veqs0_sound h.1.2), arr_eq (veqs0_sound h.2)]
    · cases h
  · split at h
    · rw [Bool.and_eq_true] at h; rw [nat_beq h.1, veq0_sound h.2]
    · cases h
  · exact veq0_sound h

theorem veqs_sound : ∀ {l m : List Value}, veqs l m = true → l = m
  | [], [], _ => rfl
  | [], _ :: _, h => by cases h
  | _ :: _, [], h => by cases h
  | x :: l, y :: m, h => by
    simp only [veqs, Bool.and_eq_true] at h
    rw [veq1_sound h.1, veqs_sound h.2]

theorem veq_sound {x y : Value} (h : veq x y = true) : x = y := by
  unfold veq at h
  split at h
  · split at h
    · rw [arr_eq (veqs_sound h)]
    · cases h
  · split at h
    · rw [arr_eq (veqs_sound h)]
    · cases h
  · exact veq1_sound h

/- what stands behind what -/
theorem binds_any (e : Edge) : Region.binds .any e = bindsAny e := by
  unfold Region.binds bindsAny
  cases e.ground <;> rfl

theorem masks_keep : ∀ (l : List Oper) (acc : List Nat), ∃ t, masks l acc = acc ++ t
  | [], acc => ⟨[], by simp [masks]⟩
  | o :: l, acc => by
    obtain ⟨t, ht⟩ := masks_keep l (acc ++ [o.after.toList.foldl (fun s e => cond (bindsAny e) (Nat.lor (Nat.lor s (Nat.shiftLeft 1 e.on)) (acc.getD e.on 0)) s) 0])
    rw [masks, ht, List.append_assoc]
    exact ⟨_, rfl⟩

theorem fold_bits (acc : List Nat) (j : Nat) : ∀ (es : List Edge) (s : Nat), Nat.testBit (es.foldl (fun s e => cond (bindsAny e) (Nat.lor (Nat.lor s (Nat.shiftLeft 1 e.on)) (acc.getD e.on 0)) s) s) j = true →
    Nat.testBit s j = true ∨ ∃ e ∈ es, bindsAny e = true ∧ (j = e.on ∨ Nat.testBit (acc.getD e.on 0) j = true)
  | [], s, h => .inl h
  | e :: es, s, h => by
    rw [List.foldl_cons] at h
    rcases fold_bits acc j es _ h with h1 | ⟨e1, h1, h2⟩
    · cases hb : bindsAny e with
      | false => rw [hb] at h1; exact .inl h1
      | true =>
        rw [hb] at h1
        have h1 : Nat.testBit ((s ||| (1 <<< e.on)) ||| (acc.getD e.on 0)) j = true := h1
        rw [Nat.testBit_or, Nat.testBit_or, Bool.or_eq_true, Bool.or_eq_true] at h1
        rcases h1 with (h1 | h1) | h1
        · exact .inl h1
        · refine .inr ⟨e, by simp, hb, .inl ?_⟩
          rw [Nat.one_shiftLeft, Nat.testBit_two_pow] at h1
          simpa using (of_decide_eq_true h1).symm
        · exact .inr ⟨e, by simp, hb, .inr h1⟩
    · exact .inr ⟨e1, by simp [h1], h2⟩

theorem masks_at : ∀ (l : List Oper) (acc : List Nat) (i : Nat) (o : Oper), l[i]? = some o →
    ∃ pre, (∃ t, masks l acc = pre ++ t) ∧ pre.length = acc.length + i ∧ (masks l acc).getD (acc.length + i) 0 = o.after.toList.foldl (fun s e => cond (bindsAny e) (Nat.lor (Nat.lor s (Nat.shiftLeft 1 e.on)) (pre.getD e.on 0)) s) 0
  | [], acc, i, o, h => by simp at h
  | p :: l, acc, 0, o, h => by
    simp at h
    subst h
    obtain ⟨t, ht⟩ := masks_keep l (acc ++ [p.after.toList.foldl (fun s e => cond (bindsAny e) (Nat.lor (Nat.lor s (Nat.shiftLeft 1 e.on)) (acc.getD e.on 0)) s) 0])
    refine ⟨acc, ?_, rfl, ?_⟩
    · rw [masks, ht, List.append_assoc]; exact ⟨_, rfl⟩
    · rw [masks, ht]
      simp
  | p :: l, acc, i + 1, o, h => by
    obtain ⟨pre, h1, h2, h3⟩ := masks_at l (acc ++ [p.after.toList.foldl (fun s e => cond (bindsAny e) (Nat.lor (Nat.lor s (Nat.shiftLeft 1 e.on)) (acc.getD e.on 0)) s) 0]) i o (by simpa using h)
    refine ⟨pre, h1, ?_, ?_⟩
    · rw [h2]; simp; omega
    · rw [List.length_append, List.length_singleton] at h3
      rw [masks, show acc.length + (i + 1) = acc.length + 1 + i by omega, h3]

theorem masks_spec {ops : Array Oper} {i j : Nat} {o : Oper} (ho : ops[i]? = some o) (h : inMask (masks ops.toList []) i j = true) :
    ∃ e ∈ o.after, Region.binds .any e = true ∧ (j = e.on ∨ inMask (masks ops.toList []) e.on j = true) := by
  obtain ⟨pre, ⟨t, ht⟩, h2, h3⟩ := masks_at ops.toList [] i o (by simpa using ho)
  simp only [List.length_nil, Nat.zero_add] at h2 h3
  unfold inMask at h
  rw [h3] at h
  rcases fold_bits pre j _ _ h with h | ⟨e, he, hb, hj⟩
  · simp at h
  · refine ⟨e, by simpa using he, by rw [binds_any]; exact hb, ?_⟩
    rcases hj with hj | hj
    · exact .inl hj
    · refine .inr ?_
      unfold inMask
      rw [ht]
      rcases Nat.lt_or_ge e.on pre.length with q | q
      · rw [List.getD_eq_getElem?_getD, List.getElem?_append_left q, ← List.getD_eq_getElem?_getD]; exact hj
      · rw [List.getD_eq_getElem?_getD, List.getElem?_eq_none q] at hj; simp at hj
end Go.Ab
/- Regions of open order: the model's schedule, step by step, against the evaluator's one order. -/
namespace Go.Ab
open Go.RowKit

theorem opd_slot (d : Nat) (t : Tmp) (a : AA) : (opd d (.tmp t)).run a = slot d a t := by
  show @Option.rec Value (fun _ => Value) undef (fun v => v) (T.at (path d t) a) = _
  rw [T.at_path]
  unfold slot
  cases T.get d a t <;> rfl

/-- a slot on both sides -/
def SR (ρ : Env) (d : Nat) (a : AA) (a' : Act) (t : Tmp) : Prop := VR ρ (slot d a t) (a'.tmps.getD t undef)

theorem mem_tmps {o : Op} {t : Tmp} (h : Operand.tmp t ∈ o.operands) : t ∈ tmpsOf o :=
  List.mem_filterMap.2 ⟨.tmp t, by simpa using h, rfl⟩

theorem ov_slots {ρ : Env} {G d n : Nat} {a : AA} {a' : Act} (hg : GR G ρ) {o : Oper} (ho : operRight G n o = true) (h : ∀ t ∈ tmpsOf o.op, t < n → SR ρ d a a' t) : ∀ x ∈ o.op.operands, OV ρ d a a'.eval x := by
  unfold operRight at ho
  rw [Bool.and_eq_true] at ho
  intro x hx
  have hok := List.all_eq_true.1 ho.1 x (by simpa using hx)
  cases x with
  | tmp t =>
    unfold OV
    rw [opd_slot]
    exact h t (mem_tmps hx) (blt_iff.1 hok)
  | const v => exact VR.const 4 v hok
  | global g => exact .ptr _ _ ⟨⟨g, 0⟩, hg g (blt_iff.1 hok), rfl⟩
  | func f => exact .func _ _ _ _ _ trivial .nil .nil

theorem congr_slots {d : Nat} {a a1 : AA} {o : Op} (h : ∀ t ∈ tmpsOf o, slot d a t = slot d a1 t) : ∀ x ∈ o.operands, (opd d x).run a = (opd d x).run a1 := by
  intro x hx
  cases x with
  | tmp t => rw [opd_slot, opd_slot]; exact h t (mem_tmps hx)
  | const v => rfl
  | global g => rfl
  | func f => rfl

theorem slot_put {d n : Nat} (hd : n ≤ 2 ^ d) {dst : Option Tmp} (hdst : PutOk n dst) (v : Value) (a : AA) {t : Tmp} (ht : t < n) : slot d ((putF d dst).run v a) t = if dst = some t then v else slot d a t := by
  cases dst with
  | none => rfl
  | some u =>
    show slot d (T.to v (path d u) a) t = _
    have hu : u < n := hdst
    unfold slot
    rw [T.to_path, T.get_put d a u (some v) t (Nat.lt_of_lt_of_le hu hd) (Nat.lt_of_lt_of_le ht hd)]
    by_cases h : t = u
    · subst h; simp
    · rw [if_neg h, if_neg (by intro k; cases k; exact h rfl)]

theorem put_get {n : Nat} {a' : Act} (hs : a'.tmps.size = n) {dst : Option Tmp} (v : Value) {t : Tmp} (ht : t < n) : (a'.put dst v).tmps.getD t undef = if dst = some t then v else a'.tmps.getD t undef := by
  cases dst with
  | none => simp [Act.put]
  | some u =>
    simp only [Act.put]
    by_cases h : u = t
    · subst h; simp [hs, ht]
    · rw [if_neg (by intro k; cases k; exact h rfl)]
      simp [h]

/-- the slot that a guard asks -/
theorem guard_one {ρ : Env} {d n : Nat} {a : AA} {a' : Act} (hsz : a'.tmps.size = n) {ops : Array Oper} {o : Oper} (hall : ∀ o ∈ ops, putRight n o.dst = true) {g : List Tmp} (hgt : guardTmp ops o = some g) (h : ∀ t ∈ g, t < n → SR ρ d a a' t) :
    (guardF d ops o = some none ∧ Region.wanted o (yielded ops a'.tmps) = true) ∨
    (∃ t want, guardF d ops o = some (some (t, want)) ∧ g = [t] ∧ Region.wanted o (yielded ops a'.tmps) = isBool ((opd d (.tmp t)).run a) want) := by
  unfold guardTmp at hgt
  unfold guardF Region.wanted
  cases hgd : o.guard with
  | none => exact .inl ⟨rfl, rfl⟩
  | some p =>
    obtain ⟨j, want⟩ := p
    rw [hgd] at hgt
    simp only at hgt ⊢
    cases hb : (ops[j]?).bind (·.dst) with
    | none => rw [hb] at hgt; cases hgt
    | some t =>
      rw [hb] at hgt
      cases hgt
      refine .inr ⟨t, want, rfl, rfl, ?_⟩
      have ht : t < n := by
        cases hj : ops[j]? with
        | none => rw [hj] at hb; cases hb
        | some o1 =>
          rw [hj] at hb
          have hb : o1.dst = some t := hb
          have := hall o1 (Array.mem_of_getElem? hj)
          rw [hb] at this
          exact blt_iff.1 this
      have hr := h t (by simp) ht
      unfold SR at hr
      have hu : a'.tmps[t]? = some (a'.tmps.getD t undef) := by simp [hsz, ht]
      have hy : yielded ops a'.tmps j = asB (a'.tmps.getD t undef) := by
        unfold yielded
        rw [hb]
        simp only [Option.bind_some, hu]
        cases (a'.tmps.getD t undef) <;> rfl
      rw [hy, opd_slot]
      exact asB_want hr want
end Go.Ab
/- Regions of open order: the invariant, and the model's step at an operation that the evaluator has done. -/
namespace Go.Ab
open Go.RowKit

def Behind (ops : Array Oper) (i j : Nat) : Prop := inMask (masks ops.toList []) i j = true

structure RegOk (P : Program) (G d n : Nat) (ops : Array Oper) (ks : List Bool) : Prop where
  deep : n ≤ 2 ^ d
  right : ∀ o ∈ ops, operRight G n o = true
  kinds : ∀ i o, ops[i]? = some o → isC ks i = true → calmOp P d o = true ∧ ∃ t, o.dst = some t
  either : ∀ i, i < ops.size → isC ks i = true ∨ isA ks i = true
  reads : ∀ i o, ops[i]? = some o → ∃ g, guardTmp ops o = some g ∧ ∀ j p t, ops[j]? = some p → p.dst = some t → (t ∈ tmpsOf o.op ∨ t ∈ g) → Behind ops i j ∨ (Behind ops j i ∧ isA ks j = true)
  edges : ∀ i o, ops[i]? = some o → ∀ e ∈ o.after, Region.binds .any e = true → e.on < i
  back : ∀ i o, ops[i]? = some o → ∀ j, Behind ops i j → j < i
  once : ∀ (i j : Nat) (o p : Oper) (t : Tmp), ops[i]? = some o → ops[j]? = some p → o.dst = some t → p.dst = some t → i = j

theorem isC_isA {ks : List Bool} {i : Nat} (h : isC ks i = true) : isA ks i = false := by
  unfold isC at h
  unfold isA
  split at h
  · rename_i b hb; subst h; rfl
  · cases h

def Lst (listed : Array Bool) (i : Nat) : Prop := listed.getD i false = true

def isAl (P : Program) (d : Nat) (ops : Array Oper) (i : Nat) : Prop := ∃ o, ops[i]? = some o ∧ quiet P d o.op = none

structure Inv (P : Program) (G B : Nat) (w0 : World) (good : Res → Prop) (pend0 : Nat → Option Blk) (ρ0 : Env) (d n : Nat) (ops : Array Oper) (ks : List Bool)
    (D : List Nat) (pr : Nat → Nat) (listed : Array Bool) (pend : Nat → Option Blk) (ρ : Env) (a : AA) (w : AW) (a' : Act) (w' : World) : Prop where
  size : listed.size = ops.size
  din : ∀ i ∈ D, i < ops.size
  sub : ∀ i, Lst listed i → i ∈ D
  acts : ∀ i ∈ D, isA ks i = true → Lst listed i
  lclosed : ∀ i, Lst listed i → ∀ j, Behind ops i j → Lst listed j
  dclosed : ∀ i ∈ D, ∀ j, Behind ops i j → j ∈ D
  asize : a'.tmps.size = n
  defers : a'.defers = []
  vals : ∀ t, t < n → (∀ i ∈ D, ¬ Lst listed i → ∀ o, ops[i]? = some o → o.dst ≠ some t) → SR ρ d a a' t
  pq : ∀ i ∈ D, ¬ Lst listed i → ∀ o t, ops[i]? = some o → o.dst = some t → ∀ q, quiet P d o.op = some q → (qval P d ops o).run a w = some (slot d a t)
  pa : ∀ i ∈ D, ¬ Lst listed i → ∀ o t, ops[i]? = some o → o.dst = some t → quiet P d o.op = none → ∃ f ob g, allocF P d o.op = some f ∧ f.run a = some (ob, g) ∧ slot d a t = g (pr i) ∧ pend (pr i) = some ⟨ob, true⟩
  pinj : ∀ i ∈ D, ∀ j ∈ D, ¬ Lst listed i → ¬ Lst listed j → isAl P d ops i → isAl P d ops j → pr i = pr j → i = j
  base : ∀ r b, pend0 r = some b → pend r = some b
  only : ∀ r b, pend r = some b → pend0 r = some b ∨ ∃ i ∈ D, ¬ Lst listed i ∧ isAl P d ops i ∧ pr i = r
  fresh : ∀ i ∈ D, ¬ Lst listed i → isAl P d ops i → pend0 (pr i) = none
  le : Env.le ρ0 ρ
  wr : WR ⟨P, G, B, w0, pend, good⟩ ρ w w'

theorem lst_set {listed : Array Bool} {i j : Nat} (hi : i < listed.size) : Lst (listed.setIfInBounds i true) j ↔ j = i ∨ Lst listed j := by
  unfold Lst
  by_cases h : j = i
  · subst h
    simp [hi]
  · rw [getD_set_ne false (fun k => h k.symm)]
    simp [h]

section
variable {P : Program} {G B : Nat} {w0 : World} {good : Res → Prop} {pend0 : Nat → Option Blk} {ρ0 : Env} {d n : Nat} {ops : Array Oper} {ks : List Bool}
    {D : List Nat} {pr : Nat → Nat} {listed : Array Bool} {pend : Nat → Option Blk} {ρ : Env} {a : AA} {w : AW} {a' : Act} {w' : World}

/-- what is ready stands behind nothing that isn't listed -/
theorem ready_anc (H : Inv P G B w0 good pend0 ρ0 d n ops ks D pr listed pend ρ a w a' w') {i : Nat} (hr : i ∈ Region.ready .any ops listed) :
    ¬ Lst listed i ∧ i < ops.size ∧ ∃ o, ops[i]? = some o ∧ ∀ j, Behind ops i j → Lst listed j := by
  obtain ⟨h0, o, ho, hall⟩ := mem_ready.1 hr
  have hlt : i < ops.size := (Array.getElem?_eq_some_iff.1 ho).1
  refine ⟨?_, hlt, o, ho, ?_⟩
  · unfold Lst
    have : i < listed.size := by rw [H.size]; exact hlt
    simp [this] at h0
    simp [this, h0]
  · intro j hj
    obtain ⟨e, he, hb, h1⟩ := masks_spec ho hj
    have hl : Lst listed e.on := hall e he hb
    rcases h1 with rfl | h1
    · exact hl
    · exact H.lclosed _ hl j h1

/-- the slots that a ready operation reads stand in the relation -/
theorem ready_slots (hR : RegOk P G d n ops ks) (H : Inv P G B w0 good pend0 ρ0 d n ops ks D pr listed pend ρ a w a' w') {i : Nat} (hr : i ∈ Region.ready .any ops listed) {o : Oper} (ho : ops[i]? = some o) :
    ∃ g, guardTmp ops o = some g ∧ ∀ t, (t ∈ tmpsOf o.op ∨ t ∈ g) → t < n → SR ρ d a a' t := by
  obtain ⟨_, _, _, _, hanc⟩ := ready_anc H hr
  obtain ⟨g, hg, hreads⟩ := hR.reads i o ho
  refine ⟨g, hg, fun t ht htn => H.vals t htn ?_⟩
  intro k hk hkl p hp hdst
  rcases hreads k p t hp hdst ht with h | ⟨h, hA⟩
  · exact hkl (hanc k h)
  · exact hkl (H.acts k hk hA)

/-- an operation that the evaluator has done is done by the model -/
theorem Inv.list (_hR : RegOk P G d n ops ks) (H : Inv P G B w0 good pend0 ρ0 d n ops ks D pr listed pend ρ a w a' w') {i : Nat} (hi : i ∈ D) (hnl : ¬ Lst listed i) (hanc : ∀ j, Behind ops i j → Lst listed j) {o : Oper} (ho : ops[i]? = some o) {t : Tmp} (hdst : o.dst = some t)
    {pend2 : Nat → Option Blk} {ρ2 : Env} {w2' : World} {v' : Value} (hle : Env.le ρ ρ2) (hwr : WR ⟨P, G, B, w0, pend2, good⟩ ρ2 w w2') (hv : VR ρ2 (slot d a t) v')
    (hp1 : ∀ r b, pend0 r = some b → pend2 r = some b) (hp2 : ∀ r b, pend2 r = some b → pend0 r = some b ∨ ∃ k ∈ D, ¬ Lst listed k ∧ k ≠ i ∧ isAl P d ops k ∧ pr k = r)
    (hp3 : ∀ k ∈ D, ¬ Lst listed k → k ≠ i → isAl P d ops k → pend2 (pr k) = pend (pr k)) :
    Inv P G B w0 good pend0 ρ0 d n ops ks D pr (listed.setIfInBounds i true) pend2 ρ2 a w (a'.put o.dst v') w2' := by
  have hlt : i < listed.size := by rw [H.size]; exact H.din i hi
  have hls : ∀ j, Lst (listed.setIfInBounds i true) j ↔ j = i ∨ Lst listed j := fun j => lst_set hlt
  have hnls : ∀ j, ¬ Lst (listed.setIfInBounds i true) j → ¬ Lst listed j ∧ j ≠ i := fun j h => ⟨fun k => h ((hls j).2 (.inr k)), fun k => h ((hls j).2 (.inl k))⟩
  refine ⟨by simp [H.size], H.din, ?_, ?_, ?_, H.dclosed, ?_, ?_, ?_, ?_, ?_, ?_, hp1, ?_, ?_, H.le.trans hle, hwr⟩
  · intro j hj
    rcases (hls j).1 hj with rfl | h
    · exact hi
    · exact H.sub j h
  · exact fun j hj hA => (hls j).2 (.inr (H.acts j hj hA))
  · intro j hj k hk
    rcases (hls j).1 hj with rfl | h
    · exact (hls k).2 (.inr (hanc k hk))
    · exact (hls k).2 (.inr (H.lclosed j h k hk))
  · rw [hdst]; simp [Act.put, H.asize]
  · rw [hdst]; exact H.defers
  · intro u hu hno
    unfold SR
    rw [put_get H.asize v' hu]
    by_cases h : o.dst = some u
    · rw [if_pos h]
      rw [hdst] at h
      cases h
      exact hv
    · rw [if_neg h]
      refine (H.vals u hu ?_).mono hle
      intro k hk hkl p hp
      by_cases hki : k = i
      · subst hki
        rw [ho] at hp
        cases hp
        exact h
      · exact hno k hk (fun q => ((hls k).1 q).elim hki hkl) p hp
  · exact fun j hj hjl => H.pq j hj (hnls j hjl).1
  · intro j hj hjl p u hp hu hq
    obtain ⟨f, ob, g, h1, h2, h3, h4⟩ := H.pa j hj (hnls j hjl).1 p u hp hu hq
    exact ⟨f, ob, g, h1, h2, h3, by rw [hp3 j hj (hnls j hjl).1 (hnls j hjl).2 ⟨p, hp, hq⟩]; exact h4⟩
  · exact fun j hj k hk hjl hkl => H.pinj j hj k hk (hnls j hjl).1 (hnls k hkl).1
  · intro r b hb
    rcases hp2 r b hb with h | ⟨k, hk, hkl, hki, hal, hpr⟩
    · exact .inl h
    · exact .inr ⟨k, hk, fun q => ((hls k).1 q).elim hki hkl, hal, hpr⟩
  · exact fun j hj hjl => H.fresh j hj (hnls j hjl).1
end
end Go.Ab
/- Regions of open order: the model does what the evaluator has done. -/
namespace Go.Ab
open Go.RowKit

section
variable {P : Program} {G B : Nat} {w0 : World} {good : Res → Prop} {pend0 : Nat → Option Blk} {ρ0 : Env} {d n : Nat} {ops : Array Oper} {ks : List Bool}
    {D : List Nat} {pr : Nat → Nat} {listed : Array Bool} {pend : Nat → Option Blk} {ρ : Env} {a : AA} {w : AW} {a' : Act} {w' : World}

theorem dst_lt (hR : RegOk P G d n ops ks) {i : Nat} {o : Oper} (ho : ops[i]? = some o) {t : Tmp} (ht : o.dst = some t) : t < n := by
  have := put_ok (hR.right o (Array.mem_of_getElem? ho))
  rw [ht] at this
  exact this

theorem all_put (hR : RegOk P G d n ops ks) : ∀ o ∈ ops, putRight n o.dst = true := by
  intro o ho
  have := hR.right o ho
  unfold operRight at this
  rw [Bool.and_eq_true] at this
  exact this.2

theorem step_done (hg : GR G ρ0) (hR : RegOk P G d n ops ks) (H : Inv P G B w0 good pend0 ρ0 d n ops ks D pr listed pend ρ a w a' w') {i : Nat} (hi : i ∈ D) (hr : i ∈ Region.ready .any ops listed) {Q : Exit → Act → World → Prop} {K : Act → World → Prop}
    (hK : ∀ pend2 ρ2 a2' w2', Inv P G B w0 good pend0 ρ0 d n ops ks D pr (listed.setIfInBounds i true) pend2 ρ2 a w a2' w2' → K a2' w2') : wpOp P ops Q i K a' w' := by
  obtain ⟨hnl, hlt, o, ho, hanc⟩ := ready_anc H hr
  obtain ⟨g, hgt, hslots⟩ := ready_slots hR H hr ho
  have hC : isC ks i = true := by
    rcases hR.either i hlt with h | h
    · exact h
    · exact absurd (H.acts i hi h) hnl
  obtain ⟨hcalm, t, hdst⟩ := hR.kinds i o ho hC
  have hright := hR.right o (Array.mem_of_getElem? ho)
  have hgρ := hg.mono H.le
  have hov := ov_slots hgρ hright (fun t ht htn => hslots t (.inl ht) htn)
  have hguard := guard_one H.asize (all_put hR) hgt (fun t ht htn => hslots t (.inr ht) htn)
  unfold wpOp
  simp only [ho]
  cases hq : quiet P d o.op with
  | some q =>
    have hval := H.pq i hi hnl o t ho hdst q hq
    -- the invariant behind the step, for a value that stands in the relation
    have fin : ∀ v', VR ρ (slot d a t) v' → K (a'.put o.dst v') w' := by
      intro v' hv'
      refine hK pend ρ _ w' (H.list hR hi hnl hanc ho hdst (Env.le.refl _) H.wr hv' H.base ?_ (fun _ _ _ _ _ => rfl))
      intro r b hb
      rcases H.only r b hb with h | ⟨k, hk, hkl, hal, hpr⟩
      · exact .inl h
      · refine .inr ⟨k, hk, hkl, ?_, hal, hpr⟩
        intro hki
        subst hki
        obtain ⟨o2, ho2, hn2⟩ := hal
        rw [ho] at ho2
        cases ho2
        rw [hq] at hn2
        cases hn2
    have run : q.run a w = some (slot d a t) → o.wp P a' w' K Q := by
      intro hrun
      obtain ⟨v', h1, h2⟩ := quiet_run H.wr hq hov hrun
      unfold Oper.wp
      have h1 : (execOp a'.eval o).run P w' = .ok (.value v') w' := h1 w' (.inr rfl)
      rw [h1]
      exact fin v' h2
    unfold qval at hval
    rw [hq] at hval
    rcases hguard with ⟨h1, h2⟩ | ⟨u, want, h1, _, h2⟩
    · rw [h1] at hval
      rw [h2]
      exact .inl (run hval)
    · rw [h1] at hval
      rw [h2]
      simp only [Box.run_mk] at hval
      cases hb : isBool ((opd d (.tmp u)).run a) want with
      | true => rw [hb] at hval; exact .inl (run hval)
      | false =>
        rw [hb] at hval
        have hval : undef = slot d a t := Option.some.inj hval
        exact fin undef (by rw [← hval]; exact VR.undef)
  | none =>
    obtain ⟨f, ob, gg, hf, hfr, hsl, hpd⟩ := H.pa i hi hnl o t ho hdst hq
    have hng : o.guard = none := by
      unfold calmOp at hcalm
      rw [hq] at hcalm
      simp only [Option.isSome_none, Bool.false_or, Bool.and_eq_true, Option.isNone_iff_eq_none] at hcalm
      exact hcalm.2
    have hw : Region.wanted o (yielded ops a'.tmps) = true := by unfold Region.wanted; rw [hng]
    rw [hw]
    refine .inl ?_
    obtain ⟨s, o', g', he, hm, hor, hvr⟩ := alloc_run (C := ⟨P, G, B, w0, pend, good⟩) (ρ := ρ) hf hov hfr
    unfold Oper.wp
    have hrun : (do pure (.value (← s)) : Sem Next).run P w' = .ok (.value (g' w'.heap.size)) { w' with heap := w'.heap.push o' } := by
      have hm : s.run P w' = _ := hm w'
      rw [Sem.run_bind, hm]
      rfl
    rw [he, hrun]
    have hal : isAl P d ops i := ⟨o, ho, hq⟩
    have hnone : ρ (pr i) = none := (H.wr.pend _ _ hpd).2.1
    refine hK (fun k => if k = pr i then none else pend k) (ρ.ext (pr i) ⟨w'.heap.size, 0⟩) _ _ (H.list hR hi hnl hanc ho hdst (Env.le_ext _ hnone) (H.wr.adopt hpd o' hor) ?_ ?_ ?_ ?_)
    · rw [hsl]
      exact hvr _ _ _ (Env.le_ext _ hnone) Env.ext_same
    · intro r b hb
      have := H.fresh i hi hnl hal
      show (if r = pr i then none else pend r) = some b
      rw [if_neg (by intro k; subst k; rw [this] at hb; cases hb)]
      exact H.base r b hb
    · intro r b hb
      have hb : (if r = pr i then none else pend r) = some b := hb
      split at hb
      · cases hb
      · rename_i hne
        rcases H.only r b hb with h | ⟨k, hk, hkl, halk, hpr⟩
        · exact .inl h
        · exact .inr ⟨k, hk, hkl, fun hki => hne (by rw [← hpr, hki]), halk, hpr⟩
    · intro k hk hkl hki halk
      show (if pr k = pr i then none else pend (pr k)) = pend (pr k)
      rw [if_neg]
      intro hp
      exact hki (H.pinj k hk i hi hkl hnl halk hal hp)
end
end Go.Ab
/- Regions of open order: the evaluator does what is calm. -/
namespace Go.Ab
open Go.RowKit

theorem natIn_iff {l : List Nat} {n : Nat} : natIn l n = true ↔ n ∈ l := by
  unfold natIn
  rw [List.any_eq_true]
  constructor
  · rintro ⟨m, hm, h⟩; rw [← nat_beq h]; exact hm
  · intro h; exact ⟨n, h, Nat.beq_refl n⟩

theorem qval_congr {P : Program} {d : Nat} {ops : Array Oper} {o : Oper} {g : List Tmp} (hgt : guardTmp ops o = some g) {a a1 : AA} (h : ∀ t, (t ∈ tmpsOf o.op ∨ t ∈ g) → slot d a t = slot d a1 t) (w : AW) : (qval P d ops o).run a w = (qval P d ops o).run a1 w := by
  unfold qval
  cases hq : quiet P d o.op with
  | none => rfl
  | some q =>
    have hc := quiet_congr hq (a := a) (a1 := a1) (congr_slots fun t ht => h t (.inl ht)) w
    unfold guardTmp at hgt
    unfold guardF
    cases hgd : o.guard with
    | none => exact hc
    | some p =>
      obtain ⟨j, want⟩ := p
      rw [hgd] at hgt
      simp only at hgt ⊢
      cases hb : (ops[j]?).bind (·.dst) with
      | none => rfl
      | some t =>
        rw [hb] at hgt
        cases hgt
        simp only [Box.run_mk, opd_slot, h t (.inr (by simp)), hc]

theorem qval_more {P : Program} {d : Nat} {ops : Array Oper} {o : Oper} {a : AA} {w w1 : AW} (hm : More w w1) {v : Value} (h : (qval P d ops o).run a w = some v) : (qval P d ops o).run a w1 = some v := by
  unfold qval at *
  split at h
  · rename_i q hq _
    exact quiet_more hq hm h
  · rename_i q t want hq _
    simp only [Box.run_mk] at *
    cases hb : isBool ((opd d (.tmp t)).run a) want with
    | true => rw [hb] at h; exact quiet_more hq hm h
    | false => rw [hb] at h; exact h
  · cases h

theorem qval_noread {P : Program} {d : Nat} {ops : Array Oper} {o : Oper} {a : AA} (hr : reads P o.op = false) (w w1 : AW) : (qval P d ops o).run a w = (qval P d ops o).run a w1 := by
  unfold qval
  split
  · rename_i q hq _
    exact quiet_noread hq hr w w1
  · rename_i q t want hq _
    simp only [Box.run_mk, quiet_noread hq hr w w1]
  · rfl

section
variable {P : Program} {G B : Nat} {w0 : World} {good : Res → Prop} {pend0 : Nat → Option Blk} {ρ0 : Env} {d n : Nat} {ops : Array Oper} {ks : List Bool}
    {D : List Nat} {pr : Nat → Nat} {listed : Array Bool} {pend : Nat → Option Blk} {ρ : Env} {a : AA} {w : AW} {a' : Act} {w' : World}

/-- what an operation reads isn't written by a calm one that isn't done -/
theorem unread (hR : RegOk P G d n ops ks) (hdc : ∀ i ∈ D, ∀ j, Behind ops i j → j ∈ D) {i : Nat} (hi : i ∉ D) (hC : isC ks i = true) {o : Oper} (ho : ops[i]? = some o) {t : Tmp} (hdst : o.dst = some t) {k : Nat} (hk : k = i ∨ k ∈ D) {p : Oper} (hp : ops[k]? = some p) :
    ∃ g, guardTmp ops p = some g ∧ ∀ u, (u ∈ tmpsOf p.op ∨ u ∈ g) → u ≠ t := by
  obtain ⟨g, hg, hrd⟩ := hR.reads k p hp
  refine ⟨g, hg, fun u hu hut => ?_⟩
  subst hut
  rcases hrd i o u ho hdst hu with h | ⟨_, h⟩
  · rcases hk with rfl | hk
    · exact absurd (hR.back _ _ ho _ h) (Nat.lt_irrefl _)
    · exact hi (hdc k hk i h)
  · rw [isC_isA hC] at h; cases h

theorem tmp_lt (hR : RegOk P G d n ops ks) {p : Oper} (hp : p ∈ ops) {g : List Tmp} (hg : guardTmp ops p = some g) {u : Tmp} (hu : u ∈ tmpsOf p.op ∨ u ∈ g) : u < n := by
  rcases hu with hu | hu
  · have := hR.right p hp
    unfold operRight at this
    rw [Bool.and_eq_true] at this
    obtain ⟨x, hx, hxu⟩ := List.mem_filterMap.1 hu
    have hok := List.all_eq_true.1 this.1 x hx
    cases x <;> simp at hxu
    subst hxu
    exact blt_iff.1 hok
  · unfold guardTmp at hg
    split at hg
    · cases hg; cases hu
    · rename_i j want _
      split at hg
      · rename_i t hb
        cases hg
        obtain rfl : u = t := by simpa using hu
        cases hj : ops[j]? with
        | none => rw [hj] at hb; cases hb
        | some o1 =>
          rw [hj] at hb
          have hb : o1.dst = some u := hb
          have := all_put hR o1 (Array.mem_of_getElem? hj)
          rw [hb] at this
          exact blt_iff.1 this
      · cases hg

theorem pending_lt (hR : RegOk P G d n ops ks) (H : Inv P G B w0 good pend0 ρ0 d n ops ks D pr listed pend ρ a w a' w') {j : Nat} (hj : j ∈ D) (hl : ¬ Lst listed j) (hal : isAl P d ops j) : pr j < w.next := by
  obtain ⟨o, ho, hq⟩ := hal
  have hC : isC ks j = true := by
    rcases hR.either j (H.din j hj) with h | h
    · exact h
    · exact absurd (H.acts j hj h) hl
  obtain ⟨_, t, ht⟩ := hR.kinds j o ho hC
  obtain ⟨_, _, _, _, _, _, h⟩ := H.pa j hj hl o t ho ht hq
  exact (H.wr.pend _ _ h).2.2

theorem calm_step (hR : RegOk P G d n ops ks) (H : Inv P G B w0 good pend0 ρ0 d n ops ks D pr listed pend ρ a w a' w') {i : Nat} (hi : i ∉ D) (hC : isC ks i = true) (hanc : ∀ j, Behind ops i j → j ∈ D) {o : Oper} (ho : ops[i]? = some o) {t : Tmp} (hdst : o.dst = some t)
    {v : Value} {w1 : AW} {pr1 : Nat → Nat} {pend1 : Nat → Option Blk} (hm : More w w1) (hwr : WR ⟨P, G, B, w0, pend1, good⟩ ρ w1 w') (hpr : ∀ k, k ∈ D → pr1 k = pr k)
    (hq : ∀ q, quiet P d o.op = some q → (qval P d ops o).run a w = some v ∧ pend1 = pend)
    (ha : quiet P d o.op = none → ∃ f ob g, allocF P d o.op = some f ∧ f.run a = some (ob, g) ∧ v = g (pr1 i) ∧ pr1 i = w.next ∧ pend1 = fun k => if k = w.next then some ⟨ob, true⟩ else pend k) :
    Inv P G B w0 good pend0 ρ0 d n ops ks (i :: D) pr1 listed pend1 ρ ((putF d o.dst).run v a) w1 a' w' := by
  have hil : ¬ Lst listed i := fun h => hi (H.sub i h)
  have hne : ∀ k ∈ D, k ≠ i := fun k hk h => hi (h ▸ hk)
  have htn := dst_lt hR ho hdst
  have hput : PutOk n o.dst := put_ok (hR.right o (Array.mem_of_getElem? ho))
  have hsl : ∀ u, u < n → slot d ((putF d o.dst).run v a) u = if o.dst = some u then v else slot d a u := fun u hu => slot_put hR.deep hput v a hu
  have hrest : ∀ k, k = i ∨ k ∈ D → ∀ p, ops[k]? = some p → ∃ g, guardTmp ops p = some g ∧ ∀ u, (u ∈ tmpsOf p.op ∨ u ∈ g) → slot d a u = slot d ((putF d o.dst).run v a) u := by
    intro k hk p hp
    obtain ⟨g, hg, hun⟩ := unread hR H.dclosed hi hC ho hdst hk hp
    refine ⟨g, hg, fun u hu => ?_⟩
    have hu2 := tmp_lt hR (Array.mem_of_getElem? hp) hg hu
    rw [hsl u hu2, if_neg]
    rw [hdst]
    intro h
    cases h
    exact hun _ hu rfl
  have holds : ∀ r b, pend r = some b → pend1 r = some b := by
    intro r b hb
    cases hqq : quiet P d o.op with
    | some q => rw [(hq q hqq).2]; exact hb
    | none =>
      obtain ⟨f, ob, g, _, _, _, _, h⟩ := ha hqq
      rw [h]
      show (if r = w.next then _ else pend r) = _
      rw [if_neg (by have : r < w.next := (H.wr.pend r b hb).2.2; omega)]
      exact hb
  refine ⟨H.size, ?_, ?_, ?_, H.lclosed, ?_, H.asize, H.defers, ?_, ?_, ?_, ?_, ?_, ?_, ?_, H.le, hwr⟩
  · intro k hk
    rcases List.mem_cons.1 hk with rfl | hk
    · exact (Array.getElem?_eq_some_iff.1 ho).1
    · exact H.din k hk
  · exact fun k hk => List.mem_cons_of_mem _ (H.sub k hk)
  · intro k hk hA
    rcases List.mem_cons.1 hk with rfl | hk
    · rw [isC_isA hC] at hA; cases hA
    · exact H.acts k hk hA
  · intro k hk j hj
    rcases List.mem_cons.1 hk with rfl | hk
    · exact List.mem_cons_of_mem _ (hanc j hj)
    · exact List.mem_cons_of_mem _ (H.dclosed k hk j hj)
  · intro u hu hno
    unfold SR
    rw [hsl u hu, if_neg (hno i (by simp) hil o ho)]
    exact H.vals u hu fun k hk => hno k (List.mem_cons_of_mem _ hk)
  · intro k hk hkl p u hp hu q hqk
    obtain ⟨g, hg, hcs⟩ := hrest k (List.mem_cons.1 hk) p hp
    have hun := dst_lt hR hp hu
    rw [hsl u hun, ← qval_congr hg hcs]
    rcases List.mem_cons.1 hk with rfl | hk
    · rw [ho] at hp
      cases hp
      rw [if_pos hu]
      exact qval_more hm (hq q hqk).1
    · rw [if_neg (fun h => hne k hk (hR.once k i p o u hp ho hu h))]
      exact qval_more hm (H.pq k hk hkl p u hp hu q hqk)
  · intro k hk hkl p u hp hu hqk
    obtain ⟨g, hg, hcs⟩ := hrest k (List.mem_cons.1 hk) p hp
    have hun := dst_lt hR hp hu
    rw [hsl u hun]
    rcases List.mem_cons.1 hk with rfl | hk
    · rw [ho] at hp
      cases hp
      rw [if_pos hu]
      obtain ⟨f, ob, gg, h1, h2, h3, h4, h5⟩ := ha hqk
      refine ⟨f, ob, gg, h1, ?_, h3, ?_⟩
      · rw [← alloc_congr h1 (congr_slots fun t ht => hcs t (.inl ht))]; exact h2
      · rw [h5, h4]; show (if w.next = w.next then _ else _) = _; rw [if_pos rfl]
    · rw [if_neg (fun h => hne k hk (hR.once k i p o u hp ho hu h))]
      obtain ⟨f, ob, gg, h1, h2, h3, h4⟩ := H.pa k hk hkl p u hp hu hqk
      refine ⟨f, ob, gg, h1, ?_, by rw [hpr k hk]; exact h3, by rw [hpr k hk]; exact holds _ _ h4⟩
      rw [← alloc_congr h1 (congr_slots fun t ht => hcs t (.inl ht))]; exact h2
  · intro k hk j hj hkl hjl hka hja hp
    have nx : isAl P d ops i → pr1 i = w.next := fun h => by
      obtain ⟨o2, ho2, hq2⟩ := h
      rw [ho] at ho2
      cases ho2
      obtain ⟨_, _, _, _, _, _, h4, _⟩ := ha hq2
      exact h4
    rcases List.mem_cons.1 hk with rfl | hk2
    · rcases List.mem_cons.1 hj with rfl | hj2
      · rfl
      · exfalso
        rw [nx hka, hpr j hj2] at hp
        have := pending_lt hR H hj2 hjl hja
        omega
    · rcases List.mem_cons.1 hj with rfl | hj2
      · exfalso
        rw [nx hja, hpr k hk2] at hp
        have := pending_lt hR H hk2 hkl hka
        omega
      · rw [hpr k hk2, hpr j hj2] at hp
        exact H.pinj k hk2 j hj2 hkl hjl hka hja hp
  · exact fun r b hb => holds r b (H.base r b hb)
  · intro r b hb
    have old : pend r = some b → pend0 r = some b ∨ ∃ k ∈ i :: D, ¬ Lst listed k ∧ isAl P d ops k ∧ pr1 k = r := by
      intro h
      rcases H.only r b h with h | ⟨k, hk, h1, h2, h3⟩
      · exact .inl h
      · exact .inr ⟨k, List.mem_cons_of_mem _ hk, h1, h2, by rw [hpr k hk]; exact h3⟩
    cases hqq : quiet P d o.op with
    | some q => rw [(hq q hqq).2] at hb; exact old hb
    | none =>
      obtain ⟨f, ob, g, _, _, _, h4, h⟩ := ha hqq
      rw [h] at hb
      have hb : (if r = w.next then some ⟨ob, true⟩ else pend r) = some b := hb
      split at hb
      · rename_i hr
        exact .inr ⟨i, by simp, hil, ⟨o, ho, hqq⟩, by rw [h4, hr]⟩
      · exact old hb
  · intro k hk hkl hka
    rcases List.mem_cons.1 hk with rfl | hk
    · obtain ⟨o2, ho2, hq2⟩ := hka
      rw [ho] at ho2
      cases ho2
      obtain ⟨_, _, _, _, _, _, h4, _⟩ := ha hq2
      rw [h4]
      cases h0 : pend0 w.next with
      | none => rfl
      | some b =>
        have : w.next < w.next := (H.wr.pend _ _ (H.base _ _ h0)).2.2
        omega
    · rw [hpr k hk]; exact H.fresh k hk hkl hka
end
end Go.Ab
/- Regions of open order: the evaluator's calm operations, one behind the other; the model's acts. -/
namespace Go.Ab
open Go.RowKit

section
variable {P : Program} {G B : Nat} {w0 : World} {good : Res → Prop} {pend0 : Nat → Option Blk} {ρ0 : Env} {d n : Nat} {ops : Array Oper} {ks : List Bool} {listed : Array Bool} {ρ : Env} {a' : Act} {w' : World}

theorem calms_run (hfi : Fine good) (hR : RegOk P G d n ops ks) : ∀ (l : List Nat) (D : List Nat) (pr : Nat → Nat) (pend : Nat → Option Blk) (a : AA) (w : AW), Inv P G B w0 good pend0 ρ0 d n ops ks D pr listed pend ρ a w a' w' →
    calmsRight (masks ops.toList []) ks ops.size D l = true → ∀ (K : AA → AW → Res), good ((runC P d ops l).run a w K) →
    ∃ pr2 pend2 a2 w2, Inv P G B w0 good pend0 ρ0 d n ops ks (l.reverse ++ D) pr2 listed pend2 ρ a2 w2 a' w' ∧ good (K a2 w2)
  | [], D, pr, pend, a, w, H, _, K, h => ⟨pr, pend, a, w, H, h⟩
  | i :: l, D, pr, pend, a, w, H, hc, K, h => by
    simp only [calmsRight, Bool.and_eq_true, Bool.not_eq_true'] at hc
    obtain ⟨⟨⟨hC, hin⟩, hanc⟩, hrest⟩ := hc
    have hi : i ∉ D := fun hm => by rw [natIn_iff.2 hm] at hin; cases hin
    have hnext : ∀ pr1 pend1 a1 w1, Inv P G B w0 good pend0 ρ0 d n ops ks (i :: D) pr1 listed pend1 ρ a1 w1 a' w' → good ((runC P d ops l).run a1 w1 K) →
        ∃ pr2 pend2 a2 w2, Inv P G B w0 good pend0 ρ0 d n ops ks ((i :: l).reverse ++ D) pr2 listed pend2 ρ a2 w2 a' w' ∧ good (K a2 w2) := by
      intro pr1 pend1 a1 w1 H1 h1
      have := calms_run hfi hR l (i :: D) pr1 pend1 a1 w1 H1 hrest K h1
      rw [List.reverse_cons, List.append_assoc]
      exact this
    unfold runC at h
    cases ho : ops[i]? with
    | none => rw [ho] at h; exact absurd h hfi.bad
    | some o =>
      rw [ho] at h
      simp only at h
      have hlt : i < ops.size := (Array.getElem?_eq_some_iff.1 ho).1
      obtain ⟨hcalm, t, hdst⟩ := hR.kinds i o ho hC
      have hanc2 : ∀ j, Behind ops i j → j ∈ D := by
        intro j hj
        have hji := hR.back i o ho j hj
        have := List.all_eq_true.1 hanc j (List.mem_range.2 (by omega))
        have hj : inMask (masks ops.toList []) i j = true := hj
        rw [hj] at this
        exact natIn_iff.1 (by simpa using this)
      split at h
      · rename_i q _ hq
        obtain ⟨v, hv, hk⟩ := onSome_good hfi h
        rw [putK_eq'] at hk
        exact hnext pr pend _ w (calm_step hR H hi hC hanc2 ho hdst (fun _ _ h => h) H.wr (fun _ _ => rfl) (fun _ _ => ⟨hv, rfl⟩) (fun hn => by rw [hq] at hn; cases hn)) hk
      · rename_i f hq hf
        simp only [Box.run_mk] at h
        obtain ⟨ob, gg, hx, hlim, hk⟩ := allocK_good hfi h
        rw [putK_eq'] at hk
        refine hnext (fun k => if k = i then w.next else pr k) (fun k => if k = w.next then some ⟨ob, true⟩ else pend k) _ _ (calm_step hR H hi hC hanc2 ho hdst ?_ (H.wr.reserve ⟨ob, true⟩ hlim) ?_ ?_ ?_) hk
        · intro r b hb
          have := H.wr.fit r b hb
          rw [AW.get_push hlim, if_neg (by omega)]
          exact hb
        · intro k hk
          show (if k = i then _ else _) = _
          rw [if_neg (fun (e : k = i) => hi (e ▸ hk))]
        · intro q hq2; rw [hq] at hq2; cases hq2
        · intro _
          exact ⟨f, ob, gg, hf, hx, by simp, by simp, rfl⟩
      · exact absurd h hfi.bad

theorem again_ok : ∀ (l : List Nat) {a : AA} {w : AW}, (again P d ops l).run a w = true → ∀ i ∈ l, ∀ o t, ops[i]? = some o → o.dst = some t → (qval P d ops o).run a w = some (slot d a t)
  | [], _, _, _, i, hi, _, _, _, _ => by cases hi
  | j :: l, a, w, h, i, hi, o, t, ho, ht => by
    unfold again at h
    cases hj : ops[j]? with
    | none => rw [hj] at h; cases h
    | some p =>
      rw [hj] at h
      simp only at h
      cases hd : p.dst with
      | none =>
        rw [hd] at h
        rcases List.mem_cons.1 hi with rfl | hi
        · rw [hj] at ho; cases ho; rw [hd] at ht; cases ht
        · exact again_ok l h i hi o t ho ht
      | some u =>
        rw [hd] at h
        simp only [Box.run_mk, orElse] at h
        cases hv : (qval P d ops p).run a w with
        | none => rw [hv] at h; cases h
        | some v =>
          rw [hv] at h
          simp only at h
          cases hq : veq v ((opd d (.tmp u)).run a) with
          | false => rw [hq] at h; cases h
          | true =>
            rw [hq] at h
            rcases List.mem_cons.1 hi with rfl | hi
            · rw [hj] at ho
              cases ho
              rw [hd] at ht
              cases ht
              rw [hv, veq_sound hq, opd_slot]
            · exact again_ok l h i hi o t ho ht
end
end Go.Ab
/- Regions of open order: the model's step at the next act; the whole region. -/
namespace Go.Ab
open Go.RowKit

section
variable {P : Program} {G B : Nat} {w0 : World} {good : Res → Prop} {pend0 : Nat → Option Blk} {ρ0 : Env} {d n : Nat} {ops : Array Oper} {ks : List Bool}
    {D : List Nat} {pr : Nat → Nat} {listed : Array Bool} {pend : Nat → Option Blk} {ρ : Env} {a : AA} {w : AW} {a' : Act} {w' : World}

/-- behind an act: the invariant, where what reads has been asked again -/
theorem act_inv (hR : RegOk P G d n ops ks) (H : Inv P G B w0 good pend0 ρ0 d n ops ks D pr listed pend ρ a w a' w') {i : Nat} (hi : i ∉ D) (hA : isA ks i = true) (hanc : ∀ j, Behind ops i j → Lst listed j) {o : Oper} (ho : ops[i]? = some o)
    {ρ2 : Env} {v v' : Value} {w2 : AW} {w2' : World} (hle : Env.le ρ ρ2) (hv : VR ρ2 v v') (hwr : WR ⟨P, G, B, w0, pend, good⟩ ρ2 w2 w2')
    (hag : ∀ k ∈ D, ¬ Lst listed k → isC ks k = true → ∀ p t, ops[k]? = some p → p.dst = some t → reads P p.op = true → (qval P d ops p).run ((putF d o.dst).run v a) w2 = some (slot d ((putF d o.dst).run v a) t)) :
    Inv P G B w0 good pend0 ρ0 d n ops ks (i :: D) pr (listed.setIfInBounds i true) pend ρ2 ((putF d o.dst).run v a) w2 (a'.put o.dst v') w2' := by
  have hlt : i < ops.size := (Array.getElem?_eq_some_iff.1 ho).1
  have hls : ∀ j, Lst (listed.setIfInBounds i true) j ↔ j = i ∨ Lst listed j := fun j => lst_set (by rw [H.size]; exact hlt)
  have hnls : ∀ j, ¬ Lst (listed.setIfInBounds i true) j → ¬ Lst listed j ∧ j ≠ i := fun j h => ⟨fun k => h ((hls j).2 (.inr k)), fun k => h ((hls j).2 (.inl k))⟩
  have inD : ∀ j, j ∈ i :: D → ¬ Lst (listed.setIfInBounds i true) j → j ∈ D ∧ ¬ Lst listed j ∧ j ≠ i := by
    intro j hj hl
    obtain ⟨h1, h2⟩ := hnls j hl
    exact ⟨(List.mem_cons.1 hj).resolve_left h2, h1, h2⟩
  have hput : PutOk n o.dst := put_ok (hR.right o (Array.mem_of_getElem? ho))
  have hsl : ∀ u, u < n → slot d ((putF d o.dst).run v a) u = if o.dst = some u then v else slot d a u := fun u hu => slot_put hR.deep hput v a hu
  -- what a pending operation reads isn't touched
  have hrest : ∀ k ∈ D, ¬ Lst listed k → ∀ p, ops[k]? = some p → ∃ g, guardTmp ops p = some g ∧ ∀ u, (u ∈ tmpsOf p.op ∨ u ∈ g) → slot d a u = slot d ((putF d o.dst).run v a) u := by
    intro k hk hkl p hp
    obtain ⟨g, hg, hrd⟩ := hR.reads k p hp
    refine ⟨g, hg, fun u hu => ?_⟩
    rw [hsl u (tmp_lt hR (Array.mem_of_getElem? hp) hg hu), if_neg]
    intro hd
    rcases hrd i o u ho hd hu with h | ⟨h, _⟩
    · exact hi (H.dclosed k hk i h)
    · exact hkl (hanc k h)
  have hslk : ∀ k ∈ D, k ≠ i → ∀ p t, ops[k]? = some p → p.dst = some t → slot d ((putF d o.dst).run v a) t = slot d a t := by
    intro k hk hki p t hp ht
    rw [hsl t (dst_lt hR hp ht), if_neg (fun h => hki (hR.once k i p o t hp ho ht h))]
  have calm : ∀ k ∈ D, ¬ Lst listed k → isC ks k = true := by
    intro k hk hkl
    rcases hR.either k (H.din k hk) with h | h
    · exact h
    · exact absurd (H.acts k hk h) hkl
  refine ⟨by simp [H.size], ?_, ?_, ?_, ?_, ?_, ?_, ?_, ?_, ?_, ?_, ?_, H.base, ?_, ?_, H.le.trans hle, hwr⟩
  · intro k hk
    rcases List.mem_cons.1 hk with rfl | hk
    · exact hlt
    · exact H.din k hk
  · intro k hk
    rcases (hls k).1 hk with rfl | h
    · simp
    · exact List.mem_cons_of_mem _ (H.sub k h)
  · intro k hk hA
    rcases List.mem_cons.1 hk with rfl | hk
    · exact (hls _).2 (.inl rfl)
    · exact (hls k).2 (.inr (H.acts k hk hA))
  · intro k hk j hj
    rcases (hls k).1 hk with rfl | h
    · exact (hls j).2 (.inr (hanc j hj))
    · exact (hls j).2 (.inr (H.lclosed k h j hj))
  · intro k hk j hj
    rcases List.mem_cons.1 hk with rfl | hk
    · exact List.mem_cons_of_mem _ (H.sub j (hanc j hj))
    · exact List.mem_cons_of_mem _ (H.dclosed k hk j hj)
  · cases hd : o.dst with
    | none => exact H.asize
    | some t => simp [Act.put, H.asize]
  · cases hd : o.dst with
    | none => exact H.defers
    | some t => exact H.defers
  · intro u hu hno
    unfold SR
    rw [put_get H.asize v' hu, hsl u hu]
    by_cases h : o.dst = some u
    · rw [if_pos h, if_pos h]; exact hv
    · rw [if_neg h, if_neg h]
      refine (H.vals u hu ?_).mono hle
      intro k hk hkl p hp
      exact hno k (List.mem_cons_of_mem _ hk) (fun q => ((hls k).1 q).elim (fun e => hi (e ▸ hk)) hkl) p hp
  · intro k hk hkl p t hp ht q hq
    obtain ⟨h1, h2, h3⟩ := inD k hk hkl
    cases hrp : reads P p.op with
    | true => exact hag k h1 h2 (calm k h1 h2) p t hp ht hrp
    | false =>
      obtain ⟨g, hg, hcs⟩ := hrest k h1 h2 p hp
      rw [← qval_congr hg hcs, hslk k h1 h3 p t hp ht, qval_noread hrp w2 w]
      exact H.pq k h1 h2 p t hp ht q hq
  · intro k hk hkl p t hp ht hq
    obtain ⟨h1, h2, h3⟩ := inD k hk hkl
    obtain ⟨g, hg, hcs⟩ := hrest k h1 h2 p hp
    obtain ⟨f, ob, gg, q1, q2, q3, q4⟩ := H.pa k h1 h2 p t hp ht hq
    exact ⟨f, ob, gg, q1, by rw [← alloc_congr q1 (congr_slots fun t ht => hcs t (.inl ht))]; exact q2, by rw [hslk k h1 h3 p t hp ht]; exact q3, q4⟩
  · intro k hk j hj hkl hjl
    obtain ⟨h1, h2, _⟩ := inD k hk hkl
    obtain ⟨h3, h4, _⟩ := inD j hj hjl
    exact H.pinj k h1 j h3 h2 h4
  · intro r b hb
    rcases H.only r b hb with h | ⟨k, hk, hkl, hal, hpr⟩
    · exact .inl h
    · exact .inr ⟨k, List.mem_cons_of_mem _ hk, fun q => ((hls k).1 q).elim (fun e => hi (e ▸ hk)) hkl, hal, hpr⟩
  · intro k hk hkl
    obtain ⟨h1, h2, _⟩ := inD k hk hkl
    exact H.fresh k h1 h2
end
end Go.Ab
/- Regions of open order: the whole region. -/
namespace Go.Ab
open Go.RowKit

def unlisted (listed : Array Bool) (n : Nat) : Nat := ((List.range n).filter fun i => !listed.getD i false).length

theorem filter_le {p q : Nat → Bool} (hpq : ∀ j, q j = true → p j = true) (l : List Nat) : (l.filter q).length ≤ (l.filter p).length := by
  induction l with
  | nil => exact Nat.le_refl _
  | cons x l ih =>
    rw [List.filter_cons, List.filter_cons]
    cases hq : q x with
    | true => rw [hpq x hq]; exact Nat.succ_le_succ ih
    | false =>
      cases hp : p x with
      | true => exact Nat.le_succ_of_le ih
      | false => exact ih

theorem filter_lt {p q : Nat → Bool} (hpq : ∀ j, q j = true → p j = true) {i : Nat} (hp : p i = true) (hq : q i = false) (l : List Nat) (hi : i ∈ l) : (l.filter q).length < (l.filter p).length := by
  induction l with
  | nil => cases hi
  | cons x l ih =>
    rw [List.filter_cons, List.filter_cons]
    by_cases hxi : x = i
    · subst hxi
      rw [hp, hq]
      exact Nat.lt_succ_of_le (filter_le hpq l)
    · have hm := (List.mem_cons.1 hi).resolve_left (fun h => hxi h.symm)
      have := ih hm
      cases hqx : q x with
      | true => rw [hpq x hqx]; exact Nat.succ_lt_succ this
      | false =>
        cases hpx : p x with
        | true => exact Nat.lt_succ_of_lt this
        | false => exact this

theorem unlisted_set {listed : Array Bool} {n i : Nat} (hi : i < n) (hs : listed.size = n) (hl : ¬ Lst listed i) : unlisted (listed.setIfInBounds i true) n < unlisted listed n := by
  unfold unlisted
  refine filter_lt (i := i) ?_ ?_ ?_ _ (List.mem_range.2 hi)
  · intro j hj
    cases hx : listed.getD j false with
    | true => rw [getD_set_true hx] at hj; cases hj
    | false => rfl
  · unfold Lst at hl
    cases hx : listed.getD i false with
    | true => exact absurd hx hl
    | false => rfl
  · have h1 : (listed.setIfInBounds i true).getD i false = true := (lst_set (by omega)).2 (.inl rfl)
    rw [h1]
    rfl

section
variable {P : Program} {G B : Nat} {w0 : World} {good : Res → Prop} {pend0 : Nat → Option Blk} {ρ0 : Env} {d n : Nat} {ops : Array Oper} {ks : List Bool}

theorem all_listed (hR : RegOk P G d n ops ks) {D : List Nat} {pr : Nat → Nat} {listed : Array Bool} {pend : Nat → Option Blk} {ρ : Env} {a : AA} {w : AW} {a' : Act} {w' : World}
    (H : Inv P G B w0 good pend0 ρ0 d n ops ks D pr listed pend ρ a w a' w') (hr : Region.ready .any ops listed = []) : ∀ i, i < ops.size → Lst listed i := by
  intro i
  induction i using Nat.strongRecOn with
  | _ i ih =>
    intro hi
    cases hl : listed.getD i false with
    | true => exact hl
    | false =>
      exfalso
      have hmem : i ∈ Region.ready .any ops listed := by
        refine mem_ready.2 ⟨?_, ops[i], by simp [hi], ?_⟩
        · have : i < listed.size := by rw [H.size]; exact hi
          simp [this] at hl ⊢
          exact hl
        · intro e he hb
          have hlt := hR.edges i ops[i] (by simp [hi]) e he hb
          exact ih e.on hlt (by omega)
      rw [hr] at hmem
      cases hmem

theorem region_run (hfi : Fine good) (hg : GR G ρ0) (hR : RegOk P G d n ops ks) {call : CallF} (hcall : CallOk P G B w0 call) {ext : Known} (hext : ExtOk P ext) {K : AA → AW → Res} {Q : Exit → Act → World → Prop}
    (hQ : ∀ ρ a w a' w', Env.le ρ0 ρ → AAR ρ d n a a' → WR ⟨P, G, B, w0, pend0, good⟩ ρ w w' → good (K a w) → Q .normal a' w') :
    ∀ (fuel : Nat) (ss : List Stage) (D : List Nat) (pr : Nat → Nat) (listed : Array Bool) (pend : Nat → Option Blk) (ρ : Env) (a : AA) (w : AW) (a' : Act) (w' : World),
      Inv P G B w0 good pend0 ρ0 d n ops ks D pr listed pend ρ a w a' w' → stagesRight P ops (masks ops.toList []) ks D ss = true → good ((stagesF P G ext d ops ss).run call a w K) → unlisted listed ops.size ≤ fuel →
      wpAny P .any ops Q fuel listed a' w' := by
  have fin : ∀ (ss : List Stage) (D : List Nat) (pr : Nat → Nat) (listed : Array Bool) (pend : Nat → Option Blk) (ρ : Env) (a : AA) (w : AW) (a' : Act) (w' : World),
      Inv P G B w0 good pend0 ρ0 d n ops ks D pr listed pend ρ a w a' w' → stagesRight P ops (masks ops.toList []) ks D ss = true → good ((stagesF P G ext d ops ss).run call a w K) → Region.ready .any ops listed = [] → Q .normal a' w' := by
    intro ss D pr listed pend ρ a w a' w' H hst h hr
    have hall := all_listed hR H hr
    cases ss with
    | cons s rest =>
      exfalso
      simp only [stagesRight, Bool.and_eq_true, Bool.not_eq_true'] at hst
      obtain ⟨⟨⟨⟨⟨⟨⟨hA, hin⟩, _⟩, _⟩, _⟩, _⟩, _⟩, _⟩ := hst
      unfold stagesF at h
      cases ho : ops[s.act]? with
      | none => rw [ho] at h; exact absurd h hfi.bad
      | some o =>
        have := H.sub _ (hall s.act (Array.getElem?_eq_some_iff.1 ho).1)
        rw [natIn_iff.2 this] at hin
        cases hin
    | nil =>
      have hD : ∀ i ∈ D, Lst listed i := fun i hi => hall i (H.din i hi)
      have hpe : pend = pend0 := by
        funext r
        cases h1 : pend r with
        | some b =>
          rcases H.only r b h1 with h2 | ⟨i, hi, hl, _⟩
          · rw [h2]
          · exact absurd (hD i hi) hl
        | none =>
          cases h2 : pend0 r with
          | none => rfl
          | some b => rw [H.base r b h2] at h1; cases h1
      refine hQ ρ a w a' w' H.le ⟨H.asize, hR.deep, H.defers, fun t ht => H.vals t ht fun i hi hl => absurd (hD i hi) hl⟩ ?_ h
      rw [← hpe]
      exact H.wr
  intro fuel
  induction fuel with
  | zero =>
    intro ss D pr listed pend ρ a w a' w' H hst h hu
    have hr : Region.ready .any ops listed = [] := by
      cases hq : Region.ready .any ops listed with
      | nil => rfl
      | cons i l =>
        exfalso
        obtain ⟨hnl, hlt, _⟩ := ready_anc H (i := i) (by rw [hq]; simp)
        have := unlisted_set hlt H.size hnl
        omega
    exact ⟨hr, fin ss D pr listed pend ρ a w a' w' H hst h hr⟩
  | succ fuel ih =>
    intro ss D pr listed pend ρ a w a' w' H hst h hu
    refine ⟨fun hr => fin ss D pr listed pend ρ a w a' w' H hst h hr, fun i hi => ?_⟩
    obtain ⟨hnl, hlt, o, ho, hanc⟩ := ready_anc H hi
    have hless := unlisted_set hlt H.size hnl
    by_cases hiD : i ∈ D
    · exact step_done hg hR H hiD hi fun pend2 ρ2 a2' w2' H2 => ih ss D pr _ pend2 ρ2 a w a2' w2' H2 hst h (by omega)
    · cases ss with
      | nil =>
        exfalso
        have := List.all_eq_true.1 hst i (List.mem_range.2 hlt)
        exact hiD (natIn_iff.1 this)
      | cons s rest =>
        simp only [stagesRight, Bool.and_eq_true, Bool.not_eq_true'] at hst
        obtain ⟨⟨⟨⟨⟨⟨⟨hA, hin⟩, _⟩, hrd⟩, _⟩, hbeh⟩, hcalms⟩, hrest⟩ := hst
        have hia : i = s.act := by
          have := List.all_eq_true.1 hbeh i (List.mem_range.2 hlt)
          simp only [Bool.or_eq_true] at this
          rcases this with (h1 | h1) | h1
          · exact absurd (natIn_iff.1 h1) hiD
          · exact nat_beq h1
          · have := H.sub _ (hanc s.act h1)
            rw [natIn_iff.2 this] at hin
            cases hin
        subst hia
        unfold stagesF at h
        rw [ho] at h
        simp only [Box.run_mk] at h
        obtain ⟨g, hgt, hslots⟩ := ready_slots hR H hi ho
        have hright := hR.right o (Array.mem_of_getElem? ho)
        have hgρ := hg.mono H.le
        have hov := ov_slots hgρ hright (fun t ht htn => hslots t (.inl ht) htn)
        have hguard := guard_one H.asize (all_put hR) hgt (fun t ht htn => hslots t (.inr ht) htn)
        have next : ∀ ρ2 v v' w2 w2', Env.le ρ ρ2 → VR ρ2 v v' → WR ⟨P, G, B, w0, pend, good⟩ ρ2 w2 w2' →
            good ((putK d o.dst).run v a fun a => cond ((again P d ops s.again).run a w2) ((runC P d ops s.calms).run a w2 fun a w => (stagesF P G ext d ops rest).run call a w K) .bad) →
            wpAny P .any ops Q fuel (listed.setIfInBounds s.act true) (a'.put o.dst v') w2' := by
          intro ρ2 v v' w2 w2' q1 q2 q3 q4
          rw [putK_eq'] at q4
          cases hag : (again P d ops s.again).run ((putF d o.dst).run v a) w2 with
          | false => rw [hag] at q4; exact absurd q4 hfi.bad
          | true =>
            rw [hag] at q4
            have H2 := act_inv hR H hiD hA hanc ho q1 q2 q3 (by
              intro k hk hkl hkC p t hp ht hrp
              refine again_ok s.again hag k ?_ p t hp ht
              have := List.all_eq_true.1 hrd k hk
              simp only [Bool.or_eq_true, Bool.not_eq_true'] at this
              rcases this with ((h1 | h1) | h1) | h1
              · rw [hkC] at h1; cases h1
              · unfold readsAt at h1; rw [hp] at h1; simp only at h1; rw [hrp] at h1; cases h1
              · exact absurd (hanc k h1) hkl
              · exact natIn_iff.1 h1)
            obtain ⟨pr2, pend2, a2, w3, H3, h3⟩ := calms_run hfi hR s.calms _ pr pend _ w2 H2 hcalms _ q4
            exact ih rest _ pr2 _ pend2 ρ2 a2 w3 _ w2' H3 hrest h3 (by omega)
        unfold wpOp
        simp only [ho]
        have run : ∀ (h : good ((operF P G ext d o).run call a w fun v w => (putK d o.dst).run v a fun a => cond ((again P d ops s.again).run a w) ((runC P d ops s.calms).run a w fun a w => (stagesF P G ext d ops rest).run call a w K) .bad)),
            o.wp P a' w' (wpAny P .any ops Q fuel (listed.setIfInBounds s.act true)) Q := by
          intro h
          exact Out.wp (operF_run (C := ⟨P, G, B, w0, pend, good⟩) hfi hgρ H.wr hcall hext hov h) next
        unfold actF at h
        rcases hguard with ⟨h1, h2⟩ | ⟨t, want, h1, _, h2⟩
        · rw [h1] at h
          rw [h2]
          exact .inl (run h)
        · rw [h1] at h
          rw [h2]
          simp only [Box.run_mk] at h
          cases hb : isBool ((opd d (.tmp t)).run a) want with
          | true => rw [hb] at h; exact .inl (run h)
          | false =>
            rw [hb] at h
            exact next ρ undef undef w w' (Env.le.refl _) VR.undef H.wr h
end
end Go.Ab
/- Regions of open order: what the plan's check gives; the region in the program. -/
namespace Go.Ab
open Go.RowKit

theorem tmpIn_iff {l : List Tmp} {t : Tmp} : tmpIn l t = true ↔ t ∈ l := natIn_iff

theorem regOk_of {P : Program} {G d n : Nat} {ops : Array Oper} {p : Plan} (hd : n ≤ 2 ^ d) (hall : ∀ o ∈ ops, operRight G n o = true) (h : planOk P d ops p = true) : RegOk P G d n ops p.kinds := by
  unfold planOk at h
  simp only [Bool.and_eq_true] at h
  obtain ⟨⟨⟨hk, hr⟩, _⟩, _⟩ := h
  unfold kindsRight at hk
  rw [Bool.and_eq_true] at hk
  obtain ⟨hlen, hk⟩ := hk
  have hlen := nat_beq hlen
  have hright : ∀ i o, ops[i]? = some o → rightAt ops (masks ops.toList []) p.kinds i o = true := by
    intro i o ho
    have := List.all_eq_true.1 hr i (List.mem_range.2 (Array.getElem?_eq_some_iff.1 ho).1)
    rw [ho] at this
    exact this
  have hedges : ∀ i o, ops[i]? = some o → ∀ e ∈ o.after, Region.binds .any e = true → e.on < i := by
    intro i o ho e he hb
    have := hright i o ho
    unfold rightAt at this
    rw [Bool.and_eq_true] at this
    have := List.all_eq_true.1 this.1 e (by simpa using he)
    rw [binds_any] at hb
    rw [hb] at this
    exact blt_iff.1 (by simpa using this)
  have hback : ∀ i o, ops[i]? = some o → ∀ j, Behind ops i j → j < i := by
    intro i
    induction i using Nat.strongRecOn with
    | _ i ih =>
      intro o ho j hj
      obtain ⟨e, he, hb, h1⟩ := masks_spec ho hj
      have hlt := hedges i o ho e he hb
      rcases h1 with rfl | h1
      · exact hlt
      · have hsz : e.on < ops.size := by have := (Array.getElem?_eq_some_iff.1 ho).1; omega
        have := ih e.on hlt ops[e.on] (by simp [hsz]) j h1
        omega
  have hpair : ∀ i o j q t, ops[i]? = some o → ops[j]? = some q → q.dst = some t → ∃ g, guardTmp ops o = some g ∧
      ((t ∈ tmpsOf o.op ∨ t ∈ g) → Behind ops i j ∨ (Behind ops j i ∧ isA p.kinds j = true)) ∧ (o.dst = some t → i = j) := by
    intro i o j q t ho hq ht
    have := hright i o ho
    unfold rightAt at this
    rw [Bool.and_eq_true] at this
    have h2 := this.2
    cases hg : guardTmp ops o with
    | none => rw [hg] at h2; cases h2
    | some g =>
      rw [hg] at h2
      have h3 := List.all_eq_true.1 h2 j (List.mem_range.2 (Array.getElem?_eq_some_iff.1 hq).1)
      rw [hq] at h3
      simp only [ht, Bool.and_eq_true, Bool.or_eq_true] at h3
      refine ⟨g, rfl, ?_, ?_⟩
      · intro hm
        rcases h3.1 with (h4 | h4) | h4
        · exfalso
          have : (tmpIn (tmpsOf o.op) t || tmpIn g t) = true := by
            rw [Bool.or_eq_true]
            exact hm.imp tmpIn_iff.2 tmpIn_iff.2
          rw [this] at h4
          cases h4
        · exact .inl h4
        · exact .inr h4
      · intro hd
        rcases h3.2 with h4 | h4
        · exact nat_beq h4
        · rw [hd] at h4
          simp at h4
  refine ⟨hd, hall, ?_, ?_, ?_, hedges, hback, ?_⟩
  · intro i o ho hC
    have := List.all_eq_true.1 hk i (List.mem_range.2 (Array.getElem?_eq_some_iff.1 ho).1)
    unfold isC at hC
    rw [ho] at this
    cases hki : p.kinds[i]? with
    | none => rw [hki] at hC; cases hC
    | some b =>
      rw [hki] at hC this
      have hC : b = true := hC
      subst hC
      simp only [Bool.and_eq_true] at this
      exact ⟨this.1, Option.isSome_iff_exists.1 this.2⟩
  · intro i hi
    unfold isC isA
    have : i < p.kinds.length := by omega
    rw [List.getElem?_eq_getElem this]
    cases p.kinds[i] <;> simp
  · intro i o ho
    have := hright i o ho
    cases hg : guardTmp ops o with
    | none =>
      unfold rightAt at this
      rw [hg, Bool.and_eq_true] at this
      cases this.2
    | some g =>
      refine ⟨g, rfl, fun j q t hq ht hm => ?_⟩
      obtain ⟨g2, hg2, h1, _⟩ := hpair i o j q t ho hq ht
      rw [hg] at hg2
      cases hg2
      exact h1 hm
  · intro i j o q t ho hq ht hqt
    obtain ⟨_, _, _, h2⟩ := hpair i o j q t ho hq hqt
    exact h2 ht

theorem drawOk {C : Ctx} (hfi : Fine C.good) (hm : C.P.follows .mixedOrders = true) {call : CallF} (hcall : CallOk C.P C.G C.B C.w0 call) {ext : Known} (hext : ExtOk C.P ext) {d n : Nat} (hd : n ≤ 2 ^ d) : DrawOk C call ext d n := by
  intro id ops hall K ρ a w a' w' hg haar hwr h
  obtain ⟨P, G, B, w0, pend, good⟩ := C
  unfold drawF drawP at h
  cases hp : planOk P d ops (planOf P d ops) with
  | false => rw [hp] at h; exact absurd h hfi.bad
  | true =>
    rw [hp] at h
    have hR := regOk_of hd hall hp
    simp only [cond_true, Box.run_mk] at h
    unfold planOk at hp
    simp only [Bool.and_eq_true] at hp
    obtain ⟨⟨⟨_, _⟩, hfirst⟩, hstages⟩ := hp
    have hno : ∀ i, ¬ Lst (Array.replicate ops.size false) i := by
      intro i hi
      unfold Lst at hi
      by_cases hs : i < ops.size <;> simp [hs] at hi
    have H0 : Inv P G B w0 good pend ρ d n ops (planOf P d ops).kinds [] (fun _ => 0) (Array.replicate ops.size false) pend ρ a w a' { w' with drawn := w'.drawn + 1 } := by
      refine ⟨by simp, ?_, fun i hi => absurd hi (hno i), ?_, fun i hi => absurd hi (hno i), ?_, haar.size, haar.defers, fun t ht _ => haar.vals t ht, ?_, ?_, ?_, fun _ _ h => h, fun _ _ h => .inl h, ?_, Env.le.refl _, hwr.drawn _⟩
      all_goals intro i hi; cases hi
    obtain ⟨pr2, pend2, a2, w2, H2, h2⟩ := calms_run hfi hR _ _ _ _ _ _ H0 hfirst _ h
    rw [List.append_nil] at H2
    refine wp_region_any hm ?_
    refine region_run hfi hg hR hcall hext (K := K .normal) ?_ ops.size _ _ pr2 _ pend2 ρ a2 w2 a' _ H2 hstages h2 ?_
    · intro ρ2 a w a' w' q1 q2 q3 q4
      exact ⟨.normal, ρ2, a, w, rfl, q1, q2, q3, q4⟩
    · unfold unlisted
      have := List.length_filter_le (fun i => !(Array.replicate ops.size false).getD i false) (List.range ops.size)
      simpa using this
end Go.Ab
/- A function: its arguments, its code, its results. -/
namespace Go.Ab
open Go.RowKit

theorem enterK_eq (d : Nat) : ∀ (l : List Value) (i : Nat) (a : AA) (K : AA → Res), enterK d l i a K = K (enterF d l i a)
  | [], _, _, _ => rfl
  | v :: l, i, a, K => by
    unfold enterK enterF
    rw [T.toK_eq]
    exact enterK_eq d l (i + 1) _ K

theorem enterF_slot (d : Nat) : ∀ (l : List Value) (i : Nat) (a : AA) (t : Nat), i + l.length ≤ 2 ^ d → t < 2 ^ d → slot d (enterF d l i a) t = if i ≤ t ∧ t < i + l.length then l[t - i]?.getD undef else slot d a t
  | [], i, a, t, _, _ => by
    unfold enterF
    rw [if_neg (by simp)]
  | v :: l, i, a, t, h, ht => by
    simp only [List.length_cons] at h
    unfold enterF
    rw [enterF_slot d l (i + 1) _ t (by omega) ht]
    by_cases h1 : i + 1 ≤ t ∧ t < i + 1 + l.length
    · rw [if_pos h1, if_pos (by simp; omega)]
      have : t - i = (t - (i + 1)) + 1 := by omega
      rw [this, List.getElem?_cons_succ]
    · rw [if_neg h1]
      have hs : slot d (T.to v (path d i) a) t = if t = i then v else slot d a t := by
        unfold slot
        rw [T.to_path, T.get_put d a i (some v) t (by omega) ht]
        split <;> rfl
      rw [hs]
      by_cases h2 : t = i
      · subst h2
        rw [if_pos rfl, if_pos (by simp), Nat.sub_self]
        rfl
      · rw [if_neg h2, if_neg (by simp; omega)]

theorem slot_e (d t : Nat) : slot d .e t = undef := by
  unfold slot
  rw [T.get_e]
  rfl

theorem enter_rel {ρ : Env} {d n : Nat} (hd : n ≤ 2 ^ d) {args : List Value} {args' : Array Value} (h : VRs ρ args args'.toList) (hn : args.length ≤ n) :
    AAR ρ d n (enterF d args 0 .e) { tmps := args' ++ Array.replicate (n - args'.size) undef, defers := [] } := by
  have hl := h.length
  simp only [Array.length_toList] at hl
  refine ⟨by simp; omega, hd, rfl, fun t ht => ?_⟩
  rw [enterF_slot d args 0 .e t (by omega) (by omega)]
  by_cases h1 : t < args.length
  · rw [if_pos (by omega), Nat.sub_zero]
    obtain ⟨u, hu, r⟩ := h.get t (List.getElem?_eq_getElem h1)
    have hu2 : args'[t]? = some u := by simpa using hu
    have hlt : t < args'.size := by omega
    rw [List.getElem?_eq_getElem h1]
    have : (args' ++ Array.replicate (n - args'.size) undef).getD t undef = u := by
      rw [Array.getD_eq_getD_getElem?, Array.getElem?_append_left hlt, hu2]
      rfl
    rw [this]
    exact r
  · rw [if_neg (by omega), slot_e]
    have : (args' ++ Array.replicate (n - args'.size) undef).getD t undef = undef := by
      rw [Array.getD_eq_getD_getElem?, Array.getElem?_append_right (by omega), Array.getElem?_replicate]
      split <;> rfl
    rw [this]
    exact VR.undef

def resTmp : ResultVar → Tmp
  | .tmp t => t
  | .cell a _ => a

def oneRes (tmps : Array Value) : ResultVar → Sem Value
  | .tmp t => pure (tmps.getD t undef)
  | .cell a t => do Go.loadVar t (← asAddr (tmps.getD a undef))

theorem resF_run {C : Ctx} {ρ : Env} {w : AW} {w' : World} (hw : WR C ρ w w') {d n : Nat} {a : AA} {a' : Act} (h : AAR ρ d n a a') {r : ResultVar} (hr : resTmp r < n) {v : Value} (hv : (resF C.P d r).run a w = some v) :
    ∃ u, (oneRes a'.tmps r).run C.P w' = .ok u w' ∧ VR ρ v u := by
  cases r with
  | tmp t =>
    cases hv
    refine ⟨_, rfl, ?_⟩
    rw [opd_slot]
    exact h.vals t hr
  | cell p t =>
    obtain ⟨q, hq, h1⟩ := addrF_some hv
    have := h.vals p hr
    rw [opd_slot] at hq
    rw [hq] at this
    obtain ⟨b, hb, hab⟩ := this.ptr_inv
    obtain ⟨u, hu, hr⟩ := loadF_sound hw hab h1
    refine ⟨u, ?_, hr⟩
    simp only [oneRes, hb]
    exact hu

theorem resAll_run {C : Ctx} {ρ : Env} {w : AW} {w' : World} (hw : WR C ρ w w') {d n : Nat} {a : AA} {a' : Act} (h : AAR ρ d n a a') : ∀ (l : List ResultVar), (∀ r ∈ l, resTmp r < n) → ∀ vs, (resAll C.P d l).run a w = some vs →
    ∃ us, (l.mapM (oneRes a'.tmps)).run C.P w' = .ok us w' ∧ VRs ρ vs us
  | [], _, vs, hv => by cases hv; exact ⟨[], rfl, .nil⟩
  | r :: l, hr, vs, hv => by
    simp only [resAll, Box.run_mk, orElse] at hv
    cases h1 : (resF C.P d r).run a w with
    | none => rw [h1] at hv; cases hv
    | some v =>
      rw [h1] at hv
      simp only at hv
      cases h2 : (resAll C.P d l).run a w with
      | none => rw [h2] at hv; cases hv
      | some vs2 =>
        rw [h2] at hv
        cases hv
        obtain ⟨u, h3, h4⟩ := resF_run hw h (hr r (by simp)) h1
        obtain ⟨us, h5, h6⟩ := resAll_run hw h l (fun r hr2 => hr r (by simp [hr2])) vs2 h2
        refine ⟨u :: us, ?_, .cons _ _ _ _ h4 h6⟩
        rw [List.mapM_cons]
        simp only [Sem.run_bind, h3, h5, Result.andThen_ok, Sem.run_pure]

theorem results_run {C : Ctx} {ρ : Env} {w : AW} {w' : World} (hw : WR C ρ w w') {d n : Nat} {a : AA} {a' : Act} (h : AAR ρ d n a a') {fn : Func} (hr : ∀ r ∈ fn.results.toList, resTmp r < n) {vs : List Value} (hv : (resAll C.P d fn.results.toList).run a w = some vs) {K : VK} (hk : C.good (resK K w vs)) :
    ∃ v v', (Go.results fn a'.tmps).run C.P w' = .ok v' w' ∧ VR ρ v v' ∧ C.good (K v w) := by
  obtain ⟨us, h1, h2⟩ := resAll_run hw h _ hr vs hv
  have hm : (fn.results.mapM (oneRes a'.tmps)).run C.P w' = .ok ⟨us⟩ w' := by
    rw [Array.mapM_eq_mapM_toList, Sem.run_map, h1]
    rfl
  have hrun : (Go.results fn a'.tmps).run C.P w' = .ok (if h : us.toArray.size = 1 then us.toArray[0] else .tuple us.toArray) w' := by
    have e : Go.results fn a'.tmps = (do let vs ← fn.results.mapM (oneRes a'.tmps); pure (if h : vs.size = 1 then vs[0] else .tuple vs)) := by
      unfold Go.results
      congr 1
    rw [e, Sem.run_bind, hm]
    rfl
  have hl := h2.length
  unfold resK at hk
  split at hk
  · rename_i v
    cases h2 with
    | cons _ u _ l r t =>
      cases t
      exact ⟨v, u, hrun, r, hk⟩
  · rename_i hne
    refine ⟨.tuple ⟨vs⟩, .tuple us.toArray, ?_, .tuple _ _ h2, hk⟩
    rw [hrun, dif_neg]
    intro h
    have : vs.length = 1 := by rw [hl]; simpa using h
    match vs, this with
    | [v], _ => exact hne v rfl

def fnOkText (G : Nat) (fn : Func) : Bool :=
  Nat.ble fn.ntmps (2 ^ deep fn.ntmps) && (match fn.body with | some c => codeRight G fn.ntmps c | none => false) && (fn.results.toList.all fun r => Nat.blt (resTmp r) fn.ntmps) && !(fn.name == "runtime.NumGoroutine")

theorem funcF_run {C : Ctx} (hfi : Fine C.good) (hm : C.P.follows .mixedOrders = true) {call : CallF} (hcall : CallOk C.P C.G C.B C.w0 call) {ext : Known} (hext : ExtOk C.P ext) {f : FuncId} {fn : Func} (hf : C.P.funcs[f]? = some fn) (hok : fnOkText C.G fn = true)
    {fuel : Nat} {args : List Value} {args' : Array Value} {w : AW} {w' : World} {ρ : Env} {K : VK} (hg : GR C.G ρ) (ha : VRs ρ args args'.toList) (hn : args.length ≤ fn.ntmps) (hw : WR C ρ w w')
    (h : C.good ((funcF C.P C.G ext fuel fn).run call args w K)) : Enterable C.P f ∧ Calls C.P f args' w' (Ends C ρ K) := by
  unfold fnOkText at hok
  simp only [Bool.and_eq_true, Bool.not_eq_true'] at hok
  obtain ⟨⟨⟨hd, hcr⟩, hres⟩, hname⟩ := hok
  have hd : fn.ntmps ≤ 2 ^ deep fn.ntmps := Nat.le_of_ble_eq_true hd
  have hres : ∀ r ∈ fn.results.toList, resTmp r < fn.ntmps := fun r hr => blt_iff.1 (List.all_eq_true.1 hres r hr)
  unfold funcF at h
  cases hb : fn.body with
  | none => rw [hb] at hcr; cases hcr
  | some c =>
    rw [hb] at h hcr
    simp only [Box.run_mk, enterK_eq] at h
    refine ⟨⟨fn, hf, by rw [hb]; rfl, by simpa using hname⟩, ?_⟩
    refine calls_of_wp hf hb (wp_mono (codeF_run hfi hcall hext (drawOk hfi hm hcall hext hd) c hcr fuel _ ρ _ w _ w' hg (enter_rel hd ha hn) hw h) ?_)
    rintro e a2' w2' ⟨x, ρ2, a2, w2, rfl, q1, q2, q3, q4⟩
    cases x with
    | normal =>
      obtain ⟨vs, hv, hk⟩ := onSome_good hfi q4
      obtain ⟨v, v', h1, h2, h3⟩ := results_run q3 q2 hres hv hk
      exact ⟨q2.defers, v', h1, v', rfl, v, ρ2, w2, q1, h2, q3, h3⟩
    | exit id => exact absurd q4 hfi.bad
    | ret =>
      obtain ⟨vs, hv, hk⟩ := onSome_good hfi q4
      obtain ⟨v, v', h1, h2, h3⟩ := results_run q3 q2 hres hv hk
      exact ⟨q2.defers, v', h1, v', rfl, v, ρ2, w2, q1, h2, q3, h3⟩
end Go.Ab
/- Where several ways come to the same, they are told as one: sound. -/
namespace Go.Ab
open Go.RowKit

theorem natEqs_sound : ∀ {l m : List Nat}, natEqs l m = true → l = m
  | [], [], _ => rfl
  | [], _ :: _, h => by cases h
  | _ :: _, [], h => by cases h
  | x :: l, y :: m, h => by
    simp only [natEqs, Bool.and_eq_true] at h
    rw [nat_beq h.1, natEqs_sound h.2]

theorem entEqs_sound : ∀ {l m : List MapEntry}, entEqs l m = true → l = m
  | [], [], _ => rfl
  | [], _ :: _, h => by cases h
  | _ :: _, [], h => by cases h
  | x :: l, y :: m, h => by
    simp only [entEqs, Bool.and_eq_true] at h
    obtain ⟨⟨⟨h1, h2⟩, h3⟩, h4⟩ := h
    have e : x = y := by
      cases x; cases y
      simp only at h1 h2 h3
      rw [veq_sound h1, veq_sound h2, nat_beq h3]
    rw [e, entEqs_sound h4]

theorem pair_eq {a b : Nat × Nat} (h1 : a.1 = b.1) (h2 : a.2 = b.2) : a = b := by
  cases a; cases b; simp only at h1 h2; rw [h1, h2]

theorem objEq_sound {x y : Obj} (h : objEq x y = true) : x = y := by
  unfold objEq at h
  split at h
  · split at h
    · simp only [Bool.and_eq_true] at h
      obtain ⟨⟨⟨h1, h2⟩, h3⟩, h4⟩ := h
      rw [Array.toList_inj.1 (veqs_sound h1), nat_beq h2, pair_eq (nat_beq h3) (nat_beq h4)]
    · cases h
  · split at h
    · simp only [Bool.and_eq_true] at h
      rw [Array.toList_inj.1 (entEqs_sound h.1), nat_beq h.2]
    · cases h
  · split at h
    · simp only [Bool.and_eq_true] at h
      rw [nat_beq h.1.1, Array.toList_inj.1 (natEqs_sound h.1.2), nat_beq h.2]
    · cases h
  · split at h
    · simp only [Bool.and_eq_true] at h
      rw [nat_beq h.1.1.1, nat_beq h.1.1.2, Array.toList_inj.1 (natEqs_sound h.1.2), nat_beq h.2]
    · cases h
  · cases h

theorem blkEq_sound {x y : Blk} (h : blkEq x y = true) : x = y := by
  cases x; cases y
  simp only [blkEq, Bool.and_eq_true] at h
  rw [objEq_sound h.1, eq_of_beq h.2]

theorem treeEq_sound : ∀ {a b : T Blk}, treeEq a b = true → a = b
  | .e, .e, _ => rfl
  | .leaf x, .leaf y, h => by rw [blkEq_sound h]
  | .node l r, .node l' r', h => by
    simp only [treeEq, Bool.and_eq_true] at h
    rw [treeEq_sound h.1, treeEq_sound h.2]
  | .e, .leaf _, h => by cases h
  | .e, .node _ _, h => by cases h
  | .leaf _, .e, h => by cases h
  | .leaf _, .node _ _, h => by cases h
  | .node _ _, .e, h => by cases h
  | .node _ _, .leaf _, h => by cases h

theorem awEq_sound {a b : AW} (h : awEq a b = true) : a = b := by
  cases a; cases b
  simp only [awEq, Bool.and_eq_true] at h
  rw [nat_beq h.1, treeEq_sound h.2]

theorem outIn_sound {l : List (Value × AW)} {v : Value} {w : AW} (h : outIn l v w = true) : (v, w) ∈ l := by
  unfold outIn at h
  obtain ⟨p, hp, h⟩ := List.any_eq_true.1 h
  simp only [Bool.and_eq_true] at h
  rw [veq_sound h.1, awEq_sound h.2]
  exact hp

theorem mem_dedup : ∀ {l : List (Value × AW)} {p : Value × AW}, p ∈ l → p ∈ dedup l
  | q :: l, p, h => by
    simp only [dedup]
    cases hc : outIn (dedup l) q.1 q.2 with
    | true =>
      rw [cond_true]
      rcases List.mem_cons.1 h with rfl | h
      · exact outIn_sound hc
      · exact mem_dedup h
    | false =>
      rw [cond_false]
      rcases List.mem_cons.1 h with rfl | h
      · exact List.mem_cons_self
      · exact List.mem_cons_of_mem _ (mem_dedup h)

/-- what is asked of the ways behind a join -/
def Each (good : Res → Prop) (K : VK) (r : Res) : Prop := ∃ m, r = .ok m ∧ ∀ p ∈ m, good (K p.1 p.2)

theorem each_fine (good : Res → Prop) (K : VK) : Fine (Each good K) := by
  refine ⟨fun h => (by obtain ⟨m, h, _⟩ := h; cases h), ?_⟩
  intro a b h
  obtain ⟨m, h, hm⟩ := h
  cases a with
  | bad => cases h
  | ok l =>
    cases b with
    | bad => cases h
    | ok l2 =>
      have h : l ++ l2 = m := by have := h; injection this
      subst h
      exact ⟨⟨l, rfl, fun p hp => hm p (List.mem_append_left _ hp)⟩, ⟨l2, rfl, fun p hp => hm p (List.mem_append_right _ hp)⟩⟩

theorem join_good {good : Res → Prop} (hfi : Fine good) {r : Res} {K : VK} (h : good (joinK r K)) : Each good K r := by
  cases r with
  | bad => exact absurd h hfi.bad
  | ok l => exact ⟨l, rfl, fun p hp => hfi.all h p (mem_dedup hp)⟩

theorem put_next (w : AW) (i : Nat) (b : Option Blk) : (w.put i b).next = w.next := rfl

theorem drop_good {good : Res → Prop} (hfi : Fine good) (keep : T Unit) : ∀ (n i : Nat) (w : AW) (K : AW → Res), good (dropK keep n i w K) →
    ∃ w2 : AW, w2.next = w.next ∧ (∀ j b, w2.get j = some b → w.get j = some b) ∧ (∀ j, j < i → w2.get j = w.get j) ∧ good (K w2)
  | 0, _, w, K, h => ⟨w, rfl, fun _ _ h => h, fun _ _ => rfl, h⟩
  | n + 1, i, w, K, h => by
    obtain ⟨c, hc⟩ : ∃ c : Bool, dropK keep (n + 1) i w K = cond c (dropK keep n (Nat.add i 1) w K) (cond (Nat.blt i lim) (w.putK i none fun w => dropK keep n (Nat.add i 1) w K) .bad) := ⟨_, rfl⟩
    rw [hc] at h
    cases c with
    | true =>
      rw [cond_true] at h
      obtain ⟨w2, h1, h2, h3, h4⟩ := drop_good hfi keep n (i + 1) w K h
      exact ⟨w2, h1, h2, fun j hj => h3 j (by omega), h4⟩
    | false =>
      rw [cond_false] at h
      cases hb : Nat.blt i lim with
      | false => rw [hb] at h; exact absurd h hfi.bad
      | true =>
        rw [hb, cond_true, AW.putK_eq] at h
        have hi := blt_iff.1 hb
        obtain ⟨w2, h1, h2, h3, h4⟩ := drop_good hfi keep n (i + 1) _ K h
        refine ⟨w2, by rw [h1, put_next], ?_, ?_, h4⟩
        · intro j b hj
          have := h2 j b hj
          rw [AW.get_put hi] at this
          split at this
          · cases this
          · exact this
        · intro j hj
          rw [h3 j (by omega), AW.get_put hi, if_neg (by omega)]

theorem reach_good {good : Res → Prop} (w : AW) (lo : Nat) : ∀ (fuel : Nat) (todo : List Nat) (m : T Unit) (K : T Unit → Res), good (reachK w lo fuel todo m K) → ∃ keep, good (K keep)
  | 0, _, m, _, h => ⟨m, h⟩
  | fuel + 1, todo, m, K, h => by
    cases todo with
    | nil => exact ⟨m, h⟩
    | cons i r =>
      have h : good (cond (Nat.blt i lo || (T.get dep m i).isSome) (reachK w lo fuel r m K) (T.putK dep m i (some ()) fun m => reachK w lo fuel (blB (w.get i) ++ r) m K)) := h
      cases hc : (Nat.blt i lo || (T.get dep m i).isSome) with
      | true => rw [hc] at h; exact reach_good w lo fuel _ _ _ h
      | false => rw [hc, cond_false, T.putK_eq] at h; exact reach_good w lo fuel _ _ _ h

theorem WR.regood {C : Ctx} {good : Res → Prop} {ρ : Env} {w : AW} {w' : World} (h : WR C ρ w w') : WR ⟨C.P, C.G, C.B, C.w0, C.pend, good⟩ ρ w w' :=
  ⟨h.top, h.live, h.inj, h.below, h.big, h.pend, h.fit⟩

theorem WR.dropped {C : Ctx} {ρ : Env} {w w2 : AW} {w' : World} (h : WR C ρ w w') (h1 : w2.next = w.next) (h2 : ∀ j b, w2.get j = some b → w.get j = some b) {n : Nat} (h3 : ∀ j, j < n → w2.get j = w.get j) (hp : ∀ i b, C.pend i = some b → i < n) : WR C ρ w2 w' := by
  refine ⟨?_, ?_, ?_, h.below, h.big, ?_, ?_⟩
  · intro i hi; exact h.top i (by rw [← h1]; exact hi)
  · intro i b e hb he; exact h.live i b e (h2 i b hb) he
  · intro i j b c e f hb hc he hf hx; exact h.inj i j b c e f (h2 i b hb) (h2 j c hc) he hf hx
  · intro i b hb
    obtain ⟨k1, k2, k3⟩ := h.pend i b hb
    exact ⟨(h3 i (hp i b hb)).trans k1, k2, by rw [h1]; exact k3⟩
  · intro i b hb; rw [h1]; exact h.fit i b (h2 i b hb)
end Go.Ab
/- Calls, by induction on their depth. -/
namespace Go.Ab
open Go.RowKit

theorem WR.after {C : Ctx} {ρ : Env} {w : AW} {w' w'' : World} (h : WR C ρ w w') (hb : Below w'.heap.size w' w'') : WR C ρ w w'' := by
  refine ⟨h.top, ?_, h.inj, ?_, ?_, h.pend, h.fit⟩
  · intro i b e h1 h2
    obtain ⟨o', h3, h4⟩ := h.live i b e h1 h2
    exact ⟨o', by rw [hb.block _ (heap_lt h3)]; exact h3, h4⟩
  · exact h.below.trans (hb.mono h.big)
  · exact Nat.le_trans h.big hb.size

/-- functions whose answers are known -/
def KnOk (P : Program) (kn : Known) : Prop :=
  ∀ f k args v, kn f = some k → k args = some v → ∀ (ρ : Env) (args' : Array Value), VRs ρ args args'.toList → ∃ v', VR ρ v v' ∧ Enterable P f ∧ ∀ w' : World, Calls P f args' w' fun en w'' => en = .returned v' ∧ Below w'.heap.size w' w''

theorem callOk {P : Program} {G B : Nat} {w0 : World} (hm : P.follows .mixedOrders = true) {ext kn : Known} (hext : ExtOk P ext) (hkn : KnOk P kn) {jn : FuncId → Bool} (fuel : Nat) :
    ∀ depth, CallOk P G B w0 (evCall P G ext kn jn (fnOkText G) fuel depth) := by
  intro depth
  induction depth with
  | zero => intro pend good hfi f args args' w w' ρ K _ _ _ h; exact absurd h hfi.bad
  | succ depth ih =>
    intro pend good hfi f args args' w w' ρ K hg ha hw h
    have h : good ((funcAt P G ext kn jn (fnOkText G) fuel f).run (evCall P G ext kn jn (fnOkText G) fuel depth) args w K) := h
    unfold funcAt at h
    cases hk : kn f with
    | some k =>
      rw [hk] at h
      obtain ⟨v, hv, hk2⟩ := onSome_good hfi h
      obtain ⟨v', h1, h2, h3⟩ := hkn f k args v hk hv ρ args' ha
      refine ⟨h2, Calls.mono (h3 w') ?_⟩
      rintro en w'' ⟨rfl, hb⟩
      exact ⟨v', rfl, v, ρ, w, Env.le.refl _, h1, hw.after hb, hk2⟩
    | none =>
      rw [hk] at h
      simp only at h
      cases hf : P.funcs[f]? with
      | none => rw [hf] at h; exact absurd h hfi.bad
      | some fn =>
        rw [hf] at h
        simp only at h
        cases hok : fnOkText G fn with
        | false => rw [hok] at h; exact absurd h hfi.bad
        | true =>
          rw [hok, cond_true] at h
          cases hj : jn f with
          | false =>
            rw [hj] at h
            simp only [cond_false, Box.run_mk] at h
            cases hn : Nat.ble args.length fn.ntmps with
            | false => rw [hn] at h; exact absurd h hfi.bad
            | true =>
              rw [hn] at h
              exact funcF_run (C := ⟨P, G, B, w0, pend, good⟩) hfi hm ih hext hf hok hg ha (Nat.le_of_ble_eq_true hn) hw h
          | true =>
            rw [hj] at h
            simp only [cond_true, Box.run_mk] at h
            cases hn : Nat.ble args.length fn.ntmps with
            | false => rw [hn] at h; exact absurd h hfi.bad
            | true =>
              rw [hn, cond_true] at h
              have h2 := join_good hfi h
              obtain ⟨r1, r2⟩ := funcF_run (C := ⟨P, G, B, w0, pend, Each good K⟩) (each_fine good K) hm ih hext hf hok hg ha (Nat.le_of_ble_eq_true hn) hw.regood h2
              refine ⟨r1, Calls.mono r2 ?_⟩
              rintro en w3' ⟨v', rfl, v, ρ2, w3, hle, hv, hw3, hgd⟩
              obtain ⟨keep, hgd⟩ := reach_good _ _ _ _ _ _ hgd
              obtain ⟨w4, k1, k2, k3, m, k4, k5⟩ := drop_good (each_fine good K) _ _ _ _ _ hgd
              have k4 : [(v, w4)] = m := by injection k4
              subst k4
              refine ⟨v', rfl, v, ρ2, w4, hle, hv, ?_, k5 _ List.mem_cons_self⟩
              exact (WR.dropped hw3 k1 k2 k3 fun i b hb => (hw.pend i b hb).2.2).regood
end Go.Ab
/- From the evaluator's word to a call. -/
namespace Go.Ab
open Go.RowKit

/-- all ways end, and none leaves anything to ask -/
def Done (r : Res) : Prop := r = .ok []

theorem done_fine : Fine Done := by
  refine ⟨fun h => (by cases h), ?_⟩
  intro a b h
  unfold Done at *
  cases a with
  | bad => cases h
  | ok l =>
    cases b with
    | bad => cases h
    | ok m =>
      have h : l ++ m = [] := by
        have := h
        injection this
      obtain ⟨h1, h2⟩ := List.append_eq_nil_iff.1 h
      rw [h1, h2]
      exact ⟨rfl, rfl⟩

/-- what is asked at the end: one certain value -/
noncomputable def yes : VK := fun v _ => match v with | .bool true => .ok [] | _ => .bad

theorem yes_done {v : Value} {w : AW} (h : Done (yes v w)) : v = .bool true := by
  unfold yes at h
  split at h
  · rfl
  · cases h

/-- a world of which nothing is known but where the program's own variables lie -/
theorem WR.start {P : Program} {G B : Nat} {w' : World} (hB : B ≤ w'.heap.size) : WR ⟨P, G, B, w', fun _ => none, Done⟩ (fun i => if i < G then some ⟨i, 0⟩ else none) ⟨G, .e⟩ w' := by
  have hget : ∀ i, (⟨G, .e⟩ : AW).get i = none := by
    intro i
    unfold AW.get
    cases Nat.blt i lim with
    | false => rfl
    | true => exact T.get_e dep i
  refine ⟨?_, ?_, ?_, Below.refl _ _, hB, ?_, ?_⟩
  · intro i hi
    exact if_neg (by have : G ≤ i := hi; omega)
  · intro i b e h; rw [hget] at h; cases h
  · intro i j b c e f h; rw [hget] at h; cases h
  · intro i b h; cases h
  · intro i b h; rw [hget] at h; cases h

/-- a function that asks for nothing answers true in every world -/
theorem answers_true {P : Program} {G : Nat} (hm : P.follows .mixedOrders = true) {ext kn : Known} {jn : FuncId → Bool} (hext : ExtOk P ext) (hkn : KnOk P kn) {fuel depth : Nat} {f : FuncId}
    (h : Done (evCall P G ext kn jn (fnOkText G) fuel depth f [] ⟨G, .e⟩ yes)) {w' : World} :
    Calls P f #[] w' fun en w'' => en = .returned (.bool true) ∧ Below w'.heap.size w' w'' := by
  have hg : GR G (fun i => if i < G then some ⟨i, 0⟩ else none) := fun g hg => if_pos hg
  have := (callOk (B := w'.heap.size) (w0 := w') hm hext hkn fuel depth (fun _ => none) Done done_fine f [] #[] ⟨G, .e⟩ w' _ yes hg .nil (WR.start (Nat.le_refl _)) h).2
  refine Calls.mono this ?_
  rintro en w'' ⟨v', rfl, v, ρ2, w3, _, hv, hw, hd⟩
  have := yes_done hd
  subst this
  exact ⟨by rw [hv.bool_inv], hw.below⟩
end Go.Ab
namespace Go.Ab
open Go.RowKit

/-- a table among the program's own variables: its block, its kind, its numbers, the block's type and mark -/
structure Tab where
  g : Nat
  k : IntKind
  ns : List Int
  t : TypeId
  fr : Nat × Nat

def Tab.blk (x : Tab) : Blk := ⟨.cells ⟨x.ns.map (Value.int x.k)⟩ x.t x.fr, true⟩

noncomputable def globT : List Tab → T Blk
  | [] => .e
  | x :: r => T.put dep (globT r) x.g (some x.blk)

/-- the world holds the tables -/
def Holds (w' : World) (l : List Tab) : Prop := ∀ x ∈ l, w'.heap[x.g]? = some (.cells ⟨x.ns.map (Value.int x.k)⟩ x.t x.fr)

theorem globT_get {G : Nat} : ∀ {l : List Tab}, (∀ x ∈ l, x.g < lim) → ∀ {i : Nat} {b : Blk}, (⟨G, globT l⟩ : AW).get i = some b → ∃ x ∈ l, i = x.g ∧ b = x.blk
  | [], _, i, b, h => by
    have : (⟨G, .e⟩ : AW).get i = none := by
      unfold AW.get
      cases Nat.blt i lim with
      | false => rfl
      | true => exact T.get_e dep i
    rw [show globT [] = .e from rfl, this] at h
    cases h
  | x :: r, hl, i, b, h => by
    have h : ((⟨G, globT r⟩ : AW).put x.g (some x.blk)).get i = some b := h
    rw [AW.get_put (hl x List.mem_cons_self)] at h
    split at h
    · rename_i e
      cases h
      exact ⟨x, List.mem_cons_self, e, rfl⟩
    · obtain ⟨y, hy, h1, h2⟩ := globT_get (fun z hz => hl z (List.mem_cons_of_mem _ hz)) h
      exact ⟨y, List.mem_cons_of_mem _ hy, h1, h2⟩

theorem WR.startG {P : Program} {G B : Nat} {w' : World} (hB : B ≤ w'.heap.size) {l : List Tab} (hl : ∀ x ∈ l, x.g < G) (hG : G ≤ lim) (hw : Holds w' l) : WR ⟨P, G, B, w', fun _ => none, Done⟩ (fun i => if i < G then some ⟨i, 0⟩ else none) ⟨G, globT l⟩ w' := by
  have hll : ∀ x ∈ l, x.g < lim := fun x hx => Nat.lt_of_lt_of_le (hl x hx) hG
  refine ⟨?_, ?_, ?_, Below.refl _ _, hB, ?_, ?_⟩
  · intro i hi
    exact if_neg (by have : G ≤ i := hi; omega)
  · intro i b e hb he
    obtain ⟨x, hx, rfl, rfl⟩ := globT_get hll hb
    simp only [if_pos (hl x hx), Option.some.injEq] at he
    subst he
    refine ⟨_, hw x hx, ⟨_, _, rfl, by simp, ?_, .inl rfl⟩, fun _ => rfl, fun h => absurd (hl x hx) (Nat.not_lt.2 h)⟩
    intro j v hv
    refine ⟨v, hv, ?_⟩
    simp only [List.getElem?_toArray, List.getElem?_map, Option.map_eq_some_iff] at hv
    obtain ⟨n, _, rfl⟩ := hv
    exact .int _ _
  · intro i j b c e f hb hc he hf h
    obtain ⟨x, hx, rfl, rfl⟩ := globT_get hll hb
    obtain ⟨y, hy, rfl, rfl⟩ := globT_get hll hc
    simp only [if_pos (hl x hx), Option.some.injEq] at he
    simp only [if_pos (hl y hy), Option.some.injEq] at hf
    subst he; subst hf
    exact h
  · intro i b h; cases h
  · intro i b h
    obtain ⟨x, hx, rfl, rfl⟩ := globT_get hll h
    exact hl x hx

/-- a function that asks for nothing but the program's own tables answers true in every world that holds them -/
theorem answers_true_g {P : Program} {G : Nat} (hm : P.follows .mixedOrders = true) {ext kn : Known} {jn : FuncId → Bool} (hext : ExtOk P ext) (hkn : KnOk P kn) {fuel depth : Nat} {f : FuncId} {l : List Tab} (hl : ∀ x ∈ l, x.g < G) (hG : G ≤ lim)
    (h : Done (evCall P G ext kn jn (fnOkText G) fuel depth f [] ⟨G, globT l⟩ yes)) {w' : World} (hw : Holds w' l) :
    Calls P f #[] w' fun en w'' => en = .returned (.bool true) ∧ Below w'.heap.size w' w'' := by
  have hg : GR G (fun i => if i < G then some ⟨i, 0⟩ else none) := fun g hg => if_pos hg
  have := (callOk (B := w'.heap.size) (w0 := w') hm hext hkn fuel depth (fun _ => none) Done done_fine f [] #[] ⟨G, globT l⟩ w' _ yes hg .nil (WR.startG (Nat.le_refl _) hl hG hw) h).2
  refine Calls.mono this ?_
  rintro en w'' ⟨v', rfl, v, ρ2, w3, _, hv, hw, hd⟩
  have := yes_done hd
  subst this
  exact ⟨by rw [hv.bool_inv], hw.below⟩

theorem Holds.below {w w' : World} {l : List Tab} (h : Holds w l) (hb : Below w.heap.size w w') : Holds w' l := by
  intro x hx
  have := h x hx
  rw [hb.block _ (by
    rcases Nat.lt_or_ge x.g w.heap.size with k | k
    · exact k
    · rw [Array.getElem?_eq_none k] at this; cases this)]
  exact this
end Go.Ab
namespace Go.Ab
open Go.RowKit

/-- what is asked at the end: one certain plain value -/
noncomputable def isV (x : Value) : VK := fun v _ => cond (veq x v) (.ok []) .bad

theorem isV_done {x v : Value} {w : AW} (h : Done (isV x v w)) : x = v := by
  unfold isV at h
  cases hv : veq x v with
  | true => exact veq_sound hv
  | false => rw [hv] at h; cases h

/-- a call with plain arguments answers one certain plain value in every world that holds the tables -/
theorem answers_plain {P : Program} {G : Nat} (hm : P.follows .mixedOrders = true) {ext kn : Known} {jn : FuncId → Bool} (hext : ExtOk P ext) (hkn : KnOk P kn) {fuel depth : Nat} {f : FuncId} {l : List Tab} (hl : ∀ x ∈ l, x.g < G) (hG : G ≤ lim)
    {args : List Value} (ha : ∀ ρ, VRs ρ args args) {x : Value} (hx : ∀ ρ v, VR ρ x v → v = x)
    (h : Done (evCall P G ext kn jn (fnOkText G) fuel depth f args ⟨G, globT l⟩ (isV x))) {w' : World} (hw : Holds w' l) :
    Calls P f args.toArray w' fun en w'' => en = .returned x ∧ Below w'.heap.size w' w'' := by
  have hg : GR G (fun i => if i < G then some ⟨i, 0⟩ else none) := fun g hg => if_pos hg
  have := (callOk (B := w'.heap.size) (w0 := w') hm hext hkn fuel depth (fun _ => none) Done done_fine f args args.toArray ⟨G, globT l⟩ w' _ (isV x) hg (ha _) (WR.startG (Nat.le_refl _) hl hG hw) h).2
  refine Calls.mono this ?_
  rintro en w'' ⟨v', rfl, v, ρ2, w3, _, hv, hw, hd⟩
  have e := isV_done hd
  subst e
  exact ⟨by rw [hx _ _ hv], hw.below⟩
end Go.Ab
