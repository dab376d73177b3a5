/- The quiet operations: what the evaluator answers for one is what the model's run of it gives. -/
import Derived.Test.YtcioaghchnkepaaGreatDoorEv2
import Derived.Lib.UnsafeStr
import Derived.Laws.BytesString
/- The quiet operations: what the evaluator answers for one is what the model's run of it gives. -/
namespace Go.Ab
open Go.RowKit

/-- the operation gives a value, at whatever world (or at this one, if it reads memory), and leaves the world alone -/
def Gives (C : Ctx) (rd : Bool) (w' : World) (s : Sem Value) (v' : Value) : Prop := ∀ w2, (rd = false ∨ w2 = w') → s.run C.P w2 = .ok v' w2

theorem val_run {P : Program} {s : Sem Value} {v : Value} {w : World} (h : s.run P w = .ok v w) : (do pure (.value (← s)) : Sem Next).run P w = .ok (.value v) w := by
  rw [Sem.run_bind, h]; rfl

theorem gives_run {C : Ctx} {rd : Bool} {w' : World} {s : Sem Value} {v : Value} (h : Gives C rd w' s v) : ∀ w2, (rd = false ∨ w2 = w') → (do pure (.value (← s)) : Sem Next).run C.P w2 = .ok (.value v) w2 :=
  fun w2 h2 => val_run (h w2 h2)

def OV (ρ : Env) (d : Nat) (a : AA) (e : Operand → Value) (x : Operand) : Prop := VR ρ ((opd d x).run a) (e x)

theorem OVs {ρ : Env} {d : Nat} {a : AA} {e : Operand → Value} {l : List Operand} (h : ∀ x ∈ l, OV ρ d a e x) : VRs ρ (l.map fun y => (opd d y).run a) (l.map e) := by
  induction l with
  | nil => exact .nil
  | cons x l ih => exact .cons _ _ _ _ (h x (by simp)) (ih fun y hy => h y (by simp [hy]))

theorem OPs {ρ : Env} {d : Nat} {a : AA} {e : Operand → Value} {l : List (Nat × Operand)} (h : ∀ p ∈ l, OV ρ d a e p.2) : PRs ρ (l.map fun p => (p.1, (opd d p.2).run a)) (l.map fun p => (p.1, e p.2)) := by
  induction l with
  | nil => exact .nil
  | cons x l ih => exact .cons _ _ _ _ _ (h x (by simp)) (ih fun y hy => h y (by simp [hy]))

theorem OVo {ρ : Env} {d : Nat} {a : AA} {e : Operand → Value} {x : Option Operand} (h : ∀ y, x = some y → OV ρ d a e y) : VRo ρ (x.map fun y => (opd d y).run a) (x.map e) := by
  cases x with
  | none => trivial
  | some y => exact h y rfl

theorem lenB_run {C : Ctx} {ρ : Env} {w : AW} {w' : World} (hw : WR C ρ w w') {t : TypeId} {x x' v : Value} (hx : VR ρ x x') (h : (lenB C.P t).run x w = some v) (ty : TypeId) (ts : Array TypeId) (hts : ts[0]? = some t) :
    ∃ v', Gives C (mapType C.P t) w' (Builtin.len_ ts ty #[x']) v' ∧ VR ρ v v' := by
  unfold lenB at h
  split at h
  · rename_i ht
    simp only [Box.run_mk] at h
    split at h
    · cases h
      obtain rfl := hx.string_inv
      refine ⟨_, fun w2 _ => ?_, .int _ _⟩
      have : (#[Value.string ‹ByteArray›])[0]? = some (Value.string ‹ByteArray›) := rfl
      simp only [Builtin.len_, hts, this, Sem.run_bind, run_underlying ht, Result.andThen_ok]
      rfl
    · cases h
  · rename_i e ht
    simp only [Box.run_mk] at h
    split at h
    · cases h
      rename_i b n c
      have : ∃ b' c', x' = .slice b' n c' := by cases hx <;> exact ⟨_, _, rfl⟩
      obtain ⟨b', c', rfl⟩ := this
      refine ⟨_, fun w2 _ => ?_, .int _ _⟩
      simp [Builtin.len_, hts, run_underlying ht, goInt]
    · cases h
  · rename_i k e ht
    simp only [Box.run_mk] at h
    split at h
    · cases h
      cases hx
      refine ⟨_, fun w2 _ => ?_, .int _ _⟩
      simp [Builtin.len_, hts, run_underlying ht, goInt]
    · rename_i r
      split at h
      · rename_i es cl fl hg
        cases h
        have hE : entriesOf w (.map (some r)) = some es := by simp [entriesOf, hg]
        obtain ⟨es', hE', hc⟩ := entriesOf_some hw hx hE
        rcases hc with ⟨rfl, rfl⟩ | ⟨q, clock, rfl, ho⟩
        · cases hx
        · refine ⟨_, fun w2 h2 => ?_, .int _ _⟩
          have hm : mapType C.P t = true := by simp [mapType, ht]
          rw [hm] at h2
          rcases h2 with h2 | rfl
          · cases h2
          · have hl : es.size = es'.size := by have := hE'.length; simpa using this
            simp [Builtin.len_, hts, run_underlying ht, goInt, run_getObj_map ho, hl]
      · cases h
    · cases h
  · simp only [Box.run_mk] at h; cases h

theorem onIntV {ρ : Env} {v u r : Value} {f : IntKind → Int → Option Value} (h : onInt v f = some r) (hv : VR ρ v u) : ∃ k n, v = .int k n ∧ u = .int k n ∧ f k n = some r := by
  obtain ⟨k, n, rfl, h⟩ := onInt_some h
  exact ⟨k, n, rfl, hv.int_inv, h⟩

def rdOf (C : Ctx) (o : Op) : Bool := reads C.P o

/-- what is to be shown of each quiet operation -/
def QG (C : Ctx) (ρ : Env) (w' : World) (e : Operand → Value) (o : Oper) (v : Value) : Prop :=
  ∃ v', (∀ w2, (reads C.P o.op = false ∨ w2 = w') → (execOp e o).run C.P w2 = .ok (.value v') w2) ∧ VR ρ v v'

theorem QG.of {C : Ctx} {ρ : Env} {w' : World} {e : Operand → Value} {o : Oper} {v v' : Value} {s : Sem Value} (he : execOp e o = (do pure (.value (← s)))) (h : ∀ w2, (reads C.P o.op = false ∨ w2 = w') → s.run C.P w2 = .ok v' w2) (hv : VR ρ v v') : QG C ρ w' e o v :=
  ⟨v', fun w2 h2 => by rw [he]; exact val_run (h w2 h2), hv⟩

theorem run_asBool {P : Program} (b : Bool) (w : World) : (asBool (.bool b)).run P w = .ok b w := rfl

theorem binOp_quiet {C : Ctx} {ρ : Env} {op : BinOp} {t : TypeId} {x y : Operand} {a : AA} {d : Nat} {e : Operand → Value} (hx : OV ρ d a e x) (hy : OV ρ d a e y) {v : Value}
    (h : @Option.rec Value (fun _ => Option Value)
        (cond (scalarV ((opd d x).run a) && scalarV ((opd d y).run a)) (pureBin C.P op t x y ((opd d x).run a) ((opd d y).run a)) none)
        some ((binF C.P op t (isConst x) (isConst y)).run ((opd d x).run a) ((opd d y).run a)) = some v) :
    (∀ w, (do eqGuard op t x y (e x) (e y); binOp op t (e x) (e y)).run C.P w = .ok v w) ∧ VR ρ v v := by
  cases hb : (binF C.P op t (isConst x) (isConst y)).run ((opd d x).run a) ((opd d y).run a) with
  | some r =>
    rw [hb] at h
    cases h
    exact ⟨fun w => (binF_run hb hx hy w).1, (binF_run hb hx hy default).2⟩
  | none =>
    rw [hb] at h
    simp only at h
    cases hs : (scalarV ((opd d x).run a) && scalarV ((opd d y).run a)) with
    | false => rw [hs] at h; cases h
    | true =>
      rw [hs] at h
      simp only [cond_true] at h
      rw [Bool.and_eq_true] at hs
      have e1 : e x = (opd d x).run a := scalar_eq hx hs.1
      have e2 : e y = (opd d y).run a := scalar_eq hy hs.2
      rw [e1, e2]
      unfold pureBin at h
      split at h
      · rename_i r hr
        cases hc : constOk 4 r with
        | false => rw [hc] at h; cases h
        | true =>
          rw [hc] at h
          cases h
          exact ⟨fun w => pureRun_run hr w, VR.const 4 _ hc⟩
      · cases h

theorem run_makeInterface {P : Program} {t : TypeId} {d : TypeDesc} (h : P.underlying t = some d) (hd : ∀ m, d ≠ .interface m) (x : Value) (w : World) : (Instr.makeInterface t x).run P w = .ok (.iface t x) w := by
  simp only [Instr.makeInterface, Sem.run_bind, run_underlying h, Result.andThen_ok]
  cases d <;> first | rfl | exact absurd rfl (hd _)

theorem run_convInt {P : Program} {s t : TypeId} {k k' : IntKind} (hs : P.underlying s = some (.int k')) (ht : P.underlying t = some (.int k)) (j : IntKind) (n : Int) (w : World) :
    (convert s t (.int j n)).run P w = .ok (.int k (k.wrap n)) w := by
  simp only [convert, Sem.run_bind, run_underlying hs, run_underlying ht, Result.andThen_ok]
  rfl

theorem run_convStr {P : Program} {s t : TypeId} (hs : P.underlying s = some .string) (ht : P.underlying t = some .string) (b : ByteArray) (w : World) :
    (convert s t (.string b)).run P w = .ok (.string b) w := by
  simp only [convert, Sem.run_bind, run_underlying hs, run_underlying ht, Result.andThen_ok]
  rfl

theorem quiet_run {C : Ctx} {ρ : Env} {w : AW} {w' : World} (hw : WR C ρ w w') {d : Nat} {o : Oper} {q : Box QF} (hq : quiet C.P d o.op = some q) {a : AA} {e : Operand → Value}
    (hv : ∀ x ∈ o.op.operands, OV ρ d a e x) {v : Value} (h : q.run a w = some v) : QG C ρ w' e o v := by
  obtain ⟨dst, op, ty, needs, gd, rest⟩ := o
  simp only at hq hv
  cases op with
  | move x => cases hq; cases h; exact ⟨_, fun w2 _ => rfl, hv x (by simp [Op.operands])⟩
  | assign x => cases hq; cases h; exact ⟨_, fun w2 _ => rfl, hv x (by simp [Op.operands])⟩
  | pick c x y =>
    cases hq
    simp only [Box.run_mk] at h
    split at h
    · rename_i b hb
      have hc : OV ρ d a e c := hv c (by simp [Op.operands])
      have hx : OV ρ d a e x := hv x (by simp [Op.operands])
      have hy : OV ρ d a e y := hv y (by simp [Op.operands])
      unfold OV at hc
      rw [hb] at hc
      have hc := hc.bool_inv
      cases h
      refine ⟨if b then e x else e y, fun w2 _ => ?_, ?_⟩
      · simp only [execOp, hc]
        cases b <;> rfl
      · cases b
        · exact hy
        · exact hx
    · cases h
  | load t x =>
    cases hq
    have hx : OV ρ d a e x := hv x (by simp [Op.operands])
    obtain ⟨p, hp, h1⟩ := addrF_some h
    unfold OV at hx
    rw [hp] at hx
    obtain ⟨b, hb, hab⟩ := hx.ptr_inv
    obtain ⟨u, hu, hr⟩ := loadF_sound hw hab h1
    refine QG.of (s := Instr.loadAt t (e x)) rfl (fun w2 h2 => ?_) hr
    rcases h2 with h2 | rfl
    · cases h2
    · rw [hb]; exact hu
  | nilCheck x =>
    cases hq
    have hx : OV ρ d a e x := hv x (by simp [Op.operands])
    unfold OV at hx
    simp only [Box.run_mk] at h
    split at h
    · rename_i p hp
      cases h
      rw [hp] at hx
      obtain ⟨b, hb, hab⟩ := hx.ptr_inv
      exact ⟨_, fun w2 _ => by simp only [execOp, hb]; rfl, .ptr _ _ hab⟩
    · rename_i g f c hp
      cases h
      rw [hp] at hx
      generalize hz : e x = z at hx
      cases hx with
      | func _ _ f' _ c' h1 h2 h3 => exact ⟨_, fun w2 _ => by simp only [execOp, hz]; rfl, .func _ _ _ _ _ h1 h2 h3⟩
    · cases h
  | binOp op t x y g =>
    cases hq
    have hx : OV ρ d a e x := hv x (by simp [Op.operands])
    have hy : OV ρ d a e y := hv y (by simp [Op.operands])
    obtain ⟨h1, h2⟩ := binOp_quiet hx hy h
    exact QG.of (s := do eqGuard op t x y (e x) (e y); binOp op t (e x) (e y)) rfl (fun w2 _ => h1 w2) h2
  | unOp op t x =>
    cases op with
    | not =>
      cases hq
      have hx : OV ρ d a e x := hv x (by simp [Op.operands])
      unfold OV at hx
      simp only [Box.run_mk] at h
      split at h
      · rename_i b hb
        rw [hb] at hx
        cases h
        exact QG.of (s := Op.unary .not (e x)) rfl (fun w2 _ => by rw [hx.bool_inv]; rfl) (.bool _)
      · cases h
    | neg =>
      cases hq
      have hx : OV ρ d a e x := hv x (by simp [Op.operands])
      obtain ⟨k, n, -, h2, h3⟩ := onIntV h hx
      cases h3
      exact QG.of (s := Op.unary .neg (e x)) rfl (fun w2 _ => by rw [h2, fSub_eq]; rfl) (.int _ _)
    | plus => cases hq
    | xor =>
      cases hq
      have hx : OV ρ d a e x := hv x (by simp [Op.operands])
      obtain ⟨k, n, -, h2, h3⟩ := onIntV h hx
      cases h3
      exact QG.of (s := Op.unary .xor (e x)) rfl (fun w2 _ => by rw [h2, fXor_eq]; rfl) (.int _ _)
  | build t parts =>
    simp only [quiet] at hq
    split at hq
    · rename_i zero places hp
      cases hq
      simp only [Box.run_mk, orElse] at h
      cases hf : Instr.fill (placeOf places) zero (parts.toList.map fun p => (p.1, (opd d p.2).run a)) with
      | none => rw [hf] at h; cases h
      | some c =>
        rw [hf] at h
        cases h
        have hp2 : PRs ρ (parts.toList.map fun p => (p.1, (opd d p.2).run a)) (parts.map fun p => (p.1, e p.2)).toList := by
          rw [Array.toList_map]
          exact OPs fun p hp => hv _ (by simp [Op.operands]; exact ⟨p.1, by simpa using hp⟩)
        obtain ⟨r', hr, hc⟩ := build_run hp hp2 hf
        exact QG.of (s := Instr.build t (parts.map fun (i, x) => (i, e x))) rfl (fun w2 _ => hr w2) (.agg _ _ hc)
    · cases hq
  | lookup t x ix ok =>
    have hx : OV ρ d a e x := hv x (by simp [Op.operands])
    have hi : OV ρ d a e ix := hv ix (by simp [Op.operands])
    simp only [quiet] at hq
    split at hq
    · rename_i key elem ht
      split at hq
      · rename_i inf hinf
        split at hq
        · rename_i z hz
          cases hc : constOk 4 z with
          | false => rw [hc] at hq; cases hq
          | true =>
            rw [hc] at hq
            cases hq
            obtain ⟨v', h1, h2⟩ := lookupF_run hw ht hinf hz hc hx hi h
            refine QG.of (s := Instr.lookup t (e x) (e ix) ok) rfl (fun w2 hw2 => ?_) h2
            rcases hw2 with hw2 | rfl
            · cases hw2
            · exact h1
        · cases hq
      · cases hq
    · cases hq
  | convert s t x =>
    have hx : OV ρ d a e x := hv x (by simp [Op.operands])
    simp only [quiet] at hq
    split at hq
    · rename_i k' k hs ht
      cases hq
      obtain ⟨j, n, -, h2, h3⟩ := onIntV h hx
      cases h3
      exact QG.of (s := convert s t (e x)) rfl (fun w2 _ => by rw [h2, run_convInt hs ht, fAdd_eq, Int.add_zero]) (.int _ _)
    · rename_i hs ht
      cases hq
      simp only [Box.run_mk] at h
      split at h
      · rename_i b hb
        cases h
        unfold OV at hx
        rw [hb] at hx
        exact QG.of (s := convert s t (e x)) rfl (fun w2 _ => by rw [hx.string_inv, run_convStr hs ht]) (.string _)
      · cases h
    · cases hq
  | makeInterface t x =>
    have hx : OV ρ d a e x := hv x (by simp [Op.operands])
    simp only [quiet] at hq
    split at hq
    · cases hq
    · cases hq
    · rename_i h1 h2
      cases hq
      cases h
      cases hd : C.P.underlying t with
      | none => exact absurd hd h1
      | some dd => exact QG.of (s := Instr.makeInterface t (e x)) rfl (fun w2 _ => run_makeInterface hd (fun m hm => h2 m (by rw [hd, hm])) _ w2) (.iface _ _ _ hx)
  | makeFunc f first captured =>
    simp only [quiet] at hq
    cases hf : fnFine f with
    | false => rw [hf] at hq; cases hq
    | true =>
      rw [hf] at hq
      cases hq
      cases h
      refine QG.of (s := Instr.makeFunc f (first.map e) (captured.map e)) rfl (fun w2 _ => rfl) (.func _ _ _ _ _ ?_ ?_ ?_)
      · cases f <;> first | trivial | cases hf
      · rw [Array.toList_map, Array.toList_map]
        exact OVs fun x hx => hv x (by simp [Op.operands]; exact .inl (by simpa using hx))
      · rw [Array.toList_map, Array.toList_map]
        exact OVs fun x hx => hv x (by simp [Op.operands]; exact .inr (by simpa using hx))
  | fieldAddr s x i =>
    have hx : OV ρ d a e x := hv x (by simp [Op.operands])
    simp only [quiet] at hq
    split at hq
    · rename_i f hf
      cases hz : Nat.blt 0 (sizeIs C.P f.type) with
      | false => rw [hz] at hq; cases hq
      | true =>
        rw [hz] at hq
        cases hq
        obtain ⟨p, hp, h1⟩ := addrF_some h
        cases h1
        obtain ⟨fs, hu, hfs⟩ := fieldOf_some hf
        obtain ⟨inf, hinf, hne⟩ := sizeIs_pos (blt_iff.1 hz)
        unfold OV at hx
        rw [hp] at hx
        obtain ⟨b, hb, hab⟩ := hx.ptr_inv
        refine QG.of (s := Instr.fieldAt s (e x) i) (v' := .pointer (some (b.add f.offset))) rfl (fun w2 _ => ?_) (.ptr _ _ (hab.add _))
        rw [hb]
        simp [Instr.fieldAt, run_underlying hu, hfs, Instr.sureAddr, fieldPlace, run_sizeOf' hinf, hne]
    · cases hq
  | field s x i =>
    have hx : OV ρ d a e x := hv x (by simp [Op.operands])
    simp only [quiet] at hq
    split at hq
    · rename_i f hf
      cases hq
      obtain ⟨c, hc, h1⟩ := aggF_some h
      obtain ⟨fs, hu, hfs⟩ := fieldOf_some hf
      unfold OV at hx
      rw [hc] at hx
      obtain ⟨c', hc', hcc⟩ := hx.agg_inv
      obtain ⟨u, h2, h3⟩ := partF_sound hcc h1
      refine QG.of (s := Instr.field s (e x) i) rfl (fun w2 _ => ?_) h3
      rw [hc']
      simp [Instr.field, run_underlying hu, hfs, asAgg, h2]
    · cases hq
  | indexAddr t x ix =>
    cases hq
    obtain ⟨v', h1, h2⟩ := indexAddrF_run (C := C) (hv x (by simp [Op.operands])) (hv ix (by simp [Op.operands])) h
    exact QG.of (s := Instr.indexAt t (e x) (e ix)) rfl (fun w2 _ => h1 w2) h2
  | index t x ix =>
    cases hq
    obtain ⟨v', h1, h2⟩ := indexF_run (C := C) (hv x (by simp [Op.operands])) (hv ix (by simp [Op.operands])) h
    exact QG.of (s := Instr.index t (e x) (e ix)) rfl (fun w2 _ => h1 w2) h2
  | extract x i =>
    cases hq
    have hx : OV ρ d a e x := hv x (by simp [Op.operands])
    simp only [Box.run_mk] at h
    split at h
    · rename_i vs hvs
      unfold OV at hx
      rw [hvs] at hx
      obtain ⟨c', hc', hcc⟩ := hx.tuple_inv
      obtain ⟨u, h1, h2⟩ := hcc.get i (v := v) (by simpa using h)
      refine QG.of (s := Instr.extract (e x) i) rfl (fun w2 _ => ?_) h2
      rw [hc']
      have h1 : c'[i]? = some u := by simpa using h1
      simp only [Instr.extract, h1]
      rfl
    · cases h
  | slice t x lo hi mx =>
    cases mx with
    | some m => cases hq
    | none =>
      simp only [quiet] at hq
      cases hz : arrType C.P t with
      | true => rw [hz] at hq; cases hq
      | false =>
        rw [hz] at hq
        cases hq
        obtain ⟨v', h1, h2⟩ := sliceF_run (C := C) (hv x (by simp [Op.operands])) (OVo (x := lo) fun y hy => hv y (by simp [Op.operands, hy])) (OVo (x := hi) fun y hy => hv y (by simp [Op.operands, hy])) h
        exact QG.of (s := Instr.sliceAt t (e x) (lo.map e) (hi.map e) none) rfl (fun w2 _ => h1 w2) h2
  | call c =>
    obtain ⟨callee, args, argTypes⟩ := c
    simp only [quiet] at hq
    split at hq
    · rename_i x t hargs ht
      cases hq
      have ha : args = #[x] := by apply Array.toList_inj.1; rw [hargs]
      subst ha
      obtain ⟨v', h1, h2⟩ := lenB_run hw (hv x (by simp [Op.operands, Call.operands])) h ty argTypes ht
      refine ⟨v', fun w2 hw2 => ?_, h2⟩
      have hr : reads C.P (.call ⟨.builtin .len, #[x], argTypes⟩) = mapType C.P t := by simp only [reads]; rw [ht]
      rw [hr] at hw2
      have hm : (#[x]).map e = #[e x] := by simp
      show (do pure (.value (← Builtin.len_ argTypes ty ((#[x]).map e))) : Sem Next).run C.P w2 = _
      rw [hm]
      exact val_run (h1 w2 hw2)
    · rename_i x l hargs
      cases hq
      have hl : args.map e = ⟨e x :: l.map e⟩ := by apply Array.toList_inj.1; rw [Array.toList_map, hargs]; rfl
      have key : (∀ w2, ((l.map e).foldlM Builtin.max2 (e x)).run C.P w2 = .ok (if l = [] then e x else v) w2) ∧ VR ρ v (if l = [] then e x else v) := by
        by_cases hn : l = []
        · subst hn; cases h; exact ⟨fun w2 => rfl, hv x (by simp [Op.operands, Call.operands, Array.mem_def, hargs])⟩
        · rw [if_neg hn]
          refine fold2_run (fun x y r h => ⟨fun w => (maxF_run h w).1, (maxF_run h default (P := C.P)).2⟩) _ _ _ _ _ (OVs fun y hy => hv y ?_) (hv x ?_) h (by simpa using hn)
          · simp [Op.operands, Call.operands, Array.mem_def, hargs, hy]
          · simp [Op.operands, Call.operands, Array.mem_def, hargs]
      refine ⟨_, fun w2 _ => ?_, key.2⟩
      show (do pure (.value (← Builtin.max_ argTypes ty (args.map e))) : Sem Next).run C.P w2 = _
      rw [hl]
      exact val_run (key.1 w2)
    · rename_i x l hargs
      cases hq
      have hl : args.map e = ⟨e x :: l.map e⟩ := by apply Array.toList_inj.1; rw [Array.toList_map, hargs]; rfl
      have key : (∀ w2, ((l.map e).foldlM Builtin.min2 (e x)).run C.P w2 = .ok (if l = [] then e x else v) w2) ∧ VR ρ v (if l = [] then e x else v) := by
        by_cases hn : l = []
        · subst hn; cases h; exact ⟨fun w2 => rfl, hv x (by simp [Op.operands, Call.operands, Array.mem_def, hargs])⟩
        · rw [if_neg hn]
          refine fold2_run (fun x y r h => ⟨fun w => (minF_run h w).1, (minF_run h default (P := C.P)).2⟩) _ _ _ _ _ (OVs fun y hy => hv y ?_) (hv x ?_) h (by simpa using hn)
          · simp [Op.operands, Call.operands, Array.mem_def, hargs, hy]
          · simp [Op.operands, Call.operands, Array.mem_def, hargs]
      refine ⟨_, fun w2 _ => ?_, key.2⟩
      show (do pure (.value (← Builtin.min_ argTypes ty (args.map e))) : Sem Next).run C.P w2 = _
      rw [hl]
      exact val_run (key.1 w2)
    · cases hq
  | _ => cases hq
end Go.Ab
/- What makes one block and does nothing else. -/
namespace Go.Ab
open Go.RowKit

/-- the operation pushes one object, and gives a value that may tell its number -/
def Makes (C : Ctx) (s : Sem Value) (o' : Obj) (g' : Nat → Value) : Prop := ∀ w' : World, s.run C.P w' = .ok (g' w'.heap.size) { w' with heap := w'.heap.push o' }

theorem run_newRow {P : Program} (t : TypeId) (c : Array Value) (w : World) : (Go.newRow t c).run P w = .ok ⟨w.heap.size, 0, none⟩ { w with heap := w.heap.push (.cells c t (0, 0)) } := rfl

theorem OR.cells {P : Program} {ρ : Env} {c c' : Array Value} {t : TypeId} (h : VRs ρ c.toList c'.toList) : OR P ρ 0 (.cells c t (0, 0)) (.cells c' t (0, 0)) := by
  refine ⟨c', (0, 0), rfl, ?_, ?_, .inl rfl⟩
  · have := h.length
    simp at this
    simp [this]
  · intro i v hv
    obtain ⟨u, hu, r⟩ := h.get i (by simpa using hv)
    exact ⟨u, by simpa using hu, r⟩

theorem VR.ptr_new {ρ : Env} {r q : Nat} (h : ρ r = some ⟨q, 0⟩) : VR ρ (.pointer (some ⟨r, 0, none⟩)) (.pointer (some ⟨q, 0, none⟩)) := .ptr _ _ ⟨_, h, rfl⟩
theorem VR.sl_new {ρ : Env} {r q l c : Nat} (h : ρ r = some ⟨q, 0⟩) (hl : l ≤ c) : VR ρ (.slice (some ⟨r, 0, none⟩) l c) (.slice (some ⟨q, 0, none⟩) l c) :=
  VR.sl ⟨r, 0, none⟩ ⟨q, 0, none⟩ l c ⟨q, 0⟩ h rfl ⟨rfl, rfl⟩ (.inl rfl) hl

theorem flat_rep {α : Type} [Inhabited α] (z : List α) (n : Nat) (_hz : 0 < z.length) : (List.replicate n z).flatten = (List.range (n * z.length)).map fun i => z[i % z.length]! := by
  induction n with
  | zero => simp
  | succ n ih =>
    rw [List.replicate_succ', List.flatten_append, ih, Nat.succ_mul, List.range_add, List.map_append]
    congr 1
    simp only [List.flatten_singleton]
    apply List.ext_getElem
    · simp
    · intro i h1 h2
      simp at h2
      simp only [List.getElem_map, List.getElem_range]
      rw [Nat.add_comm, Nat.add_mul_mod_self_right, Nat.mod_eq_of_lt h2]
      simp [h2]

theorem VRs.flat {ρ : Env} {z : List Value} (h : VRs ρ z z) (n : Nat) : VRs ρ (List.replicate n z).flatten (List.replicate n z).flatten := by
  induction n with
  | zero => exact .nil
  | succ n ih => rw [List.replicate_succ, List.flatten_cons]; exact VRs.append h ih

theorem buildSlice_run {C : Ctx} {ρ : Env} {t el : TypeId} {inf : TypeInfo} {z : Value} {len : Nat} {l : List (Nat × Value)} {l' : Array (Nat × Value)} {cells : Array Value}
    (ht : C.P.underlying t = some (.slice el)) (hi : C.P.info? el = some inf) (hz : inf.zero = some z)
    (hc1 : len * inf.size ≤ lim) (hc2 : z.cells.size = inf.size) (hc3 : 0 < inf.size) (hc4 : constOk 4 z = true) (hl : PRs ρ l l'.toList)
    (hf : Instr.fill (fun i => some (i * inf.size, inf.size)) ⟨(List.replicate len z.cells.toList).flatten⟩ l = some cells) :
    ∃ r', Makes C (Instr.buildSlice t len l') (.cells r' el (0, 0)) (fun q => .slice (some ⟨q, 0, none⟩) len len) ∧ VRs ρ cells.toList r'.toList := by
  obtain ⟨r', hr, hrel⟩ := fill_rel (place' := fun i => some (i * inf.size, inf.size)) (fun i p hp => hp) l _ _ ⟨(List.replicate len z.cells.toList).flatten⟩ cells hl (VRs.flat (cells_rel (VR.const 4 z hc4)) len) hf
  refine ⟨r', fun w' => ?_, hrel⟩
  have hrange : (Array.range (len * inf.size)).map (fun i => z.cells[i % z.cells.size]!) = ⟨(List.replicate len z.cells.toList).flatten⟩ := by
    apply Array.toList_inj.1
    rw [flat_rep _ _ (by simp; omega)]
    simp [hc2]
    intro a _
    rw [getElem!_def]
    split <;> simp_all
  have hlim : ¬ len * inf.size > 2 ^ 24 := by have : lim = 65536 := rfl; omega
  simp only [Instr.buildSlice, Sem.run_bind, run_underlying ht, run_sizeOf' hi, Result.andThen_ok, if_neg hlim]
  by_cases h0 : len * inf.size = 0
  · have hlen : len = 0 := by
      rcases Nat.eq_zero_or_pos len with h | h
      · exact h
      · have := Nat.mul_pos h hc3; omega
    subst hlen
    have hr0 : Instr.fill (fun i => some (i * inf.size, inf.size)) #[] l'.toList = some r' := hr
    simp only [h0, if_true, Sem.run_bind, Sem.run_pure, Result.andThen_ok]
    have : (Array.range 0).map (fun i => (#[] : Array Value)[i % (#[] : Array Value).size]!) = #[] := by simp
    rw [this, hr0]
    rfl
  · simp only [if_neg h0, Sem.run_bind, run_zeroValue hi hz, Sem.run_pure, Result.andThen_ok, hrange, hr]
    rfl

theorem makeSlice_run {C : Ctx} {t el : TypeId} {inf : TypeInfo} {z : Value} {k j : IntKind} {l c : Nat}
    (ht : C.P.underlying t = some (.slice el)) (hi : C.P.info? el = some inf) (hz : inf.zero = some z)
    (hb : inf.bytes ≤ lim) (hs : inf.size = 1) (hzs : z.cells.size = 1) (hl : l ≤ c) (hc : c ≤ lim) :
    Makes C (Instr.makeSlice t (.int k (.ofNat l)) (.int j (.ofNat c))) (.cells ⟨List.replicate c (z.cells.toList.headD undef)⟩ el (0, 0)) (fun q => .slice (some ⟨q, 0, none⟩) l c) := by
  intro w'
  have hlim : lim = 65536 := rfl
  have wl : IntKind.i64.wrap (.ofNat l) = .ofNat l := wrap_in .i64 l (by show l < 9223372036854775808; omega)
  have wc : IntKind.i64.wrap (.ofNat c) = .ofNat c := wrap_in .i64 c (by show c < 9223372036854775808; omega)
  have hbc : inf.bytes * c ≤ 65536 * 65536 := Nat.mul_le_mul (by omega) (by omega)
  have hbc2 : c * inf.bytes ≤ 65536 * 65536 := Nat.mul_le_mul (by omega) (by omega)
  have hbc3 : (inf.bytes : Int) * (Int.ofNat c) ≤ 65536 * 65536 := by
    have : ((inf.bytes * c : Nat) : Int) ≤ ((65536 * 65536 : Nat) : Int) := Int.ofNat_le.2 hbc
    simpa using this
  have c0 : ¬ (Int.ofNat c) < 0 := by simp
  have c1 : ¬ (inf.bytes : Int) * (Int.ofNat c) > 2 ^ 48 := by omega
  have l0 : ¬ (Int.ofNat l) < 0 := by simp
  have l1 : ¬ (Int.ofNat l) > (Int.ofNat c) := by simp; omega
  have a1 : ∀ (k : IntKind) (n : Int) (w : World), (asInt (.int k n)).run C.P w = .ok n w := fun _ _ _ => rfl
  have t1 : (Int.ofNat c).toNat = c := rfl
  have t2 : (Int.ofNat l).toNat = l := rfl
  have hroom : ¬ c * inf.bytes > roomBytes := by have : roomBytes = 140737488355328 := rfl; omega
  obtain ⟨x, hx⟩ : ∃ x, z.cells = #[x] := by
    have : z.cells.toList.length = 1 := by simpa using hzs
    match hq : z.cells.toList, this with
    | [x], _ => exact ⟨x, Array.toList_inj.1 hq⟩
  have hmap : (Array.range c).map (fun i => (#[x] : Array Value)[i % (#[x] : Array Value).size]!) = ⟨List.replicate c x⟩ := by
    apply Array.toList_inj.1
    simp [Nat.mod_one]
    apply List.ext_getElem <;> simp
  simp only [Instr.makeSlice, Sem.run_bind, run_underlying ht, a1, run_typeInfo' hi, run_sizeOf' hi, Result.andThen_ok, wl, wc, c0, c1, l0, l1, decide_false, Bool.or_false, Bool.false_eq_true, if_false, askRoom, if_neg hroom, Sem.run_pure, hs, Nat.mul_one, t1, t2]
  by_cases h0 : c = 0
  · subst h0
    have : (Array.range 0).map (fun i => (#[] : Array Value)[i % (#[] : Array Value).size]!) = #[] := by simp
    simp only [if_true, Sem.run_bind, Sem.run_pure, Result.andThen_ok, this]
    rfl
  · simp only [if_neg h0, Sem.run_bind, run_zeroValue hi hz, Sem.run_pure, Result.andThen_ok, hx, hmap]
    rfl

theorem natV_some {v : Value} {n : Nat} (h : natV v = some n) : ∃ k, v = .int k (.ofNat n) := by
  unfold natV at h
  split at h
  · cases h; exact ⟨_, rfl⟩
  · cases h

theorem exec_buildSlice (e : Operand → Value) (dst : Option Tmp) (t : TypeId) (len : Nat) (parts : Array (Nat × Operand)) (ty : TypeId) (pos : String) (after : Array Edge) (gd : Option (Nat × Bool)) :
    execOp e ⟨dst, .buildSlice t len parts, ty, pos, after, gd⟩ = (do pure (.value (← Instr.buildSlice t len (parts.map fun (i, x) => (i, e x))))) := by
  simp only [execOp]

theorem alloc_run {C : Ctx} {ρ : Env} {d : Nat} {o : Oper} {f : Box (AA → Option (Obj × (Nat → Value)))} (hf : allocF C.P d o.op = some f) {a : AA} {e : Operand → Value}
    (hv : ∀ x ∈ o.op.operands, OV ρ d a e x) {ob : Obj} {g : Nat → Value} (h : f.run a = some (ob, g)) :
    ∃ (s : Sem Value) (o' : Obj) (g' : Nat → Value), execOp e o = (do pure (.value (← s))) ∧ Makes C s o' g' ∧ OR C.P ρ 0 ob o' ∧ ∀ ρ2 r q, Env.le ρ ρ2 → ρ2 r = some ⟨q, 0⟩ → VR ρ2 (g r) (g' q) := by
  obtain ⟨dst, op, ty, needs, gd, rest⟩ := o
  simp only at hf hv
  cases op with
  | alloc t =>
    simp only [allocF] at hf
    split at hf
    · rename_i inf hi
      split at hf
      · rename_i z hz
        cases hc : constOk 4 z with
        | false => rw [hc] at hf; cases hf
        | true =>
          rw [hc] at hf
          cases hf
          cases h
          refine ⟨Instr.alloc t true (.tuple #[]), .cells z.cells t (0, 0), fun q => .pointer (some ⟨q, 0, none⟩), rfl, fun w' => ?_, OR.cells (cells_rel (VR.const 4 z hc)), fun ρ2 r q _ h => .ptr_new h⟩
          simp only [Instr.alloc, Sem.run_bind, run_zeroValue hi hz, Result.andThen_ok]
          rfl
      · cases hf
    · cases hf
  | box t x =>
    cases hf
    cases h
    exact ⟨Instr.box t (e x), .cells (e x).cells t (0, 0), fun q => .pointer (some ⟨q, 0, none⟩), rfl, fun w' => rfl, OR.cells (cells_rel (hv x (by simp [Op.operands]))), fun ρ2 r q _ h => .ptr_new h⟩
  | buildSlice t len parts =>
    simp only [allocF] at hf
    split at hf
    · rename_i el ht
      split at hf
      · rename_i inf hi
        split at hf
        · rename_i z hz
          cases hc : (Nat.ble (Nat.mul len inf.size) lim && Nat.beq z.cells.size inf.size && Nat.blt 0 inf.size && constOk 4 z) with
          | false => rw [hc] at hf; cases hf
          | true =>
            rw [hc] at hf
            cases hf
            simp only [Bool.and_eq_true] at hc
            obtain ⟨⟨⟨hc1, hc2⟩, hc3⟩, hc4⟩ := hc
            have hc1 : len * inf.size ≤ lim := Nat.le_of_ble_eq_true hc1
            have hc2 : z.cells.size = inf.size := nat_beq hc2
            have hc3 : 0 < inf.size := blt_iff.1 hc3
            simp only [Box.run_mk, orElse] at h
            generalize hl : (parts.toList.map fun p => (p.1, (opd d p.2).run a)) = l at h
            cases hfill : Instr.fill (fun i => some (Nat.mul i inf.size, inf.size)) ⟨(List.replicate len z.cells.toList).flatten⟩ l with
            | none => rw [hfill] at h; cases h
            | some cells =>
              rw [hfill] at h
              cases h
              have hp2 : PRs ρ l (parts.map fun p => (p.1, e p.2)).toList := by
                rw [Array.toList_map, ← hl]
                exact OPs fun p hp => hv _ (by simp [Op.operands]; exact ⟨p.1, by simpa using hp⟩)
              obtain ⟨r', hr, hrel⟩ := buildSlice_run ht hi hz hc1 hc2 hc3 hc4 hp2 hfill
              refine ⟨_, _, _, exec_buildSlice e dst t len parts ty needs gd rest, hr, OR.cells hrel, ?_⟩
              intro ρ2 r q _ h
              exact .sl_new h (Nat.le_refl _)
        · cases hf
      · cases hf
    · cases hf
  | makeMap t r =>
    cases r with
    | some r => cases hf
    | none =>
      cases hf
      cases h
      exact ⟨Instr.makeMap t none, .map #[] 0, fun q => .map (some q), rfl, fun w' => rfl, ⟨#[], rfl, .nil⟩, fun ρ2 r q _ h => .mp r _ h⟩
  | makeSlice t l c =>
    have hl : OV ρ d a e l := hv l (by simp [Op.operands])
    have hcc : OV ρ d a e c := hv c (by simp [Op.operands])
    simp only [allocF] at hf
    split at hf
    · rename_i el ht
      split at hf
      · rename_i inf hi
        split at hf
        · rename_i z hz
          cases hc : (Nat.ble inf.bytes lim && Nat.beq inf.size 1 && Nat.beq z.cells.size 1 && constOk 4 z) with
          | false => rw [hc] at hf; cases hf
          | true =>
            rw [hc] at hf
            cases hf
            simp only [Bool.and_eq_true] at hc
            obtain ⟨⟨⟨hc1, hc2⟩, hc3⟩, hc4⟩ := hc
            simp only [Box.run_mk] at h
            split at h
            · rename_i n m hn hm
              cases hb : (Nat.ble n m && Nat.ble m lim) with
              | false => rw [hb] at h; cases h
              | true =>
                rw [hb] at h
                cases h
                rw [Bool.and_eq_true] at hb
                have hb1 : n ≤ m := Nat.le_of_ble_eq_true hb.1
                have hb2 : m ≤ lim := Nat.le_of_ble_eq_true hb.2
                obtain ⟨k, hn⟩ := natV_some hn
                obtain ⟨j, hm⟩ := natV_some hm
                unfold OV at hl hcc
                rw [hn] at hl
                rw [hm] at hcc
                refine ⟨Instr.makeSlice t (e l) (e c), .cells ⟨List.replicate m (z.cells.toList.headD undef)⟩ el (0, 0), _, rfl, ?_, ?_, fun ρ2 r q _ h => .sl_new h hb1⟩
                · rw [hl.int_inv, hcc.int_inv]
                  exact makeSlice_run ht hi hz (Nat.le_of_ble_eq_true hc1) (nat_beq hc2) (nat_beq hc3) hb1 hb2
                · refine OR.cells (VRs.refl fun v hv => ?_)
                  rw [(List.mem_replicate.1 hv).2]
                  have := cells_rel (VR.const (ρ := ρ) 4 z hc4)
                  cases hz2 : z.cells.toList with
                  | nil => exact VR.undef
                  | cons x l => rw [hz2] at this; cases this with | cons _ _ _ _ r t => exact r
            · cases h
        · cases hf
      · cases hf
    · cases hf
  | _ => cases hf
end Go.Ab
/- Stores of rows of cells. -/
namespace Go.Ab
open Go.RowKit

theorem setCell_eq {w : World} {b : Addr} {c : Array Value} {e : TypeId} {fr : Nat × Nat} (h : w.heap[b.block]? = some (.cells c e fr)) (hs : b.spot = none) (u : Value) :
    w.setCell b u = { w with heap := w.heap.setIfInBounds b.block (.cells (c.setIfInBounds b.off u) e fr) } := by
  simp only [World.setCell]
  congr 1
  apply Array.ext_getElem?
  intro i
  simp only [Array.getElem?_modify, Array.getElem?_setIfInBounds]
  by_cases hi : b.block = i
  · subst hi
    have hlt := heap_lt h
    have hg' : w.heap[b.block] = .cells c e fr := by
      have := h
      rw [Array.getElem?_eq_getElem hlt] at this
      exact Option.some.inj this
    simp [hs, hlt, hg']
  · simp [hi]

theorem set_self {α : Type} {a : Array α} {i : Nat} {x : α} (h : a[i]? = some x) : a.setIfInBounds i x = a := by
  apply Array.ext_getElem?
  intro j
  rw [Array.getElem?_setIfInBounds]
  split
  · rename_i hj
    subst hj
    split
    · exact h.symm
    · rename_i hn; simp [Array.getElem?_eq_none (by omega : a.size ≤ i)] at h
  · rfl

theorem set_set {α : Type} {a : Array α} {i : Nat} (x y : α) : (a.setIfInBounds i x).setIfInBounds i y = a.setIfInBounds i y := by
  apply Array.ext_getElem?
  intro j
  simp only [Array.getElem?_setIfInBounds, Array.size_setIfInBounds]
  split
  · rfl
  · rfl

def plain (u : Value) : Prop := (∀ c, u ≠ .agg c) ∧ (∀ c, u ≠ .tuple c)

theorem storeCells_run {P : Program} {b : Addr} {e : TypeId} {fr : Nat × Nat} (hs : b.spot = none) : ∀ (us : List Value) (i : Nat) (w : World) (c : Array Value),
    w.heap[b.block]? = some (.cells c e fr) → (∀ u ∈ us, plain u) → b.off + i + us.length ≤ c.size → (∀ j, b.off + i ≤ j → j < b.off + i + us.length → inRange fr j = false) →
    (Go.storeCells b us i).run P w = .ok () { w with heap := w.heap.setIfInBounds b.block (.cells ⟨setRun c.toList us (b.off + i)⟩ e fr) }
  | [], i, w, c, h, _, _, _ => by
    show Result.ok () w = _
    simp only [setRun]
    rw [set_self h]
  | u :: us, i, w, c, h, hp, hl, hf => by
    simp only [List.length_cons] at hl hf
    have hadd : b.add i = ⟨b.block, b.off + i, none⟩ := by
      have := add_off b.block b.off i
      cases b; simp_all
    have hcell : w.cell? (b.add i) = some (c[b.off + i]'(by omega)) := by
      rw [hadd, World.cell?_of (a := ⟨b.block, b.off + i, none⟩) h rfl]; simp
    have hfroz : w.frozen? (b.add i) = false := by
      have := hf (b.off + i) (Nat.le_refl _) (by omega)
      obtain ⟨lo, hi⟩ := fr
      rw [hadd]
      simp only [World.frozen?, h]
      cases hq : (decide (lo ≤ b.off + i) && decide (b.off + i < hi)) with
      | false => rfl
      | true =>
        simp only [Bool.and_eq_true, decide_eq_true_eq] at hq
        have : inRange (lo, hi) (b.off + i) = true := by simp [inRange, hq.1, hq.2]
        simp_all
    obtain ⟨h1, h2⟩ := hp u (by simp)
    have hstep : (Go.store (b.add i) u).run P w = .ok () (w.setCell (b.add i) u) := run_store h1 h2 hcell hfroz
    simp only [Go.storeCells, Sem.run_bind, hstep, Result.andThen_ok]
    have hb2 : w.heap[(b.add i).block]? = some (.cells c e fr) := by rw [hadd]; exact h
    rw [setCell_eq hb2 (by rw [hadd])]
    have hlt := heap_lt h
    have h' : ({ w with heap := w.heap.setIfInBounds (b.add i).block (.cells (c.setIfInBounds (b.add i).off u) e fr) } : World).heap[b.block]? = some (.cells (c.setIfInBounds (b.off + i) u) e fr) := by
      rw [hadd]
      simp [hlt]
    rw [storeCells_run hs us (i + 1) _ _ h' (fun v hv => hp v (by simp [hv])) (by simp; omega) (fun j h1 h2 => hf j (by omega) (by omega))]
    congr 1
    simp only [hadd, set_set, setRun, Array.toList_setIfInBounds]
    rfl

def CR (ρ : Env) (c c' : List Value) : Prop := ∀ (i : Nat) (v : Value), c[i]? = some v → ∃ u, c'[i]? = some u ∧ VR ρ v u

theorem CR.set {ρ : Env} {c c' : List Value} (h : CR ρ c c') (i : Nat) {v u : Value} (hv : VR ρ v u) : CR ρ (c.set i v) (c'.set i u) := by
  intro j x hx
  rw [List.getElem?_set] at hx ⊢
  split at hx
  · rename_i hi
    subst hi
    split at hx
    · rename_i hlt
      cases hx
      obtain ⟨u', hu', _⟩ := h i _ (List.getElem?_eq_getElem hlt)
      have : i < c'.length := by
        rcases Nat.lt_or_ge i c'.length with k | k
        · exact k
        · simp [List.getElem?_eq_none k] at hu'
      exact ⟨u, by simp [this], hv⟩
    · cases hx
  · rename_i hi
    rw [if_neg hi]
    exact h j x hx

theorem CR.run {ρ : Env} {vs us : List Value} (hv : VRs ρ vs us) : ∀ (c c' : List Value) (i : Nat), CR ρ c c' → CR ρ (setRun c vs i) (setRun c' us i) := by
  induction vs generalizing us with
  | nil => cases hv; exact fun c c' i h => h
  | cons v vs ih =>
    cases hv with
    | cons _ u _ us r t => exact fun c c' i h => ih t _ _ _ (h.set i r)

theorem setRun_length : ∀ (vs c : List Value) (i : Nat), (setRun c vs i).length = c.length
  | [], _, _ => rfl
  | v :: vs, c, i => by rw [setRun, setRun_length vs]; simp

theorem fr_clear {fr fr' : Nat × Nat} {n : Nat} (hf : FR fr fr' n) {lo hi : Nat} (hhi : hi ≤ n) (h : fr.2 ≤ fr.1 ∨ fr.2 ≤ lo ∨ hi ≤ fr.1) : ∀ j, lo ≤ j → j < hi → inRange fr' j = false := by
  intro j h1 h2
  have key : ¬ (fr'.1 ≤ j ∧ j < fr'.2) := by
    rcases hf with rfl | rfl | ⟨rfl, rfl⟩
    · omega
    · simp
    · simp only; omega
  cases hq : inRange fr' j with
  | false => rfl
  | true => simp [inRange] at hq; omega

theorem single_plain {ρ : Env} {vs us : List Value} (h : VRs ρ vs us) (hs : vs.all single = true) : ∀ u ∈ us, plain u := by
  induction vs generalizing us with
  | nil => cases h; simp
  | cons v vs ih =>
    cases h with
    | cons _ u _ us r t =>
      simp only [List.all_cons, Bool.and_eq_true] at hs
      intro x hx
      cases hx with
      | head => exact single_of r hs.1
      | tail _ hx => exact ih t hs.2 x hx

theorem storeK_run {C : Ctx} {ρ : Env} {w : AW} {w' : World} (hfi : Fine C.good) (hw : WR C ρ w w') {a b : Addr} {en : Ent} (he : ρ a.block = some en) (hb : b.block = en.id) (hbs : a.spot = none → b.spot = none)
    {vs us : List Value} (hoff : vs ≠ [] → b.off = a.off) (hv : VRs ρ vs us) {K : AW → Res} (h : C.good (storeK C.G a vs w K)) :
    ∃ w2 w2', (Go.storeCells b us).run C.P w' = .ok () w2' ∧ WR C ρ w2 w2' ∧ C.good (K w2) := by
  unfold storeK at h
  split at h
  · rename_i c e fr x hg
    cases hc : (Nat.ble C.G a.block && a.spot.isNone && Nat.ble (Nat.add a.off vs.length) c.toList.length && (Nat.ble fr.2 fr.1 || Nat.ble fr.2 a.off || Nat.ble (Nat.add a.off vs.length) fr.1) && vs.all single) with
    | false => rw [hc] at h; exact absurd h hfi.bad
    | true =>
      rw [hc] at h
      simp only [cond_true, forceL_eq, AW.putK_eq] at h
      simp only [Bool.and_eq_true, Bool.or_eq_true] at hc
      obtain ⟨⟨⟨⟨hG, hs⟩, hlen⟩, hfr⟩, hsing⟩ := hc
      have hG : C.G ≤ a.block := Nat.le_of_ble_eq_true hG
      have hs : a.spot = none := by simpa using hs
      have hlen : a.off + vs.length ≤ c.size := by simpa using Nat.le_of_ble_eq_true hlen
      obtain ⟨o', ho', hor, hex, hB⟩ := hw.live _ _ _ hg he
      obtain ⟨c', fr', rfl, hsz, hcs, hF⟩ := hor
      have hul := hv.length
      have hcr : CR ρ c.toList c'.toList := fun i v hi => by
        obtain ⟨u, hu, r⟩ := hcs i v (by simpa using hi)
        exact ⟨u, by simpa using hu, r⟩
      have hor2 : ∀ off, OR C.P ρ en.extra (.cells ⟨setRun c.toList vs off⟩ e fr) (.cells ⟨setRun c'.toList us off⟩ e fr') := by
        intro off
        refine ⟨_, fr', rfl, ?_, ?_, ?_⟩
        · simp [setRun_length, hsz]
        · intro i v hi
          obtain ⟨u, hu, r⟩ := CR.run hv _ _ off hcr i v (by simpa using hi)
          exact ⟨u, by simpa using hu, r⟩
        · simpa [setRun_length] using hF
      refine ⟨_, _, ?_, hw.write hg he hG (b1 := ⟨.cells ⟨setRun c.toList vs a.off⟩ e fr, x⟩) (hor2 a.off) hex, h⟩
      cases vs with
      | nil =>
        cases hv
        show Result.ok () w' = _
        simp only [setRun]
        rw [set_self ho']
      | cons v vs =>
        have hoff := hoff (by simp)
        have hd : (if b.off + us.length ≤ c'.size then true else false) = true := by rw [if_pos (by omega)]
        have hclear := fr_clear hF (lo := a.off) (hi := a.off + us.length) (by omega) (by
          rcases hfr with (hfr | hfr) | hfr
          · exact .inl (Nat.le_of_ble_eq_true hfr)
          · exact .inr (.inl (Nat.le_of_ble_eq_true hfr))
          · refine .inr (.inr ?_)
            have := Nat.le_of_ble_eq_true hfr
            have : a.off + (v :: vs).length ≤ fr.1 := this
            omega)
        have := storeCells_run (P := C.P) (b := b) (hbs hs) us 0 w' c' (by rw [hb]; exact ho') (single_plain hv hsing) (by omega) (fun j h1 h2 => hclear j (by omega) (by omega))
        rw [hb, hoff] at this
        exact this
  · exact absurd h hfi.bad
end Go.Ab
/- 'append'. -/
namespace Go.Ab
open Go.RowKit

theorem growBy_le (n : Nat) : ∀ (k c : Nat), c ≤ 2 * n + 768 → Builtin.growBy n k c ≤ 2 * n + 768
  | 0, c, h => h
  | k + 1, c, h => by
    unfold Builtin.growBy
    split
    · exact h
    · exact growBy_le n k _ (by omega)

theorem nextcap_le {n c : Nat} (h : c < n) : Builtin.nextslicecap n c ≤ 2 * n + 768 := by
  unfold Builtin.nextslicecap
  split
  · omega
  · split
    · omega
    · exact growBy_le n 4 c (by omega)

theorem run_cap {P : Program} (need c : Nat) (e : TypeId) (w : World) : ∃ k, need ≤ k ∧ (Go.choose (.appendCap need c e)).run P w = .ok k { w with drawn := w.drawn + 1 } := by
  refine ⟨need + w.tape w.drawn (.appendCap need c e) % (2 ^ 63 - need), by omega, ?_⟩
  rfl

theorem run_askRoom {P : Program} (n : Nat) (w : World) : (Go.askRoom n).run P w = .ok () w := by
  unfold Go.askRoom
  split <;> rfl

theorem cellsOf_info {P : Program} {t : TypeId} {i : TypeInfo} (h : P.info? t = some i) : P.cellsOf t = i.size := by
  simp [Program.cellsOf, h]

theorem lenV_run {P : Program} {ρ : Env} {x x' : Value} (hx : VR ρ x x') {n : Nat} (h : lenV x = some n) (w : World) : (Builtin.lenOf x').run P w = .ok n w := by
  unfold lenV at h
  split at h
  · cases h
    cases hx <;> rfl
  · cases h
    obtain rfl := hx.string_inv
    rfl
  · cases h

theorem firstF_run {C : Ctx} {ρ : Env} {w : AW} {w' : World} (hw : WR C ρ w w') {x x' : Value} (hx : VR ρ x x') {size n : Nat} {new : List Value} (hn : ∀ b l c, x = .slice b l c → n ≤ l) (h : firstF size n w x = some new) :
    ∃ us, (Builtin.firstCells size n x').run C.P w' = .ok ⟨us⟩ w' ∧ VRs ρ new us := by
  unfold firstF at h
  split at h
  · rename_i a l c
    split at h
    · rename_i cs hl
      cases h
      obtain ⟨b, e, rfl, he, hb, hs, ho, hlc⟩ := hx.sl_inv
      have hl : loadAgg (n * size) a w = some (.agg cs) := hl
      by_cases h0 : n = 0
      · subst h0
        rw [Nat.zero_mul] at hl
        have hcs : cs.toList = [] := by
          unfold loadAgg at hl
          split at hl
          · split at hl
            · obtain ⟨_, h2⟩ := runOf_some hl
              cases h2
              simp
            · cases hl
          · cases hl
        rw [hcs]
        refine ⟨[], ?_, .nil⟩
        show (Go.loadCells b (0 * size)).run C.P w' = _
        rw [Nat.zero_mul]
        rfl
      · have := hn _ _ _ rfl
        obtain ⟨l1, l2, h1, h2, h3, h4⟩ := loadAgg_sound hw (AR.of_sl he hb hs ho (by omega)) hl
        cases h1
        exact ⟨l2, h3, h4⟩
    · cases h
  · cases h
    have : ∃ l' c', x' = .slice none l' c' := by cases hx; exact ⟨_, _, rfl⟩
    obtain ⟨l', c', rfl⟩ := this
    exact ⟨[], rfl, .nil⟩
  · rename_i s
    cases h
    obtain rfl := hx.string_inv
    refine ⟨_, ?_, VRs.refl ?_⟩
    · show Result.ok _ w' = _
      congr 1
      apply Array.toList_inj.1
      rw [ByteArray.data_extract]
      simp
    · intro v hv
      obtain ⟨b, _, rfl⟩ := List.mem_map.1 hv
      exact .int _ _
  · cases h

/-- a block's abstract twin gets a new number -/
theorem WR.rename {C : Ctx} {ρ : Env} {w : AW} {w' : World} (h : WR C ρ w w') {r : Nat} {b b1 : Blk} {e : Ent} {o1 : Obj} (hb : w.get r = some b) (he : ρ r = some e) (hG : C.G ≤ r) (x : Nat) (hn : w.next < lim)
    (ho : OR C.P ρ x b1.obj o1) (hex : b1.exact = true → x = 0) : WR C (ρ.ext w.next ⟨e.id, x⟩) ((w.drop r).push b1) { w' with heap := w'.heap.setIfInBounds e.id o1 } := by
  have hr := AW.get_lt hb
  obtain ⟨o0, ho0, _, _, hg0⟩ := h.live r b e hb he
  have hlt := heap_lt ho0
  have hnone := h.top _ (Nat.le_refl _)
  have hrn := h.lt he
  have hp := Env.le_ext ⟨e.id, x⟩ hnone
  have hnx : (w.drop r).next = w.next := rfl
  have hlast : (ρ.ext w.next ⟨e.id, x⟩) w.next = some ⟨e.id, x⟩ := Env.ext_same
  have getd : ∀ i, ((w.drop r).push b1).get i = if i = w.next then some b1 else if i = r then none else w.get i := by
    intro i
    rw [AW.get_push (by rw [hnx]; exact hn), hnx]
    split
    · rfl
    · unfold AW.drop; rw [AW.get_put hr]
  refine ⟨?_, ?_, ?_, ?_, ?_, ?_, ?_⟩
  · intro i hi
    have hi : w.next + 1 ≤ i := hi
    rw [Env.ext_other (by omega)]
    exact h.top i (by omega)
  · intro i c f hc hf
    rw [getd] at hc
    split at hc
    · rename_i hi
      subst hi
      cases hc
      rw [hlast] at hf
      cases hf
      exact ⟨o1, by simp [hlt], ho.mono hp, hex, fun _ => hg0 hG⟩
    · rename_i hi
      split at hc
      · cases hc
      · rename_i hir
        rw [Env.ext_other hi] at hf
        obtain ⟨p', hp', q1, q2⟩ := h.live i c f hc hf
        refine ⟨p', ?_, q1.mono hp, q2⟩
        have hne : e.id ≠ f.id := fun k => hir (h.inj r i b c e f hb hc he hf k).symm
        simp only [Array.getElem?_setIfInBounds]
        rw [if_neg hne]
        exact hp'
  · intro i j c d f g hc hd hf hg hid
    rw [getd] at hc hd
    have one : ∀ k q u, k ≠ w.next → (if k = r then none else w.get k) = some q → (ρ.ext w.next ⟨e.id, x⟩) k = some u → u.id ≠ e.id ∧ w.get k = some q ∧ ρ k = some u := by
      intro k q u hk hq hu
      split at hq
      · cases hq
      · rename_i hkr
        rw [Env.ext_other hk] at hu
        exact ⟨fun k1 => hkr (h.inj k r q b u e hq hb hu he k1), hq, hu⟩
    by_cases hi : i = w.next
    · by_cases hj : j = w.next
      · omega
      · rw [if_neg hj] at hd
        subst hi
        rw [hlast] at hf
        cases hf
        exact absurd hid.symm (one j d g hj hd hg).1
    · rw [if_neg hi] at hc
      by_cases hj : j = w.next
      · subst hj
        rw [hlast] at hg
        cases hg
        exact absurd hid (one i c f hi hc hf).1
      · rw [if_neg hj] at hd
        obtain ⟨_, h1, h2⟩ := one i c f hi hc hf
        obtain ⟨_, h3, h4⟩ := one j d g hj hd hg
        exact h.inj i j c d f g h1 h3 h2 h4 hid
  · refine h.below.trans ⟨rfl, rfl, rfl, by simp, fun k hk => ?_⟩
    have := hg0 hG
    simp only [Array.getElem?_setIfInBounds]
    rw [if_neg (by omega)]
  · have := h.big
    simp; omega
  · intro i c hc
    obtain ⟨h1, h2, h3⟩ := h.pend i c hc
    refine ⟨?_, ?_, ?_⟩
    · rw [getd, if_neg (by omega)]
      split
      · rename_i hi; subst hi; rw [he] at h2; cases h2
      · exact h1
    · rw [Env.ext_other (by omega)]; exact h2
    · show i < w.next + 1
      omega
  · intro i c hc
    rw [getd] at hc
    show i < w.next + 1
    split at hc
    · omega
    · split at hc
      · cases hc
      · have := h.fit i c hc; omega

/-- what 'append' does where there is no room -/
theorem append_grow {C : Ctx} {st xt e : TypeId} {xd : TypeDesc} {inf : TypeInfo} {z : Value} (ht : C.P.underlying st = some (.slice e)) (hx : C.P.underlying xt = some xd) (hxd : ∀ k, xd ≠ .int k) (hi : C.P.info? e = some inf) (hz : inf.zero = some z)
    (hzs : z.cells.size = inf.size) {base : Option Addr} {sLen sCap n : Nat} {x' : Value} {ty : TypeId} (hneed : sLen + n ≤ lim) (hb : inf.bytes ≤ lim) (hgt : ¬ sLen + n ≤ sCap) {w' : World} {old us : List Value}
    (hlen : ∀ w, (Builtin.lenOf x').run C.P w = .ok n w)
    (hold : (Builtin.firstCells inf.size sLen (.slice base sLen sCap)).run C.P { w' with drawn := w'.drawn + 1 } = .ok ⟨old⟩ { w' with drawn := w'.drawn + 1 })
    (hnew : (Builtin.firstCells inf.size n x').run C.P { w' with drawn := w'.drawn + 1 } = .ok ⟨us⟩ { w' with drawn := w'.drawn + 1 }) :
    ∃ (k : Nat) (c' : Array Value), sLen + n ≤ k ∧ c'.size = old.length + us.length + (k - (sLen + n)) * inf.size ∧ (∀ (i : Nat) (v : Value), (old ++ us)[i]? = some v → c'[i]? = some v) ∧
      (Builtin.append_ #[st, xt] ty #[.slice base sLen sCap, x']).run C.P w' = .ok (.slice (some ⟨w'.heap.size, 0, none⟩) (sLen + n) k) { w' with drawn := w'.drawn + 1, heap := w'.heap.push (.cells c' e (0, 0)) } := by
  obtain ⟨k, hk, hch⟩ := run_cap (P := C.P) (sLen + n) sCap e w'
  have hlim : lim = 65536 := rfl
  refine ⟨k, (⟨old⟩ : Array Value) ++ ⟨us⟩ ++ Builtin.zeroCells z.cells (k - (sLen + n)), hk, ?_, ?_, ?_⟩
  · simp [Builtin.zeroCells, hzs]
  · intro i v hv
    have hlt : i < (old ++ us).length := by
      rcases Nat.lt_or_ge i (old ++ us).length with q | q
      · exact q
      · simp [List.getElem?_eq_none q] at hv
    rw [Array.getElem?_append_left (by simpa using hlt)]
    simpa using hv
  · have hint : (xd matches .int _) = false := by cases xd <;> first | rfl | exact absurd rfl (hxd _)
    have hmax : ¬ (((sLen + n : Nat) : Int) > IntKind.i64.max) := by
      have : IntKind.i64.max = 9223372036854775807 := rfl
      omega
    have hcapb : ¬ Builtin.nextslicecap (sLen + n) sCap * inf.bytes > 2 ^ 48 := by
      have := Nat.mul_le_mul (nextcap_le (n := sLen + n) (c := sCap) (by omega)) hb
      have : (2 * (sLen + n) + 768) * lim ≤ (2 * 65536 + 768) * 65536 := Nat.mul_le_mul (by omega) (by omega)
      omega
    have q0 : (#[st, xt] : Array TypeId)[0]? = some st := rfl
    have q1 : (#[st, xt] : Array TypeId)[1]? = some xt := rfl
    have q2 : (#[Value.slice base sLen sCap, x'])[0]? = some (Value.slice base sLen sCap) := rfl
    have q3 : (#[Value.slice base sLen sCap, x'])[1]? = some x' := rfl
    simp only [Builtin.append_, q0, q1, q2, q3, Sem.run_bind, run_underlying ht, run_underlying hx, run_sizeOf' hi, run_typeInfo' hi, Result.andThen_ok, Sem.run_pure, hlen, if_neg hgt, Bool.false_eq_true, if_false, Bool.not_false, if_true]
    have hno : ¬ (((sLen + n : Nat) : Int) > IntKind.i64.max ∧ (False ∨ inf.bytes = 0)) := fun h => hmax h.1
    rw [if_neg hno]
    simp only [Sem.run_bind, run_typeInfo' hi, Result.andThen_ok, if_neg hcapb, hch, run_askRoom, hold, hnew, run_zeroValue hi hz]
    rfl

/-- what 'append' does where there is room -/
theorem append_room {P : Program} {st xt e : TypeId} {xd : TypeDesc} {inf : TypeInfo} (ht : P.underlying st = some (.slice e)) (hx : P.underlying xt = some xd) (hxd : ∀ k, xd ≠ .int k) (hi : P.info? e = some inf)
    {base : Option Addr} {sLen sCap n : Nat} {x' : Value} {ty : TypeId} (hle : sLen + n ≤ sCap) {w' w2' : World} {us : List Value}
    (hlen : ∀ w, (Builtin.lenOf x').run P w = .ok n w)
    (hnew : (Builtin.firstCells inf.size n x').run P w' = .ok ⟨us⟩ w')
    (hst : match base with | some b => (Go.storeCells (b.add (sLen * inf.size)) us).run P w' = .ok () w2' | none => w2' = w') :
    (Builtin.append_ #[st, xt] ty #[.slice base sLen sCap, x']).run P w' = .ok (.slice base (sLen + n) sCap) w2' := by
  have hint : (xd matches .int _) = false := by cases xd <;> first | rfl | exact absurd rfl (hxd _)
  have q0 : (#[st, xt] : Array TypeId)[0]? = some st := rfl
  have q1 : (#[st, xt] : Array TypeId)[1]? = some xt := rfl
  have q2 : (#[Value.slice base sLen sCap, x'])[0]? = some (Value.slice base sLen sCap) := rfl
  have q3 : (#[Value.slice base sLen sCap, x'])[1]? = some x' := rfl
  simp only [Builtin.append_, q0, q1, q2, q3, Sem.run_bind, run_underlying ht, run_underlying hx, run_sizeOf' hi, Result.andThen_ok, Sem.run_pure, hlen, if_pos hle, Bool.false_eq_true, if_false, Bool.not_false, if_true, hnew]
  cases base with
  | none => subst hst; rfl
  | some b => simp only [Sem.run_bind, hst, Result.andThen_ok]; rfl

/-- a run gives a value, and its twin -/
def Gets (C : Ctx) (ρ : Env) (w' : World) (s : Sem Value) (K : VK) : Prop :=
  ∃ v v' ρ2 w2 w2', s.run C.P w' = .ok v' w2' ∧ Env.le ρ ρ2 ∧ VR ρ2 v v' ∧ WR C ρ2 w2 w2' ∧ C.good (K v w2)

theorem AW.getd {w : AW} {r : Nat} {b1 : Blk} (_hr : r < lim) : (w.put r none).push b1 = (w.drop r).push b1 := rfl

theorem pushK_good {o : Obj} {ex : Bool} {w : AW} {K : Nat → AW → Res} {good : Res → Prop} (hfi : Fine good) (h : good (pushK o ex w K)) : w.next < lim ∧ good (K w.next (w.push ⟨o, ex⟩)) := by
  unfold pushK at h
  cases hb : Nat.blt w.next lim with
  | false => rw [hb] at h; exact absurd h hfi.bad
  | true =>
    rw [hb] at h
    simp only [T.putK_eq] at h
    exact ⟨blt_iff.1 hb, h⟩

theorem loadAgg_len {n : Nat} {a : Addr} {w : AW} {v : Value} (h : loadAgg n a w = some v) : ∃ l : List Value, v = .agg ⟨l⟩ ∧ l.length = n := by
  unfold loadAgg at h
  split at h
  · split at h
    · obtain ⟨h1, h2⟩ := runOf_some h
      exact ⟨_, h2, by simp; omega⟩
    · cases h
  · cases h

theorem setRun_get : ∀ (us l : List Value) (m i : Nat), m + us.length ≤ l.length → (setRun l us m)[i]? = if m ≤ i ∧ i < m + us.length then us[i - m]? else l[i]?
  | [], l, m, i, _ => by
    rw [setRun, if_neg (by simp)]
  | u :: us, l, m, i, h => by
    simp only [List.length_cons] at h
    rw [setRun, setRun_get us (l.set m u) (m + 1) i (by simp; omega)]
    by_cases h1 : m + 1 ≤ i ∧ i < m + 1 + us.length
    · rw [if_pos h1, if_pos (by simp; omega)]
      have : i - m = (i - (m + 1)) + 1 := by omega
      rw [this, List.getElem?_cons_succ]
    · rw [if_neg h1]
      by_cases h2 : i = m
      · subst h2
        rw [if_pos (by simp), Nat.sub_self, List.getElem?_set_self (by omega)]
        rfl
      · rw [if_neg (by simp; omega), List.getElem?_set, if_neg (by omega)]

theorem appendK_run {C : Ctx} {ρ : Env} {w : AW} {w' : World} (hfi : Fine C.good) (hw : WR C ρ w w') {st xt e : TypeId} {xd : TypeDesc} {inf : TypeInfo}
    (ht : C.P.underlying st = some (.slice e)) (hxt : C.P.underlying xt = some xd) (hxd : ∀ k, xd ≠ .int k) (hi : C.P.info? e = some inf) {s x s' x' : Value} (hs : VR ρ s s') (hx : VR ρ x x') {ty : TypeId} {K : VK}
    (h : C.good (appendK C.P C.G e inf s x w K)) : Gets C ρ w' (Builtin.append_ #[st, xt] ty #[s', x']) K := by
  unfold appendK at h
  split at h
  · rename_i base sLen sCap n hn
    have hlen := lenV_run (P := C.P) hx hn
    have hle : ∀ b l c, x = .slice b l c → n ≤ l := by
      intro b l c hxe
      subst hxe
      cases hn
      exact Nat.le_refl _
    split at h
    · rename_i new hf
      obtain ⟨us, hus, hrel⟩ := firstF_run hw hx hle hf
      cases hb : (!Nat.beq new.length (Nat.mul n inf.size)) with
      | true => rw [hb] at h; exact absurd h hfi.bad
      | false =>
        rw [hb] at h
        simp only [cond_false] at h
        have hnl : new.length = n * inf.size := nat_beq (by simpa using hb)
        have hul : us.length = n * inf.size := by rw [← hrel.length, hnl]
        cases hroom : Nat.ble (Nat.add sLen n) sCap with
        | true =>
          rw [hroom] at h
          simp only [cond_true] at h
          have hroom : sLen + n ≤ sCap := Nat.le_of_ble_eq_true hroom
          cases base with
          | none =>
            obtain rfl : s' = .slice none sLen sCap := by cases hs; rfl
            exact ⟨.slice none (sLen + n) sCap, _, ρ, w, w', append_room ht hxt hxd hi hroom hlen hus rfl, Env.le.refl _, .nils _ _, hw, h⟩
          | some a =>
            obtain ⟨b, en, rfl, he, hbl, hsp, ho, hlc⟩ := hs.sl_inv
            simp only at h
            obtain ⟨w2, w2', h1, h2, h3⟩ := storeK_run (b := b.add (sLen * inf.size)) (en := en) hfi hw (by rw [add_block]; exact he) (by rw [add_block]; exact hbl) (fun _ => add_spot hsp.2 _) (fun hne => by
              rw [add_off', add_off']
              rcases ho with ho | ⟨h0, _⟩
              · rw [ho]; rfl
              · have : n ≠ 0 := by
                  intro h; subst h
                  rw [Nat.zero_mul] at hnl
                  exact hne (List.length_eq_zero_iff.1 hnl)
                omega) hrel h
            exact ⟨.slice (some a) (sLen + n) sCap, _, ρ, w2, w2', append_room (base := some b) ht hxt hxd hi (by omega) hlen hus h1, Env.le.refl _, .sl a b _ _ en he hbl hsp ho hroom, h2, h3⟩
        | false =>
          rw [hroom] at h
          simp only [cond_false] at h
          have hroom : ¬ sLen + n ≤ sCap := by
            intro hc
            have hroom2 : Nat.ble (sLen + n) sCap = false := hroom
            rw [Nat.ble_eq_true_of_le hc] at hroom2
            cases hroom2
          cases hcnd : (!(Nat.ble (Nat.add sLen n) lim && Nat.ble inf.bytes lim && Nat.blt 0 inf.size && Nat.ble inf.size lim && zeroFits inf)) with
          | true => rw [hcnd] at h; exact absurd h hfi.bad
          | false =>
            rw [hcnd] at h
            simp only [cond_false] at h
            simp only [Bool.not_eq_false', Bool.and_eq_true] at hcnd
            obtain ⟨⟨⟨⟨hn1, hn2⟩, hn3⟩, hn4⟩, hn5⟩ := hcnd
            have hn1 : sLen + n ≤ lim := Nat.le_of_ble_eq_true hn1
            have hn2 := Nat.le_of_ble_eq_true hn2
            have hn3 : 0 < inf.size := blt_iff.1 hn3
            have hn4 := Nat.le_of_ble_eq_true hn4
            unfold zeroFits at hn5
            split at hn5
            · rename_i z hz
              have hzs : z.cells.size = inf.size := nat_beq hn5
              have grow : ∀ (w1 : AW) (hw1 : WR C ρ w1 w') (base' : Option Addr) (sCap' : Nat) (old olds : List Value) (fr : Nat × Nat), s' = .slice base' sLen sCap' → ¬ sLen + n ≤ sCap' →
                  (Builtin.firstCells inf.size sLen (.slice base' sLen sCap')).run C.P { w' with drawn := w'.drawn + 1 } = .ok ⟨olds⟩ { w' with drawn := w'.drawn + 1 } →
                  VRs ρ old olds → old.length = sLen * inf.size →
                  C.good (pushK (.cells ⟨old ++ new⟩ e fr) false w1 fun r w => K (.slice (some ⟨r, 0, none⟩) (sLen + n) (sLen + n)) w) → Gets C ρ w' (Builtin.append_ #[st, xt] ty #[s', x']) K := by
                intro w1 hw1 base' sCap' old olds fr hs' hgt' hold hor hol hgood
                subst hs'
                obtain ⟨hlt, hk⟩ := pushK_good hfi hgood
                obtain ⟨us2, hus2, hrel2⟩ := firstF_run (hw.drawn (w'.drawn + 1)) hx hle hf
                obtain ⟨k, c', hk1, hsz, hpre, hrun⟩ := append_grow (ty := ty) ht hxt hxd hi hz hzs hn1 hn2 hgt' hlen hold hus2
                have hext : sLen + n + (k - (sLen + n)) = k := by omega
                have hv : VR (ρ.ext w1.next ⟨w'.heap.size, k - (sLen + n)⟩) (.slice (some ⟨w1.next, 0, none⟩) (sLen + n) (sLen + n)) (.slice (some ⟨w'.heap.size, 0, none⟩) (sLen + n) k) := by
                  have := VR.sl (ρ := ρ.ext w1.next ⟨w'.heap.size, k - (sLen + n)⟩) ⟨w1.next, 0, none⟩ ⟨w'.heap.size, 0, none⟩ (sLen + n) (sLen + n) ⟨w'.heap.size, k - (sLen + n)⟩ Env.ext_same rfl ⟨rfl, rfl⟩ (.inl rfl) (Nat.le_refl _)
                  simp only [hext] at this
                  exact this
                refine ⟨_, _, _, _, _, hrun, Env.le_ext _ (hw1.top _ (Nat.le_refl _)), hv, (hw1.drawn (w'.drawn + 1)).push ⟨.cells ⟨old ++ new⟩ e fr, false⟩ (.cells c' e (0, 0)) (k - (sLen + n)) (by simp) hlt ?_, hk⟩
                have hol2 := hor.length
                have hul2 := hrel2.length
                refine ⟨c', (0, 0), rfl, ?_, ?_, .inr (.inl rfl)⟩
                · rw [hsz, cellsOf_info hi, ← hol2, ← hul2]
                  simp
                · intro i v hv
                  obtain ⟨u, hu, r⟩ := (VRs.append hor hrel2).get i (v := v) (by simpa using hv)
                  exact ⟨u, hpre i u hu, r⟩
              cases base with
              | none =>
                simp only at h
                cases h0 : Nat.beq sLen 0 with
                | false => rw [h0] at h; exact absurd h hfi.bad
                | true =>
                  rw [h0] at h
                  simp only [cond_true, forceL_eq] at h
                  have h0 : sLen = 0 := nat_beq h0
                  obtain rfl : s' = .slice none sLen sCap := by cases hs; rfl
                  exact grow w hw none sCap [] [] (0, 0) rfl hroom rfl .nil (by rw [h0]; simp) h
              | some a =>
                obtain ⟨b, en, rfl, he, hbl, hsp, ho, hlc⟩ := hs.sl_inv
                simp only at h
                split at h
                · rename_i c e' fr hg
                  split at h
                  · rename_i old hl
                    simp only [forceL_eq] at h
                    obtain ⟨_, _, _, hex, _⟩ := hw.live _ _ _ hg he
                    have hex := hex rfl
                    have hfF : firstF inf.size sLen w (.slice (some a) sLen sCap) = some old.toList := by
                      simp only [firstF]
                      rw [hl]
                    obtain ⟨olds, h1, h2⟩ := firstF_run (hw.drawn (w'.drawn + 1)) hs (fun b l c hh => by cases hh; exact Nat.le_refl _) hfF
                    obtain ⟨l, hl1, hl2⟩ := loadAgg_len hl
                    cases hl1
                    refine grow w hw (some b) (sCap + en.extra) _ olds (0, 0) rfl (by omega) h1 h2 hl2 h
                  · exact absurd h hfi.bad
                · rename_i c e' fr hg
                  cases hc : (Nat.ble C.G a.block && Nat.beq a.off 0 && a.spot.isNone && Nat.beq e' e && Nat.beq c.toList.length (Nat.mul sCap inf.size) && Nat.ble sLen sCap && clearOf fr (Nat.mul sLen inf.size) && new.all single) with
                  | false => rw [hc] at h; exact absurd h hfi.bad
                  | true =>
                    rw [hc] at h
                    simp only [cond_true, forceL_eq, AW.putK_eq] at h
                    simp only [Bool.and_eq_true] at hc
                    obtain ⟨⟨⟨⟨⟨⟨⟨hG, ha0⟩, _⟩, hee⟩, hcl⟩, hsc⟩, hclear⟩, hsing⟩ := hc
                    have hG : C.G ≤ a.block := Nat.le_of_ble_eq_true hG
                    have ha0 : a.off = 0 := nat_beq ha0
                    obtain rfl : e' = e := nat_beq hee
                    have hcl : c.toList.length = sCap * inf.size := nat_beq hcl
                    have hsc : sLen ≤ sCap := Nat.le_of_ble_eq_true hsc
                    have hms : sLen * inf.size ≤ sCap * inf.size := Nat.mul_le_mul_right _ hsc
                    have htake : (c.toList.take (sLen * inf.size)).length = sLen * inf.size := by rw [List.length_take]; omega
                    have hr := AW.get_lt hg
                    have hd : WR C ρ (w.put a.block none) w' := hw.drop _ hr (hw.real he)
                    have hfF : firstF inf.size sLen w (.slice (some a) sLen sCap) = some (c.toList.take (sLen * inf.size)) := by
                      simp only [firstF, loadAgg, hg, hsp.1, runOf, ha0]
                      have : Nat.ble (Nat.add 0 (Nat.mul sLen inf.size)) c.toList.length = true := Nat.ble_eq_true_of_le (by show 0 + sLen * inf.size ≤ _; omega)
                      rw [this]
                      rfl
                    obtain ⟨olds, h1, h2⟩ := firstF_run (hw.drawn (w'.drawn + 1)) hs (fun b l c hh => by cases hh; exact Nat.le_refl _) hfF
                    by_cases hin : sLen + n ≤ sCap + en.extra
                    · obtain ⟨hlt, hk⟩ := pushK_good hfi h
                      obtain ⟨o', ho', hor, _, _⟩ := hw.live _ _ _ hg he
                      obtain ⟨c', fr', rfl, hsz, hcs, hF⟩ := hor
                      have hsz : c'.size = sCap * inf.size + en.extra * inf.size := by rw [hsz, cellsOf_info hi, ← hcl]; simp
                      have hboff : b.off = 0 := by
                        rcases ho with ho | ⟨_, _⟩
                        · rw [ho, ha0]
                        · omega
                      have hup : (sLen + n) * inf.size ≤ (sCap + en.extra) * inf.size := Nat.mul_le_mul_right _ hin
                      rw [Nat.add_mul, Nat.add_mul] at hup
                      have hlow : (sLen + n) * inf.size ≤ lim * lim := Nat.mul_le_mul hn1 hn4
                      rw [Nat.add_mul] at hlow
                      have hlimv : lim * lim = 4294967296 := rfl
                      have hsto := storeCells_run (P := C.P) (b := b.add (sLen * inf.size)) (e := e') (fr := fr') (add_spot hsp.2 _) us 0 w' c' (by rw [add_block, hbl]; exact ho')
                        (single_plain hrel hsing) (by rw [add_off']; omega) (fr_clear hF (by rw [add_off']; omega) (by
                            rw [add_off']
                            unfold clearOf at hclear
                            simp only [Bool.or_eq_true, Bool.and_eq_true] at hclear
                            rcases hclear with hclear | ⟨hm1, _⟩
                            · exact .inr (.inl (by have := Nat.le_of_ble_eq_true hclear; have : fr.2 ≤ sLen * inf.size := this; omega))
                            · refine .inr (.inr ?_)
                              have := nat_beq hm1
                              have : mark.1 = 4611686018427387904 := rfl
                              omega))
                      have hrun := append_room (base := some b) (ty := ty) ht hxt hxd hi hin hlen hus hsto
                      have hext : sLen + n + (sCap + en.extra - (sLen + n)) = sCap + en.extra := by omega
                      have hid : (b.add (sLen * inf.size)).block = en.id := by rw [add_block, hbl]
                      have hof : (b.add (sLen * inf.size)).off + 0 = sLen * inf.size := by rw [add_off']; omega
                      rw [hid, hof] at hrun
                      have hv : VR (ρ.ext w.next ⟨en.id, sCap + en.extra - (sLen + n)⟩) (.slice (some ⟨w.next, 0, none⟩) (sLen + n) (sLen + n)) (.slice (some b) (sLen + n) (sCap + en.extra)) := by
                        have := VR.sl (ρ := ρ.ext w.next ⟨en.id, sCap + en.extra - (sLen + n)⟩) ⟨w.next, 0, none⟩ b (sLen + n) (sLen + n) ⟨en.id, sCap + en.extra - (sLen + n)⟩ Env.ext_same hbl ⟨rfl, hsp.2⟩ (.inl hboff) (Nat.le_refl _)
                        simp only [hext] at this
                        exact this
                      refine ⟨_, _, _, _, _, hrun, Env.le_ext _ (hw.top _ (Nat.le_refl _)), hv, hw.rename hg he hG (b1 := ⟨.cells ⟨c.toList.take (sLen * inf.size) ++ new⟩ e' fr, false⟩) (sCap + en.extra - (sLen + n)) hlt ?_ (by simp), hk⟩
                      refine ⟨_, fr', rfl, ?_, ?_, ?_⟩
                      · rw [cellsOf_info hi]
                        have : (sCap + en.extra - (sLen + n)) * inf.size = (sCap + en.extra) * inf.size - (sLen + n) * inf.size := Nat.sub_mul _ _ _
                        rw [Nat.add_mul, Nat.add_mul] at this
                        simp only [List.size_toArray, setRun_length, List.length_append, htake, hnl, Array.length_toList, hsz, this]
                        omega
                      · intro i v hv
                        simp only [List.getElem?_toArray] at hv ⊢
                        rw [setRun_get _ _ _ _ (by simp; omega)]
                        rw [List.getElem?_append, htake] at hv
                        split at hv
                        · rename_i hi1
                          rw [if_neg (by omega)]
                          rw [List.getElem?_take, if_pos hi1] at hv
                          obtain ⟨u, hu, r⟩ := hcs i v (by simpa using hv)
                          exact ⟨u, by simpa using hu, r.mono (Env.le.refl _)⟩
                        · rename_i hi1
                          obtain ⟨u, hu, r⟩ := hrel.get _ hv
                          have : i - sLen * inf.size < us.length := by
                            rcases Nat.lt_or_ge (i - sLen * inf.size) us.length with q | q
                            · exact q
                            · simp [List.getElem?_eq_none q] at hu
                          rw [if_pos (by omega)]
                          exact ⟨u, hu, r⟩
                      · simpa [setRun_length] using hF
                    · exact grow _ hd (some b) (sCap + en.extra) _ olds fr rfl hin h1 h2 htake h
                · exact absurd h hfi.bad
            · cases hn5
    · exact absurd h hfi.bad
  · exact absurd h hfi.bad
end Go.Ab
/- Conversions that make or read memory. -/
namespace Go.Ab
open Go.RowKit

theorem run_shape_cells {P : Program} {r : Nat} {c : Array Value} {e : TypeId} {fr : Nat × Nat} {w : World} (h : w.heap[r]? = some (.cells c e fr)) : (Go.shape r).run P w = .ok (some (e, c.size)) w := by
  simp [Go.shape, Sem.run, World.shape?, h]

theorem run_prog {P : Program} (w : World) : (Go.program).run P w = .ok P w := rfl

theorem run_viewAt {P : Program} {r : Nat} {c : Array Value} {e : TypeId} {fr : Nat × Nat} {w : World} (h : w.heap[r]? = some (.cells c e fr)) : (Go.viewAt r).run P w = .ok none w := by
  simp only [Go.viewAt, Sem.run_bind, run_shape_cells h, Result.andThen_ok]
  rfl

theorem run_seenAt {P : Program} {a : Addr} {c : Array Value} {e : TypeId} {fr : Nat × Nat} {w : World} (h : w.heap[a.block]? = some (.cells c e fr)) : (Conv.seenAt a).run P w = .ok a w := by
  simp only [Conv.seenAt, Sem.run_bind, run_viewAt h, Result.andThen_ok]
  rfl

theorem run_cellsIn {P : Program} {r : Nat} {c : Array Value} {e : TypeId} {fr : Nat × Nat} {w : World} (h : w.heap[r]? = some (.cells c e fr)) : (Go.cellsIn r).run P w = .ok (some c.size) w := by
  simp only [Go.cellsIn, Sem.run_bind, run_shape_cells h, Result.andThen_ok]
  rfl

/-- the cells that a pointer leads to -/
theorem ptr_cells {C : Ctx} {ρ : Env} {w : AW} {w' : World} (hw : WR C ρ w w') {a b : Addr} (h : AR ρ a b) {c : Array Value} {e : TypeId} {fr : Nat × Nat} {x : Bool} (hg : w.get a.block = some ⟨.cells c e fr, x⟩) :
    b.off = a.off ∧ b.spot = a.spot ∧ ∃ c' fr', w'.heap[b.block]? = some (.cells c' e fr') ∧ c.size ≤ c'.size ∧ (x = true → c'.size = c.size) := by
  obtain ⟨en, he, rfl⟩ := h
  obtain ⟨o', ho', hor, hex, _⟩ := hw.live _ _ _ hg he
  obtain ⟨c', fr', rfl, hsz, _, _⟩ := hor
  refine ⟨rfl, rfl, c', fr', ho', by omega, fun hx => ?_⟩
  rw [hsz, hex hx]
  simp

theorem toUnsafe_run {C : Ctx} {ρ : Env} {w : AW} {w' : World} (hw : WR C ρ w w') {s t u : TypeId} (hs : C.P.underlying s = some (.pointer u)) (ht : C.P.underlying t = some .unsafePointer) {x x' v : Value} (hx : VR ρ x x')
    (h : toUnsafe C.P u x w = some v) : ∃ v', (convert s t x').run C.P w' = .ok v' w' ∧ VR ρ v v' := by
  unfold toUnsafe at h
  split at h
  · cases h
    obtain rfl : x' = .pointer none := by cases hx; rfl
    refine ⟨.pointer none, ?_, .nilp⟩
    simp only [convert, Sem.run_bind, run_underlying hs, run_underlying ht, Result.andThen_ok, Conv.unsafePointer]
    rfl
  · rename_i a
    obtain ⟨b, rfl, hab⟩ := hx.ptr_inv
    split at h
    · rename_i c e fr xx hg
      cases hc : (Nat.blt a.off c.toList.length && Nat.blt 0 (sizeIs C.P u)) with
      | false => rw [hc] at h; cases h
      | true =>
        rw [hc] at h
        cases h
        rw [Bool.and_eq_true] at hc
        have h1 : a.off < c.size := by simpa using blt_iff.1 hc.1
        obtain ⟨inf, hinf, hne⟩ := sizeIs_pos (blt_iff.1 hc.2)
        obtain ⟨hoff, hsp, c', fr', hh, hsz, _⟩ := ptr_cells hw hab hg
        refine ⟨.pointer (some b), ?_, .ptr _ _ hab⟩
        have hno : decide (b.off ≥ c'.size) = false := by simp; omega
        simp only [convert, Sem.run_bind, run_underlying hs, run_underlying ht, Result.andThen_ok, Conv.unsafePointer, run_seenAt hh, run_cellsIn hh, run_sizeOf' hinf, hno, Bool.false_and, Bool.or_false, decide_eq_true_eq, hne, if_false]
        rfl
    · cases h
  · cases h

theorem fromUnsafe_run {C : Ctx} {ρ : Env} {w : AW} {w' : World} (hw : WR C ρ w w') {s t u : TypeId} (hs : C.P.underlying s = some .unsafePointer) (ht : C.P.underlying t = some (.pointer u)) {x x' v : Value} (hx : VR ρ x x')
    (h : fromUnsafe C.P u x w = some v) : ∃ v', (convert s t x').run C.P w' = .ok v' w' ∧ VR ρ v v' := by
  unfold fromUnsafe at h
  split at h
  · cases h
    obtain rfl : x' = .pointer none := by cases hx; rfl
    refine ⟨.pointer none, ?_, .nilp⟩
    simp only [convert, Sem.run_bind, run_underlying hs, run_underlying ht, Result.andThen_ok, Conv.unsafePointer]
    rfl
  · rename_i a
    obtain ⟨b, rfl, hab⟩ := hx.ptr_inv
    split at h
    · rename_i c e fr hg
      cases hc : (liesAt C.P C.P.depth e (Nat.div c.toList.length (C.P.cellsOf e)) a.off u 1 && Nat.blt 0 (sizeIs C.P u)) with
      | false => rw [hc] at h; cases h
      | true =>
        rw [hc] at h
        cases h
        rw [Bool.and_eq_true] at hc
        obtain ⟨inf, hinf, hne⟩ := sizeIs_pos (blt_iff.1 hc.2)
        obtain ⟨hoff, hsp, c', fr', hh, hsz, hex⟩ := ptr_cells hw hab hg
        have hex := hex rfl
        have hlies : liesAt C.P C.P.depth e (c'.size / C.P.cellsOf e) b.off u 1 = true := by
          rw [hex, hoff]
          have := hc.1
          rw [Array.length_toList] at this
          exact this
        refine ⟨.pointer (some b), ?_, .ptr _ _ hab⟩
        have hva : (variablesAt b u 1).run C.P w' = .ok true w' := by
          simp only [variablesAt, Sem.run_bind, run_prog, run_shape_cells hh, Result.andThen_ok, hlies]
          rfl
        simp only [convert, Sem.run_bind, run_underlying hs, run_underlying ht, Result.andThen_ok, Conv.unsafePointer, run_seenAt hh, run_sizeOf' hinf, hva, Bool.or_true, if_true]
        rfl
    · cases h
  · cases h

theorem run_freeze {P : Program} (a : Addr) (n : Nat) (w : World) : (Go.freeze a n).run P w = .ok () (w.freeze a n) := rfl

/-- '[]byte(s)' -/
theorem bytes_run {C : Ctx} {ρ : Env} {w : AW} {w' : World} (hfi : Fine C.good) (hw : WR C ρ w w') {s t e : TypeId} {inf : TypeInfo} (hs : C.P.underlying s = some .string) (ht : C.P.underlying t = some (.slice e)) (he : C.P.underlying e = some (.int .u8)) (hi : C.P.info? e = some inf)
    {b : ByteArray} {K : VK} (h : C.good (bytesK e inf b w K)) : Gets C ρ w' (convert s t (.string b)) K := by
  unfold bytesK at h
  cases hc : Nat.beq inf.size 1 with
  | false => rw [hc] at h; exact absurd h hfi.bad
  | true =>
    rw [hc] at h
    simp only [cond_true, forceL_eq] at h
    have hsz : inf.size = 1 := nat_beq hc
    obtain ⟨hlt, hk⟩ := pushK_good hfi h
    obtain ⟨k, hk1, hch⟩ := run_cap (P := C.P) b.size 0 e w'
    generalize hel : ((b.data.map fun x => Value.int .u8 x.toNat) ++ Array.replicate (k - b.size) (Value.int .u8 0)) = el
    have hels : el.size = k := by rw [← hel]; simp; have : b.data.size = b.size := rfl; omega
    have hrun : (convert s t (.string b)).run C.P w' = .ok (.slice (some ⟨w'.heap.size, 0, none⟩) b.size k) { w' with drawn := w'.drawn + 1, heap := w'.heap.push (.cells el e (k, k + 1)) } := by
      simp only [convert, Sem.run_bind, run_underlying hs, run_underlying ht, run_underlying he, Result.andThen_ok, Conv.stringToBytes, hch, hel, run_newRow]
      have hsh : ∀ (fr : Nat × Nat), ({ w' with drawn := w'.drawn + 1, heap := w'.heap.push (.cells el e fr) } : World).heap[w'.heap.size]? = some (.cells el e fr) := fun fr => by simp
      simp only [markStringish, Sem.run_bind, run_shape_cells (hsh (0, 0)), Result.andThen_ok, run_freeze, Sem.run_pure]
      congr 1
      simp only [World.freeze]
      rw [if_neg (by omega)]
      congr 1
      apply Array.ext_getElem?
      intro i
      simp only [Array.getElem?_modify, Array.getElem?_push, hels]
      by_cases hi : i = w'.heap.size
      · subst hi; simp
      · rw [if_neg (fun h => hi h.symm), if_neg hi, if_neg hi]
    have hext : b.size + (k - b.size) = k := by omega
    have hbl : b.data.toList.length = b.size := rfl
    have hv : VR (ρ.ext w.next ⟨w'.heap.size, k - b.size⟩) (.slice (some ⟨w.next, 0, none⟩) b.data.toList.length b.data.toList.length) (.slice (some ⟨w'.heap.size, 0, none⟩) b.size k) := by
      have := VR.sl (ρ := ρ.ext w.next ⟨w'.heap.size, k - b.size⟩) ⟨w.next, 0, none⟩ ⟨w'.heap.size, 0, none⟩ b.size b.size ⟨w'.heap.size, k - b.size⟩ Env.ext_same rfl ⟨rfl, rfl⟩ (.inl rfl) (Nat.le_refl _)
      simp only [hext] at this
      rw [hbl]
      exact this
    refine ⟨_, _, _, _, _, hrun, Env.le_ext _ (hw.top _ (Nat.le_refl _)), hv, (hw.drawn (w'.drawn + 1)).push ⟨.cells ⟨b.data.toList.map fun x => Value.int .u8 x.toNat⟩ e mark, false⟩ (.cells el e (k, k + 1)) (k - b.size) (by simp) hlt ?_, hk⟩
    refine ⟨el, _, rfl, ?_, ?_, .inr (.inr ⟨rfl, by rw [hels]⟩)⟩
    · rw [cellsOf_info hi, hsz, hels]
      simp
      have : b.data.size = b.size := rfl
      omega
    · intro i v hv
      have hv : (b.data.toList.map fun x => Value.int .u8 x.toNat)[i]? = some v := by simpa using hv
      have hlt : i < b.data.size := by
        rcases Nat.lt_or_ge i b.data.size with q | q
        · exact q
        · simp [Array.getElem?_eq_none q] at hv
      rw [← hel, Array.getElem?_append_left (by simpa using hlt)]
      obtain ⟨x, _, rfl⟩ : ∃ x, b.data.toList[i]? = some x ∧ Value.int .u8 x.toNat = v := by
        rw [List.getElem?_map] at hv
        cases hq : b.data.toList[i]? with
        | none => rw [hq] at hv; cases hv
        | some x => rw [hq] at hv; exact ⟨x, rfl, Option.some.inj hv⟩
      exact ⟨_, by simpa using hv, .int _ _⟩

theorem asByte_some {v : Value} {b : UInt8} (h : asByte v = some b) : ∃ n : Nat, v = .int .u8 (.ofNat n) ∧ b = UInt8.ofNat n ∧ n < 256 := by
  unfold asByte at h
  split at h
  · rename_i n
    cases hc : Nat.blt n 256 with
    | false => rw [hc] at h; cases h
    | true => rw [hc] at h; cases h; exact ⟨_, rfl, rfl, blt_iff.1 hc⟩
  · cases h

theorem asBytes_some : ∀ {l : List Value} {r : List UInt8}, asBytes l = some r → ∃ ns : List Nat, l = ns.map (fun n => Value.int .u8 (.ofNat n)) ∧ r = ns.map UInt8.ofNat ∧ ∀ n ∈ ns, n < 256
  | [], r, h => by cases h; exact ⟨[], rfl, rfl, by simp⟩
  | v :: l, r, h => by
    unfold asBytes at h
    split at h
    · rename_i b r1 h1 h2
      cases h
      obtain ⟨n, rfl, rfl, hn⟩ := asByte_some h1
      obtain ⟨ns, rfl, rfl, hns⟩ := asBytes_some h2
      exact ⟨n :: ns, rfl, rfl, by simpa using ⟨hn, hns⟩⟩
    · cases h

theorem VRs.ints_inv {ρ : Env} : ∀ {ns : List Nat} {l : List Value}, VRs ρ (ns.map (fun n => Value.int .u8 (.ofNat n))) l → l = ns.map (fun n => Value.int .u8 (.ofNat n))
  | [], _, h => by cases h; rfl
  | n :: ns, _, h => by
    cases h with
    | cons _ u _ us r t => rw [r.int_inv, VRs.ints_inv t]; rfl

theorem foldl_push (ns : List Nat) : ∀ (r : ByteArray), (ns.map Int.ofNat).foldl (fun (r : ByteArray) n => r.push (UInt8.ofNat n.toNat)) r = ⟨r.data ++ (ns.map UInt8.ofNat).toArray⟩ := by
  induction ns with
  | nil => intro r; simp
  | cons n ns ih =>
    intro r
    rw [List.map_cons, List.foldl_cons, ih]
    apply ByteArray.ext
    simp [ByteArray.push]

theorem toStr_run {C : Ctx} {ρ : Env} {w : AW} {w' : World} (hw : WR C ρ w w') {s t e : TypeId} (hs : C.P.underlying s = some (.slice e)) (ht : C.P.underlying t = some .string) (he : C.P.underlying e = some (.int .u8)) {x x' v : Value} (hx : VR ρ x x')
    (h : toStr w x = some v) : (convert s t x').run C.P w' = .ok v w' ∧ VR ρ v v := by
  have key : ∀ y, (Conv.bytesToString y).run C.P w' = .ok v w' → (∃ b l c, y = .slice b l c) → (convert s t y).run C.P w' = .ok v w' := by
    intro y hy hsl
    obtain ⟨b, l, c, rfl⟩ := hsl
    simp only [convert, Sem.run_bind, run_underlying hs, run_underlying ht, Result.andThen_ok, run_underlying he]
    exact hy
  unfold toStr at h
  split at h
  · cases h
    have : ∃ l' c', x' = .slice none l' c' := by cases hx; exact ⟨_, _, rfl⟩
    obtain ⟨l', c', rfl⟩ := this
    exact ⟨key _ rfl ⟨_, _, _, rfl⟩, .string _⟩
  · rename_i a n c
    split at h
    · rename_i cs hl
      split at h
      · rename_i l hb
        cases h
        obtain ⟨ns, h1, h2, _⟩ := asBytes_some hb
        have hf : firstF 1 n w (.slice (some a) n c) = some cs.toList := by
          simp only [firstF]
          have : loadAgg (Nat.mul n 1) a w = some (.agg cs) := by
            have e1 : Nat.mul n 1 = n := Nat.mul_one n
            rw [e1]; exact hl
          rw [this]
        obtain ⟨us, h3, h4⟩ := firstF_run hw hx (fun b l c hh => by cases hh; exact Nat.le_refl _) hf
        obtain ⟨b, en, rfl, _⟩ := hx.sl_inv
        rw [h1] at h4
        have h5 := h4.ints_inv
        have h6 : (Go.loadCells b n).run C.P w' = .ok ((ns.map Int.ofNat).map (Value.int .u8)).toArray w' := by
          have h3 : (Go.loadCells b (n * 1)).run C.P w' = .ok ⟨us⟩ w' := h3
          rw [Nat.mul_one] at h3
          rw [h3, h5, List.map_map]
          rfl
        refine ⟨key _ ?_ ⟨_, _, _, rfl⟩, .string _⟩
        rw [run_bytesToString w' b n _ _ h6, foldl_push, h2]
        congr 2
        apply ByteArray.ext
        simp
      · cases h
    · cases h
  · cases h

theorem unsafeString_run {C : Ctx} {ρ : Env} {w : AW} {w' : World} (hfi : Fine C.good) (hw : WR C ρ w w') {pt it ty u : TypeId} (hp : C.P.underlying pt = some (.pointer u)) {p n p' n' : Value} (hpr : VR ρ p p') (hn : VR ρ n n') {K : VK}
    (h : C.good (unsafeStringK C.P C.G u p n w K)) : Gets C ρ w' (Builtin.unsafeString_ #[pt, it] ty #[p', n']) K := by
  unfold unsafeStringK at h
  split at h
  · rename_i p n
    obtain rfl := hn.int_inv
    have hp' : ∃ q, p' = .pointer q := by cases hpr <;> exact ⟨_, rfl⟩
    obtain ⟨q, rfl⟩ := hp'
    cases h0 : Nat.beq n 0 with
    | true =>
      rw [h0] at h
      obtain rfl : n = 0 := nat_beq h0
      exact ⟨_, _, ρ, w, w', Lib.run_unsafeString_none w' pt it ty q, Env.le.refl _, .string _, hw, h⟩
    | false =>
      rw [h0] at h
      simp only [cond_false] at h
      split at h
      · exact absurd h hfi.bad
      · rename_i a
        obtain ⟨b, hb, hab⟩ := hpr.ptr_inv
        cases hb
        split at h
        · rename_i c e lo hi x hg
          cases hc : (Nat.ble C.G a.block && Nat.ble n lim && Nat.beq u e && a.spot.isNone && Nat.beq a.off 0 && Nat.beq (C.P.cellsOf e) 1 && Nat.ble n c.toList.length && Nat.blt hi mark.1 && (Nat.beq lo hi || Nat.ble hi n)) with
          | false => rw [hc] at h; exact absurd h hfi.bad
          | true =>
            rw [hc] at h
            simp only [cond_true] at h
            simp only [Bool.and_eq_true, Bool.or_eq_true] at hc
            obtain ⟨⟨⟨⟨⟨⟨⟨⟨hG, hnl⟩, hue⟩, hsp⟩, hof⟩, hco⟩, hle⟩, hhi⟩, hfr⟩ := hc
            have hG : C.G ≤ a.block := Nat.le_of_ble_eq_true hG
            have hnl := Nat.le_of_ble_eq_true hnl
            obtain rfl : u = e := nat_beq hue
            have hsp : a.spot = none := by simpa using hsp
            have hof : a.off = 0 := nat_beq hof
            have hco := nat_beq hco
            have hle : n ≤ c.toList.length := Nat.le_of_ble_eq_true hle
            have hhi : hi < mark.1 := blt_iff.1 hhi
            split at h
            · rename_i l hl
              simp only [forceL_eq, AW.putK_eq] at h
              obtain ⟨ns, h1, h2, hns⟩ := asBytes_some hl
              obtain ⟨en, he, rfl⟩ := hab
              obtain ⟨o', ho', hor, hex, hB⟩ := hw.live _ _ _ hg he
              obtain ⟨c', fr', rfl, hsz, hcs, hF⟩ := hor
              have hnn : ns.length = n := by
                have : (c.toList.take n).length = ns.length := by rw [h1]; simp
                rw [List.length_take] at this
                omega
              have hll : l.length = n := by rw [h2]; simp [hnn]
              have hn0 : n ≠ 0 := by intro hh; subst hh; cases h0
              have hrow := Lib.run_unsafeString_row (P := C.P) w' pt it ty u hp hco en.id c'.size (by simp [World.shape?, ho']) l (by intro hh; subst hh; simp at hll; omega) (by simp at hle; omega) (by have : lim = 65536 := rfl; omega)
                (by
                  intro j y hy
                  have hadd : (⟨en.id, 0, none⟩ : Addr).add j = ⟨en.id, j, none⟩ := by rw [add_off]; simp
                  rw [hadd, World.cell?_of (a := ⟨en.id, j, none⟩) ho' rfl]
                  rw [h2, List.getElem?_map] at hy
                  cases hq : ns[j]? with
                  | none => rw [hq] at hy; cases hy
                  | some m =>
                    rw [hq] at hy
                    have hy : UInt8.ofNat m = y := Option.some.inj hy
                    have hj : j < n := by
                      rcases Nat.lt_or_ge j ns.length with q | q
                      · omega
                      · simp [List.getElem?_eq_none q] at hq
                    have hcj : c[j]? = some (.int .u8 (.ofNat m)) := by
                      have : (c.toList.take n)[j]? = some (.int .u8 (.ofNat m)) := by rw [h1, List.getElem?_map, hq]; rfl
                      rw [List.getElem?_take, if_pos hj] at this
                      simpa using this
                    obtain ⟨v, hv, r⟩ := hcs j _ hcj
                    rw [hv, r.int_inv, ← hy]
                    have hm : m < 256 := hns m (List.mem_of_getElem? hq)
                    simp [Nat.mod_eq_of_lt hm])
              have hfz : w'.freeze ⟨en.id, 0, none⟩ l.length = { w' with heap := w'.heap.setIfInBounds en.id (.cells c' u (0, n)) } := by
                simp only [World.freeze]
                rw [if_neg (by omega)]
                congr 1
                apply Array.ext_getElem?
                intro i
                simp only [Array.getElem?_modify, Array.getElem?_setIfInBounds]
                by_cases hi2 : en.id = i
                · subst hi2
                  have hlt := heap_lt ho'
                  have hg' : w'.heap[en.id] = .cells c' u fr' := by
                    have := ho'
                    rw [Array.getElem?_eq_getElem hlt] at this
                    exact Option.some.inj this
                  obtain ⟨lo', hi'⟩ := fr'
                  simp only [if_true, hlt, hg', Array.getElem?_eq_getElem hlt, Option.map_some]
                  congr 2
                  have hfr' : lo' = hi' ∨ (hi' ≤ n) := by
                    rcases hF with hF | hF | ⟨hF, _⟩
                    · cases hF
                      rcases hfr with hfr | hfr
                      · exact .inl (nat_beq hfr)
                      · exact .inr (Nat.le_of_ble_eq_true hfr)
                    · cases hF; exact .inl rfl
                    · cases hF
                      exact absurd hhi (by decide)
                  by_cases he2 : lo' = hi'
                  · simp [he2, hll]
                  · have : hi' ≤ n := hfr'.resolve_left he2
                    simp [he2, hll]
                    omega
                · simp [hi2]
              rw [hfz] at hrow
              have hint : (Value.int .i64 (.ofNat n)) = .int .i64 l.length := by rw [hll]; rfl
              rw [hint, hof, hsp]
              refine ⟨_, _, ρ, _, _, hrow, Env.le.refl _, ?_, hw.write hg he hG (b1 := ⟨.cells c u (0, n), x⟩) ⟨c', _, rfl, hsz, hcs, .inl rfl⟩ hex, h⟩
              have : (⟨⟨l⟩⟩ : ByteArray) = ⟨l.toArray⟩ := rfl
              rw [this]
              exact .string _
            · exact absurd h hfi.bad
        · exact absurd h hfi.bad
  · exact absurd h hfi.bad
end Go.Ab
/- Copies, maps, iterators. -/
namespace Go.Ab
open Go.RowKit

theorem copyK_run {C : Ctx} {ρ : Env} {w : AW} {w' : World} (hfi : Fine C.good) (hw : WR C ρ w w') {dt xt e ty : TypeId} {inf : TypeInfo} (ht : C.P.underlying dt = some (.slice e)) (hi : C.P.info? e = some inf) {s x s' x' : Value} (hs : VR ρ s s') (hx : VR ρ x x') {K : VK}
    (h : C.good (copyK C.G inf s x w K)) : Gets C ρ w' (Builtin.copy_ #[dt, xt] ty #[s', x']) K := by
  unfold copyK at h
  split at h
  · rename_i base dLen cap n hn
    have hlen := lenV_run (P := C.P) hx hn
    split at h
    · rename_i new hf
      obtain ⟨us, hus, hrel⟩ := firstF_run hw hx (fun b l c hh => by subst hh; cases hn; exact Nat.min_le_left _ _) hf
      have q0 : (#[dt, xt] : Array TypeId)[0]? = some dt := rfl
      have q2 : ∀ y, (#[y, x'] : Array Value)[0]? = some y := fun _ => rfl
      have q3 : ∀ y, (#[y, x'] : Array Value)[1]? = some x' := fun _ => rfl
      split at h
      · rename_i a
        obtain ⟨b, en, rfl, he, hbl, hsp, ho, hlc⟩ := hs.sl_inv
        obtain ⟨w2, w2', h1, h2, h3⟩ := storeK_run (b := b) (en := en) hfi hw he hbl (fun _ => hsp.2) (fun hne => by
          rcases ho with ho | ⟨h0, _⟩
          · exact ho
          · exfalso
            apply hne
            have hd0 : dLen = 0 := by omega
            subst hd0
            have hm : Nat.min n 0 = 0 := Nat.min_zero n
            rw [hm] at hf
            unfold firstF at hf
            split at hf
            · split at hf
              · rename_i c hl
                cases hf
                obtain ⟨l, h1, h2⟩ := loadAgg_len hl
                cases h1
                rw [Nat.mul_eq, Nat.zero_mul] at h2
                exact List.length_eq_zero_iff.1 h2
              · cases hf
            · cases hf; rfl
            · cases hf; simp
            · cases hf) hrel h
        refine ⟨_, _, ρ, w2, w2', ?_, Env.le.refl _, .int _ _, h2, h3⟩
        simp only [Builtin.copy_, q0, q2, q3, Sem.run_bind, run_underlying ht, run_sizeOf' hi, hlen, hus, h1, Result.andThen_ok]
        rfl
      · have : ∃ l' c', s' = .slice none l' c' ∧ l' = dLen := by cases hs; exact ⟨_, _, rfl, rfl⟩
        obtain ⟨l', c', rfl, rfl⟩ := this
        refine ⟨_, _, ρ, w, w', ?_, Env.le.refl _, .int _ _, hw, h⟩
        simp only [Builtin.copy_, q0, q2, q3, Sem.run_bind, run_underlying ht, run_sizeOf' hi, hlen, hus, Result.andThen_ok]
        rfl
    · exact absurd h hfi.bad
  · exact absurd h hfi.bad

/-- an object that is no row of cells, found through a pointer or a map's value -/
theorem obj_get {C : Ctx} {ρ : Env} {w : AW} {w' : World} (hw : WR C ρ w w') {r : Nat} {en : Ent} (he : ρ r = some en) {es : Array MapEntry} {k : Nat} {x : Bool} (hg : w.get r = some ⟨.map es k, x⟩) :
    ∃ es' : Array MapEntry, w'.heap[en.id]? = some (.map es' k) ∧ ERs ρ es.toList es'.toList := by
  obtain ⟨o', ho', hor, _⟩ := hw.live _ _ _ hg he
  obtain ⟨es', rfl, h⟩ := hor
  exact ⟨es', ho', h⟩

theorem run_setMap {P : Program} {r : Nat} {o : Obj} {es : Array MapEntry} {k : Nat} {w : World} (h : w.heap[r]? = some (.map es k)) : (Go.setObj r o).run P w = .ok () { w with heap := w.heap.setIfInBounds r o } := by
  simp [Go.setObj, Sem.run, h]

theorem run_setIter {P : Program} {r : Nat} {o : Obj} {m : Option Nat} {a : Nat} {b : Array Nat} {k : Nat} {w : World} (h : w.heap[r]? = some (.mapIter m a b k)) : (Go.setObj r o).run P w = .ok () { w with heap := w.heap.setIfInBounds r o } := by
  simp [Go.setObj, Sem.run, h]

theorem ERs.snoc {ρ : Env} {l m : List MapEntry} (h : ERs ρ l m) {x y : MapEntry} (hk : VR ρ x.key y.key) (hv : VR ρ x.val y.val) (hb : x.born = y.born) : ERs ρ (l ++ [x]) (m ++ [y]) := by
  induction h with
  | nil => exact .cons _ _ _ _ hk hv hb .nil
  | cons a b as bs h1 h2 h3 _ ih => exact .cons _ _ _ _ h1 h2 h3 ih

theorem ERs.set {ρ : Env} {l m : List MapEntry} (h : ERs ρ l m) {x y : MapEntry} (hk : VR ρ x.key y.key) (hv : VR ρ x.val y.val) (hb : x.born = y.born) (i : Nat) : ERs ρ (l.set i x) (m.set i y) := by
  induction h generalizing i with
  | nil => exact .nil
  | cons a b as bs h1 h2 h3 t ih =>
    cases i with
    | zero => exact .cons _ _ _ _ hk hv hb t
    | succ i => exact .cons _ _ _ _ h1 h2 h3 (ih i)

theorem ERs.get {ρ : Env} {l m : List MapEntry} (h : ERs ρ l m) : ∀ {i : Nat} {x : MapEntry}, l[i]? = some x → ∃ y, m[i]? = some y ∧ VR ρ x.key y.key ∧ VR ρ x.val y.val ∧ x.born = y.born := by
  induction h with
  | nil => intro i x hx; simp at hx
  | cons a b as bs h1 h2 h3 t ih =>
    intro i x hx
    cases i with
    | zero => simp at hx; subst hx; exact ⟨b, rfl, h1, h2, h3⟩
    | succ i => simp at hx; simpa using ih hx

theorem ERs.modify {ρ : Env} {l m : List MapEntry} (h : ERs ρ l m) {k k' v v' : Value} (hk : VR ρ k k') (hv : VR ρ v v') : ∀ {i : Nat} {x : MapEntry}, l[i]? = some x → ERs ρ (l.set i { x with key := k, val := v }) (m.modify i fun e => { e with key := k', val := v' }) := by
  induction h with
  | nil => intro i x hx; simp at hx
  | cons a b as bs h1 h2 h3 t ih =>
    intro i x hx
    cases i with
    | zero => simp at hx; subst hx; exact .cons _ _ _ _ hk hv h3 t
    | succ i => simp at hx; exact .cons _ _ _ _ h1 h2 h3 (ih hx)

theorem keyAt_scalar {P : Program} {key : TypeId} {k : Value} {es : Array MapEntry} {r : Option (Nat × Value)} (h : keyAt P key k es = some r) : scalarV k = true ∧ ∀ e ∈ es.toList, scalarV e.key = true := by
  unfold keyAt at h
  cases hc : (scalarV k && es.toList.all fun e => scalarV e.key) with
  | false => rw [hc] at h; cases h
  | true =>
    rw [Bool.and_eq_true] at hc
    exact ⟨hc.1, fun e he => List.all_eq_true.1 hc.2 e he⟩

theorem stays_pure {P : Program} {o n k : Value} (h : pureRun P (Instr.keyThatStays o n) = some k) : k = n := by
  unfold Instr.keyThatStays at h
  split at h
  · exact (Option.some.inj h).symm
  · cases h

theorem mapUpdateK_run {C : Ctx} {ρ : Env} {w : AW} {w' : World} (hfi : Fine C.good) (hw : WR C ρ w w') {t key el : TypeId} (ht : C.P.underlying t = some (.map key el)) {m k v m' k' v' : Value} (hm : VR ρ m m') (hk : VR ρ k k') (hv : VR ρ v v') {K : VK}
    (h : C.good (mapUpdateK C.P C.G key m k v w K)) : ∃ w2 w2', (Instr.mapUpdate t m' k' v').run C.P w' = .ok () w2' ∧ WR C ρ w2 w2' ∧ C.good (K undef w2) := by
  unfold mapUpdateK at h
  split at h
  · rename_i r
    have hm2 : ∃ en : Ent, ρ r = some en ∧ m' = .map (some en.id) := by cases hm with | mp _ e he => exact ⟨e, he, rfl⟩
    obtain ⟨en, he, rfl⟩ := hm2
    split at h
    · rename_i es clock x hg
      obtain ⟨es', ho', hE⟩ := obj_get hw he hg
      obtain ⟨_, _, _, hex, _⟩ := hw.live _ _ _ hg he
      cases hG : Nat.ble C.G r with
      | false => rw [hG] at h; exact absurd h hfi.bad
      | true =>
        rw [hG] at h
        simp only [cond_true] at h
        have hG := Nat.le_of_ble_eq_true hG
        split at h
        · rename_i i pv u hka hck
          obtain ⟨hks, _, r', hfk, hhit⟩ := keyAt_some hE hka
          obtain rfl := scalar_eq hk hks
          have hck := pureRun_run hck
          split at h
          · rename_i e hei
            split at h
            · rename_i kk hst
              simp only [forceL_eq, AW.putK_eq] at h
              obtain ⟨y, hy, hyk, hyv, hyb⟩ := hE.get hei
              have hsc := (keyAt_scalar hka).2 e (List.mem_of_getElem? hei)
              have hye := scalar_eq hyk hsc
              have hkk := stays_pure hst
              subst hkk
              have hst := pureRun_run hst
              cases r' with
              | none => exact hhit.elim
              | some p' =>
                obtain ⟨i', pv'⟩ := p'
                obtain ⟨rfl, _⟩ := hhit
                have hy' : es'[i]? = some y := by simpa using hy
                refine ⟨_, _, ?_, hw.write hg he hG (b1 := ⟨.map ⟨es.toList.set i { e with key := kk, val := v }⟩ clock, x⟩) (o1 := .map (es'.modify i fun e => { e with key := kk, val := v' }) clock) ⟨_, rfl, ?_⟩ hex, h⟩
                · simp only [Instr.mapUpdate, Sem.run_bind, run_underlying ht, Result.andThen_ok, run_getObj_map ho', hck, hfk, hy', Option.map_some, Option.getD_some, hye, hst, run_setMap ho']
                · rw [Array.toList_modify]
                  exact hE.modify hk hv hei
            · exact absurd h hfi.bad
          · exact absurd h hfi.bad
        · rename_i u hka hck
          simp only [forceL_eq, AW.putK_eq] at h
          obtain ⟨hks, _, r', hfk, hhit⟩ := keyAt_some hE hka
          obtain rfl := scalar_eq hk hks
          have hck := pureRun_run hck
          cases r' with
          | some p => exact hhit.elim
          | none =>
            refine ⟨_, _, ?_, hw.write hg he hG (b1 := ⟨.map ⟨es.toList ++ [{ key := k', val := v, born := clock }]⟩ (clock + 1), x⟩) (o1 := .map (es'.push { key := k', val := v', born := clock }) (clock + 1)) ⟨_, rfl, ?_⟩ hex, h⟩
            · simp only [Instr.mapUpdate, Sem.run_bind, run_underlying ht, Result.andThen_ok, run_getObj_map ho', hck, hfk, run_setMap ho']
            · rw [Array.toList_push]
              exact hE.snoc hk hv rfl
        · exact absurd h hfi.bad
    · exact absurd h hfi.bad
  · exact absurd h hfi.bad

theorem rangeK_run {C : Ctx} {ρ : Env} {w : AW} {w' : World} (hfi : Fine C.good) (hw : WR C ρ w w') {t key el : TypeId} (ht : C.P.underlying t = some (.map key el)) {m m' : Value} (hm : VR ρ m m') {K : VK}
    (h : C.good (rangeK m w K)) : Gets C ρ w' (Instr.range t m') K := by
  unfold rangeK at h
  split at h
  · obtain rfl : m' = .map none := by cases hm; rfl
    obtain ⟨hlt, hk⟩ := pushK_good hfi h
    refine ⟨_, .pointer (some ⟨w'.heap.size, 0, none⟩), _, _, _, ?_, Env.le_ext _ (hw.top _ (Nat.le_refl _)), .ptr_new Env.ext_same, hw.push ⟨.mapIter none 0 #[] 0, true⟩ (.mapIter none 0 #[] 0) 0 (fun _ => rfl) hlt ⟨none, rfl, rfl⟩, hk⟩
    simp only [Instr.range, Sem.run_bind, run_underlying ht, Result.andThen_ok]
    rfl
  · rename_i r
    have hm2 : ∃ en : Ent, ρ r = some en ∧ m' = .map (some en.id) := by cases hm with | mp _ e he => exact ⟨e, he, rfl⟩
    obtain ⟨en, he, rfl⟩ := hm2
    split at h
    · rename_i es clock x hg
      obtain ⟨es', ho', hE⟩ := obj_get hw he hg
      obtain ⟨hlt, hk⟩ := pushK_good hfi h
      refine ⟨_, .pointer (some ⟨w'.heap.size, 0, none⟩), _, _, _, ?_, Env.le_ext _ (hw.top _ (Nat.le_refl _)), .ptr_new Env.ext_same, hw.push ⟨.mapIter (some r) clock #[] clock, true⟩ (.mapIter (some en.id) clock #[] clock) 0 (fun _ => rfl) hlt ⟨_, rfl, en, he, rfl⟩, hk⟩
      simp only [Instr.range, Sem.run_bind, run_underlying ht, Result.andThen_ok, run_getObj_map ho']
      rfl
    · exact absurd h hfi.bad
  · exact absurd h hfi.bad

theorem run_getObj_iter {P : Program} {r : Nat} {m : Option Nat} {a : Nat} {b : Array Nat} {k : Nat} {w : World} (h : w.heap[r]? = some (.mapIter m a b k)) : (Go.getObj r).run P w = .ok (.mapIter m a b k) w := by
  simp [Go.getObj, Sem.run, h]

theorem iter_none {C : Ctx} {ρ : Env} {w : AW} {w' : World} (hw : WR C ρ w w') {r : Nat} {en : Ent} (he : ρ r = some en) {a : Nat} {b : Array Nat} {k : Nat} {x : Bool} (hg : w.get r = some ⟨.mapIter none a b k, x⟩) :
    w'.heap[en.id]? = some (.mapIter none a b k) := by
  obtain ⟨o', ho', hor, _⟩ := hw.live _ _ _ hg he
  obtain ⟨m', rfl, h⟩ := hor
  simp only at h
  subst h
  exact ho'

theorem iter_some {C : Ctx} {ρ : Env} {w : AW} {w' : World} (hw : WR C ρ w w') {r : Nat} {en : Ent} (he : ρ r = some en) {m : Nat} {a : Nat} {b : Array Nat} {k : Nat} {x : Bool} (hg : w.get r = some ⟨.mapIter (some m) a b k, x⟩) :
    ∃ e, w'.heap[en.id]? = some (.mapIter (some e.id) a b k) ∧ ρ m = some e := by
  obtain ⟨o', ho', hor, _⟩ := hw.live _ _ _ hg he
  obtain ⟨m', rfl, e, he, rfl⟩ := hor
  exact ⟨e, ho', he⟩

theorem ERs.find {ρ : Env} {l m : List MapEntry} (h : ERs ρ l m) (p : Nat → Bool) : ∀ {x : MapEntry}, l.find? (fun e => p e.born) = some x → ∃ y, m.find? (fun e => p e.born) = some y ∧ VR ρ x.key y.key ∧ VR ρ x.val y.val := by
  induction h with
  | nil => intro x hx; cases hx
  | cons a b as bs h1 h2 h3 t ih =>
    intro x hx
    rw [List.find?_cons] at hx ⊢
    rw [← h3]
    cases hp : p a.born with
    | true => rw [hp] at hx; cases hx; exact ⟨b, rfl, h1, h2⟩
    | false => rw [hp] at hx; exact ih hx

theorem entryF_run {C : Ctx} {ρ : Env} {w : AW} {w' : World} (hw : WR C ρ w w') {it it' v : Value} (hit : VR ρ it it') (h : entryF w it = some v) : ∃ v', (Instr.entry it').run C.P w' = .ok v' w' ∧ VR ρ v v' := by
  unfold entryF at h
  split at h
  · rename_i r
    obtain ⟨b, rfl, en, he, rfl⟩ := hit.ptr_inv
    split at h
    · rename_i m since seen stepped x hg
      split at h
      · rename_i es clock y stamp hg2 hlast
        obtain ⟨en2, ho', he2⟩ := iter_some hw he hg
        obtain ⟨es', ho2, hE⟩ := obj_get hw he2 hg2
        cases hc : Nat.beq clock stepped with
        | false => rw [hc] at h; cases h
        | true =>
          rw [hc] at h
          simp only [cond_true, orElse] at h
          obtain rfl : clock = stepped := nat_beq hc
          cases hf : es.toList.find? (fun e => Nat.beq e.born stamp) with
          | none => rw [hf] at h; cases h
          | some e =>
            rw [hf] at h
            cases h
            obtain ⟨e', hf', h1, h2⟩ := hE.find (fun n => Nat.beq n stamp) hf
            refine ⟨.tuple #[e'.key, e'.val], ?_, .tuple _ _ (.cons _ _ _ _ h1 (.cons _ _ _ _ h2 .nil))⟩
            have hb : seen.back? = some stamp := by rw [← Array.getLast?_toList]; exact hlast
            have hf2 : es'.find? (fun e => e.born == stamp) = some e' := by
              rw [← Array.find?_toList]
              have : (fun e : MapEntry => e.born == stamp) = fun e => Nat.beq e.born stamp := by
                funext e
                cases hq : Nat.beq e.born stamp with
                | true => simp [nat_beq hq]
                | false => simp; intro hh; rw [hh] at hq; simp at hq
              rw [this]
              exact hf'
            simp only [Instr.entry, Sem.run_bind, run_getObj_iter ho', Result.andThen_ok, hb, run_getObj_map ho2, bne_self_eq_false, Bool.false_eq_true, if_false, hf2]
            rfl
      · cases h
    · cases h
  · cases h

theorem ERs.filter {ρ : Env} {l m : List MapEntry} (h : ERs ρ l m) (p : Nat → Bool) : ERs ρ (l.filter fun e => p e.born) (m.filter fun e => p e.born) := by
  induction h with
  | nil => exact .nil
  | cons a b as bs h1 h2 h3 t ih =>
    rw [List.filter_cons, List.filter_cons, ← h3]
    split
    · exact .cons _ _ _ _ h1 h2 h3 ih
    · exact ih

theorem ERs.mem {ρ : Env} {l m : List MapEntry} (h : ERs ρ l m) {y : MapEntry} (hy : y ∈ m) : ∃ x ∈ l, VR ρ x.key y.key ∧ VR ρ x.val y.val ∧ x.born = y.born := by
  induction h with
  | nil => cases hy
  | cons a b as bs h1 h2 h3 t ih =>
    cases hy with
    | head => exact ⟨a, by simp, h1, h2, h3⟩
    | tail _ hy => obtain ⟨x, hx, r⟩ := ih hy; exact ⟨x, by simp [hx], r⟩

theorem stampIn_eq (l : List Nat) (n : Nat) : stampIn l n = l.contains n := by
  induction l with
  | nil => rfl
  | cons a l ih =>
    have ih : (l.any fun m => Nat.beq m n) = l.contains n := ih
    show (Nat.beq a n || l.any fun m => Nat.beq m n) = _
    rw [ih, List.contains_cons]
    congr 1
    by_cases h : a = n
    · subst h; simp
    · have : Nat.beq a n = false := by cases hq : Nat.beq a n with | false => rfl | true => exact absurd (nat_beq hq) h
      rw [this]
      symm
      simpa using fun hh => h hh.symm

theorem choose_next {C : Ctx} {ρ : Env} {w : AW} {w' : World} (hw : WR C ρ w w') (n : Nat) (hn : 0 < n) : ∃ i w1, (Go.choose (.mapNext n)).run C.P w' = .ok i w1 ∧ i < n ∧ WR C ρ w w1 ∧ w1.heap = w'.heap := by
  by_cases h : n ≤ 1
  · refine ⟨0, w', ?_, hn, hw, rfl⟩
    simp [Go.choose, Sem.run, Question.forced, h]
  · refine ⟨w'.tape w'.drawn (.mapNext n) % n, { w' with drawn := w'.drawn + 1 }, ?_, Nat.mod_lt _ hn, hw.drawn _, rfl⟩
    simp [Go.choose, Sem.run, Question.forced, h, Question.cut]

theorem nextK_run {C : Ctx} {ρ : Env} {w : AW} {w' : World} (hfi : Fine C.good) (hw : WR C ρ w w') {it it' : Value} (hit : VR ρ it it') {ty : TypeId} {K : VK} (h : C.good (nextK C.G it w K)) : Gets C ρ w' (Instr.next it' false ty) K := by
  unfold nextK at h
  split at h
  · rename_i r
    obtain ⟨b, rfl, en, he, rfl⟩ := hit.ptr_inv
    split at h
    · rename_i a bb k x hg
      have ho' := iter_none hw he hg
      refine ⟨_, .tuple #[.bool false], ρ, w, w', ?_, Env.le.refl _, .tuple _ _ (.cons _ _ _ _ (.bool _) .nil), hw, h⟩
      simp only [Instr.next, Sem.run_bind, run_getObj_iter ho', Result.andThen_ok]
      rfl
    · rename_i m since seen last x hg
      split at h
      · rename_i es clock y hg2
        obtain ⟨en2, ho', he2⟩ := iter_some hw he hg
        obtain ⟨es', ho2, hE⟩ := obj_get hw he2 hg2
        cases hc : (Nat.ble C.G r && (es.toList.all fun e => Nat.blt e.born since && Nat.blt e.born last)) with
        | false => rw [hc] at h; exact absurd h hfi.bad
        | true =>
          rw [hc] at h
          simp only [cond_true] at h
          rw [Bool.and_eq_true] at hc
          have hG := Nat.le_of_ble_eq_true hc.1
          have hall : ∀ e ∈ es.toList, e.born < since ∧ e.born < last := by
            intro e hm
            have := List.all_eq_true.1 hc.2 e hm
            rw [Bool.and_eq_true] at this
            exact ⟨blt_iff.1 this.1, blt_iff.1 this.2⟩
          have hall' : ∀ e ∈ es'.toList, e.born < since ∧ e.born < last := by
            intro e hm
            obtain ⟨x, hx, _, _, hb⟩ := hE.mem hm
            rw [← hb]
            exact hall x hx
          have hL := hE.filter (fun n => !stampIn seen.toList n)
          have hcont : (fun e : MapEntry => !stampIn seen.toList e.born) = fun e => !seen.contains e.born := by
            funext e
            rw [stampIn_eq]
            simp
          generalize hleft : (es'.filter fun e => !seen.contains e.born) = left
          have hleft2 : es'.toList.filter (fun e => !stampIn seen.toList e.born) = left.toList := by
            rw [hcont, ← hleft, Array.toList_filter]
          rw [hleft2] at hL
          have hold : left.filter (fun e => decide (e.born < since)) = left := by
            rw [← hleft]
            apply Array.toList_inj.1
            rw [Array.toList_filter, Array.toList_filter]
            apply List.filter_eq_self.2
            intro e he
            simpa using (hall' e (List.mem_filter.1 he).1).1
          have hnew : left.filter (fun e => decide (e.born ≥ since)) = #[] := by
            rw [← hleft]
            apply Array.toList_inj.1
            rw [Array.toList_filter, Array.toList_filter]
            apply List.filter_eq_nil_iff.2
            intro e he
            have := (hall' e (List.mem_filter.1 he).1).1
            simpa using this
          have hbadc : (!seen.isEmpty && !es'.isEmpty && es'.all (fun e => decide (e.born ≥ last))) = false := by
            cases hem : es'.isEmpty with
            | true => simp
            | false =>
              have : es'.all (fun e => decide (e.born ≥ last)) = false := by
                have hne : es'.toList ≠ [] := by
                  intro hh
                  have : es' = #[] := Array.toList_inj.1 hh
                  rw [this] at hem
                  simp at hem
                obtain ⟨e0, l0, hl0⟩ := List.exists_cons_of_ne_nil hne
                have h0 := hall' e0 (by rw [hl0]; simp)
                cases hq : es'.all (fun e => decide (e.born ≥ last)) with
                | false => rfl
                | true =>
                  rw [← Array.all_toList, hl0] at hq
                  simp at hq
                  omega
              rw [this, Bool.and_false]
          generalize hoa : es.toList.filter (fun e => !stampIn seen.toList e.born) = oa at h hL
          cases oa with
          | nil =>
            cases hL' : left.toList with
            | cons x l => rw [hL'] at hL; cases hL
            | nil =>
              obtain rfl : left = #[] := Array.toList_inj.1 hL'
              simp only at h
              refine ⟨_, .tuple #[.bool false], ρ, w, w', ?_, Env.le.refl _, .tuple _ _ (.cons _ _ _ _ (.bool _) .nil), hw, h⟩
              have hcand : ((if (#[] : Array MapEntry).isEmpty = true then #[none] else #[]) ++ (#[] ++ #[] : Array MapEntry).map some : Array (Option MapEntry)) = #[none] := by simp
              have hch : (Go.choose (.mapNext (#[none] : Array (Option MapEntry)).size)).run C.P w' = .ok 0 w' := by simp [Go.choose, Sem.run, Question.forced]
              simp only [Instr.next, Sem.run_bind, run_getObj_iter ho', run_getObj_map ho2, Result.andThen_ok, hbadc, Bool.false_eq_true, if_false, hleft, hold, hnew, hcand, hch]
              rfl
          | cons a0 l0 =>
            have hsz : 0 < left.size := by
              cases hL' : left.toList with
              | nil => rw [hL'] at hL; cases hL
              | cons x l => rw [← Array.length_toList, hL']; simp
            obtain ⟨i, w1, hch, hi, hw1, hheap⟩ := choose_next hw left.size hsz
            have hmem : left[i] ∈ left.toList := by simp
            obtain ⟨e, hein, hek, hev, heb⟩ := hL.mem hmem
            have hge := hfi.all h e hein
            simp only [AW.putK_eq] at hge
            obtain ⟨_, _, _, hex, _⟩ := hw.live _ _ _ hg he
            refine ⟨_, .tuple #[.bool true, left[i].key, left[i].val], ρ, _, _, ?_, Env.le.refl _, .tuple _ _ (.cons _ _ _ _ (.bool _) (.cons _ _ _ _ hek (.cons _ _ _ _ hev .nil))),
              hw1.write hg he hG (b1 := ⟨.mapIter (some m) since ⟨seen.toList ++ [e.born]⟩ clock, x⟩) (o1 := .mapIter (some en2.id) since (seen.push left[i].born) clock) ⟨_, ?_, en2, he2, rfl⟩ hex, hge⟩
            · have hne : left.isEmpty = false := by simpa using (by intro hh; subst hh; simp at hsz : left ≠ #[])
              have hcand : (#[] ++ (left ++ #[]).map some : Array (Option MapEntry)) = left.map some := by simp
              have hsize : (left.map some).size = left.size := by simp
              have hget : (left.map some)[i]? = some (some left[i]) := by simp [hi]
              have ho1 : w1.heap[en.id]? = some (.mapIter (some en2.id) since seen last) := by rw [hheap]; exact ho'
              simp only [Instr.next, Sem.run_bind, run_getObj_iter ho', run_getObj_map ho2, Result.andThen_ok, hbadc, Bool.false_eq_true, if_false, hleft, hold, hnew, hne, hcand, hsize, hch, hget, run_setIter ho1]
              rfl
            · rw [← heb]
              congr 1
              apply Array.toList_inj.1
              simp
      · exact absurd h hfi.bad
    · exact absurd h hfi.bad
  · exact absurd h hfi.bad
end Go.Ab
