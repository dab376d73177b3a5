/- The quiet operations: what the evaluator answers for one is what the model's run of it gives. -/
import Derived.Test.YtcjdjklggnjlbaaDoorEvG
namespace Go.Ab
open Go.RowKit

/-- the operation gives a value, at whatever world (or at this one, if it reads memory), and leaves the world alone -/
def Gives (C : Ctx) (rd : Bool) (w' : World) (s : Sem Value) (v' : Value) : Prop := ∀ w2, (rd = false ∨ w2 = w') → s.run C.P w2 = .ok v' w2

theorem val_run {P : Program} {s : Sem Value} {v : Value} {w : World} (h : s.run P w = .ok v w) : (do pure (.value (← s)) : Sem Next).run P w = .ok (.value v) w := by
  rw [Sem.run_bind, h]; rfl

theorem gives_run {C : Ctx} {rd : Bool} {w' : World} {s : Sem Value} {v : Value} (h : Gives C rd w' s v) : ∀ w2, (rd = false ∨ w2 = w') → (do pure (.value (← s)) : Sem Next).run C.P w2 = .ok (.value v) w2 :=
  fun w2 h2 => val_run (h w2 h2)

def OV (ρ : Env) (d : Nat) (a : AA) (e : Operand → Value) (x : Operand) : Prop := VR ρ ((opd d x).run a) (e x)

theorem OVs {ρ : Env} {d : Nat} {a : AA} {e : Operand → Value} {l : List Operand} (h : ∀ x ∈ l, OV ρ d a e x) : VRs ρ (l.map fun y => (opd d y).run a) (l.map e) := by
  induction l with
  | nil => exact .nil
  | cons x l ih => exact .cons _ _ _ _ (h x (by simp)) (ih fun y hy => h y (by simp [hy]))

theorem OPs {ρ : Env} {d : Nat} {a : AA} {e : Operand → Value} {l : List (Nat × Operand)} (h : ∀ p ∈ l, OV ρ d a e p.2) : PRs ρ (l.map fun p => (p.1, (opd d p.2).run a)) (l.map fun p => (p.1, e p.2)) := by
  induction l with
  | nil => exact .nil
  | cons x l ih => exact .cons _ _ _ _ _ (h x (by simp)) (ih fun y hy => h y (by simp [hy]))

theorem OVo {ρ : Env} {d : Nat} {a : AA} {e : Operand → Value} {x : Option Operand} (h : ∀ y, x = some y → OV ρ d a e y) : VRo ρ (x.map fun y => (opd d y).run a) (x.map e) := by
  cases x with
  | none => trivial
  | some y => exact h y rfl

theorem lenB_run {C : Ctx} {ρ : Env} {w : AW} {w' : World} (hw : WR C ρ w w') {t : TypeId} {x x' v : Value} (hx : VR ρ x x') (h : (lenB C.P t).run x w = some v) (ty : TypeId) (ts : Array TypeId) (hts : ts[0]? = some t) :
    ∃ v', Gives C (mapType C.P t) w' (Builtin.len_ ts ty #[x']) v' ∧ VR ρ v v' := by
  unfold lenB at h
  split at h
  · rename_i ht
    simp only [Box.run_mk] at h
    split at h
    · cases h
      obtain rfl := hx.string_inv
      refine ⟨_, fun w2 _ => ?_, .int _ _⟩
      have : (#[Value.string ‹ByteArray›])[0]? = some (Value.string ‹ByteArray›) := rfl
      simp only [Builtin.len_, hts, this, Sem.run_bind, run_underlying ht, Result.andThen_ok]
      rfl
    · cases h
  · rename_i e ht
    simp only [Box.run_mk] at h
    split at h
    · cases h
      rename_i b n c
      have : ∃ b' c', x' = .slice b' n c' := by cases hx <;> exact ⟨_, _, rfl⟩
      obtain ⟨b', c', rfl⟩ := this
      refine ⟨_, fun w2 _ => ?_, .int _ _⟩
      simp [Builtin.len_, hts, run_underlying ht, goInt]
    · cases h
  · rename_i k e ht
    simp only [Box.run_mk] at h
    split at h
    · cases h
      cases hx
      refine ⟨_, fun w2 _ => ?_, .int _ _⟩
      simp [Builtin.len_, hts, run_underlying ht, goInt]
    · rename_i r
      split at h
      · rename_i es cl fl hg
        cases h
        have hE : entriesOf w (.map (some r)) = some es := by simp [entriesOf, hg]
        obtain ⟨es', hE', hc⟩ := entriesOf_some hw hx hE
        rcases hc with ⟨rfl, rfl⟩ | ⟨q, clock, rfl, ho⟩
        · cases hx
        · refine ⟨_, fun w2 h2 => ?_, .int _ _⟩
          have hm : mapType C.P t = true := by simp [mapType, ht]
          rw [hm] at h2
          rcases h2 with h2 | rfl
          · cases h2
          · have hl : es.size = es'.size := by have := hE'.length; simpa using this
            simp [Builtin.len_, hts, run_underlying ht, goInt, run_getObj_map ho, hl]
      · cases h
    · cases h
  · simp only [Box.run_mk] at h; cases h

theorem onIntV {ρ : Env} {v u r : Value} {f : IntKind → Int → Option Value} (h : onInt v f = some r) (hv : VR ρ v u) : ∃ k n, v = .int k n ∧ u = .int k n ∧ f k n = some r := by
  obtain ⟨k, n, rfl, h⟩ := onInt_some h
  exact ⟨k, n, rfl, hv.int_inv, h⟩

def rdOf (C : Ctx) (o : Op) : Bool := reads C.P o

/-- what is to be shown of each quiet operation -/
def QG (C : Ctx) (ρ : Env) (w' : World) (e : Operand → Value) (o : Oper) (v : Value) : Prop :=
  ∃ v', (∀ w2, (reads C.P o.op = false ∨ w2 = w') → (execOp e o).run C.P w2 = .ok (.value v') w2) ∧ VR ρ v v'

theorem QG.of {C : Ctx} {ρ : Env} {w' : World} {e : Operand → Value} {o : Oper} {v v' : Value} {s : Sem Value} (he : execOp e o = (do pure (.value (← s)))) (h : ∀ w2, (reads C.P o.op = false ∨ w2 = w') → s.run C.P w2 = .ok v' w2) (hv : VR ρ v v') : QG C ρ w' e o v :=
  ⟨v', fun w2 h2 => by rw [he]; exact val_run (h w2 h2), hv⟩

theorem run_asBool {P : Program} (b : Bool) (w : World) : (asBool (.bool b)).run P w = .ok b w := rfl

theorem binOp_quiet {C : Ctx} {ρ : Env} {op : BinOp} {t : TypeId} {x y : Operand} {a : AA} {d : Nat} {e : Operand → Value} (hx : OV ρ d a e x) (hy : OV ρ d a e y) {v : Value}
    (h : @Option.rec Value (fun _ => Option Value)
        (cond (scalarV ((opd d x).run a) && scalarV ((opd d y).run a)) (pureBin C.P op t x y ((opd d x).run a) ((opd d y).run a)) none)
        some ((binF C.P op t (isConst x) (isConst y)).run ((opd d x).run a) ((opd d y).run a)) = some v) :
    (∀ w, (do eqGuard op t x y (e x) (e y); binOp op t (e x) (e y)).run C.P w = .ok v w) ∧ VR ρ v v := by
  cases hb : (binF C.P op t (isConst x) (isConst y)).run ((opd d x).run a) ((opd d y).run a) with
  | some r =>
    rw [hb] at h
    cases h
    exact ⟨fun w => (binF_run hb hx hy w).1, (binF_run hb hx hy default).2⟩
  | none =>
    rw [hb] at h
    simp only at h
    cases hs : (scalarV ((opd d x).run a) && scalarV ((opd d y).run a)) with
    | false => rw [hs] at h; cases h
    | true =>
      rw [hs] at h
      simp only [cond_true] at h
      rw [Bool.and_eq_true] at hs
      have e1 : e x = (opd d x).run a := scalar_eq hx hs.1
      have e2 : e y = (opd d y).run a := scalar_eq hy hs.2
      rw [e1, e2]
      unfold pureBin at h
      split at h
      · rename_i r hr
        cases hc : constOk 4 r with
        | false => rw [hc] at h; cases h
        | true =>
          rw [hc] at h
          cases h
          exact ⟨fun w => pureRun_run hr w, VR.const 4 _ hc⟩
      · cases h

theorem run_makeInterface {P : Program} {t : TypeId} {d : TypeDesc} (h : P.underlying t = some d) (hd : ∀ m, d ≠ .interface m) (x : Value) (w : World) : (Instr.makeInterface t x).run P w = .ok (.iface t x) w := by
  simp only [Instr.makeInterface, Sem.run_bind, run_underlying h, Result.andThen_ok]
  cases d <;> first | rfl | exact absurd rfl (hd _)

theorem run_convInt {P : Program} {s t : TypeId} {k k' : IntKind} (hs : P.underlying s = some (.int k')) (ht : P.underlying t = some (.int k)) (j : IntKind) (n : Int) (w : World) :
    (convert s t (.int j n)).run P w = .ok (.int k (k.wrap n)) w := by
  simp only [convert, Sem.run_bind, run_underlying hs, run_underlying ht, Result.andThen_ok]
  rfl

theorem run_convStr {P : Program} {s t : TypeId} (hs : P.underlying s = some .string) (ht : P.underlying t = some .string) (b : ByteArray) (w : World) :
    (convert s t (.string b)).run P w = .ok (.string b) w := by
  simp only [convert, Sem.run_bind, run_underlying hs, run_underlying ht, Result.andThen_ok]
  rfl

theorem quiet_run {C : Ctx} {ρ : Env} {w : AW} {w' : World} (hw : WR C ρ w w') {d : Nat} {o : Oper} {q : Box QF} (hq : quiet C.P d o.op = some q) {a : AA} {e : Operand → Value}
    (hv : ∀ x ∈ o.op.operands, OV ρ d a e x) {v : Value} (h : q.run a w = some v) : QG C ρ w' e o v := by
  obtain ⟨dst, op, ty, needs, gd, rest⟩ := o
  simp only at hq hv
  cases op with
  | move x => cases hq; cases h; exact ⟨_, fun w2 _ => rfl, hv x (by simp [Op.operands])⟩
  | assign x => cases hq; cases h; exact ⟨_, fun w2 _ => rfl, hv x (by simp [Op.operands])⟩
  | pick c x y =>
    cases hq
    simp only [Box.run_mk] at h
    split at h
    · rename_i b hb
      have hc : OV ρ d a e c := hv c (by simp [Op.operands])
      have hx : OV ρ d a e x := hv x (by simp [Op.operands])
      have hy : OV ρ d a e y := hv y (by simp [Op.operands])
      unfold OV at hc
      rw [hb] at hc
      have hc := hc.bool_inv
      cases h
      refine ⟨if b then e x else e y, fun w2 _ => ?_, ?_⟩
      · simp only [execOp, hc]
        cases b <;> rfl
      · cases b
        · exact hy
        · exact hx
    · cases h
  | load t x =>
    cases hq
    have hx : OV ρ d a e x := hv x (by simp [Op.operands])
    obtain ⟨p, hp, h1⟩ := addrF_some h
    unfold OV at hx
    rw [hp] at hx
    obtain ⟨b, hb, hab⟩ := hx.ptr_inv
    obtain ⟨u, hu, hr⟩ := loadF_sound hw hab h1
    refine QG.of (s := Instr.loadAt t (e x)) rfl (fun w2 h2 => ?_) hr
    rcases h2 with h2 | rfl
    · cases h2
    · rw [hb]; exact hu
  | nilCheck x =>
    cases hq
    have hx : OV ρ d a e x := hv x (by simp [Op.operands])
    unfold OV at hx
    simp only [Box.run_mk] at h
    split at h
    · rename_i p hp
      cases h
      rw [hp] at hx
      obtain ⟨b, hb, hab⟩ := hx.ptr_inv
      exact ⟨_, fun w2 _ => by simp only [execOp, hb]; rfl, .ptr _ _ hab⟩
    · rename_i g f c hp
      cases h
      rw [hp] at hx
      generalize hz : e x = z at hx
      cases hx with
      | func _ _ f' _ c' h1 h2 h3 => exact ⟨_, fun w2 _ => by simp only [execOp, hz]; rfl, .func _ _ _ _ _ h1 h2 h3⟩
    · cases h
  | binOp op t x y g =>
    cases hq
    have hx : OV ρ d a e x := hv x (by simp [Op.operands])
    have hy : OV ρ d a e y := hv y (by simp [Op.operands])
    obtain ⟨h1, h2⟩ := binOp_quiet hx hy h
    exact QG.of (s := do eqGuard op t x y (e x) (e y); binOp op t (e x) (e y)) rfl (fun w2 _ => h1 w2) h2
  | unOp op t x =>
    cases op with
    | not =>
      cases hq
      have hx : OV ρ d a e x := hv x (by simp [Op.operands])
      unfold OV at hx
      simp only [Box.run_mk] at h
      split at h
      · rename_i b hb
        rw [hb] at hx
        cases h
        exact QG.of (s := Op.unary .not (e x)) rfl (fun w2 _ => by rw [hx.bool_inv]; rfl) (.bool _)
      · cases h
    | neg =>
      cases hq
      have hx : OV ρ d a e x := hv x (by simp [Op.operands])
      obtain ⟨k, n, -, h2, h3⟩ := onIntV h hx
      cases h3
      exact QG.of (s := Op.unary .neg (e x)) rfl (fun w2 _ => by rw [h2, fSub_eq]; rfl) (.int _ _)
    | plus => cases hq
    | xor =>
      cases hq
      have hx : OV ρ d a e x := hv x (by simp [Op.operands])
      obtain ⟨k, n, -, h2, h3⟩ := onIntV h hx
      cases h3
      exact QG.of (s := Op.unary .xor (e x)) rfl (fun w2 _ => by rw [h2, fXor_eq]; rfl) (.int _ _)
  | build t parts =>
    simp only [quiet] at hq
    split at hq
    · rename_i zero places hp
      cases hq
      simp only [Box.run_mk, orElse] at h
      cases hf : Instr.fill (placeOf places) zero (parts.toList.map fun p => (p.1, (opd d p.2).run a)) with
      | none => rw [hf] at h; cases h
      | some c =>
        rw [hf] at h
        cases h
        have hp2 : PRs ρ (parts.toList.map fun p => (p.1, (opd d p.2).run a)) (parts.map fun p => (p.1, e p.2)).toList := by
          rw [Array.toList_map]
          exact OPs fun p hp => hv _ (by simp [Op.operands]; exact ⟨p.1, by simpa using hp⟩)
        obtain ⟨r', hr, hc⟩ := build_run hp hp2 hf
        exact QG.of (s := Instr.build t (parts.map fun (i, x) => (i, e x))) rfl (fun w2 _ => hr w2) (.agg _ _ hc)
    · cases hq
  | lookup t x ix ok =>
    have hx : OV ρ d a e x := hv x (by simp [Op.operands])
    have hi : OV ρ d a e ix := hv ix (by simp [Op.operands])
    simp only [quiet] at hq
    split at hq
    · rename_i key elem ht
      split at hq
      · rename_i inf hinf
        split at hq
        · rename_i z hz
          cases hc : constOk 4 z with
          | false => rw [hc] at hq; cases hq
          | true =>
            rw [hc] at hq
            cases hq
            obtain ⟨v', h1, h2⟩ := lookupF_run hw ht hinf hz hc hx hi h
            refine QG.of (s := Instr.lookup t (e x) (e ix) ok) rfl (fun w2 hw2 => ?_) h2
            rcases hw2 with hw2 | rfl
            · cases hw2
            · exact h1
        · cases hq
      · cases hq
    · cases hq
  | convert s t x =>
    have hx : OV ρ d a e x := hv x (by simp [Op.operands])
    simp only [quiet] at hq
    split at hq
    · rename_i k' k hs ht
      cases hq
      obtain ⟨j, n, -, h2, h3⟩ := onIntV h hx
      cases h3
      exact QG.of (s := convert s t (e x)) rfl (fun w2 _ => by rw [h2, run_convInt hs ht, fAdd_eq, Int.add_zero]) (.int _ _)
    · rename_i hs ht
      cases hq
      simp only [Box.run_mk] at h
      split at h
      · rename_i b hb
        cases h
        unfold OV at hx
        rw [hb] at hx
        exact QG.of (s := convert s t (e x)) rfl (fun w2 _ => by rw [hx.string_inv, run_convStr hs ht]) (.string _)
      · cases h
    · cases hq
  | makeInterface t x =>
    have hx : OV ρ d a e x := hv x (by simp [Op.operands])
    simp only [quiet] at hq
    split at hq
    · cases hq
    · cases hq
    · rename_i h1 h2
      cases hq
      cases h
      cases hd : C.P.underlying t with
      | none => exact absurd hd h1
      | some dd => exact QG.of (s := Instr.makeInterface t (e x)) rfl (fun w2 _ => run_makeInterface hd (fun m hm => h2 m (by rw [hd, hm])) _ w2) (.iface _ _ _ hx)
  | makeFunc f first captured =>
    simp only [quiet] at hq
    cases hf : fnFine f with
    | false => rw [hf] at hq; cases hq
    | true =>
      rw [hf] at hq
      cases hq
      cases h
      refine QG.of (s := Instr.makeFunc f (first.map e) (captured.map e)) rfl (fun w2 _ => rfl) (.func _ _ _ _ _ ?_ ?_ ?_)
      · cases f <;> first | trivial | cases hf
      · rw [Array.toList_map, Array.toList_map]
        exact OVs fun x hx => hv x (by simp [Op.operands]; exact .inl (by simpa using hx))
      · rw [Array.toList_map, Array.toList_map]
        exact OVs fun x hx => hv x (by simp [Op.operands]; exact .inr (by simpa using hx))
  | fieldAddr s x i =>
    have hx : OV ρ d a e x := hv x (by simp [Op.operands])
    simp only [quiet] at hq
    split at hq
    · rename_i f hf
      cases hz : Nat.blt 0 (sizeIs C.P f.type) with
      | false => rw [hz] at hq; cases hq
      | true =>
        rw [hz] at hq
        cases hq
        obtain ⟨p, hp, h1⟩ := addrF_some h
        cases h1
        obtain ⟨fs, hu, hfs⟩ := fieldOf_some hf
        obtain ⟨inf, hinf, hne⟩ := sizeIs_pos (blt_iff.1 hz)
        unfold OV at hx
        rw [hp] at hx
        obtain ⟨b, hb, hab⟩ := hx.ptr_inv
        refine QG.of (s := Instr.fieldAt s (e x) i) (v' := .pointer (some (b.add f.offset))) rfl (fun w2 _ => ?_) (.ptr _ _ (hab.add _))
        rw [hb]
        simp [Instr.fieldAt, run_underlying hu, hfs, Instr.sureAddr, fieldPlace, run_sizeOf' hinf, hne]
    · cases hq
  | field s x i =>
    have hx : OV ρ d a e x := hv x (by simp [Op.operands])
    simp only [quiet] at hq
    split at hq
    · rename_i f hf
      cases hq
      obtain ⟨c, hc, h1⟩ := aggF_some h
      obtain ⟨fs, hu, hfs⟩ := fieldOf_some hf
      unfold OV at hx
      rw [hc] at hx
      obtain ⟨c', hc', hcc⟩ := hx.agg_inv
      obtain ⟨u, h2, h3⟩ := partF_sound hcc h1
      refine QG.of (s := Instr.field s (e x) i) rfl (fun w2 _ => ?_) h3
      rw [hc']
      simp [Instr.field, run_underlying hu, hfs, asAgg, h2]
    · cases hq
  | indexAddr t x ix =>
    cases hq
    obtain ⟨v', h1, h2⟩ := indexAddrF_run (C := C) (hv x (by simp [Op.operands])) (hv ix (by simp [Op.operands])) h
    exact QG.of (s := Instr.indexAt t (e x) (e ix)) rfl (fun w2 _ => h1 w2) h2
  | index t x ix =>
    cases hq
    obtain ⟨v', h1, h2⟩ := indexF_run (C := C) (hv x (by simp [Op.operands])) (hv ix (by simp [Op.operands])) h
    exact QG.of (s := Instr.index t (e x) (e ix)) rfl (fun w2 _ => h1 w2) h2
  | extract x i =>
    cases hq
    have hx : OV ρ d a e x := hv x (by simp [Op.operands])
    simp only [Box.run_mk] at h
    split at h
    · rename_i vs hvs
      unfold OV at hx
      rw [hvs] at hx
      obtain ⟨c', hc', hcc⟩ := hx.tuple_inv
      obtain ⟨u, h1, h2⟩ := hcc.get i (v := v) (by simpa using h)
      refine QG.of (s := Instr.extract (e x) i) rfl (fun w2 _ => ?_) h2
      rw [hc']
      have h1 : c'[i]? = some u := by simpa using h1
      simp only [Instr.extract, h1]
      rfl
    · cases h
  | slice t x lo hi mx =>
    cases mx with
    | some m => cases hq
    | none =>
      simp only [quiet] at hq
      cases hz : arrType C.P t with
      | true => rw [hz] at hq; cases hq
      | false =>
        rw [hz] at hq
        cases hq
        obtain ⟨v', h1, h2⟩ := sliceF_run (C := C) (hv x (by simp [Op.operands])) (OVo (x := lo) fun y hy => hv y (by simp [Op.operands, hy])) (OVo (x := hi) fun y hy => hv y (by simp [Op.operands, hy])) h
        exact QG.of (s := Instr.sliceAt t (e x) (lo.map e) (hi.map e) none) rfl (fun w2 _ => h1 w2) h2
  | call c =>
    obtain ⟨callee, args, argTypes⟩ := c
    simp only [quiet] at hq
    split at hq
    · rename_i x t hargs ht
      cases hq
      have ha : args = #[x] := by apply Array.toList_inj.1; rw [hargs]
      subst ha
      obtain ⟨v', h1, h2⟩ := lenB_run hw (hv x (by simp [Op.operands, Call.operands])) h ty argTypes ht
      refine ⟨v', fun w2 hw2 => ?_, h2⟩
      have hr : reads C.P (.call ⟨.builtin .len, #[x], argTypes⟩) = mapType C.P t := by simp only [reads]; rw [ht]
      rw [hr] at hw2
      have hm : (#[x]).map e = #[e x] := by simp
      show (do pure (.value (← Builtin.len_ argTypes ty ((#[x]).map e))) : Sem Next).run C.P w2 = _
      rw [hm]
      exact val_run (h1 w2 hw2)
    · rename_i x l hargs
      cases hq
      have hl : args.map e = ⟨e x :: l.map e⟩ := by apply Array.toList_inj.1; rw [Array.toList_map, hargs]; rfl
      have key : (∀ w2, ((l.map e).foldlM Builtin.max2 (e x)).run C.P w2 = .ok (if l = [] then e x else v) w2) ∧ VR ρ v (if l = [] then e x else v) := by
        by_cases hn : l = []
        · subst hn; cases h; exact ⟨fun w2 => rfl, hv x (by simp [Op.operands, Call.operands, Array.mem_def, hargs])⟩
        · rw [if_neg hn]
          refine fold2_run (fun x y r h => ⟨fun w => (maxF_run h w).1, (maxF_run h default (P := C.P)).2⟩) _ _ _ _ _ (OVs fun y hy => hv y ?_) (hv x ?_) h (by simpa using hn)
          · simp [Op.operands, Call.operands, Array.mem_def, hargs, hy]
          · simp [Op.operands, Call.operands, Array.mem_def, hargs]
      refine ⟨_, fun w2 _ => ?_, key.2⟩
      show (do pure (.value (← Builtin.max_ argTypes ty (args.map e))) : Sem Next).run C.P w2 = _
      rw [hl]
      exact val_run (key.1 w2)
    · rename_i x l hargs
      cases hq
      have hl : args.map e = ⟨e x :: l.map e⟩ := by apply Array.toList_inj.1; rw [Array.toList_map, hargs]; rfl
      have key : (∀ w2, ((l.map e).foldlM Builtin.min2 (e x)).run C.P w2 = .ok (if l = [] then e x else v) w2) ∧ VR ρ v (if l = [] then e x else v) := by
        by_cases hn : l = []
        · subst hn; cases h; exact ⟨fun w2 => rfl, hv x (by simp [Op.operands, Call.operands, Array.mem_def, hargs])⟩
        · rw [if_neg hn]
          refine fold2_run (fun x y r h => ⟨fun w => (minF_run h w).1, (minF_run h default (P := C.P)).2⟩) _ _ _ _ _ (OVs fun y hy => hv y ?_) (hv x ?_) h (by simpa using hn)
          · simp [Op.operands, Call.operands, Array.mem_def, hargs, hy]
          · simp [Op.operands, Call.operands, Array.mem_def, hargs]
      refine ⟨_, fun w2 _ => ?_, key.2⟩
      show (do pure (.value (← Builtin.min_ argTypes ty (args.map e))) : Sem Next).run C.P w2 = _
      rw [hl]
      exact val_run (key.1 w2)
    · cases hq
  | _ => cases hq
end Go.Ab
