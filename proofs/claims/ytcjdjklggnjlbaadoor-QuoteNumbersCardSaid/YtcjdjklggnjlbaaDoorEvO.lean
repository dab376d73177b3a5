/- Operations in program order; code. -/
import Derived.Test.YtcjdjklggnjlbaaDoorEvN
import Derived.Orders
import Derived.LoopN
namespace Go.Ab
open Go.RowKit

def putRight (n : Nat) (dst : Option Tmp) : Bool := match dst with | some t => Nat.blt t n | none => true

/-- what is asked of an operation's text -/
def operRight (G n : Nat) (o : Oper) : Bool := (o.op.operands.toList.all (opOk G n)) && putRight n o.dst

theorem putRight_ok {n : Nat} {dst : Option Tmp} (h : putRight n dst = true) : PutOk n dst := by
  cases dst with
  | none => trivial
  | some t => exact blt_iff.1 h

theorem ov_of {ρ : Env} {G d n : Nat} {a : AA} {a' : Act} (hg : GR G ρ) (h : AAR ρ d n a a') {o : Oper} (ho : operRight G n o = true) : ∀ x ∈ o.op.operands, OV ρ d a a'.eval x := by
  unfold operRight at ho
  rw [Bool.and_eq_true] at ho
  intro x hx
  exact opd_sound hg h (List.all_eq_true.1 ho.1 x (by simpa using hx))

theorem put_ok {G n : Nat} {o : Oper} (ho : operRight G n o = true) : PutOk n o.dst := by
  unfold operRight at ho
  rw [Bool.and_eq_true] at ho
  exact putRight_ok ho.2

theorem putK_eq' (d : Nat) (dst : Option Tmp) (v : Value) (a : AA) (K : AA → Res) : (putK d dst).run v a K = K ((putF d dst).run v a) := by
  cases dst with
  | none => rfl
  | some t => exact T.toK_eq v (path d t) a K

/-- an operation that acts, in a region -/
theorem Out.wp {C : Ctx} {ρ : Env} {w' : World} {o : Oper} {a' : Act} {K : VK} {next : Act → World → Prop} {Q : Exit → Act → World → Prop} (h : Out C ρ w' (execOp a'.eval o) K)
    (hn : ∀ ρ2 v v' w2 w2', Env.le ρ ρ2 → VR ρ2 v v' → WR C ρ2 w2 w2' → C.good (K v w2) → next (a'.put o.dst v') w2') : o.wp C.P a' w' next Q := by
  unfold Oper.wp
  rcases h with ⟨v, v', ρ2, w2, w2', h1, h2, h3, h4, h5⟩ | ⟨w2, w2', h1, h4, h5⟩ | ⟨f, args, h1, h2⟩
  · rw [h1]
    exact hn ρ2 v v' w2 w2' h2 h3 h4 h5
  · rw [h1]
    exact hn ρ undef undef w2 w2' (Env.le.refl _) VR.undef h4 h5
  · rw [h1]
    refine Calls.mono h2 ?_
    rintro en w3' ⟨v', rfl, v, ρ2, w3, q1, q2, q3, q4⟩
    exact hn ρ2 v v' w3 w3' q1 q2 q3 q4

theorem tmp_val {ρ : Env} {G d n : Nat} {a : AA} {a' : Act} (hg : GR G ρ) (h : AAR ρ d n a a') {t : Tmp} (ht : t < n) : ∃ u, a'.tmps[t]? = some u ∧ VR ρ ((opd d (.tmp t)).run a) u := by
  have := opd_sound hg h (x := .tmp t) (blt_iff.2 ht)
  have hlt : t < a'.tmps.size := by rw [h.size]; exact ht
  refine ⟨a'.tmps[t], by simp [hlt], ?_⟩
  have he : a'.eval (.tmp t) = a'.tmps[t] := by simp [Act.eval, hlt]
  rw [he] at this
  exact this

def asB (u : Value) : Option Bool := match u with | .bool b => some b | _ => none

theorem asB_want {ρ : Env} {v u : Value} (h : VR ρ v u) (want : Bool) : (asB u == some want) = isBool v want := by
  cases h <;> rfl

theorem guard_wanted {ρ : Env} {G d n : Nat} {a : AA} {a' : Act} (hg : GR G ρ) (h : AAR ρ d n a a') {ops : Array Oper} {o : Oper} (hall : ∀ o ∈ ops, putRight n o.dst = true) :
    (guardF d ops o = some none → Region.wanted o (yielded ops a'.tmps) = true) ∧
    (∀ t want, guardF d ops o = some (some (t, want)) → Region.wanted o (yielded ops a'.tmps) = isBool ((opd d (.tmp t)).run a) want) := by
  unfold guardF Region.wanted
  cases hgd : o.guard with
  | none => exact ⟨fun _ => rfl, fun t want h => by cases h⟩
  | some p =>
    obtain ⟨j, want⟩ := p
    simp only
    cases hb : (ops[j]?).bind (·.dst) with
    | none => exact ⟨fun h => (by cases h), fun t want h => by cases h⟩
    | some t =>
      refine ⟨fun h => (by cases h), fun t' want' h1 => ?_⟩
      cases h1
      have ht : t < n := by
        cases hj : ops[j]? with
        | none => rw [hj] at hb; cases hb
        | some o1 =>
          rw [hj] at hb
          have hb : o1.dst = some t := hb
          have := hall o1 (Array.mem_of_getElem? hj)
          rw [hb] at this
          exact blt_iff.1 this
      obtain ⟨u, hu, hr⟩ := tmp_val hg h ht
      have hy : yielded ops a'.tmps j = asB u := by
        unfold yielded
        rw [hb]
        simp only [Option.bind_some, hu]
        cases u <;> rfl
      rw [hy]
      exact asB_want hr want

/-- what a piece of code ends in, told of both sides -/
def X.out : X → Exit
  | .normal => .normal
  | .exit id => .exit id
  | .ret => .ret

def QX (C : Ctx) (ρ0 : Env) (d n : Nat) (K : X → AA → AW → Res) : Exit → Act → World → Prop := fun e a' w' =>
  ∃ (x : X) (ρ2 : Env) (a : AA) (w : AW), e = x.out ∧ Env.le ρ0 ρ2 ∧ AAR ρ2 d n a a' ∧ WR C ρ2 w w' ∧ C.good (K x a w)

theorem opsF_run {C : Ctx} (hfi : Fine C.good) {ρ0 : Env} (hg : GR C.G ρ0) {call : CallF} (hcall : CallOk C.P C.G C.B C.w0 call) {ext : Known} (hext : ExtOk C.P ext) {d n : Nat} {ops : Array Oper} (hall : ∀ o ∈ ops, operRight C.G n o = true)
    {K : AA → AW → Res} {Q : Exit → Act → World → Prop} (hQ : ∀ ρ a w a' w', Env.le ρ0 ρ → AAR ρ d n a a' → WR C ρ w w' → C.good (K a w) → Q .normal a' w') :
    ∀ (l : List Oper) (k : Nat), (∀ j, l[j]? = ops[k + j]?) → ∀ (ρ : Env) (a : AA) (w : AW) (a' : Act) (w' : World), Env.le ρ0 ρ → AAR ρ d n a a' → WR C ρ w w' → C.good ((opsF C.P C.G ext d ops l).run call a w K) →
      wpOps C.P ops Q (List.range' k l.length) a' w'
  | [], k, _, ρ, a, w, a', w', h1, h2, h3, h4 => hQ ρ a w a' w' h1 h2 h3 h4
  | o :: l, k, hl, ρ, a, w, a', w', h1, h2, h3, h4 => by
    have ho : ops[k]? = some o := by have := hl 0; simpa using this.symm
    have hoa := hall o (Array.mem_of_getElem? ho)
    have hgρ := hg.mono h1
    have rest := opsF_run hfi hg hcall hext hall hQ l (k + 1) (fun j => by
      have := hl (j + 1)
      rw [List.getElem?_cons_succ] at this
      rw [this]
      congr 1
      omega)
    obtain ⟨hw1, hw2⟩ := guard_wanted hgρ h2 (ops := ops) (o := o) (fun o ho => by have := hall o ho; unfold operRight at this; rw [Bool.and_eq_true] at this; exact this.2)
    have run : ∀ (h : C.good ((operF C.P C.G ext d o).run call a w fun v w => (putK d o.dst).run v a fun a => (opsF C.P C.G ext d ops l).run call a w K)), o.wp C.P a' w' (wpOps C.P ops Q (List.range' (k + 1) l.length)) Q := by
      intro h
      refine Out.wp (operF_run hfi hgρ h3 hcall hext (ov_of hgρ h2 hoa) h) ?_
      intro ρ2 v v' w2 w2' q1 q2 q3 q4
      rw [putK_eq'] at q4
      exact rest ρ2 _ w2 _ w2' (h1.trans q1) ((h2.mono q1).put' (put_ok hoa) q2) q3 q4
    rw [List.length_cons, List.range'_succ]
    simp only [wpOps, ho]
    unfold opsF at h4
    split at h4
    · rename_i hgd
      rw [hw1 hgd]
      exact .inl (run h4)
    · rename_i t want hgd
      rw [hw2 t want hgd]
      simp only [Box.run_mk] at h4
      cases hb : isBool ((opd d (.tmp t)).run a) want with
      | true => rw [hb] at h4; exact .inl (run h4)
      | false =>
        rw [hb] at h4
        simp only [putK_eq'] at h4
        exact rest ρ _ w _ w' h1 (h2.put' (put_ok hoa) VR.undef) h3 h4
    · exact absurd h4 hfi.bad

theorem QX.mono {C : Ctx} {ρ0 ρ1 : Env} {d n : Nat} {K : X → AA → AW → Res} (h : Env.le ρ0 ρ1) {e : Exit} {a' : Act} {w' : World} (k : QX C ρ1 d n K e a' w') : QX C ρ0 d n K e a' w' := by
  obtain ⟨x, ρ2, a, w, h1, h2, h3⟩ := k
  exact ⟨x, ρ2, a, w, h1, h.trans h2, h3⟩

/-- what is asked of a function's text -/
def codeRight (G n : Nat) : Code → Bool
  | .region _ ops _ => ops.toList.all (operRight G n)
  | .seq x y => codeRight G n x && codeRight G n y
  | .cond c x y => opOk G n c && codeRight G n x && codeRight G n y
  | .block _ b => codeRight G n b
  | .loop b => codeRight G n b
  | _ => true

/-- regions whose order is open -/
def DrawOk (C : Ctx) (call : CallF) (ext : Known) (d n : Nat) : Prop :=
  ∀ (id : Nat) (ops : Array Oper), (∀ o ∈ ops, operRight C.G n o = true) → ∀ (K : X → AA → AW → Res) (ρ : Env) (a : AA) (w : AW) (a' : Act) (w' : World), GR C.G ρ → AAR ρ d n a a' → WR C ρ w w' →
    C.good ((drawF C.P C.G ext d ops).run call a w (K .normal)) → (Code.region id ops true).wp C.P (QX C ρ d n K) a' w'

theorem codeF_run {C : Ctx} (hfi : Fine C.good) {call : CallF} (hcall : CallOk C.P C.G C.B C.w0 call) {ext : Known} (hext : ExtOk C.P ext) {d n : Nat} (hdraw : DrawOk C call ext d n) :
    ∀ (c : Code), codeRight C.G n c = true → ∀ (fuel : Nat) (K : X → AA → AW → Res) (ρ : Env) (a : AA) (w : AW) (a' : Act) (w' : World), GR C.G ρ → AAR ρ d n a a' → WR C ρ w w' →
      C.good ((codeF C.P C.G ext d c).run fuel call a w K) → c.wp C.P (QX C ρ d n K) a' w' := by
  intro c
  induction c with
  | skip => intro _ fuel K ρ a w a' w' _ h2 h3 h4; exact wp_skip ⟨.normal, ρ, a, w, rfl, Env.le.refl _, h2, h3, h4⟩
  | region id ops draw =>
    intro hr fuel K ρ a w a' w' h1 h2 h3 h4
    have hr2 : ∀ o ∈ ops, operRight C.G n o = true := fun o ho => List.all_eq_true.1 hr o (by simpa using ho)
    cases draw with
    | true => exact hdraw id ops hr2 K ρ a w a' w' h1 h2 h3 h4
    | false =>
      refine wp_region ?_
      have := opsF_run hfi h1 hcall hext hr2 (K := K .normal) (Q := QX C ρ d n K) (fun ρ2 a w a' w' q1 q2 q3 q4 => ⟨.normal, ρ2, a, w, rfl, q1, q2, q3, q4⟩) ops.toList 0 (fun j => by simp) ρ a w a' w' (Env.le.refl _) h2 h3 h4
      rw [List.range_eq_range']
      simpa using this
  | seq x y ihx ihy =>
    intro hr fuel K ρ a w a' w' h1 h2 h3 h4
    simp only [codeRight, Bool.and_eq_true] at hr
    refine wp_seq (wp_mono (ihx hr.1 fuel _ ρ a w a' w' h1 h2 h3 h4) ?_)
    rintro e a2' w2' ⟨q, ρ2, a2, w2, rfl, q1, q2, q3, q4⟩
    cases q with
    | normal => exact wp_mono (ihy hr.2 fuel K ρ2 a2 w2 a2' w2' (h1.mono q1) q2 q3 q4) fun e a w => QX.mono q1
    | exit id => exact ⟨.exit id, ρ2, a2, w2, rfl, q1, q2, q3, q4⟩
    | ret => exact ⟨.ret, ρ2, a2, w2, rfl, q1, q2, q3, q4⟩
  | cond c x y ihx ihy =>
    intro hr fuel K ρ a w a' w' h1 h2 h3 h4
    simp only [codeRight, Bool.and_eq_true] at hr
    obtain ⟨⟨hc, hx⟩, hy⟩ := hr
    have hv := opd_sound h1 h2 hc
    simp only [codeF, Box.run_mk] at h4
    split at h4
    · rename_i b hb
      rw [hb] at hv
      cases b with
      | true => exact wp_cond_true hv.bool_inv (ihx hx fuel K ρ a w a' w' h1 h2 h3 h4)
      | false => exact wp_cond_false hv.bool_inv (ihy hy fuel K ρ a w a' w' h1 h2 h3 h4)
    · exact absurd h4 hfi.bad
  | block id b ih =>
    intro hr fuel K ρ a w a' w' h1 h2 h3 h4
    refine wp_block (wp_mono (ih hr fuel _ ρ a w a' w' h1 h2 h3 h4) ?_)
    rintro e a2' w2' ⟨q, ρ2, a2, w2, rfl, q1, q2, q3, q4⟩
    cases q with
    | normal => exact ⟨.normal, ρ2, a2, w2, rfl, q1, q2, q3, q4⟩
    | exit i =>
      show if i = id then _ else _
      have q4 : C.good (@Bool.rec (fun _ => Res) (K (.exit i) a2 w2) (K .normal a2 w2) (Nat.beq i id)) := q4
      by_cases hi : i = id
      · subst hi
        rw [if_pos rfl]
        simp only [Nat.beq_refl] at q4
        exact ⟨.normal, ρ2, a2, w2, rfl, q1, q2, q3, q4⟩
      · rw [if_neg hi]
        have : Nat.beq i id = false := by cases hq : Nat.beq i id with | false => rfl | true => exact absurd (nat_beq hq) hi
        rw [this] at q4
        exact ⟨.exit i, ρ2, a2, w2, rfl, q1, q2, q3, q4⟩
    | ret => exact ⟨.ret, ρ2, a2, w2, rfl, q1, q2, q3, q4⟩
  | loop b ih =>
    intro hr fuel K ρ a w a' w' h1 h2 h3 h4
    have h4 : C.good (loopF ((codeF C.P C.G ext d b).run fuel) call fuel a w K) := h4
    refine wp_loop_rounds fuel ?_
    have key : ∀ (m : Nat) (ρ2 : Env) (a : AA) (w : AW) (a' : Act) (w' : World), Env.le ρ ρ2 → AAR ρ2 d n a a' → WR C ρ2 w w' → C.good (loopF ((codeF C.P C.G ext d b).run fuel) call m a w K) → Code.rounds C.P b (QX C ρ d n K) m a' w' := by
      intro m
      induction m with
      | zero => intro ρ2 a w a' w' _ _ _ h; exact absurd h hfi.bad
      | succ m ihm =>
        intro ρ2 a w a' w' q1 q2 q3 h
        have h : C.good ((codeF C.P C.G ext d b).run fuel call a w fun e a w => @X.rec (fun _ => Res) (loopF ((codeF C.P C.G ext d b).run fuel) call m a w K) (fun id => K (.exit id) a w) (K .ret a w) e) := h
        rw [rounds_succ]
        refine wp_mono (ih hr fuel _ ρ2 a w a' w' (h1.mono q1) q2 q3 h) ?_
        rintro e a2' w2' ⟨q, ρ3, a2, w2, rfl, p1, p2, p3, p4⟩
        cases q with
        | normal => exact ihm ρ3 a2 w2 a2' w2' (q1.trans p1) p2 p3 p4
        | exit i => exact ⟨.exit i, ρ3, a2, w2, rfl, q1.trans p1, p2, p3, p4⟩
        | ret => exact ⟨.ret, ρ3, a2, w2, rfl, q1.trans p1, p2, p3, p4⟩
    exact key fuel ρ a w a' w' (Env.le.refl _) h2 h3 h4
  | exit id => intro _ fuel K ρ a w a' w' _ h2 h3 h4; exact wp_exit ⟨.exit id, ρ, a, w, rfl, Env.le.refl _, h2, h3, h4⟩
  | ret => intro _ fuel K ρ a w a' w' _ h2 h3 h4; exact wp_ret ⟨.ret, ρ, a, w, rfl, Env.le.refl _, h2, h3, h4⟩
  | _ => intros; exact absurd ‹C.good _› hfi.bad
end Go.Ab
