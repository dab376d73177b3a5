/- Regions of open order: the model's schedule, step by step, against the evaluator's one order. -/
import Derived.Test.YtcjdjklggnjlbaaDoorEvQ
namespace Go.Ab
open Go.RowKit

theorem opd_slot (d : Nat) (t : Tmp) (a : AA) : (opd d (.tmp t)).run a = slot d a t := by
  show @Option.rec Value (fun _ => Value) undef (fun v => v) (T.at (path d t) a) = _
  rw [T.at_path]
  unfold slot
  cases T.get d a t <;> rfl

/-- a slot on both sides -/
def SR (ρ : Env) (d : Nat) (a : AA) (a' : Act) (t : Tmp) : Prop := VR ρ (slot d a t) (a'.tmps.getD t undef)

theorem mem_tmps {o : Op} {t : Tmp} (h : Operand.tmp t ∈ o.operands) : t ∈ tmpsOf o :=
  List.mem_filterMap.2 ⟨.tmp t, by simpa using h, rfl⟩

theorem ov_slots {ρ : Env} {G d n : Nat} {a : AA} {a' : Act} (hg : GR G ρ) {o : Oper} (ho : operRight G n o = true) (h : ∀ t ∈ tmpsOf o.op, t < n → SR ρ d a a' t) : ∀ x ∈ o.op.operands, OV ρ d a a'.eval x := by
  unfold operRight at ho
  rw [Bool.and_eq_true] at ho
  intro x hx
  have hok := List.all_eq_true.1 ho.1 x (by simpa using hx)
  cases x with
  | tmp t =>
    unfold OV
    rw [opd_slot]
    exact h t (mem_tmps hx) (blt_iff.1 hok)
  | const v => exact VR.const 4 v hok
  | global g => exact .ptr _ _ ⟨⟨g, 0⟩, hg g (blt_iff.1 hok), rfl⟩
  | func f => exact .func _ _ _ _ _ trivial .nil .nil

theorem congr_slots {d : Nat} {a a1 : AA} {o : Op} (h : ∀ t ∈ tmpsOf o, slot d a t = slot d a1 t) : ∀ x ∈ o.operands, (opd d x).run a = (opd d x).run a1 := by
  intro x hx
  cases x with
  | tmp t => rw [opd_slot, opd_slot]; exact h t (mem_tmps hx)
  | const v => rfl
  | global g => rfl
  | func f => rfl

theorem slot_put {d n : Nat} (hd : n ≤ 2 ^ d) {dst : Option Tmp} (hdst : PutOk n dst) (v : Value) (a : AA) {t : Tmp} (ht : t < n) : slot d ((putF d dst).run v a) t = if dst = some t then v else slot d a t := by
  cases dst with
  | none => rfl
  | some u =>
    show slot d (T.to v (path d u) a) t = _
    have hu : u < n := hdst
    unfold slot
    rw [T.to_path, T.get_put d a u (some v) t (Nat.lt_of_lt_of_le hu hd) (Nat.lt_of_lt_of_le ht hd)]
    by_cases h : t = u
    · subst h; simp
    · rw [if_neg h, if_neg (by intro k; cases k; exact h rfl)]

theorem put_get {n : Nat} {a' : Act} (hs : a'.tmps.size = n) {dst : Option Tmp} (v : Value) {t : Tmp} (ht : t < n) : (a'.put dst v).tmps.getD t undef = if dst = some t then v else a'.tmps.getD t undef := by
  cases dst with
  | none => simp [Act.put]
  | some u =>
    simp only [Act.put]
    by_cases h : u = t
    · subst h; simp [hs, ht]
    · rw [if_neg (by intro k; cases k; exact h rfl)]
      simp [h]

/-- the slot that a guard asks -/
theorem guard_one {ρ : Env} {d n : Nat} {a : AA} {a' : Act} (hsz : a'.tmps.size = n) {ops : Array Oper} {o : Oper} (hall : ∀ o ∈ ops, putRight n o.dst = true) {g : List Tmp} (hgt : guardTmp ops o = some g) (h : ∀ t ∈ g, t < n → SR ρ d a a' t) :
    (guardF d ops o = some none ∧ Region.wanted o (yielded ops a'.tmps) = true) ∨
    (∃ t want, guardF d ops o = some (some (t, want)) ∧ g = [t] ∧ Region.wanted o (yielded ops a'.tmps) = isBool ((opd d (.tmp t)).run a) want) := by
  unfold guardTmp at hgt
  unfold guardF Region.wanted
  cases hgd : o.guard with
  | none => exact .inl ⟨rfl, rfl⟩
  | some p =>
    obtain ⟨j, want⟩ := p
    rw [hgd] at hgt
    simp only at hgt ⊢
    cases hb : (ops[j]?).bind (·.dst) with
    | none => rw [hb] at hgt; cases hgt
    | some t =>
      rw [hb] at hgt
      cases hgt
      refine .inr ⟨t, want, rfl, rfl, ?_⟩
      have ht : t < n := by
        cases hj : ops[j]? with
        | none => rw [hj] at hb; cases hb
        | some o1 =>
          rw [hj] at hb
          have hb : o1.dst = some t := hb
          have := hall o1 (Array.mem_of_getElem? hj)
          rw [hb] at this
          exact blt_iff.1 this
      have hr := h t (by simp) ht
      unfold SR at hr
      have hu : a'.tmps[t]? = some (a'.tmps.getD t undef) := by simp [hsz, ht]
      have hy : yielded ops a'.tmps j = asB (a'.tmps.getD t undef) := by
        unfold yielded
        rw [hb]
        simp only [Option.bind_some, hu]
        cases (a'.tmps.getD t undef) <;> rfl
      rw [hy, opd_slot]
      exact asB_want hr want
end Go.Ab
