/- What regions of open order need: on what quiet operations depend, and when values are one. -/
import Derived.Test.YtcjdjklggnjlbaaDoorEvO
namespace Go.Ab
open Go.RowKit

theorem map_opd_congr {d : Nat} {a a1 : AA} {l : List Operand} (h : ∀ x ∈ l, (opd d x).run a = (opd d x).run a1) : (l.map fun y => (opd d y).run a) = l.map fun y => (opd d y).run a1 :=
  List.map_congr_left h

theorem omap_congr {d : Nat} {a a1 : AA} {x : Option Operand} (h : ∀ y, x = some y → (opd d y).run a = (opd d y).run a1) : (x.map fun y => (opd d y).run a) = x.map fun y => (opd d y).run a1 := by
  cases x with
  | none => rfl
  | some y => simp [h y rfl]

theorem amap_congr {d : Nat} {a a1 : AA} {x : Array Operand} (h : ∀ y ∈ x, (opd d y).run a = (opd d y).run a1) : (x.map fun y => (opd d y).run a) = x.map fun y => (opd d y).run a1 := by
  apply Array.toList_inj.1
  rw [Array.toList_map, Array.toList_map]
  exact map_opd_congr fun y hy => h y (by simpa using hy)

theorem parts_congr {d : Nat} {a a1 : AA} {l : List (Nat × Operand)} (h : ∀ p ∈ l, (opd d p.2).run a = (opd d p.2).run a1) : (l.map fun p => (p.1, (opd d p.2).run a)) = l.map fun p => (p.1, (opd d p.2).run a1) :=
  List.map_congr_left fun p hp => by rw [h p hp]

theorem quiet_congr {P : Program} {d : Nat} {op : Op} {q : Box QF} (hq : quiet P d op = some q) {a a1 : AA} (h : ∀ x ∈ op.operands, (opd d x).run a = (opd d x).run a1) (w : AW) : q.run a w = q.run a1 w := by
  cases op with
  | move x => cases hq; simp only [Box.run_mk, h x (by simp [Op.operands])]
  | assign x => cases hq; simp only [Box.run_mk, h x (by simp [Op.operands])]
  | pick c x y => cases hq; simp only [Box.run_mk, h c (by simp [Op.operands]), h x (by simp [Op.operands]), h y (by simp [Op.operands])]
  | load t x => cases hq; simp only [Box.run_mk, h x (by simp [Op.operands])]
  | nilCheck x => cases hq; simp only [Box.run_mk, h x (by simp [Op.operands])]
  | binOp op t x y g => cases hq; simp only [Box.run_mk, h x (by simp [Op.operands]), h y (by simp [Op.operands])]
  | unOp op t x =>
    cases op with
    | plus => cases hq
    | _ => cases hq; simp only [Box.run_mk, h x (by simp [Op.operands])]
  | build t parts =>
    simp only [quiet] at hq
    split at hq
    · cases hq
      simp only [Box.run_mk]
      rw [parts_congr (fun p hp => h p.2 (by simp [Op.operands]; exact ⟨p.1, by simpa using hp⟩))]
    · cases hq
  | lookup t x ix ok =>
    simp only [quiet] at hq
    split at hq
    · split at hq
      · split at hq
        · rename_i z _
          cases hc : constOk 4 z with
          | false => rw [hc] at hq; cases hq
          | true => rw [hc] at hq; cases hq; simp only [Box.run_mk, h x (by simp [Op.operands]), h ix (by simp [Op.operands])]
        · cases hq
      · cases hq
    · cases hq
  | convert s t x =>
    simp only [quiet] at hq
    split at hq <;> cases hq <;> simp only [Box.run_mk, h x (by simp [Op.operands])]
  | makeInterface t x =>
    simp only [quiet] at hq
    split at hq <;> cases hq
    simp only [Box.run_mk, h x (by simp [Op.operands])]
  | makeFunc f first captured =>
    simp only [quiet] at hq
    cases hc : fnFine f with
    | false => rw [hc] at hq; cases hq
    | true =>
      rw [hc] at hq
      cases hq
      simp only [Box.run_mk]
      rw [amap_congr (x := first) (fun x hx => h x (by simp [Op.operands, hx])), amap_congr (x := captured) (fun x hx => h x (by simp [Op.operands, hx]))]
  | fieldAddr s x i =>
    simp only [quiet] at hq
    split at hq
    · rename_i f _
      cases hc : Nat.blt 0 (sizeIs P f.type) with
      | false => rw [hc] at hq; cases hq
      | true => rw [hc] at hq; cases hq; simp only [Box.run_mk, h x (by simp [Op.operands])]
    · cases hq
  | field s x i =>
    simp only [quiet] at hq
    split at hq
    · cases hq; simp only [Box.run_mk, h x (by simp [Op.operands])]
    · cases hq
  | indexAddr t x ix => cases hq; simp only [Box.run_mk, h x (by simp [Op.operands]), h ix (by simp [Op.operands])]
  | index t x ix => cases hq; simp only [Box.run_mk, h x (by simp [Op.operands]), h ix (by simp [Op.operands])]
  | extract x i => cases hq; simp only [Box.run_mk, h x (by simp [Op.operands])]
  | slice t x lo hi mx =>
    cases mx with
    | some m => cases hq
    | none =>
      simp only [quiet] at hq
      cases hc : arrType P t with
      | true => rw [hc] at hq; cases hq
      | false =>
        rw [hc] at hq
        cases hq
        simp only [Box.run_mk, h x (by simp [Op.operands])]
        rw [omap_congr (x := lo) (fun y hy => h y (by simp [Op.operands, hy])), omap_congr (x := hi) (fun y hy => h y (by simp [Op.operands, hy]))]
  | call c =>
    obtain ⟨callee, args, argTypes⟩ := c
    simp only [quiet] at hq
    have hm : ∀ y ∈ args.toList, (opd d y).run a = (opd d y).run a1 := fun y hy => h y (by simp only [Op.operands, Call.operands]; exact Array.mem_append.2 (.inr (by simpa using hy)))
    split at hq
    · rename_i x t hA _
      cases hq
      simp only [Box.run_mk, hm x (by rw [hA]; simp)]
    · rename_i x l hA
      cases hq
      simp only [Box.run_mk, hm x (by rw [hA]; simp)]
      rw [map_opd_congr (l := l) (fun y hy => hm y (by rw [hA]; simp [hy]))]
    · rename_i x l hA
      cases hq
      simp only [Box.run_mk, hm x (by rw [hA]; simp)]
      rw [map_opd_congr (l := l) (fun y hy => hm y (by rw [hA]; simp [hy]))]
    · cases hq
  | _ => cases hq

theorem alloc_congr {P : Program} {d : Nat} {op : Op} {f : Box (AA → Option (Obj × (Nat → Value)))} (hf : allocF P d op = some f) {a a1 : AA} (h : ∀ x ∈ op.operands, (opd d x).run a = (opd d x).run a1) : f.run a = f.run a1 := by
  cases op with
  | alloc t =>
    simp only [allocF] at hf
    split at hf
    · split at hf
      · rename_i z _
        cases hc : constOk 4 z with
        | false => rw [hc] at hf; cases hf
        | true => rw [hc] at hf; cases hf; rfl
      · cases hf
    · cases hf
  | box t x => cases hf; simp only [Box.run_mk, h x (by simp [Op.operands])]
  | buildSlice t len parts =>
    simp only [allocF] at hf
    split at hf
    · split at hf
      · rename_i inf _
        split at hf
        · rename_i z _
          cases hc : (Nat.ble (Nat.mul len inf.size) lim && Nat.beq z.cells.size inf.size && Nat.blt 0 inf.size && constOk 4 z) with
          | false => rw [hc] at hf; cases hf
          | true =>
            rw [hc] at hf
            cases hf
            simp only [Box.run_mk]
            rw [parts_congr (fun p hp => h p.2 (by simp [Op.operands]; exact ⟨p.1, by simpa using hp⟩))]
        · cases hf
      · cases hf
    · cases hf
  | makeMap t r =>
    cases r with
    | some r => cases hf
    | none => cases hf; rfl
  | makeSlice t l c =>
    simp only [allocF] at hf
    split at hf
    · split at hf
      · rename_i inf _
        split at hf
        · rename_i z _
          cases hc : (Nat.ble inf.bytes lim && Nat.beq inf.size 1 && Nat.beq z.cells.size 1 && constOk 4 z) with
          | false => rw [hc] at hf; cases hf
          | true => rw [hc] at hf; cases hf; simp only [Box.run_mk, h l (by simp [Op.operands]), h c (by simp [Op.operands])]
        · cases hf
      · cases hf
    · cases hf
  | _ => cases hf

/-- one world knows all that another knows -/
def More (w w1 : AW) : Prop := ∀ r b, w.get r = some b → w1.get r = some b

theorem loadAgg_more {w w1 : AW} (hm : More w w1) {n : Nat} {p : Addr} {v : Value} (h : loadAgg n p w = some v) : loadAgg n p w1 = some v := by
  unfold loadAgg at *
  split at h
  · rename_i c e fr x hg
    rw [hm _ _ hg]
    exact h
  · cases h

theorem cell_more {w w1 : AW} (hm : More w w1) {p : Addr} {v : Value} (h : w.cell p = some v) : w1.cell p = some v := by
  unfold AW.cell at *
  split at h
  · rename_i c e fr x hg
    rw [hm _ _ hg]
    exact h
  · cases h

theorem loadF_more {P : Program} {t : TypeId} {w w1 : AW} (hm : More w w1) {p : Addr} {v : Value} (h : (loadF P t).run p w = some v) : (loadF P t).run p w1 = some v := by
  unfold loadF at *
  split at h
  · rename_i d inf _ _
    cases hc : isAggD d with
    | true => rw [hc] at h; exact loadAgg_more hm h
    | false => rw [hc] at h; exact cell_more hm h
  · exact h

theorem entriesOf_more {w w1 : AW} (hm : More w w1) {x : Value} {es : Array MapEntry} (h : entriesOf w x = some es) : entriesOf w1 x = some es := by
  unfold entriesOf at *
  split at h
  · exact h
  · split at h
    · rename_i es' k x hg
      rw [hm _ _ hg]
      exact h
    · cases h
  · cases h

theorem lookupF_more {P : Program} {key : TypeId} {z : Value} {ok : Bool} {x k : Value} {w w1 : AW} (hm : More w w1) {v : Value} (h : lookupF P key z ok x k w = some v) : lookupF P key z ok x k w1 = some v := by
  unfold lookupF at *
  simp only [orElse] at *
  cases he : entriesOf w x with
  | none => rw [he] at h; cases h
  | some es => rw [he] at h; rw [entriesOf_more hm he]; exact h

theorem lenB_more {P : Program} {t : TypeId} {x : Value} {w w1 : AW} (hm : More w w1) {v : Value} (h : (lenB P t).run x w = some v) : (lenB P t).run x w1 = some v := by
  unfold lenB at *
  split at h
  · exact h
  · exact h
  · simp only [Box.run_mk] at *
    split at h
    · exact h
    · split at h
      · rename_i es k fl hg
        rw [hm _ _ hg]
        exact h
      · cases h
    · cases h
  · exact h

theorem quiet_more {P : Program} {d : Nat} {op : Op} {q : Box QF} (hq : quiet P d op = some q) {a : AA} {w w1 : AW} (hm : More w w1) {v : Value} (h : q.run a w = some v) : q.run a w1 = some v := by
  cases op with
  | load t x =>
    cases hq
    obtain ⟨p, hp, h1⟩ := addrF_some h
    simp only [Box.run_mk, hp, addrF]
    exact loadF_more hm h1
  | lookup t x ix ok =>
    simp only [quiet] at hq
    split at hq
    · split at hq
      · split at hq
        · rename_i z _
          cases hc : constOk 4 z with
          | false => rw [hc] at hq; cases hq
          | true => rw [hc] at hq; cases hq; exact lookupF_more hm h
        · cases hq
      · cases hq
    · cases hq
  | call c =>
    obtain ⟨callee, args, argTypes⟩ := c
    simp only [quiet] at hq
    split at hq
    · cases hq; exact lenB_more hm h
    · cases hq; exact h
    · cases hq; exact h
    · cases hq
  | unOp op t x =>
    cases op with
    | plus => cases hq
    | _ => cases hq; exact h
  | build t parts =>
    simp only [quiet] at hq
    split at hq <;> cases hq
    exact h
  | convert s t x =>
    simp only [quiet] at hq
    split at hq <;> cases hq <;> exact h
  | makeInterface t x =>
    simp only [quiet] at hq
    split at hq <;> cases hq
    exact h
  | makeFunc f first captured =>
    simp only [quiet] at hq
    cases hc : fnFine f with
    | false => rw [hc] at hq; cases hq
    | true => rw [hc] at hq; cases hq; exact h
  | fieldAddr s x i =>
    simp only [quiet] at hq
    split at hq
    · rename_i f _
      cases hc : Nat.blt 0 (sizeIs P f.type) with
      | false => rw [hc] at hq; cases hq
      | true => rw [hc] at hq; cases hq; exact h
    · cases hq
  | field s x i =>
    simp only [quiet] at hq
    split at hq <;> cases hq
    exact h
  | slice t x lo hi mx =>
    cases mx with
    | some m => cases hq
    | none =>
      simp only [quiet] at hq
      cases hc : arrType P t with
      | true => rw [hc] at hq; cases hq
      | false => rw [hc] at hq; cases hq; exact h
  | move x => cases hq; exact h
  | assign x => cases hq; exact h
  | pick c x y => cases hq; exact h
  | nilCheck x => cases hq; exact h
  | binOp op t x y g => cases hq; exact h
  | indexAddr t x ix => cases hq; exact h
  | index t x ix => cases hq; exact h
  | extract x i => cases hq; exact h
  | _ => cases hq

theorem lenB_noread {P : Program} {t : TypeId} (ht : mapType P t = false) (x : Value) (w w1 : AW) : (lenB P t).run x w = (lenB P t).run x w1 := by
  unfold mapType at ht
  unfold lenB
  split
  · rfl
  · rfl
  · rename_i k e hu; rw [hu] at ht; cases ht
  · rfl

theorem quiet_noread {P : Program} {d : Nat} {op : Op} {q : Box QF} (hq : quiet P d op = some q) (hr : reads P op = false) {a : AA} (w w1 : AW) : q.run a w = q.run a w1 := by
  cases op with
  | load t x => cases hr
  | lookup t x ix ok => cases hr
  | call c =>
    obtain ⟨callee, args, argTypes⟩ := c
    simp only [quiet] at hq
    split at hq
    · rename_i x t _ ht
      cases hq
      have : mapType P t = false := by simp only [reads] at hr; rw [ht] at hr; exact hr
      exact lenB_noread this _ w w1
    · cases hq; rfl
    · cases hq; rfl
    · cases hq
  | unOp op t x =>
    cases op with
    | plus => cases hq
    | _ => cases hq; rfl
  | build t parts =>
    simp only [quiet] at hq
    split at hq <;> cases hq
    rfl
  | convert s t x =>
    simp only [quiet] at hq
    split at hq <;> cases hq <;> rfl
  | makeInterface t x =>
    simp only [quiet] at hq
    split at hq <;> cases hq
    rfl
  | makeFunc f first captured =>
    simp only [quiet] at hq
    cases hc : fnFine f with
    | false => rw [hc] at hq; cases hq
    | true => rw [hc] at hq; cases hq; rfl
  | fieldAddr s x i =>
    simp only [quiet] at hq
    split at hq
    · rename_i f _
      cases hc : Nat.blt 0 (sizeIs P f.type) with
      | false => rw [hc] at hq; cases hq
      | true => rw [hc] at hq; cases hq; rfl
    · cases hq
  | field s x i =>
    simp only [quiet] at hq
    split at hq <;> cases hq
    rfl
  | slice t x lo hi mx =>
    cases mx with
    | some m => cases hq
    | none =>
      simp only [quiet] at hq
      cases hc : arrType P t with
      | true => rw [hc] at hq; cases hq
      | false => rw [hc] at hq; cases hq; rfl
  | move x => cases hq; rfl
  | assign x => cases hq; rfl
  | pick c x y => cases hq; rfl
  | nilCheck x => cases hq; rfl
  | binOp op t x y g => cases hq; rfl
  | indexAddr t x ix => cases hq; rfl
  | index t x ix => cases hq; rfl
  | extract x i => cases hq; rfl
  | _ => cases hq
end Go.Ab
