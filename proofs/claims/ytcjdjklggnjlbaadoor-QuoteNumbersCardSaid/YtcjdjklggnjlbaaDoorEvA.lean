/- The deterministic reading of a run: an evaluator over a world whose block numbers are its own, and whose slices' spare room is left open. Definitions alone. -/
import Derived.Calls
import Derived.KernelRfl
namespace Go.Ab
noncomputable section

/-- A tree over numbers below 2 ^ depth. -/
inductive T (α : Type) where
  | e
  | leaf (v : α)
  | node (l r : T α)

/-- (By the recursors themselves, here and below: the kernel reckons them faster.) -/
def T.get {α : Type} (d : Nat) : T α → Nat → Option α :=
  @Nat.rec (fun _ => T α → Nat → Option α)
    (fun t _ => @T.rec α (fun _ => Option α) none some (fun _ _ _ _ => none) t)
    (fun _ ih t k => @T.rec α (fun _ => Option α) none (fun _ => none) (fun l r _ _ => @Bool.rec (fun _ => Option α) (ih r (Nat.div k 2)) (ih l (Nat.div k 2)) (Nat.beq (Nat.mod k 2) 0)) t) d

def T.left {α : Type} (t : T α) : T α := @T.rec α (fun _ => T α) .e (fun _ => .e) (fun l _ _ _ => l) t
def T.right {α : Type} (t : T α) : T α := @T.rec α (fun _ => T α) .e (fun _ => .e) (fun _ r _ _ => r) t

def T.put {α : Type} (d : Nat) : T α → Nat → Option α → T α :=
  @Nat.rec (fun _ => T α → Nat → Option α → T α)
    (fun _ _ v => @Option.rec α (fun _ => T α) .e .leaf v)
    (fun _ ih t k v => @Bool.rec (fun _ => T α) (.node t.left (ih t.right (Nat.div k 2) v)) (.node (ih t.left (Nat.div k 2) v) t.right) (Nat.beq (Nat.mod k 2) 0)) d

theorem T.get_e {α : Type} : ∀ (d k : Nat), T.get d (.e : T α) k = none
  | 0, _ => rfl
  | _ + 1, _ => rfl

theorem T.get_kids {α : Type} (d : Nat) (t : T α) (k : Nat) :
    T.get (d + 1) t k = if k % 2 = 0 then T.get d t.left (k / 2) else T.get d t.right (k / 2) := by
  cases t with
  | e => simp [T.left, T.right, T.get_e]
  | leaf v => simp [T.left, T.right, T.get_e]; rfl
  | node l r =>
    show @Bool.rec (fun _ => Option α) (T.get d r (k / 2)) (T.get d l (k / 2)) (Nat.beq (k % 2) 0) = _
    by_cases h : k % 2 = 0
    · rw [if_pos h, h]; rfl
    · have : k % 2 = 1 := by omega
      rw [if_neg h, this]; rfl

theorem T.put_succ {α : Type} (d : Nat) (t : T α) (k : Nat) (v : Option α) :
    T.put (d + 1) t k v = if k % 2 = 0 then .node (T.put d t.left (k / 2) v) t.right else .node t.left (T.put d t.right (k / 2) v) := by
  show @Bool.rec (fun _ => T α) (.node t.left (T.put d t.right (k / 2) v)) (.node (T.put d t.left (k / 2) v) t.right) (Nat.beq (k % 2) 0) = _
  by_cases h : k % 2 = 0
  · rw [if_pos h, h]; rfl
  · have : k % 2 = 1 := by omega
    rw [if_neg h, this]; rfl

theorem T.get_put {α : Type} : ∀ (d : Nat) (t : T α) (k : Nat) (v : Option α) (j : Nat), k < 2 ^ d → j < 2 ^ d →
    T.get d (T.put d t k v) j = if j = k then v else T.get d t j
  | 0, t, k, v, j, hk, hj => by
    have : j = k := by omega
    subst this
    cases v <;> simp <;> rfl
  | d + 1, t, k, v, j, hk, hj => by
    have hk2 : k / 2 < 2 ^ d := by rw [Nat.pow_succ] at hk; omega
    have hj2 : j / 2 < 2 ^ d := by rw [Nat.pow_succ] at hj; omega
    rw [T.get_kids d t j, T.get_kids, T.put_succ]
    by_cases a : k % 2 = 0 <;> by_cases b : j % 2 = 0
    · simp only [a, b, if_true]
      show T.get d (T.put d t.left (k / 2) v) (j / 2) = _
      rw [T.get_put d _ _ _ _ hk2 hj2]
      by_cases e : j = k
      · subst e; simp
      · rw [if_neg e, if_neg (by omega)]
    · simp only [a, b, if_true, if_false]
      rw [if_neg (by omega)]; rfl
    · simp only [a, b, if_true, if_false]
      rw [if_neg (by omega)]; rfl
    · simp only [a, b, if_false]
      show T.get d (T.put d t.right (k / 2) v) (j / 2) = _
      rw [T.get_put d _ _ _ _ hk2 hj2]
      by_cases e : j = k
      · subst e; simp
      · rw [if_neg e, if_neg (by omega)]

/-- The same, handed on only when it is laid out: nothing is left to be reckoned later. -/
def T.putK {α R : Type} (d : Nat) : T α → Nat → Option α → (T α → R) → R :=
  @Nat.rec (fun _ => T α → Nat → Option α → (T α → R) → R)
    (fun _ _ v K => @Option.rec α (fun _ => R) (K .e) (fun x => K (.leaf x)) v)
    (fun _ ih t k v K => @T.rec α (fun _ => R)
      (@Bool.rec (fun _ => R) (ih .e (Nat.div k 2) v fun r => K (.node .e r)) (ih .e (Nat.div k 2) v fun l => K (.node l .e)) (Nat.beq (Nat.mod k 2) 0))
      (fun _ => @Bool.rec (fun _ => R) (ih .e (Nat.div k 2) v fun r => K (.node .e r)) (ih .e (Nat.div k 2) v fun l => K (.node l .e)) (Nat.beq (Nat.mod k 2) 0))
      (fun l r _ _ => @Bool.rec (fun _ => R) (ih r (Nat.div k 2) v fun r => K (.node l r)) (ih l (Nat.div k 2) v fun l => K (.node l r)) (Nat.beq (Nat.mod k 2) 0)) t) d

theorem T.putK_eq {α R : Type} : ∀ (d : Nat) (t : T α) (k : Nat) (v : Option α) (K : T α → R), T.putK d t k v K = K (T.put d t k v)
  | 0, t, k, v, K => by cases v <;> rfl
  | d + 1, t, k, v, K => by
    have key : ∀ (l r : T α), @Bool.rec (fun _ => R) (T.putK d r (Nat.div k 2) v fun r => K (.node l r)) (T.putK d l (Nat.div k 2) v fun l => K (.node l r)) (Nat.beq (Nat.mod k 2) 0)
        = K (if k % 2 = 0 then .node (T.put d l (k / 2) v) r else .node l (T.put d r (k / 2) v)) := by
      intro l r
      rw [T.putK_eq d r, T.putK_eq d l]
      by_cases h : k % 2 = 0
      · rw [if_pos h]; show @Bool.rec (fun _ => R) _ _ (Nat.beq (k % 2) 0) = _; rw [h]; rfl
      · have : k % 2 = 1 := by omega
        rw [if_neg h]; show @Bool.rec (fun _ => R) _ _ (Nat.beq (k % 2) 0) = _; rw [this]; rfl
    rw [T.put_succ]
    cases t with
    | e => exact key .e .e
    | leaf v => exact key .e .e
    | node l r => exact key l r

/-- a list, handed on only when it is laid out -/
def forceL {α R : Type} (l : List α) (K : List α → R) : R :=
  @List.rec α (fun _ => (List α → R) → R) (fun K => K []) (fun x _ ih K => ih fun l => K (x :: l)) l K

theorem forceL_eq {α R : Type} (l : List α) (K : List α → R) : forceL l K = K l := by
  induction l generalizing K with
  | nil => rfl
  | cons x l ih => exact ih fun l => K (x :: l)

/-- A block: what it holds as far as it is known, and whether it holds no more than that. -/
structure Blk where
  obj : Obj
  exact : Bool

structure AW where
  next : Nat
  tab : T Blk

/-- what comes of a run: it can't be told, or all ways end so -/
inductive Res where
  | bad
  | ok (l : List (Value × AW))

def Res.cat (a b : Res) : Res :=
  @Res.rec (fun _ => Res) .bad (fun l => @Res.rec (fun _ => Res) .bad (fun m => .ok (l ++ m)) b) a

def allR {α : Type} (l : List α) (f : α → Res) : Res := @List.rec α (fun _ => Res) (.ok []) (fun x _ ih => (f x).cat ih) l

def lim : Nat := 65536
def dep : Nat := 16

def AW.get (w : AW) (r : Nat) : Option Blk := @Bool.rec (fun _ => Option Blk) none (T.get dep w.tab r) (Nat.blt r lim)
def AW.put (w : AW) (r : Nat) (b : Option Blk) : AW := { w with tab := T.put dep w.tab r b }
def AW.push (w : AW) (b : Blk) : AW := { next := w.next + 1, tab := T.put dep w.tab w.next (some b) }
def AW.drop (w : AW) (r : Nat) : AW := w.put r none

def AW.putK (w : AW) (r : Nat) (b : Option Blk) (K : AW → Res) : Res := T.putK dep w.tab r b fun t => K ⟨w.next, t⟩
theorem AW.putK_eq (w : AW) (r : Nat) (b : Option Blk) (K : AW → Res) : w.putK r b K = K (w.put r b) := T.putK_eq dep w.tab r b _

def AW.cell (w : AW) (a : Addr) : Option Value :=
  match w.get a.block with
  | some ⟨.cells c _ _, _⟩ => match a.spot with
    | none => c[a.off]?
    | some _ => none
  | _ => none

/-- what stands for 'one cell behind the last is marked' -/
def mark : Nat × Nat := (4611686018427387904, 4611686018427387905)
def inRange (r : Nat × Nat) (n : Nat) : Bool := Nat.ble r.1 n && Nat.blt n r.2

/-- the world behind a store, if it may be -/
def AW.store (G : Nat) (w : AW) (a : Addr) (v : Value) : Option AW :=
  match w.get a.block with
  | some ⟨.cells c e fr, x⟩ =>
    if Nat.ble G a.block && a.spot.isNone && Nat.blt a.off c.size && !inRange fr a.off then
      some (w.put a.block (some ⟨.cells (c.setIfInBounds a.off v) e fr, x⟩))
    else none
  | _ => none

def single : Value → Bool
  | .agg _ | .tuple _ => false
  | _ => true

/-- objects that may be made anew -/
def newOk : Obj → Bool
  | .cells _ _ (lo, hi) => lo == 0 && hi == 0
  | .map _ _ | .mapIter .. | .stringIter .. => true
  | _ => false

def isCells : Obj → Bool
  | .cells .. => true
  | _ => false

/-- how many answers there may be -/
def answers : Question → Option Nat
  | .mapNext n => some n
  | .extern _ 0 => none
  | .extern _ (n + 1) => some (n + 1)
  | _ => none

def ev (P : Program) (G : Nat) {α : Type} : Sem α → AW → (α → AW → Res) → Res
  | .pure a, w, K => K a w
  | .load _ a k, w, K => match w.cell a with
    | some v => ev P G (k v) w K
    | none => .bad
  | .store _ a v k, w, K => if single v then match w.store G a v with
      | some w' => ev P G k w' K
      | none => .bad
    else .bad
  | .new o k, w, K => if newOk o && Nat.blt w.next lim then ev P G (k w.next) (w.push ⟨o, true⟩) K else .bad
  | .shape r k, w, K => match w.get r with
    | some ⟨.cells c e _, true⟩ => ev P G (k (some (e, c.size))) w K
    | some ⟨.cells _ _ _, false⟩ => .bad
    | some _ => ev P G (k none) w K
    | none => .bad
  | .freeze a n k, w, K => match w.get a.block with
    | some ⟨.cells c e (lo, hi), x⟩ =>
      if Nat.ble G a.block && Nat.ble (a.off + n) c.size && Nat.blt hi mark.1 then
        if n == 0 then ev P G k w K else
        ev P G k (w.put a.block (some ⟨.cells c e (if lo == hi then (a.off, a.off + n) else (min lo a.off, max hi (a.off + n))), x⟩)) K
      else .bad
    | _ => .bad
  | .frozen a k, w, K => match w.get a.block with
    | some ⟨.cells c _ fr, _⟩ => if Nat.blt a.off c.size && !inRange fr a.off then ev P G (k false) w K else .bad
    | _ => .bad
  | .getObj r k, w, K => match w.get r with
    | some ⟨o, _⟩ => if isCells o then .bad else ev P G (k o) w K
    | none => .bad
  | .setObj r o k, w, K => match w.get r with
    | some ⟨o0, x⟩ => if isCells o0 || isCells o || !newOk o || !Nat.ble G r then .bad else ev P G k (w.put r (some ⟨o, x⟩)) K
    | none => .bad
  | .choose q k, w, K =>
    if q.forced then ev P G (k 0) w K else
    match answers q with
    | some n => allR (List.range n) fun i => ev P G (k i) w K
    | none => .bad
  | .sys _ _, _, _ => .bad
  | .program k, w, K => ev P G (k P) w K
  | .mark _ k, w, K => ev P G k w K
  | .halt _, _, _ => .bad

end
end Go.Ab
