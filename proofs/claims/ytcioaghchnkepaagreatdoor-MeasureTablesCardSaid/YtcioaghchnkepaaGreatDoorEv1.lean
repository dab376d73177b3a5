/- The deterministic reading of a run: an evaluator over a world whose block numbers are its own, and whose slices' spare room is left open. Definitions alone. -/
import Derived.Calls
import Derived.KernelRfl
/- The deterministic reading of a run: an evaluator over a world whose block numbers are its own, and whose slices' spare room is left open. Definitions alone. -/
namespace Go.Ab
noncomputable section

/-- A tree over numbers below 2 ^ depth. -/
inductive T (α : Type) where
  | e
  | leaf (v : α)
  | node (l r : T α)

/-- (By the recursors themselves, here and below: the kernel reckons them faster.) -/
def T.get {α : Type} (d : Nat) : T α → Nat → Option α :=
  @Nat.rec (fun _ => T α → Nat → Option α)
    (fun t _ => @T.rec α (fun _ => Option α) none some (fun _ _ _ _ => none) t)
    (fun _ ih t k => @T.rec α (fun _ => Option α) none (fun _ => none) (fun l r _ _ => @Bool.rec (fun _ => Option α) (ih r (Nat.div k 2)) (ih l (Nat.div k 2)) (Nat.beq (Nat.mod k 2) 0)) t) d

def T.left {α : Type} (t : T α) : T α := @T.rec α (fun _ => T α) .e (fun _ => .e) (fun l _ _ _ => l) t
def T.right {α : Type} (t : T α) : T α := @T.rec α (fun _ => T α) .e (fun _ => .e) (fun _ r _ _ => r) t

def T.put {α : Type} (d : Nat) : T α → Nat → Option α → T α :=
  @Nat.rec (fun _ => T α → Nat → Option α → T α)
    (fun _ _ v => @Option.rec α (fun _ => T α) .e .leaf v)
    (fun _ ih t k v => @Bool.rec (fun _ => T α) (.node t.left (ih t.right (Nat.div k 2) v)) (.node (ih t.left (Nat.div k 2) v) t.right) (Nat.beq (Nat.mod k 2) 0)) d

theorem T.get_e {α : Type} : ∀ (d k : Nat), T.get d (.e : T α) k = none
  | 0, _ => rfl
  | _ + 1, _ => rfl

theorem T.get_kids {α : Type} (d : Nat) (t : T α) (k : Nat) :
    T.get (d + 1) t k = if k % 2 = 0 then T.get d t.left (k / 2) else T.get d t.right (k / 2) := by
  cases t with
  | e => simp [T.left, T.right, T.get_e]
  | leaf v => simp [T.left, T.right, T.get_e]; rfl
  | node l r =>
    show @Bool.rec (fun _ => Option α) (T.get d r (k / 2)) (T.get d l (k / 2)) (Nat.beq (k % 2) 0) = _
    by_cases h : k % 2 = 0
    · rw [if_pos h, h]; rfl
    · have : k % 2 = 1 := by omega
      rw [if_neg h, this]; rfl

theorem T.put_succ {α : Type} (d : Nat) (t : T α) (k : Nat) (v : Option α) :
    T.put (d + 1) t k v = if k % 2 = 0 then .node (T.put d t.left (k / 2) v) t.right else .node t.left (T.put d t.right (k / 2) v) := by
  show @Bool.rec (fun _ => T α) (.node t.left (T.put d t.right (k / 2) v)) (.node (T.put d t.left (k / 2) v) t.right) (Nat.beq (k % 2) 0) = _
  by_cases h : k % 2 = 0
  · rw [if_pos h, h]; rfl
  · have : k % 2 = 1 := by omega
    rw [if_neg h, this]; rfl

theorem T.get_put {α : Type} : ∀ (d : Nat) (t : T α) (k : Nat) (v : Option α) (j : Nat), k < 2 ^ d → j < 2 ^ d →
    T.get d (T.put d t k v) j = if j = k then v else T.get d t j
  | 0, t, k, v, j, hk, hj => by
    have : j = k := by omega
    subst this
    cases v <;> simp <;> rfl
  | d + 1, t, k, v, j, hk, hj => by
    have hk2 : k / 2 < 2 ^ d := by rw [Nat.pow_succ] at hk; omega
    have hj2 : j / 2 < 2 ^ d := by rw [Nat.pow_succ] at hj; omega
    rw [T.get_kids d t j, T.get_kids, T.put_succ]
    by_cases a : k % 2 = 0 <;> by_cases b : j % 2 = 0
    · simp only [a, b, if_true]
      show T.get d (T.put d t.left (k / 2) v) (j / 2) = _
      rw [T.get_put d _ _ _ _ hk2 hj2]
      by_cases e : j = k
      · subst e; simp
      · rw [if_neg e, if_neg (by omega)]
    · simp only [a, b, if_true, if_false]
      rw [if_neg (by omega)]; rfl
    · simp only [a, b, if_true, if_false]
      rw [if_neg (by omega)]; rfl
    · simp only [a, b, if_false]
      show T.get d (T.put d t.right (k / 2) v) (j / 2) = _
      rw [T.get_put d _ _ _ _ hk2 hj2]
      by_cases e : j = k
      · subst e; simp
      · rw [if_neg e, if_neg (by omega)]

/-- The same, handed on only when it is laid out: nothing is left to be reckoned later. -/
def T.putK {α R : Type} (d : Nat) : T α → Nat → Option α → (T α → R) → R :=
  @Nat.rec (fun _ => T α → Nat → Option α → (T α → R) → R)
    (fun _ _ v K => @Option.rec α (fun _ => R) (K .e) (fun x => K (.leaf x)) v)
    (fun _ ih t k v K => @T.rec α (fun _ => R)
      (@Bool.rec (fun _ => R) (ih .e (Nat.div k 2) v fun r => K (.node .e r)) (ih .e (Nat.div k 2) v fun l => K (.node l .e)) (Nat.beq (Nat.mod k 2) 0))
      (fun _ => @Bool.rec (fun _ => R) (ih .e (Nat.div k 2) v fun r => K (.node .e r)) (ih .e (Nat.div k 2) v fun l => K (.node l .e)) (Nat.beq (Nat.mod k 2) 0))
      (fun l r _ _ => @Bool.rec (fun _ => R) (ih r (Nat.div k 2) v fun r => K (.node l r)) (ih l (Nat.div k 2) v fun l => K (.node l r)) (Nat.beq (Nat.mod k 2) 0)) t) d

theorem T.putK_eq {α R : Type} : ∀ (d : Nat) (t : T α) (k : Nat) (v : Option α) (K : T α → R), T.putK d t k v K = K (T.put d t k v)
  | 0, t, k, v, K => by cases v <;> rfl
  | d + 1, t, k, v, K => by
    have key : ∀ (l r : T α), @Bool.rec (fun _ => R) (T.putK d r (Nat.div k 2) v fun r => K (.node l r)) (T.putK d l (Nat.div k 2) v fun l => K (.node l r)) (Nat.beq (Nat.mod k 2) 0)
        = K (if k % 2 = 0 then .node (T.put d l (k / 2) v) r else .node l (T.put d r (k / 2) v)) := by
      intro l r
      rw [T.putK_eq d r, T.putK_eq d l]
      by_cases h : k % 2 = 0
      · rw [if_pos h]; show @Bool.rec (fun _ => R) _ _ (Nat.beq (k % 2) 0) = _; rw [h]; rfl
      · have : k % 2 = 1 := by omega
        rw [if_neg h]; show @Bool.rec (fun _ => R) _ _ (Nat.beq (k % 2) 0) = _; rw [this]; rfl
    rw [T.put_succ]
    cases t with
    | e => exact key .e .e
    | leaf v => exact key .e .e
    | node l r => exact key l r

/-- a list, handed on only when it is laid out -/
def forceL {α R : Type} (l : List α) (K : List α → R) : R :=
  @List.rec α (fun _ => (List α → R) → R) (fun K => K []) (fun x _ ih K => ih fun l => K (x :: l)) l K

theorem forceL_eq {α R : Type} (l : List α) (K : List α → R) : forceL l K = K l := by
  induction l generalizing K with
  | nil => rfl
  | cons x l ih => exact ih fun l => K (x :: l)

/-- A block: what it holds as far as it is known, and whether it holds no more than that. -/
structure Blk where
  obj : Obj
  exact : Bool

structure AW where
  next : Nat
  tab : T Blk

/-- what comes of a run: it can't be told, or all ways end so -/
inductive Res where
  | bad
  | ok (l : List (Value × AW))

def Res.cat (a b : Res) : Res :=
  @Res.rec (fun _ => Res) .bad (fun l => @Res.rec (fun _ => Res) .bad (fun m => .ok (l ++ m)) b) a

def allR {α : Type} (l : List α) (f : α → Res) : Res := @List.rec α (fun _ => Res) (.ok []) (fun x _ ih => (f x).cat ih) l

def lim : Nat := 65536
def dep : Nat := 16

def AW.get (w : AW) (r : Nat) : Option Blk := @Bool.rec (fun _ => Option Blk) none (T.get dep w.tab r) (Nat.blt r lim)
def AW.put (w : AW) (r : Nat) (b : Option Blk) : AW := { w with tab := T.put dep w.tab r b }
def AW.push (w : AW) (b : Blk) : AW := { next := w.next + 1, tab := T.put dep w.tab w.next (some b) }
def AW.drop (w : AW) (r : Nat) : AW := w.put r none

def AW.putK (w : AW) (r : Nat) (b : Option Blk) (K : AW → Res) : Res := T.putK dep w.tab r b fun t => K ⟨w.next, t⟩
theorem AW.putK_eq (w : AW) (r : Nat) (b : Option Blk) (K : AW → Res) : w.putK r b K = K (w.put r b) := T.putK_eq dep w.tab r b _

def AW.cell (w : AW) (a : Addr) : Option Value :=
  match w.get a.block with
  | some ⟨.cells c _ _, _⟩ => match a.spot with
    | none => c[a.off]?
    | some _ => none
  | _ => none

/-- what stands for 'one cell behind the last is marked' -/
def mark : Nat × Nat := (4611686018427387904, 4611686018427387905)
def inRange (r : Nat × Nat) (n : Nat) : Bool := Nat.ble r.1 n && Nat.blt n r.2

/-- the world behind a store, if it may be -/
def AW.store (G : Nat) (w : AW) (a : Addr) (v : Value) : Option AW :=
  match w.get a.block with
  | some ⟨.cells c e fr, x⟩ =>
    if Nat.ble G a.block && a.spot.isNone && Nat.blt a.off c.size && !inRange fr a.off then
      some (w.put a.block (some ⟨.cells (c.setIfInBounds a.off v) e fr, x⟩))
    else none
  | _ => none

def single : Value → Bool
  | .agg _ | .tuple _ => false
  | _ => true

/-- objects that may be made anew -/
def newOk : Obj → Bool
  | .cells _ _ (lo, hi) => lo == 0 && hi == 0
  | .map _ _ | .mapIter .. | .stringIter .. => true
  | _ => false

def isCells : Obj → Bool
  | .cells .. => true
  | _ => false

/-- how many answers there may be -/
def answers : Question → Option Nat
  | .mapNext n => some n
  | .extern _ 0 => none
  | .extern _ (n + 1) => some (n + 1)
  | _ => none

def ev (P : Program) (G : Nat) {α : Type} : Sem α → AW → (α → AW → Res) → Res
  | .pure a, w, K => K a w
  | .load _ a k, w, K => match w.cell a with
    | some v => ev P G (k v) w K
    | none => .bad
  | .store _ a v k, w, K => if single v then match w.store G a v with
      | some w' => ev P G k w' K
      | none => .bad
    else .bad
  | .new o k, w, K => if newOk o && Nat.blt w.next lim then ev P G (k w.next) (w.push ⟨o, true⟩) K else .bad
  | .shape r k, w, K => match w.get r with
    | some ⟨.cells c e _, true⟩ => ev P G (k (some (e, c.size))) w K
    | some ⟨.cells _ _ _, false⟩ => .bad
    | some _ => ev P G (k none) w K
    | none => .bad
  | .freeze a n k, w, K => match w.get a.block with
    | some ⟨.cells c e (lo, hi), x⟩ =>
      if Nat.ble G a.block && Nat.ble (a.off + n) c.size && Nat.blt hi mark.1 then
        if n == 0 then ev P G k w K else
        ev P G k (w.put a.block (some ⟨.cells c e (if lo == hi then (a.off, a.off + n) else (min lo a.off, max hi (a.off + n))), x⟩)) K
      else .bad
    | _ => .bad
  | .frozen a k, w, K => match w.get a.block with
    | some ⟨.cells c _ fr, _⟩ => if Nat.blt a.off c.size && !inRange fr a.off then ev P G (k false) w K else .bad
    | _ => .bad
  | .getObj r k, w, K => match w.get r with
    | some ⟨o, _⟩ => if isCells o then .bad else ev P G (k o) w K
    | none => .bad
  | .setObj r o k, w, K => match w.get r with
    | some ⟨o0, x⟩ => if isCells o0 || isCells o || !newOk o || !Nat.ble G r then .bad else ev P G k (w.put r (some ⟨o, x⟩)) K
    | none => .bad
  | .choose q k, w, K =>
    if q.forced then ev P G (k 0) w K else
    match answers q with
    | some n => allR (List.range n) fun i => ev P G (k i) w K
    | none => .bad
  | .sys _ _, _, _ => .bad
  | .program k, w, K => ev P G (k P) w K
  | .mark _ k, w, K => ev P G k w K
  | .halt _, _, _ => .bad

end
end Go.Ab
/- The evaluator's operations, code and calls. Definitions alone. -/
namespace Go.Ab
noncomputable section

/-- A word that the kernel reckons once: where the code is closed, what is in the box is kept. -/
inductive Box (α : Type) where
  | mk (f : α)
def Box.run {α : Type} (b : Box α) : α := @Box.rec α (fun _ => α) (fun f => f) b

def onSome {α : Type} (x : Option α) (k : α → Res) : Res := @Option.rec α (fun _ => Res) .bad k x
def orElse {α β : Type} (x : Option α) (d : β) (k : α → β) : β := @Option.rec α (fun _ => β) d k x
/-- go on, if so -/
def must (b : Bool) (r : Res) : Res := @Bool.rec (fun _ => Res) .bad r b

/-- what a word comes to that touches no memory -/
def pureRun (P : Program) {α : Type} : Sem α → Option α
  | .pure a => some a
  | .program k => pureRun P (k P)
  | .mark _ k => pureRun P k
  | _ => none

def scalar1 : Value → Bool
  | .bool _ | .int _ _ | .string _ => true
  | _ => false

/-- values that lead to no memory -/
def scalarV : Value → Bool
  | .bool _ | .int _ _ | .string _ => true
  | .agg c => c.toList.all scalar1
  | _ => false

/-- constants that mean the same on both sides -/
def constOk : Nat → Value → Bool
  | _, .bool _ | _, .int _ _ | _, .string _ | _, .pointer none | _, .slice none _ _ | _, .map none | _, .nilFunc | _, .nilIface => true
  | _, .func (.func _) f c => f.toList.isEmpty && c.toList.isEmpty
  | n + 1, .agg c => c.toList.all (constOk n)
  | n + 1, .tuple c => c.toList.all (constOk n)
  | n + 1, .iface _ v => constOk n v
  | _, _ => false

/- frames: trees over the slots -/
abbrev AA := T Value

def path : Nat → Nat → List Bool
  | 0, _ => []
  | d + 1, k => Nat.beq (Nat.mod k 2) 0 :: path d (Nat.div k 2)

def T.at {α : Type} (p : List Bool) : T α → Option α :=
  @List.rec Bool (fun _ => T α → Option α)
    (fun t => @T.rec α (fun _ => Option α) none some (fun _ _ _ _ => none) t)
    (fun b _ ih t => @T.rec α (fun _ => Option α) none (fun _ => none) (fun l r _ _ => @Bool.rec (fun _ => Option α) (ih r) (ih l) b) t) p

def T.to {α : Type} (v : α) (p : List Bool) : T α → T α :=
  @List.rec Bool (fun _ => T α → T α)
    (fun _ => .leaf v)
    (fun b _ ih t => @Bool.rec (fun _ => T α) (.node t.left (ih t.right)) (.node (ih t.left) t.right) b) p

def T.toK {α R : Type} (v : α) (p : List Bool) : T α → (T α → R) → R :=
  @List.rec Bool (fun _ => T α → (T α → R) → R)
    (fun _ K => K (.leaf v))
    (fun b _ ih t K => @T.rec α (fun _ => R)
      (@Bool.rec (fun _ => R) (ih .e fun r => K (.node .e r)) (ih .e fun l => K (.node l .e)) b)
      (fun _ => @Bool.rec (fun _ => R) (ih .e fun r => K (.node .e r)) (ih .e fun l => K (.node l .e)) b)
      (fun l r _ _ => @Bool.rec (fun _ => R) (ih r fun r => K (.node l r)) (ih l fun l => K (.node l r)) b) t) p

theorem T.toK_eq {α R : Type} (v : α) (p : List Bool) (t : T α) (K : T α → R) : T.toK v p t K = K (T.to v p t) := by
  induction p generalizing t K with
  | nil => rfl
  | cons b p ih =>
    have key : ∀ (l r : T α), @Bool.rec (fun _ => R) (T.toK v p r fun r => K (.node l r)) (T.toK v p l fun l => K (.node l r)) b
        = K (@Bool.rec (fun _ => T α) (.node l (T.to v p r)) (.node (T.to v p l) r) b) := by
      intro l r
      rw [ih r, ih l]
      cases b <;> rfl
    cases t with
    | e => exact key .e .e
    | leaf x => exact key .e .e
    | node l r => exact key l r

/-- how deep a frame's tree is -/
def deep (n : Nat) : Nat := cond (Nat.ble n 16) 4 (cond (Nat.ble n 32) 5 (cond (Nat.ble n 64) 6 (cond (Nat.ble n 128) 7 10)))

def opd (d : Nat) : Operand → Box (AA → Value)
  | .tmp t => .mk fun a => @Option.rec Value (fun _ => Value) undef (fun v => v) (T.at (path d t) a)
  | .const v => .mk fun _ => v
  | .global g => .mk fun _ => .pointer (some ⟨g, 0, none⟩)
  | .func f => .mk fun _ => .func (.func f) #[] #[]

/- numbers -/
def kix (k : IntKind) : Nat := @IntKind.rec (fun _ => Nat) 0 1 2 3 4 5 6 7 k
def kq (a b : IntKind) : Bool := Nat.beq (kix a) (kix b)
/-- below it all are of the kind; and a signed kind's least is its negative -/
def hi (k : IntKind) : Nat := @IntKind.rec (fun _ => Nat) 128 32768 2147483648 9223372036854775808 256 65536 4294967296 18446744073709551616 k
def uns (k : IntKind) : Bool := @IntKind.rec (fun _ => Bool) false false false false true true true true k

def norm (k : IntKind) (v : Nat) : Int := @Bool.rec (fun _ => Int) (@Bool.rec (fun _ => Int) (k.wrap (.ofNat v)) (.ofNat (Nat.mod v (hi k))) (uns k)) (.ofNat v) (Nat.blt v (hi k))
def two (x y : Int) (slow : Unit → Int) (f : Nat → Nat → Int) : Int :=
  @Int.rec (fun _ => Int) (fun m => @Int.rec (fun _ => Int) (fun n => f m n) (fun _ => slow ()) y) (fun _ => slow ()) x

def fAdd (k : IntKind) (x y : Int) : Int := two x y (fun _ => k.wrap (x + y)) fun m n => norm k (Nat.add m n)
def fSub (k : IntKind) (x y : Int) : Int := two x y (fun _ => k.wrap (x - y)) fun m n => @Bool.rec (fun _ => Int) (k.wrap (x - y)) (norm k (Nat.sub m n)) (Nat.ble n m)
def fMul (k : IntKind) (x y : Int) : Int := two x y (fun _ => k.wrap (x * y)) fun m n => norm k (Nat.mul m n)
def iEq (x y : Int) : Bool :=
  @Int.rec (fun _ => Bool) (fun m => @Int.rec (fun _ => Bool) (fun n => Nat.beq m n) (fun _ => false) y)
    (fun m => @Int.rec (fun _ => Bool) (fun _ => false) (fun n => Nat.beq m n) y) x
def iLt (x y : Int) : Bool :=
  @Int.rec (fun _ => Bool) (fun m => @Int.rec (fun _ => Bool) (fun n => Nat.blt m n) (fun _ => false) y)
    (fun m => @Int.rec (fun _ => Bool) (fun _ => true) (fun n => Nat.blt n m) y) x

/-- bits of two numbers that both lie below 'hi' -/
def bits2 (k : IntKind) (x y : Int) (slow : Unit → Int) (f : Nat → Nat → Nat) : Int :=
  two x y slow fun m n => @Bool.rec (fun _ => Int) (slow ()) (@Bool.rec (fun _ => Int) (slow ()) (.ofNat (f m n)) (Nat.blt n (hi k))) (Nat.blt m (hi k))
def fAnd (k : IntKind) (x y : Int) : Int := bits2 k x y (fun _ => k.wrap (BitVec.ofInt k.bits x &&& BitVec.ofInt k.bits y).toNat) Nat.land
def fOr (k : IntKind) (x y : Int) : Int := bits2 k x y (fun _ => k.wrap (BitVec.ofInt k.bits x ||| BitVec.ofInt k.bits y).toNat) Nat.lor
def fXor (k : IntKind) (x y : Int) : Int := bits2 k x y (fun _ => k.wrap (BitVec.ofInt k.bits x ^^^ BitVec.ofInt k.bits y).toNat) Nat.xor
def fAndNot (k : IntKind) (x y : Int) : Int := bits2 k x y (fun _ => k.wrap (BitVec.ofInt k.bits x &&& ~~~BitVec.ofInt k.bits y).toNat) fun m n => Nat.xor m (Nat.land m n)
def fQuo (k : IntKind) (x y : Int) : Int := two x y (fun _ => k.wrap (x.tdiv y)) fun m n => norm k (Nat.div m n)
def fRem (x y : Int) : Int := two x y (fun _ => x.tmod y) fun m n => .ofNat (Nat.mod m n)
def natOf (y : Int) (k : Nat → Option Value) : Option Value := @Int.rec (fun _ => Option Value) k (fun _ => none) y
def bitsOf (k : IntKind) : Nat := @IntKind.rec (fun _ => Nat) 8 16 32 64 8 16 32 64 k
def fShl (k : IntKind) (x : Int) (y : Nat) : Int := @Int.rec (fun _ => Int) (fun m => norm k (Nat.shiftLeft m (Nat.min y (bitsOf k)))) (fun _ => k.wrap (x * 2 ^ (min y k.bits))) x
def fShr (k : IntKind) (x : Int) (y : Nat) : Int := @Int.rec (fun _ => Int) (fun m => .ofNat (Nat.shiftRight m (Nat.min y (bitsOf k)))) (fun _ => x.fdiv (2 ^ (min y k.bits))) x

def onInt (v : Value) (f : IntKind → Int → Option Value) : Option Value :=
  match v with
  | .int k n => f k n
  | _ => none

def ints (f : IntKind → Int → Int → Option Value) : Box (Value → Value → Option Value) :=
  .mk fun x y => onInt x fun k m => onInt y fun k' n => @Bool.rec (fun _ => Option Value) none (f k m n) (kq k k')

def intBin : BinOp → Box (Value → Value → Option Value)
  | .add => ints fun k m n => some (.int k (fAdd k m n))
  | .sub => ints fun k m n => some (.int k (fSub k m n))
  | .mul => ints fun k m n => some (.int k (fMul k m n))
  | .quo => ints fun k m n => @Bool.rec (fun _ => Option Value) (some (.int k (fQuo k m n))) none (iEq n 0)
  | .rem => ints fun k m n => @Bool.rec (fun _ => Option Value) (some (.int k (fRem m n))) none (iEq n 0)
  | .and => ints fun k m n => some (.int k (fAnd k m n))
  | .or => ints fun k m n => some (.int k (fOr k m n))
  | .xor => ints fun k m n => some (.int k (fXor k m n))
  | .andNot => ints fun k m n => some (.int k (fAndNot k m n))
  | .shl => .mk fun x y => onInt x fun k m => onInt y fun _ n => natOf n fun n => some (.int k (fShl k m n))
  | .shr => .mk fun x y => onInt x fun k m => onInt y fun _ n => natOf n fun n => some (.int k (fShr k m n))
  | .eql => ints fun _ m n => some (.bool (iEq m n))
  | .neq => ints fun _ m n => some (.bool (!iEq m n))
  | .lss => ints fun _ m n => some (.bool (iLt m n))
  | .leq => ints fun _ m n => some (.bool (!iLt n m))
  | .gtr => ints fun _ m n => some (.bool (iLt n m))
  | .geq => ints fun _ m n => some (.bool (!iLt m n))

def boolBin : BinOp → Box (Value → Value → Option Value)
  | .eql => .mk fun x y => match x, y with | .bool a, .bool b => some (.bool (a == b)) | _, _ => none
  | .neq => .mk fun x y => match x, y with | .bool a, .bool b => some (.bool (!(a == b))) | _, _ => none
  | _ => .mk fun _ _ => none

def bytesEq (a b : List UInt8) : Bool :=
  @List.rec UInt8 (fun _ => List UInt8 → Bool) (fun b => @List.rec UInt8 (fun _ => Bool) true (fun _ _ _ => false) b)
    (fun x _ ih b => @List.rec UInt8 (fun _ => Bool) false (fun y l _ => @Bool.rec (fun _ => Bool) false (ih l) (Nat.beq x.toNat y.toNat)) b) a b

def strBin : BinOp → Box (Value → Value → Option Value)
  | .eql => .mk fun x y => match x, y with | .string a, .string b => some (.bool (bytesEq a.data.toList b.data.toList)) | _, _ => none
  | .neq => .mk fun x y => match x, y with | .string a, .string b => some (.bool (!bytesEq a.data.toList b.data.toList)) | _, _ => none
  | .add => .mk fun x y => match x, y with
    | .string a, .string b => @Bool.rec (fun _ => Option Value) none (some (.string ⟨⟨a.data.toList ++ b.data.toList⟩⟩)) (Nat.ble (Nat.add a.data.toList.length b.data.toList.length) 4611686018427387904)
    | _, _ => none
  | _ => .mk fun _ _ => none

def say (op : BinOp) (b : Bool) : Option Value := match op with | .eql => some (.bool b) | .neq => some (.bool (!b)) | _ => none

/- against a bare nil -/
def ptrBin (op : BinOp) : Box (Value → Value → Option Value) :=
  .mk fun x y => match x, y with
    | .pointer none, .pointer b => say op b.isNone
    | .pointer (some _), .pointer none => say op false
    | .pointer (some a), .pointer (some b) => cond (Nat.beq a.block b.block && Nat.beq a.off b.off && a.spot.isNone && b.spot.isNone) (say op true) none
    | _, _ => none
def slBin (op : BinOp) : Box (Value → Value → Option Value) :=
  .mk fun x y => match x, y with
    | .slice none _ _, .slice b _ _ => say op b.isNone
    | .slice (some _) _ _, .slice none _ _ => say op false
    | _, _ => none
def mapBin (op : BinOp) : Box (Value → Value → Option Value) :=
  .mk fun x y => match x, y with
    | .map none, .map b => say op b.isNone
    | .map (some _), .map none => say op false
    | _, _ => none
def fnBin (op : BinOp) : Box (Value → Value → Option Value) :=
  .mk fun x y => match x, y with
    | .nilFunc, .nilFunc => say op true
    | .nilFunc, .func _ _ _ => say op false
    | .func _ _ _, .nilFunc => say op false
    | _, _ => none
def ifBin (op : BinOp) (xc yc : Bool) : Box (Value → Value → Option Value) :=
  .mk fun x y => match x, y with
    | .nilIface, .nilIface => cond (xc || yc) (say op true) none
    | .nilIface, .iface _ _ => say op false
    | .iface _ _, .nilIface => say op false
    | _, _ => none

def isConst : Operand → Bool
  | .const _ => true
  | _ => false

def binF (P : Program) (op : BinOp) (t : TypeId) (xc yc : Bool) : Box (Value → Value → Option Value) :=
  match P.underlying t with
  | some (.int _) => intBin op
  | some .bool => boolBin op
  | some .string => strBin op
  | some (.pointer e) => cond (P.info? e).isSome (ptrBin op) (.mk fun _ _ => none)
  | some (.slice _) => slBin op
  | some (.map ..) => mapBin op
  | some (.func ..) => fnBin op
  | some (.interface _) => ifBin op xc yc
  | _ => .mk fun _ _ => none

/- memory -/
/-- a run of cells -/
def runOf (n : Nat) (c : Array Value) (off : Nat) : Option Value := @Bool.rec (fun _ => Option Value) none (some (.agg ⟨(c.toList.drop off).take n⟩)) (Nat.ble (Nat.add off n) c.toList.length)

def addrF (v : Value) (f : Addr → Option Value) : Option Value :=
  match v with
  | .pointer (some a) => f a
  | _ => none

def loadAgg (n : Nat) (a : Addr) (w : AW) : Option Value :=
  match w.get a.block with
  | some ⟨.cells c _ _, _⟩ => match a.spot with
    | none => runOf n c a.off
    | some _ => none
  | _ => none

abbrev QF := AA → AW → Option Value

def isAggD : TypeDesc → Bool
  | .struct _ | .array _ _ => true
  | _ => false

def loadF (P : Program) (t : TypeId) : Box (Addr → AW → Option Value) :=
  match P.underlying t, P.info? t with
  | some d, some inf => cond (isAggD d) (.mk fun a w => loadAgg inf.size a w) (.mk fun a w => w.cell a)
  | _, _ => .mk fun _ _ => none

/-- a part of a value -/
def partF (P : Program) (t : TypeId) : Box (Array Value → Nat → Option Value) :=
  match P.underlying t, P.info? t with
  | some d, some inf => cond (isAggD d) (.mk fun c off => runOf inf.size c off) (.mk fun c off => c[off]?)
  | _, _ => .mk fun _ _ => none

def aggF (v : Value) (f : Array Value → Option Value) : Option Value :=
  match v with
  | .agg c => f c
  | _ => none

def fieldOf (P : Program) (s : TypeId) (i : Nat) : Option Field :=
  match P.underlying s with
  | some (.struct fs) => fs[i]?
  | _ => none

def sizeIs (P : Program) (t : TypeId) : Nat := match P.info? t with | some i => i.size | none => 0

def nth (n len : Nat) (i : Int) (f : Nat → Option Value) : Option Value :=
  natOf i fun i => @Bool.rec (fun _ => Option Value) none (f (Nat.mul i n)) (Nat.blt i len)

def indexAddrF (P : Program) (t : TypeId) : Box (Value → Value → Option Value) :=
  match P.underlying t with
  | some (.slice e) => match P.info? e with
    | some inf => .mk fun x ix => onInt ix fun _ i => match x with
      | .slice (some a) len _ => nth inf.size len i fun o => some (.pointer (some (a.add o)))
      | _ => none
    | none => .mk fun _ _ => none
  | some (.array len e) => match P.info? e with
    | some inf => .mk fun x ix => onInt ix fun _ i => match x with
      | .pointer (some a) => nth inf.size len i fun o => some (.pointer (some (a.add o)))
      | _ => none
    | none => .mk fun _ _ => none
  | _ => .mk fun _ _ => none

def indexF (P : Program) (t : TypeId) : Box (Value → Value → Option Value) :=
  match P.underlying t with
  | some (.array len e) => match P.info? e with
    | some inf => .mk fun x ix => onInt ix fun _ i => match x with
      | .agg c => nth inf.size len i fun o => (partF P e).run c o
      | _ => none
    | none => .mk fun _ _ => none
  | some .string => .mk fun x ix => onInt ix fun _ i => match x with
    | .string s => natOf i fun i => @Option.rec UInt8 (fun _ => Option Value) none (fun b => some (.int .u8 b.toNat)) s.data.toList[i]?
    | _ => none
  | _ => .mk fun _ _ => none

def bound (d : Nat) : Option Value → Option Nat
  | none => some d
  | some (.int _ (.ofNat i)) => some i
  | _ => none

/-- 's[l:h]' of a slice, a string, an array in memory -/
def sliceF (P : Program) (t : TypeId) : Box (Value → Option Value → Option Value → Option Value) :=
  match P.underlying t with
  | some .string => .mk fun x lo hi => match x with
    | .string s => match bound s.data.toList.length hi, bound 0 lo with
      | some h, some l => cond (Nat.ble l h && Nat.ble h s.data.toList.length) (some (.string ⟨⟨(s.data.toList.drop l).take (h - l)⟩⟩)) none
      | _, _ => none
    | _ => none
  | some (.slice e) => match P.info? e with
    | some inf => .mk fun x lo hi => match x with
      | .slice a len cap => match bound len hi, bound 0 lo with
        | some h, some l => cond (Nat.ble l h && Nat.ble h cap) (some (.slice (a.map (·.add (Nat.mul l inf.size))) (h - l) (cap - l))) none
        | _, _ => none
      | _ => none
    | none => .mk fun _ _ _ => none
  | _ => .mk fun _ _ _ => none

def fnFine : Fn → Bool
  | .func _ => true
  | _ => false

def lenF (x : Value) (w : AW) : Option Value :=
  match x with
  | .slice _ n _ => some (.int .i64 (.ofNat n))
  | .string s => some (.int .i64 (.ofNat s.data.toList.length))
  | .map none => some (.int .i64 0)
  | .map (some r) => match w.get r with
    | some ⟨.map es _, _⟩ => some (.int .i64 (.ofNat es.toList.length))
    | _ => none
  | _ => none

def maxF (x y : Value) : Option Value := onInt x fun k m => onInt y fun _ n => some (.int k (cond (iLt m n) n m))
def minF (x y : Value) : Option Value := onInt x fun k m => onInt y fun _ n => some (.int k (cond (iLt n m) n m))

def fold2 (f : Value → Value → Option Value) : List Value → Value → Option Value
  | [], x => some x
  | y :: l, x => orElse (f x y) none fun z => fold2 f l z

/-- lengths that the static type tells to be of slices, strings, maps -/
def lenType (P : Program) (t : TypeId) : Bool :=
  match P.underlying t with
  | some .string | some (.slice _) | some (.map ..) => true
  | _ => false

def strType (P : Program) (t : TypeId) : Bool := match P.underlying t with | some .string => true | _ => false
def mapType (P : Program) (t : TypeId) : Bool := match P.underlying t with | some (.map ..) => true | _ => false
def slType (P : Program) (t : TypeId) : Bool := match P.underlying t with | some (.slice ..) => true | _ => false

def lenB (P : Program) (t : TypeId) : Box (Value → AW → Option Value) :=
  match P.underlying t with
  | some .string => .mk fun x _ => match x with | .string s => some (.int .i64 (.ofNat s.data.toList.length)) | _ => none
  | some (.slice _) => .mk fun x _ => match x with | .slice _ n _ => some (.int .i64 (.ofNat n)) | _ => none
  | some (.map ..) => .mk fun x w => match x with
    | .map none => some (.int .i64 0)
    | .map (some r) => match w.get r with
      | some ⟨.map es _, _⟩ => some (.int .i64 (.ofNat es.toList.length))
      | _ => none
    | _ => none
  | _ => .mk fun _ _ => none

def arrType (P : Program) (t : TypeId) : Bool := match P.underlying t with | some (.array ..) => true | _ => false

/-- where a struct's or an array's parts lie, and its zero -/
def placeOf (l : List (Nat × Nat)) (i : Nat) : Option (Nat × Nat) := l[i]?
def sizes (P : Program) : List Field → Option (List (Nat × Nat))
  | [] => some []
  | f :: l => match P.info? f.type, sizes P l with
    | some i, some r => some ((f.offset, i.size) :: r)
    | _, _ => none
def buildPlaces (P : Program) (t : TypeId) : Option (Array Value × List (Nat × Nat)) :=
  match P.info? t, P.underlying t with
  | some inf, some d => match inf.zero, d with
    | some z, .struct fs => match sizes P fs.toList with
      | some l => cond (constOk 4 z) (some (z.cells, l)) none
      | none => none
    | some z, .array n e => match P.info? e with
      | some i => cond (constOk 4 z) (some (z.cells, (List.range n).map fun j => (j * i.size, i.size))) none
      | none => none
    | _, _ => none
  | _, _ => none

/-- a map's entries -/
def entriesOf (w : AW) : Value → Option (Array MapEntry)
  | .map none => some #[]
  | .map (some r) => match w.get r with
    | some ⟨.map es _, _⟩ => some es
    | _ => none
  | _ => none

/-- the place of a key among entries -/
def keyAt (P : Program) (key : TypeId) (k : Value) (es : Array MapEntry) : Option (Option (Nat × Value)) :=
  cond (scalarV k && es.toList.all fun e => scalarV e.key)
    (orElse (pureRun P (Instr.checkKey es.isEmpty 10000 key k)) none fun _ => pureRun P (Instr.findKey key k es.toList)) none

def lookupF (P : Program) (key : TypeId) (z : Value) (ok : Bool) (x k : Value) (w : AW) : Option Value :=
  orElse (entriesOf w x) none fun es => orElse (keyAt P key k es) none fun r =>
    @Option.rec (Nat × Value) (fun _ => Option Value)
      (some (cond ok (.tuple #[z, .bool false]) z)) (fun p => some (cond ok (.tuple #[p.2, .bool true]) p.2)) r

/-- any operator on plain values, by the model's own run of it -/
def pureBin (P : Program) (op : BinOp) (t : TypeId) (x y : Operand) (v u : Value) : Option Value :=
  match pureRun P (do eqGuard op t x y v u; binOp op t v u) with
  | some r => cond (constOk 4 r) (some r) none
  | none => none

/-- The quiet operations: they only reckon and read. -/
def quiet (P : Program) (d : Nat) : Op → Option (Box QF)
  | .move x | .assign x => some (.mk fun a _ => some ((opd d x).run a))
  | .pick c x y => some (.mk fun a _ => match (opd d c).run a with
    | .bool b => some (@Bool.rec (fun _ => Value) ((opd d y).run a) ((opd d x).run a) b)
    | _ => none)
  | .load t x => some (.mk fun a w => addrF ((opd d x).run a) fun p => (loadF P t).run p w)
  | .nilCheck x => some (.mk fun a _ => match (opd d x).run a with
    | .pointer (some p) => some (.pointer (some p))
    | .func (.func g) f c => some (.func (.func g) f c)
    | _ => none)
  | .binOp op t x y _ => some (.mk fun a _ =>
      @Option.rec Value (fun _ => Option Value)
        (cond (scalarV ((opd d x).run a) && scalarV ((opd d y).run a)) (pureBin P op t x y ((opd d x).run a) ((opd d y).run a)) none)
        some ((binF P op t (isConst x) (isConst y)).run ((opd d x).run a) ((opd d y).run a)))
  | .unOp .not _ x => some (.mk fun a _ => match (opd d x).run a with
    | .bool b => some (.bool (!b))
    | _ => none)
  | .unOp .neg _ x => some (.mk fun a _ => onInt ((opd d x).run a) fun k n => some (.int k (fSub k 0 n)))
  | .unOp .xor _ x => some (.mk fun a _ => onInt ((opd d x).run a) fun k n => some (.int k (fXor k (if k.signed then -1 else k.max) n)))
  | .build t parts => match buildPlaces P t with
    | some (zero, places) => some (.mk fun a _ => orElse (Instr.fill (placeOf places) zero ((parts.toList.map fun p => (p.1, (opd d p.2).run a)))) none fun c => some (.agg c))
    | none => none
  | .lookup t x ix ok => match P.underlying t with
    | some (.map key elem) => match P.info? elem with
      | some inf => match inf.zero with
        | some z => cond (constOk 4 z) (some (.mk fun a w => lookupF P key z ok ((opd d x).run a) ((opd d ix).run a) w)) none
        | none => none
      | none => none
    | _ => none
  | .convert s t x => match P.underlying s, P.underlying t with
    | some (.int _), some (.int k) => some (.mk fun a _ => onInt ((opd d x).run a) fun _ n => some (.int k (fAdd k n 0)))
    | some .string, some .string => some (.mk fun a _ => match (opd d x).run a with
      | .string s => some (.string s)
      | _ => none)
    | _, _ => none
  | .makeInterface t x => match P.underlying t with
    | none | some (.interface _) => none
    | _ => some (.mk fun a _ => some (.iface t ((opd d x).run a)))
  | .makeFunc f first captured => cond (fnFine f) (some (.mk fun a _ => some (.func f (first.map fun x => (opd d x).run a) (captured.map fun x => (opd d x).run a)))) none
  | .fieldAddr s x i => match fieldOf P s i with
    | some f => cond (Nat.blt 0 (sizeIs P f.type)) (some (.mk fun a _ => addrF ((opd d x).run a) fun p => some (.pointer (some (p.add f.offset))))) none
    | none => none
  | .field s x i => match fieldOf P s i with
    | some f => some (.mk fun a _ => aggF ((opd d x).run a) fun c => (partF P f.type).run c f.offset)
    | none => none
  | .indexAddr t x ix => some (.mk fun a _ => (indexAddrF P t).run ((opd d x).run a) ((opd d ix).run a))
  | .index t x ix => some (.mk fun a _ => (indexF P t).run ((opd d x).run a) ((opd d ix).run a))
  | .extract x i => some (.mk fun a _ => match (opd d x).run a with
    | .tuple vs => vs[i]?
    | _ => none)
  | .slice t x lo hi none => cond (arrType P t) none <| some (.mk fun a _ => (sliceF P t).run ((opd d x).run a) (lo.map fun y => (opd d y).run a) (hi.map fun y => (opd d y).run a))
  | .call c => match c.callee, c.args.toList, c.argTypes[0]? with
    | .builtin .len, [x], some t => some (.mk fun a w => (lenB P t).run ((opd d x).run a) w)
    | .builtin .max, x :: l, _ => some (.mk fun a _ => fold2 maxF (l.map fun y => (opd d y).run a) ((opd d x).run a))
    | .builtin .min, x :: l, _ => some (.mk fun a _ => fold2 minF (l.map fun y => (opd d y).run a) ((opd d x).run a))
    | _, _, _ => none
  | _ => none

/-- functions whose answers are known -/
abbrev Known := FuncId → Option (List Value → Option Value)

abbrev VK := Value → AW → Res
abbrev CallF := FuncId → List Value → AW → VK → Res
abbrev EF := CallF → AA → AW → VK → Res

/- what makes memory, writes, calls -/
def pushK (o : Obj) (exact : Bool) (w : AW) (K : Nat → AW → Res) : Res :=
  @Bool.rec (fun _ => Res) .bad (T.putK dep w.tab w.next (some ⟨o, exact⟩) fun t => K w.next ⟨Nat.add w.next 1, t⟩) (Nat.blt w.next lim)

/-- the list with a run of it written -/
def setRun : List Value → List Value → Nat → List Value
  | l, [], _ => l
  | l, v :: vs, i => setRun (l.set i v) vs (i + 1)

/-- a store of all of a value's cells -/
def storeK (G : Nat) (a : Addr) (vs : List Value) (w : AW) (K : AW → Res) : Res :=
  match w.get a.block with
  | some ⟨.cells c e fr, x⟩ =>
    cond (Nat.ble G a.block && a.spot.isNone && Nat.ble (Nat.add a.off vs.length) c.toList.length && (Nat.ble fr.2 fr.1 || Nat.ble fr.2 a.off || Nat.ble (Nat.add a.off vs.length) fr.1) && vs.all single)
      (forceL (setRun c.toList vs a.off) fun l => w.putK a.block (some ⟨.cells ⟨l⟩ e fr, x⟩) K) .bad
  | _ => .bad

def lenV : Value → Option Nat
  | .slice _ n _ => some n
  | .string s => some s.data.toList.length
  | _ => none

/-- the first n elements' cells -/
def firstF (size n : Nat) (w : AW) : Value → Option (List Value)
  | .slice (some a) _ _ => match loadAgg (Nat.mul n size) a w with
    | some (.agg c) => some c.toList
    | _ => none
  | .slice none _ _ => some []
  | .string s => some ((s.data.toList.take n).map fun b => .int .u8 b.toNat)
  | _ => none

def clearOf (fr : Nat × Nat) (n : Nat) : Bool := Nat.ble fr.2 n || (Nat.beq fr.1 mark.1 && Nat.beq fr.2 mark.2)

def zeroFits (inf : TypeInfo) : Bool := match inf.zero with | some z => Nat.beq z.cells.size inf.size | none => false

/-- 'append': within the room that is known in place; else what was there is let go, if its room isn't known, or copied. -/
def appendK (_P : Program) (G : Nat) (elem : TypeId) (inf : TypeInfo) (s x : Value) (w : AW) (K : VK) : Res :=
  match s, lenV x with
  | .slice base sLen sCap, some n =>
    match firstF inf.size n w x with
    | some new =>
      cond (!Nat.beq new.length (Nat.mul n inf.size)) .bad <|
      let need := Nat.add sLen n
      cond (Nat.ble need sCap)
        (match base with
          | none => K (.slice none need sCap) w
          | some a => storeK G (a.add (Nat.mul sLen inf.size)) new w fun w => K (.slice (some a) need sCap) w)
        (cond (!(Nat.ble need lim && Nat.ble inf.bytes lim && Nat.blt 0 inf.size && Nat.ble inf.size lim && zeroFits inf)) .bad <|
          match base with
          | none => cond (Nat.beq sLen 0) (forceL new fun new => pushK (.cells ⟨new⟩ elem) false w fun r w => K (.slice (some ⟨r, 0, none⟩) need need) w) .bad
          | some a => match w.get a.block with
            | some ⟨.cells _c _e _fr, true⟩ =>
              match loadAgg (Nat.mul sLen inf.size) a w with
              | some (.agg old) => forceL (old.toList ++ new) fun l => pushK (.cells ⟨l⟩ elem) false w fun r w => K (.slice (some ⟨r, 0, none⟩) need need) w
              | _ => .bad
            | some ⟨.cells c e fr, false⟩ =>
              cond (Nat.ble G a.block && Nat.beq a.off 0 && a.spot.isNone && Nat.beq e elem && Nat.beq c.toList.length (Nat.mul sCap inf.size) && Nat.ble sLen sCap && clearOf fr (Nat.mul sLen inf.size) && new.all single)
                (forceL (c.toList.take (Nat.mul sLen inf.size) ++ new) fun l => w.putK a.block none fun w => pushK (.cells ⟨l⟩ elem fr) false w fun r w => K (.slice (some ⟨r, 0, none⟩) need need) w) .bad
            | _ => .bad)
    | none => .bad
  | _, _ => .bad

/-- '[]byte(s)' -/
def bytesK (elem : TypeId) (inf : TypeInfo) (s : ByteArray) (w : AW) (K : VK) : Res :=
  cond (Nat.beq inf.size 1) (forceL (s.data.toList.map fun b => Value.int .u8 b.toNat) fun l => pushK (.cells ⟨l⟩ elem mark) false w fun r w => K (.slice (some ⟨r, 0, none⟩) s.data.toList.length s.data.toList.length) w) .bad

def asByte : Value → Option UInt8
  | .int .u8 (.ofNat n) => cond (Nat.blt n 256) (some (UInt8.ofNat n)) none
  | _ => none

def asBytes : List Value → Option (List UInt8)
  | [] => some []
  | v :: l => match asByte v, asBytes l with
    | some b, some r => some (b :: r)
    | _, _ => none

/-- 'string(b)' -/
def toStr (w : AW) : Value → Option Value
  | .slice none _ _ => some (.string .empty)
  | .slice (some a) n _ => match loadAgg n a w with
    | some (.agg c) => match asBytes c.toList with
      | some l => some (.string ⟨⟨l⟩⟩)
      | none => none
    | _ => none
  | _ => none

/-- 'unsafe.String' of bytes that lie in a row of bytes, from its head on -/
def unsafeStringK (P : Program) (G : Nat) (u : TypeId) (p len : Value) (w : AW) (K : VK) : Res :=
  match p, len with
  | .pointer p, .int .i64 (.ofNat n) =>
    cond (Nat.beq n 0) (K (.string .empty) w) <|
    match p with
    | none => .bad
    | some a => match w.get a.block with
      | some ⟨.cells c e (lo, hi), x⟩ =>
        cond (Nat.ble G a.block && Nat.ble n lim && Nat.beq u e && a.spot.isNone && Nat.beq a.off 0 && Nat.beq (P.cellsOf e) 1 && Nat.ble n c.toList.length && Nat.blt hi mark.1 && (Nat.beq lo hi || Nat.ble hi n))
          (match asBytes (c.toList.take n) with
            | some l => forceL l fun l => w.putK a.block (some ⟨.cells c e (0, n), x⟩) fun w => K (.string ⟨⟨l⟩⟩) w
            | none => .bad) .bad
      | _ => .bad
  | _, _ => .bad

/-- a pointer as an unsafe.Pointer -/
def toUnsafe (P : Program) (t : TypeId) (x : Value) (w : AW) : Option Value :=
  match x with
  | .pointer none => some (.pointer none)
  | .pointer (some a) => match w.get a.block with
    | some ⟨.cells c _ _, _⟩ => cond (Nat.blt a.off c.toList.length && Nat.blt 0 (sizeIs P t)) (some (.pointer (some a))) none
    | _ => none
  | _ => none

/-- and back -/
def fromUnsafe (P : Program) (u : TypeId) (x : Value) (w : AW) : Option Value :=
  match x with
  | .pointer none => some (.pointer none)
  | .pointer (some a) => match w.get a.block with
    | some ⟨.cells c e _, true⟩ => cond (liesAt P P.depth e (Nat.div c.toList.length (P.cellsOf e)) a.off u 1 && Nat.blt 0 (sizeIs P u)) (some (.pointer (some a))) none
    | _ => none
  | _ => none

/-- 'copy' -/
def copyK (G : Nat) (inf : TypeInfo) (s x : Value) (w : AW) (K : VK) : Res :=
  match s, lenV x with
  | .slice base dLen _, some n => match firstF inf.size (Nat.min n dLen) w x with
    | some new => match base with
      | some a => storeK G a new w fun w => K (.int .i64 (.ofNat (Nat.min n dLen))) w
      | none => K (.int .i64 (.ofNat (Nat.min n dLen))) w
    | none => .bad
  | _, _ => .bad

def natV : Value → Option Nat
  | .int _ (.ofNat n) => some n
  | _ => none

/-- 'm[k] = v' -/
def mapUpdateK (P : Program) (G : Nat) (key : TypeId) (m k v : Value) (w : AW) (K : VK) : Res :=
  match m with
  | .map (some r) => match w.get r with
    | some ⟨.map es clock, x⟩ =>
      cond (Nat.ble G r)
        (match keyAt P key k es, pureRun P (Instr.checkKey false 10000 key k) with
        | some (some (i, _)), some _ => match es.toList[i]? with
          | some e => match pureRun P (Instr.keyThatStays e.key k) with
            | some k' => forceL (es.toList.set i { e with key := k', val := v }) fun l => w.putK r (some ⟨.map ⟨l⟩ clock, x⟩) fun w => K undef w
            | none => .bad
          | none => .bad
        | some none, some _ => forceL (es.toList ++ [{ key := k, val := v, born := clock }]) fun l => w.putK r (some ⟨.map ⟨l⟩ (Nat.add clock 1), x⟩) fun w => K undef w
        | _, _ => .bad) .bad
    | _ => .bad
  | _ => .bad

/-- 'range' over a map -/
def rangeK (x : Value) (w : AW) (K : VK) : Res :=
  match x with
  | .map none => pushK (.mapIter none 0 #[] 0) true w fun r w => K (.pointer (some ⟨r, 0, none⟩)) w
  | .map (some m) => match w.get m with
    | some ⟨.map _ clock, _⟩ => pushK (.mapIter (some m) clock #[] clock) true w fun r w => K (.pointer (some ⟨r, 0, none⟩)) w
    | _ => .bad
  | _ => .bad

def stampIn (l : List Nat) (n : Nat) : Bool := l.any fun m => Nat.beq m n

/-- the next entry, whichever it be -/
def nextK (G : Nat) (it : Value) (w : AW) (K : VK) : Res :=
  match it with
  | .pointer (some ⟨r, 0, none⟩) => match w.get r with
    | some ⟨.mapIter none _ _ _, _⟩ => K (.tuple #[.bool false]) w
    | some ⟨.mapIter (some m) since seen last, x⟩ => match w.get m with
      | some ⟨.map es clock, _⟩ =>
        cond (Nat.ble G r && (es.toList.all fun e => Nat.blt e.born since && Nat.blt e.born last))
          (match es.toList.filter fun e => !stampIn seen.toList e.born with
          | [] => K (.tuple #[.bool false]) w
          | old => allR old fun e => w.putK r (some ⟨.mapIter (some m) since ⟨seen.toList ++ [e.born]⟩ clock, x⟩) fun w => K (.tuple #[.bool true, e.key, e.val]) w) .bad
      | _ => .bad
    | _ => .bad
  | _ => .bad

def entryF (w : AW) (it : Value) : Option Value :=
  match it with
  | .pointer (some ⟨r, 0, none⟩) => match w.get r with
    | some ⟨.mapIter (some m) _ seen stepped, _⟩ => match w.get m, seen.toList.getLast? with
      | some ⟨.map es clock, _⟩, some stamp => cond (Nat.beq clock stepped) (orElse (es.toList.find? fun e => Nat.beq e.born stamp) none fun e => some (.tuple #[e.key, e.val])) none
      | _, _ => none
    | _ => none
  | _ => none

def goK (ext : Known) (g : FuncId) (args : List Value) (call : CallF) (w : AW) (K : VK) : Res :=
  match ext g with
  | some k => onSome (k args) fun v => K v w
  | none => call g args w K

/-- What an operation makes, and what it comes to: those that make one block, and do nothing else. -/
def allocF (P : Program) (d : Nat) : Op → Option (Box (AA → Option (Obj × (Nat → Value))))
  | .alloc t => match P.info? t with
    | some inf => match inf.zero with
      | some z => cond (constOk 4 z) (some (.mk fun _ => some (.cells z.cells t, fun r => .pointer (some ⟨r, 0, none⟩)))) none
      | none => none
    | none => none
  | .box t x => some (.mk fun a => some (.cells ((opd d x).run a).cells t, fun r => .pointer (some ⟨r, 0, none⟩)))
  | .buildSlice t len parts => match P.underlying t with
    | some (.slice e) => match P.info? e with
      | some inf => match inf.zero with
        | some z => cond (Nat.ble (Nat.mul len inf.size) lim && Nat.beq z.cells.size inf.size && Nat.blt 0 inf.size && constOk 4 z)
            (some (.mk fun a => orElse (Instr.fill (fun i => some (Nat.mul i inf.size, inf.size)) ⟨(List.replicate len z.cells.toList).flatten⟩ (parts.toList.map fun p => (p.1, (opd d p.2).run a))) none fun cells =>
              some (.cells cells e, fun r => .slice (some ⟨r, 0, none⟩) len len)))
            none
        | none => none
      | none => none
    | _ => none
  | .makeMap _ none => some (.mk fun _ => some (.map #[] 0, fun r => .map (some r)))
  | .makeSlice t l c => match P.underlying t with
    | some (.slice e) => match P.info? e with
      | some inf => match inf.zero with
        | some z => cond (Nat.ble inf.bytes lim && Nat.beq inf.size 1 && Nat.beq z.cells.size 1 && constOk 4 z)
            (some (.mk fun a => match natV ((opd d l).run a), natV ((opd d c).run a) with
              | some l, some c => cond (Nat.ble l c && Nat.ble c lim) (some (.cells ⟨List.replicate c (z.cells.toList.headD undef)⟩ e, fun r => .slice (some ⟨r, 0, none⟩) l c)) none
              | _, _ => none))
            none
        | none => none
      | none => none
    | _ => none
  | _ => none

def forceO {R : Type} (o : Obj) (K : Obj → R) : R :=
  match o with
  | .cells c e fr => forceL c.toList fun l => K (.cells ⟨l⟩ e fr)
  | o => K o

def allocK (x : Option (Obj × (Nat → Value))) (w : AW) (K : VK) : Res :=
  onSome x fun p => forceO p.1 fun o => pushK o true w fun r w => K (p.2 r) w

/-- 's[l:h]' of an array in memory -/
def sliceArrK (n size : Nat) (x : Value) (lo hi : Option Value) (w : AW) (K : VK) : Res :=
  match x with
  | .pointer (some a) => match w.get a.block with
    | some ⟨_, true⟩ => match bound n hi, bound 0 lo with
      | some h, some l => cond (Nat.ble l h && Nat.blt l n && Nat.ble h n && a.spot.isNone) (K (.slice (some (a.add (Nat.mul l size))) (h - l) (n - l)) w) .bad
      | _, _ => .bad
    | _ => .bad
  | _ => .bad

def storeOpK (G size : Nat) (q x : Value) (w : AW) (K : VK) : Res :=
  match q with
  | .pointer (some q) => cond (Nat.beq x.cells.toList.length size) (storeK G q x.cells.toList w fun w => K undef w) .bad
  | _ => .bad

def sliceDataK (s : Value) (w : AW) (K : VK) : Res :=
  match s with
  | .slice none _ _ => K (.pointer none) w
  | .slice (some q) _ (_ + 1) => K (.pointer (some q)) w
  | _ => .bad

/-- all other operations -/
def effect (P : Program) (G : Nat) (ext : Known) (d : Nat) (o : Oper) : Box EF :=
  match o.op with
  | .store t p x => match P.info? t with
    | some inf => .mk fun _ a w K => storeOpK G inf.size ((opd d p).run a) ((opd d x).run a) w K
    | none => .mk fun _ _ _ _ => .bad
  | .slice t x lo hi none => match P.underlying t with
    | some (.array n e) => match P.info? e with
      | some inf => .mk fun _ a w K => sliceArrK n inf.size ((opd d x).run a) (lo.map fun y => (opd d y).run a) (hi.map fun y => (opd d y).run a) w K
      | none => .mk fun _ _ _ _ => .bad
    | _ => .mk fun _ _ _ _ => .bad
  | .convert s t x => match P.underlying s, P.underlying t with
    | some .string, some (.slice e) => match P.underlying e, P.info? e with
      | some (.int .u8), some inf => .mk fun _ a w K => match (opd d x).run a with
        | .string s => bytesK e inf s w K
        | _ => .bad
      | _, _ => .mk fun _ _ _ _ => .bad
    | some (.slice e), some .string => match P.underlying e with
      | some (.int .u8) => .mk fun _ a w K => onSome (toStr w ((opd d x).run a)) fun v => K v w
      | _ => .mk fun _ _ _ _ => .bad
    | some (.pointer u), some .unsafePointer => .mk fun _ a w K => onSome (toUnsafe P u ((opd d x).run a) w) fun v => K v w
    | some .unsafePointer, some (.pointer u) => .mk fun _ a w K => onSome (fromUnsafe P u ((opd d x).run a) w) fun v => K v w
    | _, _ => .mk fun _ _ _ _ => .bad
  | .call c =>
    match c.callee with
    | .builtin .append => match c.args.toList, c.argTypes.toList with
      | [s, x], [st, xt] => match P.underlying st, P.underlying xt with
        | some (.slice e), some xd => match P.info? e with
          | some inf => match xd with
            | .int _ => .mk fun _ _ _ _ => .bad
            | _ => .mk fun _ a w K => appendK P G e inf ((opd d s).run a) ((opd d x).run a) w K
          | none => .mk fun _ _ _ _ => .bad
        | _, _ => .mk fun _ _ _ _ => .bad
      | _, _ => .mk fun _ _ _ _ => .bad
    | .builtin .unsafeString => match c.args.toList, c.argTypes.toList with
      | [p, n], [pt, _] => match P.underlying pt with
        | some (.pointer u) => .mk fun _ a w K => unsafeStringK P G u ((opd d p).run a) ((opd d n).run a) w K
        | _ => .mk fun _ _ _ _ => .bad
      | _, _ => .mk fun _ _ _ _ => .bad
    | .builtin .copy => match c.args.toList, c.argTypes.toList with
      | [s, x], [st, _] => match P.underlying st with
        | some (.slice e) => match P.info? e with
          | some inf => .mk fun _ a w K => copyK G inf ((opd d s).run a) ((opd d x).run a) w K
          | none => .mk fun _ _ _ _ => .bad
        | _ => .mk fun _ _ _ _ => .bad
      | _, _ => .mk fun _ _ _ _ => .bad
    | .builtin .unsafeSliceData => match c.args.toList with
      | [s] => .mk fun _ a w K => sliceDataK ((opd d s).run a) w K
      | _ => .mk fun _ _ _ _ => .bad
    | .builtin _ => .mk fun _ _ _ _ => .bad
    | .value (.func g) => .mk fun call a w K => goK ext g (c.args.toList.map fun x => (opd d x).run a) call w K
    | .value f => .mk fun call a w K => match (opd d f).run a with
      | .func (.func g) first captured => goK ext g ((first.toList ++ c.args.toList.map fun x => (opd d x).run a) ++ captured.toList) call w K
      | _ => .bad
    | .invoke _ _ => .mk fun _ _ _ _ => .bad
  | .mapUpdate t m k x | .insert t m k x => match P.underlying t with
    | some (.map key _) => .mk fun _ a w K => mapUpdateK P G key ((opd d m).run a) ((opd d k).run a) ((opd d x).run a) w K
    | _ => .mk fun _ _ _ _ => .bad
  | .range t x => match P.underlying t with
    | some (.map ..) => .mk fun _ a w K => rangeK ((opd d x).run a) w K
    | _ => .mk fun _ _ _ _ => .bad
  | .next it false => .mk fun _ a w K => nextK G ((opd d it).run a) w K
  | .entry it => .mk fun _ a w K => onSome (entryF w ((opd d it).run a)) fun v => K v w
  | _ => .mk fun _ _ _ _ => .bad

/-- an operation -/
def operF (P : Program) (G : Nat) (ext : Known) (d : Nat) (o : Oper) : Box EF :=
  match quiet P d o.op with
  | some q => .mk fun _ a w K => @Option.rec Value (fun _ => Res) .bad (fun v => K v w) (q.run a w)
  | none => match allocF P d o.op with
    | some f => .mk fun _ a w K => allocK (f.run a) w K
    | none => effect P G ext d o

def putK (d : Nat) (dst : Option Tmp) : Box (Value → AA → (AA → Res) → Res) :=
  match dst with
  | some t => .mk fun v a K => T.toK v (path d t) a K
  | none => .mk fun _ a K => K a

def putF (d : Nat) (dst : Option Tmp) : Box (Value → AA → AA) :=
  match dst with
  | some t => .mk fun v a => T.to v (path d t) a
  | none => .mk fun _ a => a

abbrev RF := CallF → AA → AW → (AA → AW → Res) → Res

/-- does the guard hold? (the slot that it asks, and what it wants) -/
def guardF (_d : Nat) (ops : Array Oper) (o : Oper) : Option (Option (Tmp × Bool)) :=
  match o.guard with
  | none => some none
  | some (j, want) => match (ops[j]?).bind (·.dst) with
    | some t => some (some (t, want))
    | none => none

def isBool (v : Value) (want : Bool) : Bool :=
  match v with
  | .bool b => b == want
  | _ => false

def opsF (P : Program) (G : Nat) (ext : Known) (d : Nat) (all : Array Oper) : List Oper → Box RF
  | [] => .mk fun _ a w K => K a w
  | o :: rest =>
    match guardF d all o with
    | some none => .mk fun call a w K => (operF P G ext d o).run call a w fun v w => (putK d o.dst).run v a fun a => (opsF P G ext d all rest).run call a w K
    | some (some (t, want)) => .mk fun call a w K =>
      @Bool.rec (fun _ => Res) ((putK d o.dst).run undef a fun a => (opsF P G ext d all rest).run call a w K)
        ((operF P G ext d o).run call a w fun v w => (putK d o.dst).run v a fun a => (opsF P G ext d all rest).run call a w K)
        (isBool ((opd d (.tmp t)).run a) want)
    | none => .mk fun _ _ _ _ => .bad

/- a statement whose order is open: what only reckons and reads, or makes memory, is done as early as may be; what reads is asked again behind each operation that acts -/
def bindsAny (e : Edge) : Bool := match e.ground with | .textOnly _ | .gcOnly _ => false | _ => true

/-- of each operation all that it stands behind, as bits -/
def masks : List Oper → List Nat → List Nat
  | [], acc => acc
  | o :: rest, acc => masks rest (acc ++ [o.after.toList.foldl (fun s e => cond (bindsAny e) (Nat.lor (Nat.lor s (Nat.shiftLeft 1 e.on)) (acc.getD e.on 0)) s) 0])

def inMask (ms : List Nat) (i j : Nat) : Bool := Nat.testBit (ms.getD i 0) j

structure Stage where
  act : Nat
  again : List Nat
  calms : List Nat

structure Plan where
  /-- which operations are calm -/
  kinds : List Bool
  first : List Nat
  stages : List Stage

def isC (ks : List Bool) (i : Nat) : Bool := match ks[i]? with | some b => b | none => false
def isA (ks : List Bool) (i : Nat) : Bool := match ks[i]? with | some b => !b | none => false

def tmpsOf (o : Op) : List Tmp := o.operands.toList.filterMap fun | .tmp t => some t | _ => none

def guardTmp (ops : Array Oper) (o : Oper) : Option (List Tmp) :=
  match o.guard with
  | none => some []
  | some (j, _) => match (ops[j]?).bind (·.dst) with
    | some t => some [t]
    | none => none

def tmpIn (l : List Tmp) (t : Tmp) : Bool := l.any fun u => Nat.beq u t
def natIn (l : List Nat) (n : Nat) : Bool := l.any fun m => Nat.beq m n

/-- does a calm operation read memory? -/
def reads (P : Program) : Op → Bool
  | .load .. | .lookup .. => true
  | .call c => match c.argTypes[0]? with
    | some t => mapType P t
    | none => true
  | _ => false

/-- an operation that only reckons and reads, or makes memory -/
def calmOp (P : Program) (d : Nat) (o : Oper) : Bool :=
  (quiet P d o.op).isSome || ((allocF P d o.op).isSome && o.guard.isNone)

/-- calm operations: but one whose slot is read by one ahead of it acts -/
def kindAt (P : Program) (d : Nat) (ops : Array Oper) (ms : List Nat) (j : Nat) (o : Oper) : Bool :=
  calmOp P d o && match o.dst with
    | some t => !(List.range ops.size).any fun i => inMask ms j i && match ops[i]? with
      | some p => tmpIn (tmpsOf p.op) t || (match guardTmp ops p with | some g => tmpIn g t | none => true)
      | none => false
    | none => false

def kindsOf (P : Program) (d : Nat) (ops : Array Oper) (ms : List Nat) : List Bool :=
  (List.range ops.size).map fun j => match ops[j]? with | some o => kindAt P d ops ms j o | none => false

def stageOf (ms : List Nat) (es : List Nat) (i : Nat) : Nat := (es.filter fun e => inMask ms i e).length

def readsAt (P : Program) (ops : Array Oper) (i : Nat) : Bool := match ops[i]? with | some o => reads P o.op | none => true

def planOf (P : Program) (d : Nat) (ops : Array Oper) : Plan :=
  let ms := masks ops.toList []
  let ks := kindsOf P d ops ms
  let n := List.range ops.size
  let es := n.filter (isA ks)
  let qs := n.filter (isC ks)
  { kinds := ks, first := qs.filter fun i => Nat.beq (stageOf ms es i) 0,
    stages := (List.range es.length).map fun k =>
      { act := es.getD k 0,
        again := qs.filter fun i => Nat.ble (stageOf ms es i) k && !inMask ms (es.getD k 0) i && readsAt P ops i,
        calms := qs.filter fun i => Nat.beq (stageOf ms es i) (k + 1) } }

/-- edges lead back; what is read is written by what one stands behind, or by an act that stands behind one; no slot is written twice -/
def rightAt (ops : Array Oper) (ms : List Nat) (ks : List Bool) (i : Nat) (o : Oper) : Bool :=
  (o.after.toList.all fun e => !bindsAny e || Nat.blt e.on i) &&
  (match guardTmp ops o with
    | some g => (List.range ops.size).all fun j => match ops[j]? with
      | some p => match p.dst with
        | some t => (!(tmpIn (tmpsOf o.op) t || tmpIn g t) || inMask ms i j || (inMask ms j i && isA ks j)) && (Nat.beq i j || !(match o.dst with | some u => Nat.beq u t | none => false))
        | none => true
      | none => true
    | none => false)

def rightAll (ops : Array Oper) (ms : List Nat) (ks : List Bool) : Bool := (List.range ops.size).all fun i => match ops[i]? with | some o => rightAt ops ms ks i o | none => false

/-- calm operations, to be done one behind the other: what each stands behind is done -/
def calmsRight (ms : List Nat) (ks : List Bool) (n : Nat) : List Nat → List Nat → Bool
  | _, [] => true
  | done, i :: l => isC ks i && !natIn done i && ((List.range n).all fun j => !inMask ms i j || natIn done j) && calmsRight ms ks n (i :: done) l

/-- stages, behind what is done -/
def stagesRight (P : Program) (ops : Array Oper) (ms : List Nat) (ks : List Bool) : List Nat → List Stage → Bool
  | done, [] => (List.range ops.size).all fun j => natIn done j
  | done, s :: rest =>
    isA ks s.act && !natIn done s.act &&
    ((List.range ops.size).all fun j => !inMask ms s.act j || natIn done j) &&
    (done.all fun i => !isC ks i || !readsAt P ops i || inMask ms s.act i || natIn s.again i) &&
    (s.again.all fun i => isC ks i) &&
    -- whatever is not done stands behind the act
    ((List.range ops.size).all fun j => natIn done j || Nat.beq j s.act || inMask ms j s.act) &&
    calmsRight ms ks ops.size (s.act :: done) s.calms &&
    stagesRight P ops ms ks (s.calms.reverse ++ s.act :: done) rest

def kindsRight (P : Program) (d : Nat) (ops : Array Oper) (ks : List Bool) : Bool :=
  Nat.beq ks.length ops.size && (List.range ops.size).all fun i => match ops[i]?, ks[i]? with
    | some o, some true => calmOp P d o && o.dst.isSome
    | some _, some false => true
    | _, _ => false

def planOk (P : Program) (d : Nat) (ops : Array Oper) (p : Plan) : Bool :=
  let ms := masks ops.toList []
  kindsRight P d ops p.kinds && rightAll ops ms p.kinds && calmsRight ms p.kinds ops.size [] p.first && stagesRight P ops ms p.kinds p.first.reverse p.stages

/-- the value of a quiet operation, its guard asked -/
def qval (P : Program) (d : Nat) (ops : Array Oper) (o : Oper) : Box QF :=
  match quiet P d o.op, guardF d ops o with
  | some q, some none => q
  | some q, some (some (t, want)) => .mk fun a w => @Bool.rec (fun _ => Option Value) (some undef) (q.run a w) (isBool ((opd d (.tmp t)).run a) want)
  | _, _ => .mk fun _ _ => none

/-- calm operations, one behind the other -/
def runC (P : Program) (d : Nat) (ops : Array Oper) : List Nat → Box (AA → AW → (AA → AW → Res) → Res)
  | [] => .mk fun a w K => K a w
  | i :: rest => match ops[i]? with
    | some o => match quiet P d o.op, allocF P d o.op with
      | some _, _ => .mk fun a w K => onSome ((qval P d ops o).run a w) fun v => (putK d o.dst).run v a fun a => (runC P d ops rest).run a w K
      | none, some f => .mk fun a w K => allocK (f.run a) w fun v w => (putK d o.dst).run v a fun a => (runC P d ops rest).run a w K
      | none, none => .mk fun _ _ _ => .bad
    | none => .mk fun _ _ _ => .bad

def addrEq (a b : Addr) : Bool := Nat.beq a.block b.block && Nat.beq a.off b.off && a.spot.isNone && b.spot.isNone

/-- are two single values spelt alike? -/
def veq0 (x y : Value) : Bool :=
  match x with
  | .bool a => (match y with | .bool b => a == b | _ => false)
  | .int k m => (match y with | .int k' n => kq k k' && iEq m n | _ => false)
  | .string a => (match y with | .string b => bytesEq a.data.toList b.data.toList | _ => false)
  | .pointer none => (match y with | .pointer none => true | _ => false)
  | .pointer (some a) => (match y with | .pointer (some b) => addrEq a b | _ => false)
  | .slice none l c => (match y with | .slice none l' c' => Nat.beq l l' && Nat.beq c c' | _ => false)
  | .slice (some a) l c => (match y with | .slice (some b) l' c' => addrEq a b && Nat.beq l l' && Nat.beq c c' | _ => false)
  | .map none => (match y with | .map none => true | _ => false)
  | .map (some a) => (match y with | .map (some b) => Nat.beq a b | _ => false)
  | .nilFunc => (match y with | .nilFunc => true | _ => false)
  | .nilIface => (match y with | .nilIface => true | _ => false)
  | _ => false

def veqs0 : List Value → List Value → Bool
  | [], [] => true
  | x :: l, y :: m => veq0 x y && veqs0 l m
  | _, _ => false

def veq1 (x y : Value) : Bool :=
  match x with
  | .func (.func g) f c => (match y with | .func (.func g') f' c' => Nat.beq g g' && veqs0 f.toList f'.toList && veqs0 c.toList c'.toList | _ => false)
  | .iface t v => (match y with | .iface t' v' => Nat.beq t t' && veq0 v v' | _ => false)
  | x => veq0 x y

def veqs : List Value → List Value → Bool
  | [], [] => true
  | x :: l, y :: m => veq1 x y && veqs l m
  | _, _ => false

def veq (x y : Value) : Bool :=
  match x with
  | .agg c => (match y with | .agg e => veqs c.toList e.toList | _ => false)
  | .tuple c => (match y with | .tuple e => veqs c.toList e.toList | _ => false)
  | x => veq1 x y

/-- does each of some quiet operations still come to what its slot holds? -/
def again (P : Program) (d : Nat) (ops : Array Oper) : List Nat → Box (AA → AW → Bool)
  | [] => .mk fun _ _ => true
  | i :: rest => match ops[i]? with
    | some o => match o.dst with
      | some t => .mk fun a w => orElse ((qval P d ops o).run a w) false fun v => cond (veq v ((opd d (.tmp t)).run a)) ((again P d ops rest).run a w) false
      | none => again P d ops rest
    | none => .mk fun _ _ => false

def actF (P : Program) (G : Nat) (ext : Known) (d : Nat) (ops : Array Oper) (o : Oper) : Box EF :=
  match guardF d ops o with
  | some none => operF P G ext d o
  | some (some (t, want)) => .mk fun call a w K => @Bool.rec (fun _ => Res) (K undef w) ((operF P G ext d o).run call a w K) (isBool ((opd d (.tmp t)).run a) want)
  | none => .mk fun _ _ _ _ => .bad

def stagesF (P : Program) (G : Nat) (ext : Known) (d : Nat) (ops : Array Oper) : List Stage → Box RF
  | [] => .mk fun _ a w K => K a w
  | s :: rest => match ops[s.act]? with
    | some o => .mk fun call a w K => (actF P G ext d ops o).run call a w fun v w =>
        (putK d o.dst).run v a fun a =>
        cond ((again P d ops s.again).run a w) ((runC P d ops s.calms).run a w fun a w => (stagesF P G ext d ops rest).run call a w K) .bad
    | none => .mk fun _ _ _ _ => .bad

def drawP (P : Program) (G : Nat) (ext : Known) (d : Nat) (ops : Array Oper) (p : Plan) : Box RF :=
  cond (planOk P d ops p)
    (.mk fun call a w K => (runC P d ops p.first).run a w fun a w => (stagesF P G ext d ops p.stages).run call a w K)
    (.mk fun _ _ _ _ => .bad)

def drawF (P : Program) (G : Nat) (ext : Known) (d : Nat) (ops : Array Oper) : Box RF := drawP P G ext d ops (planOf P d ops)

inductive X where
  | normal
  | exit (id : Nat)
  | ret

abbrev CF := Nat → CallF → AA → AW → (X → AA → AW → Res) → Res

def loopF (body : CallF → AA → AW → (X → AA → AW → Res) → Res) (call : CallF) (fuel : Nat) : AA → AW → (X → AA → AW → Res) → Res :=
  @Nat.rec (fun _ => AA → AW → (X → AA → AW → Res) → Res) (fun _ _ _ => .bad)
    (fun _ ih a w K => body call a w fun e a w => @X.rec (fun _ => Res) (ih a w K) (fun id => K (.exit id) a w) (K .ret a w) e) fuel

def codeF (P : Program) (G : Nat) (ext : Known) (d : Nat) : Code → Box CF
  | .skip => .mk fun _ _ a w K => K .normal a w
  | .region _ ops draw => cond draw
      (.mk fun _ call a w K => (drawF P G ext d ops).run call a w (K .normal))
      (.mk fun _ call a w K => (opsF P G ext d ops ops.toList).run call a w (K .normal))
  | .seq x y => .mk fun n call a w K => (codeF P G ext d x).run n call a w fun e a w =>
      @X.rec (fun _ => Res) ((codeF P G ext d y).run n call a w K) (fun id => K (.exit id) a w) (K .ret a w) e
  | .cond c x y => .mk fun n call a w K => match (opd d c).run a with
      | .bool b => @Bool.rec (fun _ => Res) ((codeF P G ext d y).run n call a w K) ((codeF P G ext d x).run n call a w K) b
      | _ => .bad
  | .block id b => .mk fun n call a w K => (codeF P G ext d b).run n call a w fun e a w =>
      @X.rec (fun _ => Res) (K .normal a w) (fun i => @Bool.rec (fun _ => Res) (K (.exit i) a w) (K .normal a w) (Nat.beq i id)) (K .ret a w) e
  | .loop b => .mk fun n call a w K => loopF ((codeF P G ext d b).run n) call n a w K
  | .exit id => .mk fun _ _ a w K => K (.exit id) a w
  | .ret => .mk fun _ _ a w K => K .ret a w
  | _ => .mk fun _ _ _ _ _ => .bad

def enterF (d : Nat) : List Value → Nat → AA → AA
  | [], _, a => a
  | v :: l, i, a => enterF d l (i + 1) (T.to v (path d i) a)

def enterK (d : Nat) : List Value → Nat → AA → (AA → Res) → Res
  | [], _, a, K => K a
  | v :: l, i, a, K => T.toK v (path d i) a fun a => enterK d l (i + 1) a K

/-- a result -/
def resF (P : Program) (d : Nat) : ResultVar → Box QF
  | .tmp t => .mk fun a _ => some ((opd d (.tmp t)).run a)
  | .cell p t => .mk fun a w => addrF ((opd d (.tmp p)).run a) fun q => (loadF P t).run q w

def resAll (P : Program) (d : Nat) : List ResultVar → Box (AA → AW → Option (List Value))
  | [] => .mk fun _ _ => some []
  | r :: l => .mk fun a w => orElse ((resF P d r).run a w) none fun v => orElse ((resAll P d l).run a w) none fun vs => some (v :: vs)

def resK (K : VK) (w : AW) : List Value → Res
  | [v] => K v w
  | l => K (.tuple ⟨l⟩) w

def funcF (P : Program) (G : Nat) (ext : Known) (fuel : Nat) (fn : Func) : Box (CallF → List Value → AW → VK → Res) :=
  match fn.body with
  | some c => .mk fun call args w K => enterK (deep fn.ntmps) args 0 .e fun a => (codeF P G ext (deep fn.ntmps) c).run fuel call a w fun e a w =>
      @X.rec (fun _ => Res) (onSome ((resAll P (deep fn.ntmps) fn.results.toList).run a w) (resK K w)) (fun _ => .bad) (onSome ((resAll P (deep fn.ntmps) fn.results.toList).run a w) (resK K w)) e
  | none => .mk fun _ _ _ _ => .bad

/- where the order of a map left several ways that come to the same: they are told as one -/
def natEqs : List Nat → List Nat → Bool
  | [], [] => true
  | x :: l, y :: m => Nat.beq x y && natEqs l m
  | _, _ => false
def entEqs : List MapEntry → List MapEntry → Bool
  | [], [] => true
  | x :: l, y :: m => veq x.key y.key && veq x.val y.val && Nat.beq x.born y.born && entEqs l m
  | _, _ => false
def objEq (x y : Obj) : Bool :=
  match x with
  | .cells c e fr => (match y with | .cells c' e' fr' => veqs c.toList c'.toList && Nat.beq e e' && Nat.beq fr.1 fr'.1 && Nat.beq fr.2 fr'.2 | _ => false)
  | .map es k => (match y with | .map es' k' => entEqs es.toList es'.toList && Nat.beq k k' | _ => false)
  | .mapIter none a l b => (match y with | .mapIter none a' l' b' => Nat.beq a a' && natEqs l.toList l'.toList && Nat.beq b b' | _ => false)
  | .mapIter (some m) a l b => (match y with | .mapIter (some m') a' l' b' => Nat.beq m m' && Nat.beq a a' && natEqs l.toList l'.toList && Nat.beq b b' | _ => false)
  | _ => false

def blkEq (x y : Blk) : Bool := objEq x.obj y.obj && (x.exact == y.exact)

def treeEq : T Blk → T Blk → Bool
  | .e, .e => true
  | .leaf a, .leaf b => blkEq a b
  | .node l r, .node l' r' => treeEq l l' && treeEq r r'
  | _, _ => false

def awEq (a b : AW) : Bool := Nat.beq a.next b.next && treeEq a.tab b.tab

def outIn (l : List (Value × AW)) (v : Value) (w : AW) : Bool := l.any fun p => veq v p.1 && awEq w p.2

def dedup : List (Value × AW) → List (Value × AW)
  | [] => []
  | p :: l => let r := dedup l; cond (outIn r p.1 p.2) r (p :: r)

/-- the blocks that a value names -/
def bl0 (v : Value) : List Nat :=
  match v with
  | .pointer (some a) => [a.block]
  | .slice (some a) _ _ => [a.block]
  | .map (some r) => [r]
  | _ => []
def bl1 (v : Value) : List Nat :=
  match v with
  | .agg c => c.toList.flatMap bl0
  | .tuple c => c.toList.flatMap bl0
  | .iface _ v => bl0 v
  | .func _ f c => f.toList.flatMap bl0 ++ c.toList.flatMap bl0
  | v => bl0 v
def bl2 (v : Value) : List Nat :=
  match v with
  | .agg c => c.toList.flatMap bl1
  | .tuple c => c.toList.flatMap bl1
  | .iface _ v => bl1 v
  | .func _ f c => f.toList.flatMap bl1 ++ c.toList.flatMap bl1
  | v => bl0 v
def blB (b : Option Blk) : List Nat :=
  match b with
  | some ⟨.cells c _ _, _⟩ => c.toList.flatMap bl2
  | some ⟨.map es _, _⟩ => es.toList.flatMap fun e => bl2 e.key ++ bl2 e.val
  | some ⟨.mapIter (some m) _ _ _, _⟩ => [m]
  | _ => []

/-- the blocks, from a number on, that these lead to -/
def reachK (w : AW) (lo : Nat) (fuel : Nat) : List Nat → T Unit → (T Unit → Res) → Res :=
  @Nat.rec (fun _ => List Nat → T Unit → (T Unit → Res) → Res) (fun _ m K => K m)
    (fun _ ih todo m K => match todo with
      | [] => K m
      | i :: r => cond (Nat.blt i lo || (T.get dep m i).isSome) (ih r m K) (T.putK dep m i (some ()) fun m => ih (blB (w.get i) ++ r) m K)) fuel

/-- the blocks from one number on are let go, but for those that are marked -/
def dropK (keep : T Unit) : Nat → Nat → AW → (AW → Res) → Res
  | 0, _, w, K => K w
  | n + 1, i, w, K => cond (T.get dep keep i).isSome (dropK keep n (Nat.add i 1) w K)
      (cond (Nat.blt i lim) (w.putK i none fun w => dropK keep n (Nat.add i 1) w K) .bad)

def joinK (r : Res) (K : VK) : Res :=
  match r with
  | .bad => .bad
  | .ok l => allR (dedup l) fun p => K p.1 p.2


def funcAt (P : Program) (G : Nat) (ext : Known) (kn : Known) (jn : FuncId → Bool) (ok : Func → Bool) (fuel : Nat) (f : FuncId) : Box (CallF → List Value → AW → VK → Res) :=
  match kn f with
  | some k => .mk fun _ args w K => onSome (k args) fun v => K v w
  | none => match P.funcs[f]? with
    | some fn => cond (ok fn)
        (cond (jn f)
          (.mk fun call args w K => cond (Nat.ble args.length fn.ntmps) (joinK ((funcF P G ext fuel fn).run call args w fun v w' => reachK w' w.next 100000 (bl2 v) .e fun keep => dropK keep (Nat.sub w'.next w.next) w.next w' fun w' => .ok [(v, w')]) K) .bad)
          (.mk fun call args w K => cond (Nat.ble args.length fn.ntmps) ((funcF P G ext fuel fn).run call args w K) .bad))
        (.mk fun _ _ _ _ => .bad)
    | none => .mk fun _ _ _ _ => .bad

def evCall (P : Program) (G : Nat) (ext : Known) (kn : Known) (jn : FuncId → Bool) (ok : Func → Bool) (fuel : Nat) (depth : Nat) : CallF :=
  @Nat.rec (fun _ => CallF) (fun _ _ _ _ => .bad) (fun _ ih f args w K => (funcAt P G ext kn jn ok fuel f).run ih args w K) depth

end
end Go.Ab
