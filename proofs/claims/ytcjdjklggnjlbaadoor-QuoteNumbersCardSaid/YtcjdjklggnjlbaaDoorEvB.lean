/- How the evaluator's values, blocks and worlds stand to the model's: the relation, and that it is kept by each single step of memory. -/
import Derived.Test.YtcjdjklggnjlbaaDoorEvA
import Derived.Laws.Sem
import Derived.Below
namespace Go.Ab
open Go.RowKit

/-- of a block's number: the model's number, and how many elements more there is room for -/
structure Ent where
  id : Nat
  extra : Nat

/-- of each block that both sides have made: none of one that only the evaluator has made -/
abbrev Env := Nat → Option Ent

def Env.le (ρ ρ' : Env) : Prop := ∀ i e, ρ i = some e → ρ' i = some e
def Env.ext (ρ : Env) (n : Nat) (e : Ent) : Env := fun i => if i = n then some e else ρ i

theorem Env.le.refl (ρ : Env) : Env.le ρ ρ := fun _ _ h => h
theorem Env.le.trans {a b c : Env} (h : Env.le a b) (k : Env.le b c) : Env.le a c := fun i e he => k i e (h i e he)
theorem Env.le_ext {ρ : Env} {n : Nat} (e : Ent) (h : ρ n = none) : Env.le ρ (ρ.ext n e) := by
  intro i f hf
  unfold Env.ext
  split
  · rename_i hi; subst hi; rw [h] at hf; cases hf
  · exact hf
theorem Env.ext_same {ρ : Env} {n : Nat} {e : Ent} : (ρ.ext n e) n = some e := by simp [Env.ext]
theorem Env.ext_other {ρ : Env} {n : Nat} {e : Ent} {i : Nat} (h : i ≠ n) : (ρ.ext n e) i = ρ i := by simp [Env.ext, h]

def AR (ρ : Env) (a b : Addr) : Prop := ∃ e, ρ a.block = some e ∧ b = ⟨e.id, a.off, a.spot⟩

def fnOk : Fn → Prop
  | .yield _ => False
  | _ => True

mutual
inductive VR (ρ : Env) : Value → Value → Prop
  | bool (b : Bool) : VR ρ (.bool b) (.bool b)
  | int (k : IntKind) (n : Int) : VR ρ (.int k n) (.int k n)
  | string (s : ByteArray) : VR ρ (.string s) (.string s)
  | nilp : VR ρ (.pointer none) (.pointer none)
  | ptr (a b : Addr) (h : AR ρ a b) : VR ρ (.pointer (some a)) (.pointer (some b))
  | nils (l c : Nat) : VR ρ (.slice none l c) (.slice none l c)
  | sl (a b : Addr) (l c : Nat) (e : Ent) (he : ρ a.block = some e) (hb : b.block = e.id) (hs : a.spot = none ∧ b.spot = none) (ho : b.off = a.off ∨ (c = 0 ∧ e.extra = 0)) (hl : l ≤ c) :
      VR ρ (.slice (some a) l c) (.slice (some b) l (c + e.extra))
  | nilm : VR ρ (.map none) (.map none)
  | mp (r : Nat) (e : Ent) (he : ρ r = some e) : VR ρ (.map (some r)) (.map (some e.id))
  | func (fn : Fn) (f f' c c' : Array Value) (h : fnOk fn) (hf : VRs ρ f.toList f'.toList) (hc : VRs ρ c.toList c'.toList) : VR ρ (.func fn f c) (.func fn f' c')
  | nilf : VR ρ .nilFunc .nilFunc
  | iface (t : TypeId) (x y : Value) (h : VR ρ x y) : VR ρ (.iface t x) (.iface t y)
  | nili : VR ρ .nilIface .nilIface
  | agg (c c' : Array Value) (h : VRs ρ c.toList c'.toList) : VR ρ (.agg c) (.agg c')
  | tuple (c c' : Array Value) (h : VRs ρ c.toList c'.toList) : VR ρ (.tuple c) (.tuple c')
inductive VRs (ρ : Env) : List Value → List Value → Prop
  | nil : VRs ρ [] []
  | cons (x y : Value) (xs ys : List Value) (h : VR ρ x y) (t : VRs ρ xs ys) : VRs ρ (x :: xs) (y :: ys)
end

theorem env_get {ρ ρ' : Env} (h : Env.le ρ ρ') {i : Nat} {e : Ent} (he : ρ i = some e) : ρ' i = some e := h i e he

theorem AR.mono {ρ ρ' : Env} (h : Env.le ρ ρ') {a b : Addr} (k : AR ρ a b) : AR ρ' a b := by
  obtain ⟨e, he, hb⟩ := k; exact ⟨e, env_get h he, hb⟩

mutual
theorem VR.mono {ρ ρ' : Env} (h : Env.le ρ ρ') {x y : Value} : VR ρ x y → VR ρ' x y
  | .bool b => .bool b
  | .int k n => .int k n
  | .string s => .string s
  | .nilp => .nilp
  | .ptr a b k => .ptr a b (k.mono h)
  | .nils l c => .nils l c
  | .sl a b l c e he hb hs ho hl => .sl a b l c e (env_get h he) hb hs ho hl
  | .nilm => .nilm
  | .mp r e he => .mp r e (env_get h he)
  | .func fn f f' c c' k hf hc => .func fn f f' c c' k (hf.mono h) (hc.mono h)
  | .nilf => .nilf
  | .iface t x y k => .iface t x y (k.mono h)
  | .nili => .nili
  | .agg c c' k => .agg c c' (k.mono h)
  | .tuple c c' k => .tuple c c' (k.mono h)
theorem VRs.mono {ρ ρ' : Env} (h : Env.le ρ ρ') {x y : List Value} : VRs ρ x y → VRs ρ' x y
  | .nil => .nil
  | .cons x y xs ys k t => .cons x y xs ys (k.mono h) (t.mono h)
end

theorem VRs.length {ρ : Env} {x y : List Value} (h : VRs ρ x y) : x.length = y.length := by
  induction x generalizing y with
  | nil => cases h; rfl
  | cons a l ih => cases h with | cons _ _ _ _ _ t => simp [ih t]

theorem VRs.get {ρ : Env} {x y : List Value} (h : VRs ρ x y) (i : Nat) {v : Value} (hv : x[i]? = some v) : ∃ u, y[i]? = some u ∧ VR ρ v u := by
  induction x generalizing y i with
  | nil => simp at hv
  | cons a l ih =>
    cases h with
    | cons _ b _ ys k t =>
      cases i with
      | zero => simp at hv; subst hv; exact ⟨b, by simp, k⟩
      | succ i => simp at hv; obtain ⟨u, hu, r⟩ := ih t i hv; exact ⟨u, by simpa using hu, r⟩

theorem VRs.append {ρ : Env} {x y x' y' : List Value} (h : VRs ρ x y) (k : VRs ρ x' y') : VRs ρ (x ++ x') (y ++ y') := by
  induction x generalizing y with
  | nil => cases h; exact k
  | cons a l ih => cases h with | cons _ b _ ys m t => exact .cons _ _ _ _ m (ih t)

theorem VRs.take {ρ : Env} {x y : List Value} (h : VRs ρ x y) (n : Nat) : VRs ρ (x.take n) (y.take n) := by
  induction x generalizing y n with
  | nil => cases h; simp; exact .nil
  | cons a l ih =>
    cases h with
    | cons _ b _ ys m t =>
      cases n with
      | zero => exact .nil
      | succ n => exact .cons _ _ _ _ m (ih t n)

theorem VRs.drop {ρ : Env} {x y : List Value} (h : VRs ρ x y) (n : Nat) : VRs ρ (x.drop n) (y.drop n) := by
  induction x generalizing y n with
  | nil => cases h; simp; exact .nil
  | cons a l ih =>
    cases h with
    | cons _ b _ ys m t =>
      cases n with
      | zero => exact .cons _ _ _ _ m t
      | succ n => exact ih t n

theorem VRs.set {ρ : Env} {x y : List Value} (h : VRs ρ x y) (i : Nat) {v u : Value} (r : VR ρ v u) : VRs ρ (x.set i v) (y.set i u) := by
  induction x generalizing y i with
  | nil => cases h; exact .nil
  | cons a l ih =>
    cases h with
    | cons _ b _ ys m t =>
      cases i with
      | zero => exact .cons _ _ _ _ r t
      | succ i => exact .cons _ _ _ _ m (ih t i)

theorem VRs.of {ρ : Env} {x y : List Value} (hl : x.length = y.length) (h : ∀ (i : Nat) (v u : Value), x[i]? = some v → y[i]? = some u → VR ρ v u) : VRs ρ x y := by
  induction x generalizing y with
  | nil => cases y with | nil => exact .nil | cons => simp at hl
  | cons a l ih =>
    cases y with
    | nil => simp at hl
    | cons b m =>
      refine .cons _ _ _ _ (h 0 a b rfl rfl) (ih (by simpa using hl) fun i v u hv hu => h (i + 1) v u (by simpa using hv) (by simpa using hu))

/-- entries of a map -/
inductive ERs (ρ : Env) : List MapEntry → List MapEntry → Prop
  | nil : ERs ρ [] []
  | cons (x y : MapEntry) (xs ys : List MapEntry) (hk : VR ρ x.key y.key) (hv : VR ρ x.val y.val) (hb : x.born = y.born) (t : ERs ρ xs ys) : ERs ρ (x :: xs) (y :: ys)

theorem ERs.mono {ρ ρ' : Env} (h : Env.le ρ ρ') {x y : List MapEntry} (k : ERs ρ x y) : ERs ρ' x y := by
  induction k with
  | nil => exact .nil
  | cons x y xs ys hk hv hb _ ih => exact .cons _ _ _ _ (hk.mono h) (hv.mono h) hb ih

def FR (fr fr' : Nat × Nat) (n : Nat) : Prop := fr' = fr ∨ fr' = (0, 0) ∨ (fr = mark ∧ fr' = (n, n + 1))

def OR (P : Program) (ρ : Env) (extra : Nat) : Obj → Obj → Prop
  | .cells c e fr, o' => ∃ c' fr', o' = .cells c' e fr' ∧ c'.size = c.size + extra * P.cellsOf e ∧ (∀ (i : Nat) (v : Value), c[i]? = some v → ∃ u, c'[i]? = some u ∧ VR ρ v u) ∧ FR fr fr' c'.size
  | .map es k, o' => ∃ es', o' = .map es' k ∧ ERs ρ es.toList es'.toList
  | .mapIter m since seen stepped, o' => ∃ m', o' = .mapIter m' since seen stepped ∧ (match m with | none => m' = none | some r => ∃ e, ρ r = some e ∧ m' = some e.id)
  | .stringIter s p, o' => o' = .stringIter s p
  | _, _ => False

theorem OR.mono {P : Program} {ρ ρ' : Env} (h : Env.le ρ ρ') {x : Nat} {o o' : Obj} (k : OR P ρ x o o') : OR P ρ' x o o' := by
  cases o with
  | cells c e fr =>
    obtain ⟨c', fr', ho, hs, hv, hf⟩ := k
    exact ⟨c', fr', ho, hs, fun i v hi => by obtain ⟨u, hu, r⟩ := hv i v hi; exact ⟨u, hu, r.mono h⟩, hf⟩
  | map es k' => obtain ⟨es', ho, he⟩ := k; exact ⟨es', ho, he.mono h⟩
  | mapIter m s n t =>
    obtain ⟨m', ho, hm⟩ := k
    refine ⟨m', ho, ?_⟩
    cases m with
    | none => exact hm
    | some r => obtain ⟨e, he, hm⟩ := hm; exact ⟨e, env_get h he, hm⟩
  | stringIter s p => have k1 : o' = .stringIter s p := k; exact k1
  | _ => exact k.elim

/-- what stays the same through a proof -/
structure Ctx where
  P : Program
  G : Nat
  B : Nat
  w0 : World
  /-- blocks that the evaluator has made ahead -/
  pend : Nat → Option Blk
  /-- what is asked of a run's outcome -/
  good : Res → Prop

structure WR (C : Ctx) (ρ : Env) (w : AW) (w' : World) : Prop where
  top : ∀ i, w.next ≤ i → ρ i = none
  live : ∀ i b e, w.get i = some b → ρ i = some e → ∃ o', w'.heap[e.id]? = some o' ∧ OR C.P ρ e.extra b.obj o' ∧ (b.exact = true → e.extra = 0) ∧ (C.G ≤ i → C.B ≤ e.id)
  inj : ∀ i j b c e f, w.get i = some b → w.get j = some c → ρ i = some e → ρ j = some f → e.id = f.id → i = j
  below : Below C.B C.w0 w'
  big : C.B ≤ w'.heap.size
  pend : ∀ i b, C.pend i = some b → w.get i = some b ∧ ρ i = none ∧ i < w.next
  fit : ∀ i b, w.get i = some b → i < w.next

theorem WR.liveO {C : Ctx} {ρ : Env} {w : AW} {w' : World} (h : WR C ρ w w') {i : Nat} {b : Blk} {e : Ent} (hb : w.get i = some b) (he : ρ i = some e) :
    ∃ e1 o', ρ i = some e1 ∧ w'.heap[e1.id]? = some o' ∧ OR C.P ρ e1.extra b.obj o' ∧ (b.exact = true → e1.extra = 0) ∧ (C.G ≤ i → C.B ≤ e1.id) := by
  obtain ⟨o', r⟩ := h.live i b e hb he
  exact ⟨e, o', he, r⟩

theorem WR.real {C : Ctx} {ρ : Env} {w : AW} {w' : World} (h : WR C ρ w w') {i : Nat} {e : Ent} (he : ρ i = some e) : C.pend i = none := by
  cases hp : C.pend i with
  | none => rfl
  | some b => rw [(h.pend i b hp).2.1] at he; cases he

theorem WR.lt {C : Ctx} {ρ : Env} {w : AW} {w' : World} (h : WR C ρ w w') {i : Nat} {e : Ent} (he : ρ i = some e) : i < w.next := by
  rcases Nat.lt_or_ge i w.next with k | k
  · exact k
  · rw [h.top i k] at he; cases he

theorem blt_iff {a b : Nat} : Nat.blt a b = true ↔ a < b := by simp [Nat.blt_eq]

theorem AW.get_lt {w : AW} {r : Nat} {b : Blk} (h : w.get r = some b) : r < lim := by
  unfold AW.get at h
  cases hb : Nat.blt r lim with
  | true => exact blt_iff.1 hb
  | false => rw [hb] at h; cases h

theorem lim_eq : lim = 2 ^ dep := by decide

theorem AW.get_put {w : AW} {r : Nat} {v : Option Blk} {j : Nat} (hr : r < lim) : (w.put r v).get j = if j = r then v else w.get j := by
  unfold AW.get AW.put
  by_cases hj : j < lim
  · rw [blt_iff.2 hj]
    exact T.get_put dep w.tab r v j (lim_eq ▸ hr) (lim_eq ▸ hj)
  · have : Nat.blt j lim = false := by
      cases h : Nat.blt j lim with
      | true => exact absurd (blt_iff.1 h) hj
      | false => rfl
    rw [this, if_neg (by omega)]

theorem AW.get_push {w : AW} {b : Blk} {j : Nat} (hr : w.next < lim) : (w.push b).get j = if j = w.next then some b else w.get j :=
  AW.get_put (w := w) (v := some b) hr

/-- a part of what is known may be let go -/
theorem WR.drop {C : Ctx} {ρ : Env} {w : AW} {w' : World} (h : WR C ρ w w') (r : Nat) (hr : r < lim) (hp : C.pend r = none) : WR C ρ (w.drop r) w' := by
  refine ⟨h.top, ?_, ?_, h.below, h.big, ?_, ?_⟩
  · intro i b e hb
    unfold AW.drop at hb
    rw [AW.get_put hr] at hb
    split at hb
    · cases hb
    · exact h.live i b e hb
  · intro i j b c e f hb hc
    unfold AW.drop at hb hc
    rw [AW.get_put hr] at hb hc
    split at hb
    · cases hb
    · split at hc
      · cases hc
      · exact h.inj i j b c e f hb hc
  · intro i b hb
    obtain ⟨h1, h2, h3⟩ := h.pend i b hb
    refine ⟨?_, h2, h3⟩
    unfold AW.drop
    rw [AW.get_put hr]
    split
    · rename_i hi; subst hi; rw [hp] at hb; cases hb
    · exact h1
  · intro i b hb
    unfold AW.drop at hb
    rw [AW.get_put hr] at hb
    split at hb
    · cases hb
    · exact h.fit i b hb

theorem heap_lt {w : World} {b : Nat} {o : Obj} (h : w.heap[b]? = some o) : b < w.heap.size := by
  rcases Nat.lt_or_ge b w.heap.size with k | k
  · exact k
  · simp [Array.getElem?_eq_none k] at h

theorem push_get {w' : World} {o' : Obj} {i : Nat} {o : Obj} (hi : w'.heap[i]? = some o) : (w'.heap.push o')[i]? = some o := by
  have hlt := heap_lt hi
  rw [Array.getElem?_push, if_neg (by omega)]; exact hi

/-- a new block, on both sides -/
theorem WR.push {C : Ctx} {ρ : Env} {w : AW} {w' : World} (h : WR C ρ w w') (b : Blk) (o' : Obj) (x : Nat) (hx : b.exact = true → x = 0) (hn : w.next < lim)
    (ho : OR C.P ρ x b.obj o') : WR C (ρ.ext w.next ⟨w'.heap.size, x⟩) (w.push b) { w' with heap := w'.heap.push o' } := by
  have hnone := h.top _ (Nat.le_refl _)
  have hp := Env.le_ext ⟨w'.heap.size, x⟩ hnone
  have hlast : (ρ.ext w.next ⟨w'.heap.size, x⟩) w.next = some ⟨w'.heap.size, x⟩ := Env.ext_same
  have small : ∀ k d g, k ≠ w.next → w.get k = some d → (ρ.ext w.next ⟨w'.heap.size, x⟩) k = some g → g.id < w'.heap.size ∧ ρ k = some g := by
    intro k d g hne hk hg
    rw [Env.ext_other hne] at hg
    obtain ⟨o1, h1, _⟩ := h.live k d g hk hg
    exact ⟨heap_lt h1, hg⟩
  refine ⟨?_, ?_, ?_, ?_, ?_, ?_, ?_⟩
  · intro i hi
    have hi : w.next + 1 ≤ i := hi
    rw [Env.ext_other (by omega)]
    exact h.top i (by omega)
  · intro i c e hc he
    rw [AW.get_push hn] at hc
    split at hc
    · rename_i hi
      subst hi
      cases hc
      rw [hlast] at he
      cases he
      exact ⟨o', by simp, ho.mono hp, hx, fun _ => h.big⟩
    · rename_i hi
      rw [Env.ext_other hi] at he
      obtain ⟨p', hp', hr, hex, hg⟩ := h.live i c e hc he
      exact ⟨p', push_get hp', hr.mono hp, hex, hg⟩
  · intro i j b1 c1 e f hb hc he hf hid
    rw [AW.get_push hn] at hb hc
    split at hb
    · rename_i hi
      split at hc
      · rename_i hj; omega
      · rename_i hj
        subst hi
        rw [hlast] at he
        cases he
        have := (small j c1 f hj hc hf).1
        simp at hid
        omega
    · rename_i hi
      split at hc
      · rename_i hj
        subst hj
        rw [hlast] at hf
        cases hf
        have := (small i b1 e hi hb he).1
        simp at hid
        omega
      · rename_i hj
        exact h.inj i j b1 c1 e f hb hc (small i b1 e hi hb he).2 (small j c1 f hj hc hf).2 hid
  · exact h.below.alloc h.big o'
  · show C.B ≤ (w'.heap.push o').size
    have := h.big
    simp; omega
  · intro i c hc
    obtain ⟨h1, h2, h3⟩ := h.pend i c hc
    refine ⟨?_, ?_, ?_⟩
    · rw [AW.get_push hn, if_neg (by omega)]; exact h1
    · rw [Env.ext_other (by omega)]; exact h2
    · show i < w.next + 1
      omega
  · intro i c hc
    rw [AW.get_push hn] at hc
    show i < w.next + 1
    split at hc
    · omega
    · have := h.fit i c hc; omega

/-- a new block of the evaluator's, that the model has not made yet -/
theorem WR.reserve {P : Program} {G B : Nat} {w0 : World} {pend : Nat → Option Blk} {good : Res → Prop} {ρ : Env} {w : AW} {w' : World}
    (h : WR ⟨P, G, B, w0, pend, good⟩ ρ w w') (b : Blk) (hn : w.next < lim) :
    WR ⟨P, G, B, w0, fun i => if i = w.next then some b else pend i, good⟩ ρ (w.push b) w' := by
  have hnone := h.top _ (Nat.le_refl _)
  refine ⟨fun i hi => h.top i (Nat.le_of_succ_le hi), ?_, ?_, h.below, h.big, ?_, ?_⟩
  · intro i c e hc he
    rw [AW.get_push hn, if_neg (by have := h.lt he; omega)] at hc
    exact h.live i c e hc he
  · intro i j c d e f hc hd he hf
    rw [AW.get_push hn, if_neg (by have := h.lt he; omega)] at hc
    rw [AW.get_push hn, if_neg (by have := h.lt hf; omega)] at hd
    exact h.inj i j c d e f hc hd he hf
  · intro i c hc
    simp only at hc
    split at hc
    · rename_i hi
      subst hi
      cases hc
      exact ⟨by rw [AW.get_push hn, if_pos rfl], hnone, Nat.lt_succ_self _⟩
    · obtain ⟨h1, h2, h3⟩ := h.pend i c hc
      have h3 : i < w.next := h3
      exact ⟨by rw [AW.get_push hn, if_neg (by omega)]; exact h1, h2, Nat.lt_succ_of_lt h3⟩
  · intro i c hc
    rw [AW.get_push hn] at hc
    show i < w.next + 1
    split at hc
    · omega
    · have := h.fit i c hc; omega

/-- the model makes a block that the evaluator has made ahead -/
theorem WR.adopt {P : Program} {G B : Nat} {w0 : World} {pend : Nat → Option Blk} {good : Res → Prop} {ρ : Env} {w : AW} {w' : World}
    (h : WR ⟨P, G, B, w0, pend, good⟩ ρ w w') {r : Nat} {b : Blk} (hr : pend r = some b) (o' : Obj) (ho : OR P ρ 0 b.obj o') :
    WR ⟨P, G, B, w0, fun i => if i = r then none else pend i, good⟩ (ρ.ext r ⟨w'.heap.size, 0⟩) w { w' with heap := w'.heap.push o' } := by
  obtain ⟨hb, hnone, hlt⟩ := h.pend r b hr
  have hp := Env.le_ext ⟨w'.heap.size, 0⟩ hnone
  have hlast : (ρ.ext r ⟨w'.heap.size, 0⟩) r = some ⟨w'.heap.size, 0⟩ := Env.ext_same
  have small : ∀ k d g, k ≠ r → w.get k = some d → (ρ.ext r ⟨w'.heap.size, 0⟩) k = some g → g.id < w'.heap.size ∧ ρ k = some g := by
    intro k d g hne hk hg
    rw [Env.ext_other hne] at hg
    obtain ⟨o1, h1, _⟩ := h.live k d g hk hg
    exact ⟨heap_lt h1, hg⟩
  refine ⟨?_, ?_, ?_, ?_, ?_, ?_, h.fit⟩
  · intro i hi
    rw [Env.ext_other (by omega)]
    exact h.top i hi
  · intro i c e hc he
    by_cases hi : i = r
    · subst hi
      rw [hlast] at he
      cases he
      rw [hb] at hc
      cases hc
      exact ⟨o', by simp, ho.mono hp, fun _ => rfl, fun _ => h.big⟩
    · rw [Env.ext_other hi] at he
      obtain ⟨p', hp', hr, hex, hg⟩ := h.live i c e hc he
      exact ⟨p', push_get hp', hr.mono hp, hex, hg⟩
  · intro i j b1 c1 e f hb1 hc1 he hf hid
    by_cases hi : i = r
    · by_cases hj : j = r
      · omega
      · subst hi
        rw [hlast] at he
        cases he
        have := (small j c1 f hj hc1 hf).1
        simp at hid
        omega
    · by_cases hj : j = r
      · subst hj
        rw [hlast] at hf
        cases hf
        have := (small i b1 e hi hb1 he).1
        simp at hid
        omega
      · exact h.inj i j b1 c1 e f hb1 hc1 (small i b1 e hi hb1 he).2 (small j c1 f hj hc1 hf).2 hid
  · exact h.below.alloc h.big o'
  · show B ≤ (w'.heap.push o').size
    have h1 : B ≤ w'.heap.size := h.big
    simp; omega
  · intro i c hc
    simp only at hc
    split at hc
    · cases hc
    · rename_i hi
      obtain ⟨h1, h2, h3⟩ := h.pend i c hc
      exact ⟨h1, by rw [Env.ext_other hi]; exact h2, h3⟩

/-- an old block is written, on both sides -/
theorem WR.write {C : Ctx} {ρ : Env} {w : AW} {w' : World} (h : WR C ρ w w') {r : Nat} {b b1 : Blk} {e : Ent} {o1 : Obj} (hb : w.get r = some b) (he : ρ r = some e) (hG : C.G ≤ r)
    (ho : OR C.P ρ e.extra b1.obj o1) (hex : b1.exact = true → e.extra = 0) : WR C ρ (w.put r (some b1)) { w' with heap := w'.heap.setIfInBounds e.id o1 } := by
  have hr := AW.get_lt hb
  obtain ⟨o0, ho0, _, _, hg0⟩ := h.live r b e hb he
  have hlt := heap_lt ho0
  refine ⟨h.top, ?_, ?_, ?_, ?_, ?_, ?_⟩
  · intro i c f hc hf
    rw [AW.get_put hr] at hc
    split at hc
    · rename_i hi
      subst hi
      cases hc
      rw [he] at hf
      cases hf
      exact ⟨o1, by simp [hlt], ho, hex, fun _ => hg0 hG⟩
    · rename_i hi
      obtain ⟨p', hp', q⟩ := h.live i c f hc hf
      refine ⟨p', ?_, q⟩
      have hne : e.id ≠ f.id := fun k => hi (h.inj r i b c e f hb hc he hf k).symm
      simp only [Array.getElem?_setIfInBounds]
      rw [if_neg hne]
      exact hp'
  · intro i j c d f g hc hd
    rw [AW.get_put hr] at hc hd
    have old : ∀ k q, (if k = r then some b1 else w.get k) = some q → ∃ q', w.get k = some q' := by
      intro k q hk
      split at hk
      · rename_i hi; subst hi; exact ⟨b, hb⟩
      · exact ⟨q, hk⟩
    obtain ⟨c', hc'⟩ := old i c hc
    obtain ⟨d', hd'⟩ := old j d hd
    exact h.inj i j c' d' f g hc' hd'
  · refine h.below.trans ⟨rfl, rfl, rfl, by simp, fun k hk => ?_⟩
    have := hg0 hG
    simp only [Array.getElem?_setIfInBounds]
    rw [if_neg (by omega)]
  · have := h.big
    simp; omega
  · intro i c hc
    obtain ⟨h1, h2, h3⟩ := h.pend i c hc
    refine ⟨?_, h2, h3⟩
    rw [AW.get_put hr]
    split
    · rename_i hi; subst hi; rw [he] at h2; cases h2
    · exact h1
  · intro i c hc
    rw [AW.get_put hr] at hc
    split at hc
    · rename_i hi; subst hi; exact h.fit _ _ hb
    · exact h.fit i c hc

theorem WR.drawn {C : Ctx} {ρ : Env} {w : AW} {w' : World} (h : WR C ρ w w') (n : Nat) : WR C ρ w { w' with drawn := n } :=
  ⟨h.top, h.live, h.inj, h.below.trans ⟨rfl, rfl, rfl, Nat.le_refl _, fun _ _ => rfl⟩, h.big, h.pend, h.fit⟩

structure Fine (good : Res → Prop) : Prop where
  bad : ¬ good .bad
  cat : ∀ a b, good (a.cat b) → good a ∧ good b

theorem Fine.all {good : Res → Prop} (h : Fine good) {α : Type} {l : List α} {f : α → Res} (k : good (allR l f)) : ∀ x ∈ l, good (f x) := by
  induction l with
  | nil => intro x hx; cases hx
  | cons a l ih =>
    obtain ⟨h1, h2⟩ := h.cat _ _ k
    intro x hx
    cases hx with
    | head => exact h1
    | tail _ hx => exact ih h2 x hx

/-- A run and its twin. -/
def Sim (C : Ctx) {α β : Type} (R : Env → α → β → Prop) (ρ : Env) (s : Sem α) (s' : Sem β) : Prop :=
  Fine C.good → ∀ ρ1, Env.le ρ ρ1 → ∀ w w', WR C ρ1 w w' → ∀ K : α → AW → Res, C.good (ev C.P C.G s w K) →
    ∃ x' v' ρ2 x v, s'.run C.P w' = .ok x' v' ∧ Env.le ρ1 ρ2 ∧ R ρ2 x x' ∧ WR C ρ2 v v' ∧ C.good (K x v)

theorem Sim.mono {C : Ctx} {α β : Type} {R : Env → α → β → Prop} {ρ ρ' : Env} {s : Sem α} {s' : Sem β} (h : Sim C R ρ s s') (k : Env.le ρ ρ') : Sim C R ρ' s s' :=
  fun hg ρ1 h1 => h hg ρ1 (k.trans h1)

theorem Sim.imp {C : Ctx} {α β : Type} {R R1 : Env → α → β → Prop} {ρ : Env} {s : Sem α} {s' : Sem β} (h : Sim C R ρ s s') (k : ∀ ρ1, Env.le ρ ρ1 → ∀ x y, R ρ1 x y → R1 ρ1 x y) : Sim C R1 ρ s s' := by
  intro hfi ρ1 h1 w w' hw K hK
  obtain ⟨x', v', ρ2, x, v, hr, h2, hR, hv, hk⟩ := h hfi ρ1 h1 w w' hw K hK
  exact ⟨x', v', ρ2, x, v, hr, h2, k ρ2 (h1.trans h2) x x' hR, hv, hk⟩

theorem ev_bind (P : Program) (G : Nat) {α β : Type} (s : Sem α) (f : α → Sem β) (w : AW) (K : β → AW → Res) :
    ev P G (s.bind f) w K = ev P G s w (fun x v => ev P G (f x) v K) := by
  induction s generalizing w with
  | pure a => rfl
  | load m a k ih => simp only [Sem.bind, ev]; split <;> simp [ih]
  | store m a v k ih => simp only [Sem.bind, ev]; split <;> (try split) <;> simp [ih]
  | new o k ih => simp only [Sem.bind, ev]; split <;> simp [ih]
  | shape r k ih => simp only [Sem.bind, ev]; split <;> simp [ih]
  | freeze a n k ih => simp only [Sem.bind, ev]; (repeat' split) <;> simp [ih]
  | frozen a k ih => simp only [Sem.bind, ev]; (repeat' split) <;> simp [ih]
  | getObj r k ih => simp only [Sem.bind, ev]; (repeat' split) <;> simp [ih]
  | setObj r o k ih => simp only [Sem.bind, ev]; (repeat' split) <;> simp [ih]
  | choose q k ih => simp only [Sem.bind, ev]; (repeat' split) <;> simp [ih]
  | sys c k ih => rfl
  | program k ih => simp only [Sem.bind, ev]; simp [ih]
  | mark m k ih => simp only [Sem.bind, ev]; simp [ih]
  | halt h => rfl

theorem Sim.pure {C : Ctx} {α β : Type} {R : Env → α → β → Prop} {ρ : Env} {x : α} {y : β} (h : ∀ ρ1, Env.le ρ ρ1 → R ρ1 x y) : Sim C R ρ (.pure x) (.pure y) := by
  intro hfi ρ1 h1 w w' hw K hK
  exact ⟨y, w', ρ1, x, w, rfl, Env.le.refl _, h ρ1 h1, hw, hK⟩

theorem Sim.bind {C : Ctx} {α β α2 β2 : Type} {R : Env → α → β → Prop} {R2 : Env → α2 → β2 → Prop} {ρ : Env} {s : Sem α} {s' : Sem β} {f : α → Sem α2} {f' : β → Sem β2}
    (h : Sim C R ρ s s') (k : ∀ ρ1, Env.le ρ ρ1 → ∀ x y, R ρ1 x y → Sim C R2 ρ1 (f x) (f' y)) : Sim C R2 ρ (s >>= f) (s' >>= f') := by
  intro hfi ρ1 h1 w w' hw K hK
  have hK1 : C.good (ev C.P C.G (s.bind f) w K) := hK
  rw [ev_bind] at hK1
  obtain ⟨x', v', ρ2, x, v, hr, h2, hR, hv, hk⟩ := h hfi ρ1 h1 w w' hw _ hK1
  obtain ⟨y', u', ρ3, y, u, hr2, h3, hR2, hu, hk2⟩ := k ρ2 (h1.trans h2) x x' hR hfi ρ2 (Env.le.refl _) v v' hv K hk
  exact ⟨y', u', ρ3, y, u, by rw [Sem.run_bind, hr]; exact hr2, h2.trans h3, hR2, hu, hk2⟩

theorem Sim.halt {C : Ctx} {α β : Type} {R : Env → α → β → Prop} {ρ : Env} {h : Halt} {s' : Sem β} : Sim C R ρ (Sem.halt h : Sem α) s' := by
  intro hfi ρ1 h1 w w' hw K hK
  exact absurd hK hfi.bad

theorem Sim.stuck {C : Ctx} {α β : Type} {R : Env → α → β → Prop} {ρ : Env} {why : String} {s' : Sem β} : Sim C R ρ (Go.stuck why : Sem α) s' := Sim.halt
theorem Sim.unsupported {C : Ctx} {α β : Type} {R : Env → α → β → Prop} {ρ : Env} {u : Unsupported} {s' : Sem β} : Sim C R ρ (Go.unsupported u : Sem α) s' := Sim.halt

theorem Sim.program {C : Ctx} {ρ : Env} : Sim C (fun _ x y => x = C.P ∧ y = C.P) ρ Go.program Go.program := by
  intro hfi ρ1 h1 w w' hw K hK
  exact ⟨C.P, w', ρ1, C.P, w, rfl, Env.le.refl _, ⟨rfl, rfl⟩, hw, hK⟩

theorem Sim.markB {C : Ctx} {α β : Type} {R : Env → α → β → Prop} {ρ : Env} {m m' : Mark} {s : Sem α} {s' : Sem β} (h : Sim C R ρ s s') : Sim C R ρ (.mark m s) (.mark m' s') := by
  intro hfi ρ1 h1 w w' hw K hK
  exact h hfi ρ1 h1 w w' hw K hK

theorem Sim.mark_ {C : Ctx} {ρ : Env} {m m' : Mark} : Sim C (fun _ (_ _ : Unit) => True) ρ (Go.mark m) (Go.mark m') :=
  Sim.markB (Sim.pure fun _ _ => trivial)

theorem World.cell?_of {w : World} {a : Addr} {c : Array Value} {e : TypeId} {fr : Nat × Nat} (h : w.heap[a.block]? = some (.cells c e fr)) (hs : a.spot = none) : w.cell? a = c[a.off]? := by
  simp [World.cell?, h, hs]

theorem Sim.load {C : Ctx} {ρ : Env} {a b : Addr} (h : AR ρ a b) : Sim C VR ρ (Go.load a) (Go.load b) := by
  intro hfi ρ1 h1 w w' hw K hK
  simp only [Go.load, ev] at hK ⊢
  split at hK
  · rename_i v hv
    obtain ⟨e, he, rfl⟩ := h.mono h1
    simp only [AW.cell] at hv
    split at hv
    · rename_i c t fr x hg
      split at hv
      · rename_i hs
        obtain ⟨e1, o', he1, ho', hor, _⟩ := hw.liveO hg he
        rw [he] at he1
        cases he1
        obtain ⟨c', fr', rfl, _, hcs, _⟩ := hor
        obtain ⟨u, hu, r⟩ := hcs _ _ hv
        refine ⟨u, w', ρ1, v, w, ?_, Env.le.refl _, r, hw, hK⟩
        have := World.cell?_of (a := ⟨e.id, a.off, a.spot⟩) ho' hs
        simp only [Sem.run, this, hu]
      · cases hv
    · cases hv
  · exact absurd hK hfi.bad

theorem single_of {ρ : Env} {v u : Value} (h : VR ρ v u) (hs : single v = true) : (∀ c, u ≠ .agg c) ∧ (∀ c, u ≠ .tuple c) := by
  cases h <;> simp_all [single]

theorem run_store {P : Program} {m : Go.Mode} {a : Addr} {u : Value} {k : Sem Unit} {w : World} (h1 : ∀ c, u ≠ .agg c) (h2 : ∀ c, u ≠ .tuple c) {v : Value} (hc : w.cell? a = some v) (hf : w.frozen? a = false) :
    (Sem.store m a u k).run P w = k.run P (w.setCell a u) := by
  cases u <;> simp_all [Sem.run]

theorem Sim.store {C : Ctx} {ρ : Env} {a b : Addr} {v u : Value} (h : AR ρ a b) (hv : VR ρ v u) : Sim C (fun _ (_ _ : Unit) => True) ρ (Go.store a v) (Go.store b u) := by
  intro hfi ρ1 h1 w w' hw K hK
  simp only [Go.store, ev] at hK ⊢
  split at hK
  · rename_i hsing
    split at hK
    · rename_i w1 hst
      obtain ⟨e, he, rfl⟩ := h.mono h1
      simp only [AW.store] at hst
      split at hst
      · rename_i c t fr x hg
        split at hst
        · rename_i hcond
          cases hst
          simp only [Bool.and_eq_true, Nat.ble_eq, Option.isNone_iff_eq_none, Nat.blt_eq, Bool.not_eq_true'] at hcond
          obtain ⟨⟨⟨hG, hs⟩, hoff⟩, hin⟩ := hcond
          obtain ⟨e1, o', he1, ho', hor, hex, hB⟩ := hw.liveO hg he
          rw [he] at he1
          cases he1
          obtain ⟨c', fr', rfl, hsz, hcs, hfr⟩ := hor
          have hoff' : a.off < c'.size := by omega
          have hv1 := hv.mono h1
          obtain ⟨hn1, hn2⟩ := single_of hv1 hsing
          have hcell : w'.cell? ⟨e.id, a.off, a.spot⟩ = some c'[a.off] := by
            rw [World.cell?_of (a := ⟨e.id, a.off, a.spot⟩) ho' hs]; simp [hoff']
          have hfroz : w'.frozen? ⟨e.id, a.off, a.spot⟩ = false := by
            obtain ⟨lo, hi⟩ := fr
            have hin' : ¬ (lo ≤ a.off ∧ a.off < hi) := by
              intro k
              have : inRange (lo, hi) a.off = true := by simp [inRange, k.1, k.2]
              rw [this] at hin; cases hin
            simp only [World.frozen?, ho']
            rcases hfr with rfl | rfl | ⟨_, rfl⟩
            · simp; omega
            · simp
            · simp; omega
          refine ⟨(), _, ρ1, (), _, run_store hn1 hn2 hcell hfroz, Env.le.refl _, trivial, ?_, hK⟩
          have hset : w'.setCell ⟨e.id, a.off, a.spot⟩ u = { w' with heap := w'.heap.setIfInBounds e.id (.cells (c'.setIfInBounds a.off u) t fr') } := by
            simp only [World.setCell]
            congr 1
            apply Array.ext_getElem?
            intro i
            simp only [Array.getElem?_modify, Array.getElem?_setIfInBounds]
            by_cases hi : e.id = i
            · subst hi
              have hlt : e.id < w'.heap.size := by
                rcases Nat.lt_or_ge e.id w'.heap.size with k | k
                · exact k
                · simp [Array.getElem?_eq_none k] at ho'
              have hg' : w'.heap[e.id] = .cells c' t fr' := by
                have := ho'
                rw [Array.getElem?_eq_getElem hlt] at this
                exact Option.some.inj this
              simp [hs, hlt, hg']
            · simp [hi]
          rw [hset]
          refine hw.write hg he hG ?_ hex
          refine ⟨_, fr', rfl, by simp [hsz], ?_, by simpa using hfr⟩
          intro i y hy
          simp only [Array.getElem?_setIfInBounds] at hy ⊢
          by_cases hi : a.off = i
          · subst hi
            simp only [if_true] at hy ⊢
            rw [if_pos hoff] at hy
            cases hy
            rw [if_pos hoff']
            exact ⟨u, rfl, hv1⟩
          · rw [if_neg hi] at hy ⊢
            exact hcs i y hy
        · cases hst
      · cases hst
    · exact absurd hK hfi.bad
  · exact absurd hK hfi.bad

theorem Sim.new {C : Ctx} {ρ : Env} {o o' : Obj} (h : ∀ ρ1, Env.le ρ ρ1 → OR C.P ρ1 0 o o') :
    Sim C (fun ρ r r' => ∃ e, ρ r = some e ∧ e.id = r' ∧ e.extra = 0) ρ (Go.newObj o) (Go.newObj o') := by
  intro hfi ρ1 h1 w w' hw K hK
  simp only [Go.newObj, ev] at hK ⊢
  split at hK
  · rename_i hc
    simp only [Bool.and_eq_true, Nat.blt_eq] at hc
    exact ⟨w'.heap.size, _, ρ1.ext w.next ⟨w'.heap.size, 0⟩, w.next, _, rfl, Env.le_ext _ (hw.top _ (Nat.le_refl _)), ⟨⟨w'.heap.size, 0⟩, Env.ext_same, rfl, rfl⟩, hw.push ⟨o, true⟩ o' 0 (fun _ => rfl) hc.2 (h ρ1 h1), hK⟩
  · exact absurd hK hfi.bad

theorem Sim.shape {C : Ctx} {ρ : Env} {r : Nat} {e : Ent} (h : ρ r = some e) : Sim C (fun _ x y => x = y) ρ (Go.shape r) (Go.shape e.id) := by
  intro hfi ρ1 h1 w w' hw K hK
  simp only [Go.shape, ev] at hK ⊢
  have he := env_get h1 h
  split at hK
  · rename_i c t fr hg
    obtain ⟨e1, o', he1, ho', hor, hex, _⟩ := hw.liveO hg he
    rw [he] at he1; cases he1
    obtain ⟨c', fr', rfl, hsz, _, _⟩ := hor
    have h0 := hex rfl
    refine ⟨_, w', ρ1, _, w, rfl, Env.le.refl _, ?_, hw, hK⟩
    simp [World.shape?, ho', hsz, h0]
  · exact absurd hK hfi.bad
  · rename_i b hb1 hb2 hg
    obtain ⟨e1, o', he1, ho', hor, hex, _⟩ := hw.liveO hg he
    rw [he] at he1; cases he1
    refine ⟨_, w', ρ1, _, w, rfl, Env.le.refl _, ?_, hw, hK⟩
    obtain ⟨ob, x⟩ := b
    cases ob with
    | cells c t fr =>
      cases x
      · exact absurd rfl (hb2 c t fr)
      · exact absurd rfl (hb1 c t fr)
    | map es k => obtain ⟨es', rfl, _⟩ := hor; simp [World.shape?, ho']
    | mapIter m s n t => obtain ⟨m', rfl, _⟩ := hor; simp [World.shape?, ho']
    | stringIter s p => cases hor; simp [World.shape?, ho']
    | _ => exact hor.elim
  · exact absurd hK hfi.bad

theorem Sim.frozen {C : Ctx} {ρ : Env} {a b : Addr} (h : AR ρ a b) : Sim C (fun _ x y => x = false ∧ y = false) ρ (Go.frozen a) (Go.frozen b) := by
  intro hfi ρ1 h1 w w' hw K hK
  simp only [Go.frozen, ev] at hK ⊢
  obtain ⟨e, he, rfl⟩ := h.mono h1
  split at hK
  · rename_i c t fr x hg
    split at hK
    · rename_i hc
      simp only [Bool.and_eq_true, Nat.blt_eq, Bool.not_eq_true'] at hc
      obtain ⟨e1, o', he1, ho', hor, hex, _⟩ := hw.liveO hg he
      rw [he] at he1; cases he1
      obtain ⟨c', fr', rfl, hsz, _, hfr⟩ := hor
      refine ⟨_, w', ρ1, _, w, rfl, Env.le.refl _, ⟨rfl, ?_⟩, hw, hK⟩
      obtain ⟨lo, hi⟩ := fr
      have hin' : ¬ (lo ≤ a.off ∧ a.off < hi) := by
        intro k
        have : inRange (lo, hi) a.off = true := by simp [inRange, k.1, k.2]
        rw [this] at hc; cases hc.2
      simp only [World.frozen?, ho']
      rcases hfr with rfl | rfl | ⟨_, rfl⟩
      · simp; omega
      · simp
      · simp; omega
    · exact absurd hK hfi.bad
  · exact absurd hK hfi.bad

theorem Sim.getObj {C : Ctx} {ρ : Env} {r : Nat} {e : Ent} (h : ρ r = some e) :
    Sim C (fun ρ o o' => isCells o = false ∧ OR C.P ρ 0 o o') ρ (Go.getObj r) (Go.getObj e.id) := by
  intro hfi ρ1 h1 w w' hw K hK
  simp only [Go.getObj, ev] at hK ⊢
  have he := env_get h1 h
  split at hK
  · rename_i o x hg
    split at hK
    · exact absurd hK hfi.bad
    · rename_i hic
      obtain ⟨e1, o', he1, ho', hor, hex, _⟩ := hw.liveO hg he
      rw [he] at he1; cases he1
      refine ⟨o', w', ρ1, o, w, ?_, Env.le.refl _, ⟨by simpa using hic, ?_⟩, hw, hK⟩
      · cases o with
        | cells c t fr => simp [isCells] at hic
        | map es k => obtain ⟨es', rfl, _⟩ := hor; simp [Sem.run, ho']
        | mapIter m s n t => obtain ⟨m', rfl, _⟩ := hor; simp [Sem.run, ho']
        | stringIter s p => cases hor; simp [Sem.run, ho']
        | _ => exact hor.elim
      · cases o with
        | cells c t fr => simp [isCells] at hic
        | map es k => obtain ⟨es', h1, h2⟩ := hor; exact ⟨es', h1, h2⟩
        | mapIter m s n t => obtain ⟨m', h1, h2⟩ := hor; exact ⟨m', h1, h2⟩
        | stringIter s p => have h1 : o' = .stringIter s p := hor; exact h1
        | _ => exact hor.elim
  · exact absurd hK hfi.bad

theorem Sim.setObj {C : Ctx} {ρ : Env} {r : Nat} {e : Ent} {o o' : Obj} (h : ρ r = some e) (ho : ∀ ρ1 x, Env.le ρ ρ1 → isCells o = false → OR C.P ρ1 x o o') :
    Sim C (fun _ (_ _ : Unit) => True) ρ (Go.setObj r o) (Go.setObj e.id o') := by
  intro hfi ρ1 h1 w w' hw K hK
  simp only [Go.setObj, ev] at hK ⊢
  have he := env_get h1 h
  split at hK
  · rename_i o0 x hg
    split at hK
    · exact absurd hK hfi.bad
    · rename_i hic
      simp only [Bool.or_eq_true, Bool.not_eq_true', not_or, Bool.not_eq_true, Bool.not_eq_false, Nat.ble_eq] at hic
      obtain ⟨⟨⟨hc0, hc1⟩, hn⟩, hG⟩ := hic
      obtain ⟨e1, p', he1, hp', hor, hex, _⟩ := hw.liveO hg he
      rw [he] at he1; cases he1
      refine ⟨(), _, ρ1, (), _, ?_, Env.le.refl _, trivial, hw.write (b1 := ⟨o, x⟩) hg he hG (ho ρ1 _ h1 hc1) hex, hK⟩
      cases o0 with
      | cells c t fr => simp [isCells] at hc0
      | map es k => obtain ⟨es', rfl, _⟩ := hor; simp [Sem.run, hp']
      | mapIter m s n t => obtain ⟨m', rfl, _⟩ := hor; simp [Sem.run, hp']
      | stringIter s p => cases hor; simp [Sem.run, hp']
      | _ => exact hor.elim
  · exact absurd hK hfi.bad

theorem answers_cut {q : Question} {n : Nat} (h : answers q = some n) (hf : q.forced = false) (t : Nat) : q.cut t < n := by
  cases q with
  | mapNext m =>
    simp only [answers, Option.some.injEq] at h
    subst h
    simp only [Question.forced, decide_eq_false_iff_not, Nat.not_le] at hf
    simp only [Question.cut]; exact Nat.mod_lt _ (by omega)
  | extern s m =>
    cases m with
    | zero => simp [answers] at h
    | succ m =>
      simp only [answers, Option.some.injEq] at h
      subst h
      simp only [Question.cut]; rw [if_neg (by omega)]; exact Nat.mod_lt _ (by omega)
  | _ => simp [answers] at h

theorem Sim.choose {C : Ctx} {ρ : Env} {q : Question} : Sim C (fun _ x y => x = y) ρ (Go.choose q) (Go.choose q) := by
  intro hfi ρ1 h1 w w' hw K hK
  simp only [Go.choose, ev, Sem.run] at hK ⊢
  split at hK
  · rename_i hf
    rw [if_pos hf]
    exact ⟨0, w', ρ1, 0, w, rfl, Env.le.refl _, rfl, hw, hK⟩
  · rename_i hf
    rw [if_neg hf]
    split at hK
    · rename_i n hn
      exact ⟨_, _, ρ1, _, w, rfl, Env.le.refl _, rfl, hw.drawn _, hfi.all hK _ (List.mem_range.2 (answers_cut hn (by simpa using hf) _))⟩
    · exact absurd hK hfi.bad

end Go.Ab
