/- SimpleNone: walked. -/
import Derived.Test.YtjbgdflnldhgcaaGreatDoorSnEvB
import Derived.WalkKit
import Derived.WalkSpells
import Derived.WalkLawsBesides
import Derived.IntWalk
import Derived.RegionTactic
namespace Go.Proofs.Sn
open Go Go.RowKit Go.Ab

theorem Hid.mk' {p : Prop} (h : p) : Hid p := h

theorem step_nil (w : World) : Calls Tryz.prog 4 #[.pointer none] w fun e w' => e = .returned (.tuple #[.pointer none, .int .i64 0]) ∧ w = w' := by
  go_enter Tryz.func4, Tryz.ntmps4
  go_wp2
  go_ret2
  exact ⟨rfl, rfl⟩

theorem pattern_nil (w : World) : Calls Tryz.prog 5 #[.pointer none] w fun e w' => e = .returned (.tuple #[.string ⟨#[]⟩, .int .i64 1]) ∧ w = w' := by
  go_enter Tryz.func5, Tryz.ntmps5
  go_wp2
  go_ret2
  exact ⟨rfl, rfl⟩

theorem simplify_nil (w : World) : Calls Tryz.prog 6 #[.pointer none] w fun e w' => e = .returned (.pointer none) ∧ w = w' := by
  go_enter Tryz.func6, Tryz.ntmps6
  go_wp2
  go_ret
  exact ⟨rfl, rfl⟩

/-- a node's block -/
def star (A : Value) : Obj := .cells #[.int .i64 4, .int .u64 0, .int .u64 0, .int .u64 0, .int .u64 0, .bool false, A, .pointer none] 32
def nothing : Obj := .cells #[.int .i64 1, .int .u64 0, .int .u64 0, .int .u64 0, .int .u64 0, .bool false, .pointer none, .pointer none] 32

/-- a Star of a Star .. of the Set of nothing, at a block -/
def Chain (w : World) : Nat → Nat → Prop
  | 0, b => w.heap[b]? = some nothing
  | k + 1, b => ∃ a, w.heap[b]? = some (star (.pointer (some ⟨a, 0, none⟩))) ∧ Chain w k a

def opn (l : List UInt8) : List UInt8 := [40, 63, 58] ++ l
def cls (l : List UInt8) (c : UInt8) : List UInt8 := l ++ [c]
/-- its pattern -/
def pat : Nat → List UInt8
  | 0 => EvSnEv.noSet.data.toList
  | 1 => cls (pat 0) 42
  | k + 2 => cls (cls (opn (pat (k + 1))) 41) 42

/-- a string under a name of its own -/
def str (l : List UInt8) : ByteArray := ⟨l.toArray⟩

/-- the writer's block -/
def wr (d m : Int) : Obj := .cells #[.int .i64 d, .int .i64 m] 43

set_option maxHeartbeats 1000000 in
theorem write_zero (w : World) (t : (Nat → TypeId) × (Nat → Nat × Nat)) (hT : Holds w (EvSnEv.tabs t)) (W b : Nat) (hb : w.heap[b]? = some nothing) :
    Calls Tryz.prog 10 #[.pointer (some ⟨W, 0, none⟩), .pointer (some ⟨b, 0, none⟩)] w fun e w' => e = .returned (.string (str (pat 0))) ∧ Below w.heap.size w w' := by
  have c0 : w.cell? ⟨b, 0, none⟩ = some (.int .i64 1) := by simp [World.cell?, hb, nothing]
  have c1 : w.cell? ⟨b, 1, none⟩ = some (.int .u64 0) := by simp [World.cell?, hb, nothing]
  have c2 : w.cell? ⟨b, 2, none⟩ = some (.int .u64 0) := by simp [World.cell?, hb, nothing]
  have c3 : w.cell? ⟨b, 3, none⟩ = some (.int .u64 0) := by simp [World.cell?, hb, nothing]
  have c4 : w.cell? ⟨b, 4, none⟩ = some (.int .u64 0) := by simp [World.cell?, hb, nothing]
  clear hb
  go_enter Tryz.func10, Tryz.ntmps10
  go_wp2_with (go_at_call 25; refine (EvSnEv.set_calls t hT).mono ?_; rintro e w' ⟨rfl, hB⟩)
  go_ret
  exact ⟨by simp [pat, str], hB⟩

theorem wr_set0 {w : World} {W : Nat} {d m : Int} (h : w.heap[W]? = some (wr d m)) (x : Int) : (w.setCell ⟨W, 0, none⟩ (.int .i64 x)).heap[W]? = some (wr x m) := by
  simp [World.setCell, Array.getElem?_modify, h, wr]
theorem wr_set1 {w : World} {W : Nat} {d m : Int} (h : w.heap[W]? = some (wr d m)) (x : Int) : (w.setCell ⟨W, 1, none⟩ (.int .i64 x)).heap[W]? = some (wr d x) := by
  simp [World.setCell, Array.getElem?_modify, h, wr]
theorem wr_lt {w : World} {W : Nat} {o : Obj} (h : w.heap[W]? = some o) : W < w.heap.size := by
  rcases Nat.lt_or_ge W w.heap.size with k | k
  · exact k
  · rw [Array.getElem?_eq_none k] at h; cases h
theorem set_grown (w : World) (W i : Nat) (v : Value) : w.grownBy (w.setCell ⟨W, i, none⟩ v) (some W) :=
  ⟨rfl, rfl, rfl, by simp [World.setCell], fun k _ hne => Below.heap_setCell w ⟨W, i, none⟩ v k (fun e => hne (by rw [e]))⟩
theorem grown_trans {a b c : World} {r : Option Nat} (h : a.grownBy b r) (k : b.grownBy c r) : a.grownBy c r :=
  ⟨k.os.trans h.os, k.tape.trans h.tape, k.output.trans h.output, Nat.le_trans h.size k.size, fun i hi hn => (k.block i (Nat.lt_of_lt_of_le hi h.size) hn).trans (h.block i hi hn)⟩
theorem grown_below {a b : World} (h : Below a.heap.size a b) (r : Option Nat) : a.grownBy b r := ⟨h.os, h.tape, h.output, h.size, fun k hk _ => h.block k hk⟩
theorem grown_drew {a b : World} {r : Option Nat} (h : a.grownBy b r) : a.grownBy b.drew r := ⟨h.os, h.tape, h.output, h.size, h.block⟩
theorem grown_refl (a : World) (r : Option Nat) : a.grownBy a r := ⟨rfl, rfl, rfl, Nat.le_refl _, fun _ _ _ => rfl⟩

theorem chain_grown {w w' : World} {W : Nat} {d m : Int} (hW : w.heap[W]? = some (wr d m)) (hg : w.grownBy w' (some W)) : ∀ (k b : Nat), Chain w k b → Chain w' k b
  | 0, b, h => by
    have h : w.heap[b]? = some nothing := h
    have hne : some b ≠ some W := by
      intro e
      cases e
      rw [hW] at h
      simp [wr, nothing] at h
    exact (hg.block b (wr_lt h) hne).trans h
  | k + 1, b, h => by
    obtain ⟨a, h1, h2⟩ := h
    have hne : some b ≠ some W := by
      intro e
      cases e
      rw [hW] at h1
      simp [wr, star] at h1
    exact ⟨a, (hg.block b (wr_lt h1) hne).trans h1, chain_grown hW hg k a h2⟩

theorem holds_grown {w w' : World} {W : Nat} {d m : Int} (hW : w.heap[W]? = some (wr d m)) (hg : w.grownBy w' (some W)) {t : (Nat → TypeId) × (Nat → Nat × Nat)} (h : Holds w (EvSnEv.tabs t)) : Holds w' (EvSnEv.tabs t) := by
  intro x hx
  have h1 := h x hx
  have hne : some x.g ≠ some W := by
    intro e
    cases e
    rw [hW] at h1
    have hx : x = ⟨0, .u8, EvSnEv.nums YtjbgdflnldhgcaaGreatDoor.Rows.laid_math_bits_deBruijn64tab, t.1 0, t.2 0⟩ := List.mem_singleton.1 hx
    subst hx
    simp [wr] at h1
    have := congrArg List.length h1.1
    simp at this
    revert this
    decide
  exact (hg.block _ (wr_lt h1) hne).trans h1

/-- the greater one -/
def mx2 (m d : Int) : Int := if m < d then d else m
theorem max2_ints (k k' : IntKind) (x y : Int) : Builtin.max2 (.int k x) (.int k' y) = pure (.int k (mx2 x y)) := by simp only [Builtin.max2, gt_iff_lt, mx2]
theorem max_ints (ats : Array TypeId) (ty : TypeId) (a b : Value) : Builtin.max_ ats ty #[a, b] = (Builtin.max2 a b >>= fun s => pure s) := by simp only [Builtin.max_, List.foldlM_cons, List.foldlM_nil]

/-- the most after a chain's pattern is written -/
def mst : Nat → Int → Int → Int
  | 0, _, m => m
  | 1, _, m => m
  | k + 2, d, m => mst (k + 1) (d + 1) (mx2 m (d + 1))

/-- what stands ahead of writing a chain -/
structure Ahead (w : World) (W b k : Nat) (d m : Int) (t : (Nat → TypeId) × (Nat → Nat × Nat)) : Prop where
  hT : Holds w (EvSnEv.tabs t)
  hW : w.heap[W]? = some (wr d m)
  hC : Chain w k b
  d0 : 0 ≤ d
  m0 : 0 ≤ m
  d1 : d + k ≤ 400
  m1 : m ≤ 400

theorem Ahead.grown {w w' : World} {W b k : Nat} {d m d' m' : Int} {t : (Nat → TypeId) × (Nat → Nat × Nat)} (h : Ahead w W b k d m t) (hg : w.grownBy w' (some W)) (hW : w'.heap[W]? = some (wr d' m')) (d0 : 0 ≤ d') (m0 : 0 ≤ m') (d1 : d' + k ≤ 400) (m1 : m' ≤ 400) : Ahead w' W b k d' m' t :=
  ⟨holds_grown h.hW hg h.hT, hW, chain_grown h.hW hg k b h.hC, d0, m0, d1, m1⟩

/-- what stands behind it -/
def Wrote (w : World) (W : Nat) (d m' : Int) (s : List UInt8) (e : Ending) (w' : World) : Prop :=
  e = .returned (.string (str s)) ∧ w'.heap[W]? = some (wr d m') ∧ w.grownBy w' (some W)

theorem wr_cells {w : World} {W : Nat} {d m : Int} (h : w.heap[W]? = some (wr d m)) : w.cell? ⟨W, 0, none⟩ = some (.int .i64 d) ∧ w.cell? ⟨W, 1, none⟩ = some (.int .i64 m) ∧ w.frozen? ⟨W, 0, none⟩ = false ∧ w.frozen? ⟨W, 1, none⟩ = false := by
  refine ⟨by simp [World.cell?, h, wr], by simp [World.cell?, h, wr], by simp [World.frozen?, h, wr], by simp [World.frozen?, h, wr]⟩

theorem pat_len : ∀ k, (pat k).length ≤ 30 + 5 * k
  | 0 => by simp [pat, EvSnEv.noSet]
  | 1 => by simp [pat, cls, EvSnEv.noSet]
  | k + 2 => by
    have := pat_len (k + 1)
    simp only [pat, opn, cls, List.length_append, List.length_cons, List.length_nil]
    omega

theorem add_ahead (l : List UInt8) (hl : l.length ≤ 5000) (w : World) : (Op.stringOp .add ⟨#[40, 63, 58]⟩ (str l)).run Tryz.prog w = .ok (.string (str (opn l))) w := by
  unfold str
  rw [run_string_add_sum w _ _ (by simp [ByteArray.size]; omega)]
  exact congrArg (fun x => Result.ok (Value.string x) w) (ByteArray.mk_append_mk [40, 63, 58] l)
theorem add_behind (l : List UInt8) (c : UInt8) (hl : l.length ≤ 5000) (w : World) : (Op.stringOp .add (str l) ⟨#[c]⟩).run Tryz.prog w = .ok (.string (str (cls l c))) w := by
  unfold str
  rw [run_string_add_sum w _ _ (by simp [ByteArray.size]; omega)]
  exact congrArg (fun x => Result.ok (Value.string x) w) (ByteArray.mk_append_mk l [c])

attribute [local go_sem] max2_ints max_ints

set_option maxHeartbeats 2000000 in
theorem group_any {w : World} {W b k : Nat} {d m : Int} {t : (Nat → TypeId) × (Nat → Nat × Nat)} (hA : Ahead w W b k d m t) (hd : d + k + 1 ≤ 400) (hk : k ≤ 300)
    (IH : ∀ (w : World) (d m : Int), Ahead w W b k d m t → Calls Tryz.prog 10 #[.pointer (some ⟨W, 0, none⟩), .pointer (some ⟨b, 0, none⟩)] w (Wrote w W d (mst k d m) (pat k))) :
    Calls Tryz.prog 43 #[.pointer (some ⟨W, 0, none⟩), .pointer (some ⟨b, 0, none⟩)] w (Wrote w W d (mst k (d + 1) (mx2 m (d + 1))) (cls (opn (pat k)) 41)) := by
  obtain ⟨c0, c1, f0, f1⟩ := wr_cells hA.hW
  have hd0 := hA.d0
  have hm0 := hA.m0
  have hm1 := hA.m1
  have HA := Hid.mk' hA
  have HI := Hid.mk' IH
  have HW1 := Hid.mk' (wr_set0 hA.hW (d + 1))
  have HG1 := Hid.mk' (set_grown w W 0 (.int .i64 (d + 1)))
  clear hA IH
  generalize hpost : Wrote w W d (mst k (d + 1) (mx2 m (d + 1))) (cls (opn (pat k)) 41) = Post
  have HP := Hid.mk' hpost
  clear hpost
  go_enter Tryz.func43, Tryz.ntmps43
  go_wp2
  generalize w.setCell ⟨W, 0, none⟩ (.int .i64 (d + 1)) = w1 at HW1 HG1
  obtain ⟨c0', c1', f0', f1'⟩ := wr_cells HW1.out
  clear c0 c1 f0 f1
  have HW2 : Hid (((w1.setCell ⟨W, 1, none⟩ (.int .i64 (mx2 m (d + 1)))).drew).heap[W]? = some (wr (d + 1) (mx2 m (d + 1)))) := wr_set1 HW1.out _
  have HG2 : Hid (w.grownBy ((w1.setCell ⟨W, 1, none⟩ (.int .i64 (mx2 m (d + 1)))).drew) (some W)) := grown_drew (grown_trans HG1.out (set_grown _ _ _ _))
  have hmx : 0 ≤ mx2 m (d + 1) ∧ mx2 m (d + 1) ≤ 400 := by unfold mx2; split <;> omega
  have e1 := fun w => add_ahead (pat k) (by have := pat_len k; omega) w
  have e2 := fun w => add_behind (opn (pat k)) 41 (by have := pat_len k; simp [opn]; omega) w
  go_region
  generalize (w1.setCell ⟨W, 1, none⟩ (.int .i64 (mx2 m (d + 1)))).drew = w2 at HW2 HG2 ⊢
  clear c0' c1' f0' f1' HW1 HG1
  have HA2 := Hid.mk' (HA.out.grown HG2.out HW2.out (by omega) hmx.1 (by omega) hmx.2)
  go_wp2_with fail
  refine (HI.out _ _ _ HA2.out).mono ?_
  rintro e w3 ⟨rfl, hW3, hG3⟩
  obtain ⟨c0, c1, f0, f1⟩ := wr_cells hW3
  have HW3 := Hid.mk' hW3
  have HG3 := Hid.mk' (grown_trans HG2.out hG3)
  clear hW3 hG3
  go_wp2
  rw [← HP.out]
  exact ⟨rfl, wr_set0 HW3.out _, grown_trans HG3.out (set_grown _ _ _ _)⟩

/-- the kinds that are put into a group -/
structure Kinds (w : World) (g : Nat) : Prop where
  k0 : w.cell? ⟨g, 0, none⟩ = some (.int .i64 0)
  k1 : w.cell? ⟨g, 1, none⟩ = some (.int .i64 2)
  k2 : w.cell? ⟨g, 2, none⟩ = some (.int .i64 3)
  k3 : w.cell? ⟨g, 3, none⟩ = some (.int .i64 4)

set_option maxHeartbeats 2000000 in
theorem part_star {w : World} {W b g : Nat} (hc : w.cell? ⟨b, 0, none⟩ = some (.int .i64 4)) (hK : Kinds w g) (s : List UInt8) (d m' : Int)
    (IH : Calls Tryz.prog 43 #[.pointer (some ⟨W, 0, none⟩), .pointer (some ⟨b, 0, none⟩)] w (Wrote w W d m' s)) :
    Calls Tryz.prog 26 #[.pointer (some ⟨W, 0, none⟩), .pointer (some ⟨b, 0, none⟩), .slice (some ⟨g, 0, none⟩) 4 4] w (Wrote w W d m' s) := by
  have HI := Hid.mk' IH
  obtain ⟨k0, k1, k2, k3⟩ := hK
  clear IH
  go_enter Tryz.func26, Tryz.ntmps26
  go_wp2
  go_loop [11] (fun i => ∃ k : Nat, k ≤ 3 ∧ i = .int .i64 k) (fun i => 4 - (intOf i).toNat)
  case atStart => exact ⟨0, by omega, rfl⟩
  case round =>
    obtain ⟨k, hk, rfl⟩ := hrel
    have : k = 0 ∨ k = 1 ∨ k = 2 ∨ k = 3 := by omega
    rcases this with rfl | rfl | rfl | rfl
    · go_wp2
      go_round
      case rel => exact ⟨1, by omega, rfl⟩
      case measure => simp [intOf]
    · go_wp2
      go_round
      case rel => exact ⟨2, by omega, rfl⟩
      case measure => simp [intOf]
    · go_wp2
      go_round
      case rel => exact ⟨3, by omega, rfl⟩
      case measure => simp [intOf]
    · go_wp2_with fail
      refine HI.out.mono ?_
      rintro e w3 ⟨rfl, hW3, hG3⟩
      have H := Hid.mk' (show Wrote w W d m' s (.returned (.string (str s))) w3 from ⟨rfl, hW3, hG3⟩)
      clear hW3 hG3
      go_wp2
      go_ret
      exact H.out

set_option maxHeartbeats 2000000 in
theorem part_zero {w : World} {W b g : Nat} (hc : w.cell? ⟨b, 0, none⟩ = some (.int .i64 1)) (hK : Kinds w g) (s : List UInt8)
    (IH : Calls Tryz.prog 10 #[.pointer (some ⟨W, 0, none⟩), .pointer (some ⟨b, 0, none⟩)] w fun e w' => e = .returned (.string (str s)) ∧ Below w.heap.size w w') :
    Calls Tryz.prog 26 #[.pointer (some ⟨W, 0, none⟩), .pointer (some ⟨b, 0, none⟩), .slice (some ⟨g, 0, none⟩) 4 4] w fun e w' => e = .returned (.string (str s)) ∧ Below w.heap.size w w' := by
  have HI := Hid.mk' IH
  obtain ⟨k0, k1, k2, k3⟩ := hK
  clear IH
  go_enter Tryz.func26, Tryz.ntmps26
  go_wp2
  go_loop [11] (fun i => ∃ k : Nat, k ≤ 4 ∧ i = .int .i64 k) (fun i => 4 - (intOf i).toNat)
  case atStart => exact ⟨0, by omega, rfl⟩
  case round =>
    obtain ⟨k, hk, rfl⟩ := hrel
    have : k = 0 ∨ k = 1 ∨ k = 2 ∨ k = 3 ∨ k = 4 := by omega
    rcases this with rfl | rfl | rfl | rfl | rfl
    · go_wp2
      go_round
      case rel => exact ⟨1, by omega, rfl⟩
      case measure => simp [intOf]
    · go_wp2
      go_round
      case rel => exact ⟨2, by omega, rfl⟩
      case measure => simp [intOf]
    · go_wp2
      go_round
      case rel => exact ⟨3, by omega, rfl⟩
      case measure => simp [intOf]
    · go_wp2
      go_round
      case rel => exact ⟨4, by omega, rfl⟩
      case measure => simp [intOf]
    · go_wp2_with (go_at_call 10; refine HI.out.mono ?_; rintro e w3 ⟨rfl, hB⟩)
      go_ret
      exact ⟨rfl, hB⟩

theorem star_cells {w : World} {b : Nat} {A : Value} (h : w.heap[b]? = some (star A)) : w.cell? ⟨b, 0, none⟩ = some (.int .i64 4) ∧ w.cell? ⟨b, 5, none⟩ = some (.bool false) ∧ w.cell? ⟨b, 6, none⟩ = some A := by
  refine ⟨by simp [World.cell?, h, star], by simp [World.cell?, h, star], by simp [World.cell?, h, star]⟩
theorem nothing_cell {w : World} {b : Nat} (h : w.heap[b]? = some nothing) : w.cell? ⟨b, 0, none⟩ = some (.int .i64 1) := by simp [World.cell?, h, nothing]

/-- the row of kinds -/
def kindsObj : Obj := .cells #[.int .i64 0, .int .i64 2, .int .i64 3, .int .i64 4] 3
theorem kinds_alloc (w : World) : Kinds (w.alloc kindsObj) w.heap.size := by
  refine ⟨?_, ?_, ?_, ?_⟩ <;> simp [kindsObj]

set_option maxHeartbeats 2000000 in
theorem write_star {w : World} {W b a : Nat} (hb : w.heap[b]? = some (star (.pointer (some ⟨a, 0, none⟩)))) (l : List UInt8) (hl : l.length ≤ 5000) (Q : World → Prop)
    (hP : Calls Tryz.prog 26 #[.pointer (some ⟨W, 0, none⟩), .pointer (some ⟨a, 0, none⟩), .slice (some ⟨w.heap.size, 0, none⟩) 4 4] (w.alloc kindsObj) fun e w' => e = .returned (.string (str l)) ∧ w'.heap[b]? = some (star (.pointer (some ⟨a, 0, none⟩))) ∧ Q w') :
    Calls Tryz.prog 10 #[.pointer (some ⟨W, 0, none⟩), .pointer (some ⟨b, 0, none⟩)] w fun e w' => e = .returned (.string (str (cls l 42))) ∧ Q w' := by
  obtain ⟨c0, c5, c6⟩ := star_cells hb
  have HP := Hid.mk' hP
  have e1 := fun w => add_behind l 42 hl w
  clear hb hP
  go_enter Tryz.func10, Tryz.ntmps10
  go_wp2_with fail
  refine HP.out.mono ?_
  rintro e w3 ⟨rfl, hb3, hQ⟩
  obtain ⟨d0, d5, d6⟩ := star_cells hb3
  have HQ := Hid.mk' hQ
  clear hb3 c0 c5 c6
  go_wp2
  go_ret
  exact ⟨rfl, HQ.out⟩

theorem alloc_grown (w : World) (o : Obj) (r : Option Nat) : w.grownBy (w.alloc o) r := World.grownBy_alloc w o r

theorem write_any (t : (Nat → TypeId) × (Nat → Nat × Nat)) (W : Nat) : ∀ (k : Nat), k ≤ 300 → ∀ (w : World) (b : Nat) (d m : Int), Ahead w W b k d m t →
    Calls Tryz.prog 10 #[.pointer (some ⟨W, 0, none⟩), .pointer (some ⟨b, 0, none⟩)] w (Wrote w W d (mst k d m) (pat k))
  | 0, _, w, b, d, m, h => by
    refine (write_zero w t h.hT W b h.hC).mono ?_
    rintro e w' ⟨rfl, hB⟩
    exact ⟨rfl, (hB.block W (wr_lt h.hW)).trans h.hW, grown_below hB _⟩
  | 1, _, w, b, d, m, h => by
    obtain ⟨a, hb, ha⟩ := h.hC
    have hg := alloc_grown w kindsObj (some W)
    have hW1 : (w.alloc kindsObj).heap[W]? = some (wr d m) := by rw [Below.heap_alloc w kindsObj W (wr_lt h.hW)]; exact h.hW
    have hT1 := holds_grown h.hW hg h.hT
    have ha1 : Chain (w.alloc kindsObj) 0 a := chain_grown h.hW hg 0 a ha
    have hz := part_zero (nothing_cell ha1) (kinds_alloc w) (pat 0) (write_zero _ t hT1 W a ha1)
    refine (write_star hb (pat 0) (by have := pat_len 0; omega) (fun w' => w'.heap[W]? = some (wr d m) ∧ w.grownBy w' (some W)) (hz.mono ?_)).mono ?_
    · rintro e w' ⟨rfl, hB⟩
      have hb1 : (w.alloc kindsObj).heap[b]? = some (star (.pointer (some ⟨a, 0, none⟩))) := by rw [Below.heap_alloc w kindsObj b (wr_lt hb)]; exact hb
      exact ⟨rfl, (hB.block b (wr_lt hb1)).trans hb1, (hB.block W (wr_lt hW1)).trans hW1, grown_trans hg (grown_below hB _)⟩
    · rintro e w' ⟨rfl, h1, h2⟩
      exact ⟨rfl, h1, h2⟩
  | k + 2, hk, w, b, d, m, h => by
    obtain ⟨a, hb, ha⟩ := h.hC
    have hd1 := h.d1
    have hd0 := h.d0
    have hg := alloc_grown w kindsObj (some W)
    have hW1 : (w.alloc kindsObj).heap[W]? = some (wr d m) := by rw [Below.heap_alloc w kindsObj W (wr_lt h.hW)]; exact h.hW
    have hA1 : Ahead (w.alloc kindsObj) W a (k + 1) d m t := ⟨holds_grown h.hW hg h.hT, hW1, chain_grown h.hW hg (k + 1) a ha, h.d0, h.m0, by omega, h.m1⟩
    have hG := group_any hA1 (by omega) (by omega) (fun w d m hA => write_any t W (k + 1) (by omega) w a d m hA)
    obtain ⟨a2, ha2, _⟩ := hA1.hC
    have hp := part_star (star_cells ha2).1 (kinds_alloc w) _ _ _ hG
    refine (write_star hb (cls (opn (pat (k + 1))) 41) (by have := pat_len (k + 1); simp [cls, opn]; omega) (fun w' => w'.heap[W]? = some (wr d (mst (k + 2) d m)) ∧ w.grownBy w' (some W)) (hp.mono ?_)).mono ?_
    · rintro e w' ⟨rfl, hW', hG'⟩
      have hb1 : (w.alloc kindsObj).heap[b]? = some (star (.pointer (some ⟨a, 0, none⟩))) := by rw [Below.heap_alloc w kindsObj b (wr_lt hb)]; exact hb
      have hne : some b ≠ some W := by
        intro e
        cases e
        rw [h.hW] at hb
        simp [wr, star] at hb
      exact ⟨rfl, (hG'.block b (wr_lt hb1) hne).trans hb1, hW', grown_trans hg hG'⟩
    · rintro e w' ⟨rfl, h1, h2⟩
      exact ⟨rfl, h1, h2⟩
end Go.Proofs.Sn
