/- The quiet operations stand to the model's. -/
import Derived.Test.YtcjdjklggnjlbaaDoorEvB
import Derived.Test.YtcjdjklggnjlbaaDoorEvOp
import Derived.Laws.Cells
import Derived.Laws.Strings
namespace Go.Ab
open Go.RowKit

/- frames -/
theorem T.at_path {α : Type} : ∀ (d : Nat) (t : T α) (k : Nat), T.at (path d k) t = T.get d t k
  | 0, t, k => rfl
  | d + 1, t, k => by
    rw [T.get_kids]
    cases t with
    | e => simp [T.left, T.right, T.get_e]; rfl
    | leaf v => simp [T.left, T.right, T.get_e]; rfl
    | node l r =>
      show @Bool.rec (fun _ => Option α) (T.at (path d (k / 2)) r) (T.at (path d (k / 2)) l) (Nat.beq (k % 2) 0) = _
      rw [T.at_path d r, T.at_path d l]
      by_cases h : k % 2 = 0
      · rw [if_pos h, h]; rfl
      · have : k % 2 = 1 := by omega
        rw [if_neg h, this]; rfl

theorem T.to_path {α : Type} : ∀ (d : Nat) (t : T α) (k : Nat) (v : α), T.to v (path d k) t = T.put d t k (some v)
  | 0, t, k, v => rfl
  | d + 1, t, k, v => by
    rw [T.put_succ]
    show @Bool.rec (fun _ => T α) (.node t.left (T.to v (path d (k / 2)) t.right)) (.node (T.to v (path d (k / 2)) t.left) t.right) (Nat.beq (k % 2) 0) = _
    rw [T.to_path d, T.to_path d]
    by_cases h : k % 2 = 0
    · rw [if_pos h, h]; rfl
    · have : k % 2 = 1 := by omega
      rw [if_neg h, this]; rfl

noncomputable def slot (d : Nat) (a : AA) (i : Nat) : Value := (T.get d a i).getD undef

structure AAR (ρ : Env) (d n : Nat) (a : AA) (a' : Act) : Prop where
  size : a'.tmps.size = n
  deep : n ≤ 2 ^ d
  defers : a'.defers = []
  vals : ∀ i, i < n → VR ρ (slot d a i) (a'.tmps.getD i undef)

theorem AAR.mono {ρ ρ' : Env} (h : Env.le ρ ρ') {d n : Nat} {a : AA} {a' : Act} (k : AAR ρ d n a a') : AAR ρ' d n a a' :=
  ⟨k.size, k.deep, k.defers, fun i hi => (k.vals i hi).mono h⟩

theorem VR.undef {ρ : Env} : VR ρ undef undef := .tuple _ _ .nil

theorem AAR.put {ρ : Env} {d n : Nat} {a : AA} {a' : Act} (h : AAR ρ d n a a') {t : Tmp} (ht : t < n) {v v' : Value} (hv : VR ρ v v') :
    AAR ρ d n (T.to v (path d t) a) (a'.put (some t) v') := by
  refine ⟨by simp [Act.put, h.size], h.deep, h.defers, fun i hi => ?_⟩
  have hd := h.deep
  simp only [slot, T.to_path, Act.put]
  rw [T.get_put d a t (some v) i (Nat.lt_of_lt_of_le ht hd) (Nat.lt_of_lt_of_le hi hd)]
  by_cases e : i = t
  · subst e
    simp [h.size, ht, hv]
  · rw [if_neg e]
    have := h.vals i hi
    simp only [slot] at this
    simpa [Array.getElem?_setIfInBounds, Ne.symm e] using this

def PutOk (n : Nat) : Option Tmp → Prop
  | some t => t < n
  | none => True

theorem AAR.put' {ρ : Env} {d n : Nat} {a : AA} {a' : Act} (h : AAR ρ d n a a') {dst : Option Tmp} (ht : PutOk n dst) {v v' : Value} (hv : VR ρ v v') :
    AAR ρ d n ((putF d dst).run v a) (a'.put dst v') := by
  cases dst with
  | none => exact h
  | some t => exact h.put ht hv

theorem VRs.refl {ρ : Env} {l : List Value} (h : ∀ v ∈ l, VR ρ v v) : VRs ρ l l := by
  induction l with
  | nil => exact .nil
  | cons a l ih => exact .cons _ _ _ _ (h a (by simp)) (ih fun v hv => h v (by simp [hv]))

theorem VR.const {ρ : Env} : ∀ (n : Nat) (v : Value), constOk n v = true → VR ρ v v := by
  intro n
  induction n with
  | zero =>
    intro v h
    unfold constOk at h
    split at h <;> first
      | exact .bool _ | exact .int _ _ | exact .string _ | exact .nilp | exact .nils _ _ | exact .nilm | exact .nilf | exact .nili
      | (simp only [Bool.and_eq_true, List.isEmpty_iff] at h
         refine .func _ _ _ _ _ trivial ?_ ?_
         · rw [h.1]; exact .nil
         · rw [h.2]; exact .nil)
      | (rename_i e; cases e)
      | cases h
  | succ n ih =>
    intro v h
    unfold constOk at h
    split at h <;> first
      | exact .bool _ | exact .int _ _ | exact .string _ | exact .nilp | exact .nils _ _ | exact .nilm | exact .nilf | exact .nili
      | (simp only [Bool.and_eq_true, List.isEmpty_iff] at h
         refine .func _ _ _ _ _ trivial ?_ ?_
         · rw [h.1]; exact .nil
         · rw [h.2]; exact .nil)
      | (rename_i e; cases e
         first
           | exact .agg _ _ (VRs.refl fun v hv => ih v (List.all_eq_true.1 h v hv))
           | exact .tuple _ _ (VRs.refl fun v hv => ih v (List.all_eq_true.1 h v hv))
           | exact .iface _ _ _ (ih _ h))
      | cases h

def opOk (G n : Nat) : Operand → Bool
  | .tmp t => Nat.blt t n
  | .const v => constOk 4 v
  | .global g => Nat.blt g G
  | .func _ => true

/-- the program's own variables lie where they lie -/
def GR (G : Nat) (ρ : Env) : Prop := ∀ g, g < G → ρ g = some ⟨g, 0⟩

theorem GR.mono {G : Nat} {ρ ρ' : Env} (h : Env.le ρ ρ') (k : GR G ρ) : GR G ρ' := fun g hg => env_get h (k g hg)

theorem opd_sound {ρ : Env} {G d n : Nat} {a : AA} {a' : Act} (hg : GR G ρ) (h : AAR ρ d n a a') {x : Operand} (hx : opOk G n x = true) : VR ρ ((opd d x).run a) (a'.eval x) := by
  cases x with
  | tmp t =>
    have ht : t < n := blt_iff.1 hx
    have := h.vals t ht
    simp only [Act.eval]
    have e : (opd d (.tmp t)).run a = slot d a t := by
      show @Option.rec Value (fun _ => Value) undef (fun v => v) (T.at (path d t) a) = _
      rw [T.at_path]
      unfold slot
      cases T.get d a t <;> rfl
    rw [e]; exact this
  | const v => exact VR.const 4 v hx
  | global g => exact .ptr _ _ ⟨⟨g, 0⟩, hg g (blt_iff.1 hx), rfl⟩
  | func f => exact .func _ _ _ _ _ trivial .nil .nil

/- numbers -/
theorem kix_inj {a b : IntKind} (h : kix a = kix b) : a = b := by cases a <;> cases b <;> first | rfl | (exact absurd h (by decide))
theorem kq_eq {a b : IntKind} (h : kq a b = true) : a = b := kix_inj (Nat.eq_of_beq_eq_true h)

theorem wrap_in (k : IntKind) (v : Nat) (h : v < hi k) : k.wrap (.ofNat v) = .ofNat v := by
  cases k <;> simp only [hi] at h <;> simp only [IntKind.wrap, IntKind.bits, IntKind.signed] <;> simp <;> omega

theorem norm_eq (k : IntKind) (v : Nat) : norm k v = k.wrap (.ofNat v) := by
  unfold norm
  cases h : Nat.blt v (hi k) with
  | true => exact (wrap_in k v (blt_iff.1 h)).symm
  | false =>
    cases hu : uns k with
    | false => rfl
    | true =>
      show Int.ofNat (v % hi k) = _
      cases k <;> first
        | exact absurd hu (by decide)
        | (simp only [IntKind.wrap, IntKind.bits, IntKind.signed, hi]; simp)

theorem two_eq {x y : Int} {s : Unit → Int} {f : Nat → Nat → Int} {r : Int} (hs : s () = r) (hf : ∀ m n, x = .ofNat m → y = .ofNat n → f m n = r) : two x y s f = r := by
  unfold two
  cases x with
  | ofNat m => cases y with
    | ofNat n => exact hf m n rfl rfl
    | negSucc n => exact hs
  | negSucc m => exact hs

theorem fAdd_eq (k : IntKind) (x y : Int) : fAdd k x y = k.wrap (x + y) := two_eq rfl fun m n hx hy => by subst hx hy; rw [norm_eq]; rfl
theorem fMul_eq (k : IntKind) (x y : Int) : fMul k x y = k.wrap (x * y) := two_eq rfl fun m n hx hy => by subst hx hy; rw [norm_eq]; rfl
theorem fSub_eq (k : IntKind) (x y : Int) : fSub k x y = k.wrap (x - y) := two_eq rfl fun m n hx hy => by
  subst hx hy
  cases h : Nat.ble n m with
  | false => rfl
  | true =>
    have h1 : n ≤ m := Nat.le_of_ble_eq_true h
    show norm k (m - n) = _
    rw [norm_eq]
    congr 1
    simp only [Int.ofNat_eq_natCast]; omega

theorem iEq_eq (x y : Int) : iEq x y = (x == y) := by
  cases x <;> cases y <;> simp only [iEq] <;> (first | rfl | skip)
  · rename_i m n
    by_cases h : m = n
    · subst h; simp
    · have e1 : Nat.beq m n = false := by cases q : Nat.beq m n with | false => rfl | true => exact absurd (Nat.eq_of_beq_eq_true q) h
      rw [e1]; symm; simp; omega
  · rename_i m n
    by_cases h : m = n
    · subst h; simp
    · have e1 : Nat.beq m n = false := by cases q : Nat.beq m n with | false => rfl | true => exact absurd (Nat.eq_of_beq_eq_true q) h
      rw [e1]; symm; simp; omega

theorem blt_false {a b : Nat} (h : ¬ a < b) : Nat.blt a b = false := by
  cases q : Nat.blt a b with
  | false => rfl
  | true => exact absurd (blt_iff.1 q) h

theorem iLt_eq (x y : Int) : iLt x y = decide (x < y) := by
  cases x <;> cases y <;> simp only [iLt]
  · rename_i m n
    by_cases h : m < n
    · rw [blt_iff.2 h]; symm; simp; omega
    · rw [blt_false h]; symm; simp; omega
  · symm; simp; omega
  · symm; simp; omega
  · rename_i m n
    by_cases h : n < m
    · rw [blt_iff.2 h]; symm; simp; omega
    · rw [blt_false h]; symm; simp; omega

theorem hi_bits (k : IntKind) : hi k ≤ 2 ^ k.bits := by cases k <;> decide

theorem bits2_eq {k : IntKind} {x y : Int} {s : Unit → Int} {f : Nat → Nat → Nat} (hf : ∀ m n, m < hi k → n < hi k → x = .ofNat m → y = .ofNat n → Int.ofNat (f m n) = s ()) : bits2 k x y s f = s () := by
  refine two_eq rfl fun m n hx hy => ?_
  cases h1 : Nat.blt m (hi k) with
  | false => rfl
  | true =>
    cases h2 : Nat.blt n (hi k) with
    | false => rfl
    | true => exact hf m n (blt_iff.1 h1) (blt_iff.1 h2) hx hy

theorem bv_ofInt {w m : Nat} (h : m < 2 ^ w) : (BitVec.ofInt w (.ofNat m)).toNat = m := by
  simp [Nat.mod_eq_of_lt h]

theorem hi_and {k : IntKind} {m n : Nat} (h1 : m < hi k) : m &&& n < hi k := Nat.lt_of_le_of_lt Nat.and_le_left h1
theorem hi_pow (k : IntKind) : ∃ e, hi k = 2 ^ e := by
  cases k
  · exact ⟨7, rfl⟩
  · exact ⟨15, rfl⟩
  · exact ⟨31, rfl⟩
  · exact ⟨63, rfl⟩
  · exact ⟨8, rfl⟩
  · exact ⟨16, rfl⟩
  · exact ⟨32, rfl⟩
  · exact ⟨64, rfl⟩

theorem fAnd_eq (k : IntKind) (x y : Int) : fAnd k x y = k.wrap (BitVec.ofInt k.bits x &&& BitVec.ofInt k.bits y).toNat := bits2_eq fun m n h1 h2 hx hy => by
  subst hx hy
  have b1 := Nat.lt_of_lt_of_le h1 (hi_bits k)
  have b2 := Nat.lt_of_lt_of_le h2 (hi_bits k)
  rw [BitVec.toNat_and, bv_ofInt b1, bv_ofInt b2]
  exact (wrap_in k _ (hi_and h1)).symm

theorem fOr_eq (k : IntKind) (x y : Int) : fOr k x y = k.wrap (BitVec.ofInt k.bits x ||| BitVec.ofInt k.bits y).toNat := bits2_eq fun m n h1 h2 hx hy => by
  subst hx hy
  have b1 := Nat.lt_of_lt_of_le h1 (hi_bits k)
  have b2 := Nat.lt_of_lt_of_le h2 (hi_bits k)
  obtain ⟨e, he⟩ := hi_pow k
  rw [BitVec.toNat_or, bv_ofInt b1, bv_ofInt b2]
  exact (wrap_in k _ (by rw [he] at h1 h2 ⊢; exact Nat.or_lt_two_pow h1 h2)).symm

theorem fXor_eq (k : IntKind) (x y : Int) : fXor k x y = k.wrap (BitVec.ofInt k.bits x ^^^ BitVec.ofInt k.bits y).toNat := bits2_eq fun m n h1 h2 hx hy => by
  subst hx hy
  have b1 := Nat.lt_of_lt_of_le h1 (hi_bits k)
  have b2 := Nat.lt_of_lt_of_le h2 (hi_bits k)
  obtain ⟨e, he⟩ := hi_pow k
  rw [BitVec.toNat_xor, bv_ofInt b1, bv_ofInt b2]
  exact (wrap_in k _ (by rw [he] at h1 h2 ⊢; exact Nat.xor_lt_two_pow h1 h2)).symm

theorem bv_andNot {w : Nat} (a b : BitVec w) : a &&& ~~~b = a ^^^ (a &&& b) := by
  ext i hi
  simp
  cases a[i] <;> cases b[i] <;> rfl

theorem fAndNot_eq (k : IntKind) (x y : Int) : fAndNot k x y = k.wrap (BitVec.ofInt k.bits x &&& ~~~BitVec.ofInt k.bits y).toNat := bits2_eq fun m n h1 h2 hx hy => by
  subst hx hy
  have b1 := Nat.lt_of_lt_of_le h1 (hi_bits k)
  have b2 := Nat.lt_of_lt_of_le h2 (hi_bits k)
  obtain ⟨e, he⟩ := hi_pow k
  rw [bv_andNot, BitVec.toNat_xor, BitVec.toNat_and, bv_ofInt b1, bv_ofInt b2]
  exact (wrap_in k _ (by have h3 := hi_and (n := n) h1; rw [he] at h1 h3 ⊢; exact Nat.xor_lt_two_pow h1 h3)).symm

theorem fQuo_eq (k : IntKind) (x y : Int) : fQuo k x y = k.wrap (x.tdiv y) := two_eq rfl fun m n hx hy => by subst hx hy; rw [norm_eq]; rfl
theorem fRem_eq (x y : Int) : fRem x y = x.tmod y := two_eq rfl fun m n hx hy => by subst hx hy; rfl

theorem bitsOf_eq (k : IntKind) : bitsOf k = k.bits := by cases k <;> rfl

theorem fShl_eq (k : IntKind) (x : Int) (y : Nat) : fShl k x y = k.wrap (x * 2 ^ (min y k.bits)) := by
  cases x with
  | negSucc m => rfl
  | ofNat m =>
    show norm k (m <<< (Nat.min y (bitsOf k))) = _
    rw [norm_eq, bitsOf_eq, Nat.shiftLeft_eq]
    simp only [Int.ofNat_eq_natCast, Int.natCast_mul, Int.natCast_pow]
    rfl

theorem fShr_eq (k : IntKind) (x : Int) (y : Nat) : fShr k x y = x.fdiv (2 ^ (min y k.bits)) := by
  cases x with
  | negSucc m => rfl
  | ofNat m =>
    show Int.ofNat (m >>> (Nat.min y (bitsOf k))) = _
    rw [bitsOf_eq, Nat.shiftRight_eq_div_pow]
    rw [show (2 : Int) ^ (min y k.bits) = ((2 ^ (min y k.bits) : Nat) : Int) by simp]
    rw [Int.fdiv_eq_ediv_of_nonneg _ (Int.natCast_nonneg _)]
    rfl

end Go.Ab
