/- The quiet operations stand to the model's. -/
import Derived.Test.YtcjdjklggnjlbaaDoorEvC
namespace Go.Ab
open Go.RowKit

theorem run_typeInfo' {P : Program} {t : TypeId} {i : TypeInfo} (h : P.info? t = some i) (w : World) : (Go.typeInfo t).run P w = .ok i w := by
  simp [Go.typeInfo, Go.program, Sem.run, h]
theorem run_sizeOf' {P : Program} {t : TypeId} {i : TypeInfo} (h : P.info? t = some i) (w : World) : (Go.sizeOf t).run P w = .ok i.size w := by
  simp [Go.sizeOf, run_typeInfo' h]
theorem run_isAgg' {P : Program} {t : TypeId} {d : TypeDesc} (h : P.underlying t = some d) (w : World) : (Go.isAgg t).run P w = .ok (isAggD d) w := by
  simp only [Go.isAgg, Sem.run_bind, run_underlying h, Result.andThen_ok]
  cases d <;> rfl

theorem cell_sound {C : Ctx} {ρ : Env} {w : AW} {w' : World} (hw : WR C ρ w w') {a b : Addr} (h : AR ρ a b) {v : Value} (hv : w.cell a = some v) :
    ∃ u, w'.cell? b = some u ∧ VR ρ v u := by
  obtain ⟨e, he, rfl⟩ := h
  simp only [AW.cell] at hv
  split at hv
  · rename_i c t fr x hg
    split at hv
    · rename_i hs
      obtain ⟨e1, o', he1, ho', hor, _⟩ := hw.liveO hg he
      rw [he] at he1
      cases he1
      obtain ⟨c', fr', rfl, _, hcs, _⟩ := hor
      obtain ⟨u, hu, r⟩ := hcs _ _ hv
      exact ⟨u, by rw [World.cell?_of (a := ⟨e.id, a.off, a.spot⟩) ho' hs]; exact hu, r⟩
    · cases hv
  · cases hv

theorem run_load' {P : Program} {w : World} {a : Addr} {v : Value} (h : w.cell? a = some v) : (Go.load a).run P w = .ok v w := by
  simp [Go.load, Sem.run, h]

theorem add_off (b o i : Nat) : (⟨b, o, none⟩ : Addr).add i = ⟨b, o + i, none⟩ := by
  unfold Addr.add; split
  · rename_i h; subst h; rfl
  · rfl

theorem runOf_some {n : Nat} {c : Array Value} {off : Nat} {v : Value} (h : runOf n c off = some v) : off + n ≤ c.size ∧ v = .agg ⟨(c.toList.drop off).take n⟩ := by
  unfold runOf at h
  cases hb : Nat.ble (Nat.add off n) c.toList.length with
  | false => rw [hb] at h; cases h
  | true =>
    rw [hb] at h
    exact ⟨by have := Nat.le_of_ble_eq_true hb; simpa using this, (Option.some.inj h).symm⟩

theorem loadAgg_sound {C : Ctx} {ρ : Env} {w : AW} {w' : World} (hw : WR C ρ w w') {n : Nat} {a b : Addr} (h : AR ρ a b) {v : Value} (hv : loadAgg n a w = some v) :
    ∃ l l', v = .agg ⟨l⟩ ∧ l.length = n ∧ (Go.loadCells b n).run C.P w' = .ok ⟨l'⟩ w' ∧ VRs ρ l l' := by
  obtain ⟨e, he, rfl⟩ := h
  simp only [loadAgg] at hv
  split at hv
  · rename_i c t fr x hg
    split at hv
    · rename_i hs
      obtain ⟨hlen, rfl⟩ := runOf_some hv
      obtain ⟨e1, o', he1, ho', hor, _⟩ := hw.liveO hg he
      rw [he] at he1
      cases he1
      obtain ⟨c', fr', rfl, hsz, hcs, _⟩ := hor
      have hlen' : a.off + n ≤ c'.size := by omega
      have hl' : ((c'.toList.drop a.off).take n).length = n := by simp; omega
      have hl : ((c.toList.drop a.off).take n).length = n := by simp; omega
      refine ⟨_, (c'.toList.drop a.off).take n, rfl, hl, ?_, ?_⟩
      · have := run_loadCells_list (P := C.P) w' ⟨e.id, a.off, a.spot⟩ ((c'.toList.drop a.off).take n) ?_
        · rw [hl'] at this; exact this
        · intro j v hj
          rw [hs, add_off, World.cell?_of (a := ⟨e.id, a.off + j, none⟩) ho' rfl]
          simp only [List.getElem?_take, List.getElem?_drop] at hj
          split at hj
          · simpa using hj
          · cases hj
      · refine VRs.of (by omega) fun i v u hv hu => ?_
        simp only [List.getElem?_take, List.getElem?_drop] at hv hu
        split at hv
        · rename_i hi
          rw [if_pos hi] at hu
          obtain ⟨u', hu', r⟩ := hcs (a.off + i) v (by simpa using hv)
          have : c'[a.off + i]? = some u := by simpa using hu
          rw [hu'] at this
          cases this
          exact r
        · cases hv
    · cases hv
  · cases hv

theorem loadF_sound {C : Ctx} {ρ : Env} {w : AW} {w' : World} (hw : WR C ρ w w') {t : TypeId} {a b : Addr} (h : AR ρ a b) {v : Value} (hv : (loadF C.P t).run a w = some v) :
    ∃ u, (Go.loadVar t b).run C.P w' = .ok u w' ∧ VR ρ v u := by
  unfold loadF at hv
  split at hv
  · rename_i d inf hd hi
    cases hag : isAggD d with
    | true =>
      rw [hag] at hv
      obtain ⟨l, l', rfl, _, hr, hl⟩ := loadAgg_sound hw h hv
      refine ⟨.agg ⟨l'⟩, ?_, .agg _ _ hl⟩
      simp [Go.loadVar, run_isAgg' hd, hag, run_sizeOf' hi, hr]
    | false =>
      rw [hag] at hv
      obtain ⟨u, hu, r⟩ := cell_sound hw h hv
      refine ⟨u, ?_, r⟩
      simp [Go.loadVar, run_isAgg' hd, hag, hu]
  · cases hv

theorem partF_sound {C : Ctx} {ρ : Env} {t : TypeId} {c c' : Array Value} (h : VRs ρ c.toList c'.toList) {off : Nat} {v : Value} (hv : (partF C.P t).run c off = some v) :
    ∃ u, (∀ w' : World, (Go.part t c' off).run C.P w' = .ok u w') ∧ VR ρ v u := by
  unfold partF at hv
  have hlen : c.size = c'.size := by simpa using h.length
  split at hv
  · rename_i d inf hd hi
    cases hag : isAggD d with
    | true =>
      rw [hag] at hv
      obtain ⟨hl, rfl⟩ := runOf_some hv
      refine ⟨.agg (c'.extract off (off + inf.size)), ?_, .agg _ _ ?_⟩
      · intro w'
        simp [Go.part, run_isAgg' hd, hag, run_sizeOf' hi]
      · have e : (c'.extract off (off + inf.size)).toList = (c'.toList.drop off).take inf.size := by
          simp [Array.toList_extract, List.extract_eq_take_drop]
        rw [e]
        exact (h.drop off).take inf.size
    | false =>
      rw [hag] at hv
      have hv : c[off]? = some v := hv
      obtain ⟨u, hu, r⟩ := h.get off (v := v) (by simpa using hv)
      refine ⟨u, ?_, r⟩
      intro w'
      have hu' : c'[off]? = some u := by simpa using hu
      simp [Go.part, run_isAgg' hd, hag, hu']
  · cases hv

theorem fieldOf_some {P : Program} {s : TypeId} {i : Nat} {f : Field} (h : fieldOf P s i = some f) : ∃ fs, P.underlying s = some (.struct fs) ∧ fs[i]? = some f := by
  unfold fieldOf at h
  split at h
  · rename_i fs hu; exact ⟨fs, hu, h⟩
  · cases h

theorem sizeIs_pos {P : Program} {t : TypeId} (h : 0 < sizeIs P t) : ∃ i, P.info? t = some i ∧ i.size ≠ 0 := by
  unfold sizeIs at h
  split at h
  · rename_i i hi; exact ⟨i, hi, by omega⟩
  · omega

theorem AR.add {ρ : Env} {a b : Addr} (h : AR ρ a b) (n : Nat) : AR ρ (a.add n) (b.add n) := by
  obtain ⟨e, he, rfl⟩ := h
  refine ⟨e, ?_, ?_⟩
  · unfold Addr.add; split <;> exact he
  · unfold Addr.add; split <;> rfl

theorem onInt_some {v : Value} {f : IntKind → Int → Option Value} {r : Value} (h : onInt v f = some r) : ∃ k n, v = .int k n ∧ f k n = some r := by
  unfold onInt at h
  split at h
  · exact ⟨_, _, rfl, h⟩
  · cases h
theorem natOf_some {y : Int} {f : Nat → Option Value} {r : Value} (h : natOf y f = some r) : ∃ n : Nat, y = .ofNat n ∧ f n = some r := by
  cases y with
  | ofNat n => exact ⟨n, rfl, h⟩
  | negSucc n => cases h
theorem addrF_some {v : Value} {f : Addr → Option Value} {r : Value} (h : addrF v f = some r) : ∃ a, v = .pointer (some a) ∧ f a = some r := by
  unfold addrF at h
  split at h
  · exact ⟨_, rfl, h⟩
  · cases h
theorem aggF_some {v : Value} {f : Array Value → Option Value} {r : Value} (h : aggF v f = some r) : ∃ a, v = .agg a ∧ f a = some r := by
  unfold aggF at h
  split at h
  · exact ⟨_, rfl, h⟩
  · cases h

theorem VR.int_inv {ρ : Env} {k : IntKind} {n : Int} {u : Value} (h : VR ρ (.int k n) u) : u = .int k n := by cases h; rfl
theorem VR.bool_inv {ρ : Env} {b : Bool} {u : Value} (h : VR ρ (.bool b) u) : u = .bool b := by cases h; rfl
theorem VR.string_inv {ρ : Env} {s : ByteArray} {u : Value} (h : VR ρ (.string s) u) : u = .string s := by cases h; rfl
theorem VR.ptr_inv {ρ : Env} {a : Addr} {u : Value} (h : VR ρ (.pointer (some a)) u) : ∃ b, u = .pointer (some b) ∧ AR ρ a b := by cases h; exact ⟨_, rfl, ‹_›⟩
theorem VR.agg_inv {ρ : Env} {c : Array Value} {u : Value} (h : VR ρ (.agg c) u) : ∃ c', u = .agg c' ∧ VRs ρ c.toList c'.toList := by cases h; exact ⟨_, rfl, ‹_›⟩
theorem VR.tuple_inv {ρ : Env} {c : Array Value} {u : Value} (h : VR ρ (.tuple c) u) : ∃ c', u = .tuple c' ∧ VRs ρ c.toList c'.toList := by cases h; exact ⟨_, rfl, ‹_›⟩

theorem ints_some {f : IntKind → Int → Int → Option Value} {x y r : Value} (h : (ints f).run x y = some r) : ∃ k m n, x = .int k m ∧ y = .int k n ∧ f k m n = some r := by
  obtain ⟨k, m, rfl, h1⟩ := onInt_some h
  obtain ⟨k', n, rfl, h2⟩ := onInt_some h1
  cases hk : kq k k' with
  | false => rw [hk] at h2; cases h2
  | true =>
    rw [hk] at h2
    obtain rfl := kq_eq hk
    exact ⟨k, m, n, rfl, rfl, h2⟩

theorem decide_not_lt (m n : Int) : (!decide (n < m)) = decide (m ≤ n) := by
  by_cases h : m ≤ n
  · simp [h]
  · simp [h]; omega

theorem intBin_run {P : Program} {op : BinOp} {x y r : Value} (h : (intBin op).run x y = some r) (t : TypeId) (w : World) :
    (∃ k n, x = .int k n) ∧ (∃ k n, y = .int k n) ∧ (binOp op t x y).run P w = .ok r w ∧ ∀ ρ, VR ρ r r := by
  have one : ∀ (f : IntKind → Int → Int → Value), (∀ k m n, (binOp op t (.int k m) (.int k n)).run P w = .ok (f k m n) w) → (∀ k m n ρ, VR ρ (f k m n) (f k m n)) →
      (ints fun k m n => some (f k m n)).run x y = some r → (∃ k n, x = .int k n) ∧ (∃ k n, y = .int k n) ∧ (binOp op t x y).run P w = .ok r w ∧ ∀ ρ, VR ρ r r := by
    intro f hf hv h
    obtain ⟨k, m, n, rfl, rfl, h1⟩ := ints_some h
    cases h1
    exact ⟨⟨_, _, rfl⟩, ⟨_, _, rfl⟩, hf k m n, hv k m n⟩
  cases op with
  | add => exact one _ (fun k m n => by simp [binOp, Op.intArith, fAdd_eq]) (fun _ _ _ _ => .int _ _) h
  | sub => exact one _ (fun k m n => by simp [binOp, Op.intArith, fSub_eq]) (fun _ _ _ _ => .int _ _) h
  | mul => exact one _ (fun k m n => by simp [binOp, Op.intArith, fMul_eq]) (fun _ _ _ _ => .int _ _) h
  | and => exact one _ (fun k m n => by simp [binOp, Op.intBits, fAnd_eq]) (fun _ _ _ _ => .int _ _) h
  | or => exact one _ (fun k m n => by simp [binOp, Op.intBits, fOr_eq]) (fun _ _ _ _ => .int _ _) h
  | xor => exact one _ (fun k m n => by simp [binOp, Op.intBits, fXor_eq]) (fun _ _ _ _ => .int _ _) h
  | andNot => exact one _ (fun k m n => by simp [binOp, Op.intBits, fAndNot_eq]) (fun _ _ _ _ => .int _ _) h
  | eql => exact one _ (fun k m n => by simp [binOp, Op.intCmp, iEq_eq]) (fun _ _ _ _ => .bool _) h
  | neq => exact one _ (fun k m n => by simp [binOp, Op.intCmp, iEq_eq, bne]) (fun _ _ _ _ => .bool _) h
  | lss => exact one _ (fun k m n => by simp [binOp, Op.intCmp, iLt_eq]) (fun _ _ _ _ => .bool _) h
  | leq => exact one _ (fun k m n => by simp [binOp, Op.intCmp, iLt_eq, decide_not_lt]) (fun _ _ _ _ => .bool _) h
  | gtr => exact one _ (fun k m n => by simp [binOp, Op.intCmp, iLt_eq]) (fun _ _ _ _ => .bool _) h
  | geq => exact one _ (fun k m n => by simp [binOp, Op.intCmp, iLt_eq, decide_not_lt]) (fun _ _ _ _ => .bool _) h
  | quo =>
    obtain ⟨k, m, n, rfl, rfl, h1⟩ := ints_some h
    cases hz : iEq n 0 with
    | true => rw [hz] at h1; cases h1
    | false =>
      rw [hz] at h1
      cases h1
      rw [iEq_eq] at hz
      have hz' : ¬ n = 0 := by simpa using hz
      exact ⟨⟨_, _, rfl⟩, ⟨_, _, rfl⟩, by simp [binOp, Op.intDiv, hz', fQuo_eq], fun _ => .int _ _⟩
  | rem =>
    obtain ⟨k, m, n, rfl, rfl, h1⟩ := ints_some h
    cases hz : iEq n 0 with
    | true => rw [hz] at h1; cases h1
    | false =>
      rw [hz] at h1
      cases h1
      rw [iEq_eq] at hz
      have hz' : ¬ n = 0 := by simpa using hz
      exact ⟨⟨_, _, rfl⟩, ⟨_, _, rfl⟩, by simp [binOp, Op.intDiv, hz', fRem_eq], fun _ => .int _ _⟩
  | shl =>
    obtain ⟨k, m, rfl, h1⟩ := onInt_some h
    obtain ⟨k', n, rfl, h2⟩ := onInt_some h1
    obtain ⟨j, rfl, h3⟩ := natOf_some h2
    cases h3
    refine ⟨⟨_, _, rfl⟩, ⟨_, _, rfl⟩, ?_, fun _ => .int _ _⟩
    have h0 : ¬ (Int.ofNat j < 0) := by simp
    simp only [binOp, Op.shift, if_neg h0, fShl_eq]; rfl
  | shr =>
    obtain ⟨k, m, rfl, h1⟩ := onInt_some h
    obtain ⟨k', n, rfl, h2⟩ := onInt_some h1
    obtain ⟨j, rfl, h3⟩ := natOf_some h2
    cases h3
    refine ⟨⟨_, _, rfl⟩, ⟨_, _, rfl⟩, ?_, fun _ => .int _ _⟩
    have h0 : ¬ (Int.ofNat j < 0) := by simp
    simp only [binOp, Op.shift, if_neg h0, fShr_eq]; rfl

end Go.Ab
