/- The quiet operations stand to the model's (2). -/
import Derived.Test.YtcjdjklggnjlbaaDoorEvD
import Derived.Laws.Small
namespace Go.Ab
open Go.RowKit

theorem Box.run_mk {α : Type} (f : α) : (Box.mk f).run = f := rfl

theorem pureRun_run {P : Program} {α : Type} {s : Sem α} {x : α} (h : pureRun P s = some x) (w : World) : s.run P w = .ok x w := by
  induction s with
  | pure a => simp only [pureRun, Option.some.injEq] at h; subst h; rfl
  | program k ih => simp only [pureRun] at h; simp only [Sem.run]; exact ih _ h
  | mark m k ih => simp only [pureRun] at h; simp only [Sem.run]; exact ih h
  | _ => simp [pureRun] at h

theorem scalar1_eq {ρ : Env} {v u : Value} (h : VR ρ v u) (hs : scalar1 v = true) : u = v := by cases h <;> simp_all [scalar1]

theorem scalars_eq {ρ : Env} {l m : List Value} (h : VRs ρ l m) (hs : l.all scalar1 = true) : m = l := by
  induction l generalizing m with
  | nil => cases h; rfl
  | cons a l ih =>
    cases h with
    | cons _ b _ ys k t =>
      simp only [List.all_cons, Bool.and_eq_true] at hs
      rw [scalar1_eq k hs.1, ih t hs.2]

theorem scalar_eq {ρ : Env} {v u : Value} (h : VR ρ v u) (hs : scalarV v = true) : u = v := by
  cases h with
  | agg c c' hc =>
    have := scalars_eq hc hs
    congr 1
    exact Array.ext' this
  | bool => rfl
  | int => rfl
  | string => rfl
  | _ => simp [scalarV] at hs

theorem boolBin_run {P : Program} {op : BinOp} {x y r : Value} {t : TypeId} (ht : P.underlying t = some .bool) (h : (boolBin op).run x y = some r) (w : World) :
    (∃ b, x = .bool b) ∧ (∃ b, y = .bool b) ∧ (binOp op t x y).run P w = .ok r w ∧ ∃ b, r = .bool b := by
  have e : ∀ a b, (Op.equal t (.bool a) (.bool b)).run P w = .ok (a == b) w := fun a b => run_equal_bool w t a b ht
  cases op with
  | eql =>
    simp only [boolBin, Box.run_mk] at h
    split at h
    · rename_i a b
      cases h
      exact ⟨⟨_, rfl⟩, ⟨_, rfl⟩, by simp only [binOp, Sem.run_bind, e, Result.andThen_ok]; rfl, ⟨_, rfl⟩⟩
    · cases h
  | neq =>
    simp only [boolBin, Box.run_mk] at h
    split at h
    · rename_i a b
      cases h
      exact ⟨⟨_, rfl⟩, ⟨_, rfl⟩, by simp only [binOp, Sem.run_bind, e, Result.andThen_ok]; rfl, ⟨_, rfl⟩⟩
    · cases h
  | _ => cases h

theorem u8_eq {x y : UInt8} (h : x.toNat = y.toNat) : x = y := UInt8.toNat_inj.1 h

theorem bytesEq_eq (a b : List UInt8) : bytesEq a b = (a == b) := by
  induction a generalizing b with
  | nil => cases b <;> rfl
  | cons x a ih =>
    cases b with
    | nil => rfl
    | cons y b =>
      show @Bool.rec (fun _ => Bool) false (bytesEq a b) (Nat.beq x.toNat y.toNat) = _
      rw [ih]
      by_cases h : x = y
      · subst h
        rw [show Nat.beq x.toNat x.toNat = true from Nat.beq_refl _]
        simp
      · have : Nat.beq x.toNat y.toNat = false := by
          cases q : Nat.beq x.toNat y.toNat with
          | false => rfl
          | true => exact absurd (u8_eq (Nat.eq_of_beq_eq_true q)) h
        rw [this]
        symm
        simp [h]

theorem strBin_run {P : Program} {op : BinOp} {x y r : Value} {t : TypeId} (h : (strBin op).run x y = some r) (w : World) :
    (∃ b, x = .string b) ∧ (∃ b, y = .string b) ∧ (binOp op t x y).run P w = .ok r w ∧ ((∃ b, r = .bool b) ∨ ∃ b, r = .string b) := by
  cases op with
  | eql =>
    simp only [strBin, Box.run_mk] at h
    split at h
    · rename_i a b
      cases h
      exact ⟨⟨_, rfl⟩, ⟨_, rfl⟩, by simp [binOp, Op.stringOp, bytesEq_eq, ByteArray.toList_eq], .inl ⟨_, rfl⟩⟩
    · cases h
  | neq =>
    simp only [strBin, Box.run_mk] at h
    split at h
    · rename_i a b
      cases h
      exact ⟨⟨_, rfl⟩, ⟨_, rfl⟩, by simp [binOp, Op.stringOp, bytesEq_eq, ByteArray.toList_eq], .inl ⟨_, rfl⟩⟩
    · cases h
  | add =>
    simp only [strBin, Box.run_mk] at h
    split at h
    · rename_i a b
      cases hb : Nat.ble (Nat.add a.data.toList.length b.data.toList.length) 4611686018427387904 with
      | false => rw [hb] at h; cases h
      | true =>
        rw [hb] at h
        cases h
        have hle := Nat.le_of_ble_eq_true hb
        refine ⟨⟨_, rfl⟩, ⟨_, rfl⟩, ?_, .inr ⟨_, rfl⟩⟩
        have h1 : ¬ (((a.size + b.size : Nat) : Int) > IntKind.i64.max) := by
          have e1 : a.size = a.data.toList.length := (Array.length_toList (xs := a.data)).symm
          have e2 : b.size = b.data.toList.length := (Array.length_toList (xs := b.data)).symm
          have e3 : IntKind.i64.max = 9223372036854775807 := by decide
          rw [e1, e2, e3]
          have : a.data.toList.length + b.data.toList.length ≤ 4611686018427387904 := hle
          omega
        simp only [binOp, Op.stringOp, if_neg h1]
        have e4 : a ++ b = (⟨⟨a.data.toList ++ b.data.toList⟩⟩ : ByteArray) := by
          apply ByteArray.ext
          apply Array.ext'
          simp [ByteArray.data_append]
        rw [← e4]
        rfl
    · cases h
  | _ => cases h

theorem say_run {P : Program} {op : BinOp} {b : Bool} {r x y : Value} {t : TypeId} {xo yo : Operand} (hs : say op b = some r) (he : ∀ w, (Op.equal t x y).run P w = .ok b w)
    (hg : ∀ w, (eqGuard op t xo yo x y).run P w = .ok () w) (h1 : binOp .eql t x y = (do pure (.bool (← Op.equal t x y)))) (h2 : binOp .neq t x y = (do pure (.bool (!(← Op.equal t x y))))) (w : World) :
    (do eqGuard op t xo yo x y; binOp op t x y).run P w = .ok r w ∧ ∃ b, r = .bool b := by
  cases op with
  | eql =>
    cases hs
    refine ⟨?_, _, rfl⟩
    rw [Sem.run_bind, hg, h1]
    simp only [Result.andThen_ok, Sem.run_bind, he]
    rfl
  | neq =>
    cases hs
    refine ⟨?_, _, rfl⟩
    rw [Sem.run_bind, hg, h2]
    simp only [Result.andThen_ok, Sem.run_bind, he]
    rfl
  | _ => cases hs

theorem say_op {op : BinOp} {b : Bool} {r : Value} (h : say op b = some r) : op = .eql ∨ op = .neq := by cases op <;> first | (exact .inl rfl) | (exact .inr rfl) | cases h

theorem guard_plain {P : Program} {op : BinOp} {t : TypeId} {xo yo : Operand} {x y : Value} (h1 : x ≠ .nilIface ∨ y ≠ .nilIface) (h2 : ∀ c, x ≠ .agg c) (w : World) : (eqGuard op t xo yo x y).run P w = .ok () w := by
  unfold eqGuard
  cases op <;> simp only [Bool.not_true, Bool.not_false, Bool.false_eq_true, if_false, if_true] <;> (first | rfl | skip)
  all_goals
    split
    · simp at h1
    · exact absurd rfl (h2 _)
    · rfl

theorem eqIn_ptr_l {P : Program} {t e : TypeId} (ht : P.underlying t = some (.pointer e)) (d : Nat) (b : Option Addr) (w : World) : (Op.equalIn (d + 1) t (.pointer none) (.pointer b)).run P w = .ok b.isNone w := by
  simp [Op.equalIn, run_underlying ht]
theorem eqIn_ptr_r {P : Program} {t e : TypeId} (ht : P.underlying t = some (.pointer e)) (d : Nat) (a : Addr) (w : World) : (Op.equalIn (d + 1) t (.pointer (some a)) (.pointer none)).run P w = .ok false w := by
  simp [Op.equalIn, run_underlying ht]
theorem eqIn_ptr_s {P : Program} {t e : TypeId} (ht : P.underlying t = some (.pointer e)) {i : TypeInfo} (hi : P.info? e = some i) (d : Nat) (a : Addr) (w : World) : (Op.equalIn (d + 1) t (.pointer (some a)) (.pointer (some a))).run P w = .ok true w := by
  by_cases hz : i.size = 0
  · simp [Op.equalIn, run_underlying ht, run_sizeOf' hi, hz]
  · simp [Op.equalIn, run_underlying ht, run_sizeOf' hi, sameAddr]
theorem eqIn_sl_l {P : Program} {t e : TypeId} (ht : P.underlying t = some (.slice e)) (d : Nat) (l c l' c' : Nat) (b : Option Addr) (w : World) : (Op.equalIn (d + 1) t (.slice none l c) (.slice b l' c')).run P w = .ok b.isNone w := by
  simp [Op.equalIn, run_underlying ht]
theorem eqIn_sl_r {P : Program} {t e : TypeId} (ht : P.underlying t = some (.slice e)) (d : Nat) (l c l' c' : Nat) (a : Addr) (w : World) : (Op.equalIn (d + 1) t (.slice (some a) l c) (.slice none l' c')).run P w = .ok false w := by
  simp [Op.equalIn, run_underlying ht]
theorem eqIn_map_l {P : Program} {t k e : TypeId} (ht : P.underlying t = some (.map k e)) (d : Nat) (b : Option Nat) (w : World) : (Op.equalIn (d + 1) t (.map none) (.map b)).run P w = .ok b.isNone w := by
  simp [Op.equalIn, run_underlying ht]
theorem eqIn_map_r {P : Program} {t k e : TypeId} (ht : P.underlying t = some (.map k e)) (d : Nat) (b : Nat) (w : World) : (Op.equalIn (d + 1) t (.map (some b)) (.map none)).run P w = .ok false w := by
  simp [Op.equalIn, run_underlying ht]
theorem eqIn_fn_n {P : Program} {t : TypeId} {a b : Array TypeId} {c : Bool} (ht : P.underlying t = some (.func a b c)) (d : Nat) (w : World) : (Op.equalIn (d + 1) t .nilFunc .nilFunc).run P w = .ok true w := by
  simp [Op.equalIn, run_underlying ht]
theorem eqIn_fn_l {P : Program} {t : TypeId} {a b : Array TypeId} {c : Bool} (ht : P.underlying t = some (.func a b c)) (d : Nat) (f : Fn) (x y : Array Value) (w : World) : (Op.equalIn (d + 1) t .nilFunc (.func f x y)).run P w = .ok false w := by
  simp [Op.equalIn, run_underlying ht]
theorem eqIn_fn_r {P : Program} {t : TypeId} {a b : Array TypeId} {c : Bool} (ht : P.underlying t = some (.func a b c)) (d : Nat) (f : Fn) (x y : Array Value) (w : World) : (Op.equalIn (d + 1) t (.func f x y) .nilFunc).run P w = .ok false w := by
  simp [Op.equalIn, run_underlying ht]
theorem eqIn_if_n {P : Program} {t : TypeId} {m : Array (String × TypeId)} (ht : P.underlying t = some (.interface m)) (d : Nat) (w : World) : (Op.equalIn (d + 1) t .nilIface .nilIface).run P w = .ok true w := by
  simp [Op.equalIn, run_underlying ht]
theorem eqIn_if_l {P : Program} {t : TypeId} {m : Array (String × TypeId)} (ht : P.underlying t = some (.interface m)) (d : Nat) (u : TypeId) (x : Value) (w : World) : (Op.equalIn (d + 1) t .nilIface (.iface u x)).run P w = .ok false w := by
  simp [Op.equalIn, run_underlying ht]
theorem eqIn_if_r {P : Program} {t : TypeId} {m : Array (String × TypeId)} (ht : P.underlying t = some (.interface m)) (d : Nat) (u : TypeId) (x : Value) (w : World) : (Op.equalIn (d + 1) t (.iface u x) .nilIface).run P w = .ok false w := by
  simp [Op.equalIn, run_underlying ht]

theorem guard_nil {P : Program} {op : BinOp} {t : TypeId} {xo yo : Operand} (h : isConst xo = true ∨ isConst yo = true) (w : World) : (eqGuard op t xo yo .nilIface .nilIface).run P w = .ok () w := by
  unfold eqGuard
  cases op <;> simp only [Bool.not_true, Bool.not_false, Bool.false_eq_true, if_false, if_true] <;> (first | rfl | skip)
  all_goals
    rcases h with h | h
    · cases xo <;> first | rfl | cases h
    · cases yo <;> first | (cases xo <;> rfl) | cases h

theorem nat_beq {a b : Nat} (h : Nat.beq a b = true) : a = b := Nat.eq_of_beq_eq_true h

theorem addr_of {a b : Addr} (h : (Nat.beq a.block b.block && Nat.beq a.off b.off && a.spot.isNone && b.spot.isNone) = true) : a = b := by
  simp only [Bool.and_eq_true, Option.isNone_iff_eq_none] at h
  obtain ⟨⟨⟨h1, h2⟩, h3⟩, h4⟩ := h
  have e1 := nat_beq h1
  have e2 := nat_beq h2
  cases a; cases b
  simp only at e1 e2 h3 h4
  rw [e1, e2, h3, h4]

theorem AR.fn {ρ : Env} {a b c : Addr} (h : AR ρ a b) (k : AR ρ a c) : b = c := by
  obtain ⟨e, he, rfl⟩ := h
  obtain ⟨f, hf, rfl⟩ := k
  rw [he] at hf
  cases hf
  rfl

theorem binF_run {C : Ctx} {ρ : Env} {op : BinOp} {xo yo : Operand} {x y r : Value} {t : TypeId}
    (h : (binF C.P op t (isConst xo) (isConst yo)).run x y = some r) {x' y' : Value} (hx : VR ρ x x') (hy : VR ρ y y') (w : World) :
    (do eqGuard op t xo yo x' y'; binOp op t x' y').run C.P w = .ok r w ∧ VR ρ r r := by
  have vb : ∀ {b : Value}, (∃ c, b = Value.bool c) → VR ρ b b := fun ⟨c, hc⟩ => hc ▸ .bool c
  have fin : ∀ {A : Prop} {r : Value}, (A ∧ ∃ b, r = Value.bool b) → A ∧ VR ρ r r := fun k => ⟨k.1, vb k.2⟩
  unfold binF at h
  split at h
  · -- int
    obtain ⟨⟨k, m, rfl⟩, ⟨k', n, rfl⟩, hr, hv⟩ := intBin_run h t w
    obtain rfl := hx.int_inv
    obtain rfl := hy.int_inv
    exact ⟨by rw [Sem.run_bind, guard_plain (.inl (by simp)) (by simp)]; exact hr, hv ρ⟩
  · rename_i ht
    obtain ⟨⟨b, rfl⟩, ⟨c, rfl⟩, hr, hv⟩ := boolBin_run ht h w
    obtain rfl := hx.bool_inv
    obtain rfl := hy.bool_inv
    exact ⟨by rw [Sem.run_bind, guard_plain (.inl (by simp)) (by simp)]; exact hr, vb hv⟩
  · obtain ⟨⟨b, rfl⟩, ⟨c, rfl⟩, hr, hv⟩ := strBin_run (t := t) h w
    obtain rfl := hx.string_inv
    obtain rfl := hy.string_inv
    refine ⟨by rw [Sem.run_bind, guard_plain (.inl (by simp)) (by simp)]; exact hr, ?_⟩
    rcases hv with hv | ⟨c, rfl⟩
    · exact vb hv
    · exact .string _
  · rename_i e ht
    cases hi : C.P.info? e with
    | none => rw [hi] at h; cases h
    | some inf =>
      rw [hi] at h
      simp only [Option.isSome, cond, ptrBin, Box.run_mk] at h
      have gp : ∀ (a b : Option Addr) (w : World), (eqGuard op t xo yo (.pointer a) (.pointer b)).run C.P w = .ok () w := fun a b w => guard_plain (.inl (by simp)) (by simp) w
      split at h
      · rename_i b
        cases hx
        cases b with
        | none =>
          cases hy
          exact fin (say_run (xo := xo) (yo := yo) h (eqIn_ptr_l ht 9999 none) (gp _ _) rfl rfl w)
        | some b =>
          obtain ⟨b', rfl, _⟩ := hy.ptr_inv
          exact fin (say_run (xo := xo) (yo := yo) h (eqIn_ptr_l ht 9999 (some b')) (gp _ _) rfl rfl w)
      · obtain ⟨a', rfl, _⟩ := hx.ptr_inv
        cases hy
        exact fin (say_run (xo := xo) (yo := yo) h (eqIn_ptr_r ht 9999 a') (gp _ _) rfl rfl w)
      · rename_i a b
        obtain ⟨a', rfl, ha⟩ := hx.ptr_inv
        obtain ⟨b', rfl, hb⟩ := hy.ptr_inv
        cases hc : (Nat.beq a.block b.block && Nat.beq a.off b.off && a.spot.isNone && b.spot.isNone) with
        | false => rw [hc] at h; cases h
        | true =>
          rw [hc] at h
          obtain rfl := addr_of hc
          obtain rfl := ha.fn hb
          exact fin (say_run (xo := xo) (yo := yo) h (eqIn_ptr_s ht hi 9999 a') (gp _ _) rfl rfl w)
      · cases h
  · rename_i e ht
    have gp : ∀ (a b : Option Addr) (l c l' c' : Nat) (w : World), (eqGuard op t xo yo (.slice a l c) (.slice b l' c')).run C.P w = .ok () w := fun a b l c l' c' w => guard_plain (.inl (by simp)) (by simp) w
    simp only [slBin, Box.run_mk] at h
    split at h
    · rename_i b _ _
      cases hx
      cases hy with
      | nils =>
        exact fin (say_run (xo := xo) (yo := yo) h (eqIn_sl_l ht 9999 _ _ _ _ none) (gp _ _ _ _ _ _) rfl rfl w)
      | sl a b' l c e he hb hs ho hl =>
        exact fin (say_run (xo := xo) (yo := yo) h (eqIn_sl_l ht 9999 _ _ _ _ (some b')) (gp _ _ _ _ _ _) rfl rfl w)
    · cases hy
      cases hx with
      | sl a b' l c e he hb hs ho hl =>
        exact fin (say_run (xo := xo) (yo := yo) h (eqIn_sl_r ht 9999 _ _ _ _ b') (gp _ _ _ _ _ _) rfl rfl w)
    · cases h
  · rename_i k e ht
    have gp : ∀ (a b : Option Nat) (w : World), (eqGuard op t xo yo (.map a) (.map b)).run C.P w = .ok () w := fun a b w => guard_plain (.inl (by simp)) (by simp) w
    simp only [mapBin, Box.run_mk] at h
    split at h
    · cases hx
      cases hy with
      | nilm =>
        exact fin (say_run (xo := xo) (yo := yo) h (eqIn_map_l ht 9999 none) (gp _ _) rfl rfl w)
      | mp r e he =>
        exact fin (say_run (xo := xo) (yo := yo) h (eqIn_map_l ht 9999 (some e.id)) (gp _ _) rfl rfl w)
    · cases hy
      cases hx with
      | mp r e he =>
        exact fin (say_run (xo := xo) (yo := yo) h (eqIn_map_r ht 9999 e.id) (gp _ _) rfl rfl w)
    · cases h
  · rename_i a b c ht
    simp only [fnBin, Box.run_mk] at h
    split at h
    · cases hx; cases hy
      exact fin (say_run (xo := xo) (yo := yo) h (eqIn_fn_n ht 9999) (guard_plain (.inl (by simp)) (by simp)) rfl rfl w)
    · cases hx; cases hy
      exact fin (say_run (xo := xo) (yo := yo) h (eqIn_fn_l ht 9999 _ _ _) (guard_plain (.inl (by simp)) (by simp)) rfl rfl w)
    · cases hx; cases hy
      exact fin (say_run (xo := xo) (yo := yo) h (eqIn_fn_r ht 9999 _ _ _) (guard_plain (.inl (by simp)) (by simp)) rfl rfl w)
    · cases h
  · rename_i m ht
    simp only [ifBin, Box.run_mk] at h
    split at h
    · cases hx; cases hy
      cases hc : (isConst xo || isConst yo) with
      | false => rw [hc] at h; cases h
      | true =>
        rw [hc] at h
        exact fin (say_run (xo := xo) (yo := yo) h (eqIn_if_n ht 9999) (guard_nil (by simpa using hc)) rfl rfl w)
    · cases hx; cases hy
      exact fin (say_run (xo := xo) (yo := yo) h (eqIn_if_l ht 9999 _ _) (guard_plain (.inr (by simp)) (by simp)) rfl rfl w)
    · cases hx; cases hy
      exact fin (say_run (xo := xo) (yo := yo) h (eqIn_if_r ht 9999 _ _) (guard_plain (.inl (by simp)) (by simp)) rfl rfl w)
    · cases h
  · cases h

end Go.Ab
