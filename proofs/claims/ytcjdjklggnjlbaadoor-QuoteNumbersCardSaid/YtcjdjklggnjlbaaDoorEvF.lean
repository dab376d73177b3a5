/- The quiet operations stand to the model's (3). -/
import Derived.Test.YtcjdjklggnjlbaaDoorEvE
namespace Go.Ab
open Go.RowKit

theorem nth_some {n len : Nat} {i : Int} {f : Nat → Option Value} {r : Value} (h : nth n len i f = some r) : ∃ j : Nat, i = .ofNat j ∧ j < len ∧ f (j * n) = some r := by
  obtain ⟨j, rfl, h1⟩ := natOf_some h
  cases hb : Nat.blt j len with
  | false => rw [hb] at h1; cases h1
  | true => rw [hb] at h1; exact ⟨j, rfl, blt_iff.1 hb, h1⟩

theorem run_asIntOf {P : Program} (k : IntKind) (n : Int) (w : World) : (asIntOf (.int k n)).run P w = .ok (k, n) w := rfl

theorem VR.sl_inv {ρ : Env} {a : Addr} {l c : Nat} {u : Value} (h : VR ρ (.slice (some a) l c) u) :
    ∃ b e, u = .slice (some b) l (c + e.extra) ∧ ρ a.block = some e ∧ b.block = e.id ∧ (a.spot = none ∧ b.spot = none) ∧ (b.off = a.off ∨ (c = 0 ∧ e.extra = 0)) ∧ l ≤ c := by
  cases h with
  | sl a b l c e he hb hs ho hl => exact ⟨b, e, rfl, he, hb, hs, ho, hl⟩

/-- the address of a slice that has room -/
theorem AR.of_sl {ρ : Env} {a b : Addr} {c : Nat} {e : Ent} (he : ρ a.block = some e) (hb : b.block = e.id) (hs : a.spot = none ∧ b.spot = none) (ho : b.off = a.off ∨ (c = 0 ∧ e.extra = 0)) (hc : 0 < c) : AR ρ a b := by
  refine ⟨e, he, ?_⟩
  rcases ho with ho | ⟨h, _⟩
  · cases b; simp_all
  · omega

theorem indexAddrF_run {C : Ctx} {ρ : Env} {t : TypeId} {x ix v x' ix' : Value} (hx : VR ρ x x') (hi : VR ρ ix ix') (h : (indexAddrF C.P t).run x ix = some v) :
    ∃ v', (∀ w, (Instr.indexAt t x' ix').run C.P w = .ok v' w) ∧ VR ρ v v' := by
  unfold indexAddrF at h
  split at h
  · rename_i e ht
    split at h
    · rename_i inf hinf
      simp only [Box.run_mk] at h
      obtain ⟨k, i, rfl, h1⟩ := onInt_some h
      obtain rfl := hi.int_inv
      split at h1
      · rename_i a len cap
        obtain ⟨j, rfl, hj, h2⟩ := nth_some h1
        cases h2
        obtain ⟨b, e', rfl, he, hb, hs, ho, hl⟩ := hx.sl_inv
        have hA : AR ρ a b := AR.of_sl he hb hs ho (by omega)
        refine ⟨.pointer (some (b.add (j * inf.size))), fun w => ?_, .ptr _ _ (hA.add _)⟩
        have h0 : (0 : Int) ≤ Int.ofNat j ∧ Int.ofNat j < (len : Int) := ⟨Int.natCast_nonneg _, by show (j : Int) < len; omega⟩
        simp only [Instr.indexAt, Sem.run_bind, run_asIntOf, Result.andThen_ok, run_underlying ht, Sem.run_pure, if_pos h0, run_sizeOf' hinf]
        rfl
      · cases h1
    · cases h
  · rename_i len e ht
    split at h
    · rename_i inf hinf
      simp only [Box.run_mk] at h
      obtain ⟨k, i, rfl, h1⟩ := onInt_some h
      obtain rfl := hi.int_inv
      split at h1
      · rename_i a
        obtain ⟨j, rfl, hj, h2⟩ := nth_some h1
        cases h2
        obtain ⟨b, rfl, hA⟩ := hx.ptr_inv
        refine ⟨.pointer (some (b.add (j * inf.size))), fun w => ?_, .ptr _ _ (hA.add _)⟩
        have h0 : (0 : Int) ≤ Int.ofNat j ∧ Int.ofNat j < (len : Int) := ⟨Int.natCast_nonneg _, by show (j : Int) < len; omega⟩
        have ha : (Instr.sureAddr (.pointer (some b))).run C.P w = .ok b w := rfl
        simp only [Instr.indexAt, Sem.run_bind, run_asIntOf, Result.andThen_ok, run_underlying ht, Sem.run_pure, if_pos h0, run_sizeOf' hinf, ha]
        rfl
      · cases h1
    · cases h
  · cases h

theorem indexF_run {C : Ctx} {ρ : Env} {t : TypeId} {x ix v x' ix' : Value} (hx : VR ρ x x') (hi : VR ρ ix ix') (h : (indexF C.P t).run x ix = some v) :
    ∃ v', (∀ w, (Instr.index t x' ix').run C.P w = .ok v' w) ∧ VR ρ v v' := by
  unfold indexF at h
  split at h
  · rename_i len e ht
    split at h
    · rename_i inf hinf
      simp only [Box.run_mk] at h
      obtain ⟨k, i, rfl, h1⟩ := onInt_some h
      obtain rfl := hi.int_inv
      split at h1
      · rename_i c
        obtain ⟨j, rfl, hj, h2⟩ := nth_some h1
        obtain ⟨c', rfl, hc⟩ := hx.agg_inv
        obtain ⟨u, same, hr⟩ := partF_sound hc h2
        refine ⟨u, fun w => ?_, hr⟩
        have h0 : (0 : Int) ≤ Int.ofNat j ∧ Int.ofNat j < (len : Int) := ⟨Int.natCast_nonneg _, by show (j : Int) < len; omega⟩
        simp only [Instr.index, Sem.run_bind, run_asIntOf, Result.andThen_ok, run_underlying ht, if_pos h0, run_sizeOf' hinf]
        exact same w
      · cases h1
    · cases h
  · rename_i ht
    simp only [Box.run_mk] at h
    obtain ⟨k, i, rfl, h1⟩ := onInt_some h
    obtain rfl := hi.int_inv
    split at h1
    · rename_i s
      obtain ⟨j, rfl, h2⟩ := natOf_some h1
      obtain rfl := hx.string_inv
      cases hb : s.data.toList[j]? with
      | none => rw [hb] at h2; cases h2
      | some b =>
        rw [hb] at h2
        cases h2
        refine ⟨.int .u8 b.toNat, fun w => ?_, .int _ _⟩
        have hlt : j < s.size := by
          rcases Nat.lt_or_ge j s.data.toList.length with q | q
          · exact q
          · rw [List.getElem?_eq_none q] at hb; cases hb
        have hg : (if (0 : Int) ≤ Int.ofNat j then s[(Int.ofNat j).toNat]? else none) = some b := by
          rw [if_pos (show (0 : Int) ≤ Int.ofNat j from Int.natCast_nonneg _)]
          show s[j]? = some b
          have e1 : s[j]? = some s[j] := getElem?_pos s j hlt
          rw [e1]
          congr 1
          have : s.data.toList[j]? = some s[j] := by
            show s.data.toList[j]? = some (s.data[j])
            simp
          rw [this] at hb
          exact Option.some.inj hb
        simp only [Instr.index, Sem.run_bind, run_asIntOf, Result.andThen_ok, run_underlying ht, hg, Sem.run_pure]
    · cases h1
  · cases h

theorem bound_some {d n : Nat} {x : Option Value} (h : bound d x = some n) : (x = none ∧ n = d) ∨ ∃ k, x = some (.int k (.ofNat n)) := by
  unfold bound at h
  split at h
  · cases h; exact .inl ⟨rfl, rfl⟩
  · cases h; exact .inr ⟨_, rfl⟩
  · cases h

theorem run_sliceBound {P : Program} (k : IntKind) (n y : Nat) (code : BoundsCode) (h : n ≤ y) (w : World) : (Instr.sliceBound (.int k (.ofNat n)) y code).run P w = .ok n w := by
  have h0 : (0 : Int) ≤ Int.ofNat n ∧ Int.ofNat n ≤ (y : Int) := ⟨Int.natCast_nonneg _, by show (n : Int) ≤ y; omega⟩
  simp only [Instr.sliceBound, Sem.run_bind, run_asIntOf, Result.andThen_ok, if_pos h0]
  rfl

theorem run_sliceBounds {P : Program} {s : Bool} {len cap h l : Nat} {lo hi : Option Value} (hh : bound len hi = some h) (hl : bound 0 lo = some l) (h1 : l ≤ h) (h2 : h ≤ cap) (w : World) :
    (Instr.sliceBounds s len cap lo hi none).run P w = .ok (l, h, cap) w := by
  rcases bound_some hh with ⟨rfl, rfl⟩ | ⟨k, rfl⟩ <;> rcases bound_some hl with ⟨rfl, rfl⟩ | ⟨k', rfl⟩ <;>
    simp only [Instr.sliceBounds, Sem.run_bind, Sem.run_pure, Result.andThen_ok, run_sliceBound, h1, h2]

/-- operands that may be there -/
def VRo (ρ : Env) : Option Value → Option Value → Prop
  | none, none => True
  | some x, some y => VR ρ x y
  | _, _ => False

theorem bound_VRo {ρ : Env} {d n : Nat} {x y : Option Value} (h : VRo ρ x y) (hb : bound d x = some n) : bound d y = some n := by
  rcases bound_some hb with ⟨rfl, rfl⟩ | ⟨k, rfl⟩
  · cases y with
    | none => rfl
    | some y => exact h.elim
  · cases y with
    | none => exact h.elim
    | some y => obtain rfl := VR.int_inv h; rfl

theorem add_block (a : Addr) (n : Nat) : (a.add n).block = a.block := by unfold Addr.add; split <;> rfl
theorem add_off' (a : Addr) (n : Nat) : (a.add n).off = a.off + n := by
  unfold Addr.add; split
  · rename_i h; subst h; rfl
  · rfl
theorem add_spot {a : Addr} (h : a.spot = none) (n : Nat) : (a.add n).spot = none := by unfold Addr.add; split <;> first | exact h | rfl

theorem sliceF_run {C : Ctx} {ρ : Env} {t : TypeId} {x v x' : Value} {lo hi lo' hi' : Option Value} (hx : VR ρ x x') (hl : VRo ρ lo lo') (hh : VRo ρ hi hi') (h : (sliceF C.P t).run x lo hi = some v) :
    ∃ v', (∀ w, (Instr.sliceAt t x' lo' hi' none).run C.P w = .ok v' w) ∧ VR ρ v v' := by
  unfold sliceF at h
  split at h
  · rename_i ht
    simp only [Box.run_mk] at h
    split at h
    · rename_i s
      obtain rfl := hx.string_inv
      split at h
      · rename_i b a hb ha
        have hb' := bound_VRo hh hb
        have ha' := bound_VRo hl ha
        cases hc : (Nat.ble a b && Nat.ble b s.data.toList.length) with
        | false => rw [hc] at h; cases h
        | true =>
          rw [hc] at h
          cases h
          simp only [Bool.and_eq_true] at hc
          have h1 := Nat.le_of_ble_eq_true hc.1
          have h2 := Nat.le_of_ble_eq_true hc.2
          have hsz : s.size = s.data.toList.length := (Array.length_toList (xs := s.data)).symm
          refine ⟨.string ⟨⟨(s.data.toList.drop a).take (b - a)⟩⟩, fun w => ?_, .string _⟩
          have hb2 : bound s.size hi' = some b := by rw [hsz]; exact hb'
          have e : s.extract a b = (⟨⟨(s.data.toList.drop a).take (b - a)⟩⟩ : ByteArray) := by
            apply ByteArray.ext
            apply Array.ext'
            simp [Array.toList_extract, List.extract_eq_take_drop]
          have hb3 := run_sliceBounds (P := C.P) (s := false) hb2 ha' h1 (by omega : b ≤ s.size) w
          simp only [Instr.sliceAt, Instr.slice, Sem.run_bind, run_underlying ht, Result.andThen_ok, Option.isSome, Bool.false_eq_true, if_false, hb3, Sem.run_pure]
          exact congrArg (fun z => Result.ok (Value.string z) w) e
      · cases h
    · cases h
  · rename_i e ht
    split at h
    · rename_i inf hinf
      simp only [Box.run_mk] at h
      split at h
      · rename_i a len cap
        split at h
        · rename_i b c hb hc
          have hb' := bound_VRo hh hb
          have hc' := bound_VRo hl hc
          cases hq : (Nat.ble c b && Nat.ble b cap) with
          | false => rw [hq] at h; cases h
          | true =>
            rw [hq] at h
            cases h
            simp only [Bool.and_eq_true] at hq
            have h1 := Nat.le_of_ble_eq_true hq.1
            have h2 := Nat.le_of_ble_eq_true hq.2
            cases a with
            | none =>
              cases hx
              refine ⟨.slice none (b - c) (cap - c), fun w => ?_, .nils _ _⟩
              simp only [Instr.sliceAt, Instr.slice, Sem.run_bind, run_underlying ht, Result.andThen_ok, run_sliceBounds hb' hc' h1 h2, run_sizeOf' hinf, Sem.run_pure]
              simp
            | some a =>
              obtain ⟨a', e', rfl, he, hbk, hs, ho, hlc⟩ := hx.sl_inv
              refine ⟨.slice (if cap + e'.extra = c then some a' else some (a'.add (c * inf.size))) (b - c) (cap + e'.extra - c), fun w => ?_, ?_⟩
              · simp only [Instr.sliceAt, Instr.slice, Sem.run_bind, run_underlying ht, Result.andThen_ok, run_sliceBounds hb' hc' h1 (Nat.le_trans h2 (Nat.le_add_right _ _)), run_sizeOf' hinf, Sem.run_pure]
                rfl
              · have e2 : cap + e'.extra - c = (cap - c) + e'.extra := by omega
                rw [e2]
                by_cases hm : cap + e'.extra = c
                · rw [if_pos hm]
                  refine .sl _ _ _ _ e' ?_ hbk ⟨add_spot hs.1 _, hs.2⟩ (.inr ⟨by omega, by omega⟩) (by omega)
                  rw [add_block]; exact he
                · rw [if_neg hm]
                  refine .sl _ _ _ _ e' ?_ ?_ ⟨add_spot hs.1 _, add_spot hs.2 _⟩ ?_ (by omega)
                  · rw [add_block]; exact he
                  · rw [add_block]; exact hbk
                  · rw [add_off', add_off']
                    rcases ho with ho | ⟨h5, h6⟩
                    · left; rw [ho]; rfl
                    · right; omega
        · cases h
      · cases h
    · cases h
  · cases h

theorem run_dist {P : Program} {α : Type} {s : Sem α} {x : α} (h : ∀ w, s.run P w = .ok x w) {β : Type} (f : α → Sem β) (w : World) : (s >>= f).run P w = (f x).run P w := by
  rw [Sem.run_bind, h]; rfl

theorem maxF_run {P : Program} {x y r : Value} (h : maxF x y = some r) (w : World) : (Builtin.max2 x y).run P w = .ok r w ∧ ∃ k n, x = .int k n ∧ (∃ k n, y = .int k n) ∧ ∃ m, r = .int k m := by
  obtain ⟨k, m, rfl, h1⟩ := onInt_some h
  obtain ⟨k', n, rfl, h2⟩ := onInt_some h1
  cases h2
  refine ⟨?_, k, m, rfl, ⟨_, _, rfl⟩, _, rfl⟩
  simp only [Builtin.max2, iLt_eq]
  by_cases q : m < n
  · simp [q]
  · simp [q]

theorem minF_run {P : Program} {x y r : Value} (h : minF x y = some r) (w : World) : (Builtin.min2 x y).run P w = .ok r w ∧ ∃ k n, x = .int k n ∧ (∃ k n, y = .int k n) ∧ ∃ m, r = .int k m := by
  obtain ⟨k, m, rfl, h1⟩ := onInt_some h
  obtain ⟨k', n, rfl, h2⟩ := onInt_some h1
  cases h2
  refine ⟨?_, k, m, rfl, ⟨_, _, rfl⟩, _, rfl⟩
  simp only [Builtin.min2, iLt_eq]
  by_cases q : n < m
  · simp [q]
  · simp [q]

theorem fold2_run {P : Program} {ρ : Env} {f : Value → Value → Option Value} {g : Value → Value → Sem Value}
    (hf : ∀ x y r, f x y = some r → (∀ w, (g x y).run P w = .ok r w) ∧ ∃ k n, x = .int k n ∧ (∃ k n, y = .int k n) ∧ ∃ m, r = .int k m) :
    ∀ (l : List Value) (x v : Value) (l' : List Value) (x' : Value), VRs ρ l l' → VR ρ x x' → fold2 f l x = some v → l ≠ [] → (∀ w, (l'.foldlM g x').run P w = .ok v w) ∧ VR ρ v v
  | [], _, _, _, _, _, _, _, hn => absurd rfl hn
  | y :: l, x, v, l', x', hl, hx, h, _ => by
    cases hl with
    | cons _ y' _ m hy ht =>
      simp only [fold2, orElse] at h
      cases hr : f x y with
      | none => rw [hr] at h; cases h
      | some z =>
        rw [hr] at h
        obtain ⟨hg, k, n, rfl, ⟨k', n', rfl⟩, m', rfl⟩ := hf _ _ _ hr
        obtain rfl := hx.int_inv
        obtain rfl := hy.int_inv
        cases hl2 : l with
        | nil =>
          subst hl2
          cases ht
          simp only [fold2] at h
          cases h
          refine ⟨fun w => ?_, .int _ _⟩
          simp only [List.foldlM_cons, List.foldlM_nil, Sem.run_bind, hg, Result.andThen_ok, Sem.run_pure]
        | cons b bs =>
          have := fold2_run hf l (.int k m') v m (.int k m') ht (.int _ _) h (by simp [hl2])
          refine ⟨fun w => ?_, this.2⟩
          simp only [List.foldlM_cons, Sem.run_bind, hg, Result.andThen_ok]
          exact this.1 w

end Go.Ab
