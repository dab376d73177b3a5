/- 'append'. -/
import Derived.Test.YtcjdjklggnjlbaaDoorEvJ
namespace Go.Ab
open Go.RowKit

theorem growBy_le (n : Nat) : ∀ (k c : Nat), c ≤ 2 * n + 768 → Builtin.growBy n k c ≤ 2 * n + 768
  | 0, c, h => h
  | k + 1, c, h => by
    unfold Builtin.growBy
    split
    · exact h
    · exact growBy_le n k _ (by omega)

theorem nextcap_le {n c : Nat} (h : c < n) : Builtin.nextslicecap n c ≤ 2 * n + 768 := by
  unfold Builtin.nextslicecap
  split
  · omega
  · split
    · omega
    · exact growBy_le n 4 c (by omega)

theorem run_cap {P : Program} (need c : Nat) (e : TypeId) (w : World) : ∃ k, need ≤ k ∧ (Go.choose (.appendCap need c e)).run P w = .ok k { w with drawn := w.drawn + 1 } := by
  refine ⟨need + w.tape w.drawn (.appendCap need c e) % (2 ^ 63 - need), by omega, ?_⟩
  rfl

theorem run_askRoom {P : Program} (n : Nat) (w : World) : (Go.askRoom n).run P w = .ok () w := by
  unfold Go.askRoom
  split <;> rfl

theorem cellsOf_info {P : Program} {t : TypeId} {i : TypeInfo} (h : P.info? t = some i) : P.cellsOf t = i.size := by
  simp [Program.cellsOf, h]

theorem lenV_run {P : Program} {ρ : Env} {x x' : Value} (hx : VR ρ x x') {n : Nat} (h : lenV x = some n) (w : World) : (Builtin.lenOf x').run P w = .ok n w := by
  unfold lenV at h
  split at h
  · cases h
    cases hx <;> rfl
  · cases h
    obtain rfl := hx.string_inv
    rfl
  · cases h

theorem firstF_run {C : Ctx} {ρ : Env} {w : AW} {w' : World} (hw : WR C ρ w w') {x x' : Value} (hx : VR ρ x x') {size n : Nat} {new : List Value} (hn : ∀ b l c, x = .slice b l c → n ≤ l) (h : firstF size n w x = some new) :
    ∃ us, (Builtin.firstCells size n x').run C.P w' = .ok ⟨us⟩ w' ∧ VRs ρ new us := by
  unfold firstF at h
  split at h
  · rename_i a l c
    split at h
    · rename_i cs hl
      cases h
      obtain ⟨b, e, rfl, he, hb, hs, ho, hlc⟩ := hx.sl_inv
      have hl : loadAgg (n * size) a w = some (.agg cs) := hl
      by_cases h0 : n = 0
      · subst h0
        rw [Nat.zero_mul] at hl
        have hcs : cs.toList = [] := by
          unfold loadAgg at hl
          split at hl
          · split at hl
            · obtain ⟨_, h2⟩ := runOf_some hl
              cases h2
              simp
            · cases hl
          · cases hl
        rw [hcs]
        refine ⟨[], ?_, .nil⟩
        show (Go.loadCells b (0 * size)).run C.P w' = _
        rw [Nat.zero_mul]
        rfl
      · have := hn _ _ _ rfl
        obtain ⟨l1, l2, h1, h2, h3, h4⟩ := loadAgg_sound hw (AR.of_sl he hb hs ho (by omega)) hl
        cases h1
        exact ⟨l2, h3, h4⟩
    · cases h
  · cases h
    have : ∃ l' c', x' = .slice none l' c' := by cases hx; exact ⟨_, _, rfl⟩
    obtain ⟨l', c', rfl⟩ := this
    exact ⟨[], rfl, .nil⟩
  · rename_i s
    cases h
    obtain rfl := hx.string_inv
    refine ⟨_, ?_, VRs.refl ?_⟩
    · show Result.ok _ w' = _
      congr 1
      apply Array.toList_inj.1
      rw [ByteArray.data_extract]
      simp
    · intro v hv
      obtain ⟨b, _, rfl⟩ := List.mem_map.1 hv
      exact .int _ _
  · cases h

/-- a block's abstract twin gets a new number -/
theorem WR.rename {C : Ctx} {ρ : Env} {w : AW} {w' : World} (h : WR C ρ w w') {r : Nat} {b b1 : Blk} {e : Ent} {o1 : Obj} (hb : w.get r = some b) (he : ρ r = some e) (hG : C.G ≤ r) (x : Nat) (hn : w.next < lim)
    (ho : OR C.P ρ x b1.obj o1) (hex : b1.exact = true → x = 0) : WR C (ρ.ext w.next ⟨e.id, x⟩) ((w.drop r).push b1) { w' with heap := w'.heap.setIfInBounds e.id o1 } := by
  have hr := AW.get_lt hb
  obtain ⟨o0, ho0, _, _, hg0⟩ := h.live r b e hb he
  have hlt := heap_lt ho0
  have hnone := h.top _ (Nat.le_refl _)
  have hrn := h.lt he
  have hp := Env.le_ext ⟨e.id, x⟩ hnone
  have hnx : (w.drop r).next = w.next := rfl
  have hlast : (ρ.ext w.next ⟨e.id, x⟩) w.next = some ⟨e.id, x⟩ := Env.ext_same
  have getd : ∀ i, ((w.drop r).push b1).get i = if i = w.next then some b1 else if i = r then none else w.get i := by
    intro i
    rw [AW.get_push (by rw [hnx]; exact hn), hnx]
    split
    · rfl
    · unfold AW.drop; rw [AW.get_put hr]
  refine ⟨?_, ?_, ?_, ?_, ?_, ?_, ?_⟩
  · intro i hi
    have hi : w.next + 1 ≤ i := hi
    rw [Env.ext_other (by omega)]
    exact h.top i (by omega)
  · intro i c f hc hf
    rw [getd] at hc
    split at hc
    · rename_i hi
      subst hi
      cases hc
      rw [hlast] at hf
      cases hf
      exact ⟨o1, by simp [hlt], ho.mono hp, hex, fun _ => hg0 hG⟩
    · rename_i hi
      split at hc
      · cases hc
      · rename_i hir
        rw [Env.ext_other hi] at hf
        obtain ⟨p', hp', q1, q2⟩ := h.live i c f hc hf
        refine ⟨p', ?_, q1.mono hp, q2⟩
        have hne : e.id ≠ f.id := fun k => hir (h.inj r i b c e f hb hc he hf k).symm
        simp only [Array.getElem?_setIfInBounds]
        rw [if_neg hne]
        exact hp'
  · intro i j c d f g hc hd hf hg hid
    rw [getd] at hc hd
    have one : ∀ k q u, k ≠ w.next → (if k = r then none else w.get k) = some q → (ρ.ext w.next ⟨e.id, x⟩) k = some u → u.id ≠ e.id ∧ w.get k = some q ∧ ρ k = some u := by
      intro k q u hk hq hu
      split at hq
      · cases hq
      · rename_i hkr
        rw [Env.ext_other hk] at hu
        exact ⟨fun k1 => hkr (h.inj k r q b u e hq hb hu he k1), hq, hu⟩
    by_cases hi : i = w.next
    · by_cases hj : j = w.next
      · omega
      · rw [if_neg hj] at hd
        subst hi
        rw [hlast] at hf
        cases hf
        exact absurd hid.symm (one j d g hj hd hg).1
    · rw [if_neg hi] at hc
      by_cases hj : j = w.next
      · subst hj
        rw [hlast] at hg
        cases hg
        exact absurd hid (one i c f hi hc hf).1
      · rw [if_neg hj] at hd
        obtain ⟨_, h1, h2⟩ := one i c f hi hc hf
        obtain ⟨_, h3, h4⟩ := one j d g hj hd hg
        exact h.inj i j c d f g h1 h3 h2 h4 hid
  · refine h.below.trans ⟨rfl, rfl, rfl, by simp, fun k hk => ?_⟩
    have := hg0 hG
    simp only [Array.getElem?_setIfInBounds]
    rw [if_neg (by omega)]
  · have := h.big
    simp; omega
  · intro i c hc
    obtain ⟨h1, h2, h3⟩ := h.pend i c hc
    refine ⟨?_, ?_, ?_⟩
    · rw [getd, if_neg (by omega)]
      split
      · rename_i hi; subst hi; rw [he] at h2; cases h2
      · exact h1
    · rw [Env.ext_other (by omega)]; exact h2
    · show i < w.next + 1
      omega
  · intro i c hc
    rw [getd] at hc
    show i < w.next + 1
    split at hc
    · omega
    · split at hc
      · cases hc
      · have := h.fit i c hc; omega

/-- what 'append' does where there is no room -/
theorem append_grow {C : Ctx} {st xt e : TypeId} {xd : TypeDesc} {inf : TypeInfo} {z : Value} (ht : C.P.underlying st = some (.slice e)) (hx : C.P.underlying xt = some xd) (hxd : ∀ k, xd ≠ .int k) (hi : C.P.info? e = some inf) (hz : inf.zero = some z)
    (hzs : z.cells.size = inf.size) {base : Option Addr} {sLen sCap n : Nat} {x' : Value} {ty : TypeId} (hneed : sLen + n ≤ lim) (hb : inf.bytes ≤ lim) (hgt : ¬ sLen + n ≤ sCap) {w' : World} {old us : List Value}
    (hlen : ∀ w, (Builtin.lenOf x').run C.P w = .ok n w)
    (hold : (Builtin.firstCells inf.size sLen (.slice base sLen sCap)).run C.P { w' with drawn := w'.drawn + 1 } = .ok ⟨old⟩ { w' with drawn := w'.drawn + 1 })
    (hnew : (Builtin.firstCells inf.size n x').run C.P { w' with drawn := w'.drawn + 1 } = .ok ⟨us⟩ { w' with drawn := w'.drawn + 1 }) :
    ∃ (k : Nat) (c' : Array Value), sLen + n ≤ k ∧ c'.size = old.length + us.length + (k - (sLen + n)) * inf.size ∧ (∀ (i : Nat) (v : Value), (old ++ us)[i]? = some v → c'[i]? = some v) ∧
      (Builtin.append_ #[st, xt] ty #[.slice base sLen sCap, x']).run C.P w' = .ok (.slice (some ⟨w'.heap.size, 0, none⟩) (sLen + n) k) { w' with drawn := w'.drawn + 1, heap := w'.heap.push (.cells c' e (0, 0)) } := by
  obtain ⟨k, hk, hch⟩ := run_cap (P := C.P) (sLen + n) sCap e w'
  have hlim : lim = 65536 := rfl
  refine ⟨k, (⟨old⟩ : Array Value) ++ ⟨us⟩ ++ Builtin.zeroCells z.cells (k - (sLen + n)), hk, ?_, ?_, ?_⟩
  · simp [Builtin.zeroCells, hzs]
  · intro i v hv
    have hlt : i < (old ++ us).length := by
      rcases Nat.lt_or_ge i (old ++ us).length with q | q
      · exact q
      · simp [List.getElem?_eq_none q] at hv
    rw [Array.getElem?_append_left (by simpa using hlt)]
    simpa using hv
  · have hint : (xd matches .int _) = false := by cases xd <;> first | rfl | exact absurd rfl (hxd _)
    have hmax : ¬ (((sLen + n : Nat) : Int) > IntKind.i64.max) := by
      have : IntKind.i64.max = 9223372036854775807 := rfl
      omega
    have hcapb : ¬ Builtin.nextslicecap (sLen + n) sCap * inf.bytes > 2 ^ 48 := by
      have := Nat.mul_le_mul (nextcap_le (n := sLen + n) (c := sCap) (by omega)) hb
      have : (2 * (sLen + n) + 768) * lim ≤ (2 * 65536 + 768) * 65536 := Nat.mul_le_mul (by omega) (by omega)
      omega
    have q0 : (#[st, xt] : Array TypeId)[0]? = some st := rfl
    have q1 : (#[st, xt] : Array TypeId)[1]? = some xt := rfl
    have q2 : (#[Value.slice base sLen sCap, x'])[0]? = some (Value.slice base sLen sCap) := rfl
    have q3 : (#[Value.slice base sLen sCap, x'])[1]? = some x' := rfl
    simp only [Builtin.append_, q0, q1, q2, q3, Sem.run_bind, run_underlying ht, run_underlying hx, run_sizeOf' hi, run_typeInfo' hi, Result.andThen_ok, Sem.run_pure, hlen, if_neg hgt, Bool.false_eq_true, if_false, Bool.not_false, if_true]
    have hno : ¬ (((sLen + n : Nat) : Int) > IntKind.i64.max ∧ (False ∨ inf.bytes = 0)) := fun h => hmax h.1
    rw [if_neg hno]
    simp only [Sem.run_bind, run_typeInfo' hi, Result.andThen_ok, if_neg hcapb, hch, run_askRoom, hold, hnew, run_zeroValue hi hz]
    rfl

/-- what 'append' does where there is room -/
theorem append_room {P : Program} {st xt e : TypeId} {xd : TypeDesc} {inf : TypeInfo} (ht : P.underlying st = some (.slice e)) (hx : P.underlying xt = some xd) (hxd : ∀ k, xd ≠ .int k) (hi : P.info? e = some inf)
    {base : Option Addr} {sLen sCap n : Nat} {x' : Value} {ty : TypeId} (hle : sLen + n ≤ sCap) {w' w2' : World} {us : List Value}
    (hlen : ∀ w, (Builtin.lenOf x').run P w = .ok n w)
    (hnew : (Builtin.firstCells inf.size n x').run P w' = .ok ⟨us⟩ w')
    (hst : match base with | some b => (Go.storeCells (b.add (sLen * inf.size)) us).run P w' = .ok () w2' | none => w2' = w') :
    (Builtin.append_ #[st, xt] ty #[.slice base sLen sCap, x']).run P w' = .ok (.slice base (sLen + n) sCap) w2' := by
  have hint : (xd matches .int _) = false := by cases xd <;> first | rfl | exact absurd rfl (hxd _)
  have q0 : (#[st, xt] : Array TypeId)[0]? = some st := rfl
  have q1 : (#[st, xt] : Array TypeId)[1]? = some xt := rfl
  have q2 : (#[Value.slice base sLen sCap, x'])[0]? = some (Value.slice base sLen sCap) := rfl
  have q3 : (#[Value.slice base sLen sCap, x'])[1]? = some x' := rfl
  simp only [Builtin.append_, q0, q1, q2, q3, Sem.run_bind, run_underlying ht, run_underlying hx, run_sizeOf' hi, Result.andThen_ok, Sem.run_pure, hlen, if_pos hle, Bool.false_eq_true, if_false, Bool.not_false, if_true, hnew]
  cases base with
  | none => subst hst; rfl
  | some b => simp only [Sem.run_bind, hst, Result.andThen_ok]; rfl

/-- a run gives a value, and its twin -/
def Gets (C : Ctx) (ρ : Env) (w' : World) (s : Sem Value) (K : VK) : Prop :=
  ∃ v v' ρ2 w2 w2', s.run C.P w' = .ok v' w2' ∧ Env.le ρ ρ2 ∧ VR ρ2 v v' ∧ WR C ρ2 w2 w2' ∧ C.good (K v w2)

theorem AW.getd {w : AW} {r : Nat} {b1 : Blk} (_hr : r < lim) : (w.put r none).push b1 = (w.drop r).push b1 := rfl

theorem pushK_good {o : Obj} {ex : Bool} {w : AW} {K : Nat → AW → Res} {good : Res → Prop} (hfi : Fine good) (h : good (pushK o ex w K)) : w.next < lim ∧ good (K w.next (w.push ⟨o, ex⟩)) := by
  unfold pushK at h
  cases hb : Nat.blt w.next lim with
  | false => rw [hb] at h; exact absurd h hfi.bad
  | true =>
    rw [hb] at h
    simp only [T.putK_eq] at h
    exact ⟨blt_iff.1 hb, h⟩

theorem loadAgg_len {n : Nat} {a : Addr} {w : AW} {v : Value} (h : loadAgg n a w = some v) : ∃ l : List Value, v = .agg ⟨l⟩ ∧ l.length = n := by
  unfold loadAgg at h
  split at h
  · split at h
    · obtain ⟨h1, h2⟩ := runOf_some h
      exact ⟨_, h2, by simp; omega⟩
    · cases h
  · cases h

theorem setRun_get : ∀ (us l : List Value) (m i : Nat), m + us.length ≤ l.length → (setRun l us m)[i]? = if m ≤ i ∧ i < m + us.length then us[i - m]? else l[i]?
  | [], l, m, i, _ => by
    rw [setRun, if_neg (by simp)]
  | u :: us, l, m, i, h => by
    simp only [List.length_cons] at h
    rw [setRun, setRun_get us (l.set m u) (m + 1) i (by simp; omega)]
    by_cases h1 : m + 1 ≤ i ∧ i < m + 1 + us.length
    · rw [if_pos h1, if_pos (by simp; omega)]
      have : i - m = (i - (m + 1)) + 1 := by omega
      rw [this, List.getElem?_cons_succ]
    · rw [if_neg h1]
      by_cases h2 : i = m
      · subst h2
        rw [if_pos (by simp), Nat.sub_self, List.getElem?_set_self (by omega)]
        rfl
      · rw [if_neg (by simp; omega), List.getElem?_set, if_neg (by omega)]

theorem appendK_run {C : Ctx} {ρ : Env} {w : AW} {w' : World} (hfi : Fine C.good) (hw : WR C ρ w w') {st xt e : TypeId} {xd : TypeDesc} {inf : TypeInfo}
    (ht : C.P.underlying st = some (.slice e)) (hxt : C.P.underlying xt = some xd) (hxd : ∀ k, xd ≠ .int k) (hi : C.P.info? e = some inf) {s x s' x' : Value} (hs : VR ρ s s') (hx : VR ρ x x') {ty : TypeId} {K : VK}
    (h : C.good (appendK C.P C.G e inf s x w K)) : Gets C ρ w' (Builtin.append_ #[st, xt] ty #[s', x']) K := by
  unfold appendK at h
  split at h
  · rename_i base sLen sCap n hn
    have hlen := lenV_run (P := C.P) hx hn
    have hle : ∀ b l c, x = .slice b l c → n ≤ l := by
      intro b l c hxe
      subst hxe
      cases hn
      exact Nat.le_refl _
    split at h
    · rename_i new hf
      obtain ⟨us, hus, hrel⟩ := firstF_run hw hx hle hf
      cases hb : (!Nat.beq new.length (Nat.mul n inf.size)) with
      | true => rw [hb] at h; exact absurd h hfi.bad
      | false =>
        rw [hb] at h
        simp only [cond_false] at h
        have hnl : new.length = n * inf.size := nat_beq (by simpa using hb)
        have hul : us.length = n * inf.size := by rw [← hrel.length, hnl]
        cases hroom : Nat.ble (Nat.add sLen n) sCap with
        | true =>
          rw [hroom] at h
          simp only [cond_true] at h
          have hroom : sLen + n ≤ sCap := Nat.le_of_ble_eq_true hroom
          cases base with
          | none =>
            obtain rfl : s' = .slice none sLen sCap := by cases hs; rfl
            exact ⟨.slice none (sLen + n) sCap, _, ρ, w, w', append_room ht hxt hxd hi hroom hlen hus rfl, Env.le.refl _, .nils _ _, hw, h⟩
          | some a =>
            obtain ⟨b, en, rfl, he, hbl, hsp, ho, hlc⟩ := hs.sl_inv
            simp only at h
            obtain ⟨w2, w2', h1, h2, h3⟩ := storeK_run (b := b.add (sLen * inf.size)) (en := en) hfi hw (by rw [add_block]; exact he) (by rw [add_block]; exact hbl) (fun _ => add_spot hsp.2 _) (fun hne => by
              rw [add_off', add_off']
              rcases ho with ho | ⟨h0, _⟩
              · rw [ho]; rfl
              · have : n ≠ 0 := by
                  intro h; subst h
                  rw [Nat.zero_mul] at hnl
                  exact hne (List.length_eq_zero_iff.1 hnl)
                omega) hrel h
            exact ⟨.slice (some a) (sLen + n) sCap, _, ρ, w2, w2', append_room (base := some b) ht hxt hxd hi (by omega) hlen hus h1, Env.le.refl _, .sl a b _ _ en he hbl hsp ho hroom, h2, h3⟩
        | false =>
          rw [hroom] at h
          simp only [cond_false] at h
          have hroom : ¬ sLen + n ≤ sCap := by
            intro hc
            have hroom2 : Nat.ble (sLen + n) sCap = false := hroom
            rw [Nat.ble_eq_true_of_le hc] at hroom2
            cases hroom2
          cases hcnd : (!(Nat.ble (Nat.add sLen n) lim && Nat.ble inf.bytes lim && Nat.blt 0 inf.size && Nat.ble inf.size lim && zeroFits inf)) with
          | true => rw [hcnd] at h; exact absurd h hfi.bad
          | false =>
            rw [hcnd] at h
            simp only [cond_false] at h
            simp only [Bool.not_eq_false', Bool.and_eq_true] at hcnd
            obtain ⟨⟨⟨⟨hn1, hn2⟩, hn3⟩, hn4⟩, hn5⟩ := hcnd
            have hn1 : sLen + n ≤ lim := Nat.le_of_ble_eq_true hn1
            have hn2 := Nat.le_of_ble_eq_true hn2
            have hn3 : 0 < inf.size := blt_iff.1 hn3
            have hn4 := Nat.le_of_ble_eq_true hn4
            unfold zeroFits at hn5
            split at hn5
            · rename_i z hz
              have hzs : z.cells.size = inf.size := nat_beq hn5
              have grow : ∀ (w1 : AW) (hw1 : WR C ρ w1 w') (base' : Option Addr) (sCap' : Nat) (old olds : List Value) (fr : Nat × Nat), s' = .slice base' sLen sCap' → ¬ sLen + n ≤ sCap' →
                  (Builtin.firstCells inf.size sLen (.slice base' sLen sCap')).run C.P { w' with drawn := w'.drawn + 1 } = .ok ⟨olds⟩ { w' with drawn := w'.drawn + 1 } →
                  VRs ρ old olds → old.length = sLen * inf.size →
                  C.good (pushK (.cells ⟨old ++ new⟩ e fr) false w1 fun r w => K (.slice (some ⟨r, 0, none⟩) (sLen + n) (sLen + n)) w) → Gets C ρ w' (Builtin.append_ #[st, xt] ty #[s', x']) K := by
                intro w1 hw1 base' sCap' old olds fr hs' hgt' hold hor hol hgood
                subst hs'
                obtain ⟨hlt, hk⟩ := pushK_good hfi hgood
                obtain ⟨us2, hus2, hrel2⟩ := firstF_run (hw.drawn (w'.drawn + 1)) hx hle hf
                obtain ⟨k, c', hk1, hsz, hpre, hrun⟩ := append_grow (ty := ty) ht hxt hxd hi hz hzs hn1 hn2 hgt' hlen hold hus2
                have hext : sLen + n + (k - (sLen + n)) = k := by omega
                have hv : VR (ρ.ext w1.next ⟨w'.heap.size, k - (sLen + n)⟩) (.slice (some ⟨w1.next, 0, none⟩) (sLen + n) (sLen + n)) (.slice (some ⟨w'.heap.size, 0, none⟩) (sLen + n) k) := by
                  have := VR.sl (ρ := ρ.ext w1.next ⟨w'.heap.size, k - (sLen + n)⟩) ⟨w1.next, 0, none⟩ ⟨w'.heap.size, 0, none⟩ (sLen + n) (sLen + n) ⟨w'.heap.size, k - (sLen + n)⟩ Env.ext_same rfl ⟨rfl, rfl⟩ (.inl rfl) (Nat.le_refl _)
                  simp only [hext] at this
                  exact this
                refine ⟨_, _, _, _, _, hrun, Env.le_ext _ (hw1.top _ (Nat.le_refl _)), hv, (hw1.drawn (w'.drawn + 1)).push ⟨.cells ⟨old ++ new⟩ e fr, false⟩ (.cells c' e (0, 0)) (k - (sLen + n)) (by simp) hlt ?_, hk⟩
                have hol2 := hor.length
                have hul2 := hrel2.length
                refine ⟨c', (0, 0), rfl, ?_, ?_, .inr (.inl rfl)⟩
                · rw [hsz, cellsOf_info hi, ← hol2, ← hul2]
                  simp
                · intro i v hv
                  obtain ⟨u, hu, r⟩ := (VRs.append hor hrel2).get i (v := v) (by simpa using hv)
                  exact ⟨u, hpre i u hu, r⟩
              cases base with
              | none =>
                simp only at h
                cases h0 : Nat.beq sLen 0 with
                | false => rw [h0] at h; exact absurd h hfi.bad
                | true =>
                  rw [h0] at h
                  simp only [cond_true, forceL_eq] at h
                  have h0 : sLen = 0 := nat_beq h0
                  obtain rfl : s' = .slice none sLen sCap := by cases hs; rfl
                  exact grow w hw none sCap [] [] (0, 0) rfl hroom rfl .nil (by rw [h0]; simp) h
              | some a =>
                obtain ⟨b, en, rfl, he, hbl, hsp, ho, hlc⟩ := hs.sl_inv
                simp only at h
                split at h
                · rename_i c e' fr hg
                  split at h
                  · rename_i old hl
                    simp only [forceL_eq] at h
                    obtain ⟨_, _, _, hex, _⟩ := hw.live _ _ _ hg he
                    have hex := hex rfl
                    have hfF : firstF inf.size sLen w (.slice (some a) sLen sCap) = some old.toList := by
                      simp only [firstF]
                      rw [hl]
                    obtain ⟨olds, h1, h2⟩ := firstF_run (hw.drawn (w'.drawn + 1)) hs (fun b l c hh => by cases hh; exact Nat.le_refl _) hfF
                    obtain ⟨l, hl1, hl2⟩ := loadAgg_len hl
                    cases hl1
                    refine grow w hw (some b) (sCap + en.extra) _ olds (0, 0) rfl (by omega) h1 h2 hl2 h
                  · exact absurd h hfi.bad
                · rename_i c e' fr hg
                  cases hc : (Nat.ble C.G a.block && Nat.beq a.off 0 && a.spot.isNone && Nat.beq e' e && Nat.beq c.toList.length (Nat.mul sCap inf.size) && Nat.ble sLen sCap && clearOf fr (Nat.mul sLen inf.size) && new.all single) with
                  | false => rw [hc] at h; exact absurd h hfi.bad
                  | true =>
                    rw [hc] at h
                    simp only [cond_true, forceL_eq, AW.putK_eq] at h
                    simp only [Bool.and_eq_true] at hc
                    obtain ⟨⟨⟨⟨⟨⟨⟨hG, ha0⟩, _⟩, hee⟩, hcl⟩, hsc⟩, hclear⟩, hsing⟩ := hc
                    have hG : C.G ≤ a.block := Nat.le_of_ble_eq_true hG
                    have ha0 : a.off = 0 := nat_beq ha0
                    obtain rfl : e' = e := nat_beq hee
                    have hcl : c.toList.length = sCap * inf.size := nat_beq hcl
                    have hsc : sLen ≤ sCap := Nat.le_of_ble_eq_true hsc
                    have hms : sLen * inf.size ≤ sCap * inf.size := Nat.mul_le_mul_right _ hsc
                    have htake : (c.toList.take (sLen * inf.size)).length = sLen * inf.size := by rw [List.length_take]; omega
                    have hr := AW.get_lt hg
                    have hd : WR C ρ (w.put a.block none) w' := hw.drop _ hr (hw.real he)
                    have hfF : firstF inf.size sLen w (.slice (some a) sLen sCap) = some (c.toList.take (sLen * inf.size)) := by
                      simp only [firstF, loadAgg, hg, hsp.1, runOf, ha0]
                      have : Nat.ble (Nat.add 0 (Nat.mul sLen inf.size)) c.toList.length = true := Nat.ble_eq_true_of_le (by show 0 + sLen * inf.size ≤ _; omega)
                      rw [this]
                      rfl
                    obtain ⟨olds, h1, h2⟩ := firstF_run (hw.drawn (w'.drawn + 1)) hs (fun b l c hh => by cases hh; exact Nat.le_refl _) hfF
                    by_cases hin : sLen + n ≤ sCap + en.extra
                    · obtain ⟨hlt, hk⟩ := pushK_good hfi h
                      obtain ⟨o', ho', hor, _, _⟩ := hw.live _ _ _ hg he
                      obtain ⟨c', fr', rfl, hsz, hcs, hF⟩ := hor
                      have hsz : c'.size = sCap * inf.size + en.extra * inf.size := by rw [hsz, cellsOf_info hi, ← hcl]; simp
                      have hboff : b.off = 0 := by
                        rcases ho with ho | ⟨_, _⟩
                        · rw [ho, ha0]
                        · omega
                      have hup : (sLen + n) * inf.size ≤ (sCap + en.extra) * inf.size := Nat.mul_le_mul_right _ hin
                      rw [Nat.add_mul, Nat.add_mul] at hup
                      have hlow : (sLen + n) * inf.size ≤ lim * lim := Nat.mul_le_mul hn1 hn4
                      rw [Nat.add_mul] at hlow
                      have hlimv : lim * lim = 4294967296 := rfl
                      have hsto := storeCells_run (P := C.P) (b := b.add (sLen * inf.size)) (e := e') (fr := fr') (add_spot hsp.2 _) us 0 w' c' (by rw [add_block, hbl]; exact ho')
                        (single_plain hrel hsing) (by rw [add_off']; omega) (fr_clear hF (by rw [add_off']; omega) (by
                            rw [add_off']
                            unfold clearOf at hclear
                            simp only [Bool.or_eq_true, Bool.and_eq_true] at hclear
                            rcases hclear with hclear | ⟨hm1, _⟩
                            · exact .inr (.inl (by have := Nat.le_of_ble_eq_true hclear; have : fr.2 ≤ sLen * inf.size := this; omega))
                            · refine .inr (.inr ?_)
                              have := nat_beq hm1
                              have : mark.1 = 4611686018427387904 := rfl
                              omega))
                      have hrun := append_room (base := some b) (ty := ty) ht hxt hxd hi hin hlen hus hsto
                      have hext : sLen + n + (sCap + en.extra - (sLen + n)) = sCap + en.extra := by omega
                      have hid : (b.add (sLen * inf.size)).block = en.id := by rw [add_block, hbl]
                      have hof : (b.add (sLen * inf.size)).off + 0 = sLen * inf.size := by rw [add_off']; omega
                      rw [hid, hof] at hrun
                      have hv : VR (ρ.ext w.next ⟨en.id, sCap + en.extra - (sLen + n)⟩) (.slice (some ⟨w.next, 0, none⟩) (sLen + n) (sLen + n)) (.slice (some b) (sLen + n) (sCap + en.extra)) := by
                        have := VR.sl (ρ := ρ.ext w.next ⟨en.id, sCap + en.extra - (sLen + n)⟩) ⟨w.next, 0, none⟩ b (sLen + n) (sLen + n) ⟨en.id, sCap + en.extra - (sLen + n)⟩ Env.ext_same hbl ⟨rfl, hsp.2⟩ (.inl hboff) (Nat.le_refl _)
                        simp only [hext] at this
                        exact this
                      refine ⟨_, _, _, _, _, hrun, Env.le_ext _ (hw.top _ (Nat.le_refl _)), hv, hw.rename hg he hG (b1 := ⟨.cells ⟨c.toList.take (sLen * inf.size) ++ new⟩ e' fr, false⟩) (sCap + en.extra - (sLen + n)) hlt ?_ (by simp), hk⟩
                      refine ⟨_, fr', rfl, ?_, ?_, ?_⟩
                      · rw [cellsOf_info hi]
                        have : (sCap + en.extra - (sLen + n)) * inf.size = (sCap + en.extra) * inf.size - (sLen + n) * inf.size := Nat.sub_mul _ _ _
                        rw [Nat.add_mul, Nat.add_mul] at this
                        simp only [List.size_toArray, setRun_length, List.length_append, htake, hnl, Array.length_toList, hsz, this]
                        omega
                      · intro i v hv
                        simp only [List.getElem?_toArray] at hv ⊢
                        rw [setRun_get _ _ _ _ (by simp; omega)]
                        rw [List.getElem?_append, htake] at hv
                        split at hv
                        · rename_i hi1
                          rw [if_neg (by omega)]
                          rw [List.getElem?_take, if_pos hi1] at hv
                          obtain ⟨u, hu, r⟩ := hcs i v (by simpa using hv)
                          exact ⟨u, by simpa using hu, r.mono (Env.le.refl _)⟩
                        · rename_i hi1
                          obtain ⟨u, hu, r⟩ := hrel.get _ hv
                          have : i - sLen * inf.size < us.length := by
                            rcases Nat.lt_or_ge (i - sLen * inf.size) us.length with q | q
                            · exact q
                            · simp [List.getElem?_eq_none q] at hu
                          rw [if_pos (by omega)]
                          exact ⟨u, hu, r⟩
                      · simpa [setRun_length] using hF
                    · exact grow _ hd (some b) (sCap + en.extra) _ olds fr rfl hin h1 h2 htake h
                · exact absurd h hfi.bad
            · cases hn5
    · exact absurd h hfi.bad
  · exact absurd h hfi.bad
end Go.Ab
