/- Conversions that make or read memory. -/
import Derived.Test.YtcjdjklggnjlbaaDoorEvK
import Derived.Lib.UnsafeStr
import Derived.Laws.BytesString
namespace Go.Ab
open Go.RowKit

theorem run_shape_cells {P : Program} {r : Nat} {c : Array Value} {e : TypeId} {fr : Nat × Nat} {w : World} (h : w.heap[r]? = some (.cells c e fr)) : (Go.shape r).run P w = .ok (some (e, c.size)) w := by
  simp [Go.shape, Sem.run, World.shape?, h]

theorem run_prog {P : Program} (w : World) : (Go.program).run P w = .ok P w := rfl

theorem run_viewAt {P : Program} {r : Nat} {c : Array Value} {e : TypeId} {fr : Nat × Nat} {w : World} (h : w.heap[r]? = some (.cells c e fr)) : (Go.viewAt r).run P w = .ok none w := by
  simp only [Go.viewAt, Sem.run_bind, run_shape_cells h, Result.andThen_ok]
  rfl

theorem run_seenAt {P : Program} {a : Addr} {c : Array Value} {e : TypeId} {fr : Nat × Nat} {w : World} (h : w.heap[a.block]? = some (.cells c e fr)) : (Conv.seenAt a).run P w = .ok a w := by
  simp only [Conv.seenAt, Sem.run_bind, run_viewAt h, Result.andThen_ok]
  rfl

theorem run_cellsIn {P : Program} {r : Nat} {c : Array Value} {e : TypeId} {fr : Nat × Nat} {w : World} (h : w.heap[r]? = some (.cells c e fr)) : (Go.cellsIn r).run P w = .ok (some c.size) w := by
  simp only [Go.cellsIn, Sem.run_bind, run_shape_cells h, Result.andThen_ok]
  rfl

/-- the cells that a pointer leads to -/
theorem ptr_cells {C : Ctx} {ρ : Env} {w : AW} {w' : World} (hw : WR C ρ w w') {a b : Addr} (h : AR ρ a b) {c : Array Value} {e : TypeId} {fr : Nat × Nat} {x : Bool} (hg : w.get a.block = some ⟨.cells c e fr, x⟩) :
    b.off = a.off ∧ b.spot = a.spot ∧ ∃ c' fr', w'.heap[b.block]? = some (.cells c' e fr') ∧ c.size ≤ c'.size ∧ (x = true → c'.size = c.size) := by
  obtain ⟨en, he, rfl⟩ := h
  obtain ⟨o', ho', hor, hex, _⟩ := hw.live _ _ _ hg he
  obtain ⟨c', fr', rfl, hsz, _, _⟩ := hor
  refine ⟨rfl, rfl, c', fr', ho', by omega, fun hx => ?_⟩
  rw [hsz, hex hx]
  simp

theorem toUnsafe_run {C : Ctx} {ρ : Env} {w : AW} {w' : World} (hw : WR C ρ w w') {s t u : TypeId} (hs : C.P.underlying s = some (.pointer u)) (ht : C.P.underlying t = some .unsafePointer) {x x' v : Value} (hx : VR ρ x x')
    (h : toUnsafe C.P u x w = some v) : ∃ v', (convert s t x').run C.P w' = .ok v' w' ∧ VR ρ v v' := by
  unfold toUnsafe at h
  split at h
  · cases h
    obtain rfl : x' = .pointer none := by cases hx; rfl
    refine ⟨.pointer none, ?_, .nilp⟩
    simp only [convert, Sem.run_bind, run_underlying hs, run_underlying ht, Result.andThen_ok, Conv.unsafePointer]
    rfl
  · rename_i a
    obtain ⟨b, rfl, hab⟩ := hx.ptr_inv
    split at h
    · rename_i c e fr xx hg
      cases hc : (Nat.blt a.off c.toList.length && Nat.blt 0 (sizeIs C.P u)) with
      | false => rw [hc] at h; cases h
      | true =>
        rw [hc] at h
        cases h
        rw [Bool.and_eq_true] at hc
        have h1 : a.off < c.size := by simpa using blt_iff.1 hc.1
        obtain ⟨inf, hinf, hne⟩ := sizeIs_pos (blt_iff.1 hc.2)
        obtain ⟨hoff, hsp, c', fr', hh, hsz, _⟩ := ptr_cells hw hab hg
        refine ⟨.pointer (some b), ?_, .ptr _ _ hab⟩
        have hno : decide (b.off ≥ c'.size) = false := by simp; omega
        simp only [convert, Sem.run_bind, run_underlying hs, run_underlying ht, Result.andThen_ok, Conv.unsafePointer, run_seenAt hh, run_cellsIn hh, run_sizeOf' hinf, hno, Bool.false_and, Bool.or_false, decide_eq_true_eq, hne, if_false]
        rfl
    · cases h
  · cases h

theorem fromUnsafe_run {C : Ctx} {ρ : Env} {w : AW} {w' : World} (hw : WR C ρ w w') {s t u : TypeId} (hs : C.P.underlying s = some .unsafePointer) (ht : C.P.underlying t = some (.pointer u)) {x x' v : Value} (hx : VR ρ x x')
    (h : fromUnsafe C.P u x w = some v) : ∃ v', (convert s t x').run C.P w' = .ok v' w' ∧ VR ρ v v' := by
  unfold fromUnsafe at h
  split at h
  · cases h
    obtain rfl : x' = .pointer none := by cases hx; rfl
    refine ⟨.pointer none, ?_, .nilp⟩
    simp only [convert, Sem.run_bind, run_underlying hs, run_underlying ht, Result.andThen_ok, Conv.unsafePointer]
    rfl
  · rename_i a
    obtain ⟨b, rfl, hab⟩ := hx.ptr_inv
    split at h
    · rename_i c e fr hg
      cases hc : (liesAt C.P C.P.depth e (Nat.div c.toList.length (C.P.cellsOf e)) a.off u 1 && Nat.blt 0 (sizeIs C.P u)) with
      | false => rw [hc] at h; cases h
      | true =>
        rw [hc] at h
        cases h
        rw [Bool.and_eq_true] at hc
        obtain ⟨inf, hinf, hne⟩ := sizeIs_pos (blt_iff.1 hc.2)
        obtain ⟨hoff, hsp, c', fr', hh, hsz, hex⟩ := ptr_cells hw hab hg
        have hex := hex rfl
        have hlies : liesAt C.P C.P.depth e (c'.size / C.P.cellsOf e) b.off u 1 = true := by
          rw [hex, hoff]
          have := hc.1
          rw [Array.length_toList] at this
          exact this
        refine ⟨.pointer (some b), ?_, .ptr _ _ hab⟩
        have hva : (variablesAt b u 1).run C.P w' = .ok true w' := by
          simp only [variablesAt, Sem.run_bind, run_prog, run_shape_cells hh, Result.andThen_ok, hlies]
          rfl
        simp only [convert, Sem.run_bind, run_underlying hs, run_underlying ht, Result.andThen_ok, Conv.unsafePointer, run_seenAt hh, run_sizeOf' hinf, hva, Bool.or_true, if_true]
        rfl
    · cases h
  · cases h

theorem run_freeze {P : Program} (a : Addr) (n : Nat) (w : World) : (Go.freeze a n).run P w = .ok () (w.freeze a n) := rfl

/-- '[]byte(s)' -/
theorem bytes_run {C : Ctx} {ρ : Env} {w : AW} {w' : World} (hfi : Fine C.good) (hw : WR C ρ w w') {s t e : TypeId} {inf : TypeInfo} (hs : C.P.underlying s = some .string) (ht : C.P.underlying t = some (.slice e)) (he : C.P.underlying e = some (.int .u8)) (hi : C.P.info? e = some inf)
    {b : ByteArray} {K : VK} (h : C.good (bytesK e inf b w K)) : Gets C ρ w' (convert s t (.string b)) K := by
  unfold bytesK at h
  cases hc : Nat.beq inf.size 1 with
  | false => rw [hc] at h; exact absurd h hfi.bad
  | true =>
    rw [hc] at h
    simp only [cond_true, forceL_eq] at h
    have hsz : inf.size = 1 := nat_beq hc
    obtain ⟨hlt, hk⟩ := pushK_good hfi h
    obtain ⟨k, hk1, hch⟩ := run_cap (P := C.P) b.size 0 e w'
    generalize hel : ((b.data.map fun x => Value.int .u8 x.toNat) ++ Array.replicate (k - b.size) (Value.int .u8 0)) = el
    have hels : el.size = k := by rw [← hel]; simp; have : b.data.size = b.size := rfl; omega
    have hrun : (convert s t (.string b)).run C.P w' = .ok (.slice (some ⟨w'.heap.size, 0, none⟩) b.size k) { w' with drawn := w'.drawn + 1, heap := w'.heap.push (.cells el e (k, k + 1)) } := by
      simp only [convert, Sem.run_bind, run_underlying hs, run_underlying ht, run_underlying he, Result.andThen_ok, Conv.stringToBytes, hch, hel, run_newRow]
      have hsh : ∀ (fr : Nat × Nat), ({ w' with drawn := w'.drawn + 1, heap := w'.heap.push (.cells el e fr) } : World).heap[w'.heap.size]? = some (.cells el e fr) := fun fr => by simp
      simp only [markStringish, Sem.run_bind, run_shape_cells (hsh (0, 0)), Result.andThen_ok, run_freeze, Sem.run_pure]
      congr 1
      simp only [World.freeze]
      rw [if_neg (by omega)]
      congr 1
      apply Array.ext_getElem?
      intro i
      simp only [Array.getElem?_modify, Array.getElem?_push, hels]
      by_cases hi : i = w'.heap.size
      · subst hi; simp
      · rw [if_neg (fun h => hi h.symm), if_neg hi, if_neg hi]
    have hext : b.size + (k - b.size) = k := by omega
    have hbl : b.data.toList.length = b.size := rfl
    have hv : VR (ρ.ext w.next ⟨w'.heap.size, k - b.size⟩) (.slice (some ⟨w.next, 0, none⟩) b.data.toList.length b.data.toList.length) (.slice (some ⟨w'.heap.size, 0, none⟩) b.size k) := by
      have := VR.sl (ρ := ρ.ext w.next ⟨w'.heap.size, k - b.size⟩) ⟨w.next, 0, none⟩ ⟨w'.heap.size, 0, none⟩ b.size b.size ⟨w'.heap.size, k - b.size⟩ Env.ext_same rfl ⟨rfl, rfl⟩ (.inl rfl) (Nat.le_refl _)
      simp only [hext] at this
      rw [hbl]
      exact this
    refine ⟨_, _, _, _, _, hrun, Env.le_ext _ (hw.top _ (Nat.le_refl _)), hv, (hw.drawn (w'.drawn + 1)).push ⟨.cells ⟨b.data.toList.map fun x => Value.int .u8 x.toNat⟩ e mark, false⟩ (.cells el e (k, k + 1)) (k - b.size) (by simp) hlt ?_, hk⟩
    refine ⟨el, _, rfl, ?_, ?_, .inr (.inr ⟨rfl, by rw [hels]⟩)⟩
    · rw [cellsOf_info hi, hsz, hels]
      simp
      have : b.data.size = b.size := rfl
      omega
    · intro i v hv
      have hv : (b.data.toList.map fun x => Value.int .u8 x.toNat)[i]? = some v := by simpa using hv
      have hlt : i < b.data.size := by
        rcases Nat.lt_or_ge i b.data.size with q | q
        · exact q
        · simp [Array.getElem?_eq_none q] at hv
      rw [← hel, Array.getElem?_append_left (by simpa using hlt)]
      obtain ⟨x, _, rfl⟩ : ∃ x, b.data.toList[i]? = some x ∧ Value.int .u8 x.toNat = v := by
        rw [List.getElem?_map] at hv
        cases hq : b.data.toList[i]? with
        | none => rw [hq] at hv; cases hv
        | some x => rw [hq] at hv; exact ⟨x, rfl, Option.some.inj hv⟩
      exact ⟨_, by simpa using hv, .int _ _⟩

theorem asByte_some {v : Value} {b : UInt8} (h : asByte v = some b) : ∃ n : Nat, v = .int .u8 (.ofNat n) ∧ b = UInt8.ofNat n ∧ n < 256 := by
  unfold asByte at h
  split at h
  · rename_i n
    cases hc : Nat.blt n 256 with
    | false => rw [hc] at h; cases h
    | true => rw [hc] at h; cases h; exact ⟨_, rfl, rfl, blt_iff.1 hc⟩
  · cases h

theorem asBytes_some : ∀ {l : List Value} {r : List UInt8}, asBytes l = some r → ∃ ns : List Nat, l = ns.map (fun n => Value.int .u8 (.ofNat n)) ∧ r = ns.map UInt8.ofNat ∧ ∀ n ∈ ns, n < 256
  | [], r, h => by cases h; exact ⟨[], rfl, rfl, by simp⟩
  | v :: l, r, h => by
    unfold asBytes at h
    split at h
    · rename_i b r1 h1 h2
      cases h
      obtain ⟨n, rfl, rfl, hn⟩ := asByte_some h1
      obtain ⟨ns, rfl, rfl, hns⟩ := asBytes_some h2
      exact ⟨n :: ns, rfl, rfl, by simpa using ⟨hn, hns⟩⟩
    · cases h

theorem VRs.ints_inv {ρ : Env} : ∀ {ns : List Nat} {l : List Value}, VRs ρ (ns.map (fun n => Value.int .u8 (.ofNat n))) l → l = ns.map (fun n => Value.int .u8 (.ofNat n))
  | [], _, h => by cases h; rfl
  | n :: ns, _, h => by
    cases h with
    | cons _ u _ us r t => rw [r.int_inv, VRs.ints_inv t]; rfl

theorem foldl_push (ns : List Nat) : ∀ (r : ByteArray), (ns.map Int.ofNat).foldl (fun (r : ByteArray) n => r.push (UInt8.ofNat n.toNat)) r = ⟨r.data ++ (ns.map UInt8.ofNat).toArray⟩ := by
  induction ns with
  | nil => intro r; simp
  | cons n ns ih =>
    intro r
    rw [List.map_cons, List.foldl_cons, ih]
    apply ByteArray.ext
    simp [ByteArray.push]

theorem toStr_run {C : Ctx} {ρ : Env} {w : AW} {w' : World} (hw : WR C ρ w w') {s t e : TypeId} (hs : C.P.underlying s = some (.slice e)) (ht : C.P.underlying t = some .string) (he : C.P.underlying e = some (.int .u8)) {x x' v : Value} (hx : VR ρ x x')
    (h : toStr w x = some v) : (convert s t x').run C.P w' = .ok v w' ∧ VR ρ v v := by
  have key : ∀ y, (Conv.bytesToString y).run C.P w' = .ok v w' → (∃ b l c, y = .slice b l c) → (convert s t y).run C.P w' = .ok v w' := by
    intro y hy hsl
    obtain ⟨b, l, c, rfl⟩ := hsl
    simp only [convert, Sem.run_bind, run_underlying hs, run_underlying ht, Result.andThen_ok, run_underlying he]
    exact hy
  unfold toStr at h
  split at h
  · cases h
    have : ∃ l' c', x' = .slice none l' c' := by cases hx; exact ⟨_, _, rfl⟩
    obtain ⟨l', c', rfl⟩ := this
    exact ⟨key _ rfl ⟨_, _, _, rfl⟩, .string _⟩
  · rename_i a n c
    split at h
    · rename_i cs hl
      split at h
      · rename_i l hb
        cases h
        obtain ⟨ns, h1, h2, _⟩ := asBytes_some hb
        have hf : firstF 1 n w (.slice (some a) n c) = some cs.toList := by
          simp only [firstF]
          have : loadAgg (Nat.mul n 1) a w = some (.agg cs) := by
            have e1 : Nat.mul n 1 = n := Nat.mul_one n
            rw [e1]; exact hl
          rw [this]
        obtain ⟨us, h3, h4⟩ := firstF_run hw hx (fun b l c hh => by cases hh; exact Nat.le_refl _) hf
        obtain ⟨b, en, rfl, _⟩ := hx.sl_inv
        rw [h1] at h4
        have h5 := h4.ints_inv
        have h6 : (Go.loadCells b n).run C.P w' = .ok ((ns.map Int.ofNat).map (Value.int .u8)).toArray w' := by
          have h3 : (Go.loadCells b (n * 1)).run C.P w' = .ok ⟨us⟩ w' := h3
          rw [Nat.mul_one] at h3
          rw [h3, h5, List.map_map]
          rfl
        refine ⟨key _ ?_ ⟨_, _, _, rfl⟩, .string _⟩
        rw [run_bytesToString w' b n _ _ h6, foldl_push, h2]
        congr 2
        apply ByteArray.ext
        simp
      · cases h
    · cases h
  · cases h

theorem unsafeString_run {C : Ctx} {ρ : Env} {w : AW} {w' : World} (hfi : Fine C.good) (hw : WR C ρ w w') {pt it ty u : TypeId} (hp : C.P.underlying pt = some (.pointer u)) {p n p' n' : Value} (hpr : VR ρ p p') (hn : VR ρ n n') {K : VK}
    (h : C.good (unsafeStringK C.P C.G u p n w K)) : Gets C ρ w' (Builtin.unsafeString_ #[pt, it] ty #[p', n']) K := by
  unfold unsafeStringK at h
  split at h
  · rename_i p n
    obtain rfl := hn.int_inv
    have hp' : ∃ q, p' = .pointer q := by cases hpr <;> exact ⟨_, rfl⟩
    obtain ⟨q, rfl⟩ := hp'
    cases h0 : Nat.beq n 0 with
    | true =>
      rw [h0] at h
      obtain rfl : n = 0 := nat_beq h0
      exact ⟨_, _, ρ, w, w', Lib.run_unsafeString_none w' pt it ty q, Env.le.refl _, .string _, hw, h⟩
    | false =>
      rw [h0] at h
      simp only [cond_false] at h
      split at h
      · exact absurd h hfi.bad
      · rename_i a
        obtain ⟨b, hb, hab⟩ := hpr.ptr_inv
        cases hb
        split at h
        · rename_i c e lo hi x hg
          cases hc : (Nat.ble C.G a.block && Nat.ble n lim && Nat.beq u e && a.spot.isNone && Nat.beq a.off 0 && Nat.beq (C.P.cellsOf e) 1 && Nat.ble n c.toList.length && Nat.blt hi mark.1 && (Nat.beq lo hi || Nat.ble hi n)) with
          | false => rw [hc] at h; exact absurd h hfi.bad
          | true =>
            rw [hc] at h
            simp only [cond_true] at h
            simp only [Bool.and_eq_true, Bool.or_eq_true] at hc
            obtain ⟨⟨⟨⟨⟨⟨⟨⟨hG, hnl⟩, hue⟩, hsp⟩, hof⟩, hco⟩, hle⟩, hhi⟩, hfr⟩ := hc
            have hG : C.G ≤ a.block := Nat.le_of_ble_eq_true hG
            have hnl := Nat.le_of_ble_eq_true hnl
            obtain rfl : u = e := nat_beq hue
            have hsp : a.spot = none := by simpa using hsp
            have hof : a.off = 0 := nat_beq hof
            have hco := nat_beq hco
            have hle : n ≤ c.toList.length := Nat.le_of_ble_eq_true hle
            have hhi : hi < mark.1 := blt_iff.1 hhi
            split at h
            · rename_i l hl
              simp only [forceL_eq, AW.putK_eq] at h
              obtain ⟨ns, h1, h2, hns⟩ := asBytes_some hl
              obtain ⟨en, he, rfl⟩ := hab
              obtain ⟨o', ho', hor, hex, hB⟩ := hw.live _ _ _ hg he
              obtain ⟨c', fr', rfl, hsz, hcs, hF⟩ := hor
              have hnn : ns.length = n := by
                have : (c.toList.take n).length = ns.length := by rw [h1]; simp
                rw [List.length_take] at this
                omega
              have hll : l.length = n := by rw [h2]; simp [hnn]
              have hn0 : n ≠ 0 := by intro hh; subst hh; cases h0
              have hrow := Lib.run_unsafeString_row (P := C.P) w' pt it ty u hp hco en.id c'.size (by simp [World.shape?, ho']) l (by intro hh; subst hh; simp at hll; omega) (by simp at hle; omega) (by have : lim = 65536 := rfl; omega)
                (by
                  intro j y hy
                  have hadd : (⟨en.id, 0, none⟩ : Addr).add j = ⟨en.id, j, none⟩ := by rw [add_off]; simp
                  rw [hadd, World.cell?_of (a := ⟨en.id, j, none⟩) ho' rfl]
                  rw [h2, List.getElem?_map] at hy
                  cases hq : ns[j]? with
                  | none => rw [hq] at hy; cases hy
                  | some m =>
                    rw [hq] at hy
                    have hy : UInt8.ofNat m = y := Option.some.inj hy
                    have hj : j < n := by
                      rcases Nat.lt_or_ge j ns.length with q | q
                      · omega
                      · simp [List.getElem?_eq_none q] at hq
                    have hcj : c[j]? = some (.int .u8 (.ofNat m)) := by
                      have : (c.toList.take n)[j]? = some (.int .u8 (.ofNat m)) := by rw [h1, List.getElem?_map, hq]; rfl
                      rw [List.getElem?_take, if_pos hj] at this
                      simpa using this
                    obtain ⟨v, hv, r⟩ := hcs j _ hcj
                    rw [hv, r.int_inv, ← hy]
                    have hm : m < 256 := hns m (List.mem_of_getElem? hq)
                    simp [Nat.mod_eq_of_lt hm])
              have hfz : w'.freeze ⟨en.id, 0, none⟩ l.length = { w' with heap := w'.heap.setIfInBounds en.id (.cells c' u (0, n)) } := by
                simp only [World.freeze]
                rw [if_neg (by omega)]
                congr 1
                apply Array.ext_getElem?
                intro i
                simp only [Array.getElem?_modify, Array.getElem?_setIfInBounds]
                by_cases hi2 : en.id = i
                · subst hi2
                  have hlt := heap_lt ho'
                  have hg' : w'.heap[en.id] = .cells c' u fr' := by
                    have := ho'
                    rw [Array.getElem?_eq_getElem hlt] at this
                    exact Option.some.inj this
                  obtain ⟨lo', hi'⟩ := fr'
                  simp only [if_true, hlt, hg', Array.getElem?_eq_getElem hlt, Option.map_some]
                  congr 2
                  have hfr' : lo' = hi' ∨ (hi' ≤ n) := by
                    rcases hF with hF | hF | ⟨hF, _⟩
                    · cases hF
                      rcases hfr with hfr | hfr
                      · exact .inl (nat_beq hfr)
                      · exact .inr (Nat.le_of_ble_eq_true hfr)
                    · cases hF; exact .inl rfl
                    · cases hF
                      exact absurd hhi (by decide)
                  by_cases he2 : lo' = hi'
                  · simp [he2, hll]
                  · have : hi' ≤ n := hfr'.resolve_left he2
                    simp [he2, hll]
                    omega
                · simp [hi2]
              rw [hfz] at hrow
              have hint : (Value.int .i64 (.ofNat n)) = .int .i64 l.length := by rw [hll]; rfl
              rw [hint, hof, hsp]
              refine ⟨_, _, ρ, _, _, hrow, Env.le.refl _, ?_, hw.write hg he hG (b1 := ⟨.cells c u (0, n), x⟩) ⟨c', _, rfl, hsz, hcs, .inl rfl⟩ hex, h⟩
              have : (⟨⟨l⟩⟩ : ByteArray) = ⟨l.toArray⟩ := rfl
              rw [this]
              exact .string _
            · exact absurd h hfi.bad
        · exact absurd h hfi.bad
  · exact absurd h hfi.bad
end Go.Ab
