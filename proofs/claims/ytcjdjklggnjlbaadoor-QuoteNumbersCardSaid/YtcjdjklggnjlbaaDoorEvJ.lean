/- Stores of rows of cells. -/
import Derived.Test.YtcjdjklggnjlbaaDoorEvI
namespace Go.Ab
open Go.RowKit

theorem setCell_eq {w : World} {b : Addr} {c : Array Value} {e : TypeId} {fr : Nat × Nat} (h : w.heap[b.block]? = some (.cells c e fr)) (hs : b.spot = none) (u : Value) :
    w.setCell b u = { w with heap := w.heap.setIfInBounds b.block (.cells (c.setIfInBounds b.off u) e fr) } := by
  simp only [World.setCell]
  congr 1
  apply Array.ext_getElem?
  intro i
  simp only [Array.getElem?_modify, Array.getElem?_setIfInBounds]
  by_cases hi : b.block = i
  · subst hi
    have hlt := heap_lt h
    have hg' : w.heap[b.block] = .cells c e fr := by
      have := h
      rw [Array.getElem?_eq_getElem hlt] at this
      exact Option.some.inj this
    simp [hs, hlt, hg']
  · simp [hi]

theorem set_self {α : Type} {a : Array α} {i : Nat} {x : α} (h : a[i]? = some x) : a.setIfInBounds i x = a := by
  apply Array.ext_getElem?
  intro j
  rw [Array.getElem?_setIfInBounds]
  split
  · rename_i hj
    subst hj
    split
    · exact h.symm
    · rename_i hn; simp [Array.getElem?_eq_none (by omega : a.size ≤ i)] at h
  · rfl

theorem set_set {α : Type} {a : Array α} {i : Nat} (x y : α) : (a.setIfInBounds i x).setIfInBounds i y = a.setIfInBounds i y := by
  apply Array.ext_getElem?
  intro j
  simp only [Array.getElem?_setIfInBounds, Array.size_setIfInBounds]
  split
  · rfl
  · rfl

def plain (u : Value) : Prop := (∀ c, u ≠ .agg c) ∧ (∀ c, u ≠ .tuple c)

theorem storeCells_run {P : Program} {b : Addr} {e : TypeId} {fr : Nat × Nat} (hs : b.spot = none) : ∀ (us : List Value) (i : Nat) (w : World) (c : Array Value),
    w.heap[b.block]? = some (.cells c e fr) → (∀ u ∈ us, plain u) → b.off + i + us.length ≤ c.size → (∀ j, b.off + i ≤ j → j < b.off + i + us.length → inRange fr j = false) →
    (Go.storeCells b us i).run P w = .ok () { w with heap := w.heap.setIfInBounds b.block (.cells ⟨setRun c.toList us (b.off + i)⟩ e fr) }
  | [], i, w, c, h, _, _, _ => by
    show Result.ok () w = _
    simp only [setRun]
    rw [set_self h]
  | u :: us, i, w, c, h, hp, hl, hf => by
    simp only [List.length_cons] at hl hf
    have hadd : b.add i = ⟨b.block, b.off + i, none⟩ := by
      have := add_off b.block b.off i
      cases b; simp_all
    have hcell : w.cell? (b.add i) = some (c[b.off + i]'(by omega)) := by
      rw [hadd, World.cell?_of (a := ⟨b.block, b.off + i, none⟩) h rfl]; simp
    have hfroz : w.frozen? (b.add i) = false := by
      have := hf (b.off + i) (Nat.le_refl _) (by omega)
      obtain ⟨lo, hi⟩ := fr
      rw [hadd]
      simp only [World.frozen?, h]
      cases hq : (decide (lo ≤ b.off + i) && decide (b.off + i < hi)) with
      | false => rfl
      | true =>
        simp only [Bool.and_eq_true, decide_eq_true_eq] at hq
        have : inRange (lo, hi) (b.off + i) = true := by simp [inRange, hq.1, hq.2]
        simp_all
    obtain ⟨h1, h2⟩ := hp u (by simp)
    have hstep : (Go.store (b.add i) u).run P w = .ok () (w.setCell (b.add i) u) := run_store h1 h2 hcell hfroz
    simp only [Go.storeCells, Sem.run_bind, hstep, Result.andThen_ok]
    have hb2 : w.heap[(b.add i).block]? = some (.cells c e fr) := by rw [hadd]; exact h
    rw [setCell_eq hb2 (by rw [hadd])]
    have hlt := heap_lt h
    have h' : ({ w with heap := w.heap.setIfInBounds (b.add i).block (.cells (c.setIfInBounds (b.add i).off u) e fr) } : World).heap[b.block]? = some (.cells (c.setIfInBounds (b.off + i) u) e fr) := by
      rw [hadd]
      simp [hlt]
    rw [storeCells_run hs us (i + 1) _ _ h' (fun v hv => hp v (by simp [hv])) (by simp; omega) (fun j h1 h2 => hf j (by omega) (by omega))]
    congr 1
    simp only [hadd, set_set, setRun, Array.toList_setIfInBounds]
    rfl

def CR (ρ : Env) (c c' : List Value) : Prop := ∀ (i : Nat) (v : Value), c[i]? = some v → ∃ u, c'[i]? = some u ∧ VR ρ v u

theorem CR.set {ρ : Env} {c c' : List Value} (h : CR ρ c c') (i : Nat) {v u : Value} (hv : VR ρ v u) : CR ρ (c.set i v) (c'.set i u) := by
  intro j x hx
  rw [List.getElem?_set] at hx ⊢
  split at hx
  · rename_i hi
    subst hi
    split at hx
    · rename_i hlt
      cases hx
      obtain ⟨u', hu', _⟩ := h i _ (List.getElem?_eq_getElem hlt)
      have : i < c'.length := by
        rcases Nat.lt_or_ge i c'.length with k | k
        · exact k
        · simp [List.getElem?_eq_none k] at hu'
      exact ⟨u, by simp [this], hv⟩
    · cases hx
  · rename_i hi
    rw [if_neg hi]
    exact h j x hx

theorem CR.run {ρ : Env} {vs us : List Value} (hv : VRs ρ vs us) : ∀ (c c' : List Value) (i : Nat), CR ρ c c' → CR ρ (setRun c vs i) (setRun c' us i) := by
  induction vs generalizing us with
  | nil => cases hv; exact fun c c' i h => h
  | cons v vs ih =>
    cases hv with
    | cons _ u _ us r t => exact fun c c' i h => ih t _ _ _ (h.set i r)

theorem setRun_length : ∀ (vs c : List Value) (i : Nat), (setRun c vs i).length = c.length
  | [], _, _ => rfl
  | v :: vs, c, i => by rw [setRun, setRun_length vs]; simp

theorem fr_clear {fr fr' : Nat × Nat} {n : Nat} (hf : FR fr fr' n) {lo hi : Nat} (hhi : hi ≤ n) (h : fr.2 ≤ fr.1 ∨ fr.2 ≤ lo ∨ hi ≤ fr.1) : ∀ j, lo ≤ j → j < hi → inRange fr' j = false := by
  intro j h1 h2
  have key : ¬ (fr'.1 ≤ j ∧ j < fr'.2) := by
    rcases hf with rfl | rfl | ⟨rfl, rfl⟩
    · omega
    · simp
    · simp only; omega
  cases hq : inRange fr' j with
  | false => rfl
  | true => simp [inRange] at hq; omega

theorem single_plain {ρ : Env} {vs us : List Value} (h : VRs ρ vs us) (hs : vs.all single = true) : ∀ u ∈ us, plain u := by
  induction vs generalizing us with
  | nil => cases h; simp
  | cons v vs ih =>
    cases h with
    | cons _ u _ us r t =>
      simp only [List.all_cons, Bool.and_eq_true] at hs
      intro x hx
      cases hx with
      | head => exact single_of r hs.1
      | tail _ hx => exact ih t hs.2 x hx

theorem storeK_run {C : Ctx} {ρ : Env} {w : AW} {w' : World} (hfi : Fine C.good) (hw : WR C ρ w w') {a b : Addr} {en : Ent} (he : ρ a.block = some en) (hb : b.block = en.id) (hbs : a.spot = none → b.spot = none)
    {vs us : List Value} (hoff : vs ≠ [] → b.off = a.off) (hv : VRs ρ vs us) {K : AW → Res} (h : C.good (storeK C.G a vs w K)) :
    ∃ w2 w2', (Go.storeCells b us).run C.P w' = .ok () w2' ∧ WR C ρ w2 w2' ∧ C.good (K w2) := by
  unfold storeK at h
  split at h
  · rename_i c e fr x hg
    cases hc : (Nat.ble C.G a.block && a.spot.isNone && Nat.ble (Nat.add a.off vs.length) c.toList.length && (Nat.ble fr.2 fr.1 || Nat.ble fr.2 a.off || Nat.ble (Nat.add a.off vs.length) fr.1) && vs.all single) with
    | false => rw [hc] at h; exact absurd h hfi.bad
    | true =>
      rw [hc] at h
      simp only [cond_true, forceL_eq, AW.putK_eq] at h
      simp only [Bool.and_eq_true, Bool.or_eq_true] at hc
      obtain ⟨⟨⟨⟨hG, hs⟩, hlen⟩, hfr⟩, hsing⟩ := hc
      have hG : C.G ≤ a.block := Nat.le_of_ble_eq_true hG
      have hs : a.spot = none := by simpa using hs
      have hlen : a.off + vs.length ≤ c.size := by simpa using Nat.le_of_ble_eq_true hlen
      obtain ⟨o', ho', hor, hex, hB⟩ := hw.live _ _ _ hg he
      obtain ⟨c', fr', rfl, hsz, hcs, hF⟩ := hor
      have hul := hv.length
      have hcr : CR ρ c.toList c'.toList := fun i v hi => by
        obtain ⟨u, hu, r⟩ := hcs i v (by simpa using hi)
        exact ⟨u, by simpa using hu, r⟩
      have hor2 : ∀ off, OR C.P ρ en.extra (.cells ⟨setRun c.toList vs off⟩ e fr) (.cells ⟨setRun c'.toList us off⟩ e fr') := by
        intro off
        refine ⟨_, fr', rfl, ?_, ?_, ?_⟩
        · simp [setRun_length, hsz]
        · intro i v hi
          obtain ⟨u, hu, r⟩ := CR.run hv _ _ off hcr i v (by simpa using hi)
          exact ⟨u, by simpa using hu, r⟩
        · simpa [setRun_length] using hF
      refine ⟨_, _, ?_, hw.write hg he hG (b1 := ⟨.cells ⟨setRun c.toList vs a.off⟩ e fr, x⟩) (hor2 a.off) hex, h⟩
      cases vs with
      | nil =>
        cases hv
        show Result.ok () w' = _
        simp only [setRun]
        rw [set_self ho']
      | cons v vs =>
        have hoff := hoff (by simp)
        have hd : (if b.off + us.length ≤ c'.size then true else false) = true := by rw [if_pos (by omega)]
        have hclear := fr_clear hF (lo := a.off) (hi := a.off + us.length) (by omega) (by
          rcases hfr with (hfr | hfr) | hfr
          · exact .inl (Nat.le_of_ble_eq_true hfr)
          · exact .inr (.inl (Nat.le_of_ble_eq_true hfr))
          · refine .inr (.inr ?_)
            have := Nat.le_of_ble_eq_true hfr
            have : a.off + (v :: vs).length ≤ fr.1 := this
            omega)
        have := storeCells_run (P := C.P) (b := b) (hbs hs) us 0 w' c' (by rw [hb]; exact ho') (single_plain hv hsing) (by omega) (fun j h1 h2 => hclear j (by omega) (by omega))
        rw [hb, hoff] at this
        exact this
  · exact absurd h hfi.bad
end Go.Ab
