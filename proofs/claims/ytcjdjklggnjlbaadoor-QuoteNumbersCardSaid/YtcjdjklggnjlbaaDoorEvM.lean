/- Copies, maps, iterators. -/
import Derived.Test.YtcjdjklggnjlbaaDoorEvL
namespace Go.Ab
open Go.RowKit

theorem copyK_run {C : Ctx} {ρ : Env} {w : AW} {w' : World} (hfi : Fine C.good) (hw : WR C ρ w w') {dt xt e ty : TypeId} {inf : TypeInfo} (ht : C.P.underlying dt = some (.slice e)) (hi : C.P.info? e = some inf) {s x s' x' : Value} (hs : VR ρ s s') (hx : VR ρ x x') {K : VK}
    (h : C.good (copyK C.G inf s x w K)) : Gets C ρ w' (Builtin.copy_ #[dt, xt] ty #[s', x']) K := by
  unfold copyK at h
  split at h
  · rename_i base dLen cap n hn
    have hlen := lenV_run (P := C.P) hx hn
    split at h
    · rename_i new hf
      obtain ⟨us, hus, hrel⟩ := firstF_run hw hx (fun b l c hh => by subst hh; cases hn; exact Nat.min_le_left _ _) hf
      have q0 : (#[dt, xt] : Array TypeId)[0]? = some dt := rfl
      have q2 : ∀ y, (#[y, x'] : Array Value)[0]? = some y := fun _ => rfl
      have q3 : ∀ y, (#[y, x'] : Array Value)[1]? = some x' := fun _ => rfl
      split at h
      · rename_i a
        obtain ⟨b, en, rfl, he, hbl, hsp, ho, hlc⟩ := hs.sl_inv
        obtain ⟨w2, w2', h1, h2, h3⟩ := storeK_run (b := b) (en := en) hfi hw he hbl (fun _ => hsp.2) (fun hne => by
          rcases ho with ho | ⟨h0, _⟩
          · exact ho
          · exfalso
            apply hne
            have hd0 : dLen = 0 := by omega
            subst hd0
            have hm : Nat.min n 0 = 0 := Nat.min_zero n
            rw [hm] at hf
            unfold firstF at hf
            split at hf
            · split at hf
              · rename_i c hl
                cases hf
                obtain ⟨l, h1, h2⟩ := loadAgg_len hl
                cases h1
                rw [Nat.mul_eq, Nat.zero_mul] at h2
                exact List.length_eq_zero_iff.1 h2
              · cases hf
            · cases hf; rfl
            · cases hf; simp
            · cases hf) hrel h
        refine ⟨_, _, ρ, w2, w2', ?_, Env.le.refl _, .int _ _, h2, h3⟩
        simp only [Builtin.copy_, q0, q2, q3, Sem.run_bind, run_underlying ht, run_sizeOf' hi, hlen, hus, h1, Result.andThen_ok]
        rfl
      · have : ∃ l' c', s' = .slice none l' c' ∧ l' = dLen := by cases hs; exact ⟨_, _, rfl, rfl⟩
        obtain ⟨l', c', rfl, rfl⟩ := this
        refine ⟨_, _, ρ, w, w', ?_, Env.le.refl _, .int _ _, hw, h⟩
        simp only [Builtin.copy_, q0, q2, q3, Sem.run_bind, run_underlying ht, run_sizeOf' hi, hlen, hus, Result.andThen_ok]
        rfl
    · exact absurd h hfi.bad
  · exact absurd h hfi.bad

/-- an object that is no row of cells, found through a pointer or a map's value -/
theorem obj_get {C : Ctx} {ρ : Env} {w : AW} {w' : World} (hw : WR C ρ w w') {r : Nat} {en : Ent} (he : ρ r = some en) {es : Array MapEntry} {k : Nat} {x : Bool} (hg : w.get r = some ⟨.map es k, x⟩) :
    ∃ es' : Array MapEntry, w'.heap[en.id]? = some (.map es' k) ∧ ERs ρ es.toList es'.toList := by
  obtain ⟨o', ho', hor, _⟩ := hw.live _ _ _ hg he
  obtain ⟨es', rfl, h⟩ := hor
  exact ⟨es', ho', h⟩

theorem run_setMap {P : Program} {r : Nat} {o : Obj} {es : Array MapEntry} {k : Nat} {w : World} (h : w.heap[r]? = some (.map es k)) : (Go.setObj r o).run P w = .ok () { w with heap := w.heap.setIfInBounds r o } := by
  simp [Go.setObj, Sem.run, h]

theorem run_setIter {P : Program} {r : Nat} {o : Obj} {m : Option Nat} {a : Nat} {b : Array Nat} {k : Nat} {w : World} (h : w.heap[r]? = some (.mapIter m a b k)) : (Go.setObj r o).run P w = .ok () { w with heap := w.heap.setIfInBounds r o } := by
  simp [Go.setObj, Sem.run, h]

theorem ERs.snoc {ρ : Env} {l m : List MapEntry} (h : ERs ρ l m) {x y : MapEntry} (hk : VR ρ x.key y.key) (hv : VR ρ x.val y.val) (hb : x.born = y.born) : ERs ρ (l ++ [x]) (m ++ [y]) := by
  induction h with
  | nil => exact .cons _ _ _ _ hk hv hb .nil
  | cons a b as bs h1 h2 h3 _ ih => exact .cons _ _ _ _ h1 h2 h3 ih

theorem ERs.set {ρ : Env} {l m : List MapEntry} (h : ERs ρ l m) {x y : MapEntry} (hk : VR ρ x.key y.key) (hv : VR ρ x.val y.val) (hb : x.born = y.born) (i : Nat) : ERs ρ (l.set i x) (m.set i y) := by
  induction h generalizing i with
  | nil => exact .nil
  | cons a b as bs h1 h2 h3 t ih =>
    cases i with
    | zero => exact .cons _ _ _ _ hk hv hb t
    | succ i => exact .cons _ _ _ _ h1 h2 h3 (ih i)

theorem ERs.get {ρ : Env} {l m : List MapEntry} (h : ERs ρ l m) : ∀ {i : Nat} {x : MapEntry}, l[i]? = some x → ∃ y, m[i]? = some y ∧ VR ρ x.key y.key ∧ VR ρ x.val y.val ∧ x.born = y.born := by
  induction h with
  | nil => intro i x hx; simp at hx
  | cons a b as bs h1 h2 h3 t ih =>
    intro i x hx
    cases i with
    | zero => simp at hx; subst hx; exact ⟨b, rfl, h1, h2, h3⟩
    | succ i => simp at hx; simpa using ih hx

theorem ERs.modify {ρ : Env} {l m : List MapEntry} (h : ERs ρ l m) {k k' v v' : Value} (hk : VR ρ k k') (hv : VR ρ v v') : ∀ {i : Nat} {x : MapEntry}, l[i]? = some x → ERs ρ (l.set i { x with key := k, val := v }) (m.modify i fun e => { e with key := k', val := v' }) := by
  induction h with
  | nil => intro i x hx; simp at hx
  | cons a b as bs h1 h2 h3 t ih =>
    intro i x hx
    cases i with
    | zero => simp at hx; subst hx; exact .cons _ _ _ _ hk hv h3 t
    | succ i => simp at hx; exact .cons _ _ _ _ h1 h2 h3 (ih hx)

theorem keyAt_scalar {P : Program} {key : TypeId} {k : Value} {es : Array MapEntry} {r : Option (Nat × Value)} (h : keyAt P key k es = some r) : scalarV k = true ∧ ∀ e ∈ es.toList, scalarV e.key = true := by
  unfold keyAt at h
  cases hc : (scalarV k && es.toList.all fun e => scalarV e.key) with
  | false => rw [hc] at h; cases h
  | true =>
    rw [Bool.and_eq_true] at hc
    exact ⟨hc.1, fun e he => List.all_eq_true.1 hc.2 e he⟩

theorem stays_pure {P : Program} {o n k : Value} (h : pureRun P (Instr.keyThatStays o n) = some k) : k = n := by
  unfold Instr.keyThatStays at h
  split at h
  · exact (Option.some.inj h).symm
  · cases h

theorem mapUpdateK_run {C : Ctx} {ρ : Env} {w : AW} {w' : World} (hfi : Fine C.good) (hw : WR C ρ w w') {t key el : TypeId} (ht : C.P.underlying t = some (.map key el)) {m k v m' k' v' : Value} (hm : VR ρ m m') (hk : VR ρ k k') (hv : VR ρ v v') {K : VK}
    (h : C.good (mapUpdateK C.P C.G key m k v w K)) : ∃ w2 w2', (Instr.mapUpdate t m' k' v').run C.P w' = .ok () w2' ∧ WR C ρ w2 w2' ∧ C.good (K undef w2) := by
  unfold mapUpdateK at h
  split at h
  · rename_i r
    have hm2 : ∃ en : Ent, ρ r = some en ∧ m' = .map (some en.id) := by cases hm with | mp _ e he => exact ⟨e, he, rfl⟩
    obtain ⟨en, he, rfl⟩ := hm2
    split at h
    · rename_i es clock x hg
      obtain ⟨es', ho', hE⟩ := obj_get hw he hg
      obtain ⟨_, _, _, hex, _⟩ := hw.live _ _ _ hg he
      cases hG : Nat.ble C.G r with
      | false => rw [hG] at h; exact absurd h hfi.bad
      | true =>
        rw [hG] at h
        simp only [cond_true] at h
        have hG := Nat.le_of_ble_eq_true hG
        split at h
        · rename_i i pv u hka hck
          obtain ⟨hks, _, r', hfk, hhit⟩ := keyAt_some hE hka
          obtain rfl := scalar_eq hk hks
          have hck := pureRun_run hck
          split at h
          · rename_i e hei
            split at h
            · rename_i kk hst
              simp only [forceL_eq, AW.putK_eq] at h
              obtain ⟨y, hy, hyk, hyv, hyb⟩ := hE.get hei
              have hsc := (keyAt_scalar hka).2 e (List.mem_of_getElem? hei)
              have hye := scalar_eq hyk hsc
              have hkk := stays_pure hst
              subst hkk
              have hst := pureRun_run hst
              cases r' with
              | none => exact hhit.elim
              | some p' =>
                obtain ⟨i', pv'⟩ := p'
                obtain ⟨rfl, _⟩ := hhit
                have hy' : es'[i]? = some y := by simpa using hy
                refine ⟨_, _, ?_, hw.write hg he hG (b1 := ⟨.map ⟨es.toList.set i { e with key := kk, val := v }⟩ clock, x⟩) (o1 := .map (es'.modify i fun e => { e with key := kk, val := v' }) clock) ⟨_, rfl, ?_⟩ hex, h⟩
                · simp only [Instr.mapUpdate, Sem.run_bind, run_underlying ht, Result.andThen_ok, run_getObj_map ho', hck, hfk, hy', Option.map_some, Option.getD_some, hye, hst, run_setMap ho']
                · rw [Array.toList_modify]
                  exact hE.modify hk hv hei
            · exact absurd h hfi.bad
          · exact absurd h hfi.bad
        · rename_i u hka hck
          simp only [forceL_eq, AW.putK_eq] at h
          obtain ⟨hks, _, r', hfk, hhit⟩ := keyAt_some hE hka
          obtain rfl := scalar_eq hk hks
          have hck := pureRun_run hck
          cases r' with
          | some p => exact hhit.elim
          | none =>
            refine ⟨_, _, ?_, hw.write hg he hG (b1 := ⟨.map ⟨es.toList ++ [{ key := k', val := v, born := clock }]⟩ (clock + 1), x⟩) (o1 := .map (es'.push { key := k', val := v', born := clock }) (clock + 1)) ⟨_, rfl, ?_⟩ hex, h⟩
            · simp only [Instr.mapUpdate, Sem.run_bind, run_underlying ht, Result.andThen_ok, run_getObj_map ho', hck, hfk, run_setMap ho']
            · rw [Array.toList_push]
              exact hE.snoc hk hv rfl
        · exact absurd h hfi.bad
    · exact absurd h hfi.bad
  · exact absurd h hfi.bad

theorem rangeK_run {C : Ctx} {ρ : Env} {w : AW} {w' : World} (hfi : Fine C.good) (hw : WR C ρ w w') {t key el : TypeId} (ht : C.P.underlying t = some (.map key el)) {m m' : Value} (hm : VR ρ m m') {K : VK}
    (h : C.good (rangeK m w K)) : Gets C ρ w' (Instr.range t m') K := by
  unfold rangeK at h
  split at h
  · obtain rfl : m' = .map none := by cases hm; rfl
    obtain ⟨hlt, hk⟩ := pushK_good hfi h
    refine ⟨_, .pointer (some ⟨w'.heap.size, 0, none⟩), _, _, _, ?_, Env.le_ext _ (hw.top _ (Nat.le_refl _)), .ptr_new Env.ext_same, hw.push ⟨.mapIter none 0 #[] 0, true⟩ (.mapIter none 0 #[] 0) 0 (fun _ => rfl) hlt ⟨none, rfl, rfl⟩, hk⟩
    simp only [Instr.range, Sem.run_bind, run_underlying ht, Result.andThen_ok]
    rfl
  · rename_i r
    have hm2 : ∃ en : Ent, ρ r = some en ∧ m' = .map (some en.id) := by cases hm with | mp _ e he => exact ⟨e, he, rfl⟩
    obtain ⟨en, he, rfl⟩ := hm2
    split at h
    · rename_i es clock x hg
      obtain ⟨es', ho', hE⟩ := obj_get hw he hg
      obtain ⟨hlt, hk⟩ := pushK_good hfi h
      refine ⟨_, .pointer (some ⟨w'.heap.size, 0, none⟩), _, _, _, ?_, Env.le_ext _ (hw.top _ (Nat.le_refl _)), .ptr_new Env.ext_same, hw.push ⟨.mapIter (some r) clock #[] clock, true⟩ (.mapIter (some en.id) clock #[] clock) 0 (fun _ => rfl) hlt ⟨_, rfl, en, he, rfl⟩, hk⟩
      simp only [Instr.range, Sem.run_bind, run_underlying ht, Result.andThen_ok, run_getObj_map ho']
      rfl
    · exact absurd h hfi.bad
  · exact absurd h hfi.bad

theorem run_getObj_iter {P : Program} {r : Nat} {m : Option Nat} {a : Nat} {b : Array Nat} {k : Nat} {w : World} (h : w.heap[r]? = some (.mapIter m a b k)) : (Go.getObj r).run P w = .ok (.mapIter m a b k) w := by
  simp [Go.getObj, Sem.run, h]

theorem iter_none {C : Ctx} {ρ : Env} {w : AW} {w' : World} (hw : WR C ρ w w') {r : Nat} {en : Ent} (he : ρ r = some en) {a : Nat} {b : Array Nat} {k : Nat} {x : Bool} (hg : w.get r = some ⟨.mapIter none a b k, x⟩) :
    w'.heap[en.id]? = some (.mapIter none a b k) := by
  obtain ⟨o', ho', hor, _⟩ := hw.live _ _ _ hg he
  obtain ⟨m', rfl, h⟩ := hor
  simp only at h
  subst h
  exact ho'

theorem iter_some {C : Ctx} {ρ : Env} {w : AW} {w' : World} (hw : WR C ρ w w') {r : Nat} {en : Ent} (he : ρ r = some en) {m : Nat} {a : Nat} {b : Array Nat} {k : Nat} {x : Bool} (hg : w.get r = some ⟨.mapIter (some m) a b k, x⟩) :
    ∃ e, w'.heap[en.id]? = some (.mapIter (some e.id) a b k) ∧ ρ m = some e := by
  obtain ⟨o', ho', hor, _⟩ := hw.live _ _ _ hg he
  obtain ⟨m', rfl, e, he, rfl⟩ := hor
  exact ⟨e, ho', he⟩

theorem ERs.find {ρ : Env} {l m : List MapEntry} (h : ERs ρ l m) (p : Nat → Bool) : ∀ {x : MapEntry}, l.find? (fun e => p e.born) = some x → ∃ y, m.find? (fun e => p e.born) = some y ∧ VR ρ x.key y.key ∧ VR ρ x.val y.val := by
  induction h with
  | nil => intro x hx; cases hx
  | cons a b as bs h1 h2 h3 t ih =>
    intro x hx
    rw [List.find?_cons] at hx ⊢
    rw [← h3]
    cases hp : p a.born with
    | true => rw [hp] at hx; cases hx; exact ⟨b, rfl, h1, h2⟩
    | false => rw [hp] at hx; exact ih hx

theorem entryF_run {C : Ctx} {ρ : Env} {w : AW} {w' : World} (hw : WR C ρ w w') {it it' v : Value} (hit : VR ρ it it') (h : entryF w it = some v) : ∃ v', (Instr.entry it').run C.P w' = .ok v' w' ∧ VR ρ v v' := by
  unfold entryF at h
  split at h
  · rename_i r
    obtain ⟨b, rfl, en, he, rfl⟩ := hit.ptr_inv
    split at h
    · rename_i m since seen stepped x hg
      split at h
      · rename_i es clock y stamp hg2 hlast
        obtain ⟨en2, ho', he2⟩ := iter_some hw he hg
        obtain ⟨es', ho2, hE⟩ := obj_get hw he2 hg2
        cases hc : Nat.beq clock stepped with
        | false => rw [hc] at h; cases h
        | true =>
          rw [hc] at h
          simp only [cond_true, orElse] at h
          obtain rfl : clock = stepped := nat_beq hc
          cases hf : es.toList.find? (fun e => Nat.beq e.born stamp) with
          | none => rw [hf] at h; cases h
          | some e =>
            rw [hf] at h
            cases h
            obtain ⟨e', hf', h1, h2⟩ := hE.find (fun n => Nat.beq n stamp) hf
            refine ⟨.tuple #[e'.key, e'.val], ?_, .tuple _ _ (.cons _ _ _ _ h1 (.cons _ _ _ _ h2 .nil))⟩
            have hb : seen.back? = some stamp := by rw [← Array.getLast?_toList]; exact hlast
            have hf2 : es'.find? (fun e => e.born == stamp) = some e' := by
              rw [← Array.find?_toList]
              have : (fun e : MapEntry => e.born == stamp) = fun e => Nat.beq e.born stamp := by
                funext e
                cases hq : Nat.beq e.born stamp with
                | true => simp [nat_beq hq]
                | false => simp; intro hh; rw [hh] at hq; simp at hq
              rw [this]
              exact hf'
            simp only [Instr.entry, Sem.run_bind, run_getObj_iter ho', Result.andThen_ok, hb, run_getObj_map ho2, bne_self_eq_false, Bool.false_eq_true, if_false, hf2]
            rfl
      · cases h
    · cases h
  · cases h

theorem ERs.filter {ρ : Env} {l m : List MapEntry} (h : ERs ρ l m) (p : Nat → Bool) : ERs ρ (l.filter fun e => p e.born) (m.filter fun e => p e.born) := by
  induction h with
  | nil => exact .nil
  | cons a b as bs h1 h2 h3 t ih =>
    rw [List.filter_cons, List.filter_cons, ← h3]
    split
    · exact .cons _ _ _ _ h1 h2 h3 ih
    · exact ih

theorem ERs.mem {ρ : Env} {l m : List MapEntry} (h : ERs ρ l m) {y : MapEntry} (hy : y ∈ m) : ∃ x ∈ l, VR ρ x.key y.key ∧ VR ρ x.val y.val ∧ x.born = y.born := by
  induction h with
  | nil => cases hy
  | cons a b as bs h1 h2 h3 t ih =>
    cases hy with
    | head => exact ⟨a, by simp, h1, h2, h3⟩
    | tail _ hy => obtain ⟨x, hx, r⟩ := ih hy; exact ⟨x, by simp [hx], r⟩

theorem stampIn_eq (l : List Nat) (n : Nat) : stampIn l n = l.contains n := by
  induction l with
  | nil => rfl
  | cons a l ih =>
    have ih : (l.any fun m => Nat.beq m n) = l.contains n := ih
    show (Nat.beq a n || l.any fun m => Nat.beq m n) = _
    rw [ih, List.contains_cons]
    congr 1
    by_cases h : a = n
    · subst h; simp
    · have : Nat.beq a n = false := by cases hq : Nat.beq a n with | false => rfl | true => exact absurd (nat_beq hq) h
      rw [this]
      symm
      simpa using fun hh => h hh.symm

theorem choose_next {C : Ctx} {ρ : Env} {w : AW} {w' : World} (hw : WR C ρ w w') (n : Nat) (hn : 0 < n) : ∃ i w1, (Go.choose (.mapNext n)).run C.P w' = .ok i w1 ∧ i < n ∧ WR C ρ w w1 ∧ w1.heap = w'.heap := by
  by_cases h : n ≤ 1
  · refine ⟨0, w', ?_, hn, hw, rfl⟩
    simp [Go.choose, Sem.run, Question.forced, h]
  · refine ⟨w'.tape w'.drawn (.mapNext n) % n, { w' with drawn := w'.drawn + 1 }, ?_, Nat.mod_lt _ hn, hw.drawn _, rfl⟩
    simp [Go.choose, Sem.run, Question.forced, h, Question.cut]

theorem nextK_run {C : Ctx} {ρ : Env} {w : AW} {w' : World} (hfi : Fine C.good) (hw : WR C ρ w w') {it it' : Value} (hit : VR ρ it it') {ty : TypeId} {K : VK} (h : C.good (nextK C.G it w K)) : Gets C ρ w' (Instr.next it' false ty) K := by
  unfold nextK at h
  split at h
  · rename_i r
    obtain ⟨b, rfl, en, he, rfl⟩ := hit.ptr_inv
    split at h
    · rename_i a bb k x hg
      have ho' := iter_none hw he hg
      refine ⟨_, .tuple #[.bool false], ρ, w, w', ?_, Env.le.refl _, .tuple _ _ (.cons _ _ _ _ (.bool _) .nil), hw, h⟩
      simp only [Instr.next, Sem.run_bind, run_getObj_iter ho', Result.andThen_ok]
      rfl
    · rename_i m since seen last x hg
      split at h
      · rename_i es clock y hg2
        obtain ⟨en2, ho', he2⟩ := iter_some hw he hg
        obtain ⟨es', ho2, hE⟩ := obj_get hw he2 hg2
        cases hc : (Nat.ble C.G r && (es.toList.all fun e => Nat.blt e.born since && Nat.blt e.born last)) with
        | false => rw [hc] at h; exact absurd h hfi.bad
        | true =>
          rw [hc] at h
          simp only [cond_true] at h
          rw [Bool.and_eq_true] at hc
          have hG := Nat.le_of_ble_eq_true hc.1
          have hall : ∀ e ∈ es.toList, e.born < since ∧ e.born < last := by
            intro e hm
            have := List.all_eq_true.1 hc.2 e hm
            rw [Bool.and_eq_true] at this
            exact ⟨blt_iff.1 this.1, blt_iff.1 this.2⟩
          have hall' : ∀ e ∈ es'.toList, e.born < since ∧ e.born < last := by
            intro e hm
            obtain ⟨x, hx, _, _, hb⟩ := hE.mem hm
            rw [← hb]
            exact hall x hx
          have hL := hE.filter (fun n => !stampIn seen.toList n)
          have hcont : (fun e : MapEntry => !stampIn seen.toList e.born) = fun e => !seen.contains e.born := by
            funext e
            rw [stampIn_eq]
            simp
          generalize hleft : (es'.filter fun e => !seen.contains e.born) = left
          have hleft2 : es'.toList.filter (fun e => !stampIn seen.toList e.born) = left.toList := by
            rw [hcont, ← hleft, Array.toList_filter]
          rw [hleft2] at hL
          have hold : left.filter (fun e => decide (e.born < since)) = left := by
            rw [← hleft]
            apply Array.toList_inj.1
            rw [Array.toList_filter, Array.toList_filter]
            apply List.filter_eq_self.2
            intro e he
            simpa using (hall' e (List.mem_filter.1 he).1).1
          have hnew : left.filter (fun e => decide (e.born ≥ since)) = #[] := by
            rw [← hleft]
            apply Array.toList_inj.1
            rw [Array.toList_filter, Array.toList_filter]
            apply List.filter_eq_nil_iff.2
            intro e he
            have := (hall' e (List.mem_filter.1 he).1).1
            simpa using this
          have hbadc : (!seen.isEmpty && !es'.isEmpty && es'.all (fun e => decide (e.born ≥ last))) = false := by
            cases hem : es'.isEmpty with
            | true => simp
            | false =>
              have : es'.all (fun e => decide (e.born ≥ last)) = false := by
                have hne : es'.toList ≠ [] := by
                  intro hh
                  have : es' = #[] := Array.toList_inj.1 hh
                  rw [this] at hem
                  simp at hem
                obtain ⟨e0, l0, hl0⟩ := List.exists_cons_of_ne_nil hne
                have h0 := hall' e0 (by rw [hl0]; simp)
                cases hq : es'.all (fun e => decide (e.born ≥ last)) with
                | false => rfl
                | true =>
                  rw [← Array.all_toList, hl0] at hq
                  simp at hq
                  omega
              rw [this, Bool.and_false]
          generalize hoa : es.toList.filter (fun e => !stampIn seen.toList e.born) = oa at h hL
          cases oa with
          | nil =>
            cases hL' : left.toList with
            | cons x l => rw [hL'] at hL; cases hL
            | nil =>
              obtain rfl : left = #[] := Array.toList_inj.1 hL'
              simp only at h
              refine ⟨_, .tuple #[.bool false], ρ, w, w', ?_, Env.le.refl _, .tuple _ _ (.cons _ _ _ _ (.bool _) .nil), hw, h⟩
              have hcand : ((if (#[] : Array MapEntry).isEmpty = true then #[none] else #[]) ++ (#[] ++ #[] : Array MapEntry).map some : Array (Option MapEntry)) = #[none] := by simp
              have hch : (Go.choose (.mapNext (#[none] : Array (Option MapEntry)).size)).run C.P w' = .ok 0 w' := by simp [Go.choose, Sem.run, Question.forced]
              simp only [Instr.next, Sem.run_bind, run_getObj_iter ho', run_getObj_map ho2, Result.andThen_ok, hbadc, Bool.false_eq_true, if_false, hleft, hold, hnew, hcand, hch]
              rfl
          | cons a0 l0 =>
            have hsz : 0 < left.size := by
              cases hL' : left.toList with
              | nil => rw [hL'] at hL; cases hL
              | cons x l => rw [← Array.length_toList, hL']; simp
            obtain ⟨i, w1, hch, hi, hw1, hheap⟩ := choose_next hw left.size hsz
            have hmem : left[i] ∈ left.toList := by simp
            obtain ⟨e, hein, hek, hev, heb⟩ := hL.mem hmem
            have hge := hfi.all h e hein
            simp only [AW.putK_eq] at hge
            obtain ⟨_, _, _, hex, _⟩ := hw.live _ _ _ hg he
            refine ⟨_, .tuple #[.bool true, left[i].key, left[i].val], ρ, _, _, ?_, Env.le.refl _, .tuple _ _ (.cons _ _ _ _ (.bool _) (.cons _ _ _ _ hek (.cons _ _ _ _ hev .nil))),
              hw1.write hg he hG (b1 := ⟨.mapIter (some m) since ⟨seen.toList ++ [e.born]⟩ clock, x⟩) (o1 := .mapIter (some en2.id) since (seen.push left[i].born) clock) ⟨_, ?_, en2, he2, rfl⟩ hex, hge⟩
            · have hne : left.isEmpty = false := by simpa using (by intro hh; subst hh; simp at hsz : left ≠ #[])
              have hcand : (#[] ++ (left ++ #[]).map some : Array (Option MapEntry)) = left.map some := by simp
              have hsize : (left.map some).size = left.size := by simp
              have hget : (left.map some)[i]? = some (some left[i]) := by simp [hi]
              have ho1 : w1.heap[en.id]? = some (.mapIter (some en2.id) since seen last) := by rw [hheap]; exact ho'
              simp only [Instr.next, Sem.run_bind, run_getObj_iter ho', run_getObj_map ho2, Result.andThen_ok, hbadc, Bool.false_eq_true, if_false, hleft, hold, hnew, hne, hcand, hsize, hch, hget, run_setIter ho1]
              rfl
            · rw [← heb]
              congr 1
              apply Array.toList_inj.1
              simp
      · exact absurd h hfi.bad
    · exact absurd h hfi.bad
  · exact absurd h hfi.bad
end Go.Ab
