/- The quiet operations stand to the model's (4): parts put together, look-ups, and all of them. -/
import Derived.Test.YtcjdjklggnjlbaaDoorEvF
namespace Go.Ab
open Go.RowKit

theorem cells_rel {ρ : Env} {v u : Value} (h : VR ρ v u) : VRs ρ v.cells.toList u.cells.toList := by
  cases h with
  | agg c c' hc => exact hc
  | bool => exact .cons _ _ _ _ (.bool _) .nil
  | int => exact .cons _ _ _ _ (.int _ _) .nil
  | string => exact .cons _ _ _ _ (.string _) .nil
  | nilp => exact .cons _ _ _ _ .nilp .nil
  | ptr a b h => exact .cons _ _ _ _ (.ptr a b h) .nil
  | nils l c => exact .cons _ _ _ _ (.nils l c) .nil
  | sl a b l c e he hb hs ho hl => exact .cons _ _ _ _ (.sl a b l c e he hb hs ho hl) .nil
  | nilm => exact .cons _ _ _ _ .nilm .nil
  | mp r e he => exact .cons _ _ _ _ (.mp r e he) .nil
  | func fn f f' c c' k hf hc => exact .cons _ _ _ _ (.func fn f f' c c' k hf hc) .nil
  | nilf => exact .cons _ _ _ _ .nilf .nil
  | iface t x y h => exact .cons _ _ _ _ (.iface t x y h) .nil
  | nili => exact .cons _ _ _ _ .nili .nil
  | tuple c c' h => exact .cons _ _ _ _ (.tuple c c' h) .nil

theorem put_rel {ρ : Env} (off : Nat) : ∀ (l m : List Value) (k : Nat) (c c' : Array Value), VRs ρ l m → VRs ρ c.toList c'.toList →
    VRs ρ ((l.zipIdx k).foldl (fun (cs : Array Value) (p : Value × Nat) => cs.setIfInBounds (off + p.2) p.1) c).toList ((m.zipIdx k).foldl (fun (cs : Array Value) (p : Value × Nat) => cs.setIfInBounds (off + p.2) p.1) c').toList
  | [], _, _, _, _, h, hc => by cases h; exact hc
  | x :: l, _, k, c, c', h, hc => by
    cases h with
    | cons _ y _ m hx ht =>
      simp only [List.zipIdx_cons, List.foldl_cons]
      refine put_rel off l m (k + 1) _ _ ht ?_
      simp only [Array.toList_setIfInBounds]
      exact hc.set _ hx

inductive PRs (ρ : Env) : List (Nat × Value) → List (Nat × Value) → Prop
  | nil : PRs ρ [] []
  | cons (i : Nat) (x y : Value) (l m : List (Nat × Value)) (h : VR ρ x y) (t : PRs ρ l m) : PRs ρ ((i, x) :: l) ((i, y) :: m)

theorem fill_rel {ρ : Env} {place place' : Nat → Option (Nat × Nat)} (hpl : ∀ i p, place i = some p → place' i = some p) : ∀ (l m : List (Nat × Value)) (c c' r : Array Value), PRs ρ l m → VRs ρ c.toList c'.toList → Instr.fill place c l = some r →
    ∃ r', Instr.fill place' c' m = some r' ∧ VRs ρ r.toList r'.toList
  | [], _, c, c', r, h, hc, hf => by
    cases h
    simp only [Instr.fill, Option.some.injEq] at hf
    subst hf
    exact ⟨c', rfl, hc⟩
  | (i, x) :: l, _, c, c', r, h, hc, hf => by
    cases h with
    | cons _ _ y _ m hx ht =>
      simp only [Instr.fill] at hf ⊢
      cases hp : place i with
      | none => rw [hp] at hf; cases hf
      | some p =>
        obtain ⟨off, size⟩ := p
        rw [hp] at hf
        rw [hpl _ _ hp]
        simp only at hf ⊢
        have hcl := cells_rel hx
        have h1 : x.cells.size = y.cells.size := by simpa using hcl.length
        have h2 : c.size = c'.size := by simpa using hc.length
        split at hf
        · cases hf
        · rename_i hcond
          rw [h1, h2] at hcond
          rw [if_neg hcond]
          refine fill_rel hpl l m _ _ r ht ?_ hf
          have e1 : ∀ (v : Value) (c : Array Value), (v.cells.zipIdx.foldl (fun (cs : Array Value) (p : Value × Nat) => cs.setIfInBounds (off + p.2) p.1) c) = ((v.cells.toList.zipIdx 0).foldl (fun (cs : Array Value) (p : Value × Nat) => cs.setIfInBounds (off + p.2) p.1) c) := by
            intro v c
            rw [← Array.foldl_toList]
            simp
          have := put_rel off x.cells.toList y.cells.toList 0 c c' hcl hc
          rw [← e1 x c, ← e1 y c'] at this
          exact this

theorem sizes_run {P : Program} : ∀ (fs : List Field) (l : List (Nat × Nat)), sizes P fs = some l → ∀ w, (fs.mapM fun f => do pure (f.offset, ← Go.sizeOf f.type) : Sem (List (Nat × Nat))).run P w = .ok l w
  | [], l, h, w => by
    simp only [sizes, Option.some.injEq] at h
    subst h
    simp
  | f :: fs, l, h, w => by
    simp only [sizes] at h
    split at h
    · rename_i i r hi hr
      cases h
      have ih := sizes_run fs r hr w
      simp only [List.mapM_cons, Sem.run_bind, run_sizeOf' hi, Result.andThen_ok, Sem.run_pure, ih]
    · cases h

theorem run_zeroValue {P : Program} {t : TypeId} {i : TypeInfo} {z : Value} (h : P.info? t = some i) (hz : i.zero = some z) (w : World) : (Go.zeroValue t).run P w = .ok z w := by
  simp [Go.zeroValue, run_typeInfo' h, hz]

theorem build_run {P : Program} {ρ : Env} {t : TypeId} {zero : Array Value} {places : List (Nat × Nat)} {parts : List (Nat × Value)} {parts' : Array (Nat × Value)} {r : Array Value}
    (h : buildPlaces P t = some (zero, places)) (hp : PRs ρ parts parts'.toList) (hf : Instr.fill (placeOf places) zero parts = some r) :
    ∃ r', (∀ w, (Instr.build t parts').run P w = .ok (.agg r') w) ∧ VRs ρ r.toList r'.toList := by
  unfold buildPlaces at h
  split at h
  · rename_i inf d hi hd
    split at h
    · rename_i z fs hz
      split at h
      · rename_i l hl
        cases hc : constOk 4 z with
        | false => rw [hc] at h; cases h
        | true =>
          rw [hc] at h
          cases h
          obtain ⟨r', hr, hv⟩ := fill_rel (place' := (fun i => (⟨places⟩ : Array (Nat × Nat))[i]?)) (fun i p hip => by simpa [placeOf] using hip) parts parts'.toList z.cells z.cells r hp (cells_rel (VR.const 4 z hc)) hf
          refine ⟨r', fun w => ?_, hv⟩
          have hm : (fs.mapM fun f => do pure (f.offset, ← Go.sizeOf f.type) : Sem (Array (Nat × Nat))).run P w = .ok ⟨places⟩ w := by
            rw [Array.mapM_eq_mapM_toList, Sem.run_map, sizes_run fs.toList places hl w]
            rfl
          simp only [Instr.build, Sem.run_bind, run_zeroValue hi hz, Result.andThen_ok, run_underlying hd, hm]
          rw [hr]
          rfl
      · cases h
    · rename_i z n e hz
      split at h
      · rename_i i hie
        cases hc : constOk 4 z with
        | false => rw [hc] at h; cases h
        | true =>
          rw [hc] at h
          cases h
          obtain ⟨r', hr, hv⟩ := fill_rel (place' := (fun j => some (j * i.size, i.size))) (fun j p hjp => by
            simp only [placeOf, List.getElem?_map] at hjp
            cases hj : (List.range n)[j]? with
            | none => rw [hj] at hjp; cases hjp
            | some q =>
              rw [hj] at hjp
              obtain ⟨hlt, he⟩ := List.getElem?_eq_some_iff.1 hj
              rw [List.getElem_range] at he
              subst he
              exact hjp) parts parts'.toList z.cells z.cells r hp (cells_rel (VR.const 4 z hc)) hf
          refine ⟨r', fun w => ?_, hv⟩
          simp only [Instr.build, Sem.run_bind, run_zeroValue hi hz, Result.andThen_ok, run_underlying hd, run_sizeOf' hie]
          rw [hr]
          rfl
      · cases h
    · cases h
  · cases h

/- look-ups -/
theorem pureRun_bind {P : Program} {α β : Type} (s : Sem α) (f : α → Sem β) : pureRun P (s >>= f) = (pureRun P s).bind fun x => pureRun P (f x) := by
  show pureRun P (s.bind f) = _
  induction s with
  | pure a => rfl
  | program k ih => simp only [Sem.bind, pureRun]; exact ih _
  | mark m k ih => simp only [Sem.bind, pureRun]; exact ih
  | _ => rfl

def hitR (ρ : Env) : Option (Nat × Value) → Option (Nat × Value) → Prop
  | none, none => True
  | some (i, v), some (j, u) => i = j ∧ VR ρ v u
  | _, _ => False

theorem findNow_rel {ρ : Env} (kind : TypeDesc) (k : Value) : ∀ (es es' : List MapEntry) (n : Nat), ERs ρ es es' → (∀ e ∈ es, scalarV e.key = true) →
    (match Instr.findNow kind k es n with
      | none => Instr.findNow kind k es' n = none
      | some r => ∃ r', Instr.findNow kind k es' n = some r' ∧ hitR ρ r r')
  | [], _, n, h, _ => by cases h; exact ⟨none, rfl, trivial⟩
  | e :: es, _, n, h, hs => by
    cases h with
    | cons _ e' _ es' hk hv hb t =>
      have hke : e'.key = e.key := scalar_eq hk (hs e (by simp))
      simp only [Instr.findNow, hke]
      cases hsn : Instr.sameNow kind k e.key with
      | none => simp
      | some b =>
        cases b with
        | true => simp only; exact ⟨_, rfl, rfl, hv⟩
        | false => simp only; exact findNow_rel kind k es es' (n + 1) t (fun x hx => hs x (by simp [hx]))

theorem findAsking_rel {P : Program} {ρ : Env} (key : TypeId) (k : Value) : ∀ (es es' : List MapEntry) (n : Nat) (r : Option (Nat × Value)), ERs ρ es es' → (∀ e ∈ es, scalarV e.key = true) →
    pureRun P (Instr.findAsking key k es n) = some r → ∃ r', (∀ w, (Instr.findAsking key k es' n).run P w = .ok r' w) ∧ hitR ρ r r'
  | [], _, n, r, h, _, hr => by
    cases h
    simp only [Instr.findAsking] at hr
    cases hr
    exact ⟨none, fun w => rfl, trivial⟩
  | e :: es, _, n, r, h, hs, hr => by
    cases h with
    | cons _ e' _ es' hk hv hb t =>
      have hke : e'.key = e.key := scalar_eq hk (hs e (by simp))
      simp only [Instr.findAsking, pureRun_bind] at hr
      cases hq : pureRun P (Op.equal key k e.key) with
      | none => rw [hq] at hr; cases hr
      | some b =>
        rw [hq] at hr
        simp only [Option.bind_some] at hr
        cases b with
        | true =>
          simp only [if_true] at hr
          cases hr
          refine ⟨some (n, e'.val), fun w => ?_, rfl, hv⟩
          simp only [Instr.findAsking, hke, Sem.run_bind, pureRun_run hq, Result.andThen_ok, if_true, Sem.run_pure]
        | false =>
          simp only [Bool.false_eq_true, if_false] at hr
          obtain ⟨r', h1, h2⟩ := findAsking_rel key k es es' (n + 1) r t (fun x hx => hs x (by simp [hx])) hr
          refine ⟨r', fun w => ?_, h2⟩
          simp only [Instr.findAsking, hke, Sem.run_bind, pureRun_run hq, Result.andThen_ok, Bool.false_eq_true, if_false]
          exact h1 w

theorem findKey_rel {P : Program} {ρ : Env} {key : TypeId} {k : Value} {es es' : List MapEntry} {r : Option (Nat × Value)} (h : ERs ρ es es') (hs : ∀ e ∈ es, scalarV e.key = true)
    (hr : pureRun P (Instr.findKey key k es) = some r) : ∃ r', (∀ w, (Instr.findKey key k es').run P w = .ok r' w) ∧ hitR ρ r r' := by
  simp only [Instr.findKey, pureRun_bind] at hr
  cases hu : P.underlying key with
  | none =>
    simp only [Go.underlying, pureRun_bind, Go.program, pureRun] at hr
    rw [Option.bind_some, hu] at hr
    cases hr
  | some d =>
    have hu' : pureRun P (Go.underlying key) = some d := by
      simp only [Go.underlying, pureRun_bind, Go.program, pureRun]
      rw [Option.bind_some, hu]
      rfl
    rw [hu'] at hr
    simp only [Option.bind_some] at hr
    have key1 := findNow_rel d k es es' 0 h hs
    cases hf : Instr.findNow d k es 0 with
    | none =>
      rw [hf] at hr key1
      simp only at hr key1
      obtain ⟨r', h1, h2⟩ := findAsking_rel key k es es' 0 r h hs hr
      refine ⟨r', fun w => ?_, h2⟩
      simp only [Instr.findKey, Sem.run_bind, run_underlying hu, Result.andThen_ok, key1]
      exact h1 w
    | some q =>
      rw [hf] at hr key1
      simp only at hr key1
      cases hr
      obtain ⟨r', h1, h2⟩ := key1
      refine ⟨r', fun w => ?_, h2⟩
      simp only [Instr.findKey, Sem.run_bind, run_underlying hu, Result.andThen_ok, h1, Sem.run_pure]

theorem ERs.length {ρ : Env} {es es' : List MapEntry} (h : ERs ρ es es') : es.length = es'.length := by
  induction h with
  | nil => rfl
  | cons _ _ _ _ _ _ _ _ ih => simp [ih]

theorem keyAt_some {P : Program} {ρ : Env} {key : TypeId} {k : Value} {es es' : Array MapEntry} {r : Option (Nat × Value)} (hE : ERs ρ es.toList es'.toList) (h : keyAt P key k es = some r) :
    scalarV k = true ∧ (∀ w, (Instr.checkKey es'.isEmpty 10000 key k).run P w = .ok () w) ∧ ∃ r', (∀ w, (Instr.findKey key k es'.toList).run P w = .ok r' w) ∧ hitR ρ r r' := by
  unfold keyAt at h
  cases hc : (scalarV k && es.toList.all fun e => scalarV e.key) with
  | false => rw [hc] at h; cases h
  | true =>
    rw [hc] at h
    simp only [Bool.and_eq_true, List.all_eq_true] at hc
    simp only [cond, orElse] at h
    cases hk : pureRun P (Instr.checkKey es.isEmpty 10000 key k) with
    | none => rw [hk] at h; cases h
    | some u =>
      rw [hk] at h
      have he : es'.isEmpty = es.isEmpty := by
        have := hE.length
        simp only [Array.length_toList] at this
        simp only [Array.isEmpty, this]
      exact ⟨hc.1, fun w => by rw [he]; exact pureRun_run hk w, findKey_rel hE hc.2 h⟩

theorem entriesOf_some {C : Ctx} {ρ : Env} {w : AW} {w' : World} (hw : WR C ρ w w') {x x' : Value} (hx : VR ρ x x') {es : Array MapEntry} (h : entriesOf w x = some es) :
    ∃ es' : Array MapEntry, ERs ρ es.toList es'.toList ∧ ((x' = .map none ∧ es' = #[]) ∨ ∃ r clock, x' = .map (some r) ∧ w'.heap[r]? = some (.map es' clock)) := by
  unfold entriesOf at h
  split at h
  · cases h
    cases hx
    exact ⟨#[], .nil, .inl ⟨rfl, rfl⟩⟩
  · rename_i r
    split at h
    · rename_i es0 clock ex hg
      cases h
      cases hx with
      | mp _ e he =>
        obtain ⟨e1, o', he1, ho', hor, _⟩ := hw.liveO hg he
        rw [he] at he1
        cases he1
        obtain ⟨es', rfl, hE⟩ := hor
        exact ⟨es', hE, .inr ⟨e.id, clock, rfl, ho'⟩⟩
    · cases h
  · cases h

theorem run_getObj_map {P : Program} {r : Nat} {es : Array MapEntry} {k : Nat} {w : World} (h : w.heap[r]? = some (.map es k)) : (Go.getObj r).run P w = .ok (.map es k) w := by
  simp [Go.getObj, Sem.run, h]

theorem lookupF_run {C : Ctx} {ρ : Env} {w : AW} {w' : World} (hw : WR C ρ w w') {t key elem : TypeId} {inf : TypeInfo} {z : Value} {ok : Bool} {x k x' k' v : Value}
    (ht : C.P.underlying t = some (.map key elem)) (hi : C.P.info? elem = some inf) (hz : inf.zero = some z) (hcz : constOk 4 z = true)
    (hx : VR ρ x x') (hk : VR ρ k k') (h : lookupF C.P key z ok x k w = some v) :
    ∃ v', (Instr.lookup t x' k' ok).run C.P w' = .ok v' w' ∧ VR ρ v v' := by
  unfold lookupF at h
  simp only [orElse] at h
  cases he : entriesOf w x with
  | none => rw [he] at h; cases h
  | some es =>
    rw [he] at h
    simp only at h
    cases hka : keyAt C.P key k es with
    | none => rw [hka] at h; cases h
    | some r =>
      rw [hka] at h
      simp only at h
      obtain ⟨es', hE, hcase⟩ := entriesOf_some hw hx he
      obtain ⟨hks, hck, r', hfk, hhit⟩ := keyAt_some hE hka
      obtain rfl := scalar_eq hk hks
      have hzr : VR ρ z z := VR.const 4 z hcz
      have main : ∀ (u : Value), (match r' with | some (_, v) => u = (if ok then .tuple #[v, .bool true] else v) | none => u = (if ok then .tuple #[z, .bool false] else z)) →
          (Instr.lookup t x' k' ok).run C.P w' = .ok u w' := by
        intro u hu
        rcases hcase with ⟨rfl, rfl⟩ | ⟨q, clock, rfl, ho⟩
        · simp only [Instr.lookup, Sem.run_bind, run_underlying ht, Result.andThen_ok, Sem.run_pure, hck, hfk]
          cases r' with
          | none => simp only at hu ⊢; simp only [Sem.run_bind, run_zeroValue hi hz, Result.andThen_ok, Sem.run_pure]; rw [hu]
          | some p => simp only at hu ⊢; rw [hu]; rfl
        · simp only [Instr.lookup, Sem.run_bind, run_underlying ht, Result.andThen_ok, run_getObj_map ho, Sem.run_pure, hck, hfk]
          cases r' with
          | none => simp only at hu ⊢; simp only [Sem.run_bind, run_zeroValue hi hz, Result.andThen_ok, Sem.run_pure]; rw [hu]
          | some p => simp only at hu ⊢; rw [hu]; rfl
      cases r with
      | none =>
        cases r' with
        | some p => exact hhit.elim
        | none =>
          cases ok with
          | true => cases h; exact ⟨_, main _ rfl, .tuple _ _ (.cons _ _ _ _ hzr (.cons _ _ _ _ (.bool _) .nil))⟩
          | false => cases h; exact ⟨_, main _ rfl, hzr⟩
      | some p =>
        obtain ⟨i, pv⟩ := p
        cases r' with
        | none => exact hhit.elim
        | some p' =>
          obtain ⟨i', pv'⟩ := p'
          obtain ⟨rfl, hpv⟩ := hhit
          cases ok with
          | true => cases h; exact ⟨_, main _ rfl, .tuple _ _ (.cons _ _ _ _ hpv (.cons _ _ _ _ (.bool _) .nil))⟩
          | false => cases h; exact ⟨_, main _ rfl, hpv⟩

end Go.Ab
