/- What makes one block and does nothing else. -/
import Derived.Test.YtcjdjklggnjlbaaDoorEvH
namespace Go.Ab
open Go.RowKit

/-- the operation pushes one object, and gives a value that may tell its number -/
def Makes (C : Ctx) (s : Sem Value) (o' : Obj) (g' : Nat → Value) : Prop := ∀ w' : World, s.run C.P w' = .ok (g' w'.heap.size) { w' with heap := w'.heap.push o' }

theorem run_newRow {P : Program} (t : TypeId) (c : Array Value) (w : World) : (Go.newRow t c).run P w = .ok ⟨w.heap.size, 0, none⟩ { w with heap := w.heap.push (.cells c t (0, 0)) } := rfl

theorem OR.cells {P : Program} {ρ : Env} {c c' : Array Value} {t : TypeId} (h : VRs ρ c.toList c'.toList) : OR P ρ 0 (.cells c t (0, 0)) (.cells c' t (0, 0)) := by
  refine ⟨c', (0, 0), rfl, ?_, ?_, .inl rfl⟩
  · have := h.length
    simp at this
    simp [this]
  · intro i v hv
    obtain ⟨u, hu, r⟩ := h.get i (by simpa using hv)
    exact ⟨u, by simpa using hu, r⟩

theorem VR.ptr_new {ρ : Env} {r q : Nat} (h : ρ r = some ⟨q, 0⟩) : VR ρ (.pointer (some ⟨r, 0, none⟩)) (.pointer (some ⟨q, 0, none⟩)) := .ptr _ _ ⟨_, h, rfl⟩
theorem VR.sl_new {ρ : Env} {r q l c : Nat} (h : ρ r = some ⟨q, 0⟩) (hl : l ≤ c) : VR ρ (.slice (some ⟨r, 0, none⟩) l c) (.slice (some ⟨q, 0, none⟩) l c) :=
  VR.sl ⟨r, 0, none⟩ ⟨q, 0, none⟩ l c ⟨q, 0⟩ h rfl ⟨rfl, rfl⟩ (.inl rfl) hl

theorem flat_rep {α : Type} [Inhabited α] (z : List α) (n : Nat) (_hz : 0 < z.length) : (List.replicate n z).flatten = (List.range (n * z.length)).map fun i => z[i % z.length]! := by
  induction n with
  | zero => simp
  | succ n ih =>
    rw [List.replicate_succ', List.flatten_append, ih, Nat.succ_mul, List.range_add, List.map_append]
    congr 1
    simp only [List.flatten_singleton]
    apply List.ext_getElem
    · simp
    · intro i h1 h2
      simp at h2
      simp only [List.getElem_map, List.getElem_range]
      rw [Nat.add_comm, Nat.add_mul_mod_self_right, Nat.mod_eq_of_lt h2]
      simp [h2]

theorem VRs.flat {ρ : Env} {z : List Value} (h : VRs ρ z z) (n : Nat) : VRs ρ (List.replicate n z).flatten (List.replicate n z).flatten := by
  induction n with
  | zero => exact .nil
  | succ n ih => rw [List.replicate_succ, List.flatten_cons]; exact VRs.append h ih

theorem buildSlice_run {C : Ctx} {ρ : Env} {t el : TypeId} {inf : TypeInfo} {z : Value} {len : Nat} {l : List (Nat × Value)} {l' : Array (Nat × Value)} {cells : Array Value}
    (ht : C.P.underlying t = some (.slice el)) (hi : C.P.info? el = some inf) (hz : inf.zero = some z)
    (hc1 : len * inf.size ≤ lim) (hc2 : z.cells.size = inf.size) (hc3 : 0 < inf.size) (hc4 : constOk 4 z = true) (hl : PRs ρ l l'.toList)
    (hf : Instr.fill (fun i => some (i * inf.size, inf.size)) ⟨(List.replicate len z.cells.toList).flatten⟩ l = some cells) :
    ∃ r', Makes C (Instr.buildSlice t len l') (.cells r' el (0, 0)) (fun q => .slice (some ⟨q, 0, none⟩) len len) ∧ VRs ρ cells.toList r'.toList := by
  obtain ⟨r', hr, hrel⟩ := fill_rel (place' := fun i => some (i * inf.size, inf.size)) (fun i p hp => hp) l _ _ ⟨(List.replicate len z.cells.toList).flatten⟩ cells hl (VRs.flat (cells_rel (VR.const 4 z hc4)) len) hf
  refine ⟨r', fun w' => ?_, hrel⟩
  have hrange : (Array.range (len * inf.size)).map (fun i => z.cells[i % z.cells.size]!) = ⟨(List.replicate len z.cells.toList).flatten⟩ := by
    apply Array.toList_inj.1
    rw [flat_rep _ _ (by simp; omega)]
    simp [hc2]
    intro a _
    rw [getElem!_def]
    split <;> simp_all
  have hlim : ¬ len * inf.size > 2 ^ 24 := by have : lim = 65536 := rfl; omega
  simp only [Instr.buildSlice, Sem.run_bind, run_underlying ht, run_sizeOf' hi, Result.andThen_ok, if_neg hlim]
  by_cases h0 : len * inf.size = 0
  · have hlen : len = 0 := by
      rcases Nat.eq_zero_or_pos len with h | h
      · exact h
      · have := Nat.mul_pos h hc3; omega
    subst hlen
    have hr0 : Instr.fill (fun i => some (i * inf.size, inf.size)) #[] l'.toList = some r' := hr
    simp only [h0, if_true, Sem.run_bind, Sem.run_pure, Result.andThen_ok]
    have : (Array.range 0).map (fun i => (#[] : Array Value)[i % (#[] : Array Value).size]!) = #[] := by simp
    rw [this, hr0]
    rfl
  · simp only [if_neg h0, Sem.run_bind, run_zeroValue hi hz, Sem.run_pure, Result.andThen_ok, hrange, hr]
    rfl

theorem makeSlice_run {C : Ctx} {t el : TypeId} {inf : TypeInfo} {z : Value} {k j : IntKind} {l c : Nat}
    (ht : C.P.underlying t = some (.slice el)) (hi : C.P.info? el = some inf) (hz : inf.zero = some z)
    (hb : inf.bytes ≤ lim) (hs : inf.size = 1) (hzs : z.cells.size = 1) (hl : l ≤ c) (hc : c ≤ lim) :
    Makes C (Instr.makeSlice t (.int k (.ofNat l)) (.int j (.ofNat c))) (.cells ⟨List.replicate c (z.cells.toList.headD undef)⟩ el (0, 0)) (fun q => .slice (some ⟨q, 0, none⟩) l c) := by
  intro w'
  have hlim : lim = 65536 := rfl
  have wl : IntKind.i64.wrap (.ofNat l) = .ofNat l := wrap_in .i64 l (by show l < 9223372036854775808; omega)
  have wc : IntKind.i64.wrap (.ofNat c) = .ofNat c := wrap_in .i64 c (by show c < 9223372036854775808; omega)
  have hbc : inf.bytes * c ≤ 65536 * 65536 := Nat.mul_le_mul (by omega) (by omega)
  have hbc2 : c * inf.bytes ≤ 65536 * 65536 := Nat.mul_le_mul (by omega) (by omega)
  have hbc3 : (inf.bytes : Int) * (Int.ofNat c) ≤ 65536 * 65536 := by
    have : ((inf.bytes * c : Nat) : Int) ≤ ((65536 * 65536 : Nat) : Int) := Int.ofNat_le.2 hbc
    simpa using this
  have c0 : ¬ (Int.ofNat c) < 0 := by simp
  have c1 : ¬ (inf.bytes : Int) * (Int.ofNat c) > 2 ^ 48 := by omega
  have l0 : ¬ (Int.ofNat l) < 0 := by simp
  have l1 : ¬ (Int.ofNat l) > (Int.ofNat c) := by simp; omega
  have a1 : ∀ (k : IntKind) (n : Int) (w : World), (asInt (.int k n)).run C.P w = .ok n w := fun _ _ _ => rfl
  have t1 : (Int.ofNat c).toNat = c := rfl
  have t2 : (Int.ofNat l).toNat = l := rfl
  have hroom : ¬ c * inf.bytes > roomBytes := by have : roomBytes = 140737488355328 := rfl; omega
  obtain ⟨x, hx⟩ : ∃ x, z.cells = #[x] := by
    have : z.cells.toList.length = 1 := by simpa using hzs
    match hq : z.cells.toList, this with
    | [x], _ => exact ⟨x, Array.toList_inj.1 hq⟩
  have hmap : (Array.range c).map (fun i => (#[x] : Array Value)[i % (#[x] : Array Value).size]!) = ⟨List.replicate c x⟩ := by
    apply Array.toList_inj.1
    simp [Nat.mod_one]
    apply List.ext_getElem <;> simp
  simp only [Instr.makeSlice, Sem.run_bind, run_underlying ht, a1, run_typeInfo' hi, run_sizeOf' hi, Result.andThen_ok, wl, wc, c0, c1, l0, l1, decide_false, Bool.or_false, Bool.false_eq_true, if_false, askRoom, if_neg hroom, Sem.run_pure, hs, Nat.mul_one, t1, t2]
  by_cases h0 : c = 0
  · subst h0
    have : (Array.range 0).map (fun i => (#[] : Array Value)[i % (#[] : Array Value).size]!) = #[] := by simp
    simp only [if_true, Sem.run_bind, Sem.run_pure, Result.andThen_ok, this]
    rfl
  · simp only [if_neg h0, Sem.run_bind, run_zeroValue hi hz, Sem.run_pure, Result.andThen_ok, hx, hmap]
    rfl

theorem natV_some {v : Value} {n : Nat} (h : natV v = some n) : ∃ k, v = .int k (.ofNat n) := by
  unfold natV at h
  split at h
  · cases h; exact ⟨_, rfl⟩
  · cases h

theorem exec_buildSlice (e : Operand → Value) (dst : Option Tmp) (t : TypeId) (len : Nat) (parts : Array (Nat × Operand)) (ty : TypeId) (pos : String) (after : Array Edge) (gd : Option (Nat × Bool)) :
    execOp e ⟨dst, .buildSlice t len parts, ty, pos, after, gd⟩ = (do pure (.value (← Instr.buildSlice t len (parts.map fun (i, x) => (i, e x))))) := by
  simp only [execOp]

theorem alloc_run {C : Ctx} {ρ : Env} {d : Nat} {o : Oper} {f : Box (AA → Option (Obj × (Nat → Value)))} (hf : allocF C.P d o.op = some f) {a : AA} {e : Operand → Value}
    (hv : ∀ x ∈ o.op.operands, OV ρ d a e x) {ob : Obj} {g : Nat → Value} (h : f.run a = some (ob, g)) :
    ∃ (s : Sem Value) (o' : Obj) (g' : Nat → Value), execOp e o = (do pure (.value (← s))) ∧ Makes C s o' g' ∧ OR C.P ρ 0 ob o' ∧ ∀ ρ2 r q, Env.le ρ ρ2 → ρ2 r = some ⟨q, 0⟩ → VR ρ2 (g r) (g' q) := by
  obtain ⟨dst, op, ty, needs, gd, rest⟩ := o
  simp only at hf hv
  cases op with
  | alloc t =>
    simp only [allocF] at hf
    split at hf
    · rename_i inf hi
      split at hf
      · rename_i z hz
        cases hc : constOk 4 z with
        | false => rw [hc] at hf; cases hf
        | true =>
          rw [hc] at hf
          cases hf
          cases h
          refine ⟨Instr.alloc t true (.tuple #[]), .cells z.cells t (0, 0), fun q => .pointer (some ⟨q, 0, none⟩), rfl, fun w' => ?_, OR.cells (cells_rel (VR.const 4 z hc)), fun ρ2 r q _ h => .ptr_new h⟩
          simp only [Instr.alloc, Sem.run_bind, run_zeroValue hi hz, Result.andThen_ok]
          rfl
      · cases hf
    · cases hf
  | box t x =>
    cases hf
    cases h
    exact ⟨Instr.box t (e x), .cells (e x).cells t (0, 0), fun q => .pointer (some ⟨q, 0, none⟩), rfl, fun w' => rfl, OR.cells (cells_rel (hv x (by simp [Op.operands]))), fun ρ2 r q _ h => .ptr_new h⟩
  | buildSlice t len parts =>
    simp only [allocF] at hf
    split at hf
    · rename_i el ht
      split at hf
      · rename_i inf hi
        split at hf
        · rename_i z hz
          cases hc : (Nat.ble (Nat.mul len inf.size) lim && Nat.beq z.cells.size inf.size && Nat.blt 0 inf.size && constOk 4 z) with
          | false => rw [hc] at hf; cases hf
          | true =>
            rw [hc] at hf
            cases hf
            simp only [Bool.and_eq_true] at hc
            obtain ⟨⟨⟨hc1, hc2⟩, hc3⟩, hc4⟩ := hc
            have hc1 : len * inf.size ≤ lim := Nat.le_of_ble_eq_true hc1
            have hc2 : z.cells.size = inf.size := nat_beq hc2
            have hc3 : 0 < inf.size := blt_iff.1 hc3
            simp only [Box.run_mk, orElse] at h
            generalize hl : (parts.toList.map fun p => (p.1, (opd d p.2).run a)) = l at h
            cases hfill : Instr.fill (fun i => some (Nat.mul i inf.size, inf.size)) ⟨(List.replicate len z.cells.toList).flatten⟩ l with
            | none => rw [hfill] at h; cases h
            | some cells =>
              rw [hfill] at h
              cases h
              have hp2 : PRs ρ l (parts.map fun p => (p.1, e p.2)).toList := by
                rw [Array.toList_map, ← hl]
                exact OPs fun p hp => hv _ (by simp [Op.operands]; exact ⟨p.1, by simpa using hp⟩)
              obtain ⟨r', hr, hrel⟩ := buildSlice_run ht hi hz hc1 hc2 hc3 hc4 hp2 hfill
              refine ⟨_, _, _, exec_buildSlice e dst t len parts ty needs gd rest, hr, OR.cells hrel, ?_⟩
              intro ρ2 r q _ h
              exact .sl_new h (Nat.le_refl _)
        · cases hf
      · cases hf
    · cases hf
  | makeMap t r =>
    cases r with
    | some r => cases hf
    | none =>
      cases hf
      cases h
      exact ⟨Instr.makeMap t none, .map #[] 0, fun q => .map (some q), rfl, fun w' => rfl, ⟨#[], rfl, .nil⟩, fun ρ2 r q _ h => .mp r _ h⟩
  | makeSlice t l c =>
    have hl : OV ρ d a e l := hv l (by simp [Op.operands])
    have hcc : OV ρ d a e c := hv c (by simp [Op.operands])
    simp only [allocF] at hf
    split at hf
    · rename_i el ht
      split at hf
      · rename_i inf hi
        split at hf
        · rename_i z hz
          cases hc : (Nat.ble inf.bytes lim && Nat.beq inf.size 1 && Nat.beq z.cells.size 1 && constOk 4 z) with
          | false => rw [hc] at hf; cases hf
          | true =>
            rw [hc] at hf
            cases hf
            simp only [Bool.and_eq_true] at hc
            obtain ⟨⟨⟨hc1, hc2⟩, hc3⟩, hc4⟩ := hc
            simp only [Box.run_mk] at h
            split at h
            · rename_i n m hn hm
              cases hb : (Nat.ble n m && Nat.ble m lim) with
              | false => rw [hb] at h; cases h
              | true =>
                rw [hb] at h
                cases h
                rw [Bool.and_eq_true] at hb
                have hb1 : n ≤ m := Nat.le_of_ble_eq_true hb.1
                have hb2 : m ≤ lim := Nat.le_of_ble_eq_true hb.2
                obtain ⟨k, hn⟩ := natV_some hn
                obtain ⟨j, hm⟩ := natV_some hm
                unfold OV at hl hcc
                rw [hn] at hl
                rw [hm] at hcc
                refine ⟨Instr.makeSlice t (e l) (e c), .cells ⟨List.replicate m (z.cells.toList.headD undef)⟩ el (0, 0), _, rfl, ?_, ?_, fun ρ2 r q _ h => .sl_new h hb1⟩
                · rw [hl.int_inv, hcc.int_inv]
                  exact makeSlice_run ht hi hz (Nat.le_of_ble_eq_true hc1) (nat_beq hc2) (nat_beq hc3) hb1 hb2
                · refine OR.cells (VRs.refl fun v hv => ?_)
                  rw [(List.mem_replicate.1 hv).2]
                  have := cells_rel (VR.const (ρ := ρ) 4 z hc4)
                  cases hz2 : z.cells.toList with
                  | nil => exact VR.undef
                  | cons x l => rw [hz2] at this; cases this with | cons _ _ _ _ r t => exact r
            · cases h
        · cases hf
      · cases hf
    · cases hf
  | _ => cases hf
end Go.Ab
