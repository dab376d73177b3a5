/- The document's example of layer 24: awake returns true in every world. -/
import Derived.Test.YtcioaghchnkepaaGreatDoorEv4
import Derived.Test.YtcioaghchnkepaaGreatDoorShelf
import Derived.Laws.Externs
namespace Go.Proofs.TryzEv
open Go Go.Ab Go.RowKit

def add64E : Array Value → Sem Value := fun args => do
  let (x, y, c) ← Extern.MathBitsCarry.three "Add64" args
  pure (Extern.MathBitsCarry.pair ((x + y + c) % Extern.MathBitsCarry.m64) ((x + y + c) / Extern.MathBitsCarry.m64))

def addV (x y c : Nat) : Value := .tuple #[.int .u64 (Int.ofNat ((x + y + c) % 18446744073709551616)), .int .u64 (Int.ofNat ((x + y + c) / 18446744073709551616))]

noncomputable def addK (l : List Value) : Option Value :=
  match l with
  | [.int _ x, .int _ y, .int _ (.ofNat c)] => cond (Nat.ble c 1) (some (addV x.toNat y.toNat c)) none
  | _ => none

noncomputable def ext : Known := fun f => if f = 50 then some (fun l => match l with | [v] => some v | _ => none) else if f = 94 then some addK else none

theorem add_run (x y : Int) (c : Nat) (k k1 k2 : IntKind) (hc : c ≤ 1) (w : World) : (callFunc 94 #[.int k x, .int k1 y, .int k2 (.ofNat c)]).run Tryz.prog w = .ok (.value (addV x.toNat y.toNat c)) w := by
  rw [run_callFunc_extern Tryz.func94 (by kernel_rfl) (by kernel_rfl) (by kernel_rfl) (e := add64E) (by kernel_rfl)]
  have : c = 0 ∨ c = 1 := by omega
  rcases this with rfl | rfl <;> rfl

theorem ext_ok : ExtOk Tryz.prog ext := by
  intro f k args v hf hk ρ args' ha
  unfold ext at hf
  split at hf
  · rename_i h33
    subst h33
    cases hf
    simp only at hk
    split at hk
    · rename_i x
      cases hk
      have : ∃ y, args' = #[y] ∧ VR ρ v y := by
        match hq : args'.toList, ha with
        | [y], .cons _ _ _ _ r .nil => exact ⟨y, Array.toList_inj.1 hq, r⟩
      obtain ⟨y, rfl, r⟩ := this
      exact ⟨y, fun w' => by kernel_rfl, r⟩
    · cases hk
  · split at hf
    · rename_i h94
      subst h94
      cases hf
      unfold addK at hk
      split at hk
      · rename_i k1 x k2 y k3 c
        cases hb : Nat.ble c 1 with
        | false => rw [hb] at hk; cases hk
        | true =>
          rw [hb] at hk
          cases hk
          have : args' = #[.int k1 x, .int k2 y, .int k3 (.ofNat c)] := by
            apply Array.toList_inj.1
            match hq : args'.toList, ha with
            | [_, _, _], .cons _ _ _ _ r (.cons _ _ _ _ r2 (.cons _ _ _ _ r3 .nil)) => rw [r.int_inv, r2.int_inv, r3.int_inv]
          subst this
          exact ⟨addV x.toNat y.toNat c, fun w' => add_run x y c k1 k2 k3 (Nat.le_of_ble_eq_true hb) w', .tuple _ _ (.cons _ _ _ _ (.int _ _) (.cons _ _ _ _ (.int _ _) .nil))⟩
      · cases hk
    · cases hf

noncomputable def repK (l : List Value) : Option Value :=
  match l with
  | [.string s, .int .i64 n] => cond (Nat.ble (Nat.mul s.data.toList.length n.toNat) 100000 && Nat.ble n.toNat 100000 && decide (0 ≤ n)) (some (.string ⟨(Lib.repeatL s.data.toList n.toNat).toArray⟩)) none
  | _ => none

noncomputable def idxK (l : List Value) : Option Value :=
  match l with
  | [.string s, .int .u8 c] => some (.int .i64 (Lib.indexByte s.data.toList c.toNat.toUInt8))
  | _ => none

noncomputable def kn : Known := fun f => if f = 107 then some idxK else if f = 29 then some repK else none

theorem kn_ok : KnOk Tryz.prog kn := by
  intro f k args v hf hk ρ args' ha
  unfold kn at hf
  split at hf
  · rename_i h50
    subst h50
    cases hf
    unfold idxK at hk
    split at hk
    · rename_i s c
      cases hk
      have : args' = #[.string s, .int .u8 c] := by
        apply Array.toList_inj.1
        match hq : args'.toList, ha with
        | [_, _], .cons _ _ _ _ r (.cons _ _ _ _ r2 .nil) => rw [r.string_inv, r2.int_inv]
      subst this
      refine ⟨_, .int _ _, ⟨Tryz.f107, by kernel_rfl, by kernel_rfl, by decide⟩, fun w' => Calls.mono (Tryz.strings_IndexByte s c w') ?_⟩
      rintro en w'' ⟨rfl, rfl⟩
      exact ⟨rfl, Below.refl _ _⟩
    · cases hk
  · split at hf
    · rename_i h29
      subst h29
      cases hf
      unfold repK at hk
      split at hk
      · rename_i s n
        cases hb : (Nat.ble (Nat.mul s.data.toList.length n.toNat) 100000 && Nat.ble n.toNat 100000 && decide (0 ≤ n)) with
        | false => rw [hb] at hk; cases hk
        | true =>
          rw [hb] at hk
          cases hk
          simp only [Bool.and_eq_true, decide_eq_true_eq] at hb
          obtain ⟨⟨h1, h2⟩, h3⟩ := hb
          have h1 := Nat.le_of_ble_eq_true h1
          have h2 := Nat.le_of_ble_eq_true h2
          have : args' = #[.string s, .int .i64 n] := by
            apply Array.toList_inj.1
            match hq : args'.toList, ha with
            | [_, _], .cons _ _ _ _ r (.cons _ _ _ _ r2 .nil) => rw [r.string_inv, r2.int_inv]
          subst this
          have hs : s.data.toList.length = s.size := by simp
          rw [hs] at h1
          have h1 : s.size * n.toNat ≤ 100000 := h1
          obtain ⟨c, rfl⟩ : ∃ c : Nat, n = c := ⟨n.toNat, by omega⟩
          rw [Int.toNat_natCast] at h1 h2 ⊢
          refine ⟨_, .string _, ⟨Tryz.f29, by kernel_rfl, by kernel_rfl, by decide⟩, fun w' => Calls.mono (Tryz.strings_Repeat s c w' (by omega) (by omega)) ?_⟩
          rintro en w'' ⟨rfl, hb⟩
          exact ⟨rfl, hb⟩
      · cases hk
    · cases hf

/-- where ways are told as one -/
noncomputable def jn (f : FuncId) : Bool := Nat.beq f 65 || Nat.beq f 92 || Nat.beq f 27 || Nat.beq f 26 || Nat.beq f 28

theorem awake_calls {w' : World} : Calls Tryz.prog 8 #[] w' fun en w'' => en = .returned (.bool true) ∧ Below w'.heap.size w' w'' :=
  answers_true (G := 9) (ext := ext) (kn := kn) (jn := jn) (fuel := 1000) (depth := 60) (by kernel_rfl) ext_ok kn_ok (by unfold Done; kernel_rfl)
end Go.Proofs.TryzEv
