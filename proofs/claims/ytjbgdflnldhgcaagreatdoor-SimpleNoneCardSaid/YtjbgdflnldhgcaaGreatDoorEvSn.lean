/- The document's example: awake returns true in every world that holds the listed tables. -/
import Derived.Test.YtjbgdflnldhgcaaGreatDoorEv4
import Derived.Test.YtjbgdflnldhgcaaGreatDoorShelf
import Derived.Test.YtjbgdflnldhgcaaGreatDoorRows
import Derived.Laws.Externs
namespace Go.Proofs.EvSnEv
open Go Go.Ab Go.RowKit
open Go.Proofs.YtjbgdflnldhgcaaGreatDoor
def add64E : Array Value → Sem Value := fun args => do
  let (x, y, c) ← Extern.MathBitsCarry.three "Add64" args
  pure (Extern.MathBitsCarry.pair ((x + y + c) % Extern.MathBitsCarry.m64) ((x + y + c) / Extern.MathBitsCarry.m64))

def addV (x y c : Nat) : Value := .tuple #[.int .u64 (Int.ofNat ((x + y + c) % 18446744073709551616)), .int .u64 (Int.ofNat ((x + y + c) / 18446744073709551616))]

noncomputable def addK (l : List Value) : Option Value :=
  match l with
  | [.int _ x, .int _ y, .int _ (.ofNat c)] => cond (Nat.ble c 1) (some (addV x.toNat y.toNat c)) none
  | _ => none

noncomputable def ext : Known := fun f => if f = 103 then some (fun l => match l with | [v] => some v | _ => none) else if f = 64 then some addK else none

theorem add_run (x y : Int) (c : Nat) (k k1 k2 : IntKind) (hc : c ≤ 1) (w : World) : (callFunc 64 #[.int k x, .int k1 y, .int k2 (.ofNat c)]).run Tryz.prog w = .ok (.value (addV x.toNat y.toNat c)) w := by
  rw [run_callFunc_extern Tryz.func64 (by kernel_rfl) (by kernel_rfl) (by kernel_rfl) (e := add64E) (by kernel_rfl)]
  have : c = 0 ∨ c = 1 := by omega
  rcases this with rfl | rfl <;> rfl

theorem ext_ok : ExtOk Tryz.prog ext := by
  intro f k args v hf hk ρ args' ha
  unfold ext at hf
  split at hf
  · rename_i h33
    subst h33
    cases hf
    simp only at hk
    split at hk
    · rename_i x
      cases hk
      have : ∃ y, args' = #[y] ∧ VR ρ v y := by
        match hq : args'.toList, ha with
        | [y], .cons _ _ _ _ r .nil => exact ⟨y, Array.toList_inj.1 hq, r⟩
      obtain ⟨y, rfl, r⟩ := this
      exact ⟨y, fun w' => by kernel_rfl, r⟩
    · cases hk
  · split at hf
    · rename_i h94
      subst h94
      cases hf
      unfold addK at hk
      split at hk
      · rename_i k1 x k2 y k3 c
        cases hb : Nat.ble c 1 with
        | false => rw [hb] at hk; cases hk
        | true =>
          rw [hb] at hk
          cases hk
          have : args' = #[.int k1 x, .int k2 y, .int k3 (.ofNat c)] := by
            apply Array.toList_inj.1
            match hq : args'.toList, ha with
            | [_, _, _], .cons _ _ _ _ r (.cons _ _ _ _ r2 (.cons _ _ _ _ r3 .nil)) => rw [r.int_inv, r2.int_inv, r3.int_inv]
          subst this
          exact ⟨addV x.toNat y.toNat c, fun w' => add_run x y c k1 k2 k3 (Nat.le_of_ble_eq_true hb) w', .tuple _ _ (.cons _ _ _ _ (.int _ _) (.cons _ _ _ _ (.int _ _) .nil))⟩
      · cases hk
    · cases hf

noncomputable def idxK (l : List Value) : Option Value :=
  match l with
  | [.string s, .int .u8 c] => some (.int .i64 (Lib.indexByte s.data.toList c.toNat.toUInt8))
  | _ => none

noncomputable def kn : Known := fun f => if f = 91 then some idxK else none

theorem kn_ok : KnOk Tryz.prog kn := by
  intro f k args v hf hk ρ args' ha
  unfold kn at hf
  split at hf
  · rename_i h50
    subst h50
    cases hf
    unfold idxK at hk
    split at hk
    · rename_i s c
      cases hk
      have : args' = #[.string s, .int .u8 c] := by
        apply Array.toList_inj.1
        match hq : args'.toList, ha with
        | [_, _], .cons _ _ _ _ r (.cons _ _ _ _ r2 .nil) => rw [r.string_inv, r2.int_inv]
      subst this
      refine ⟨_, .int _ _, ⟨Tryz.f91, by kernel_rfl, by kernel_rfl, by decide⟩, fun w' => Calls.mono (Tryz.strings_IndexByte s c w') ?_⟩
      rintro en w'' ⟨rfl, rfl⟩
      exact ⟨rfl, Below.refl _ _⟩
    · cases hk
  · cases hf

def nums (d : DataW Unit) : List Int := match d with
  | .agg l => l.map fun | .lit (.int _ z) => z | _ => 0
  | _ => []

/-- the tables, their blocks' types and marks left open -/
noncomputable def tabs (t : (Nat → TypeId) × (Nat → Nat × Nat)) : List Tab := [⟨0, .u8, nums Rows.laid_math_bits_deBruijn64tab, t.1 0, t.2 0⟩]

def jn (f : FuncId) : Bool := false

theorem awake_calls (t : (Nat → TypeId) × (Nat → Nat × Nat)) {w' : World} (hw : Holds w' (tabs t)) : Calls Tryz.prog 8 #[] w' fun en w'' => en = .returned (.bool true) ∧ Below w'.heap.size w' w'' :=
  answers_true_g (G := 7) (ext := ext) (kn := kn) (jn := jn) (fuel := 1000) (depth := 60) (l := tabs t) (by kernel_rfl) ext_ok kn_ok (by unfold tabs; simp) (by decide) (by unfold Done; kernel_rfl) hw
end Go.Proofs.EvSnEv
