/- QuoteNumbers' seat: the functions that are answered, and the law's own run. -/
import Derived.Test.YtcjdjklggnjlbaaDoorEvTop
import Derived.Lib.Builder
import Derived.Test.YtcjdjklggnjlbaaDoorShelf
namespace Go.Proofs.TrydEv
open Go Go.Ab Go.RowKit

noncomputable def ext : Known := fun f => if f = 33 then some (fun l => match l with | [v] => some v | _ => none) else none

theorem ext_ok : ExtOk Tryd.prog ext := by
  intro f k args v hf hk ρ args' ha
  unfold ext at hf
  split at hf
  · rename_i h33
    subst h33
    cases hf
    simp only at hk
    split at hk
    · rename_i x
      cases hk
      have : ∃ y, args' = #[y] ∧ VR ρ v y := by
        match hq : args'.toList, ha with
        | [y], .cons _ _ _ _ r .nil => exact ⟨y, Array.toList_inj.1 hq, r⟩
      obtain ⟨y, rfl, r⟩ := this
      exact ⟨y, fun w' => rfl, r⟩
    · cases hk
  · cases hf

noncomputable def kn : Known := fun f => if f = 50 then some (fun l => match l with | [.string s, .int .u8 c] => some (.int .i64 (Lib.indexByte s.data.toList c.toNat.toUInt8)) | _ => none) else none

theorem kn_ok : KnOk Tryd.prog kn := by
  intro f k args v hf hk ρ args' ha
  unfold kn at hf
  split at hf
  · rename_i h50
    subst h50
    cases hf
    simp only at hk
    split at hk
    · rename_i s c
      cases hk
      have : args' = #[.string s, .int .u8 c] := by
        apply Array.toList_inj.1
        match hq : args'.toList, ha with
        | [_, _], .cons _ _ _ _ r (.cons _ _ _ _ r2 .nil) => rw [r.string_inv, r2.int_inv]
      subst this
      refine ⟨_, .int _ _, ⟨Tryd.f50, by kernel_rfl, by kernel_rfl, by decide⟩, fun w' => Calls.mono (Tryd.strings_IndexByte s c w') ?_⟩
      rintro en w'' ⟨rfl, rfl⟩
      exact ⟨rfl, Below.refl _ _⟩
    · cases hk
  · cases hf

theorem awake_calls {w' : World} : Calls Tryd.prog 4 #[] w' fun en w'' => en = .returned (.bool true) ∧ Below w'.heap.size w' w'' :=
  answers_true (G := 11) (ext := ext) (kn := kn) (fuel := 1000) (depth := 50) (by kernel_rfl) ext_ok kn_ok (by unfold Done; kernel_rfl)
end Go.Proofs.TrydEv
