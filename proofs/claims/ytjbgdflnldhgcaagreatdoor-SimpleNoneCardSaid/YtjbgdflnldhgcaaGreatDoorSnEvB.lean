/- Closed calls of SimpleNone's, by the evaluator. -/
import Derived.Test.YtjbgdflnldhgcaaGreatDoorEvSn
namespace Go.Proofs.EvSnEv
open Go Go.Ab Go.RowKit

/-- what the printer tells of the Set of nothing -/
def noSet : ByteArray := ⟨#[91, 94, 92, 120, 48, 48, 45, 92, 120, 102, 102, 93]⟩

theorem set_calls (t : (Nat → TypeId) × (Nat → Nat × Nat)) {w' : World} (hw : Holds w' (tabs t)) : Calls Tryz.prog 25 #[.agg #[.int .u64 0, .int .u64 0, .int .u64 0, .int .u64 0]] w' fun en w'' => en = .returned (.string noSet) ∧ Below w'.heap.size w' w'' :=
  answers_plain (G := 7) (ext := ext) (kn := kn) (jn := jn) (fuel := 1000) (depth := 60) (l := tabs t) (args := [.agg #[.int .u64 0, .int .u64 0, .int .u64 0, .int .u64 0]]) (x := .string noSet) (by kernel_rfl) ext_ok kn_ok (by unfold tabs; simp) (by decide)
    (fun _ => .cons _ _ _ _ (.agg _ _ (.cons _ _ _ _ (.int _ _) (.cons _ _ _ _ (.int _ _) (.cons _ _ _ _ (.int _ _) (.cons _ _ _ _ (.int _ _) .nil))))) .nil) (fun _ _ h => h.string_inv) (by unfold Done; kernel_rfl) hw

theorem saved_calls (t : (Nat → TypeId) × (Nat → Nat × Nat)) {w' : World} (hw : Holds w' (tabs t)) : Calls Tryz.prog 7 #[.pointer none] w' fun en w'' => en = .returned (.int .i64 0) ∧ Below w'.heap.size w' w'' :=
  answers_plain (G := 7) (ext := ext) (kn := kn) (jn := jn) (fuel := 1000) (depth := 60) (l := tabs t) (args := [.pointer none]) (x := .int .i64 0) (by kernel_rfl) ext_ok kn_ok (by unfold tabs; simp) (by decide)
    (fun _ => .cons _ _ _ _ .nilp .nil) (fun _ _ h => h.int_inv) (by unfold Done; kernel_rfl) hw
end Go.Proofs.EvSnEv
