/- For every n the call caltroplaw28.SimpleNone(n) returns true, and n reads afterwards as it read before. Conditions: those of the given card alone (one package variable of Go's library holds what the program's text lays there). -/
import Derived.Test.YtjbgdflnldhgcaaGreatDoorSnLaw
import Derived.Test.YtjbgdflnldhgcaaGreatDoorRows
import Derived.Test.YtjbgdflnldhgcaaGreatDoorCards
import Derived.Test.YtjbgdflnldhgcaaGreatDoorTie
import Derived.ChangeSame
import Derived.ChangeVars
import Derived.ChangeMaps
import Derived.JoinedOf
import Derived.RowKit
import Derived.RowKitTokens
import Derived.LaidLaws
import Derived.LaidHandle
import Derived.Stop.Joined
import Derived.Lib.LaidIn
import Derived.Lib.LaidTab
import Derived.SevenTiedAt
namespace Go.Proofs.YtjbgdflnldhgcaaGreatDoor
open Go Go.ChangeShapes Go.WideShapes Go.RowKit Go.Ab Go.Proofs.EvSnEv

theorem Tryz.own : ownKnob Tryz.prog.godebug = none := by kernel_rfl
theorem Tryz.gTab : Tryz.prog.globalNamed "math/bits.deBruijn64tab" = some 0 := by kernel_rfl

theorem heap_of_tab {P : Program} {w : World} {name : String} {k : IntKind} {zs : List Int} {g : Nat} (hg : P.globalNamed name = some g) (h : Lib.TabIs P w name k zs) : ∃ t fr, w.heap[g]? = some (.cells ⟨zs.map (Value.int k)⟩ t fr) := by
  unfold Lib.TabIs World.var? at h
  rw [hg] at h
  simp only [Option.bind_some] at h
  split at h
  · rename_i cs t fr hh
    cases h
    exact ⟨t, fr, hh⟩
  · cases h

theorem holds_of_laid {W : World} (hL : laidMetH Tryz.prog Rows.simpleNoneRow.laid W) : ∃ t, Holds W (tabs t) := by
  have h : laidMet Tryz.prog (("math/bits.deBruijn64tab", Lib.tabData .u8 (nums Rows.laid_math_bits_deBruijn64tab)) :: []) W := hL
  have ht := Lib.tabIs_of_head (g := 0) (t := 134) (e := 5) (n := 64) Tryz.gTab (by kernel_rfl) Tryz.underlying134 Tryz.underlying5 (by kernel_rfl) (by kernel_rfl) h
  obtain ⟨t, fr, hh⟩ := heap_of_tab Tryz.gTab ht
  refine ⟨(fun _ => t, fun _ => fr), ?_⟩
  intro x hx
  obtain rfl := List.mem_singleton.1 hx
  exact hh

/-- A world that meets the condition: the settled one, the variable laid. -/
noncomputable def laidWorld (os : Os) : World :=
  let w0 := World.holding Tryz.prog os ⟨#[], #[], []⟩
  let put (h : Array Obj) (g : Nat) (cs : Array Value) : Array Obj := h.modify g fun
    | .cells _ t frozen => .cells cs t frozen
    | o => o
  { w0 with heap := put w0.heap 0 ((nums Rows.laid_math_bits_deBruijn64tab).map (Value.int .u8)).toArray }

theorem laidWorld_met (os : Os) (args : Array Value) : laidMetH Tryz.prog Rows.simpleNoneRow.laid ((laidWorld os).forCall (fun _ _ => 0) ⟨#[], args, []⟩).memory :=
  laidMetH_of_parts (LaidIn.of_run [0] 8 (by kernel_rfl) (by kernel_rfl) (by kernel_rfl) (by kernel_rfl)).met (by kernel_rfl)

set_option maxRecDepth 100000 in
theorem law_lifted (os : Os) (started : os.Started) (H : Type) (enc : TypeId × Value → H) :
    ReturnsInHanded {} Tryz.checked os 3 .any (fun w args => (Rows.simpleNoneSpec.pre enc Tryz.prog Tryz.f3 [] false w args ∧ laidMetH Tryz.prog Rows.simpleNoneRow.laid w) ∧ sizedMet enc Tryz.prog Tryz.f3 (OpenSpec.ofChange Rows.simpleNoneSpec) false w args)
      (Rows.simpleNoneSpec.post enc Tryz.prog Tryz.f3 false true false false) := by
  refine returnsInHanded_of_change_and (C := Tryz.checked) (X := fun w _ => laidMetH Tryz.prog Rows.simpleNoneRow.laid w) (fun _ _ _ hh h => h.of_heap hh) Tryz.own started (by kernel_rfl) Tryz.func3
    (ChangeSpec.witness_at (enc := enc) (C := Tryz.checked) (os := os) (X := fun w _ => laidMetH Tryz.prog Rows.simpleNoneRow.laid w) false (laidWorld os) #[.int .u8 0] 8 rfl (by kernel_rfl) (by kernel_rfl) (by kernel_rfl) (by kernel_rfl) (by kernel_rfl) (laidWorld_met os _)) ?_
  intro W base args ds gs before hval0 hW _ _ hL _
  have hval : ∀ (j : Nat) t v, Tryz.f3.params[j]? = some t → args[j]? = some v → Value.okWide Tryz.prog W .any base t v := hval0
  have hW' := hW
  obtain ⟨p, q, hA0, hV0, rfl, hfz, hnd⟩ := hW
  have hA : DataW.TrodAll enc Tryz.prog W 0 (fun _ => true) true Tryz.f3.params.toList args.toList ds p := hA0
  have hV : DataW.TrodVars enc Tryz.prog W (fun _ => true) [] gs q := hV0
  rw [Tryz.params3] at hA hval
  obtain ⟨v0, d0, rfl, rfl, h0⟩ := trodAll_one hA
  obtain ⟨n, rfl, rfl, rfl, hwn⟩ := open_int Tryz.underlying5 (hval 0 5 v0 rfl rfl) h0
  obtain ⟨t, hT⟩ := holds_of_laid hL
  have hn : 0 ≤ n ∧ n ≤ 255 := by
    simp only [Lit.wf, Bool.and_eq_true, decide_eq_true_eq] at hwn
    exact hwn
  obtain ⟨m, rfl⟩ : ∃ m : Nat, n = m := ⟨n.toNat, by omega⟩
  obtain ⟨rfl, rfl⟩ : gs = [] ∧ q = [] := by
    cases gs with
    | nil => exact ⟨rfl, hV⟩
    | cons g r => exact absurd hV (by intro h; cases h)
  have e1 : Rows.simpleNoneSpec.fn H ([.lit (.int .u8 (m : Int))] ++ []) = { results := [.lit (.bool true)], args := [.lit (.int .u8 (m : Int))] } := by simp [Rows.simpleNoneSpec]
  refine (Sn.law_any t m (by omega) W hT).mono fun e W' ⟨he, hw⟩ => ?_
  subst he
  refine ⟨_, rfl, _, _, _, [], [], [], hW', ?_, ?_, ?_, hw.frame _, fun h => by cases h⟩
  · rw [e1]; exact trodAll_mk1 (shut_bool Tryz.underlying4 true)
  · rw [e1]; exact trodAll_mk1 (shut_int Tryz.underlying5 hwn)
  · rw [e1]; rfl

theorem f_holds : Rows.SimpleNoneSaid :=
  OpenClaim.holds_of_wide 3 Tryz.f3 rfl rfl rfl rfl rfl rfl rfl ⟨rfl, rfl, rfl, rfl, rfl⟩ rfl rfl rfl rfl rfl (by kernel_rfl) Tryz.func3 (by kernel_rfl)
    (of_decide_eq_true (by kernel_rfl)) (by unfold Func.isWrapper; rw [if_neg (of_decide_eq_false (by kernel_rfl))]; exact ⟨rfl, rfl⟩)
    (fun os started H enc _ => law_lifted os started H enc)

theorem card_holds : Rows.SimpleNoneCardSaid :=
  Claim7.holds_tied_plain_at .later [] [.data] true (true, "6a60b20c62d41deae7d8930833526537e0b8d40c853df035a937e66535211ddd") false
    f_holds (fun _ h => by cases h) (by kernel_rfl) (fun _ h => by cases h) simpleNone_row_tie rfl ⟨rfl, rfl⟩ (by kernel_rfl) rfl
    (fun f fn hf hfn => by
      obtain rfl : f = 3 := Option.some.inj ((show Tryz.prog.funcNamed "caltrop/caltroplaw28.SimpleNone" = some 3 by kernel_rfl).symm.trans hf) |>.symm
      obtain rfl : fn = Tryz.f3 := (Option.some.inj (Tryz.func3.symm.trans hfn)).symm
      exact ⟨by kernel_rfl, fun j t ht => by
        rw [Tryz.params3] at ht
        have h3 : t = 5 := by
          rcases j with _ | j
          · simpa using ht.symm
          · simp at ht
        subst h3
        exact (show Tryz.prog.wantsStandIn 5 = false by kernel_rfl)⟩)
    (by kernel_rfl)
end Go.Proofs.YtjbgdflnldhgcaaGreatDoor
