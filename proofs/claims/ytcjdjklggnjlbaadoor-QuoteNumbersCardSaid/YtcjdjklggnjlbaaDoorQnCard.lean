/- For every int n and every string w the call caltroplaw02.QuoteNumbers(n, w) returns true, and n and w read afterwards as they read before. Conditions: those of the given card alone (the five listed package variables of Go's library hold what the program's text lays there). -/
import Derived.Test.YtcjdjklggnjlbaaDoorQnLaw
import Derived.Test.YtcjdjklggnjlbaaDoorRows
import Derived.Test.YtcjdjklggnjlbaaDoorCards
import Derived.Test.YtcjdjklggnjlbaaDoorTie
import Derived.ChangeSame
import Derived.ChangeVars
import Derived.ChangeMaps
import Derived.JoinedOf
import Derived.RowKit
import Derived.RowKitTokens
import Derived.LaidLaws
import Derived.LaidHandle
import Derived.Stop.Joined
import Derived.Stop.LaidErr
import Derived.Lib.LaidIn
import Derived.SevenTiedAt
namespace Go.Proofs.YtcjdjklggnjlbaaDoor
open Go Go.ChangeShapes Go.WideShapes Go.RowKit Go.Proofs.Qn
open Go.ChangeMaps (open_string shut_string)

theorem Tryd.own : ownKnob Tryd.prog.godebug = none := by kernel_rfl
theorem Tryd.star : "*" ++ "errors.errorString" = "*errors.errorString" := by decide
theorem Tryd.row84 (u : TypeId) (h : Tryd.prog.typeName? 3 u = some "*errors.errorString") : u = 84 :=
  typeName_ptr_named (nm := "errors.errorString") (by rw [Tryd.star]; kernel_rfl) (by kernel_rfl) (by decide) u (by rw [Tryd.star]; exact h)
theorem Tryd.gErrS : Tryd.prog.globalNamed "strconv.ErrSyntax" = some 0 := by kernel_rfl
theorem Tryd.gErrR : Tryd.prog.globalNamed "strconv.ErrRange" = some 1 := by kernel_rfl
theorem Tryd.gTab : Tryd.prog.globalNamed "internal/strconv.uint64pow10" = some 2 := by kernel_rfl

theorem tab_eq {H : Type} : (Rows.laid_internal_strconv_uint64pow10 : DataW H) = Lib.tabData .u64 Lib.pow10Tab := by rfl

theorem big_of_tab {W : World} (h : Lib.TabIs Tryd.prog W "internal/strconv.uint64pow10" .u64 Lib.pow10Tab) : 3 ≤ W.heap.size := by
  unfold Lib.TabIs World.var? at h
  rw [Tryd.gTab] at h
  simp only [Option.bind_some] at h
  rcases Nat.lt_or_ge 2 W.heap.size with k | k
  · exact k
  · rw [Array.getElem?_eq_none k] at h
    cases h

theorem start_of_laid {W : World} (hL : laidMetH Tryd.prog Rows.quoteNumbersRow.laid W) : Qn.Start W := by
  have h : laidMet Tryd.prog Rows.quoteNumbersRow.laid W := hL
  have h2 := h.tail.tail
  have h2' : laidMet Tryd.prog (("internal/strconv.uint64pow10", Lib.tabData .u64 Lib.pow10Tab) :: Rows.quoteNumbersRow.laid.tail.tail.tail) W := h2
  have h3 := h2.tail
  have h4 := h3.tail
  obtain ⟨a0, s0, hv0, -, -, -⟩ := laid_sentinel (g := 1) h3 Tryd.gErrR (by kernel_rfl) Tryd.underlying32 Tryd.row84 Tryd.underlying84 Tryd.underlying86 rfl rfl Tryd.underlying9 (by kernel_rfl) (by kernel_rfl)
  obtain ⟨a1, s1, hv1, -, -, -⟩ := laid_sentinel (g := 0) h4 Tryd.gErrS (by kernel_rfl) Tryd.underlying32 Tryd.row84 Tryd.underlying84 Tryd.underlying86 rfl rfl Tryd.underlying9 (by kernel_rfl) (by kernel_rfl)
  have ht := Lib.tabIs_of_head (g := 2) (t := 77) (e := 65) (n := 20) Tryd.gTab (by kernel_rfl) Tryd.underlying77 Tryd.underlying65 (by kernel_rfl) (by kernel_rfl) h2'
  refine ⟨ht, ?_, ?_, big_of_tab ht⟩
  · exact ⟨_, _, by have h0 := World.var?_cell Tryd.gErrS hv1 0; simpa using h0⟩
  · exact ⟨_, _, by have h0 := World.var?_cell Tryd.gErrR hv0 0; simpa using h0⟩

/-- A world that meets the condition: the settled one, the five variables laid. -/
noncomputable def laidWorld (os : Os) : World :=
  let N := (World.settled Tryd.prog os).heap.size
  let w0 := World.holding Tryd.prog os ⟨#[.cells #[.string ⟨#[118, 97, 108, 117, 101, 32, 111, 117, 116, 32, 111, 102, 32, 114, 97, 110, 103, 101]⟩] 86, .cells #[.string ⟨#[105, 110, 118, 97, 108, 105, 100, 32, 115, 121, 110, 116, 97, 120]⟩] 86], #[], []⟩
  let put (h : Array Obj) (g : Nat) (cs : Array Value) : Array Obj := h.modify g fun
    | .cells _ t frozen => .cells cs t frozen
    | o => o
  let nums (k : IntKind) (d : DataW Unit) : Array Value := match d with
    | .agg l => (l.map fun | .lit (.int _ z) => Value.int k z | _ => undef).toArray
    | _ => #[]
  let h0 := put (put w0.heap 1 #[.iface 84 (.pointer (some ⟨N, 0, none⟩))]) 0 #[.iface 84 (.pointer (some ⟨N + 1, 0, none⟩))]
  let h1 := put h0 2 (nums .u64 Rows.laid_internal_strconv_uint64pow10)
  let h2 := put h1 3 (nums .u8 Rows.laid_math_bits_deBruijn32tab)
  let h3 := put h2 4 (nums .u8 Rows.laid_math_bits_deBruijn64tab)
  { w0 with heap := h3 }

noncomputable abbrev N0 : Nat := (World.settled Tryd.prog default).heap.size
theorem laidWorld_met (os : Os) (args : Array Value) : laidMetH Tryd.prog Rows.quoteNumbersRow.laid ((laidWorld os).forCall (fun _ _ => 0) ⟨#[], args, []⟩).memory :=
  laidMetH_of_parts (LaidIn.of_run [3, 4, 2, 1, 0, N0, N0 + 1] 8 (by kernel_rfl) (by kernel_rfl) (by kernel_rfl) (by kernel_rfl)).met (by kernel_rfl)

theorem keptBut_of {W W' : World} (h : Below W.heap.size W W') (may : MemPlace → Prop) : W.keptBut W' may := h.frame may

set_option maxRecDepth 100000 in
theorem law_lifted (os : Os) (started : os.Started) (H : Type) (enc : TypeId × Value → H) :
    ReturnsInHanded {} Tryd.checked os 3 .any (fun w args => (Rows.quoteNumbersSpec.pre enc Tryd.prog Tryd.f3 [] false w args ∧ laidMetH Tryd.prog Rows.quoteNumbersRow.laid w) ∧ sizedMet enc Tryd.prog Tryd.f3 (OpenSpec.ofChange Rows.quoteNumbersSpec) false w args)
      (Rows.quoteNumbersSpec.post enc Tryd.prog Tryd.f3 false true false false) := by
  refine returnsInHanded_of_change_and (C := Tryd.checked) (X := fun w _ => laidMetH Tryd.prog Rows.quoteNumbersRow.laid w) (fun _ _ _ hh h => h.of_heap hh) Tryd.own started (by kernel_rfl) Tryd.func3
    (ChangeSpec.witness_at (enc := enc) (C := Tryd.checked) (os := os) (X := fun w _ => laidMetH Tryd.prog Rows.quoteNumbersRow.laid w) false (laidWorld os) #[.int .i64 0, .string ⟨#[]⟩] 8 rfl (by kernel_rfl) (by kernel_rfl) (by kernel_rfl) (by kernel_rfl) (by kernel_rfl) (laidWorld_met os _)) ?_
  intro W base args ds gs before hval0 hW _ _ hL _
  have hval : ∀ (j : Nat) t v, Tryd.f3.params[j]? = some t → args[j]? = some v → Value.okWide Tryd.prog W .any base t v := hval0
  have hW' := hW
  obtain ⟨p, q, hA0, hV0, rfl, hfz, hnd⟩ := hW
  have hA : DataW.TrodAll enc Tryd.prog W 0 (fun _ => true) true Tryd.f3.params.toList args.toList ds p := hA0
  have hV : DataW.TrodVars enc Tryd.prog W (fun _ => true) [] gs q := hV0
  rw [Tryd.params3] at hA hval
  obtain ⟨v0, v1, d0, d1, p0, p1, rfl, rfl, rfl, h0, h1⟩ := trodAll_two hA
  obtain ⟨n, rfl, rfl, rfl, hwn⟩ := open_int Tryd.underlying3 (hval 0 3 v0 rfl rfl) h0
  obtain ⟨s, rfl, rfl, rfl, hws⟩ := open_string Tryd.underlying9 (hval 1 9 v1 rfl rfl) h1
  have hS := start_of_laid hL
  have hn : IsInt n := by
    simp only [Lit.wf, Bool.and_eq_true, decide_eq_true_eq] at hwn
    exact hwn
  obtain ⟨rfl, rfl⟩ : gs = [] ∧ q = [] := by
    cases gs with
    | nil => exact ⟨rfl, hV⟩
    | cons g r => exact absurd hV (by intro h; cases h)
  have e1 : Rows.quoteNumbersSpec.fn H ([.lit (.int .i64 n), .lit (.string s.data.toList)] ++ []) = { results := [.lit (.bool true)], args := [.lit (.int .i64 n), .lit (.string s.data.toList)] } := by simp [Rows.quoteNumbersSpec]
  have hlaw : Calls Tryd.prog 3 #[.int .i64 n, .string s] W fun e w' => e = .returned (.bool true) ∧ Below W.heap.size W w' := by
    by_cases hl : 100 < s.size
    · exact law_long n s hl hws W
    · cases hp : Qn.parse s.data.toList with
      | some m => exact law_yes n hn s (by omega) hp W hS
      | none => exact law_no n hn s (by omega) hp W hS
  refine hlaw.mono fun e W' ⟨he, hw⟩ => ?_
  subst he
  refine ⟨_, rfl, _, _, _, [], [], [], hW', ?_, ?_, ?_, hw.frame _, fun h => by cases h⟩
  · rw [e1]; exact trodAll_mk1 (shut_bool Tryd.underlying4 true)
  · rw [e1]; exact trodAll_mk2 (shut_int Tryd.underlying3 hwn) (shut_string Tryd.underlying9 hws)
  · rw [e1]; rfl

theorem f_holds : Rows.QuoteNumbersSaid :=
  OpenClaim.holds_of_wide 3 Tryd.f3 rfl rfl rfl rfl rfl rfl rfl ⟨rfl, rfl, rfl, rfl, rfl⟩ rfl rfl rfl rfl rfl (by kernel_rfl) Tryd.func3 (by kernel_rfl)
    (of_decide_eq_true (by kernel_rfl)) (by unfold Func.isWrapper; rw [if_neg (of_decide_eq_false (by kernel_rfl))]; exact ⟨rfl, rfl⟩)
    (fun os started H enc _ => law_lifted os started H enc)

theorem card_holds : Rows.QuoteNumbersCardSaid :=
  Claim7.holds_tied_plain_at .later [] [.data, .data, .data, .sentinel, .sentinel] true (true, "5558002d8a39b98698e4f698a4109106413522db1d392b27da3768dd77b9df28") true
    f_holds (fun _ h => by cases h) (by kernel_rfl) (fun _ h => by cases h) quoteNumbers_row_tie rfl ⟨rfl, rfl⟩ (by kernel_rfl) rfl
    (fun f fn hf hfn => by
      obtain rfl : f = 3 := Option.some.inj ((show Tryd.prog.funcNamed "caltrop/caltroplaw02.QuoteNumbers" = some 3 by kernel_rfl).symm.trans hf) |>.symm
      obtain rfl : fn = Tryd.f3 := (Option.some.inj (Tryd.func3.symm.trans hfn)).symm
      exact ⟨by kernel_rfl, fun j t ht => by
        rw [Tryd.params3] at ht
        have h3 : t = 3 ∨ t = 9 := by
          rcases j with _ | _ | j
          · left; simpa using ht.symm
          · right; simpa using ht.symm
          · simp at ht
        rcases h3 with rfl | rfl
        · exact (show Tryd.prog.wantsStandIn 3 = false by kernel_rfl)
        · exact (show Tryd.prog.wantsStandIn 9 = false by kernel_rfl)⟩)
    (by kernel_rfl)
end Go.Proofs.YtcjdjklggnjlbaaDoor
