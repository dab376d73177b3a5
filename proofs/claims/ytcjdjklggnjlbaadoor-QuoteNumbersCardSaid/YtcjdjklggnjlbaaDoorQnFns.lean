/- quote.Number and quote.Parse: walked. -/
import Derived.Test.YtcjdjklggnjlbaaDoorQnRef
import Derived.Test.YtcjdjklggnjlbaaDoorShelf
import Derived.Lib.LaidTab
import Derived.Lib.AppendIntMem
namespace Go.Proofs.Qn
open Go Go.RowKit Go.Qn

/-- what the listed variables hold -/
structure Start (w : World) : Prop where
  tab : Lib.TabIs Tryd.prog w "internal/strconv.uint64pow10" .u64 Lib.pow10Tab
  syn : ∃ te pe, w.cell? ⟨0, 0, none⟩ = some (.iface te pe)
  ran : ∃ te pe, w.cell? ⟨1, 0, none⟩ = some (.iface te pe)
  big : 3 ≤ w.heap.size

theorem tab_at : ∃ g, g < 3 ∧ Tryd.prog.globalNamed "internal/strconv.uint64pow10" = some g := ⟨2, by decide, by kernel_rfl⟩

theorem Start.below {w w' : World} (h : Start w) (hb : Below w.heap.size w w') : Start w' := by
  have hbig := h.big
  refine ⟨?_, ?_, ?_, Nat.le_trans h.big hb.size⟩
  · obtain ⟨g, hg, hn⟩ := tab_at
    have := h.tab
    unfold Lib.TabIs World.var? at *
    rw [hn] at this ⊢
    simp only [Option.bind_some] at this ⊢
    rw [hb.block g (by omega)]
    exact this
  · obtain ⟨te, pe, e⟩ := h.syn
    exact ⟨te, pe, (hb.cell (p := ⟨0, 0, none⟩) (by show 0 < _; omega)).trans e⟩
  · obtain ⟨te, pe, e⟩ := h.ran
    exact ⟨te, pe, (hb.cell (p := ⟨1, 0, none⟩) (by show 1 < _; omega)).trans e⟩

def tellB (n : Int) : ByteArray := ⟨(Lib.itoa n).toArray⟩
def IsInt (n : Int) : Prop := -9223372036854775808 ≤ n ∧ n ≤ 9223372036854775807

theorem tellB_list (n : Int) : (tellB n).data.toList = Lib.itoa n := by simp [tellB]
theorem tellB_size {n : Int} (h : IsInt n) : (tellB n).size ≤ 20 := by
  have := itoa_len h.1 h.2
  show (Lib.itoa n).toArray.size ≤ 20
  simpa using this

theorem itoa_calls {n : Int} (h : IsInt n) {w : World} (hS : Start w) : Calls Tryd.prog 10 #[.int .i64 n] w fun e w' => e = .returned (.string (tellB n)) ∧ Below w.heap.size w w' := by
  refine (Tryd.strconv_Itoa n h.1 h.2 w hS.tab).mono ?_
  rintro e w' ⟨rfl, k, os, rfl⟩
  exact ⟨rfl, Lib.below_grow _ _ (Nat.le_refl _) _ _⟩

set_option maxHeartbeats 400000 in
theorem number_any {n : Int} (h : IsInt n) {w : World} (hS : Start w) : Calls Tryd.prog 5 #[.int .i64 n] w fun e w' => e = .returned (.string (tellB n)) ∧ Below w.heap.size w w' := by
  go_enter Tryd.func5, Tryd.ntmps5
  go_wp2_with (go_at_call 10; refine (itoa_calls h hS).mono ?_; rintro e w' ⟨rfl, hb⟩)
  go_ret
  exact ⟨rfl, hb⟩

/-- what Atoi does -/
theorem atoi_ok (s : ByteArray) (hs : s.size ≤ 100) {v : Int} (h : Lib.atoiAll s.data.toList = .ok v) {w : World} :
    Calls Tryd.prog 11 #[.string s] w fun e w' => e = .returned (.tuple #[.int .i64 v, .nilIface]) ∧ Below w.heap.size w w' := by
  refine (Tryd.strconv_Atoi_ok s (by omega) v h w).mono ?_
  rintro e w' ⟨rfl, hw⟩
  refine ⟨rfl, ?_⟩
  rcases hw with rfl | ⟨t, rfl⟩
  · exact Below.refl _ _
  · exact Lib.bytesWorld_below _ _ _

theorem atoi_no (s : ByteArray) (hs : s.size ≤ 100) (h : ∀ v, Lib.atoiAll s.data.toList ≠ .ok v) {w : World} (hS : Start w) :
    Calls Tryd.prog 11 #[.string s] w fun e w' => ∃ (v : Int) (p : Value), e = .returned (.tuple #[.int .i64 v, .iface 58 p]) ∧ Below w.heap.size w w' := by
  cases ha : Lib.atoiAll s.data.toList
  · exact absurd ha (h _)
  · obtain ⟨te, pe, e⟩ := hS.syn
    refine (Any.strconv_Atoi_syntax Tryd.laysC172 s (by omega) ha _ w e (.inr ⟨te, pe, rfl⟩)).mono ?_
    rintro e w' ⟨N, rfl, _, _, hb⟩
    exact ⟨_, _, rfl, hb⟩
  · obtain ⟨te, pe, e⟩ := hS.ran
    refine (Tryd.strconv_Atoi_range s (by omega) ha _ w e (.inr ⟨te, pe, rfl⟩)).mono ?_
    rintro e w' ⟨N, rfl, _, _, hb⟩
    exact ⟨_, _, rfl, hb⟩

set_option maxHeartbeats 400000 in
theorem parse_yes (s : ByteArray) (hs : s.size ≤ 100) {v : Int} (h : parse s.data.toList = some v) {w : World} (hS : Start w) :
    Calls Tryd.prog 6 #[.string s] w fun e w' => e = .returned (.tuple #[.int .i64 v, .int .i64 0]) ∧ Below w.heap.size w w' := by
  obtain ⟨ha, hi⟩ : Lib.atoiAll s.data.toList = .ok v ∧ Lib.itoa v = s.data.toList := by
    unfold parse at h
    split at h
    · split at h
      · rename_i v' e1 e2; cases h; exact ⟨e1, e2⟩
      · cases h
    · cases h
  have hv : IsInt v := Lib.atoiAll_bounds ha
  obtain rfl : s = tellB v := by
    unfold tellB; rw [hi]
  have ha : Hid (Lib.atoiAll (tellB v).data.toList = .ok v) := ha
  clear h hi
  go_enter Tryd.func6, Tryd.ntmps6
  go_wp2_with (first | (go_at_call 11; refine (atoi_ok _ hs ha.out).mono ?_; rintro e w1 ⟨rfl, hb⟩; have hS1 := hS.below hb) | (go_at_call 10; refine (itoa_calls hv hS1).mono ?_; rintro e w2 ⟨rfl, hb2⟩))
  go_ret2
  exact ⟨rfl, hb.trans (hb2.mono hb.size)⟩

set_option maxHeartbeats 400000 in
theorem parse_no (s : ByteArray) (hs : s.size ≤ 100) (h : parse s.data.toList = none) {w : World} (hS : Start w) :
    Calls Tryd.prog 6 #[.string s] w fun e w' => e = .returned (.tuple #[.int .i64 0, .int .i64 4]) ∧ Below w.heap.size w w' := by
  by_cases ha : ∃ v, Lib.atoiAll s.data.toList = .ok v
  · obtain ⟨v, ha⟩ := ha
    have hi : ((tellB v).toList == s.toList) = false := by
      have : Lib.itoa v ≠ s.data.toList := by
        intro e
        unfold parse at h
        rw [ha] at h
        simp [e] at h
      rw [beq_eq_false_iff_ne]
      intro e
      apply this
      rw [ByteArray.toList_eq, ByteArray.toList_eq] at e
      rw [← e, tellB_list]
    have hv : IsInt v := Lib.atoiAll_bounds ha
    have ha : Hid (Lib.atoiAll s.data.toList = .ok v) := ha
    clear h
    go_enter Tryd.func6, Tryd.ntmps6
    go_wp2_with (first | (go_at_call 11; refine (atoi_ok _ hs ha.out).mono ?_; rintro e w1 ⟨rfl, hb⟩; have hS1 := hS.below hb) | (go_at_call 10; refine (itoa_calls hv hS1).mono ?_; rintro e w2 ⟨rfl, hb2⟩))
    go_ret2
    exact ⟨rfl, hb.trans (hb2.mono hb.size)⟩
  · have ha' : Hid (∀ v, Lib.atoiAll s.data.toList ≠ .ok v) := fun v e => ha ⟨v, e⟩
    clear h ha
    go_enter Tryd.func6, Tryd.ntmps6
    go_wp2_with (go_at_call 11; refine (atoi_no _ hs ha'.out hS).mono ?_; rintro e w1 ⟨v, p, rfl, hb⟩)
    go_ret2
    exact ⟨rfl, hb⟩
end Go.Proofs.Qn
