/- SimpleNone: the law, walked. -/
import Derived.Test.YtjbgdflnldhgcaaGreatDoorSnWalk
namespace Go.Proofs.Sn
open Go Go.RowKit Go.Ab

theorem mst_eq : ∀ (k : Nat) (d m : Int), m ≤ d → mst (k + 1) d m = if k = 0 then m else d + k
  | 0, d, m, _ => rfl
  | k + 1, d, m, h => by
    have e : mx2 m (d + 1) = d + 1 := by unfold mx2; rw [if_pos (by omega)]
    simp only [mst]
    rw [e, mst_eq k (d + 1) (d + 1) (Int.le_refl _)]
    split <;> rename_i hk
    · subst hk; simp
    · rw [if_neg (by omega)]; omega

theorem mst_zero (k : Nat) : mst (k + 1) 0 0 = k := by
  rw [mst_eq k 0 0 (Int.le_refl _)]
  split
  · rename_i h; subst h; rfl
  · omega

theorem chain_below {w w' : World} (hb : Below w.heap.size w w') : ∀ (k b : Nat), Chain w k b → Chain w' k b
  | 0, b, h => (hb.block b (wr_lt h)).trans h
  | k + 1, b, h => by
    obtain ⟨a, h1, h2⟩ := h
    exact ⟨a, (hb.block b (wr_lt h1)).trans h1, chain_below hb k a h2⟩

/-- what Pattern answers -/
def Answers (w : World) (f : Int) (e : Ending) (w' : World) : Prop := ∃ s : ByteArray, e = .returned (.tuple #[.string s, .int .i64 f]) ∧ Below w.heap.size w w'

set_option maxHeartbeats 2000000 in
theorem pattern_any (t : (Nat → TypeId) × (Nat → Nat × Nat)) (k : Nat) (hk : k ≤ 299) (w : World) (b : Nat) (hT : Holds w (EvSnEv.tabs t)) (hC : Chain w (k + 1) b) (f : Int) (hf : f = if 200 < k then 3 else 0) :
    Calls Tryz.prog 5 #[.pointer (some ⟨b, 0, none⟩)] w (Answers w f) := by
  have hB0 : Below w.heap.size w (w.alloc (wr 0 0)) := (Below.refl _ _).alloc (Nat.le_refl _) _
  have hW : (w.alloc (wr 0 0)).heap[w.heap.size]? = some (wr 0 0) := by show (w.heap.push (wr 0 0))[w.heap.size]? = _; simp
  have hA : Ahead (w.alloc (wr 0 0)) w.heap.size b (k + 1) 0 0 t := ⟨hT.below hB0, hW, chain_below hB0 _ _ hC, by omega, by omega, by omega, by omega⟩
  have HC := Hid.mk' (write_any t w.heap.size (k + 1) (by omega) _ b 0 0 hA)
  have HF := Hid.mk' hf
  clear hT hC hB0 hW hA hf
  go_enter Tryz.func5, Tryz.ntmps5
  go_wp2_with fail
  refine HC.out.mono ?_
  rintro e w3 ⟨rfl, hW3, hG3⟩
  rw [mst_zero] at hW3
  obtain ⟨c0, c1, f0, f1⟩ := wr_cells hW3
  have HB : Hid (Below w.heap.size w w3) := ((Below.refl _ _).alloc (Nat.le_refl _) _).grown hG3 (by show w.heap.size ≤ (w.heap.push (wr 0 0)).size; simp) (fun j e => by cases e; exact Nat.le_refl _)
  clear hW3 hG3 HC
  by_cases h : 200 < k
  · have hf := HF.out
    clear HF
    rw [if_pos h] at hf
    subst hf
    have HA := Hid.mk' (show Answers w 3 (.returned (.tuple #[.string ⟨#[]⟩, .int .i64 3])) w3 from ⟨_, rfl, HB.out⟩)
    clear HB
    go_wp2
    go_ret2
    exact HA.out
  · have hf := HF.out
    clear HF
    rw [if_neg h] at hf
    subst hf
    have HA := Hid.mk' (show Answers w 0 (.returned (.tuple #[.string (str (pat (k + 1))), .int .i64 0])) w3 from ⟨_, rfl, HB.out⟩)
    clear HB
    go_wp2
    go_ret2
    exact HA.out

/-- the loop that makes the chain -/
def Made (w : World) (N : Nat) (c i : Value) (wr : World) : Prop := ∃ k b : Nat, k ≤ N ∧ i = .int .i64 k ∧ c = .pointer (some ⟨b, 0, none⟩) ∧ Chain wr k b ∧ Below w.heap.size w wr

set_option maxHeartbeats 4000000 in
theorem law_any (t : (Nat → TypeId) × (Nat → Nat × Nat)) (n : Nat) (hn : n ≤ 255) (w : World) (hT : Holds w (EvSnEv.tabs t)) :
    Calls Tryz.prog 3 #[.int .u8 n] w fun e w' => e = .returned (.bool true) ∧ Below w.heap.size w w' := by
  obtain ⟨r, hr⟩ : ∃ r, n % 12 = r := ⟨_, rfl⟩
  have hr12 : r < 12 := by omega
  have hrem : (n : Int) % 12 = (r : Int) := by omega
  have HN := Hid.mk' hr
  have HT := Hid.mk' hT
  clear hT hr
  go_enter Tryz.func3, Tryz.ntmps3
  go_wp2_with (first | (go_at_call 4; refine (step_nil _).mono ?_; rintro e w' ⟨rfl, rfl⟩) | (go_at_call 5; refine (pattern_nil _).mono ?_; rintro e w' ⟨rfl, rfl⟩))
  have HS : Hid (Made w (195 + r) (.pointer (some ⟨w.heap.size, 0, none⟩)) (.int .i64 0) (w.alloc nothing)) :=
    ⟨0, w.heap.size, Nat.zero_le _, rfl, rfl, (by show (w.heap.push nothing)[w.heap.size]? = _; simp), (Below.refl _ _).alloc (Nat.le_refl _) _⟩
  go_loopw [7, 8] (fun c i wr => Made w (195 + r) c i wr) (fun _ i _ => 300 - (intOf i).toNat)
  case atStart => exact HS.out
  case round =>
    obtain ⟨k, b, hk, rfl, rfl, hC0, hB⟩ := hrel
    have hC := Hid.mk' hC0
    clear HS hC0
    by_cases hlt : k < 195 + r
    · have HM : Hid (Made w (195 + r) (.pointer (some ⟨wr.heap.size, 0, none⟩)) (.int .i64 (k + 1 : Nat)) (wr.alloc (star (.pointer (some ⟨b, 0, none⟩))))) :=
        ⟨k + 1, wr.heap.size, by omega, rfl, rfl, ⟨b, (by show (wr.heap.push (star (.pointer (some ⟨b, 0, none⟩))))[wr.heap.size]? = _; simp), chain_below ((Below.refl _ _).alloc (Nat.le_refl _) _) k b hC.out⟩, hB.alloc hB.size _⟩
      go_wp2
      go_roundw
      case rel => exact HM.out
      case measure => simp [intOf]; omega
    · obtain rfl : k = 194 + r + 1 := by omega
      have hTr : Hid (Holds wr (EvSnEv.tabs t)) := HT.out.below hB
      by_cases hd : 200 < 194 + r
      · have HPt := Hid.mk' (pattern_any t (194 + r) (by omega) wr b hTr.out hC.out 3 (by rw [if_pos hd]))
        have HD : decide ((194 : Int) + (r : Int) ≤ 200) = false := by simp; omega
        clear hC
        go_wp2_with fail
        refine HPt.out.mono ?_
        rintro e w3 ⟨s, rfl, hb3⟩
        have HT3 : Hid (Holds w3 (EvSnEv.tabs t)) := hTr.out.below hb3
        have HB3 := Hid.mk' (hB.trans (hb3.mono hB.size))
        clear hB hb3 hTr HPt
        go_wp2_with (first | (go_at_call 6; refine (simplify_nil _).mono ?_; rintro e w' ⟨rfl, rfl⟩) | (go_at_call 7; refine (EvSnEv.saved_calls t HT3.out).mono ?_; rintro e w4 ⟨rfl, hb4⟩) | (go_at_call 8; refine (EvSnEv.awake_calls t (HT3.out.below hb4)).mono ?_; rintro e w5 ⟨rfl, hb5⟩))
        go_ret
        exact ⟨rfl, HB3.out.trans ((hb4.trans (hb5.mono hb4.size)).mono HB3.out.size)⟩
      · have HPt := Hid.mk' (pattern_any t (194 + r) (by omega) wr b hTr.out hC.out 0 (by rw [if_neg hd]))
        have HD : decide ((194 : Int) + (r : Int) ≤ 200) = true := by simp; omega
        clear hC
        go_wp2_with fail
        refine HPt.out.mono ?_
        rintro e w3 ⟨s, rfl, hb3⟩
        have HT3 : Hid (Holds w3 (EvSnEv.tabs t)) := hTr.out.below hb3
        have HB3 := Hid.mk' (hB.trans (hb3.mono hB.size))
        clear hB hb3 hTr HPt
        go_wp2_with (first | (go_at_call 6; refine (simplify_nil _).mono ?_; rintro e w' ⟨rfl, rfl⟩) | (go_at_call 7; refine (EvSnEv.saved_calls t HT3.out).mono ?_; rintro e w4 ⟨rfl, hb4⟩) | (go_at_call 8; refine (EvSnEv.awake_calls t (HT3.out.below hb4)).mono ?_; rintro e w5 ⟨rfl, hb5⟩))
        go_ret
        exact ⟨rfl, HB3.out.trans ((hb4.trans (hb5.mono hb4.size)).mono HB3.out.size)⟩

end Go.Proofs.Sn
