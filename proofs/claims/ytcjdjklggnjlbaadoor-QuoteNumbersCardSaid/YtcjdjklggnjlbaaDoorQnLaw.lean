/- QuoteNumbers: walked. -/
import Derived.Test.YtcjdjklggnjlbaaDoorQnFns
import Derived.Test.YtcjdjklggnjlbaaDoorEvTryd
namespace Go.Proofs.Qn
open Go Go.RowKit Go.Qn

set_option maxHeartbeats 400000 in
theorem law_long (n : Int) (s : ByteArray) (hs : 100 < s.size) (hm : s.size ≤ maxLen) (w : World) :
    Calls Tryd.prog 3 #[.int .i64 n, .string s] w fun e w' => e = .returned (.bool true) ∧ Below w.heap.size w w' := by
  unfold maxLen at hm
  go_enter Tryd.func3, Tryd.ntmps3
  go_wp2_with (go_at_call 4; refine TrydEv.awake_calls.mono ?_; rintro e w' ⟨rfl, hb⟩)
  go_ret
  exact ⟨rfl, hb⟩

def Rel (s : ByteArray) (d i : Value) : Prop := ∃ k : Nat, k ≤ s.size ∧ i = .int .i64 k ∧ d = .bool (told s.data.toList k)

theorem rel_start (s : ByteArray) : Rel s (.bool (decide (0 < s.size))) (.int .i64 0) := by
  refine ⟨0, Nat.zero_le _, rfl, ?_⟩
  have : s.data.toList.length = s.size := by simp
  unfold told
  rw [this]
  simp

theorem told_step (s : ByteArray) {k : Nat} (h : k < s.size) : told s.data.toList (k + 1) = (told s.data.toList k && okAt s.data.toList k s[k]) := by
  rw [told_succ]
  have hl : k < s.data.toList.length := by simpa using h
  have : s.data.toList.getD k 0 = s[k] := by
    simp [List.getD, h]
    rfl
  rw [this]

theorem parse_int {l : List UInt8} {m : Int} (h : parse l = some m) : IsInt m := by
  unfold parse at h
  split at h
  · rename_i v e
    split at h
    · cases h; exact Lib.atoiAll_bounds e
    · cases h
  · cases h

theorem ref_tell {n : Int} (hn : IsInt n) (w : World) : Calls Tryd.prog 7 #[.int .i64 n] w fun e w' => e = .returned (.string (tellB n)) ∧ Below w.heap.size w w' := ref_any n hn.1 hn.2 w

theorem first_no {s : ByteArray} (h : parse s.data.toList = none) : told s.data.toList s.data.toList.length = true → s.size < 18 → ∃ h : 0 < s.size, (s[0].toNat : Int) < 49 := by
  intro ht h18
  have hl : s.data.toList.length = s.size := by simp
  have h0 : 0 < s.data.toList.length := (told_all.1 ht).1
  refine ⟨by omega, ?_⟩
  have hs0 : 0 < s.size := by omega
  match hq : s.data.toList, (show s.data.toList ≠ [] from List.length_pos_iff.1 h0) with
  | c :: r, _ =>
    have hc : s[0] = c := by
      show s.data[0] = c
      have : s.data.toList[0]'(by omega) = c := by simp only [hq, List.getElem_cons_zero]
      simpa using this
    rw [hc]
    rcases Nat.lt_or_ge c.toNat 49 with k | k
    · omega
    · obtain ⟨m, hm⟩ := parse_some ht (by omega) hq k
      rw [h] at hm; cases hm

theorem Hid.mk' {p : Prop} (h : p) : Hid p := h

set_option maxHeartbeats 2000000 in
theorem law_yes (n : Int) (hn : IsInt n) (s : ByteArray) (hs : s.size ≤ 100) {m : Int} (h : parse s.data.toList = some m) (w : World) (hS : Start w) :
    Calls Tryd.prog 3 #[.int .i64 n, .string s] w fun e w' => e = .returned (.bool true) ∧ Below w.heap.size w w' := by
  have hH : Hid (parse s.data.toList = some m) := h
  have hm : IsInt m := parse_int h
  have HSM : Hid (s = tellB m) := by unfold Hid tellB; rw [(parse_told h).2]
  have hP : Hid (parse (tellB n).data.toList = some n) := by unfold Hid; rw [tellB_list]; exact parse_itoa hn.1 hn.2
  have hsz := tellB_size hn
  have ht : Hid (told s.data.toList s.data.toList.length = true) := (parse_told h).1
  have hs1 : decide ((100 : Int) < (s.size : Int)) = false := by simp; omega
  clear h
  go_enter Tryd.func3, Tryd.ntmps3
  go_wp2_with fail
  refine (number_any hn hS).mono ?_
  rintro e w1 ⟨rfl, hb1⟩
  have hS1 := hS.below hb1
  go_wp2_with fail
  refine (parse_yes _ (by omega) hP.out hS1).mono ?_
  rintro e w2 ⟨rfl, hb2⟩
  have hS2 := hS1.below hb2
  go_wp2_with fail
  refine (parse_yes _ hs hH.out hS2).mono ?_
  rintro e w3 ⟨rfl, hb3⟩
  have hS3 := hS2.below hb3
  go_wp2_with fail
  refine (number_any hm hS3).mono ?_
  rintro e w4 ⟨rfl, hb4⟩
  have hB := Hid.mk' (((hb1.trans (hb2.mono hb1.size)).trans (hb3.mono (Nat.le_trans hb1.size hb2.size))).trans (hb4.mono (Nat.le_trans (Nat.le_trans hb1.size hb2.size) hb3.size)))
  have hq : ((tellB m).toList == s.toList) = true := by rw [HSM.out]; simp
  go_wp2_with fail
  go_loop [10, 11] (fun d i => Rel s d i) (fun _ i => s.size - (intOf i).toNat)
  case atStart => exact rel_start s
  case round =>
    obtain ⟨k, hk, rfl, rfl⟩ := hrel
    have hlen : s.data.toList.length = s.size := by simp
    by_cases hlt : k < s.size
    · have HT : Hid (told s.data.toList (k + 1) = (told s.data.toList k && okAt s.data.toList k s[k])) := told_step s hlt
      rcases Nat.eq_zero_or_pos k with h0 | h0
      · subst h0
        cases hd : told s.data.toList 0
        · go_wp2
          go_round
          case rel => exact ⟨1, by omega, rfl, by rw [HT.out, hd]; rfl⟩
          case measure => simp [intOf]; omega
        · go_wp2
          all_goals
            go_round
            case rel => exact ⟨1, by omega, rfl, by rw [HT.out, hd]; unfold okAt; rw [hlen]; simp only [Bool.true_and, true_and]; congr 1; first | (rw [decide_eq_decide]; omega) | (symm; rw [decide_eq_true_iff]; omega) | (symm; rw [decide_eq_false_iff_not]; omega)⟩
            case measure => simp [intOf]; omega
      · have hk0 : ((k : Int) == 0) = false := by simp; omega
        cases hd : told s.data.toList k
        · go_wp2
          go_round
          case rel => exact ⟨k + 1, by omega, by go_num, by rw [HT.out, hd]; rfl⟩
          case measure => simp [intOf]; omega
        · go_wp2
          all_goals
            go_round
            case rel => exact ⟨k + 1, by omega, by go_num, by rw [HT.out, hd]; unfold okAt; rw [hlen]; simp only [Bool.true_and]; congr 1; first | (rw [decide_eq_decide]; omega) | (symm; rw [decide_eq_true_iff]; omega) | (symm; rw [decide_eq_false_iff_not]; omega)⟩
            case measure => simp [intOf]; omega
    · obtain rfl : k = s.size := by omega
      have ht : told s.data.toList s.size = true := by rw [← hlen]; exact ht.out
      have hpos : 0 < s.size := by rw [← hlen]; exact (told_all.1 (by rw [hlen]; exact ht)).1
      (go_wp2_with (first | (go_at_call 7; refine (ref_tell hn _).mono ?_; rintro e w5 ⟨rfl, hb5⟩) | (go_at_call 4; refine TrydEv.awake_calls.mono ?_; rintro e w6 ⟨rfl, hb6⟩))) <;> (go_ret; exact ⟨rfl, hB.out.trans ((hb5.trans (hb6.mono hb5.size)).mono hB.out.size)⟩)

set_option maxHeartbeats 2000000 in
theorem law_no (n : Int) (hn : IsInt n) (s : ByteArray) (hs : s.size ≤ 100) (h : parse s.data.toList = none) (w : World) (hS : Start w) :
    Calls Tryd.prog 3 #[.int .i64 n, .string s] w fun e w' => e = .returned (.bool true) ∧ Below w.heap.size w w' := by
  have hH : Hid (parse s.data.toList = none) := h
  have hP : Hid (parse (tellB n).data.toList = some n) := by unfold Hid; rw [tellB_list]; exact parse_itoa hn.1 hn.2
  have hsz := tellB_size hn
  have hF := Hid.mk' (first_no h)
  have hs1 : decide ((100 : Int) < (s.size : Int)) = false := by simp; omega
  clear h
  go_enter Tryd.func3, Tryd.ntmps3
  go_wp2_with fail
  refine (number_any hn hS).mono ?_
  rintro e w1 ⟨rfl, hb1⟩
  have hS1 := hS.below hb1
  go_wp2_with fail
  refine (parse_yes _ (by omega) hP.out hS1).mono ?_
  rintro e w2 ⟨rfl, hb2⟩
  have hS2 := hS1.below hb2
  go_wp2_with fail
  refine (parse_no _ hs hH.out hS2).mono ?_
  rintro e w3 ⟨rfl, hb3⟩
  have hS3 := hS2.below hb3
  have hB := Hid.mk' ((hb1.trans (hb2.mono hb1.size)).trans (hb3.mono (Nat.le_trans hb1.size hb2.size)))
  go_wp2_with fail
  go_loop [10, 11] (fun d i => Rel s d i) (fun _ i => s.size - (intOf i).toNat)
  case atStart => exact rel_start s
  case round =>
    obtain ⟨k, hk, rfl, rfl⟩ := hrel
    have hlen : s.data.toList.length = s.size := by simp
    by_cases hlt : k < s.size
    · have HT : Hid (told s.data.toList (k + 1) = (told s.data.toList k && okAt s.data.toList k s[k])) := told_step s hlt
      rcases Nat.eq_zero_or_pos k with h0 | h0
      · subst h0
        cases hd : told s.data.toList 0
        · go_wp2
          go_round
          case rel => exact ⟨1, by omega, rfl, by rw [HT.out, hd]; rfl⟩
          case measure => simp [intOf]; omega
        · go_wp2
          all_goals
            go_round
            case rel => exact ⟨1, by omega, rfl, by rw [HT.out, hd]; unfold okAt; rw [hlen]; simp only [Bool.true_and, true_and]; congr 1; first | (rw [decide_eq_decide]; omega) | (symm; rw [decide_eq_true_iff]; omega) | (symm; rw [decide_eq_false_iff_not]; omega)⟩
            case measure => simp [intOf]; omega
      · have hk0 : ((k : Int) == 0) = false := by simp; omega
        cases hd : told s.data.toList k
        · go_wp2
          go_round
          case rel => exact ⟨k + 1, by omega, by go_num, by rw [HT.out, hd]; rfl⟩
          case measure => simp [intOf]; omega
        · go_wp2
          all_goals
            go_round
            case rel => exact ⟨k + 1, by omega, by go_num, by rw [HT.out, hd]; unfold okAt; rw [hlen]; simp only [Bool.true_and]; congr 1; first | (rw [decide_eq_decide]; omega) | (symm; rw [decide_eq_true_iff]; omega) | (symm; rw [decide_eq_false_iff_not]; omega)⟩
            case measure => simp [intOf]; omega
    · obtain rfl : k = s.size := by omega
      rw [hlen] at hF
      cases ht : told s.data.toList s.size
      · (go_wp2_with (first | (go_at_call 7; refine (ref_tell hn _).mono ?_; rintro e w5 ⟨rfl, hb5⟩) | (go_at_call 4; refine TrydEv.awake_calls.mono ?_; rintro e w6 ⟨rfl, hb6⟩))) <;> (go_ret; exact ⟨rfl, hB.out.trans ((hb5.trans (hb6.mono hb5.size)).mono hB.out.size)⟩)
      · by_cases h18 : s.size < 18
        · obtain ⟨h0, hc⟩ := hF.out ht h18
          have hz : decide ((18 : Int) ≤ (s.size : Int)) = false := by simp; omega
          clear hF hlt hk
          (go_wp2_with (first | (go_at_call 7; refine (ref_tell hn _).mono ?_; rintro e w5 ⟨rfl, hb5⟩) | (go_at_call 4; refine TrydEv.awake_calls.mono ?_; rintro e w6 ⟨rfl, hb6⟩))) <;> (go_ret; exact ⟨rfl, hB.out.trans ((hb5.trans (hb6.mono hb5.size)).mono hB.out.size)⟩)
        · (go_wp2_with (first | (go_at_call 7; refine (ref_tell hn _).mono ?_; rintro e w5 ⟨rfl, hb5⟩) | (go_at_call 4; refine TrydEv.awake_calls.mono ?_; rintro e w6 ⟨rfl, hb6⟩))) <;> (go_ret; exact ⟨rfl, hB.out.trans ((hb5.trans (hb6.mono hb5.size)).mono hB.out.size)⟩)

end Go.Proofs.Qn
