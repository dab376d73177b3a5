/- Values that are spelt alike are one; what stands behind what. -/
import Derived.Test.YtcjdjklggnjlbaaDoorEvP
namespace Go.Ab
open Go.RowKit

theorem addrEq_eq {a b : Addr} (h : addrEq a b = true) : a = b := addr_of h

theorem byteArr_eq {a b : ByteArray} (h : bytesEq a.data.toList b.data.toList = true) : a = b := by
  rw [bytesEq_eq] at h
  have : a.data.toList = b.data.toList := by simpa using h
  apply ByteArray.ext
  exact Array.toList_inj.1 this

theorem iEq_sound {m n : Int} (h : iEq m n = true) : m = n := by
  rw [iEq_eq] at h
  simpa using h

theorem veq0_sound {x y : Value} (h : veq0 x y = true) : x = y := by
  unfold veq0 at h
  split at h
  · split at h
    · rw [eq_of_beq h]
    · cases h
  · split at h
    · rw [Bool.and_eq_true] at h; rw [kq_eq h.1, iEq_sound h.2]
    · cases h
  · split at h
    · rw [byteArr_eq h]
    · cases h
  · split at h
    · rfl
    · cases h
  · split at h
    · rw [addrEq_eq h]
    · cases h
  · split at h
    · rw [Bool.and_eq_true] at h; rw [nat_beq h.1, nat_beq h.2]
    · cases h
  · split at h
    · simp only [Bool.and_eq_true] at h; rw [addrEq_eq h.1.1, nat_beq h.1.2, nat_beq h.2]
    · cases h
  · split at h
    · rfl
    · cases h
  · split at h
    · rw [nat_beq h]
    · cases h
  · split at h
    · rfl
    · cases h
  · split at h
    · rfl
    · cases h
  · cases h

theorem veqs0_sound : ∀ {l m : List Value}, veqs0 l m = true → l = m
  | [], [], _ => rfl
  | [], _ :: _, h => by cases h
  | _ :: _, [], h => by cases h
  | x :: l, y :: m, h => by
    simp only [veqs0, Bool.and_eq_true] at h
    rw [veq0_sound h.1, veqs0_sound h.2]

theorem arr_eq {l m : Array Value} (h : l.toList = m.toList) : l = m := Array.toList_inj.1 h

theorem veq1_sound {x y : Value} (h : veq1 x y = true) : x = y := by
  unfold veq1 at h
  split at h
  · split at h
    · simp only [Bool.and_eq_true] at h; rw [nat_beq h.1.1, arr_eq (veqs0_sound h.1.2), arr_eq (veqs0_sound h.2)]
    · cases h
  · split at h
    · rw [Bool.and_eq_true] at h; rw [nat_beq h.1, veq0_sound h.2]
    · cases h
  · exact veq0_sound h

theorem veqs_sound : ∀ {l m : List Value}, veqs l m = true → l = m
  | [], [], _ => rfl
  | [], _ :: _, h => by cases h
  | _ :: _, [], h => by cases h
  | x :: l, y :: m, h => by
    simp only [veqs, Bool.and_eq_true] at h
    rw [veq1_sound h.1, veqs_sound h.2]

theorem veq_sound {x y : Value} (h : veq x y = true) : x = y := by
  unfold veq at h
  split at h
  · split at h
    · rw [arr_eq (veqs_sound h)]
    · cases h
  · split at h
    · rw [arr_eq (veqs_sound h)]
    · cases h
  · exact veq1_sound h

/- what stands behind what -/
theorem binds_any (e : Edge) : Region.binds .any e = bindsAny e := by
  unfold Region.binds bindsAny
  cases e.ground <;> rfl

theorem masks_keep : ∀ (l : List Oper) (acc : List Nat), ∃ t, masks l acc = acc ++ t
  | [], acc => ⟨[], by simp [masks]⟩
  | o :: l, acc => by
    obtain ⟨t, ht⟩ := masks_keep l (acc ++ [o.after.toList.foldl (fun s e => cond (bindsAny e) (Nat.lor (Nat.lor s (Nat.shiftLeft 1 e.on)) (acc.getD e.on 0)) s) 0])
    rw [masks, ht, List.append_assoc]
    exact ⟨_, rfl⟩

theorem fold_bits (acc : List Nat) (j : Nat) : ∀ (es : List Edge) (s : Nat), Nat.testBit (es.foldl (fun s e => cond (bindsAny e) (Nat.lor (Nat.lor s (Nat.shiftLeft 1 e.on)) (acc.getD e.on 0)) s) s) j = true →
    Nat.testBit s j = true ∨ ∃ e ∈ es, bindsAny e = true ∧ (j = e.on ∨ Nat.testBit (acc.getD e.on 0) j = true)
  | [], s, h => .inl h
  | e :: es, s, h => by
    rw [List.foldl_cons] at h
    rcases fold_bits acc j es _ h with h1 | ⟨e1, h1, h2⟩
    · cases hb : bindsAny e with
      | false => rw [hb] at h1; exact .inl h1
      | true =>
        rw [hb] at h1
        have h1 : Nat.testBit ((s ||| (1 <<< e.on)) ||| (acc.getD e.on 0)) j = true := h1
        rw [Nat.testBit_or, Nat.testBit_or, Bool.or_eq_true, Bool.or_eq_true] at h1
        rcases h1 with (h1 | h1) | h1
        · exact .inl h1
        · refine .inr ⟨e, by simp, hb, .inl ?_⟩
          rw [Nat.one_shiftLeft, Nat.testBit_two_pow] at h1
          simpa using (of_decide_eq_true h1).symm
        · exact .inr ⟨e, by simp, hb, .inr h1⟩
    · exact .inr ⟨e1, by simp [h1], h2⟩

theorem masks_at : ∀ (l : List Oper) (acc : List Nat) (i : Nat) (o : Oper), l[i]? = some o →
    ∃ pre, (∃ t, masks l acc = pre ++ t) ∧ pre.length = acc.length + i ∧ (masks l acc).getD (acc.length + i) 0 = o.after.toList.foldl (fun s e => cond (bindsAny e) (Nat.lor (Nat.lor s (Nat.shiftLeft 1 e.on)) (pre.getD e.on 0)) s) 0
  | [], acc, i, o, h => by simp at h
  | p :: l, acc, 0, o, h => by
    simp at h
    subst h
    obtain ⟨t, ht⟩ := masks_keep l (acc ++ [p.after.toList.foldl (fun s e => cond (bindsAny e) (Nat.lor (Nat.lor s (Nat.shiftLeft 1 e.on)) (acc.getD e.on 0)) s) 0])
    refine ⟨acc, ?_, rfl, ?_⟩
    · rw [masks, ht, List.append_assoc]; exact ⟨_, rfl⟩
    · rw [masks, ht]
      simp
  | p :: l, acc, i + 1, o, h => by
    obtain ⟨pre, h1, h2, h3⟩ := masks_at l (acc ++ [p.after.toList.foldl (fun s e => cond (bindsAny e) (Nat.lor (Nat.lor s (Nat.shiftLeft 1 e.on)) (acc.getD e.on 0)) s) 0]) i o (by simpa using h)
    refine ⟨pre, h1, ?_, ?_⟩
    · rw [h2]; simp; omega
    · rw [List.length_append, List.length_singleton] at h3
      rw [masks, show acc.length + (i + 1) = acc.length + 1 + i by omega, h3]

theorem masks_spec {ops : Array Oper} {i j : Nat} {o : Oper} (ho : ops[i]? = some o) (h : inMask (masks ops.toList []) i j = true) :
    ∃ e ∈ o.after, Region.binds .any e = true ∧ (j = e.on ∨ inMask (masks ops.toList []) e.on j = true) := by
  obtain ⟨pre, ⟨t, ht⟩, h2, h3⟩ := masks_at ops.toList [] i o (by simpa using ho)
  simp only [List.length_nil, Nat.zero_add] at h2 h3
  unfold inMask at h
  rw [h3] at h
  rcases fold_bits pre j _ _ h with h | ⟨e, he, hb, hj⟩
  · simp at h
  · refine ⟨e, by simpa using he, by rw [binds_any]; exact hb, ?_⟩
    rcases hj with hj | hj
    · exact .inl hj
    · refine .inr ?_
      unfold inMask
      rw [ht]
      rcases Nat.lt_or_ge e.on pre.length with q | q
      · rw [List.getD_eq_getElem?_getD, List.getElem?_append_left q, ← List.getD_eq_getElem?_getD]; exact hj
      · rw [List.getD_eq_getElem?_getD, List.getElem?_eq_none q] at hj; simp at hj
end Go.Ab
