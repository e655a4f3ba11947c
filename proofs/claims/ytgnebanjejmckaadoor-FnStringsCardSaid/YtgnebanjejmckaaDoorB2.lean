/- The encoding of a record, and how it is read back: both ways of reading agree. -/
import Derived.Test.YtgnebanjejmckaaDoorB1
import Derived.Test.YtgnebanjejmckaaDoorA5
set_option maxRecDepth 100000
set_option linter.unusedSimpArgs false
set_option linter.unusedVariables false
namespace Go.Proofs.YtgnebanjejmckaaDoor
open Go Dl
variable {W0 : World} {H : Heap} {K : D → Heap → Prop}

theorem appS_line (k : Nat) (hk : k < 1000000) {c r : List UInt8} (h : recOk c r = true) : appS (lineT k c r) = (lineS k c r, true) := by
  unfold appS
  have h1 := lineT_len k hk h
  have h2 := lineS_len k hk h
  rw [if_neg (by rw [lineT_no35 k h]; simp; omega), if_neg (by unfold lineS at h2; omega)]
  rfl

theorem c11 (hW : Good W0) (k : Int) (c r : List UInt8) (h1 : c.length < 100000000) (h2 : r.length < 100000000) (h : K (.tup [.str (encS k c r).1, .bool (encS k c r).2]) H) : CallWp Tryd.prog W0 11 [int k, recD c r] H K := by
  refine CallWp.fun hm F11 (Nat.le_of_ble_eq_true rfl) (Nat.le_of_ble_eq_true rfl) ?_
  unfold s11 h11 recD
  simp -implicitDefEqProofs only [go_sem, Nat.reduceBEq, Nat.reduceLT, Nat.reduceAdd, Nat.reduceSub, Nat.reduceLeDiff, Int.reduceToNat, eq_self, ↓reduceIte, Bool.false_eq_true, decide_true, decide_false, List.take_length]
  unfold encS at h
  refine c50 _ _ _ ?_
  by_cases g1 : 0 ≤ k
  case neg =>
    rw [if_neg (by omega)] at h
    simp -implicitDefEqProofs only [go_sem, Nat.reduceBEq, Nat.reduceLT, Nat.reduceAdd, Nat.reduceSub, Nat.reduceLeDiff, Int.reduceToNat, eq_self, ↓reduceIte, Bool.false_eq_true, decide_true, decide_false, List.take_length, g1]
    exact end2 (by simp -implicitDefEqProofs only [go_sem, Nat.reduceBEq, Nat.reduceLT, Nat.reduceAdd, Nat.reduceSub, Nat.reduceLeDiff, Int.reduceToNat, eq_self, ↓reduceIte, Bool.false_eq_true, decide_true, decide_false, List.take_length]; rfl) (by simp -implicitDefEqProofs only [go_sem, Nat.reduceBEq, Nat.reduceLT, Nat.reduceAdd, Nat.reduceSub, Nat.reduceLeDiff, Int.reduceToNat, eq_self, ↓reduceIte, Bool.false_eq_true, decide_true, decide_false, List.take_length]; rfl) rfl (by simp -implicitDefEqProofs only [go_sem, Nat.reduceBEq, Nat.reduceLT, Nat.reduceAdd, Nat.reduceSub, Nat.reduceLeDiff, Int.reduceToNat, eq_self, ↓reduceIte, Bool.false_eq_true, decide_true, decide_false, List.take_length]; exact h)
  by_cases g2 : k ≤ 59
  case neg =>
    rw [if_neg (by omega)] at h
    simp -implicitDefEqProofs only [go_sem, Nat.reduceBEq, Nat.reduceLT, Nat.reduceAdd, Nat.reduceSub, Nat.reduceLeDiff, Int.reduceToNat, eq_self, ↓reduceIte, Bool.false_eq_true, decide_true, decide_false, List.take_length, g1, g2]
    exact end2 (by simp -implicitDefEqProofs only [go_sem, Nat.reduceBEq, Nat.reduceLT, Nat.reduceAdd, Nat.reduceSub, Nat.reduceLeDiff, Int.reduceToNat, eq_self, ↓reduceIte, Bool.false_eq_true, decide_true, decide_false, List.take_length]; rfl) (by simp -implicitDefEqProofs only [go_sem, Nat.reduceBEq, Nat.reduceLT, Nat.reduceAdd, Nat.reduceSub, Nat.reduceLeDiff, Int.reduceToNat, eq_self, ↓reduceIte, Bool.false_eq_true, decide_true, decide_false, List.take_length]; rfl) rfl (by simp -implicitDefEqProofs only [go_sem, Nat.reduceBEq, Nat.reduceLT, Nat.reduceAdd, Nat.reduceSub, Nat.reduceLeDiff, Int.reduceToNat, eq_self, ↓reduceIte, Bool.false_eq_true, decide_true, decide_false, List.take_length]; exact h)
  simp -implicitDefEqProofs only [go_sem, Nat.reduceBEq, Nat.reduceLT, Nat.reduceAdd, Nat.reduceSub, Nat.reduceLeDiff, Int.reduceToNat, eq_self, ↓reduceIte, Bool.false_eq_true, decide_true, decide_false, List.take_length, g1, g2]
  refine c17 hW _ _ (by omega) (by omega) ?_
  cases g3 : recOk c r with
  | false =>
    rw [if_neg (by rw [g3]; simp)] at h
    simp -implicitDefEqProofs only [go_sem, Nat.reduceBEq, Nat.reduceLT, Nat.reduceAdd, Nat.reduceSub, Nat.reduceLeDiff, Int.reduceToNat, eq_self, ↓reduceIte, Bool.false_eq_true, decide_true, decide_false, List.take_length, g1, g2]
    exact end2 (by simp -implicitDefEqProofs only [go_sem, Nat.reduceBEq, Nat.reduceLT, Nat.reduceAdd, Nat.reduceSub, Nat.reduceLeDiff, Int.reduceToNat, eq_self, ↓reduceIte, Bool.false_eq_true, decide_true, decide_false, List.take_length]; rfl) (by simp -implicitDefEqProofs only [go_sem, Nat.reduceBEq, Nat.reduceLT, Nat.reduceAdd, Nat.reduceSub, Nat.reduceLeDiff, Int.reduceToNat, eq_self, ↓reduceIte, Bool.false_eq_true, decide_true, decide_false, List.take_length]; rfl) rfl (by simp -implicitDefEqProofs only [go_sem, Nat.reduceBEq, Nat.reduceLT, Nat.reduceAdd, Nat.reduceSub, Nat.reduceLeDiff, Int.reduceToNat, eq_self, ↓reduceIte, Bool.false_eq_true, decide_true, decide_false, List.take_length]; exact h)
  | true =>
    rw [if_pos ⟨⟨g1, g2⟩, g3⟩] at h
    obtain ⟨u, rfl⟩ : ∃ u : Nat, k = u := ⟨k.toNat, by omega⟩
    rw [Int.toNat_natCast] at h
    have hu : u < 1000000 := by omega
    have hl := decDigits_le 5 u (by omega)
    simp -implicitDefEqProofs only [go_sem, Nat.reduceBEq, Nat.reduceLT, Nat.reduceAdd, Nat.reduceSub, Nat.reduceLeDiff, Int.reduceToNat, eq_self, ↓reduceIte, Bool.false_eq_true, decide_true, decide_false, List.take_length, g1, g2]
    refine Grow_mk (fun K => c51n hW u (by omega)) ?_
    simp -implicitDefEqProofs only [go_sem, Nat.reduceBEq, Nat.reduceLT, Nat.reduceAdd, Nat.reduceSub, Nat.reduceLeDiff, Int.reduceToNat, eq_self, ↓reduceIte, Bool.false_eq_true, decide_true, decide_false, List.take_length]
    refine need_mk (by first | omega | (simp only [List.length_append, List.length_cons, List.length_nil] at *; omega)) fun _ => ?_
    simp -implicitDefEqProofs only [go_sem, Nat.reduceBEq, Nat.reduceLT, Nat.reduceAdd, Nat.reduceSub, Nat.reduceLeDiff, Int.reduceToNat, eq_self, ↓reduceIte, Bool.false_eq_true, decide_true, decide_false, List.take_length]
    refine need_mk (by first | omega | (simp only [List.length_append, List.length_cons, List.length_nil] at *; omega)) fun _ => ?_
    simp -implicitDefEqProofs only [go_sem, Nat.reduceBEq, Nat.reduceLT, Nat.reduceAdd, Nat.reduceSub, Nat.reduceLeDiff, Int.reduceToNat, eq_self, ↓reduceIte, Bool.false_eq_true, decide_true, decide_false, List.take_length]
    refine need_mk (by first | omega | (simp only [List.length_append, List.length_cons, List.length_nil] at *; omega)) fun _ => ?_
    simp -implicitDefEqProofs only [go_sem, Nat.reduceBEq, Nat.reduceLT, Nat.reduceAdd, Nat.reduceSub, Nat.reduceLeDiff, Int.reduceToNat, eq_self, ↓reduceIte, Bool.false_eq_true, decide_true, decide_false, List.take_length]
    refine need_mk (by first | omega | (simp only [List.length_append, List.length_cons, List.length_nil] at *; omega)) fun _ => ?_
    simp -implicitDefEqProofs only [go_sem, Nat.reduceBEq, Nat.reduceLT, Nat.reduceAdd, Nat.reduceSub, Nat.reduceLeDiff, Int.reduceToNat, eq_self, ↓reduceIte, Bool.false_eq_true, decide_true, decide_false, List.take_length]
    refine Grow_mk (fun K => c44 hW _ (by first | omega | (simp only [List.length_append, List.length_cons, List.length_nil] at *; omega))) ?_
    have e : Lib.decDigits u ++ [32] ++ c ++ [64] ++ r = lineT u c r := rfl
    rw [e, appS_line u hu g3]
    simp -implicitDefEqProofs only [go_sem, Nat.reduceBEq, Nat.reduceLT, Nat.reduceAdd, Nat.reduceSub, Nat.reduceLeDiff, Int.reduceToNat, eq_self, ↓reduceIte, Bool.false_eq_true, decide_true, decide_false, List.take_length]
    have hll := lineS_len u hu g3
    refine need_mk (by first | omega | (simp only [List.length_append, List.length_cons, List.length_nil] at *; omega)) fun _ => ?_
    simp -implicitDefEqProofs only [go_sem, Nat.reduceBEq, Nat.reduceLT, Nat.reduceAdd, Nat.reduceSub, Nat.reduceLeDiff, Int.reduceToNat, eq_self, ↓reduceIte, Bool.false_eq_true, decide_true, decide_false, List.take_length]
    exact end2 (by simp -implicitDefEqProofs only [go_sem, Nat.reduceBEq, Nat.reduceLT, Nat.reduceAdd, Nat.reduceSub, Nat.reduceLeDiff, Int.reduceToNat, eq_self, ↓reduceIte, Bool.false_eq_true, decide_true, decide_false, List.take_length]; rfl) (by simp -implicitDefEqProofs only [go_sem, Nat.reduceBEq, Nat.reduceLT, Nat.reduceAdd, Nat.reduceSub, Nat.reduceLeDiff, Int.reduceToNat, eq_self, ↓reduceIte, Bool.false_eq_true, decide_true, decide_false, List.take_length]; rfl) rfl (by simp -implicitDefEqProofs only [go_sem, Nat.reduceBEq, Nat.reduceLT, Nat.reduceAdd, Nat.reduceSub, Nat.reduceLeDiff, Int.reduceToNat, eq_self, ↓reduceIte, Bool.false_eq_true, decide_true, decide_false, List.take_length]; exact h)

/-- How the program takes a line apart. -/
def restI (line : List UInt8) : List UInt8 := (Lib.cut (Lib.cut line [35]).1 [32]).2.1
def decodeI (line : List UInt8) : Rec := ((Lib.cut (restI line) [64]).1, (Lib.cut (restI line) [64]).2.1)

theorem cut_app (b : UInt8) (p q : List UInt8) (h : p.contains b = false) : Lib.cut (p ++ b :: q) [b] = (p, q, true) := by
  rw [cut1, if_pos (by simp), fstB_app b q p h]
  simp
theorem decodeI_line (k : Nat) {c r : List UInt8} (h : recOk c r = true) : decodeI (lineS k c r) = (c, r) := by
  obtain ⟨h1, h2, h3⟩ := recOk_parts h
  have e1 : lineS k c r = lineT k c r ++ 35 :: Lib.decDigits (sumN (lineT k c r)) := by unfold lineS sealS; simp
  have e2 : lineT k c r = Lib.decDigits k ++ 32 :: (c ++ 64 :: r) := by unfold lineT; simp
  have e3 : restI (lineS k c r) = c ++ 64 :: r := by
    unfold restI
    rw [e1, cut_app 35 _ _ (lineT_no35 k h), e2, cut_app 32 _ _ (dd32 k)]
  unfold decodeI
  rw [e3, cut_app 64 _ _ h2]
theorem decodeS_line (k : Nat) {c r : List UInt8} (h : recOk c r = true) : decodeS (lineS k c r) k = ((c, r), true) := by
  obtain ⟨h1, h2, h3⟩ := recOk_parts h
  have e1 : fstB 35 (lineS k c r) = lineT k c r := by
    unfold lineS sealS
    rw [List.append_assoc, List.singleton_append]
    exact fstB_app 35 _ _ (lineT_no35 k h)
  have e2 : lineT k c r = (Lib.decDigits k ++ [32]) ++ (c ++ 64 :: r) := by unfold lineT; simp
  have e3 : (lineT k c r).take (Lib.decDigits k ++ [32]).length = Lib.decDigits k ++ [32] := by rw [e2]; exact List.take_left' rfl
  have e4 : (lineT k c r).drop (Lib.decDigits k ++ [32]).length = c ++ 64 :: r := by rw [e2]; exact List.drop_left' rfl
  have e5 : fstB 64 (c ++ 64 :: r) = c := fstB_app 64 _ _ h2
  have e6 : (c ++ 64 :: r).drop (c.length + 1) = r := by simp
  unfold decodeS
  rw [e1, e3, e4, e5, e6, if_neg, if_neg]
  · simp [h]
  · simp
  · rw [e2]; simp
/-- Both ways of reading a line agree. -/
theorem decode_agree (line : List UInt8) (k : Nat) :
    ((decodeS line k).2 = true ↔ (recOk (decodeI line).1 (decodeI line).2 = true ∧ lineS k (decodeI line).1 (decodeI line).2 = line)) ∧ ((decodeS line k).2 = true → (decodeS line k).1 = decodeI line) := by
  have hS : (decodeS line k).2 = true → recOk (decodeS line k).1.1 (decodeS line k).1.2 = true ∧ lineS k (decodeS line k).1.1 (decodeS line k).1.2 = line := by
    unfold decodeS
    split
    · intro h; cases h
    · split
      · intro h; cases h
      · intro h
        simp only [Bool.and_eq_true, decide_eq_true_eq] at h
        exact ⟨h.1, List.append_cancel_right h.2⟩
  have hSI : (decodeS line k).2 = true → (decodeS line k).1 = decodeI line := fun h => by
    obtain ⟨h1, h2⟩ := hS h
    have := decodeI_line k h1
    rw [h2] at this
    exact this.symm
  refine ⟨⟨fun h => by rw [← hSI h]; exact hS h, fun h => ?_⟩, hSI⟩
  have := decodeS_line k h.1
  rw [h.2] at this
  rw [this]
end Go.Proofs.YtgnebanjejmckaaDoor
