/- The law's own helpers: sizes, copies, comparisons; the law FnExactIsValidConsole. -/
import Derived.Test.YtgnebanjejmckaaDoorC1
import Derived.Test.YtgnebanjejmckaaDoorB4
set_option maxRecDepth 100000
set_option linter.unusedSimpArgs false
set_option linter.unusedVariables false
namespace Go.Proofs.YtgnebanjejmckaaDoor
open Go Dl
variable {W0 : World} {H : Heap} {K : D → Heap → Prop}

/-- What is left of a bound. -/
def less (left : Int) (n : Nat) : Int := if left - n < 0 then -1 else left - n

theorem c90 (h0 : List Card) (left : Int) (hl : h0.length < 9223372036854775808) (h1 : 0 ≤ left) (h2 : left ≤ 2000000) (h : K (int (less left h0.length)) H) : CallWp Tryd.prog W0 90 [.lst .no (cardsD h0), int left] H K := by
  refine CallWp.fun hm F90 (Nat.le_of_ble_eq_true rfl) (Nat.le_of_ble_eq_true rfl) ?_
  unfold s90 h90
  unfold less at h
  simp -implicitDefEqProofs only [go_sem, Nat.reduceBEq, Nat.reduceLT, Nat.reduceAdd, Nat.reduceSub, Nat.reduceLeDiff, Int.reduceToNat, eq_self, ↓reduceIte, Bool.false_eq_true, decide_true, decide_false, List.take_length, Nat.reduceMul, Nat.mul_one, Nat.zero_mul, Nat.zero_add, Nat.add_zero, Int.cast_ofNat_Int, Int.reduceLT, Int.reduceLE, Nat.zero_lt_succ, and_self]
  rw [w64 (by omega)]
  refine dsplit (fun hb => ?_) (fun hb => ?_)
  · rw [if_pos hb] at h
    simp -implicitDefEqProofs only [go_sem, Nat.reduceBEq, Nat.reduceLT, Nat.reduceAdd, Nat.reduceSub, Nat.reduceLeDiff, Int.reduceToNat, eq_self, ↓reduceIte, Bool.false_eq_true, decide_true, decide_false, List.take_length, Nat.reduceMul, Nat.mul_one, Nat.zero_mul, Nat.zero_add, Nat.add_zero, Int.cast_ofNat_Int, Int.reduceLT, Int.reduceLE, Nat.zero_lt_succ, and_self]
    exact end1 (by simp -implicitDefEqProofs only [go_sem, Nat.reduceBEq, Nat.reduceLT, Nat.reduceAdd, Nat.reduceSub, Nat.reduceLeDiff, Int.reduceToNat, eq_self, ↓reduceIte, Bool.false_eq_true, decide_true, decide_false, List.take_length, Nat.reduceMul, Nat.mul_one, Nat.zero_mul, Nat.zero_add, Nat.add_zero, Int.cast_ofNat_Int, Int.reduceLT, Int.reduceLE, Nat.zero_lt_succ, and_self]; first | done | rfl) rfl (by simp -implicitDefEqProofs only [go_sem, Nat.reduceBEq, Nat.reduceLT, Nat.reduceAdd, Nat.reduceSub, Nat.reduceLeDiff, Int.reduceToNat, eq_self, ↓reduceIte, Bool.false_eq_true, decide_true, decide_false, List.take_length, Nat.reduceMul, Nat.mul_one, Nat.zero_mul, Nat.zero_add, Nat.add_zero, Int.cast_ofNat_Int, Int.reduceLT, Int.reduceLE, Nat.zero_lt_succ, and_self]; exact h)
  · rw [if_neg hb] at h
    simp -implicitDefEqProofs only [go_sem, Nat.reduceBEq, Nat.reduceLT, Nat.reduceAdd, Nat.reduceSub, Nat.reduceLeDiff, Int.reduceToNat, eq_self, ↓reduceIte, Bool.false_eq_true, decide_true, decide_false, List.take_length, Nat.reduceMul, Nat.mul_one, Nat.zero_mul, Nat.zero_add, Nat.add_zero, Int.cast_ofNat_Int, Int.reduceLT, Int.reduceLE, Nat.zero_lt_succ, and_self]
    exact end1 (by simp -implicitDefEqProofs only [go_sem, Nat.reduceBEq, Nat.reduceLT, Nat.reduceAdd, Nat.reduceSub, Nat.reduceLeDiff, Int.reduceToNat, eq_self, ↓reduceIte, Bool.false_eq_true, decide_true, decide_false, List.take_length, Nat.reduceMul, Nat.mul_one, Nat.zero_mul, Nat.zero_add, Nat.add_zero, Int.cast_ofNat_Int, Int.reduceLT, Int.reduceLE, Nat.zero_lt_succ, and_self]; first | done | rfl) rfl (by simp -implicitDefEqProofs only [go_sem, Nat.reduceBEq, Nat.reduceLT, Nat.reduceAdd, Nat.reduceSub, Nat.reduceLeDiff, Int.reduceToNat, eq_self, ↓reduceIte, Bool.false_eq_true, decide_true, decide_false, List.take_length, Nat.reduceMul, Nat.mul_one, Nat.zero_mul, Nat.zero_add, Nat.add_zero, Int.cast_ofNat_Int, Int.reduceLT, Int.reduceLE, Nat.zero_lt_succ, and_self]; exact h)

abbrev consD (h0 : List Card) (t n : Int) (d p : List UInt8) (cnt : Int) : D := .agg [.lst .no (cardsD h0), int t, int n, .str d, .str p, int cnt]

theorem c66 (h0 : List Card) (t n left : Int) (hl : h0.length < 9223372036854775808) (h1 : 0 ≤ left) (h2 : left ≤ 2000000) (h : K (int (less left h0.length)) H) : CallWp Tryd.prog W0 66 [tableD h0 t n, int left] H K := by
  refine CallWp.fun hm F66 (Nat.le_of_ble_eq_true rfl) (Nat.le_of_ble_eq_true rfl) ?_
  unfold s66 h66
  simp -implicitDefEqProofs only [go_sem, Nat.reduceBEq, Nat.reduceLT, Nat.reduceAdd, Nat.reduceSub, Nat.reduceLeDiff, Int.reduceToNat, eq_self, ↓reduceIte, Bool.false_eq_true, decide_true, decide_false, List.take_length, Nat.reduceMul, Nat.mul_one, Nat.zero_mul, Nat.zero_add, Nat.add_zero, Int.cast_ofNat_Int, Int.reduceLT, Int.reduceLE, Nat.zero_lt_succ, and_self]
  refine c90 h0 left hl h1 h2 ?_
  unfold less at *
  simp -implicitDefEqProofs only [go_sem, Nat.reduceBEq, Nat.reduceLT, Nat.reduceAdd, Nat.reduceSub, Nat.reduceLeDiff, Int.reduceToNat, eq_self, ↓reduceIte, Bool.false_eq_true, decide_true, decide_false, List.take_length, Nat.reduceMul, Nat.mul_one, Nat.zero_mul, Nat.zero_add, Nat.add_zero, Int.cast_ofNat_Int, Int.reduceLT, Int.reduceLE, Nat.zero_lt_succ, and_self]
  by_cases hb : left - (h0.length : Int) < 0
  · rw [if_pos hb] at h ⊢
    simp -implicitDefEqProofs only [go_sem, Nat.reduceBEq, Nat.reduceLT, Nat.reduceAdd, Nat.reduceSub, Nat.reduceLeDiff, Int.reduceToNat, eq_self, ↓reduceIte, Bool.false_eq_true, decide_true, decide_false, List.take_length, Nat.reduceMul, Nat.mul_one, Nat.zero_mul, Nat.zero_add, Nat.add_zero, Int.cast_ofNat_Int, Int.reduceLT, Int.reduceLE, Nat.zero_lt_succ, and_self]
    exact end1 (by simp -implicitDefEqProofs only [go_sem, Nat.reduceBEq, Nat.reduceLT, Nat.reduceAdd, Nat.reduceSub, Nat.reduceLeDiff, Int.reduceToNat, eq_self, ↓reduceIte, Bool.false_eq_true, decide_true, decide_false, List.take_length, Nat.reduceMul, Nat.mul_one, Nat.zero_mul, Nat.zero_add, Nat.add_zero, Int.cast_ofNat_Int, Int.reduceLT, Int.reduceLE, Nat.zero_lt_succ, and_self]; first | done | rfl) rfl (by simp -implicitDefEqProofs only [go_sem, Nat.reduceBEq, Nat.reduceLT, Nat.reduceAdd, Nat.reduceSub, Nat.reduceLeDiff, Int.reduceToNat, eq_self, ↓reduceIte, Bool.false_eq_true, decide_true, decide_false, List.take_length, Nat.reduceMul, Nat.mul_one, Nat.zero_mul, Nat.zero_add, Nat.add_zero, Int.cast_ofNat_Int, Int.reduceLT, Int.reduceLE, Nat.zero_lt_succ, and_self]; exact h)
  · rw [if_neg hb] at h ⊢
    simp -implicitDefEqProofs only [go_sem, Nat.reduceBEq, Nat.reduceLT, Nat.reduceAdd, Nat.reduceSub, Nat.reduceLeDiff, Int.reduceToNat, eq_self, ↓reduceIte, Bool.false_eq_true, decide_true, decide_false, List.take_length, Nat.reduceMul, Nat.mul_one, Nat.zero_mul, Nat.zero_add, Nat.add_zero, Int.cast_ofNat_Int, Int.reduceLT, Int.reduceLE, Nat.zero_lt_succ, and_self, hb]
    exact end1 (by simp -implicitDefEqProofs only [go_sem, Nat.reduceBEq, Nat.reduceLT, Nat.reduceAdd, Nat.reduceSub, Nat.reduceLeDiff, Int.reduceToNat, eq_self, ↓reduceIte, Bool.false_eq_true, decide_true, decide_false, List.take_length, Nat.reduceMul, Nat.mul_one, Nat.zero_mul, Nat.zero_add, Nat.add_zero, Int.cast_ofNat_Int, Int.reduceLT, Int.reduceLE, Nat.zero_lt_succ, and_self]; first | done | rfl) rfl (by simp -implicitDefEqProofs only [go_sem, Nat.reduceBEq, Nat.reduceLT, Nat.reduceAdd, Nat.reduceSub, Nat.reduceLeDiff, Int.reduceToNat, eq_self, ↓reduceIte, Bool.false_eq_true, decide_true, decide_false, List.take_length, Nat.reduceMul, Nat.mul_one, Nat.zero_mul, Nat.zero_add, Nat.add_zero, Int.cast_ofNat_Int, Int.reduceLT, Int.reduceLE, Nat.zero_lt_succ, and_self]; exact h)

theorem c67 (d p : List UInt8) (cnt left : Int) (hd : d.length < 9223372036854775808) (hp : p.length < 9223372036854775808) (h1 : 0 ≤ left) (h2 : left ≤ 2000000)
    (h : K (int (if left - d.length < 0 then -1 else less (left - d.length) p.length)) H) : CallWp Tryd.prog W0 67 [logD d p cnt, int left] H K := by
  refine CallWp.fun hm F67 (Nat.le_of_ble_eq_true rfl) (Nat.le_of_ble_eq_true rfl) ?_
  unfold s67 h67
  unfold less at h
  simp -implicitDefEqProofs only [go_sem, Nat.reduceBEq, Nat.reduceLT, Nat.reduceAdd, Nat.reduceSub, Nat.reduceLeDiff, Int.reduceToNat, eq_self, ↓reduceIte, Bool.false_eq_true, decide_true, decide_false, List.take_length, Nat.reduceMul, Nat.mul_one, Nat.zero_mul, Nat.zero_add, Nat.add_zero, Int.cast_ofNat_Int, Int.reduceLT, Int.reduceLE, Nat.zero_lt_succ, and_self]
  rw [w64 (by omega)]
  refine dsplit (fun hb => ?_) (fun hb => ?_)
  · rw [if_pos hb] at h
    simp -implicitDefEqProofs only [go_sem, Nat.reduceBEq, Nat.reduceLT, Nat.reduceAdd, Nat.reduceSub, Nat.reduceLeDiff, Int.reduceToNat, eq_self, ↓reduceIte, Bool.false_eq_true, decide_true, decide_false, List.take_length, Nat.reduceMul, Nat.mul_one, Nat.zero_mul, Nat.zero_add, Nat.add_zero, Int.cast_ofNat_Int, Int.reduceLT, Int.reduceLE, Nat.zero_lt_succ, and_self]
    exact end1 (by simp -implicitDefEqProofs only [go_sem, Nat.reduceBEq, Nat.reduceLT, Nat.reduceAdd, Nat.reduceSub, Nat.reduceLeDiff, Int.reduceToNat, eq_self, ↓reduceIte, Bool.false_eq_true, decide_true, decide_false, List.take_length, Nat.reduceMul, Nat.mul_one, Nat.zero_mul, Nat.zero_add, Nat.add_zero, Int.cast_ofNat_Int, Int.reduceLT, Int.reduceLE, Nat.zero_lt_succ, and_self]; first | done | rfl) rfl (by simp -implicitDefEqProofs only [go_sem, Nat.reduceBEq, Nat.reduceLT, Nat.reduceAdd, Nat.reduceSub, Nat.reduceLeDiff, Int.reduceToNat, eq_self, ↓reduceIte, Bool.false_eq_true, decide_true, decide_false, List.take_length, Nat.reduceMul, Nat.mul_one, Nat.zero_mul, Nat.zero_add, Nat.add_zero, Int.cast_ofNat_Int, Int.reduceLT, Int.reduceLE, Nat.zero_lt_succ, and_self]; exact h)
  · rw [if_neg hb] at h
    simp -implicitDefEqProofs only [go_sem, Nat.reduceBEq, Nat.reduceLT, Nat.reduceAdd, Nat.reduceSub, Nat.reduceLeDiff, Int.reduceToNat, eq_self, ↓reduceIte, Bool.false_eq_true, decide_true, decide_false, List.take_length, Nat.reduceMul, Nat.mul_one, Nat.zero_mul, Nat.zero_add, Nat.add_zero, Int.cast_ofNat_Int, Int.reduceLT, Int.reduceLE, Nat.zero_lt_succ, and_self]
    rw [w64 (by omega)]
    refine dsplit (fun hb => ?_) (fun hb => ?_)
    · rw [if_pos hb] at h
      simp -implicitDefEqProofs only [go_sem, Nat.reduceBEq, Nat.reduceLT, Nat.reduceAdd, Nat.reduceSub, Nat.reduceLeDiff, Int.reduceToNat, eq_self, ↓reduceIte, Bool.false_eq_true, decide_true, decide_false, List.take_length, Nat.reduceMul, Nat.mul_one, Nat.zero_mul, Nat.zero_add, Nat.add_zero, Int.cast_ofNat_Int, Int.reduceLT, Int.reduceLE, Nat.zero_lt_succ, and_self]
      exact end1 (by simp -implicitDefEqProofs only [go_sem, Nat.reduceBEq, Nat.reduceLT, Nat.reduceAdd, Nat.reduceSub, Nat.reduceLeDiff, Int.reduceToNat, eq_self, ↓reduceIte, Bool.false_eq_true, decide_true, decide_false, List.take_length, Nat.reduceMul, Nat.mul_one, Nat.zero_mul, Nat.zero_add, Nat.add_zero, Int.cast_ofNat_Int, Int.reduceLT, Int.reduceLE, Nat.zero_lt_succ, and_self]; first | done | rfl) rfl (by simp -implicitDefEqProofs only [go_sem, Nat.reduceBEq, Nat.reduceLT, Nat.reduceAdd, Nat.reduceSub, Nat.reduceLeDiff, Int.reduceToNat, eq_self, ↓reduceIte, Bool.false_eq_true, decide_true, decide_false, List.take_length, Nat.reduceMul, Nat.mul_one, Nat.zero_mul, Nat.zero_add, Nat.add_zero, Int.cast_ofNat_Int, Int.reduceLT, Int.reduceLE, Nat.zero_lt_succ, and_self]; exact h)
    · rw [if_neg hb] at h
      simp -implicitDefEqProofs only [go_sem, Nat.reduceBEq, Nat.reduceLT, Nat.reduceAdd, Nat.reduceSub, Nat.reduceLeDiff, Int.reduceToNat, eq_self, ↓reduceIte, Bool.false_eq_true, decide_true, decide_false, List.take_length, Nat.reduceMul, Nat.mul_one, Nat.zero_mul, Nat.zero_add, Nat.add_zero, Int.cast_ofNat_Int, Int.reduceLT, Int.reduceLE, Nat.zero_lt_succ, and_self]
      exact end1 (by simp -implicitDefEqProofs only [go_sem, Nat.reduceBEq, Nat.reduceLT, Nat.reduceAdd, Nat.reduceSub, Nat.reduceLeDiff, Int.reduceToNat, eq_self, ↓reduceIte, Bool.false_eq_true, decide_true, decide_false, List.take_length, Nat.reduceMul, Nat.mul_one, Nat.zero_mul, Nat.zero_add, Nat.add_zero, Int.cast_ofNat_Int, Int.reduceLT, Int.reduceLE, Nat.zero_lt_succ, and_self]; first | done | rfl) rfl (by simp -implicitDefEqProofs only [go_sem, Nat.reduceBEq, Nat.reduceLT, Nat.reduceAdd, Nat.reduceSub, Nat.reduceLeDiff, Int.reduceToNat, eq_self, ↓reduceIte, Bool.false_eq_true, decide_true, decide_false, List.take_length, Nat.reduceMul, Nat.mul_one, Nat.zero_mul, Nat.zero_add, Nat.add_zero, Int.cast_ofNat_Int, Int.reduceLT, Int.reduceLE, Nat.zero_lt_succ, and_self]; exact h)

/-- The console's size is within the law's bound. -/
def small (h0 : List Card) (d p : List UInt8) : Bool := decide (h0.length + d.length + p.length ≤ 1048576)

theorem c32 (h0 : List Card) (t n : Int) (d p : List UInt8) (cnt : Int) (hl : h0.length < 9223372036854775808) (hd : d.length < 9223372036854775808) (hp : p.length < 9223372036854775808)
    (h : ∀ r : Int, (r < 0 ↔ small h0 d p = false) → -1 ≤ r → r ≤ 2000000 → K (int r) H) : CallWp Tryd.prog W0 32 [consD h0 t n d p cnt, int 1048576] H K := by
  refine CallWp.fun hm F32 (Nat.le_of_ble_eq_true rfl) (Nat.le_of_ble_eq_true rfl) ?_
  unfold s32 h32
  unfold small at h
  simp -implicitDefEqProofs only [go_sem, Nat.reduceBEq, Nat.reduceLT, Nat.reduceAdd, Nat.reduceSub, Nat.reduceLeDiff, Int.reduceToNat, eq_self, ↓reduceIte, Bool.false_eq_true, decide_true, decide_false, List.take_length, Nat.reduceMul, Nat.mul_one, Nat.zero_mul, Nat.zero_add, Nat.add_zero, Int.cast_ofNat_Int, Int.reduceLT, Int.reduceLE, Nat.zero_lt_succ, and_self]
  refine c66 h0 t n _ hl (by decide) (by decide) ?_
  unfold less
  by_cases hb : (1048576 : Int) - (h0.length : Int) < 0
  · rw [if_pos hb]
    simp -implicitDefEqProofs only [go_sem, Nat.reduceBEq, Nat.reduceLT, Nat.reduceAdd, Nat.reduceSub, Nat.reduceLeDiff, Int.reduceToNat, eq_self, ↓reduceIte, Bool.false_eq_true, decide_true, decide_false, List.take_length, Nat.reduceMul, Nat.mul_one, Nat.zero_mul, Nat.zero_add, Nat.add_zero, Int.cast_ofNat_Int, Int.reduceLT, Int.reduceLE, Nat.zero_lt_succ, and_self]
    exact end1 (by simp -implicitDefEqProofs only [go_sem, Nat.reduceBEq, Nat.reduceLT, Nat.reduceAdd, Nat.reduceSub, Nat.reduceLeDiff, Int.reduceToNat, eq_self, ↓reduceIte, Bool.false_eq_true, decide_true, decide_false, List.take_length, Nat.reduceMul, Nat.mul_one, Nat.zero_mul, Nat.zero_add, Nat.add_zero, Int.cast_ofNat_Int, Int.reduceLT, Int.reduceLE, Nat.zero_lt_succ, and_self]; first | done | rfl) rfl (by simp -implicitDefEqProofs only [go_sem, Nat.reduceBEq, Nat.reduceLT, Nat.reduceAdd, Nat.reduceSub, Nat.reduceLeDiff, Int.reduceToNat, eq_self, ↓reduceIte, Bool.false_eq_true, decide_true, decide_false, List.take_length, Nat.reduceMul, Nat.mul_one, Nat.zero_mul, Nat.zero_add, Nat.add_zero, Int.cast_ofNat_Int, Int.reduceLT, Int.reduceLE, Nat.zero_lt_succ, and_self]; exact h _ (by rw [decide_eq_false_iff_not]; omega) (by omega) (by omega))
  · rw [if_neg hb]
    simp -implicitDefEqProofs only [go_sem, Nat.reduceBEq, Nat.reduceLT, Nat.reduceAdd, Nat.reduceSub, Nat.reduceLeDiff, Int.reduceToNat, eq_self, ↓reduceIte, Bool.false_eq_true, decide_true, decide_false, List.take_length, Nat.reduceMul, Nat.mul_one, Nat.zero_mul, Nat.zero_add, Nat.add_zero, Int.cast_ofNat_Int, Int.reduceLT, Int.reduceLE, Nat.zero_lt_succ, and_self, hb]
    refine c67 d p cnt _ hd hp (by omega) (by omega) ?_
    unfold less
    by_cases hb2 : (1048576 : Int) - (h0.length : Int) - d.length < 0
    · rw [if_pos hb2]
      simp -implicitDefEqProofs only [go_sem, Nat.reduceBEq, Nat.reduceLT, Nat.reduceAdd, Nat.reduceSub, Nat.reduceLeDiff, Int.reduceToNat, eq_self, ↓reduceIte, Bool.false_eq_true, decide_true, decide_false, List.take_length, Nat.reduceMul, Nat.mul_one, Nat.zero_mul, Nat.zero_add, Nat.add_zero, Int.cast_ofNat_Int, Int.reduceLT, Int.reduceLE, Nat.zero_lt_succ, and_self]
      exact end1 (by simp -implicitDefEqProofs only [go_sem, Nat.reduceBEq, Nat.reduceLT, Nat.reduceAdd, Nat.reduceSub, Nat.reduceLeDiff, Int.reduceToNat, eq_self, ↓reduceIte, Bool.false_eq_true, decide_true, decide_false, List.take_length, Nat.reduceMul, Nat.mul_one, Nat.zero_mul, Nat.zero_add, Nat.add_zero, Int.cast_ofNat_Int, Int.reduceLT, Int.reduceLE, Nat.zero_lt_succ, and_self]; first | done | rfl) rfl (by simp -implicitDefEqProofs only [go_sem, Nat.reduceBEq, Nat.reduceLT, Nat.reduceAdd, Nat.reduceSub, Nat.reduceLeDiff, Int.reduceToNat, eq_self, ↓reduceIte, Bool.false_eq_true, decide_true, decide_false, List.take_length, Nat.reduceMul, Nat.mul_one, Nat.zero_mul, Nat.zero_add, Nat.add_zero, Int.cast_ofNat_Int, Int.reduceLT, Int.reduceLE, Nat.zero_lt_succ, and_self]; exact h _ (by rw [decide_eq_false_iff_not]; omega) (by omega) (by omega))
    · rw [if_neg hb2]
      by_cases hb3 : (1048576 : Int) - (h0.length : Int) - d.length - p.length < 0
      · rw [if_pos hb3]
        simp -implicitDefEqProofs only [go_sem, Nat.reduceBEq, Nat.reduceLT, Nat.reduceAdd, Nat.reduceSub, Nat.reduceLeDiff, Int.reduceToNat, eq_self, ↓reduceIte, Bool.false_eq_true, decide_true, decide_false, List.take_length, Nat.reduceMul, Nat.mul_one, Nat.zero_mul, Nat.zero_add, Nat.add_zero, Int.cast_ofNat_Int, Int.reduceLT, Int.reduceLE, Nat.zero_lt_succ, and_self]
        exact end1 (by simp -implicitDefEqProofs only [go_sem, Nat.reduceBEq, Nat.reduceLT, Nat.reduceAdd, Nat.reduceSub, Nat.reduceLeDiff, Int.reduceToNat, eq_self, ↓reduceIte, Bool.false_eq_true, decide_true, decide_false, List.take_length, Nat.reduceMul, Nat.mul_one, Nat.zero_mul, Nat.zero_add, Nat.add_zero, Int.cast_ofNat_Int, Int.reduceLT, Int.reduceLE, Nat.zero_lt_succ, and_self]; first | done | rfl) rfl (by simp -implicitDefEqProofs only [go_sem, Nat.reduceBEq, Nat.reduceLT, Nat.reduceAdd, Nat.reduceSub, Nat.reduceLeDiff, Int.reduceToNat, eq_self, ↓reduceIte, Bool.false_eq_true, decide_true, decide_false, List.take_length, Nat.reduceMul, Nat.mul_one, Nat.zero_mul, Nat.zero_add, Nat.add_zero, Int.cast_ofNat_Int, Int.reduceLT, Int.reduceLE, Nat.zero_lt_succ, and_self]; exact h _ (by rw [decide_eq_false_iff_not]; omega) (by omega) (by omega))
      · rw [if_neg hb3]
        simp -implicitDefEqProofs only [go_sem, Nat.reduceBEq, Nat.reduceLT, Nat.reduceAdd, Nat.reduceSub, Nat.reduceLeDiff, Int.reduceToNat, eq_self, ↓reduceIte, Bool.false_eq_true, decide_true, decide_false, List.take_length, Nat.reduceMul, Nat.mul_one, Nat.zero_mul, Nat.zero_add, Nat.add_zero, Int.cast_ofNat_Int, Int.reduceLT, Int.reduceLE, Nat.zero_lt_succ, and_self, hb3]
        exact end1 (by simp -implicitDefEqProofs only [go_sem, Nat.reduceBEq, Nat.reduceLT, Nat.reduceAdd, Nat.reduceSub, Nat.reduceLeDiff, Int.reduceToNat, eq_self, ↓reduceIte, Bool.false_eq_true, decide_true, decide_false, List.take_length, Nat.reduceMul, Nat.mul_one, Nat.zero_mul, Nat.zero_add, Nat.add_zero, Int.cast_ofNat_Int, Int.reduceLT, Int.reduceLE, Nat.zero_lt_succ, and_self]; first | done | rfl) rfl (by simp -implicitDefEqProofs only [go_sem, Nat.reduceBEq, Nat.reduceLT, Nat.reduceAdd, Nat.reduceSub, Nat.reduceLeDiff, Int.reduceToNat, eq_self, ↓reduceIte, Bool.false_eq_true, decide_true, decide_false, List.take_length, Nat.reduceMul, Nat.mul_one, Nat.zero_mul, Nat.zero_add, Nat.add_zero, Int.cast_ofNat_Int, Int.reduceLT, Int.reduceLE, Nat.zero_lt_succ, and_self]; exact h _ (by rw [decide_eq_false_iff_not]; omega) (by omega) (by omega))
end Go.Proofs.YtgnebanjejmckaaDoor
