/- Copies. -/
import Derived.Test.YtgnebanjejmckaaDoorC2
set_option maxRecDepth 100000
set_option linter.unusedSimpArgs false
set_option linter.unusedVariables false
namespace Go.Proofs.YtgnebanjejmckaaDoor
open Go Dl
variable {W0 : World} {H : Heap} {K : D → Heap → Prop}

theorem c103 (c : Card) (h : K (cardD c) H) : CallWp Tryd.prog W0 103 [cardD c] H K := by
  refine CallWp.fun hm F103 (Nat.le_of_ble_eq_true rfl) (Nat.le_of_ble_eq_true rfl) ?_
  unfold s103 h103
  obtain ⟨x, y, z, u⟩ := c
  simp -implicitDefEqProofs only [go_sem, Nat.reduceBEq, Nat.reduceLT, Nat.reduceAdd, Nat.reduceSub, Nat.reduceLeDiff, Int.reduceToNat, eq_self, ↓reduceIte, Bool.false_eq_true, decide_true, decide_false, List.take_length, Nat.reduceMul, Nat.mul_one, Nat.zero_mul, Nat.zero_add, Nat.add_zero, Int.cast_ofNat_Int, Int.reduceLT, Int.reduceLE, Nat.zero_lt_succ, and_self]
  refine s_loop (fun i => 4 - i) (fun i fr' H' => fr' 4 = int i ∧ i ≤ 4 ∧ H' = H ++ [[int x, int y, int z, int u], [int 0, int 0, int 0, int 0], ([int x, int y, int z, int u].take i ++ [int 0, int 0, int 0, int 0].drop i)]) [1, 2, 3] CallWp.monoC (by kernel_rfl) 0 ⟨by simp -implicitDefEqProofs only [go_sem, Nat.reduceBEq, Nat.reduceLT, Nat.reduceAdd, Nat.reduceSub, Nat.reduceLeDiff, Int.reduceToNat, eq_self, ↓reduceIte, Bool.false_eq_true, decide_true, decide_false, List.take_length, Nat.reduceMul, Nat.mul_one, Nat.zero_mul, Nat.zero_add, Nat.add_zero, Int.cast_ofNat_Int, Int.reduceLT, Int.reduceLE, Nat.zero_lt_succ, and_self]; first | done | rfl, by omega, rfl⟩ ?_
  rintro i g H' ⟨h4, hi, rfl⟩
  simp -implicitDefEqProofs only [go_sem, Nat.reduceBEq, Nat.reduceLT, Nat.reduceAdd, Nat.reduceSub, Nat.reduceLeDiff, Int.reduceToNat, eq_self, ↓reduceIte, Bool.false_eq_true, decide_true, decide_false, List.take_length, Nat.reduceMul, Nat.mul_one, Nat.zero_mul, Nat.zero_add, Nat.add_zero, Int.cast_ofNat_Int, Int.reduceLT, Int.reduceLE, Nat.zero_lt_succ, and_self] at h4
  simp -implicitDefEqProofs only [go_sem, Nat.reduceBEq, Nat.reduceLT, Nat.reduceAdd, Nat.reduceSub, Nat.reduceLeDiff, Int.reduceToNat, eq_self, ↓reduceIte, Bool.false_eq_true, decide_true, decide_false, List.take_length, Nat.reduceMul, Nat.mul_one, Nat.zero_mul, Nat.zero_add, Nat.add_zero, Int.cast_ofNat_Int, Int.reduceLT, Int.reduceLE, Nat.zero_lt_succ, and_self, h4]
  refine dsplit (fun hlt => ?_) (fun hge => ?_)
  · simp -implicitDefEqProofs only [go_sem, Nat.reduceBEq, Nat.reduceLT, Nat.reduceAdd, Nat.reduceSub, Nat.reduceLeDiff, Int.reduceToNat, eq_self, ↓reduceIte, Bool.false_eq_true, decide_true, decide_false, List.take_length, Nat.reduceMul, Nat.mul_one, Nat.zero_mul, Nat.zero_add, Nat.add_zero, Int.cast_ofNat_Int, Int.reduceLT, Int.reduceLE, Nat.zero_lt_succ, and_self, h4]
    obtain rfl | rfl | rfl | rfl : i = 0 ∨ i = 1 ∨ i = 2 ∨ i = 3 := by omega
    all_goals
      simp -implicitDefEqProofs only [go_sem, Nat.reduceBEq, Nat.reduceLT, Nat.reduceAdd, Nat.reduceSub, Nat.reduceLeDiff, Int.reduceToNat, eq_self, ↓reduceIte, Bool.false_eq_true, decide_true, decide_false, List.take_length, Nat.reduceMul, Nat.mul_one, Nat.zero_mul, Nat.zero_add, Nat.add_zero, Int.cast_ofNat_Int, Int.reduceLT, Int.reduceLE, Nat.zero_lt_succ, and_self, h4]
      rw [w64 (by decide)]
    · exact ⟨1, by decide, by simp -implicitDefEqProofs only [go_sem, Nat.reduceBEq, Nat.reduceLT, Nat.reduceAdd, Nat.reduceSub, Nat.reduceLeDiff, Int.reduceToNat, eq_self, ↓reduceIte, Bool.false_eq_true, decide_true, decide_false, List.take_length, Nat.reduceMul, Nat.mul_one, Nat.zero_mul, Nat.zero_add, Nat.add_zero, Int.cast_ofNat_Int, Int.reduceLT, Int.reduceLE, Nat.zero_lt_succ, and_self]; first | done | rfl, by decide, by simp -implicitDefEqProofs only [go_sem, Nat.reduceBEq, Nat.reduceLT, Nat.reduceAdd, Nat.reduceSub, Nat.reduceLeDiff, Int.reduceToNat, eq_self, ↓reduceIte, Bool.false_eq_true, decide_true, decide_false, List.take_length, Nat.reduceMul, Nat.mul_one, Nat.zero_mul, Nat.zero_add, Nat.add_zero, Int.cast_ofNat_Int, Int.reduceLT, Int.reduceLE, Nat.zero_lt_succ, and_self]; first | done | rfl⟩
    · exact ⟨2, by decide, by simp -implicitDefEqProofs only [go_sem, Nat.reduceBEq, Nat.reduceLT, Nat.reduceAdd, Nat.reduceSub, Nat.reduceLeDiff, Int.reduceToNat, eq_self, ↓reduceIte, Bool.false_eq_true, decide_true, decide_false, List.take_length, Nat.reduceMul, Nat.mul_one, Nat.zero_mul, Nat.zero_add, Nat.add_zero, Int.cast_ofNat_Int, Int.reduceLT, Int.reduceLE, Nat.zero_lt_succ, and_self]; first | done | rfl, by decide, by simp -implicitDefEqProofs only [go_sem, Nat.reduceBEq, Nat.reduceLT, Nat.reduceAdd, Nat.reduceSub, Nat.reduceLeDiff, Int.reduceToNat, eq_self, ↓reduceIte, Bool.false_eq_true, decide_true, decide_false, List.take_length, Nat.reduceMul, Nat.mul_one, Nat.zero_mul, Nat.zero_add, Nat.add_zero, Int.cast_ofNat_Int, Int.reduceLT, Int.reduceLE, Nat.zero_lt_succ, and_self]; first | done | rfl⟩
    · exact ⟨3, by decide, by simp -implicitDefEqProofs only [go_sem, Nat.reduceBEq, Nat.reduceLT, Nat.reduceAdd, Nat.reduceSub, Nat.reduceLeDiff, Int.reduceToNat, eq_self, ↓reduceIte, Bool.false_eq_true, decide_true, decide_false, List.take_length, Nat.reduceMul, Nat.mul_one, Nat.zero_mul, Nat.zero_add, Nat.add_zero, Int.cast_ofNat_Int, Int.reduceLT, Int.reduceLE, Nat.zero_lt_succ, and_self]; first | done | rfl, by decide, by simp -implicitDefEqProofs only [go_sem, Nat.reduceBEq, Nat.reduceLT, Nat.reduceAdd, Nat.reduceSub, Nat.reduceLeDiff, Int.reduceToNat, eq_self, ↓reduceIte, Bool.false_eq_true, decide_true, decide_false, List.take_length, Nat.reduceMul, Nat.mul_one, Nat.zero_mul, Nat.zero_add, Nat.add_zero, Int.cast_ofNat_Int, Int.reduceLT, Int.reduceLE, Nat.zero_lt_succ, and_self]; first | done | rfl⟩
    · exact ⟨4, by decide, by simp -implicitDefEqProofs only [go_sem, Nat.reduceBEq, Nat.reduceLT, Nat.reduceAdd, Nat.reduceSub, Nat.reduceLeDiff, Int.reduceToNat, eq_self, ↓reduceIte, Bool.false_eq_true, decide_true, decide_false, List.take_length, Nat.reduceMul, Nat.mul_one, Nat.zero_mul, Nat.zero_add, Nat.add_zero, Int.cast_ofNat_Int, Int.reduceLT, Int.reduceLE, Nat.zero_lt_succ, and_self]; first | done | rfl, by decide, by simp -implicitDefEqProofs only [go_sem, Nat.reduceBEq, Nat.reduceLT, Nat.reduceAdd, Nat.reduceSub, Nat.reduceLeDiff, Int.reduceToNat, eq_self, ↓reduceIte, Bool.false_eq_true, decide_true, decide_false, List.take_length, Nat.reduceMul, Nat.mul_one, Nat.zero_mul, Nat.zero_add, Nat.add_zero, Int.cast_ofNat_Int, Int.reduceLT, Int.reduceLE, Nat.zero_lt_succ, and_self]; first | done | rfl⟩
  · have : i = 4 := by omega
    subst this
    simp -implicitDefEqProofs only [go_sem, Nat.reduceBEq, Nat.reduceLT, Nat.reduceAdd, Nat.reduceSub, Nat.reduceLeDiff, Int.reduceToNat, eq_self, ↓reduceIte, Bool.false_eq_true, decide_true, decide_false, List.take_length, Nat.reduceMul, Nat.mul_one, Nat.zero_mul, Nat.zero_add, Nat.add_zero, Int.cast_ofNat_Int, Int.reduceLT, Int.reduceLE, Nat.zero_lt_succ, and_self, h4]
    exact endC1 (by simp -implicitDefEqProofs only [go_sem, Nat.reduceBEq, Nat.reduceLT, Nat.reduceAdd, Nat.reduceSub, Nat.reduceLeDiff, Int.reduceToNat, eq_self, ↓reduceIte, Bool.false_eq_true, decide_true, decide_false, List.take_length, Nat.reduceMul, Nat.mul_one, Nat.zero_mul, Nat.zero_add, Nat.add_zero, Int.cast_ofNat_Int, Int.reduceLT, Int.reduceLE, Nat.zero_lt_succ, and_self]; first | done | rfl) rfl (by simp -implicitDefEqProofs only [go_sem, Nat.reduceBEq, Nat.reduceLT, Nat.reduceAdd, Nat.reduceSub, Nat.reduceLeDiff, Int.reduceToNat, eq_self, ↓reduceIte, Bool.false_eq_true, decide_true, decide_false, List.take_length, Nat.reduceMul, Nat.mul_one, Nat.zero_mul, Nat.zero_add, Nat.add_zero, Int.cast_ofNat_Int, Int.reduceLT, Int.reduceLE, Nat.zero_lt_succ, and_self]; exact h)

abbrev cardCells (l : List Card) : List D := l.flatMap fun c => [int c.1, int c.2.1, int c.2.2.1, int c.2.2.2]
abbrev zeros4 (n : Nat) : List D := (List.replicate n [int 0, int 0, int 0, int 0]).flatten
theorem cardCells_len (l : List Card) : (cardCells l).length = l.length * 4 := by
  induction l with
  | nil => rfl
  | cons c l ih =>
    have : (cardCells (c :: l)).length = 4 + (cardCells l).length := by simp only [cardCells, List.flatMap_cons, List.length_append, List.length_cons, List.length_nil]
    rw [this, ih, List.length_cons]; omega
theorem zeros4_len (n : Nat) : (zeros4 n).length = n * 4 := by
  induction n with
  | zero => rfl
  | succ n ih =>
    have : (zeros4 (n + 1)).length = 4 + (zeros4 n).length := by simp only [zeros4, List.replicate_succ, List.flatten_cons, List.length_append, List.length_cons, List.length_nil]
    rw [this, ih]; omega
theorem set_step (l : List Card) (i : Nat) (h : i < l.length) :
    setCells (cardCells (l.take i) ++ zeros4 (l.length - i)) (i * 4) ((cardD (l.getD i card0)).cells.map D.pl) = cardCells (l.take (i + 1)) ++ zeros4 (l.length - (i + 1)) := by
  have e1 : (cardCells (l.take i)).length = i * 4 := by rw [cardCells_len, List.length_take]; omega
  have e2 : zeros4 (l.length - i) = [int 0, int 0, int 0, int 0] ++ zeros4 (l.length - (i + 1)) := by
    rw [show l.length - i = (l.length - (i + 1)) + 1 by omega]
    rfl
  have e3 : cardCells (l.take (i + 1)) = cardCells (l.take i) ++ [int (l.getD i card0).1, int (l.getD i card0).2.1, int (l.getD i card0).2.2.1, int (l.getD i card0).2.2.2] := by
    rw [List.take_succ_eq_append_getElem h, getD_lt' _ _ _ h]
    simp only [cardCells, List.flatMap_append, List.flatMap_cons, List.flatMap_nil, List.append_nil]
  unfold setCells
  rw [e3, e2, List.take_left' e1]
  have e4 : (i * 4 + ((cardD (l.getD i card0)).cells.map D.pl).length) = (cardCells (l.take i) ++ [int 0, int 0, int 0, int 0]).length := by
    rw [List.length_append, e1]; rfl
  rw [e4, ← List.append_assoc, List.drop_left' rfl]
  rfl

theorem c92 (h0 : List Card) (hl : h0.length < 1000000000) (h : K (.lst .no (cardsD h0)) H) : CallWp Tryd.prog W0 92 [.lst .no (cardsD h0)] H K := by
  refine CallWp.fun hm F92 (Nat.le_of_ble_eq_true rfl) (Nat.le_of_ble_eq_true rfl) ?_
  unfold s92 h92
  simp -implicitDefEqProofs only [go_sem, Nat.reduceBEq, Nat.reduceLT, Nat.reduceAdd, Nat.reduceSub, Nat.reduceLeDiff, Int.reduceToNat, eq_self, ↓reduceIte, Bool.false_eq_true, decide_true, decide_false, List.take_length, Nat.reduceMul, Nat.mul_one, Nat.zero_mul, Nat.zero_add, Nat.add_zero, Int.cast_ofNat_Int, Int.reduceLT, Int.reduceLE, Nat.zero_lt_succ, and_self]
  rw [msR_some _ _ _ _ _ tz127]
  refine needH_mk ⟨by omega, rfl, by omega, by simp -implicitDefEqProofs only [go_sem, Nat.reduceBEq, Nat.reduceLT, Nat.reduceAdd, Nat.reduceSub, Nat.reduceLeDiff, Int.reduceToNat, eq_self, ↓reduceIte, Bool.false_eq_true, decide_true, decide_false, List.take_length, Nat.reduceMul, Nat.mul_one, Nat.zero_mul, Nat.zero_add, Nat.add_zero, Int.cast_ofNat_Int, Int.reduceLT, Int.reduceLE, Nat.zero_lt_succ, and_self], by simp -implicitDefEqProofs only [go_sem, Nat.reduceBEq, Nat.reduceLT, Nat.reduceAdd, Nat.reduceSub, Nat.reduceLeDiff, Int.reduceToNat, eq_self, ↓reduceIte, Bool.false_eq_true, decide_true, decide_false, List.take_length, Nat.reduceMul, Nat.mul_one, Nat.zero_mul, Nat.zero_add, Nat.add_zero, Int.cast_ofNat_Int, Int.reduceLT, Int.reduceLE, Nat.zero_lt_succ, and_self], by kernel_rfl, by simp -implicitDefEqProofs only [go_sem, Nat.reduceBEq, Nat.reduceLT, Nat.reduceAdd, Nat.reduceSub, Nat.reduceLeDiff, Int.reduceToNat, eq_self, ↓reduceIte, Bool.false_eq_true, decide_true, decide_false, List.take_length, Nat.reduceMul, Nat.mul_one, Nat.zero_mul, Nat.zero_add, Nat.add_zero, Int.cast_ofNat_Int, Int.reduceLT, Int.reduceLE, Nat.zero_lt_succ, and_self]; kernel_rfl⟩ fun _ => ?_
  simp -implicitDefEqProofs only [go_sem, Nat.reduceBEq, Nat.reduceLT, Nat.reduceAdd, Nat.reduceSub, Nat.reduceLeDiff, Int.reduceToNat, eq_self, ↓reduceIte, Bool.false_eq_true, decide_true, decide_false, List.take_length, Nat.reduceMul, Nat.mul_one, Nat.zero_mul, Nat.zero_add, Nat.add_zero, Int.cast_ofNat_Int, Int.reduceLT, Int.reduceLE, Nat.zero_lt_succ, and_self]
  refine s_loop (fun i => h0.length - i) (fun i fr' H' => fr' 4 = int i ∧ i ≤ h0.length ∧ H' = H ++ [cardCells (h0.take i) ++ zeros4 (h0.length - i)]) [0, 3] CallWp.monoC (by kernel_rfl) 0 ⟨by simp -implicitDefEqProofs only [go_sem, Nat.reduceBEq, Nat.reduceLT, Nat.reduceAdd, Nat.reduceSub, Nat.reduceLeDiff, Int.reduceToNat, eq_self, ↓reduceIte, Bool.false_eq_true, decide_true, decide_false, List.take_length, Nat.reduceMul, Nat.mul_one, Nat.zero_mul, Nat.zero_add, Nat.add_zero, Int.cast_ofNat_Int, Int.reduceLT, Int.reduceLE, Nat.zero_lt_succ, and_self]; first | done | rfl, by omega, by simp⟩ ?_
  rintro i g H' ⟨h4, hi, rfl⟩
  simp -implicitDefEqProofs only [go_sem, Nat.reduceBEq, Nat.reduceLT, Nat.reduceAdd, Nat.reduceSub, Nat.reduceLeDiff, Int.reduceToNat, eq_self, ↓reduceIte, Bool.false_eq_true, decide_true, decide_false, List.take_length, Nat.reduceMul, Nat.mul_one, Nat.zero_mul, Nat.zero_add, Nat.add_zero, Int.cast_ofNat_Int, Int.reduceLT, Int.reduceLE, Nat.zero_lt_succ, and_self] at h4
  simp -implicitDefEqProofs only [go_sem, Nat.reduceBEq, Nat.reduceLT, Nat.reduceAdd, Nat.reduceSub, Nat.reduceLeDiff, Int.reduceToNat, eq_self, ↓reduceIte, Bool.false_eq_true, decide_true, decide_false, List.take_length, Nat.reduceMul, Nat.mul_one, Nat.zero_mul, Nat.zero_add, Nat.add_zero, Int.cast_ofNat_Int, Int.reduceLT, Int.reduceLE, Nat.zero_lt_succ, and_self, h4]
  refine dsplit (fun hlt => ?_) (fun hge => ?_)
  · have hlt' : i < h0.length := by omega
    have hget := cards_get h0 i hlt'
    have hstep := set_step h0 i hlt'
    simp -implicitDefEqProofs only [go_sem, Nat.reduceBEq, Nat.reduceLT, Nat.reduceAdd, Nat.reduceSub, Nat.reduceLeDiff, Int.reduceToNat, eq_self, ↓reduceIte, Bool.false_eq_true, decide_true, decide_false, List.take_length, Nat.reduceMul, Nat.mul_one, Nat.zero_mul, Nat.zero_add, Nat.add_zero, Int.cast_ofNat_Int, Int.reduceLT, Int.reduceLE, Nat.zero_lt_succ, and_self, h4, hget]
    refine need_mk (by first | omega | decide | rfl | trivial | (refine ⟨?_, ?_⟩ <;> first | omega | rfl | decide) | (refine ⟨?_, ?_, ?_⟩ <;> first | omega | rfl | decide)) fun _ => ?_
    simp -implicitDefEqProofs only [go_sem, Nat.reduceBEq, Nat.reduceLT, Nat.reduceAdd, Nat.reduceSub, Nat.reduceLeDiff, Int.reduceToNat, eq_self, ↓reduceIte, Bool.false_eq_true, decide_true, decide_false, List.take_length, Nat.reduceMul, Nat.mul_one, Nat.zero_mul, Nat.zero_add, Nat.add_zero, Int.cast_ofNat_Int, Int.reduceLT, Int.reduceLE, Nat.zero_lt_succ, and_self, h4]
    refine c103 _ ?_
    simp -implicitDefEqProofs only [go_sem, Nat.reduceBEq, Nat.reduceLT, Nat.reduceAdd, Nat.reduceSub, Nat.reduceLeDiff, Int.reduceToNat, eq_self, ↓reduceIte, Bool.false_eq_true, decide_true, decide_false, List.take_length, Nat.reduceMul, Nat.mul_one, Nat.zero_mul, Nat.zero_add, Nat.add_zero, Int.cast_ofNat_Int, Int.reduceLT, Int.reduceLE, Nat.zero_lt_succ, and_self, h4]
    refine need_mk (by first | omega | decide | rfl | trivial | (refine ⟨?_, ?_⟩ <;> first | omega | rfl | decide) | (refine ⟨?_, ?_, ?_⟩ <;> first | omega | rfl | decide)) fun _ => ?_
    simp -implicitDefEqProofs only [go_sem, Nat.reduceBEq, Nat.reduceLT, Nat.reduceAdd, Nat.reduceSub, Nat.reduceLeDiff, Int.reduceToNat, eq_self, ↓reduceIte, Bool.false_eq_true, decide_true, decide_false, List.take_length, Nat.reduceMul, Nat.mul_one, Nat.zero_mul, Nat.zero_add, Nat.add_zero, Int.cast_ofNat_Int, Int.reduceLT, Int.reduceLE, Nat.zero_lt_succ, and_self, h4]
    have hbl : (cardCells (h0.take i) ++ zeros4 (h0.length - i)).length = h0.length * 4 := by
      rw [List.length_append, cardCells_len, zeros4_len, List.length_take]; omega
    have hs2 : List.take (i * 4) (cardCells (h0.take i) ++ zeros4 (h0.length - i)) ++ D.int IntKind.i64 (h0.getD i card0).1 :: D.int IntKind.i64 (h0.getD i card0).2.1 :: D.int IntKind.i64 (h0.getD i card0).2.2.1 :: D.int IntKind.i64 (h0.getD i card0).2.2.2 ::
        List.drop (i * 4 + 4) (cardCells (h0.take i) ++ zeros4 (h0.length - i)) = cardCells (h0.take (i + 1)) ++ zeros4 (h0.length - (i + 1)) := by
      rw [← hstep]; unfold setCells; simp [D.cells, D.pl]
    rw [hbl, hs2]
    refine needH_mk (by omega) fun _ => ?_
    simp -implicitDefEqProofs only [go_sem, Nat.reduceBEq, Nat.reduceLT, Nat.reduceAdd, Nat.reduceSub, Nat.reduceLeDiff, Int.reduceToNat, eq_self, ↓reduceIte, Bool.false_eq_true, decide_true, decide_false, List.take_length, Nat.reduceMul, Nat.mul_one, Nat.zero_mul, Nat.zero_add, Nat.add_zero, Int.cast_ofNat_Int, Int.reduceLT, Int.reduceLE, Nat.zero_lt_succ, and_self, h4]
    rw [w64 (by omega)]
    exact ⟨i + 1, by dsimp only; omega, by simp -implicitDefEqProofs only [go_sem, Nat.reduceBEq, Nat.reduceLT, Nat.reduceAdd, Nat.reduceSub, Nat.reduceLeDiff, Int.reduceToNat, eq_self, ↓reduceIte, Bool.false_eq_true, decide_true, decide_false, List.take_length, Nat.reduceMul, Nat.mul_one, Nat.zero_mul, Nat.zero_add, Nat.add_zero, Int.cast_ofNat_Int, Int.reduceLT, Int.reduceLE, Nat.zero_lt_succ, and_self]; first | done | rfl, by omega, rfl⟩
  · have : i = h0.length := by omega
    subst this
    simp -implicitDefEqProofs only [go_sem, Nat.reduceBEq, Nat.reduceLT, Nat.reduceAdd, Nat.reduceSub, Nat.reduceLeDiff, Int.reduceToNat, eq_self, ↓reduceIte, Bool.false_eq_true, decide_true, decide_false, List.take_length, Nat.reduceMul, Nat.mul_one, Nat.zero_mul, Nat.zero_add, Nat.add_zero, Int.cast_ofNat_Int, Int.reduceLT, Int.reduceLE, Nat.zero_lt_succ, and_self, h4]
    refine endZ (xs := cardsD h0) (by simp -implicitDefEqProofs only [go_sem, Nat.reduceBEq, Nat.reduceLT, Nat.reduceAdd, Nat.reduceSub, Nat.reduceLeDiff, Int.reduceToNat, eq_self, ↓reduceIte, Bool.false_eq_true, decide_true, decide_false, List.take_length, Nat.reduceMul, Nat.mul_one, Nat.zero_mul, Nat.zero_add, Nat.add_zero, Int.cast_ofNat_Int, Int.reduceLT, Int.reduceLE, Nat.zero_lt_succ, and_self]; first | done | rfl) (Nat.le_refl _) (by decide) (by simp) (fun x hx => ?_) ?_ (by simp -implicitDefEqProofs only [go_sem, Nat.reduceBEq, Nat.reduceLT, Nat.reduceAdd, Nat.reduceSub, Nat.reduceLeDiff, Int.reduceToNat, eq_self, ↓reduceIte, Bool.false_eq_true, decide_true, decide_false, List.take_length, Nat.reduceMul, Nat.mul_one, Nat.zero_mul, Nat.zero_add, Nat.add_zero, Int.cast_ofNat_Int, Int.reduceLT, Int.reduceLE, Nat.zero_lt_succ, and_self]; exact h)
    · obtain ⟨y, _, rfl⟩ := List.mem_map.1 hx
      rfl
    · simp -implicitDefEqProofs only [go_sem, Nat.reduceBEq, Nat.reduceLT, Nat.reduceAdd, Nat.reduceSub, Nat.reduceLeDiff, Int.reduceToNat, eq_self, ↓reduceIte, Bool.false_eq_true, decide_true, decide_false, List.take_length, Nat.reduceMul, Nat.mul_one, Nat.zero_mul, Nat.zero_add, Nat.add_zero, Int.cast_ofNat_Int, Int.reduceLT, Int.reduceLE, Nat.zero_lt_succ, and_self, Nat.sub_self, List.take_length]
      simp [cardCells, cardsD, List.flatMap_map, D.cells]

theorem c69 (h0 : List Card) (t n : Int) (hl : h0.length < 1000000000) (h : K (tableD h0 t n) H) : CallWp Tryd.prog W0 69 [tableD h0 t n] H K := by
  refine CallWp.fun hm F69 (Nat.le_of_ble_eq_true rfl) (Nat.le_of_ble_eq_true rfl) ?_
  unfold s69 h69
  simp -implicitDefEqProofs only [go_sem, Nat.reduceBEq, Nat.reduceLT, Nat.reduceAdd, Nat.reduceSub, Nat.reduceLeDiff, Int.reduceToNat, eq_self, ↓reduceIte, Bool.false_eq_true, decide_true, decide_false, List.take_length, Nat.reduceMul, Nat.mul_one, Nat.zero_mul, Nat.zero_add, Nat.add_zero, Int.cast_ofNat_Int, Int.reduceLT, Int.reduceLE, Nat.zero_lt_succ, and_self]
  refine c92 h0 hl ?_
  simp -implicitDefEqProofs only [go_sem, Nat.reduceBEq, Nat.reduceLT, Nat.reduceAdd, Nat.reduceSub, Nat.reduceLeDiff, Int.reduceToNat, eq_self, ↓reduceIte, Bool.false_eq_true, decide_true, decide_false, List.take_length, Nat.reduceMul, Nat.mul_one, Nat.zero_mul, Nat.zero_add, Nat.add_zero, Int.cast_ofNat_Int, Int.reduceLT, Int.reduceLE, Nat.zero_lt_succ, and_self]
  exact endC1 (by simp -implicitDefEqProofs only [go_sem, Nat.reduceBEq, Nat.reduceLT, Nat.reduceAdd, Nat.reduceSub, Nat.reduceLeDiff, Int.reduceToNat, eq_self, ↓reduceIte, Bool.false_eq_true, decide_true, decide_false, List.take_length, Nat.reduceMul, Nat.mul_one, Nat.zero_mul, Nat.zero_add, Nat.add_zero, Int.cast_ofNat_Int, Int.reduceLT, Int.reduceLE, Nat.zero_lt_succ, and_self]; first | done | rfl) rfl (by simp -implicitDefEqProofs only [go_sem, Nat.reduceBEq, Nat.reduceLT, Nat.reduceAdd, Nat.reduceSub, Nat.reduceLeDiff, Int.reduceToNat, eq_self, ↓reduceIte, Bool.false_eq_true, decide_true, decide_false, List.take_length, Nat.reduceMul, Nat.mul_one, Nat.zero_mul, Nat.zero_add, Nat.add_zero, Int.cast_ofNat_Int, Int.reduceLT, Int.reduceLE, Nat.zero_lt_succ, and_self]; exact h)

theorem c70 (d p : List UInt8) (cnt : Int) (h : K (logD d p cnt) H) : CallWp Tryd.prog W0 70 [logD d p cnt] H K := by
  refine CallWp.fun hm F70 (Nat.le_of_ble_eq_true rfl) (Nat.le_of_ble_eq_true rfl) ?_
  unfold s70 h70
  simp -implicitDefEqProofs only [go_sem, Nat.reduceBEq, Nat.reduceLT, Nat.reduceAdd, Nat.reduceSub, Nat.reduceLeDiff, Int.reduceToNat, eq_self, ↓reduceIte, Bool.false_eq_true, decide_true, decide_false, List.take_length, Nat.reduceMul, Nat.mul_one, Nat.zero_mul, Nat.zero_add, Nat.add_zero, Int.cast_ofNat_Int, Int.reduceLT, Int.reduceLE, Nat.zero_lt_succ, and_self]
  exact endC1 (by simp -implicitDefEqProofs only [go_sem, Nat.reduceBEq, Nat.reduceLT, Nat.reduceAdd, Nat.reduceSub, Nat.reduceLeDiff, Int.reduceToNat, eq_self, ↓reduceIte, Bool.false_eq_true, decide_true, decide_false, List.take_length, Nat.reduceMul, Nat.mul_one, Nat.zero_mul, Nat.zero_add, Nat.add_zero, Int.cast_ofNat_Int, Int.reduceLT, Int.reduceLE, Nat.zero_lt_succ, and_self]; first | done | rfl) rfl (by simp -implicitDefEqProofs only [go_sem, Nat.reduceBEq, Nat.reduceLT, Nat.reduceAdd, Nat.reduceSub, Nat.reduceLeDiff, Int.reduceToNat, eq_self, ↓reduceIte, Bool.false_eq_true, decide_true, decide_false, List.take_length, Nat.reduceMul, Nat.mul_one, Nat.zero_mul, Nat.zero_add, Nat.add_zero, Int.cast_ofNat_Int, Int.reduceLT, Int.reduceLE, Nat.zero_lt_succ, and_self]; exact h)

theorem c34 (h0 : List Card) (t n : Int) (d p : List UInt8) (cnt : Int) (hl : h0.length < 1000000000) (h : K (consD h0 t n d p cnt) H) : CallWp Tryd.prog W0 34 [consD h0 t n d p cnt] H K := by
  refine CallWp.fun hm F34 (Nat.le_of_ble_eq_true rfl) (Nat.le_of_ble_eq_true rfl) ?_
  unfold s34 h34
  simp -implicitDefEqProofs only [go_sem, Nat.reduceBEq, Nat.reduceLT, Nat.reduceAdd, Nat.reduceSub, Nat.reduceLeDiff, Int.reduceToNat, eq_self, ↓reduceIte, Bool.false_eq_true, decide_true, decide_false, List.take_length, Nat.reduceMul, Nat.mul_one, Nat.zero_mul, Nat.zero_add, Nat.add_zero, Int.cast_ofNat_Int, Int.reduceLT, Int.reduceLE, Nat.zero_lt_succ, and_self]
  refine c69 h0 t n hl ?_
  simp -implicitDefEqProofs only [go_sem, Nat.reduceBEq, Nat.reduceLT, Nat.reduceAdd, Nat.reduceSub, Nat.reduceLeDiff, Int.reduceToNat, eq_self, ↓reduceIte, Bool.false_eq_true, decide_true, decide_false, List.take_length, Nat.reduceMul, Nat.mul_one, Nat.zero_mul, Nat.zero_add, Nat.add_zero, Int.cast_ofNat_Int, Int.reduceLT, Int.reduceLE, Nat.zero_lt_succ, and_self]
  refine c70 d p cnt ?_
  simp -implicitDefEqProofs only [go_sem, Nat.reduceBEq, Nat.reduceLT, Nat.reduceAdd, Nat.reduceSub, Nat.reduceLeDiff, Int.reduceToNat, eq_self, ↓reduceIte, Bool.false_eq_true, decide_true, decide_false, List.take_length, Nat.reduceMul, Nat.mul_one, Nat.zero_mul, Nat.zero_add, Nat.add_zero, Int.cast_ofNat_Int, Int.reduceLT, Int.reduceLE, Nat.zero_lt_succ, and_self]
  exact endC1 (by simp -implicitDefEqProofs only [go_sem, Nat.reduceBEq, Nat.reduceLT, Nat.reduceAdd, Nat.reduceSub, Nat.reduceLeDiff, Int.reduceToNat, eq_self, ↓reduceIte, Bool.false_eq_true, decide_true, decide_false, List.take_length, Nat.reduceMul, Nat.mul_one, Nat.zero_mul, Nat.zero_add, Nat.add_zero, Int.cast_ofNat_Int, Int.reduceLT, Int.reduceLE, Nat.zero_lt_succ, and_self]; first | done | rfl) rfl (by simp -implicitDefEqProofs only [go_sem, Nat.reduceBEq, Nat.reduceLT, Nat.reduceAdd, Nat.reduceSub, Nat.reduceLeDiff, Int.reduceToNat, eq_self, ↓reduceIte, Bool.false_eq_true, decide_true, decide_false, List.take_length, Nat.reduceMul, Nat.mul_one, Nat.zero_mul, Nat.zero_add, Nat.add_zero, Int.cast_ofNat_Int, Int.reduceLT, Int.reduceLE, Nat.zero_lt_succ, and_self]; exact h)
end Go.Proofs.YtgnebanjejmckaaDoor
