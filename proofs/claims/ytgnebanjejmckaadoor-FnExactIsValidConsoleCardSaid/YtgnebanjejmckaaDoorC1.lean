/- Contracts on hands and tables. -/
import Derived.Test.YtgnebanjejmckaaDoorC0
set_option maxRecDepth 100000
set_option linter.unusedSimpArgs false
set_option linter.unusedVariables false
namespace Go.Proofs.YtgnebanjejmckaaDoor
open Go Dl
variable {W0 : World} {H : Heap} {K : D → Heap → Prop}

abbrev card0 : Card := (0, 0, 0, 0)
abbrev cardsD (h : List Card) : List D := h.map fun c => cardD c
/-- A hand's card number i is a card, and greater than the one ahead. -/
def goodAt (h : List Card) (i : Nat) : Bool := cardOk (h.getD i card0) && (decide (i = 0) || decide (cnum (h.getD (i - 1) card0) < cnum (h.getD i card0)))
def handB (h : List Card) : Bool := decide (∀ i, i < h.length → goodAt h i = true) && decide (h.length ≤ 27)
theorem cards_get (h : List Card) (i : Nat) (hi : i < h.length) : (cardsD h).getD i D.any = cardD (h.getD i card0) := by
  rw [getD_map _ _ _ _ hi, getD_lt' _ _ _ hi]
theorem hand_bad {h : List Card} {i : Nat} (hi : i < h.length) (hb : goodAt h i = false) : handB h = false := by
  unfold handB
  rw [decide_eq_false, Bool.false_and]
  intro hh
  rw [hh i hi] at hb; cases hb

theorem c91 (h0 : List Card) (hl : h0.length < 1000000000) (h : K (.bool (handB h0)) H) : CallWp Tryd.prog W0 91 [.lst .no (cardsD h0)] H K := by
  refine CallWp.fun hm F91 (Nat.le_of_ble_eq_true rfl) (Nat.le_of_ble_eq_true rfl) ?_
  unfold s91 h91
  simp -implicitDefEqProofs only [go_sem, Nat.reduceBEq, Nat.reduceLT, Nat.reduceAdd, Nat.reduceSub, Nat.reduceLeDiff, Int.reduceToNat, eq_self, ↓reduceIte, Bool.false_eq_true, decide_true, decide_false, List.take_length, Nat.reduceMul, Nat.mul_one, Nat.zero_mul, Nat.zero_add, Nat.add_zero, Int.cast_ofNat_Int, Int.reduceLT, Int.reduceLE, Nat.zero_lt_succ, and_self]
  refine s_loop (fun i => h0.length - i) (fun i fr' H' => fr' 3 = int i ∧ i ≤ h0.length ∧ (∀ j, j < i → goodAt h0 j = true) ∧ H' = H) [0] CallWp.monoC (by kernel_rfl) 0 ⟨by simp -implicitDefEqProofs only [go_sem, Nat.reduceBEq, Nat.reduceLT, Nat.reduceAdd, Nat.reduceSub, Nat.reduceLeDiff, Int.reduceToNat, eq_self, ↓reduceIte, Bool.false_eq_true, decide_true, decide_false, List.take_length, Nat.reduceMul, Nat.mul_one, Nat.zero_mul, Nat.zero_add, Nat.add_zero, Int.cast_ofNat_Int, Int.reduceLT, Int.reduceLE, Nat.zero_lt_succ, and_self]; first | done | rfl, by omega, fun j hj => by omega, rfl⟩ ?_
  rintro i g H' ⟨h3, hi, hc, rfl⟩
  simp -implicitDefEqProofs only [go_sem, Nat.reduceBEq, Nat.reduceLT, Nat.reduceAdd, Nat.reduceSub, Nat.reduceLeDiff, Int.reduceToNat, eq_self, ↓reduceIte, Bool.false_eq_true, decide_true, decide_false, List.take_length, Nat.reduceMul, Nat.mul_one, Nat.zero_mul, Nat.zero_add, Nat.add_zero, Int.cast_ofNat_Int, Int.reduceLT, Int.reduceLE, Nat.zero_lt_succ, and_self] at h3
  simp -implicitDefEqProofs only [go_sem, Nat.reduceBEq, Nat.reduceLT, Nat.reduceAdd, Nat.reduceSub, Nat.reduceLeDiff, Int.reduceToNat, eq_self, ↓reduceIte, Bool.false_eq_true, decide_true, decide_false, List.take_length, Nat.reduceMul, Nat.mul_one, Nat.zero_mul, Nat.zero_add, Nat.add_zero, Int.cast_ofNat_Int, Int.reduceLT, Int.reduceLE, Nat.zero_lt_succ, and_self, h3]
  by_cases hlt : (i : Int) < h0.length
  case neg =>
    have hall : handB h0 = decide ((h0.length : Int) ≤ 27) := by
      unfold handB
      rw [decide_eq_true (fun j hj => hc j (by omega)), Bool.true_and]
      by_cases h27 : h0.length ≤ 27
      · rw [decide_eq_true h27, decide_eq_true (by omega)]
      · rw [decide_eq_false h27, decide_eq_false (by omega)]
    simp -implicitDefEqProofs only [go_sem, Nat.reduceBEq, Nat.reduceLT, Nat.reduceAdd, Nat.reduceSub, Nat.reduceLeDiff, Int.reduceToNat, eq_self, ↓reduceIte, Bool.false_eq_true, decide_true, decide_false, List.take_length, Nat.reduceMul, Nat.mul_one, Nat.zero_mul, Nat.zero_add, Nat.add_zero, Int.cast_ofNat_Int, Int.reduceLT, Int.reduceLE, Nat.zero_lt_succ, and_self, h3, hlt]
    exact end1 (by simp -implicitDefEqProofs only [go_sem, Nat.reduceBEq, Nat.reduceLT, Nat.reduceAdd, Nat.reduceSub, Nat.reduceLeDiff, Int.reduceToNat, eq_self, ↓reduceIte, Bool.false_eq_true, decide_true, decide_false, List.take_length, Nat.reduceMul, Nat.mul_one, Nat.zero_mul, Nat.zero_add, Nat.add_zero, Int.cast_ofNat_Int, Int.reduceLT, Int.reduceLE, Nat.zero_lt_succ, and_self]; first | done | rfl) rfl (by simp -implicitDefEqProofs only [go_sem, Nat.reduceBEq, Nat.reduceLT, Nat.reduceAdd, Nat.reduceSub, Nat.reduceLeDiff, Int.reduceToNat, eq_self, ↓reduceIte, Bool.false_eq_true, decide_true, decide_false, List.take_length, Nat.reduceMul, Nat.mul_one, Nat.zero_mul, Nat.zero_add, Nat.add_zero, Int.cast_ofNat_Int, Int.reduceLT, Int.reduceLE, Nat.zero_lt_succ, and_self]; rw [hall] at h; exact h)
  simp -implicitDefEqProofs only [go_sem, Nat.reduceBEq, Nat.reduceLT, Nat.reduceAdd, Nat.reduceSub, Nat.reduceLeDiff, Int.reduceToNat, eq_self, ↓reduceIte, Bool.false_eq_true, decide_true, decide_false, List.take_length, Nat.reduceMul, Nat.mul_one, Nat.zero_mul, Nat.zero_add, Nat.add_zero, Int.cast_ofNat_Int, Int.reduceLT, Int.reduceLE, Nat.zero_lt_succ, and_self, h3, hlt]
  by_cases h27 : (i : Int) ≤ 27
  case neg =>
    have hall : handB h0 = decide ((h0.length : Int) ≤ 27) := by
      unfold handB
      rw [decide_eq_false (by omega : ¬ h0.length ≤ 27), Bool.and_false, decide_eq_false (by omega)]
    simp -implicitDefEqProofs only [go_sem, Nat.reduceBEq, Nat.reduceLT, Nat.reduceAdd, Nat.reduceSub, Nat.reduceLeDiff, Int.reduceToNat, eq_self, ↓reduceIte, Bool.false_eq_true, decide_true, decide_false, List.take_length, Nat.reduceMul, Nat.mul_one, Nat.zero_mul, Nat.zero_add, Nat.add_zero, Int.cast_ofNat_Int, Int.reduceLT, Int.reduceLE, Nat.zero_lt_succ, and_self, h3, hlt, h27]
    exact end1 (by simp -implicitDefEqProofs only [go_sem, Nat.reduceBEq, Nat.reduceLT, Nat.reduceAdd, Nat.reduceSub, Nat.reduceLeDiff, Int.reduceToNat, eq_self, ↓reduceIte, Bool.false_eq_true, decide_true, decide_false, List.take_length, Nat.reduceMul, Nat.mul_one, Nat.zero_mul, Nat.zero_add, Nat.add_zero, Int.cast_ofNat_Int, Int.reduceLT, Int.reduceLE, Nat.zero_lt_succ, and_self]; first | done | rfl) rfl (by simp -implicitDefEqProofs only [go_sem, Nat.reduceBEq, Nat.reduceLT, Nat.reduceAdd, Nat.reduceSub, Nat.reduceLeDiff, Int.reduceToNat, eq_self, ↓reduceIte, Bool.false_eq_true, decide_true, decide_false, List.take_length, Nat.reduceMul, Nat.mul_one, Nat.zero_mul, Nat.zero_add, Nat.add_zero, Int.cast_ofNat_Int, Int.reduceLT, Int.reduceLE, Nat.zero_lt_succ, and_self]; rw [hall] at h; exact h)
  have hlt' : i < h0.length := by omega
  have hget := cards_get h0 i hlt'
  have hbad : goodAt h0 i = false → K (.bool false) H' := fun hb => by rw [hand_bad hlt' hb] at h; exact h
  simp -implicitDefEqProofs only [go_sem, Nat.reduceBEq, Nat.reduceLT, Nat.reduceAdd, Nat.reduceSub, Nat.reduceLeDiff, Int.reduceToNat, eq_self, ↓reduceIte, Bool.false_eq_true, decide_true, decide_false, List.take_length, Nat.reduceMul, Nat.mul_one, Nat.zero_mul, Nat.zero_add, Nat.add_zero, Int.cast_ofNat_Int, Int.reduceLT, Int.reduceLE, Nat.zero_lt_succ, and_self, h3, hlt, h27, hget]
  refine need_mk (by first | omega | decide | rfl | trivial | (refine ⟨?_, ?_⟩ <;> first | omega | rfl | decide) | (refine ⟨?_, ?_, ?_⟩ <;> first | omega | rfl | decide)) fun _ => ?_
  simp -implicitDefEqProofs only [go_sem, Nat.reduceBEq, Nat.reduceLT, Nat.reduceAdd, Nat.reduceSub, Nat.reduceLeDiff, Int.reduceToNat, eq_self, ↓reduceIte, Bool.false_eq_true, decide_true, decide_false, List.take_length, Nat.reduceMul, Nat.mul_one, Nat.zero_mul, Nat.zero_add, Nat.add_zero, Int.cast_ofNat_Int, Int.reduceLT, Int.reduceLE, Nat.zero_lt_succ, and_self, h3]
  refine c101 _ ?_
  cases hok : cardOk (h0.getD i card0) with
  | false =>
    simp -implicitDefEqProofs only [go_sem, Nat.reduceBEq, Nat.reduceLT, Nat.reduceAdd, Nat.reduceSub, Nat.reduceLeDiff, Int.reduceToNat, eq_self, ↓reduceIte, Bool.false_eq_true, decide_true, decide_false, List.take_length, Nat.reduceMul, Nat.mul_one, Nat.zero_mul, Nat.zero_add, Nat.add_zero, Int.cast_ofNat_Int, Int.reduceLT, Int.reduceLE, Nat.zero_lt_succ, and_self, h3]
    exact end1 (by simp -implicitDefEqProofs only [go_sem, Nat.reduceBEq, Nat.reduceLT, Nat.reduceAdd, Nat.reduceSub, Nat.reduceLeDiff, Int.reduceToNat, eq_self, ↓reduceIte, Bool.false_eq_true, decide_true, decide_false, List.take_length, Nat.reduceMul, Nat.mul_one, Nat.zero_mul, Nat.zero_add, Nat.add_zero, Int.cast_ofNat_Int, Int.reduceLT, Int.reduceLE, Nat.zero_lt_succ, and_self]; first | done | rfl) rfl (by simp -implicitDefEqProofs only [go_sem, Nat.reduceBEq, Nat.reduceLT, Nat.reduceAdd, Nat.reduceSub, Nat.reduceLeDiff, Int.reduceToNat, eq_self, ↓reduceIte, Bool.false_eq_true, decide_true, decide_false, List.take_length, Nat.reduceMul, Nat.mul_one, Nat.zero_mul, Nat.zero_add, Nat.add_zero, Int.cast_ofNat_Int, Int.reduceLT, Int.reduceLE, Nat.zero_lt_succ, and_self]; exact hbad (by unfold goodAt; rw [hok]; rfl))
  | true =>
  simp -implicitDefEqProofs only [go_sem, Nat.reduceBEq, Nat.reduceLT, Nat.reduceAdd, Nat.reduceSub, Nat.reduceLeDiff, Int.reduceToNat, eq_self, ↓reduceIte, Bool.false_eq_true, decide_true, decide_false, List.take_length, Nat.reduceMul, Nat.mul_one, Nat.zero_mul, Nat.zero_add, Nat.add_zero, Int.cast_ofNat_Int, Int.reduceLT, Int.reduceLE, Nat.zero_lt_succ, and_self, h3]
  by_cases hz : (0 : Int) < i
  case neg =>
    have hg : goodAt h0 i = true := by
      have : i = 0 := by omega
      subst this
      unfold goodAt; rw [hok]; rfl
    simp -implicitDefEqProofs only [go_sem, Nat.reduceBEq, Nat.reduceLT, Nat.reduceAdd, Nat.reduceSub, Nat.reduceLeDiff, Int.reduceToNat, eq_self, ↓reduceIte, Bool.false_eq_true, decide_true, decide_false, List.take_length, Nat.reduceMul, Nat.mul_one, Nat.zero_mul, Nat.zero_add, Nat.add_zero, Int.cast_ofNat_Int, Int.reduceLT, Int.reduceLE, Nat.zero_lt_succ, and_self, h3, hz]
    rw [w64 (by omega)]
    refine ⟨i + 1, by dsimp only; omega, by simp -implicitDefEqProofs only [go_sem, Nat.reduceBEq, Nat.reduceLT, Nat.reduceAdd, Nat.reduceSub, Nat.reduceLeDiff, Int.reduceToNat, eq_self, ↓reduceIte, Bool.false_eq_true, decide_true, decide_false, List.take_length, Nat.reduceMul, Nat.mul_one, Nat.zero_mul, Nat.zero_add, Nat.add_zero, Int.cast_ofNat_Int, Int.reduceLT, Int.reduceLE, Nat.zero_lt_succ, and_self]; first | done | rfl, by omega, fun j hj => ?_, rfl⟩
    rcases Nat.lt_or_eq_of_le (Nat.le_of_lt_succ hj) with hj | rfl
    · exact hc j hj
    · exact hg
  have hlt2 : i - 1 < h0.length := by omega
  have hget2 := cards_get h0 (i - 1) hlt2
  have hok2 : cardOk (h0.getD (i - 1) card0) = true := by
    have := hc (i - 1) (by omega)
    unfold goodAt at this
    rw [Bool.and_eq_true] at this
    exact this.1
  have hnz : ¬ i = 0 := by omega
  have e1 : ((i : Int) - 1).toNat = i - 1 := by omega
  simp -implicitDefEqProofs only [go_sem, Nat.reduceBEq, Nat.reduceLT, Nat.reduceAdd, Nat.reduceSub, Nat.reduceLeDiff, Int.reduceToNat, eq_self, ↓reduceIte, Bool.false_eq_true, decide_true, decide_false, List.take_length, Nat.reduceMul, Nat.mul_one, Nat.zero_mul, Nat.zero_add, Nat.add_zero, Int.cast_ofNat_Int, Int.reduceLT, Int.reduceLE, Nat.zero_lt_succ, and_self, h3, hz]
  rw [w64 (by omega)]
  simp -implicitDefEqProofs only [go_sem, Nat.reduceBEq, Nat.reduceLT, Nat.reduceAdd, Nat.reduceSub, Nat.reduceLeDiff, Int.reduceToNat, eq_self, ↓reduceIte, Bool.false_eq_true, decide_true, decide_false, List.take_length, Nat.reduceMul, Nat.mul_one, Nat.zero_mul, Nat.zero_add, Nat.add_zero, Int.cast_ofNat_Int, Int.reduceLT, Int.reduceLE, Nat.zero_lt_succ, and_self, e1, hget2]
  refine need_mk (by first | omega | decide | rfl | trivial | (refine ⟨?_, ?_⟩ <;> first | omega | rfl | decide) | (refine ⟨?_, ?_, ?_⟩ <;> first | omega | rfl | decide)) fun _ => ?_
  simp -implicitDefEqProofs only [go_sem, Nat.reduceBEq, Nat.reduceLT, Nat.reduceAdd, Nat.reduceSub, Nat.reduceLeDiff, Int.reduceToNat, eq_self, ↓reduceIte, Bool.false_eq_true, decide_true, decide_false, List.take_length, Nat.reduceMul, Nat.mul_one, Nat.zero_mul, Nat.zero_add, Nat.add_zero, Int.cast_ofNat_Int, Int.reduceLT, Int.reduceLE, Nat.zero_lt_succ, and_self, h3, hget]
  refine need_mk (by first | omega | decide | rfl | trivial | (refine ⟨?_, ?_⟩ <;> first | omega | rfl | decide) | (refine ⟨?_, ?_, ?_⟩ <;> first | omega | rfl | decide)) fun _ => ?_
  simp -implicitDefEqProofs only [go_sem, Nat.reduceBEq, Nat.reduceLT, Nat.reduceAdd, Nat.reduceSub, Nat.reduceLeDiff, Int.reduceToNat, eq_self, ↓reduceIte, Bool.false_eq_true, decide_true, decide_false, List.take_length, Nat.reduceMul, Nat.mul_one, Nat.zero_mul, Nat.zero_add, Nat.add_zero, Int.cast_ofNat_Int, Int.reduceLT, Int.reduceLE, Nat.zero_lt_succ, and_self, h3]
  refine c102 _ _ hok2 hok ?_
  refine dsplit (k := fun b => retK _ _ _ (.bool b) _) (fun hb => ?_) (fun hb => ?_)
  · simp -implicitDefEqProofs only [go_sem, Nat.reduceBEq, Nat.reduceLT, Nat.reduceAdd, Nat.reduceSub, Nat.reduceLeDiff, Int.reduceToNat, eq_self, ↓reduceIte, Bool.false_eq_true, decide_true, decide_false, List.take_length, Nat.reduceMul, Nat.mul_one, Nat.zero_mul, Nat.zero_add, Nat.add_zero, Int.cast_ofNat_Int, Int.reduceLT, Int.reduceLE, Nat.zero_lt_succ, and_self, h3]
    rw [w64 (by omega)]
    refine ⟨i + 1, by dsimp only; omega, by simp -implicitDefEqProofs only [go_sem, Nat.reduceBEq, Nat.reduceLT, Nat.reduceAdd, Nat.reduceSub, Nat.reduceLeDiff, Int.reduceToNat, eq_self, ↓reduceIte, Bool.false_eq_true, decide_true, decide_false, List.take_length, Nat.reduceMul, Nat.mul_one, Nat.zero_mul, Nat.zero_add, Nat.add_zero, Int.cast_ofNat_Int, Int.reduceLT, Int.reduceLE, Nat.zero_lt_succ, and_self]; first | done | rfl, by omega, fun j hj => ?_, rfl⟩
    rcases Nat.lt_or_eq_of_le (Nat.le_of_lt_succ hj) with hj | rfl
    · exact hc j hj
    · unfold goodAt; rw [hok, decide_eq_true hb]; simp
  · simp -implicitDefEqProofs only [go_sem, Nat.reduceBEq, Nat.reduceLT, Nat.reduceAdd, Nat.reduceSub, Nat.reduceLeDiff, Int.reduceToNat, eq_self, ↓reduceIte, Bool.false_eq_true, decide_true, decide_false, List.take_length, Nat.reduceMul, Nat.mul_one, Nat.zero_mul, Nat.zero_add, Nat.add_zero, Int.cast_ofNat_Int, Int.reduceLT, Int.reduceLE, Nat.zero_lt_succ, and_self, h3]
    exact end1 (by simp -implicitDefEqProofs only [go_sem, Nat.reduceBEq, Nat.reduceLT, Nat.reduceAdd, Nat.reduceSub, Nat.reduceLeDiff, Int.reduceToNat, eq_self, ↓reduceIte, Bool.false_eq_true, decide_true, decide_false, List.take_length, Nat.reduceMul, Nat.mul_one, Nat.zero_mul, Nat.zero_add, Nat.add_zero, Int.cast_ofNat_Int, Int.reduceLT, Int.reduceLE, Nat.zero_lt_succ, and_self]; first | done | rfl) rfl (by simp -implicitDefEqProofs only [go_sem, Nat.reduceBEq, Nat.reduceLT, Nat.reduceAdd, Nat.reduceSub, Nat.reduceLeDiff, Int.reduceToNat, eq_self, ↓reduceIte, Bool.false_eq_true, decide_true, decide_false, List.take_length, Nat.reduceMul, Nat.mul_one, Nat.zero_mul, Nat.zero_add, Nat.add_zero, Int.cast_ofNat_Int, Int.reduceLT, Int.reduceLE, Nat.zero_lt_succ, and_self]; exact hbad (by unfold goodAt; rw [decide_eq_false hb, decide_eq_false hnz]; simp))

theorem c93 (h0 : List Card) (hl : h0.length < 1000000000) (h : K (.bool (handB h0)) H) : CallWp Tryd.prog W0 93 [.lst .no (cardsD h0)] H K := by
  refine CallWp.fun hm F93 (Nat.le_of_ble_eq_true rfl) (Nat.le_of_ble_eq_true rfl) ?_
  unfold s93 h93
  simp -implicitDefEqProofs only [go_sem, Nat.reduceBEq, Nat.reduceLT, Nat.reduceAdd, Nat.reduceSub, Nat.reduceLeDiff, Int.reduceToNat, eq_self, ↓reduceIte, Bool.false_eq_true, decide_true, decide_false, List.take_length, Nat.reduceMul, Nat.mul_one, Nat.zero_mul, Nat.zero_add, Nat.add_zero, Int.cast_ofNat_Int, Int.reduceLT, Int.reduceLE, Nat.zero_lt_succ, and_self]
  refine s_loop (fun i => h0.length - i) (fun i fr' H' => fr' 7 = int i ∧ i ≤ h0.length ∧ (∀ j, j < i → goodAt h0 j = true) ∧ Pre H H') [0, 5, 6] CallWp.monoC (by kernel_rfl) 0 ⟨by simp -implicitDefEqProofs only [go_sem, Nat.reduceBEq, Nat.reduceLT, Nat.reduceAdd, Nat.reduceSub, Nat.reduceLeDiff, Int.reduceToNat, eq_self, ↓reduceIte, Bool.false_eq_true, decide_true, decide_false, List.take_length, Nat.reduceMul, Nat.mul_one, Nat.zero_mul, Nat.zero_add, Nat.add_zero, Int.cast_ofNat_Int, Int.reduceLT, Int.reduceLE, Nat.zero_lt_succ, and_self]; first | done | rfl, by omega, fun j hj => by omega, Pre.refl H⟩ ?_
  rintro i g H' ⟨h7, hi, hc, hpre⟩
  simp -implicitDefEqProofs only [go_sem, Nat.reduceBEq, Nat.reduceLT, Nat.reduceAdd, Nat.reduceSub, Nat.reduceLeDiff, Int.reduceToNat, eq_self, ↓reduceIte, Bool.false_eq_true, decide_true, decide_false, List.take_length, Nat.reduceMul, Nat.mul_one, Nat.zero_mul, Nat.zero_add, Nat.add_zero, Int.cast_ofNat_Int, Int.reduceLT, Int.reduceLE, Nat.zero_lt_succ, and_self] at h7
  simp -implicitDefEqProofs only [go_sem, Nat.reduceBEq, Nat.reduceLT, Nat.reduceAdd, Nat.reduceSub, Nat.reduceLeDiff, Int.reduceToNat, eq_self, ↓reduceIte, Bool.false_eq_true, decide_true, decide_false, List.take_length, Nat.reduceMul, Nat.mul_one, Nat.zero_mul, Nat.zero_add, Nat.add_zero, Int.cast_ofNat_Int, Int.reduceLT, Int.reduceLE, Nat.zero_lt_succ, and_self, h7]
  refine dsplit (fun hlt => ?_) (fun hge => ?_)
  case refine_2 =>
    have hall : handB h0 = decide ((h0.length : Int) ≤ 27) := by
      unfold handB
      rw [decide_eq_true (fun j hj => hc j (by omega)), Bool.true_and]
      by_cases h27 : h0.length ≤ 27
      · rw [decide_eq_true h27, decide_eq_true (by omega)]
      · rw [decide_eq_false h27, decide_eq_false (by omega)]
    simp -implicitDefEqProofs only [go_sem, Nat.reduceBEq, Nat.reduceLT, Nat.reduceAdd, Nat.reduceSub, Nat.reduceLeDiff, Int.reduceToNat, eq_self, ↓reduceIte, Bool.false_eq_true, decide_true, decide_false, List.take_length, Nat.reduceMul, Nat.mul_one, Nat.zero_mul, Nat.zero_add, Nat.add_zero, Int.cast_ofNat_Int, Int.reduceLT, Int.reduceLE, Nat.zero_lt_succ, and_self, h7]
    exact end1 (by simp -implicitDefEqProofs only [go_sem, Nat.reduceBEq, Nat.reduceLT, Nat.reduceAdd, Nat.reduceSub, Nat.reduceLeDiff, Int.reduceToNat, eq_self, ↓reduceIte, Bool.false_eq_true, decide_true, decide_false, List.take_length, Nat.reduceMul, Nat.mul_one, Nat.zero_mul, Nat.zero_add, Nat.add_zero, Int.cast_ofNat_Int, Int.reduceLT, Int.reduceLE, Nat.zero_lt_succ, and_self]; first | done | rfl) rfl (by rw [hpre.2]; rw [hall] at h; exact h)
  have hlt' : i < h0.length := by omega
  have hget := cards_get h0 i hlt'
  have hbad : goodAt h0 i = false → K (.bool false) H := fun hb => by rw [hand_bad hlt' hb] at h; exact h
  simp -implicitDefEqProofs only [go_sem, Nat.reduceBEq, Nat.reduceLT, Nat.reduceAdd, Nat.reduceSub, Nat.reduceLeDiff, Int.reduceToNat, eq_self, ↓reduceIte, Bool.false_eq_true, decide_true, decide_false, List.take_length, Nat.reduceMul, Nat.mul_one, Nat.zero_mul, Nat.zero_add, Nat.add_zero, Int.cast_ofNat_Int, Int.reduceLT, Int.reduceLE, Nat.zero_lt_succ, and_self, h7, hget]
  refine need_mk (by first | omega | decide | rfl | trivial | (refine ⟨?_, ?_⟩ <;> first | omega | rfl | decide) | (refine ⟨?_, ?_, ?_⟩ <;> first | omega | rfl | decide)) fun _ => ?_
  simp -implicitDefEqProofs only [go_sem, Nat.reduceBEq, Nat.reduceLT, Nat.reduceAdd, Nat.reduceSub, Nat.reduceLeDiff, Int.reduceToNat, eq_self, ↓reduceIte, Bool.false_eq_true, decide_true, decide_false, List.take_length, Nat.reduceMul, Nat.mul_one, Nat.zero_mul, Nat.zero_add, Nat.add_zero, Int.cast_ofNat_Int, Int.reduceLT, Int.reduceLE, Nat.zero_lt_succ, and_self, h7]
  refine Grow_mk (fun K => c104 (h0.getD i card0)) ?_
  cases hok : cardOk (h0.getD i card0) with
  | false =>
    simp -implicitDefEqProofs only [go_sem, Nat.reduceBEq, Nat.reduceLT, Nat.reduceAdd, Nat.reduceSub, Nat.reduceLeDiff, Int.reduceToNat, eq_self, ↓reduceIte, Bool.false_eq_true, decide_true, decide_false, List.take_length, Nat.reduceMul, Nat.mul_one, Nat.zero_mul, Nat.zero_add, Nat.add_zero, Int.cast_ofNat_Int, Int.reduceLT, Int.reduceLE, Nat.zero_lt_succ, and_self, h7]
    exact end1 (by simp -implicitDefEqProofs only [go_sem, Nat.reduceBEq, Nat.reduceLT, Nat.reduceAdd, Nat.reduceSub, Nat.reduceLeDiff, Int.reduceToNat, eq_self, ↓reduceIte, Bool.false_eq_true, decide_true, decide_false, List.take_length, Nat.reduceMul, Nat.mul_one, Nat.zero_mul, Nat.zero_add, Nat.add_zero, Int.cast_ofNat_Int, Int.reduceLT, Int.reduceLE, Nat.zero_lt_succ, and_self]; first | done | rfl) rfl (by rw [hpre.take]; exact hbad (by unfold goodAt; rw [hok]; rfl))
  | true =>
  simp -implicitDefEqProofs only [go_sem, Nat.reduceBEq, Nat.reduceLT, Nat.reduceAdd, Nat.reduceSub, Nat.reduceLeDiff, Int.reduceToNat, eq_self, ↓reduceIte, Bool.false_eq_true, decide_true, decide_false, List.take_length, Nat.reduceMul, Nat.mul_one, Nat.zero_mul, Nat.zero_add, Nat.add_zero, Int.cast_ofNat_Int, Int.reduceLT, Int.reduceLE, Nat.zero_lt_succ, and_self, h7]
  by_cases hz : (0 : Int) < i
  case neg =>
    have hg : goodAt h0 i = true := by
      have : i = 0 := by omega
      subst this
      unfold goodAt; rw [hok]; rfl
    simp -implicitDefEqProofs only [go_sem, Nat.reduceBEq, Nat.reduceLT, Nat.reduceAdd, Nat.reduceSub, Nat.reduceLeDiff, Int.reduceToNat, eq_self, ↓reduceIte, Bool.false_eq_true, decide_true, decide_false, List.take_length, Nat.reduceMul, Nat.mul_one, Nat.zero_mul, Nat.zero_add, Nat.add_zero, Int.cast_ofNat_Int, Int.reduceLT, Int.reduceLE, Nat.zero_lt_succ, and_self, h7, hz]
    rw [w64 (by omega)]
    refine ⟨i + 1, by dsimp only; omega, by simp -implicitDefEqProofs only [go_sem, Nat.reduceBEq, Nat.reduceLT, Nat.reduceAdd, Nat.reduceSub, Nat.reduceLeDiff, Int.reduceToNat, eq_self, ↓reduceIte, Bool.false_eq_true, decide_true, decide_false, List.take_length, Nat.reduceMul, Nat.mul_one, Nat.zero_mul, Nat.zero_add, Nat.add_zero, Int.cast_ofNat_Int, Int.reduceLT, Int.reduceLE, Nat.zero_lt_succ, and_self]; first | done | rfl, by omega, fun j hj => ?_, hpre.app _⟩
    rcases Nat.lt_or_eq_of_le (Nat.le_of_lt_succ hj) with hj | rfl
    · exact hc j hj
    · exact hg
  have hlt2 : i - 1 < h0.length := by omega
  have hget2 := cards_get h0 (i - 1) hlt2
  have hok2 : cardOk (h0.getD (i - 1) card0) = true := by
    have := hc (i - 1) (by omega)
    unfold goodAt at this
    rw [Bool.and_eq_true] at this
    exact this.1
  have hnz : ¬ i = 0 := by omega
  have e1 : ((i : Int) - 1).toNat = i - 1 := by omega
  simp -implicitDefEqProofs only [go_sem, Nat.reduceBEq, Nat.reduceLT, Nat.reduceAdd, Nat.reduceSub, Nat.reduceLeDiff, Int.reduceToNat, eq_self, ↓reduceIte, Bool.false_eq_true, decide_true, decide_false, List.take_length, Nat.reduceMul, Nat.mul_one, Nat.zero_mul, Nat.zero_add, Nat.add_zero, Int.cast_ofNat_Int, Int.reduceLT, Int.reduceLE, Nat.zero_lt_succ, and_self, h7, hz]
  rw [w64 (by omega)]
  simp -implicitDefEqProofs only [go_sem, Nat.reduceBEq, Nat.reduceLT, Nat.reduceAdd, Nat.reduceSub, Nat.reduceLeDiff, Int.reduceToNat, eq_self, ↓reduceIte, Bool.false_eq_true, decide_true, decide_false, List.take_length, Nat.reduceMul, Nat.mul_one, Nat.zero_mul, Nat.zero_add, Nat.add_zero, Int.cast_ofNat_Int, Int.reduceLT, Int.reduceLE, Nat.zero_lt_succ, and_self, e1, hget2]
  refine need_mk (by first | omega | decide | rfl | trivial | (refine ⟨?_, ?_⟩ <;> first | omega | rfl | decide) | (refine ⟨?_, ?_, ?_⟩ <;> first | omega | rfl | decide)) fun _ => ?_
  simp -implicitDefEqProofs only [go_sem, Nat.reduceBEq, Nat.reduceLT, Nat.reduceAdd, Nat.reduceSub, Nat.reduceLeDiff, Int.reduceToNat, eq_self, ↓reduceIte, Bool.false_eq_true, decide_true, decide_false, List.take_length, Nat.reduceMul, Nat.mul_one, Nat.zero_mul, Nat.zero_add, Nat.add_zero, Int.cast_ofNat_Int, Int.reduceLT, Int.reduceLE, Nat.zero_lt_succ, and_self, h7]
  refine Grow_mk (fun K => c105 (h0.getD (i - 1) card0) hok2) ?_
  simp -implicitDefEqProofs only [go_sem, Nat.reduceBEq, Nat.reduceLT, Nat.reduceAdd, Nat.reduceSub, Nat.reduceLeDiff, Int.reduceToNat, eq_self, ↓reduceIte, Bool.false_eq_true, decide_true, decide_false, List.take_length, Nat.reduceMul, Nat.mul_one, Nat.zero_mul, Nat.zero_add, Nat.add_zero, Int.cast_ofNat_Int, Int.reduceLT, Int.reduceLE, Nat.zero_lt_succ, and_self, h7]
  refine Grow_mk (fun K => c105 (h0.getD i card0) hok) ?_
  simp -implicitDefEqProofs only [go_sem, Nat.reduceBEq, Nat.reduceLT, Nat.reduceAdd, Nat.reduceSub, Nat.reduceLeDiff, Int.reduceToNat, eq_self, ↓reduceIte, Bool.false_eq_true, decide_true, decide_false, List.take_length, Nat.reduceMul, Nat.mul_one, Nat.zero_mul, Nat.zero_add, Nat.add_zero, Int.cast_ofNat_Int, Int.reduceLT, Int.reduceLE, Nat.zero_lt_succ, and_self, h7]
  refine dsplit (fun hb => ?_) (fun hb => ?_)
  · simp -implicitDefEqProofs only [go_sem, Nat.reduceBEq, Nat.reduceLT, Nat.reduceAdd, Nat.reduceSub, Nat.reduceLeDiff, Int.reduceToNat, eq_self, ↓reduceIte, Bool.false_eq_true, decide_true, decide_false, List.take_length, Nat.reduceMul, Nat.mul_one, Nat.zero_mul, Nat.zero_add, Nat.add_zero, Int.cast_ofNat_Int, Int.reduceLT, Int.reduceLE, Nat.zero_lt_succ, and_self, h7, hb]
    exact end1 (by simp -implicitDefEqProofs only [go_sem, Nat.reduceBEq, Nat.reduceLT, Nat.reduceAdd, Nat.reduceSub, Nat.reduceLeDiff, Int.reduceToNat, eq_self, ↓reduceIte, Bool.false_eq_true, decide_true, decide_false, List.take_length, Nat.reduceMul, Nat.mul_one, Nat.zero_mul, Nat.zero_add, Nat.add_zero, Int.cast_ofNat_Int, Int.reduceLT, Int.reduceLE, Nat.zero_lt_succ, and_self]; first | done | rfl) rfl (by rw [hpre.take]; exact hbad (by unfold goodAt; rw [decide_eq_false hnz, decide_eq_false (by omega : ¬ cnum (h0.getD (i - 1) card0) < cnum (h0.getD i card0))]; simp))
  · simp -implicitDefEqProofs only [go_sem, Nat.reduceBEq, Nat.reduceLT, Nat.reduceAdd, Nat.reduceSub, Nat.reduceLeDiff, Int.reduceToNat, eq_self, ↓reduceIte, Bool.false_eq_true, decide_true, decide_false, List.take_length, Nat.reduceMul, Nat.mul_one, Nat.zero_mul, Nat.zero_add, Nat.add_zero, Int.cast_ofNat_Int, Int.reduceLT, Int.reduceLE, Nat.zero_lt_succ, and_self, h7, hb]
    rw [w64 (by omega)]
    refine ⟨i + 1, by dsimp only; omega, by simp -implicitDefEqProofs only [go_sem, Nat.reduceBEq, Nat.reduceLT, Nat.reduceAdd, Nat.reduceSub, Nat.reduceLeDiff, Int.reduceToNat, eq_self, ↓reduceIte, Bool.false_eq_true, decide_true, decide_false, List.take_length, Nat.reduceMul, Nat.mul_one, Nat.zero_mul, Nat.zero_add, Nat.add_zero, Int.cast_ofNat_Int, Int.reduceLT, Int.reduceLE, Nat.zero_lt_succ, and_self]; first | done | rfl, by omega, fun j hj => ?_, hpre.app _⟩
    rcases Nat.lt_or_eq_of_le (Nat.le_of_lt_succ hj) with hj | rfl
    · exact hc j hj
    · unfold goodAt; rw [hok, decide_eq_true (by omega : cnum (h0.getD (j - 1) card0) < cnum (h0.getD j card0))]; simp

/-- Is a table valid? -/
def tableB (h0 : List Card) (t n : Int) : Bool := handB h0 && (inB 0 1000 t && inB 0 1000 n)
abbrev tableD (h0 : List Card) (t n : Int) : D := .agg [.lst .no (cardsD h0), int t, int n]

theorem c68 (h0 : List Card) (t n : Int) (hl : h0.length < 1000000000) (h : K (.bool (tableB h0 t n)) H) : CallWp Tryd.prog W0 68 [tableD h0 t n] H K := by
  refine CallWp.fun hm F68 (Nat.le_of_ble_eq_true rfl) (Nat.le_of_ble_eq_true rfl) ?_
  unfold s68 h68
  unfold tableB inB at h
  simp -implicitDefEqProofs only [go_sem, Nat.reduceBEq, Nat.reduceLT, Nat.reduceAdd, Nat.reduceSub, Nat.reduceLeDiff, Int.reduceToNat, eq_self, ↓reduceIte, Bool.false_eq_true, decide_true, decide_false, List.take_length, Nat.reduceMul, Nat.mul_one, Nat.zero_mul, Nat.zero_add, Nat.add_zero, Int.cast_ofNat_Int, Int.reduceLT, Int.reduceLE, Nat.zero_lt_succ, and_self]
  refine c91 h0 hl ?_
  cases hh : handB h0 with
  | false =>
    rw [hh, Bool.false_and] at h
    simp -implicitDefEqProofs only [go_sem, Nat.reduceBEq, Nat.reduceLT, Nat.reduceAdd, Nat.reduceSub, Nat.reduceLeDiff, Int.reduceToNat, eq_self, ↓reduceIte, Bool.false_eq_true, decide_true, decide_false, List.take_length, Nat.reduceMul, Nat.mul_one, Nat.zero_mul, Nat.zero_add, Nat.add_zero, Int.cast_ofNat_Int, Int.reduceLT, Int.reduceLE, Nat.zero_lt_succ, and_self]
    exact end1 (by simp -implicitDefEqProofs only [go_sem, Nat.reduceBEq, Nat.reduceLT, Nat.reduceAdd, Nat.reduceSub, Nat.reduceLeDiff, Int.reduceToNat, eq_self, ↓reduceIte, Bool.false_eq_true, decide_true, decide_false, List.take_length, Nat.reduceMul, Nat.mul_one, Nat.zero_mul, Nat.zero_add, Nat.add_zero, Int.cast_ofNat_Int, Int.reduceLT, Int.reduceLE, Nat.zero_lt_succ, and_self]; first | done | rfl) rfl (by simp -implicitDefEqProofs only [go_sem, Nat.reduceBEq, Nat.reduceLT, Nat.reduceAdd, Nat.reduceSub, Nat.reduceLeDiff, Int.reduceToNat, eq_self, ↓reduceIte, Bool.false_eq_true, decide_true, decide_false, List.take_length, Nat.reduceMul, Nat.mul_one, Nat.zero_mul, Nat.zero_add, Nat.add_zero, Int.cast_ofNat_Int, Int.reduceLT, Int.reduceLE, Nat.zero_lt_succ, and_self]; exact h)
  | true =>
  simp -implicitDefEqProofs only [go_sem, Nat.reduceBEq, Nat.reduceLT, Nat.reduceAdd, Nat.reduceSub, Nat.reduceLeDiff, Int.reduceToNat, eq_self, ↓reduceIte, Bool.false_eq_true, decide_true, decide_false, List.take_length, Nat.reduceMul, Nat.mul_one, Nat.zero_mul, Nat.zero_add, Nat.add_zero, Int.cast_ofNat_Int, Int.reduceLT, Int.reduceLE, Nat.zero_lt_succ, and_self]
  refine c52 _ _ _ ?_
  rw [hh, Bool.true_and] at h
  generalize (decide (0 ≤ t) && decide (t ≤ 1000)) = b at *
  cases b with
  | false =>
    rw [Bool.false_and] at h
    simp -implicitDefEqProofs only [go_sem, Nat.reduceBEq, Nat.reduceLT, Nat.reduceAdd, Nat.reduceSub, Nat.reduceLeDiff, Int.reduceToNat, eq_self, ↓reduceIte, Bool.false_eq_true, decide_true, decide_false, List.take_length, Nat.reduceMul, Nat.mul_one, Nat.zero_mul, Nat.zero_add, Nat.add_zero, Int.cast_ofNat_Int, Int.reduceLT, Int.reduceLE, Nat.zero_lt_succ, and_self]
    exact end1 (by simp -implicitDefEqProofs only [go_sem, Nat.reduceBEq, Nat.reduceLT, Nat.reduceAdd, Nat.reduceSub, Nat.reduceLeDiff, Int.reduceToNat, eq_self, ↓reduceIte, Bool.false_eq_true, decide_true, decide_false, List.take_length, Nat.reduceMul, Nat.mul_one, Nat.zero_mul, Nat.zero_add, Nat.add_zero, Int.cast_ofNat_Int, Int.reduceLT, Int.reduceLE, Nat.zero_lt_succ, and_self]; first | done | rfl) rfl (by simp -implicitDefEqProofs only [go_sem, Nat.reduceBEq, Nat.reduceLT, Nat.reduceAdd, Nat.reduceSub, Nat.reduceLeDiff, Int.reduceToNat, eq_self, ↓reduceIte, Bool.false_eq_true, decide_true, decide_false, List.take_length, Nat.reduceMul, Nat.mul_one, Nat.zero_mul, Nat.zero_add, Nat.add_zero, Int.cast_ofNat_Int, Int.reduceLT, Int.reduceLE, Nat.zero_lt_succ, and_self]; exact h)
  | true =>
  rw [Bool.true_and] at h
  simp -implicitDefEqProofs only [go_sem, Nat.reduceBEq, Nat.reduceLT, Nat.reduceAdd, Nat.reduceSub, Nat.reduceLeDiff, Int.reduceToNat, eq_self, ↓reduceIte, Bool.false_eq_true, decide_true, decide_false, List.take_length, Nat.reduceMul, Nat.mul_one, Nat.zero_mul, Nat.zero_add, Nat.add_zero, Int.cast_ofNat_Int, Int.reduceLT, Int.reduceLE, Nat.zero_lt_succ, and_self]
  refine c52 _ _ _ ?_
  simp -implicitDefEqProofs only [go_sem, Nat.reduceBEq, Nat.reduceLT, Nat.reduceAdd, Nat.reduceSub, Nat.reduceLeDiff, Int.reduceToNat, eq_self, ↓reduceIte, Bool.false_eq_true, decide_true, decide_false, List.take_length, Nat.reduceMul, Nat.mul_one, Nat.zero_mul, Nat.zero_add, Nat.add_zero, Int.cast_ofNat_Int, Int.reduceLT, Int.reduceLE, Nat.zero_lt_succ, and_self]
  exact end1 (by simp -implicitDefEqProofs only [go_sem, Nat.reduceBEq, Nat.reduceLT, Nat.reduceAdd, Nat.reduceSub, Nat.reduceLeDiff, Int.reduceToNat, eq_self, ↓reduceIte, Bool.false_eq_true, decide_true, decide_false, List.take_length, Nat.reduceMul, Nat.mul_one, Nat.zero_mul, Nat.zero_add, Nat.add_zero, Int.cast_ofNat_Int, Int.reduceLT, Int.reduceLE, Nat.zero_lt_succ, and_self]; first | done | rfl) rfl (by simp -implicitDefEqProofs only [go_sem, Nat.reduceBEq, Nat.reduceLT, Nat.reduceAdd, Nat.reduceSub, Nat.reduceLeDiff, Int.reduceToNat, eq_self, ↓reduceIte, Bool.false_eq_true, decide_true, decide_false, List.take_length, Nat.reduceMul, Nat.mul_one, Nat.zero_mul, Nat.zero_add, Nat.add_zero, Int.cast_ofNat_Int, Int.reduceLT, Int.reduceLE, Nat.zero_lt_succ, and_self]; exact h)

theorem c71 (h0 : List Card) (t n : Int) (hl : h0.length < 1000000000) (h : K (.bool (tableB h0 t n)) H) : CallWp Tryd.prog W0 71 [tableD h0 t n] H K := by
  refine CallWp.fun hm F71 (Nat.le_of_ble_eq_true rfl) (Nat.le_of_ble_eq_true rfl) ?_
  unfold s71 h71
  unfold tableB inB at h
  simp -implicitDefEqProofs only [go_sem, Nat.reduceBEq, Nat.reduceLT, Nat.reduceAdd, Nat.reduceSub, Nat.reduceLeDiff, Int.reduceToNat, eq_self, ↓reduceIte, Bool.false_eq_true, decide_true, decide_false, List.take_length, Nat.reduceMul, Nat.mul_one, Nat.zero_mul, Nat.zero_add, Nat.add_zero, Int.cast_ofNat_Int, Int.reduceLT, Int.reduceLE, Nat.zero_lt_succ, and_self]
  refine c93 h0 hl ?_
  cases hh : handB h0 with
  | false =>
    rw [hh, Bool.false_and] at h
    simp -implicitDefEqProofs only [go_sem, Nat.reduceBEq, Nat.reduceLT, Nat.reduceAdd, Nat.reduceSub, Nat.reduceLeDiff, Int.reduceToNat, eq_self, ↓reduceIte, Bool.false_eq_true, decide_true, decide_false, List.take_length, Nat.reduceMul, Nat.mul_one, Nat.zero_mul, Nat.zero_add, Nat.add_zero, Int.cast_ofNat_Int, Int.reduceLT, Int.reduceLE, Nat.zero_lt_succ, and_self]
    exact end1 (by simp -implicitDefEqProofs only [go_sem, Nat.reduceBEq, Nat.reduceLT, Nat.reduceAdd, Nat.reduceSub, Nat.reduceLeDiff, Int.reduceToNat, eq_self, ↓reduceIte, Bool.false_eq_true, decide_true, decide_false, List.take_length, Nat.reduceMul, Nat.mul_one, Nat.zero_mul, Nat.zero_add, Nat.add_zero, Int.cast_ofNat_Int, Int.reduceLT, Int.reduceLE, Nat.zero_lt_succ, and_self]; first | done | rfl) rfl (by simp -implicitDefEqProofs only [go_sem, Nat.reduceBEq, Nat.reduceLT, Nat.reduceAdd, Nat.reduceSub, Nat.reduceLeDiff, Int.reduceToNat, eq_self, ↓reduceIte, Bool.false_eq_true, decide_true, decide_false, List.take_length, Nat.reduceMul, Nat.mul_one, Nat.zero_mul, Nat.zero_add, Nat.add_zero, Int.cast_ofNat_Int, Int.reduceLT, Int.reduceLE, Nat.zero_lt_succ, and_self]; exact h)
  | true =>
  simp -implicitDefEqProofs only [go_sem, Nat.reduceBEq, Nat.reduceLT, Nat.reduceAdd, Nat.reduceSub, Nat.reduceLeDiff, Int.reduceToNat, eq_self, ↓reduceIte, Bool.false_eq_true, decide_true, decide_false, List.take_length, Nat.reduceMul, Nat.mul_one, Nat.zero_mul, Nat.zero_add, Nat.add_zero, Int.cast_ofNat_Int, Int.reduceLT, Int.reduceLE, Nat.zero_lt_succ, and_self]
  refine c50 _ _ _ ?_
  rw [hh, Bool.true_and] at h
  generalize (decide (0 ≤ t) && decide (t ≤ 1000)) = b at *
  cases b with
  | false =>
    rw [Bool.false_and] at h
    simp -implicitDefEqProofs only [go_sem, Nat.reduceBEq, Nat.reduceLT, Nat.reduceAdd, Nat.reduceSub, Nat.reduceLeDiff, Int.reduceToNat, eq_self, ↓reduceIte, Bool.false_eq_true, decide_true, decide_false, List.take_length, Nat.reduceMul, Nat.mul_one, Nat.zero_mul, Nat.zero_add, Nat.add_zero, Int.cast_ofNat_Int, Int.reduceLT, Int.reduceLE, Nat.zero_lt_succ, and_self]
    exact end1 (by simp -implicitDefEqProofs only [go_sem, Nat.reduceBEq, Nat.reduceLT, Nat.reduceAdd, Nat.reduceSub, Nat.reduceLeDiff, Int.reduceToNat, eq_self, ↓reduceIte, Bool.false_eq_true, decide_true, decide_false, List.take_length, Nat.reduceMul, Nat.mul_one, Nat.zero_mul, Nat.zero_add, Nat.add_zero, Int.cast_ofNat_Int, Int.reduceLT, Int.reduceLE, Nat.zero_lt_succ, and_self]; first | done | rfl) rfl (by simp -implicitDefEqProofs only [go_sem, Nat.reduceBEq, Nat.reduceLT, Nat.reduceAdd, Nat.reduceSub, Nat.reduceLeDiff, Int.reduceToNat, eq_self, ↓reduceIte, Bool.false_eq_true, decide_true, decide_false, List.take_length, Nat.reduceMul, Nat.mul_one, Nat.zero_mul, Nat.zero_add, Nat.add_zero, Int.cast_ofNat_Int, Int.reduceLT, Int.reduceLE, Nat.zero_lt_succ, and_self]; exact h)
  | true =>
  rw [Bool.true_and] at h
  simp -implicitDefEqProofs only [go_sem, Nat.reduceBEq, Nat.reduceLT, Nat.reduceAdd, Nat.reduceSub, Nat.reduceLeDiff, Int.reduceToNat, eq_self, ↓reduceIte, Bool.false_eq_true, decide_true, decide_false, List.take_length, Nat.reduceMul, Nat.mul_one, Nat.zero_mul, Nat.zero_add, Nat.add_zero, Int.cast_ofNat_Int, Int.reduceLT, Int.reduceLE, Nat.zero_lt_succ, and_self]
  refine c50 _ _ _ ?_
  simp -implicitDefEqProofs only [go_sem, Nat.reduceBEq, Nat.reduceLT, Nat.reduceAdd, Nat.reduceSub, Nat.reduceLeDiff, Int.reduceToNat, eq_self, ↓reduceIte, Bool.false_eq_true, decide_true, decide_false, List.take_length, Nat.reduceMul, Nat.mul_one, Nat.zero_mul, Nat.zero_add, Nat.add_zero, Int.cast_ofNat_Int, Int.reduceLT, Int.reduceLE, Nat.zero_lt_succ, and_self]
  exact end1 (by simp -implicitDefEqProofs only [go_sem, Nat.reduceBEq, Nat.reduceLT, Nat.reduceAdd, Nat.reduceSub, Nat.reduceLeDiff, Int.reduceToNat, eq_self, ↓reduceIte, Bool.false_eq_true, decide_true, decide_false, List.take_length, Nat.reduceMul, Nat.mul_one, Nat.zero_mul, Nat.zero_add, Nat.add_zero, Int.cast_ofNat_Int, Int.reduceLT, Int.reduceLE, Nat.zero_lt_succ, and_self]; first | done | rfl) rfl (by simp -implicitDefEqProofs only [go_sem, Nat.reduceBEq, Nat.reduceLT, Nat.reduceAdd, Nat.reduceSub, Nat.reduceLeDiff, Int.reduceToNat, eq_self, ↓reduceIte, Bool.false_eq_true, decide_true, decide_false, List.take_length, Nat.reduceMul, Nat.mul_one, Nat.zero_mul, Nat.zero_add, Nat.add_zero, Int.cast_ofNat_Int, Int.reduceLT, Int.reduceLE, Nat.zero_lt_succ, and_self]; exact h)
end Go.Proofs.YtgnebanjejmckaaDoor
