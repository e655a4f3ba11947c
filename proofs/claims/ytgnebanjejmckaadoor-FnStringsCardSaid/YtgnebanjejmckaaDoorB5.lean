/- Contracts of the program's own functions on logs. -/
import Derived.Test.YtgnebanjejmckaaDoorB4
set_option maxRecDepth 100000
set_option linter.unusedSimpArgs false
set_option linter.unusedVariables false
namespace Go.Proofs.YtgnebanjejmckaaDoor
open Go Dl
variable {W0 : World} {H : Heap} {K : D → Heap → Prop}

theorem c15 (hW : Good W0) (d p : List UInt8) (cnt : Int) (c r : List UInt8) (h1 : d.length < 100000000) (h2 : p.length < 100000000) (h3 : c.length < 100000000) (h4 : r.length < 100000000)
    (h : K (.tup [logD (appendS d p cnt c r).1.1 (appendS d p cnt c r).1.2.1 (appendS d p cnt c r).1.2.2, int (appendS d p cnt c r).2]) H) : CallWp Tryd.prog W0 15 [logD d p cnt, recD c r] H K := by
  refine CallWp.fun hm F15 (Nat.le_of_ble_eq_true rfl) (Nat.le_of_ble_eq_true rfl) ?_
  unfold s15 h15 recD logD
  simp -implicitDefEqProofs only [go_sem, Nat.reduceBEq, Nat.reduceLT, Nat.reduceAdd, Nat.reduceSub, Nat.reduceLeDiff, Int.reduceToNat, eq_self, ↓reduceIte, Bool.false_eq_true, decide_true, decide_false, List.take_length]
  refine c19 hW d p cnt (by omega) (by omega) ?_
  unfold appendS at h
  cases hv : validS d p cnt with
  | false =>
    rw [hv, if_neg (by simp)] at h
    simp -implicitDefEqProofs only [go_sem, Nat.reduceBEq, Nat.reduceLT, Nat.reduceAdd, Nat.reduceSub, Nat.reduceLeDiff, Int.reduceToNat, eq_self, ↓reduceIte, Bool.false_eq_true, decide_true, decide_false, List.take_length]
    exact endC2 (by simp -implicitDefEqProofs only [go_sem, Nat.reduceBEq, Nat.reduceLT, Nat.reduceAdd, Nat.reduceSub, Nat.reduceLeDiff, Int.reduceToNat, eq_self, ↓reduceIte, Bool.false_eq_true, decide_true, decide_false, List.take_length]; rfl) (by simp -implicitDefEqProofs only [go_sem, Nat.reduceBEq, Nat.reduceLT, Nat.reduceAdd, Nat.reduceSub, Nat.reduceLeDiff, Int.reduceToNat, eq_self, ↓reduceIte, Bool.false_eq_true, decide_true, decide_false, List.take_length]; rfl) rfl (by simp -implicitDefEqProofs only [go_sem, Nat.reduceBEq, Nat.reduceLT, Nat.reduceAdd, Nat.reduceSub, Nat.reduceLeDiff, Int.reduceToNat, eq_self, ↓reduceIte, Bool.false_eq_true, decide_true, decide_false, List.take_length]; exact h)
  | true =>
    obtain ⟨v1, v2, v3⟩ := valid_cnt hv
    obtain ⟨u, rfl⟩ : ∃ u : Nat, cnt = u := ⟨cnt.toNat, by omega⟩
    simp -implicitDefEqProofs only [go_sem, Nat.reduceBEq, Nat.reduceLT, Nat.reduceAdd, Nat.reduceSub, Nat.reduceLeDiff, Int.reduceToNat, eq_self, ↓reduceIte, Bool.false_eq_true, decide_true, decide_false, List.take_length]
    refine c17 hW c r (by omega) (by omega) ?_
    cases hr : recOk c r with
    | false =>
      rw [hr, if_neg (by simp)] at h
      simp -implicitDefEqProofs only [go_sem, Nat.reduceBEq, Nat.reduceLT, Nat.reduceAdd, Nat.reduceSub, Nat.reduceLeDiff, Int.reduceToNat, eq_self, ↓reduceIte, Bool.false_eq_true, decide_true, decide_false, List.take_length]
      exact endC2 (by simp -implicitDefEqProofs only [go_sem, Nat.reduceBEq, Nat.reduceLT, Nat.reduceAdd, Nat.reduceSub, Nat.reduceLeDiff, Int.reduceToNat, eq_self, ↓reduceIte, Bool.false_eq_true, decide_true, decide_false, List.take_length]; rfl) (by simp -implicitDefEqProofs only [go_sem, Nat.reduceBEq, Nat.reduceLT, Nat.reduceAdd, Nat.reduceSub, Nat.reduceLeDiff, Int.reduceToNat, eq_self, ↓reduceIte, Bool.false_eq_true, decide_true, decide_false, List.take_length]; rfl) rfl (by simp -implicitDefEqProofs only [go_sem, Nat.reduceBEq, Nat.reduceLT, Nat.reduceAdd, Nat.reduceSub, Nat.reduceLeDiff, Int.reduceToNat, eq_self, ↓reduceIte, Bool.false_eq_true, decide_true, decide_false, List.take_length]; exact h)
    | true =>
      rw [hv, hr, if_pos ⟨rfl, rfl⟩] at h
      simp -implicitDefEqProofs only [go_sem, Nat.reduceBEq, Nat.reduceLT, Nat.reduceAdd, Nat.reduceSub, Nat.reduceLeDiff, Int.reduceToNat, eq_self, ↓reduceIte, Bool.false_eq_true, decide_true, decide_false, List.take_length]
      refine dsplit (fun h60 => ?_) (fun h60 => ?_)
      · rw [if_pos h60] at h
        simp -implicitDefEqProofs only [go_sem, Nat.reduceBEq, Nat.reduceLT, Nat.reduceAdd, Nat.reduceSub, Nat.reduceLeDiff, Int.reduceToNat, eq_self, ↓reduceIte, Bool.false_eq_true, decide_true, decide_false, List.take_length, h60]
        exact endC2 (by simp -implicitDefEqProofs only [go_sem, Nat.reduceBEq, Nat.reduceLT, Nat.reduceAdd, Nat.reduceSub, Nat.reduceLeDiff, Int.reduceToNat, eq_self, ↓reduceIte, Bool.false_eq_true, decide_true, decide_false, List.take_length]; rfl) (by simp -implicitDefEqProofs only [go_sem, Nat.reduceBEq, Nat.reduceLT, Nat.reduceAdd, Nat.reduceSub, Nat.reduceLeDiff, Int.reduceToNat, eq_self, ↓reduceIte, Bool.false_eq_true, decide_true, decide_false, List.take_length]; rfl) rfl (by simp -implicitDefEqProofs only [go_sem, Nat.reduceBEq, Nat.reduceLT, Nat.reduceAdd, Nat.reduceSub, Nat.reduceLeDiff, Int.reduceToNat, eq_self, ↓reduceIte, Bool.false_eq_true, decide_true, decide_false, List.take_length, h60] at h ⊢; exact h)
      · rw [if_neg h60, Int.toNat_natCast] at h
        simp -implicitDefEqProofs only [go_sem, Nat.reduceBEq, Nat.reduceLT, Nat.reduceAdd, Nat.reduceSub, Nat.reduceLeDiff, Int.reduceToNat, eq_self, ↓reduceIte, Bool.false_eq_true, decide_true, decide_false, List.take_length, h60]
        refine c11 hW u c r (by omega) (by omega) ?_
        rw [encS_some hr (by omega)]
        have hll := lineS_len u (by omega) hr
        simp -implicitDefEqProofs only [go_sem, Nat.reduceBEq, Nat.reduceLT, Nat.reduceAdd, Nat.reduceSub, Nat.reduceLeDiff, Int.reduceToNat, eq_self, ↓reduceIte, Bool.false_eq_true, decide_true, decide_false, List.take_length, h60]
        refine need_mk (by first | omega | (simp only [List.length_append, List.length_cons, List.length_nil] at *; omega)) fun _ => ?_
        simp -implicitDefEqProofs only [go_sem, Nat.reduceBEq, Nat.reduceLT, Nat.reduceAdd, Nat.reduceSub, Nat.reduceLeDiff, Int.reduceToNat, eq_self, ↓reduceIte, Bool.false_eq_true, decide_true, decide_false, List.take_length, h60]
        rw [w64 (by omega)]
        exact endC2 (by simp -implicitDefEqProofs only [go_sem, Nat.reduceBEq, Nat.reduceLT, Nat.reduceAdd, Nat.reduceSub, Nat.reduceLeDiff, Int.reduceToNat, eq_self, ↓reduceIte, Bool.false_eq_true, decide_true, decide_false, List.take_length]; rfl) (by simp -implicitDefEqProofs only [go_sem, Nat.reduceBEq, Nat.reduceLT, Nat.reduceAdd, Nat.reduceSub, Nat.reduceLeDiff, Int.reduceToNat, eq_self, ↓reduceIte, Bool.false_eq_true, decide_true, decide_false, List.take_length]; rfl) rfl (by simp -implicitDefEqProofs only [go_sem, Nat.reduceBEq, Nat.reduceLT, Nat.reduceAdd, Nat.reduceSub, Nat.reduceLeDiff, Int.reduceToNat, eq_self, ↓reduceIte, Bool.false_eq_true, decide_true, decide_false, List.take_length]; exact h)

theorem c21 (hW : Good W0) (d p : List UInt8) (cnt : Int) (h1 : d.length < 100000000) (h2 : p.length < 100000000)
    (h : K (.tup [logD (syncS d p cnt).1.1 (syncS d p cnt).1.2.1 (syncS d p cnt).1.2.2, .bool (syncS d p cnt).2]) H) : CallWp Tryd.prog W0 21 [logD d p cnt] H K := by
  refine CallWp.fun hm F21 (Nat.le_of_ble_eq_true rfl) (Nat.le_of_ble_eq_true rfl) ?_
  unfold s21 h21 logD
  simp -implicitDefEqProofs only [go_sem, Nat.reduceBEq, Nat.reduceLT, Nat.reduceAdd, Nat.reduceSub, Nat.reduceLeDiff, Int.reduceToNat, eq_self, ↓reduceIte, Bool.false_eq_true, decide_true, decide_false, List.take_length]
  refine c19 hW d p cnt (by omega) (by omega) ?_
  unfold syncS at h
  cases hv : validS d p cnt with
  | false =>
    rw [hv, if_neg (by simp)] at h
    simp -implicitDefEqProofs only [go_sem, Nat.reduceBEq, Nat.reduceLT, Nat.reduceAdd, Nat.reduceSub, Nat.reduceLeDiff, Int.reduceToNat, eq_self, ↓reduceIte, Bool.false_eq_true, decide_true, decide_false, List.take_length]
    exact endC2 (by simp -implicitDefEqProofs only [go_sem, Nat.reduceBEq, Nat.reduceLT, Nat.reduceAdd, Nat.reduceSub, Nat.reduceLeDiff, Int.reduceToNat, eq_self, ↓reduceIte, Bool.false_eq_true, decide_true, decide_false, List.take_length]; rfl) (by simp -implicitDefEqProofs only [go_sem, Nat.reduceBEq, Nat.reduceLT, Nat.reduceAdd, Nat.reduceSub, Nat.reduceLeDiff, Int.reduceToNat, eq_self, ↓reduceIte, Bool.false_eq_true, decide_true, decide_false, List.take_length]; rfl) rfl (by simp -implicitDefEqProofs only [go_sem, Nat.reduceBEq, Nat.reduceLT, Nat.reduceAdd, Nat.reduceSub, Nat.reduceLeDiff, Int.reduceToNat, eq_self, ↓reduceIte, Bool.false_eq_true, decide_true, decide_false, List.take_length]; exact h)
  | true =>
    rw [hv, if_pos rfl] at h
    simp -implicitDefEqProofs only [go_sem, Nat.reduceBEq, Nat.reduceLT, Nat.reduceAdd, Nat.reduceSub, Nat.reduceLeDiff, Int.reduceToNat, eq_self, ↓reduceIte, Bool.false_eq_true, decide_true, decide_false, List.take_length]
    refine need_mk (by omega) fun _ => ?_
    simp -implicitDefEqProofs only [go_sem, Nat.reduceBEq, Nat.reduceLT, Nat.reduceAdd, Nat.reduceSub, Nat.reduceLeDiff, Int.reduceToNat, eq_self, ↓reduceIte, Bool.false_eq_true, decide_true, decide_false, List.take_length]
    exact endC2 (by simp -implicitDefEqProofs only [go_sem, Nat.reduceBEq, Nat.reduceLT, Nat.reduceAdd, Nat.reduceSub, Nat.reduceLeDiff, Int.reduceToNat, eq_self, ↓reduceIte, Bool.false_eq_true, decide_true, decide_false, List.take_length]; rfl) (by simp -implicitDefEqProofs only [go_sem, Nat.reduceBEq, Nat.reduceLT, Nat.reduceAdd, Nat.reduceSub, Nat.reduceLeDiff, Int.reduceToNat, eq_self, ↓reduceIte, Bool.false_eq_true, decide_true, decide_false, List.take_length]; rfl) rfl (by simp -implicitDefEqProofs only [go_sem, Nat.reduceBEq, Nat.reduceLT, Nat.reduceAdd, Nat.reduceSub, Nat.reduceLeDiff, Int.reduceToNat, eq_self, ↓reduceIte, Bool.false_eq_true, decide_true, decide_false, List.take_length]; exact h)

theorem c23 (hW : Good W0) (d p : List UInt8) (cnt : Int) (h1 : d.length < 100000000) (h2 : p.length < 100000000)
    (h : K (.tup [.lst .no (recsD (recsS d p cnt).1), .bool (recsS d p cnt).2]) H) : CallWp Tryd.prog W0 23 [logD d p cnt] H K := by
  refine CallWp.fun hm F23 (Nat.le_of_ble_eq_true rfl) (Nat.le_of_ble_eq_true rfl) ?_
  unfold s23 h23 logD
  simp -implicitDefEqProofs only [go_sem, Nat.reduceBEq, Nat.reduceLT, Nat.reduceAdd, Nat.reduceSub, Nat.reduceLeDiff, Int.reduceToNat, eq_self, ↓reduceIte, Bool.false_eq_true, decide_true, decide_false, List.take_length]
  refine c19 hW d p cnt (by omega) (by omega) ?_
  unfold recsS at h
  cases hv : validS d p cnt with
  | false =>
    rw [hv, if_neg (by simp)] at h
    simp -implicitDefEqProofs only [go_sem, Nat.reduceBEq, Nat.reduceLT, Nat.reduceAdd, Nat.reduceSub, Nat.reduceLeDiff, Int.reduceToNat, eq_self, ↓reduceIte, Bool.false_eq_true, decide_true, decide_false, List.take_length]
    exact end2 (by simp -implicitDefEqProofs only [go_sem, Nat.reduceBEq, Nat.reduceLT, Nat.reduceAdd, Nat.reduceSub, Nat.reduceLeDiff, Int.reduceToNat, eq_self, ↓reduceIte, Bool.false_eq_true, decide_true, decide_false, List.take_length]; rfl) (by simp -implicitDefEqProofs only [go_sem, Nat.reduceBEq, Nat.reduceLT, Nat.reduceAdd, Nat.reduceSub, Nat.reduceLeDiff, Int.reduceToNat, eq_self, ↓reduceIte, Bool.false_eq_true, decide_true, decide_false, List.take_length]; rfl) rfl (by simp -implicitDefEqProofs only [go_sem, Nat.reduceBEq, Nat.reduceLT, Nat.reduceAdd, Nat.reduceSub, Nat.reduceLeDiff, Int.reduceToNat, eq_self, ↓reduceIte, Bool.false_eq_true, decide_true, decide_false, List.take_length]; exact h)
  | true =>
    have v3 := (valid_cnt hv).2.2
    rw [hv, if_pos rfl] at h
    simp -implicitDefEqProofs only [go_sem, Nat.reduceBEq, Nat.reduceLT, Nat.reduceAdd, Nat.reduceSub, Nat.reduceLeDiff, Int.reduceToNat, eq_self, ↓reduceIte, Bool.false_eq_true, decide_true, decide_false, List.take_length]
    refine need_mk (by omega) fun _ => ?_
    simp -implicitDefEqProofs only [go_sem, Nat.reduceBEq, Nat.reduceLT, Nat.reduceAdd, Nat.reduceSub, Nat.reduceLeDiff, Int.reduceToNat, eq_self, ↓reduceIte, Bool.false_eq_true, decide_true, decide_false, List.take_length]
    refine c61 hW _ (by first | omega | (simp only [List.length_append, List.length_cons, List.length_nil] at *; omega)) ?_
    simp -implicitDefEqProofs only [go_sem, Nat.reduceBEq, Nat.reduceLT, Nat.reduceAdd, Nat.reduceSub, Nat.reduceLeDiff, Int.reduceToNat, eq_self, ↓reduceIte, Bool.false_eq_true, decide_true, decide_false, List.take_length]
    exact end2 (by simp -implicitDefEqProofs only [go_sem, Nat.reduceBEq, Nat.reduceLT, Nat.reduceAdd, Nat.reduceSub, Nat.reduceLeDiff, Int.reduceToNat, eq_self, ↓reduceIte, Bool.false_eq_true, decide_true, decide_false, List.take_length]; rfl) (by simp -implicitDefEqProofs only [go_sem, Nat.reduceBEq, Nat.reduceLT, Nat.reduceAdd, Nat.reduceSub, Nat.reduceLeDiff, Int.reduceToNat, eq_self, ↓reduceIte, Bool.false_eq_true, decide_true, decide_false, List.take_length]; rfl) rfl (by simp -implicitDefEqProofs only [go_sem, Nat.reduceBEq, Nat.reduceLT, Nat.reduceAdd, Nat.reduceSub, Nat.reduceLeDiff, Int.reduceToNat, eq_self, ↓reduceIte, Bool.false_eq_true, decide_true, decide_false, List.take_length]; exact h)
end Go.Proofs.YtgnebanjejmckaaDoor
