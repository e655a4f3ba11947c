/- The program's own test of a log agrees with the reference's. -/
import Derived.Test.YtgnebanjejmckaaDoorB3
set_option maxRecDepth 100000
set_option linter.unusedSimpArgs false
set_option linter.unusedVariables false
namespace Go.Proofs.YtgnebanjejmckaaDoor
open Go Dl
variable {W0 : World} {H : Heap} {K : D → Heap → Prop}

theorem mem_openE : ∀ (f k a : Nat) (s : List UInt8) (x : Nat), x ∈ openE f k a s → a + ((fstB 10 s).length + 1) ≤ x
  | 0, _, _, _, _, h => by simp [openE] at h
  | f + 1, k, a, s, x, h => by
    rw [openE] at h
    split at h
    · rw [List.mem_cons] at h
      rcases h with rfl | h
      · exact Nat.le_refl _
      · have := mem_openE f _ _ _ _ h
        omega
    · simp at h
theorem openE_last : ∀ (f k a : Nat) (s : List UInt8), (a :: openE f k a s).getD (openE f k a s).length 0 = a + (openS f k s).2
  | 0, _, _, _ => by simp [openE, openS]
  | f + 1, k, a, s => by
    rw [openE, openS]
    split
    · have := openE_last f (k + 1) (a + ((fstB 10 s).length + 1)) (s.drop ((fstB 10 s).length + 1))
      rw [List.length_cons, List.getD_cons_succ, this]
      simp only
      omega
    · simp
theorem openE_len : ∀ (f k a : Nat) (s : List UInt8), (openE f k a s).length = (openS f k s).1.length
  | 0, _, _, _ => rfl
  | f + 1, k, a, s => by
    rw [openE, openS]
    split
    · simp [openE_len]
    · rfl
theorem fstB_app_in (b : UInt8) (d p : List UInt8) (h : d.contains b = true) : fstB b (d ++ p) = fstB b d := by
  induction d with
  | nil => simp at h
  | cons c cs ih =>
    by_cases hc : c = b
    · subst hc; rw [List.cons_append, fstB_cons_eq, fstB_cons_eq]
    · rw [List.cons_append, fstB_cons_ne _ hc, fstB_cons_ne _ hc, ih]
      simp at h ⊢
      rcases h with h | h
      · exact absurd h.symm hc
      · exact h
theorem fstB_app_out (b : UInt8) (d p : List UInt8) (h : d.contains b = false) : d.length ≤ (fstB b (d ++ p)).length := by
  induction d with
  | nil => simp
  | cons c cs ih =>
    simp at h
    rw [List.cons_append, fstB_cons_ne _ (fun e => h.1 e.symm), List.length_cons, List.length_cons]
    have := ih (by simpa using h.2)
    omega
theorem openE_mem : ∀ (f k a : Nat) (d p : List UInt8), (a + d.length ∈ a :: openE f k a (d ++ p)) ↔ (openS f k d).2 = d.length
  | 0, k, a, d, p => by
    simp only [openE, openS, List.mem_singleton]
    omega
  | f + 1, k, a, d, p => by
    cases d with
    | nil => rw [openS_nil]; simp
    | cons c cs =>
      have hne : ¬ a + (c :: cs).length = a := by simp
      rw [List.mem_cons, or_iff_right hne]
      generalize hd : c :: cs = d at *
      have hpos : 0 < d.length := by rw [← hd]; simp
      cases hc : d.contains 10 with
      | true =>
        have e1 := fstB_app_in 10 d p hc
        have e2 := fstB_lt 10 d hc
        have e3 : (d ++ p).contains 10 = true := by rw [contains_app, hc, Bool.true_or]
        rw [openE, openS, e1, e3, hc]
        by_cases hacc : (decodeS (fstB 10 d) k).2 = true
        · rw [if_pos ⟨rfl, hacc⟩, if_pos ⟨rfl, hacc⟩]
          have := openE_mem f (k + 1) (a + ((fstB 10 d).length + 1)) (d.drop ((fstB 10 d).length + 1)) p
          rw [List.drop_append_of_le_length (by omega)]
          rw [List.length_drop, show a + ((fstB 10 d).length + 1) + (d.length - ((fstB 10 d).length + 1)) = a + d.length by omega] at this
          rw [this]
          simp only
          omega
        · rw [if_neg (fun h => hacc h.2), if_neg (fun h => hacc h.2)]
          simp
          omega
      | false =>
        have e1 : openS (f + 1) k d = ([], 0) := by rw [openS, if_neg]; rw [hc]; simp
        rw [e1]
        constructor
        · intro h
          have := mem_openE _ _ _ _ _ h
          have := fstB_app_out 10 d p hc
          omega
        · intro h; simp only at h; omega

theorem c19 (hW : Good W0) (d p : List UInt8) (cnt : Int) (h1 : d.length < 1000000000) (h2 : p.length < 1000000000) (h : K (.bool (validS d p cnt)) H) : CallWp Tryd.prog W0 19 [logD d p cnt] H K := by
  refine CallWp.fun hm F19 (Nat.le_of_ble_eq_true rfl) (Nat.le_of_ble_eq_true rfl) ?_
  unfold s19 h19
  unfold validS at h
  simp -implicitDefEqProofs only [go_sem, Nat.reduceBEq, Nat.reduceLT, Nat.reduceAdd, Nat.reduceSub, Nat.reduceLeDiff, Int.reduceToNat, eq_self, ↓reduceIte, Bool.false_eq_true, decide_true, decide_false, List.take_length]
  refine need_mk (by first | omega | (simp only [List.length_append, List.length_cons, List.length_nil] at *; omega)) fun _ => ?_
  simp -implicitDefEqProofs only [go_sem, Nat.reduceBEq, Nat.reduceLT, Nat.reduceAdd, Nat.reduceSub, Nat.reduceLeDiff, Int.reduceToNat, eq_self, ↓reduceIte, Bool.false_eq_true, decide_true, decide_false, List.take_length]
  rw [List.length_append]
  refine dsplit (fun hb => ?_) (fun hb => ?_)
  · rw [decide_eq_false (by omega : ¬ d.length + p.length ≤ 30000)] at h
    simp -implicitDefEqProofs only [go_sem, Nat.reduceBEq, Nat.reduceLT, Nat.reduceAdd, Nat.reduceSub, Nat.reduceLeDiff, Int.reduceToNat, eq_self, ↓reduceIte, Bool.false_eq_true, decide_true, decide_false, List.take_length, hb] at h ⊢
    exact end1 (by simp -implicitDefEqProofs only [go_sem, Nat.reduceBEq, Nat.reduceLT, Nat.reduceAdd, Nat.reduceSub, Nat.reduceLeDiff, Int.reduceToNat, eq_self, ↓reduceIte, Bool.false_eq_true, decide_true, decide_false, List.take_length]; rfl) rfl (by simp -implicitDefEqProofs only [go_sem, Nat.reduceBEq, Nat.reduceLT, Nat.reduceAdd, Nat.reduceSub, Nat.reduceLeDiff, Int.reduceToNat, eq_self, ↓reduceIte, Bool.false_eq_true, decide_true, decide_false, List.take_length]; exact h)
  · rw [decide_eq_true (by omega : d.length + p.length ≤ 30000)] at h
    rw [Bool.true_and] at h
    simp -implicitDefEqProofs only [go_sem, Nat.reduceBEq, Nat.reduceLT, Nat.reduceAdd, Nat.reduceSub, Nat.reduceLeDiff, Int.reduceToNat, eq_self, ↓reduceIte, Bool.false_eq_true, decide_true, decide_false, List.take_length]
    refine c61 hW (d ++ p) (by rw [List.length_append]; omega) ?_
    have hl := openE_last 60 0 0 (d ++ p)
    have hle := openS_le 60 0 (d ++ p)
    have hlen := openE_len 60 0 0 (d ++ p)
    have hmem := openE_mem 60 0 0 d p
    rw [Nat.zero_add] at hmem hl
    generalize openE 60 0 0 (d ++ p) = es at *
    generalize openS 60 0 (d ++ p) = q at *
    simp -implicitDefEqProofs only [go_sem, Nat.reduceBEq, Nat.reduceLT, Nat.reduceAdd, Nat.reduceSub, Nat.reduceLeDiff, Int.reduceToNat, eq_self, ↓reduceIte, Bool.false_eq_true, decide_true, decide_false, List.take_length]
    rw [w64 (by omega)]
    have e0 : ((es.length + 1 : Nat) : Int) - 1 = (es.length : Nat) := by omega
    rw [e0]
    have hget : (int ((0 : Nat) : Int) :: List.map (fun (n : Nat) => int (n : Int)) es).getD es.length D.any = int (q.2 : Nat) := by
      have : (intsD (0 :: es)).getD es.length D.any = int (q.2 : Nat) := by
        rw [getD_map _ _ _ _ (by simp), ← hl, getD_lt' _ _ _ (by simp)]
      exact this
    simp -implicitDefEqProofs only [go_sem, Nat.reduceBEq, Nat.reduceLT, Nat.reduceAdd, Nat.reduceSub, Nat.reduceLeDiff, Int.reduceToNat, eq_self, ↓reduceIte, Bool.false_eq_true, decide_true, decide_false, List.take_length]
    rw [hget]
    refine need_mk (by first | omega | decide | rfl | trivial | (refine ⟨?_, ?_⟩ <;> first | omega | rfl | decide) | (refine ⟨?_, ?_, ?_⟩ <;> first | omega | rfl | decide)) fun _ => ?_
    simp -implicitDefEqProofs only [go_sem, Nat.reduceBEq, Nat.reduceLT, Nat.reduceAdd, Nat.reduceSub, Nat.reduceLeDiff, Int.reduceToNat, eq_self, ↓reduceIte, Bool.false_eq_true, decide_true, decide_false, List.take_length]
    by_cases e1 : (q.2 : Int) = ((d.length + p.length : Nat) : Int)
    case neg =>
      have e1' : ¬ q.2 = d.length + p.length := by omega
      simp -implicitDefEqProofs only [go_sem, Nat.reduceBEq, Nat.reduceLT, Nat.reduceAdd, Nat.reduceSub, Nat.reduceLeDiff, Int.reduceToNat, eq_self, ↓reduceIte, Bool.false_eq_true, decide_true, decide_false, List.take_length, e1'] at h
      simp -implicitDefEqProofs only [go_sem, Nat.reduceBEq, Nat.reduceLT, Nat.reduceAdd, Nat.reduceSub, Nat.reduceLeDiff, Int.reduceToNat, eq_self, ↓reduceIte, Bool.false_eq_true, decide_true, decide_false, List.take_length, List.length_append, e1]
      exact end1 (by simp -implicitDefEqProofs only [go_sem, Nat.reduceBEq, Nat.reduceLT, Nat.reduceAdd, Nat.reduceSub, Nat.reduceLeDiff, Int.reduceToNat, eq_self, ↓reduceIte, Bool.false_eq_true, decide_true, decide_false, List.take_length]; rfl) rfl (by simp -implicitDefEqProofs only [go_sem, Nat.reduceBEq, Nat.reduceLT, Nat.reduceAdd, Nat.reduceSub, Nat.reduceLeDiff, Int.reduceToNat, eq_self, ↓reduceIte, Bool.false_eq_true, decide_true, decide_false, List.take_length]; exact h)
    have e1' : q.2 = d.length + p.length := by omega
    rw [decide_eq_true e1', Bool.true_and] at h
    simp -implicitDefEqProofs only [go_sem, Nat.reduceBEq, Nat.reduceLT, Nat.reduceAdd, Nat.reduceSub, Nat.reduceLeDiff, Int.reduceToNat, eq_self, ↓reduceIte, Bool.false_eq_true, decide_true, decide_false, List.take_length, List.length_append, e1]
    refine c62 (0 :: es) d.length (by rw [List.length_cons]; omega) ?_
    have hcc : (0 :: es).contains d.length = decide ((openS 60 0 d).2 = d.length) := by
      rw [Bool.eq_iff_iff, List.contains_iff_mem, decide_eq_true_iff]; exact hmem
    rw [hcc]
    by_cases e2 : (openS 60 0 d).2 = d.length
    · simp -implicitDefEqProofs only [go_sem, Nat.reduceBEq, Nat.reduceLT, Nat.reduceAdd, Nat.reduceSub, Nat.reduceLeDiff, Int.reduceToNat, eq_self, ↓reduceIte, Bool.false_eq_true, decide_true, decide_false, List.take_length, e2] at h ⊢
      have e3 : decide (cnt = (q.1.length : Int)) = decide ((q.1.length : Int) = cnt) := by
        by_cases hx : cnt = (q.1.length : Int)
        · rw [decide_eq_true hx, decide_eq_true hx.symm]
        · rw [decide_eq_false hx, decide_eq_false (fun e => hx e.symm)]
      rw [e3]
      exact end1 (by simp -implicitDefEqProofs only [go_sem, Nat.reduceBEq, Nat.reduceLT, Nat.reduceAdd, Nat.reduceSub, Nat.reduceLeDiff, Int.reduceToNat, eq_self, ↓reduceIte, Bool.false_eq_true, decide_true, decide_false, List.take_length]; rfl) rfl (by simp -implicitDefEqProofs only [go_sem, Nat.reduceBEq, Nat.reduceLT, Nat.reduceAdd, Nat.reduceSub, Nat.reduceLeDiff, Int.reduceToNat, eq_self, ↓reduceIte, Bool.false_eq_true, decide_true, decide_false, List.take_length]; exact h)
    · simp -implicitDefEqProofs only [go_sem, Nat.reduceBEq, Nat.reduceLT, Nat.reduceAdd, Nat.reduceSub, Nat.reduceLeDiff, Int.reduceToNat, eq_self, ↓reduceIte, Bool.false_eq_true, decide_true, decide_false, List.take_length, e2] at h ⊢
      exact end1 (by simp -implicitDefEqProofs only [go_sem, Nat.reduceBEq, Nat.reduceLT, Nat.reduceAdd, Nat.reduceSub, Nat.reduceLeDiff, Int.reduceToNat, eq_self, ↓reduceIte, Bool.false_eq_true, decide_true, decide_false, List.take_length]; rfl) rfl (by simp -implicitDefEqProofs only [go_sem, Nat.reduceBEq, Nat.reduceLT, Nat.reduceAdd, Nat.reduceSub, Nat.reduceLeDiff, Int.reduceToNat, eq_self, ↓reduceIte, Bool.false_eq_true, decide_true, decide_false, List.take_length]; exact h)
end Go.Proofs.YtgnebanjejmckaaDoor
