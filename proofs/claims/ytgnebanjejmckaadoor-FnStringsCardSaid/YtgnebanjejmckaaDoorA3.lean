/- Contract of the reference's decoding of a line. -/
import Derived.Test.YtgnebanjejmckaaDoorA2
set_option maxRecDepth 100000
set_option linter.unusedSimpArgs false
set_option linter.unusedVariables false
namespace Go.Proofs.YtgnebanjejmckaaDoor
open Go Dl
variable {W0 : World} {H : Heap} {K : D → Heap → Prop}

/-- What stands ahead of the first such byte. -/
def fstB (b : UInt8) (s : List UInt8) : List UInt8 := (splitB b s).headD []
theorem fstB_eq (b : UInt8) : ∀ s, fstB b s = s.takeWhile (fun c => !(c == b))
  | [] => rfl
  | c :: cs => by
    have ih := fstB_eq b cs
    obtain ⟨x, xs, h⟩ := splitB_ne b cs
    unfold fstB at *
    by_cases hc : c = b
    · simp [hc, splitB]
    · have e : splitB b (c :: cs) = (c :: x) :: xs := by rw [splitB, if_neg hc, h]; rfl
      rw [e]
      rw [h] at ih
      simp at ih
      simp [hc, ih]
theorem fstB_le (b : UInt8) (s : List UInt8) : (fstB b s).length ≤ s.length := by
  rw [fstB_eq]
  have := List.takeWhile_append_dropWhile (p := fun c => !(c == b)) (l := s)
  have h2 := congrArg List.length this
  rw [List.length_append] at h2
  omega
theorem split_head (b : UInt8) (s : List UInt8) : ∃ xs, splitB b s = fstB b s :: xs := by
  obtain ⟨x, xs, h⟩ := splitB_ne b s
  exact ⟨xs, by unfold fstB; rw [h]; rfl⟩

def decodeS (s : List UInt8) (k : Nat) : (List UInt8 × List UInt8) × Bool :=
  if (fstB 35 s).length < (Lib.decDigits k ++ [32]).length ∨ (fstB 35 s).take (Lib.decDigits k ++ [32]).length ≠ Lib.decDigits k ++ [32] then (([], []), false)
  else if (fstB 64 ((fstB 35 s).drop (Lib.decDigits k ++ [32]).length)).length = ((fstB 35 s).drop (Lib.decDigits k ++ [32]).length).length then (([], []), false)
  else ((fstB 64 ((fstB 35 s).drop (Lib.decDigits k ++ [32]).length), ((fstB 35 s).drop (Lib.decDigits k ++ [32]).length).drop ((fstB 64 ((fstB 35 s).drop (Lib.decDigits k ++ [32]).length)).length + 1)),
    recOk (fstB 64 ((fstB 35 s).drop (Lib.decDigits k ++ [32]).length)) (((fstB 35 s).drop (Lib.decDigits k ++ [32]).length).drop ((fstB 64 ((fstB 35 s).drop (Lib.decDigits k ++ [32]).length)).length + 1)) &&
    decide (lineS k (fstB 64 ((fstB 35 s).drop (Lib.decDigits k ++ [32]).length)) (((fstB 35 s).drop (Lib.decDigits k ++ [32]).length).drop ((fstB 64 ((fstB 35 s).drop (Lib.decDigits k ++ [32]).length)).length + 1)) ++ [10] = s ++ [10]))

theorem c89 (s : List UInt8) (k : Nat) (hs : s.length < 10000000) (hk : k < 1000000) (h : K (.tup [recD (decodeS s k).1.1 (decodeS s k).1.2, .bool (decodeS s k).2]) H) : CallWp Tryd.prog W0 89 [.str s, int k] H K := by
  refine CallWp.fun hm F89 (Nat.le_of_ble_eq_true rfl) (Nat.le_of_ble_eq_true rfl) ?_
  unfold s89 h89
  simp -implicitDefEqProofs only [go_sem, Nat.reduceBEq, Nat.reduceLT, Nat.reduceAdd, Nat.reduceSub, Nat.reduceLeDiff, Int.reduceToNat, eq_self, ↓reduceIte, Bool.false_eq_true, decide_true, decide_false, List.take_length]
  have hl := decDigits_le 5 k (by omega)
  refine c74n k (by omega) _ _ ?_
  simp -implicitDefEqProofs only [go_sem, Nat.reduceBEq, Nat.reduceLT, Nat.reduceAdd, Nat.reduceSub, Nat.reduceLeDiff, Int.reduceToNat, eq_self, ↓reduceIte, Bool.false_eq_true, decide_true, decide_false, List.take_length]
  refine need_mk (by first | omega | (simp only [List.length_append, List.length_cons, List.length_nil] at *; omega)) fun _ => ?_
  generalize hdec : decodeS s k = dec at h
  unfold decodeS at hdec
  have ht := fstB_le 35 s
  obtain ⟨xs, hsp⟩ := split_head 35 s
  generalize fstB 35 s = text at *
  generalize hah : Lib.decDigits k ++ [32] = ahead at *
  have hal : ahead.length ≤ 7 := by rw [← hah]; simp; omega
  simp -implicitDefEqProofs only [go_sem, Nat.reduceBEq, Nat.reduceLT, Nat.reduceAdd, Nat.reduceSub, Nat.reduceLeDiff, Int.reduceToNat, eq_self, ↓reduceIte, Bool.false_eq_true, decide_true, decide_false, List.take_length]
  refine c88 s 35 (by omega) ?_
  rw [hsp]
  simp -implicitDefEqProofs only [go_sem, Nat.reduceBEq, Nat.reduceLT, Nat.reduceAdd, Nat.reduceSub, Nat.reduceLeDiff, Int.reduceToNat, eq_self, ↓reduceIte, Bool.false_eq_true, decide_true, decide_false, List.take_length, List.map_cons]
  refine need_mk (by first | omega | decide | rfl | trivial | (refine ⟨?_, ?_⟩ <;> first | omega | rfl | decide) | (refine ⟨?_, ?_, ?_⟩ <;> first | omega | rfl | decide)) fun _ => ?_
  simp -implicitDefEqProofs only [go_sem, Nat.reduceBEq, Nat.reduceLT, Nat.reduceAdd, Nat.reduceSub, Nat.reduceLeDiff, Int.reduceToNat, eq_self, ↓reduceIte, Bool.false_eq_true, decide_true, decide_false, List.take_length]
  by_cases h1 : text.length < ahead.length
  · have h1' : (text.length : Int) < ahead.length := by omega
    rw [if_pos (.inl h1)] at hdec; subst hdec
    simp -implicitDefEqProofs only [go_sem, Nat.reduceBEq, Nat.reduceLT, Nat.reduceAdd, Nat.reduceSub, Nat.reduceLeDiff, Int.reduceToNat, eq_self, ↓reduceIte, Bool.false_eq_true, decide_true, decide_false, List.take_length, h1']
    refine endC2 (by simp -implicitDefEqProofs only [go_sem, Nat.reduceBEq, Nat.reduceLT, Nat.reduceAdd, Nat.reduceSub, Nat.reduceLeDiff, Int.reduceToNat, eq_self, ↓reduceIte, Bool.false_eq_true, decide_true, decide_false, List.take_length]; rfl) (by simp -implicitDefEqProofs only [go_sem, Nat.reduceBEq, Nat.reduceLT, Nat.reduceAdd, Nat.reduceSub, Nat.reduceLeDiff, Int.reduceToNat, eq_self, ↓reduceIte, Bool.false_eq_true, decide_true, decide_false, List.take_length]; rfl) rfl (by simp -implicitDefEqProofs only [go_sem, Nat.reduceBEq, Nat.reduceLT, Nat.reduceAdd, Nat.reduceSub, Nat.reduceLeDiff, Int.reduceToNat, eq_self, ↓reduceIte, Bool.false_eq_true, decide_true, decide_false, List.take_length]; exact h)
  have h1' : ¬ (text.length : Int) < ahead.length := by omega
  simp -implicitDefEqProofs only [go_sem, Nat.reduceBEq, Nat.reduceLT, Nat.reduceAdd, Nat.reduceSub, Nat.reduceLeDiff, Int.reduceToNat, eq_self, ↓reduceIte, Bool.false_eq_true, decide_true, decide_false, List.take_length, h1']
  refine need_mk (by omega) fun _ => ?_
  simp -implicitDefEqProofs only [go_sem, Nat.reduceBEq, Nat.reduceLT, Nat.reduceAdd, Nat.reduceSub, Nat.reduceLeDiff, Int.reduceToNat, eq_self, ↓reduceIte, Bool.false_eq_true, decide_true, decide_false, List.take_length, h1', Nat.sub_zero]
  by_cases h2 : ¬ text.take ahead.length = ahead
  · rw [if_pos (.inr h2)] at hdec; subst hdec
    simp -implicitDefEqProofs only [go_sem, Nat.reduceBEq, Nat.reduceLT, Nat.reduceAdd, Nat.reduceSub, Nat.reduceLeDiff, Int.reduceToNat, eq_self, ↓reduceIte, Bool.false_eq_true, decide_true, decide_false, List.take_length, h2]
    refine endC2 (by simp -implicitDefEqProofs only [go_sem, Nat.reduceBEq, Nat.reduceLT, Nat.reduceAdd, Nat.reduceSub, Nat.reduceLeDiff, Int.reduceToNat, eq_self, ↓reduceIte, Bool.false_eq_true, decide_true, decide_false, List.take_length]; rfl) (by simp -implicitDefEqProofs only [go_sem, Nat.reduceBEq, Nat.reduceLT, Nat.reduceAdd, Nat.reduceSub, Nat.reduceLeDiff, Int.reduceToNat, eq_self, ↓reduceIte, Bool.false_eq_true, decide_true, decide_false, List.take_length]; rfl) rfl (by simp -implicitDefEqProofs only [go_sem, Nat.reduceBEq, Nat.reduceLT, Nat.reduceAdd, Nat.reduceSub, Nat.reduceLeDiff, Int.reduceToNat, eq_self, ↓reduceIte, Bool.false_eq_true, decide_true, decide_false, List.take_length]; exact h)
  rw [if_neg (fun hh => hh.elim h1 h2)] at hdec
  have h2' : text.take ahead.length = ahead := Decidable.not_not.1 h2
  simp -implicitDefEqProofs only [go_sem, Nat.reduceBEq, Nat.reduceLT, Nat.reduceAdd, Nat.reduceSub, Nat.reduceLeDiff, Int.reduceToNat, eq_self, ↓reduceIte, Bool.false_eq_true, decide_true, decide_false, List.take_length, h2']
  refine need_mk (by omega) fun _ => ?_
  simp -implicitDefEqProofs only [go_sem, Nat.reduceBEq, Nat.reduceLT, Nat.reduceAdd, Nat.reduceSub, Nat.reduceLeDiff, Int.reduceToNat, eq_self, ↓reduceIte, Bool.false_eq_true, decide_true, decide_false, List.take_length]
  have e : text.length - ahead.length = (text.drop ahead.length).length := by simp
  rw [e, List.take_length]
  have hrl : (text.drop ahead.length).length ≤ text.length := by simp
  generalize text.drop ahead.length = rest at *
  have ht2 := fstB_le 64 rest
  obtain ⟨ys, hsp2⟩ := split_head 64 rest
  generalize fstB 64 rest = ask at *
  refine c88 rest 64 (by omega) ?_
  rw [hsp2]
  simp -implicitDefEqProofs only [go_sem, Nat.reduceBEq, Nat.reduceLT, Nat.reduceAdd, Nat.reduceSub, Nat.reduceLeDiff, Int.reduceToNat, eq_self, ↓reduceIte, Bool.false_eq_true, decide_true, decide_false, List.take_length, List.map_cons]
  refine need_mk (by first | omega | decide | rfl | trivial | (refine ⟨?_, ?_⟩ <;> first | omega | rfl | decide) | (refine ⟨?_, ?_, ?_⟩ <;> first | omega | rfl | decide)) fun _ => ?_
  simp -implicitDefEqProofs only [go_sem, Nat.reduceBEq, Nat.reduceLT, Nat.reduceAdd, Nat.reduceSub, Nat.reduceLeDiff, Int.reduceToNat, eq_self, ↓reduceIte, Bool.false_eq_true, decide_true, decide_false, List.take_length]
  by_cases h3 : ask.length = rest.length
  · have h3' : (ask.length : Int) = rest.length := by omega
    rw [if_pos h3] at hdec; subst hdec
    simp -implicitDefEqProofs only [go_sem, Nat.reduceBEq, Nat.reduceLT, Nat.reduceAdd, Nat.reduceSub, Nat.reduceLeDiff, Int.reduceToNat, eq_self, ↓reduceIte, Bool.false_eq_true, decide_true, decide_false, List.take_length, h3']
    refine endC2 (by simp -implicitDefEqProofs only [go_sem, Nat.reduceBEq, Nat.reduceLT, Nat.reduceAdd, Nat.reduceSub, Nat.reduceLeDiff, Int.reduceToNat, eq_self, ↓reduceIte, Bool.false_eq_true, decide_true, decide_false, List.take_length]; rfl) (by simp -implicitDefEqProofs only [go_sem, Nat.reduceBEq, Nat.reduceLT, Nat.reduceAdd, Nat.reduceSub, Nat.reduceLeDiff, Int.reduceToNat, eq_self, ↓reduceIte, Bool.false_eq_true, decide_true, decide_false, List.take_length]; rfl) rfl (by simp -implicitDefEqProofs only [go_sem, Nat.reduceBEq, Nat.reduceLT, Nat.reduceAdd, Nat.reduceSub, Nat.reduceLeDiff, Int.reduceToNat, eq_self, ↓reduceIte, Bool.false_eq_true, decide_true, decide_false, List.take_length]; exact h)
  have h3' : ¬ (ask.length : Int) = rest.length := by omega
  rw [if_neg h3] at hdec
  simp -implicitDefEqProofs only [go_sem, Nat.reduceBEq, Nat.reduceLT, Nat.reduceAdd, Nat.reduceSub, Nat.reduceLeDiff, Int.reduceToNat, eq_self, ↓reduceIte, Bool.false_eq_true, decide_true, decide_false, List.take_length, h3']
  rw [w64 (by omega)]
  refine need_mk (by omega) fun _ => ?_
  have e2 : ((ask.length : Int) + 1).toNat = ask.length + 1 := by omega
  simp -implicitDefEqProofs only [go_sem, Nat.reduceBEq, Nat.reduceLT, Nat.reduceAdd, Nat.reduceSub, Nat.reduceLeDiff, Int.reduceToNat, eq_self, ↓reduceIte, Bool.false_eq_true, decide_true, decide_false, List.take_length, e2]
  have e3 : rest.length - (ask.length + 1) = (rest.drop (ask.length + 1)).length := by simp
  rw [e3, List.take_length]
  have hrl2 : (rest.drop (ask.length + 1)).length ≤ rest.length := by simp
  generalize rest.drop (ask.length + 1) = rp at *
  subst hdec
  simp only at h
  refine Grow_mk (fun K => c53 ask rp (by omega) (by omega)) ?_
  cases hok : recOk ask rp with
  | false =>
    rw [hok, Bool.false_and] at h
    simp -implicitDefEqProofs only [go_sem, Nat.reduceBEq, Nat.reduceLT, Nat.reduceAdd, Nat.reduceSub, Nat.reduceLeDiff, Int.reduceToNat, eq_self, ↓reduceIte, Bool.false_eq_true, decide_true, decide_false, List.take_length]
    refine endC2 (by simp -implicitDefEqProofs only [go_sem, Nat.reduceBEq, Nat.reduceLT, Nat.reduceAdd, Nat.reduceSub, Nat.reduceLeDiff, Int.reduceToNat, eq_self, ↓reduceIte, Bool.false_eq_true, decide_true, decide_false, List.take_length]; rfl) (by simp -implicitDefEqProofs only [go_sem, Nat.reduceBEq, Nat.reduceLT, Nat.reduceAdd, Nat.reduceSub, Nat.reduceLeDiff, Int.reduceToNat, eq_self, ↓reduceIte, Bool.false_eq_true, decide_true, decide_false, List.take_length]; rfl) rfl (by simp -implicitDefEqProofs only [go_sem, Nat.reduceBEq, Nat.reduceLT, Nat.reduceAdd, Nat.reduceSub, Nat.reduceLeDiff, Int.reduceToNat, eq_self, ↓reduceIte, Bool.false_eq_true, decide_true, decide_false, List.take_length]; exact h)
  | true =>
    rw [hok, Bool.true_and] at h
    simp -implicitDefEqProofs only [go_sem, Nat.reduceBEq, Nat.reduceLT, Nat.reduceAdd, Nat.reduceSub, Nat.reduceLeDiff, Int.reduceToNat, eq_self, ↓reduceIte, Bool.false_eq_true, decide_true, decide_false, List.take_length]
    refine need_mk (by first | omega | (simp only [List.length_append, List.length_cons, List.length_nil] at *; omega)) fun _ => ?_
    simp -implicitDefEqProofs only [go_sem, Nat.reduceBEq, Nat.reduceLT, Nat.reduceAdd, Nat.reduceSub, Nat.reduceLeDiff, Int.reduceToNat, eq_self, ↓reduceIte, Bool.false_eq_true, decide_true, decide_false, List.take_length]
    refine Grow_mk (fun K => c54 k ask rp (by omega) (by omega) (by omega)) ?_
    simp -implicitDefEqProofs only [go_sem, Nat.reduceBEq, Nat.reduceLT, Nat.reduceAdd, Nat.reduceSub, Nat.reduceLeDiff, Int.reduceToNat, eq_self, ↓reduceIte, Bool.false_eq_true, decide_true, decide_false, List.take_length]
    refine endC2 (by simp -implicitDefEqProofs only [go_sem, Nat.reduceBEq, Nat.reduceLT, Nat.reduceAdd, Nat.reduceSub, Nat.reduceLeDiff, Int.reduceToNat, eq_self, ↓reduceIte, Bool.false_eq_true, decide_true, decide_false, List.take_length]; rfl) (by simp -implicitDefEqProofs only [go_sem, Nat.reduceBEq, Nat.reduceLT, Nat.reduceAdd, Nat.reduceSub, Nat.reduceLeDiff, Int.reduceToNat, eq_self, ↓reduceIte, Bool.false_eq_true, decide_true, decide_false, List.take_length]; rfl) rfl (by simp -implicitDefEqProofs only [go_sem, Nat.reduceBEq, Nat.reduceLT, Nat.reduceAdd, Nat.reduceSub, Nat.reduceLeDiff, Int.reduceToNat, eq_self, ↓reduceIte, Bool.false_eq_true, decide_true, decide_false, List.take_length]; exact h)
end Go.Proofs.YtgnebanjejmckaaDoor
