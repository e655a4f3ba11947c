/- Contracts of the program's own reading of a log. -/
import Derived.Test.YtgnebanjejmckaaDoorB2
import Derived.Test.YtgnebanjejmckaaDoorS
set_option maxRecDepth 100000
set_option linter.unusedSimpArgs false
set_option linter.unusedVariables false
namespace Go.Proofs.YtgnebanjejmckaaDoor
open Go Dl
variable {W0 : World} {H : Heap} {K : D → Heap → Prop}

theorem cut_le (s t : List UInt8) : (Lib.cut s t).1.length ≤ s.length ∧ (Lib.cut s t).2.1.length ≤ s.length := by
  unfold Lib.cut
  split
  · simp only [List.length_take, List.length_drop]; omega
  · simp

def openE : Nat → Nat → Nat → List UInt8 → List Nat
  | 0, _, _, _ => []
  | f + 1, k, a, s => if s.contains 10 = true ∧ (decodeS (fstB 10 s) k).2 = true then
      (a + ((fstB 10 s).length + 1)) :: openE f (k + 1) (a + ((fstB 10 s).length + 1)) (s.drop ((fstB 10 s).length + 1))
    else []

structure RecSt where
  out : List Rec
  es : List Nat
  at_ : Nat

abbrev intsD (l : List Nat) : List D := l.map fun (n : Nat) => int (n : Int)
theorem all_cells_int (l : List Nat) : ∀ x ∈ intsD l, x.cells.length = 1 := by
  intro x hx
  obtain ⟨y, _, rfl⟩ := List.mem_map.1 hx
  rfl

theorem c61 (hW : Good W0) (s : List UInt8) (hs : s.length < 10000000) (h : K (.tup [.lst .no (recsD (openS 60 0 s).1), .lst .no (intsD (0 :: openE 60 0 0 s))]) H) : CallWp Tryd.prog W0 61 [.str s] H K := by
  refine CallWp.fun hm F61 (Nat.le_of_ble_eq_true rfl) (Nat.le_of_ble_eq_true rfl) ?_
  unfold s61 h61
  simp -implicitDefEqProofs only [go_sem, Nat.reduceBEq, Nat.reduceLT, Nat.reduceAdd, Nat.reduceSub, Nat.reduceLeDiff, Int.reduceToNat, eq_self, ↓reduceIte, Bool.false_eq_true, decide_true, decide_false, List.take_length]
  refine need_mk ⟨rfl, by decide⟩ fun _ => ?_
  simp -implicitDefEqProofs only [go_sem, Nat.reduceBEq, Nat.reduceLT, Nat.reduceAdd, Nat.reduceSub, Nat.reduceLeDiff, Int.reduceToNat, eq_self, ↓reduceIte, Bool.false_eq_true, decide_true, decide_false, List.take_length]
  refine need_mk (by first | omega | decide | rfl | trivial | (refine ⟨?_, ?_⟩ <;> first | omega | rfl | decide) | (refine ⟨?_, ?_, ?_⟩ <;> first | omega | rfl | decide)) fun _ => ?_
  simp -implicitDefEqProofs only [go_sem, Nat.reduceBEq, Nat.reduceLT, Nat.reduceAdd, Nat.reduceSub, Nat.reduceLeDiff, Int.reduceToNat, eq_self, ↓reduceIte, Bool.false_eq_true, decide_true, decide_false, List.take_length]
  refine s_loop (fun (x : RecSt) => 60 - x.out.length) (fun x fr' H' => (fr' 6 = int x.at_ ∧ (∃ o, (o = .exact ∨ o = .tip 25) ∧ fr' 4 = .lst o (recsD x.out)) ∧ ∃ o, (o = .exact ∨ o = .tip 3) ∧ fr' 5 = .lst o (intsD (0 :: x.es))) ∧ x.at_ ≤ s.length ∧ x.out.length ≤ 60 ∧ x.es.length = x.out.length ∧
      openS 60 0 s = (x.out ++ (openS (60 - x.out.length) x.out.length (s.drop x.at_)).1, x.at_ + (openS (60 - x.out.length) x.out.length (s.drop x.at_)).2) ∧
      openE 60 0 0 s = x.es ++ openE (60 - x.out.length) x.out.length x.at_ (s.drop x.at_) ∧ Pre H H')
    [0] CallWp.monoC (by kernel_rfl) ⟨[], [], 0⟩ ⟨⟨by simp -implicitDefEqProofs only [go_sem, Nat.reduceBEq, Nat.reduceLT, Nat.reduceAdd, Nat.reduceSub, Nat.reduceLeDiff, Int.reduceToNat, eq_self, ↓reduceIte, Bool.false_eq_true, decide_true, decide_false, List.take_length]; rfl, ⟨.exact, .inl rfl, by simp -implicitDefEqProofs only [go_sem, Nat.reduceBEq, Nat.reduceLT, Nat.reduceAdd, Nat.reduceSub, Nat.reduceLeDiff, Int.reduceToNat, eq_self, ↓reduceIte, Bool.false_eq_true, decide_true, decide_false, List.take_length]⟩, .exact, .inl rfl, by simp -implicitDefEqProofs only [go_sem, Nat.reduceBEq, Nat.reduceLT, Nat.reduceAdd, Nat.reduceSub, Nat.reduceLeDiff, Int.reduceToNat, eq_self, ↓reduceIte, Bool.false_eq_true, decide_true, decide_false, List.take_length]; rfl⟩, by simp, by simp, rfl, by simp, by simp, Pre.refl H⟩ ?_
  rintro ⟨out, es, at_⟩ g H' ⟨⟨h6, ⟨o, ho, h4⟩, o2, ho2, h5⟩, hat, hout, hes, hop, hoe, hpre⟩
  simp only at h6 h5 h4 hat hout hes hop hoe
  simp -implicitDefEqProofs only [go_sem, Nat.reduceBEq, Nat.reduceLT, Nat.reduceAdd, Nat.reduceSub, Nat.reduceLeDiff, Int.reduceToNat, eq_self, ↓reduceIte, Bool.false_eq_true, decide_true, decide_false, List.take_length] at h6 h5 h4
  simp -implicitDefEqProofs only [go_sem, Nat.reduceBEq, Nat.reduceLT, Nat.reduceAdd, Nat.reduceSub, Nat.reduceLeDiff, Int.reduceToNat, eq_self, ↓reduceIte, Bool.false_eq_true, decide_true, decide_false, List.take_length, h6, h5, h4]
  have hfin : openS (60 - out.length) out.length (s.drop at_) = ([], 0) → openE (60 - out.length) out.length at_ (s.drop at_) = [] → K (.tup [.lst .no (recsD out), .lst .no (intsD (0 :: es))]) H := fun hz hz2 => by
    rw [hop, hz, hoe, hz2] at h
    simpa using h
  by_cases h60 : (out.length : Int) < 60
  case neg =>
    have hz : openS (60 - out.length) out.length (s.drop at_) = ([], 0) := by rw [show 60 - out.length = 0 by omega]; rfl
    have hz2 : openE (60 - out.length) out.length at_ (s.drop at_) = [] := by rw [show 60 - out.length = 0 by omega]; rfl
    simp -implicitDefEqProofs only [go_sem, Nat.reduceBEq, Nat.reduceLT, Nat.reduceAdd, Nat.reduceSub, Nat.reduceLeDiff, Int.reduceToNat, eq_self, ↓reduceIte, Bool.false_eq_true, decide_true, decide_false, List.take_length, h60, h6, h5, h4]
    exact end2 (by simp -implicitDefEqProofs only [go_sem, Nat.reduceBEq, Nat.reduceLT, Nat.reduceAdd, Nat.reduceSub, Nat.reduceLeDiff, Int.reduceToNat, eq_self, ↓reduceIte, Bool.false_eq_true, decide_true, decide_false, List.take_length]; rfl) (by simp -implicitDefEqProofs only [go_sem, Nat.reduceBEq, Nat.reduceLT, Nat.reduceAdd, Nat.reduceSub, Nat.reduceLeDiff, Int.reduceToNat, eq_self, ↓reduceIte, Bool.false_eq_true, decide_true, decide_false, List.take_length]; rfl) rfl (by rw [hpre.2]; simp -implicitDefEqProofs only [go_sem, Nat.reduceBEq, Nat.reduceLT, Nat.reduceAdd, Nat.reduceSub, Nat.reduceLeDiff, Int.reduceToNat, eq_self, ↓reduceIte, Bool.false_eq_true, decide_true, decide_false, List.take_length]; exact hfin hz hz2)
  simp -implicitDefEqProofs only [go_sem, Nat.reduceBEq, Nat.reduceLT, Nat.reduceAdd, Nat.reduceSub, Nat.reduceLeDiff, Int.reduceToNat, eq_self, ↓reduceIte, Bool.false_eq_true, decide_true, decide_false, List.take_length, h60, h6, h5, h4]
  refine need_mk (by omega) fun _ => ?_
  simp -implicitDefEqProofs only [go_sem, Nat.reduceBEq, Nat.reduceLT, Nat.reduceAdd, Nat.reduceSub, Nat.reduceLeDiff, Int.reduceToNat, eq_self, ↓reduceIte, Bool.false_eq_true, decide_true, decide_false, List.take_length, h60, h6, h5, h4]
  have e1 : List.take (s.length - at_) (List.drop at_ s) = s.drop at_ := by rw [← List.length_drop, List.take_length]
  rw [e1]
  have hrl : (s.drop at_).length + at_ = s.length := by rw [List.length_drop]; omega
  have hdd : ∀ n, (s.drop at_).drop n = s.drop (at_ + n) := fun n => by rw [List.drop_drop]
  generalize s.drop at_ = r at *
  refine c83 hW r [10] (by omega) ?_
  have hfl := fstB_le 10 r
  have hfc := fstB_lt 10 r
  have hstep : openS (60 - out.length) out.length r = if r.contains 10 = true ∧ (decodeS (fstB 10 r) out.length).2 = true then
      ((decodeS (fstB 10 r) out.length).1 :: (openS (60 - (out.length + 1)) (out.length + 1) (r.drop ((fstB 10 r).length + 1))).1, (fstB 10 r).length + 1 + (openS (60 - (out.length + 1)) (out.length + 1) (r.drop ((fstB 10 r).length + 1))).2)
    else ([], 0) := by
    rw [show 60 - out.length = (60 - (out.length + 1)) + 1 by omega, openS]
  have hstepE : openE (60 - out.length) out.length at_ r = if r.contains 10 = true ∧ (decodeS (fstB 10 r) out.length).2 = true then
      (at_ + ((fstB 10 r).length + 1)) :: openE (60 - (out.length + 1)) (out.length + 1) (at_ + ((fstB 10 r).length + 1)) (r.drop ((fstB 10 r).length + 1))
    else [] := by
    rw [show 60 - out.length = (60 - (out.length + 1)) + 1 by omega, openE]
  rw [cut1]
  cases hcon : r.contains 10 with
  | false =>
    rw [hcon, if_neg (by simp)] at hstep hstepE
    simp -implicitDefEqProofs only [go_sem, Nat.reduceBEq, Nat.reduceLT, Nat.reduceAdd, Nat.reduceSub, Nat.reduceLeDiff, Int.reduceToNat, eq_self, ↓reduceIte, Bool.false_eq_true, decide_true, decide_false, List.take_length, h60, h6, h5, h4]
    exact end2 (by simp -implicitDefEqProofs only [go_sem, Nat.reduceBEq, Nat.reduceLT, Nat.reduceAdd, Nat.reduceSub, Nat.reduceLeDiff, Int.reduceToNat, eq_self, ↓reduceIte, Bool.false_eq_true, decide_true, decide_false, List.take_length]; rfl) (by simp -implicitDefEqProofs only [go_sem, Nat.reduceBEq, Nat.reduceLT, Nat.reduceAdd, Nat.reduceSub, Nat.reduceLeDiff, Int.reduceToNat, eq_self, ↓reduceIte, Bool.false_eq_true, decide_true, decide_false, List.take_length]; rfl) rfl (by rw [hpre.2]; simp -implicitDefEqProofs only [go_sem, Nat.reduceBEq, Nat.reduceLT, Nat.reduceAdd, Nat.reduceSub, Nat.reduceLeDiff, Int.reduceToNat, eq_self, ↓reduceIte, Bool.false_eq_true, decide_true, decide_false, List.take_length]; exact hfin hstep hstepE)
  | true =>
  have hlc := hfc hcon
  obtain ⟨hag1, hag2⟩ := decode_agree (fstB 10 r) out.length
  generalize fstB 10 r = line at *
  rw [hcon] at hstep hstepE
  simp -implicitDefEqProofs only [go_sem, Nat.reduceBEq, Nat.reduceLT, Nat.reduceAdd, Nat.reduceSub, Nat.reduceLeDiff, Int.reduceToNat, eq_self, ↓reduceIte, Bool.false_eq_true, decide_true, decide_false, List.take_length, h60, h6, h5, h4]
  have k1 := cut_le line [35]
  refine c83 hW line [35] (by omega) ?_
  simp -implicitDefEqProofs only [go_sem, Nat.reduceBEq, Nat.reduceLT, Nat.reduceAdd, Nat.reduceSub, Nat.reduceLeDiff, Int.reduceToNat, eq_self, ↓reduceIte, Bool.false_eq_true, decide_true, decide_false, List.take_length, h60, h6, h5, h4]
  have k2 := cut_le (Lib.cut line [35]).1 [32]
  refine c83 hW _ [32] (by omega) ?_
  simp -implicitDefEqProofs only [go_sem, Nat.reduceBEq, Nat.reduceLT, Nat.reduceAdd, Nat.reduceSub, Nat.reduceLeDiff, Int.reduceToNat, eq_self, ↓reduceIte, Bool.false_eq_true, decide_true, decide_false, List.take_length, h60, h6, h5, h4]
  have er : (Lib.cut (Lib.cut line [35]).1 [32]).2.1 = restI line := rfl
  rw [er] at k2 ⊢
  have k3 := cut_le (restI line) [64]
  refine c83 hW _ [64] (by omega) ?_
  have ed : decodeI line = ((Lib.cut (restI line) [64]).1, (Lib.cut (restI line) [64]).2.1) := rfl
  generalize Lib.cut (restI line) [64] = q at *
  obtain ⟨c, rp, bb⟩ := q
  simp only at ed k3 ⊢
  rw [ed] at hag1 hag2
  simp only at hag1 hag2
  simp -implicitDefEqProofs only [go_sem, Nat.reduceBEq, Nat.reduceLT, Nat.reduceAdd, Nat.reduceSub, Nat.reduceLeDiff, Int.reduceToNat, eq_self, ↓reduceIte, Bool.false_eq_true, decide_true, decide_false, List.take_length, h60, h6, h5, h4]
  refine c11 hW out.length c rp (by omega) (by omega) ?_
  have henc : encS out.length c rp = if recOk c rp = true then (lineS out.length c rp ++ [10], true) else ([], false) := by
    unfold encS
    rw [Int.toNat_natCast]
    cases recOk c rp with
    | true => rw [if_pos ⟨⟨by omega, by omega⟩, rfl⟩, if_pos rfl]
    | false => rw [if_neg (by simp), if_neg (by simp)]
  rw [henc]
  cases hrec : recOk c rp with
  | false =>
    have hd : ¬ (true = true ∧ (decodeS line out.length).2 = true) := fun hh => by
      have := (hag1.1 hh.2).1
      rw [hrec] at this; cases this
    rw [if_neg hd] at hstep hstepE
    simp -implicitDefEqProofs only [go_sem, Nat.reduceBEq, Nat.reduceLT, Nat.reduceAdd, Nat.reduceSub, Nat.reduceLeDiff, Int.reduceToNat, eq_self, ↓reduceIte, Bool.false_eq_true, decide_true, decide_false, List.take_length, h60, h6, h5, h4]
    exact end2 (by simp -implicitDefEqProofs only [go_sem, Nat.reduceBEq, Nat.reduceLT, Nat.reduceAdd, Nat.reduceSub, Nat.reduceLeDiff, Int.reduceToNat, eq_self, ↓reduceIte, Bool.false_eq_true, decide_true, decide_false, List.take_length]; rfl) (by simp -implicitDefEqProofs only [go_sem, Nat.reduceBEq, Nat.reduceLT, Nat.reduceAdd, Nat.reduceSub, Nat.reduceLeDiff, Int.reduceToNat, eq_self, ↓reduceIte, Bool.false_eq_true, decide_true, decide_false, List.take_length]; rfl) rfl (by rw [hpre.take]; simp -implicitDefEqProofs only [go_sem, Nat.reduceBEq, Nat.reduceLT, Nat.reduceAdd, Nat.reduceSub, Nat.reduceLeDiff, Int.reduceToNat, eq_self, ↓reduceIte, Bool.false_eq_true, decide_true, decide_false, List.take_length]; exact hfin hstep hstepE)
  | true =>
  simp -implicitDefEqProofs only [go_sem, Nat.reduceBEq, Nat.reduceLT, Nat.reduceAdd, Nat.reduceSub, Nat.reduceLeDiff, Int.reduceToNat, eq_self, ↓reduceIte, Bool.false_eq_true, decide_true, decide_false, List.take_length, h60, h6, h5, h4]
  refine need_mk (by first | omega | (simp only [List.length_append, List.length_cons, List.length_nil] at *; omega)) fun _ => ?_
  simp -implicitDefEqProofs only [go_sem, Nat.reduceBEq, Nat.reduceLT, Nat.reduceAdd, Nat.reduceSub, Nat.reduceLeDiff, Int.reduceToNat, eq_self, ↓reduceIte, Bool.false_eq_true, decide_true, decide_false, List.take_length, h60, h6, h5, h4]
  by_cases hln : lineS out.length c rp = line
  case neg =>
    have hln2 : ¬ (lineS out.length c rp ++ [10] = line ++ [10]) := fun e => hln (List.append_cancel_right e)
    have hd : ¬ (true = true ∧ (decodeS line out.length).2 = true) := fun hh => hln (hag1.1 hh.2).2
    rw [if_neg hd] at hstep hstepE
    simp -implicitDefEqProofs only [go_sem, Nat.reduceBEq, Nat.reduceLT, Nat.reduceAdd, Nat.reduceSub, Nat.reduceLeDiff, Int.reduceToNat, eq_self, ↓reduceIte, Bool.false_eq_true, decide_true, decide_false, List.take_length, h60, h6, h5, h4, hln2]
    exact end2 (by simp -implicitDefEqProofs only [go_sem, Nat.reduceBEq, Nat.reduceLT, Nat.reduceAdd, Nat.reduceSub, Nat.reduceLeDiff, Int.reduceToNat, eq_self, ↓reduceIte, Bool.false_eq_true, decide_true, decide_false, List.take_length]; rfl) (by simp -implicitDefEqProofs only [go_sem, Nat.reduceBEq, Nat.reduceLT, Nat.reduceAdd, Nat.reduceSub, Nat.reduceLeDiff, Int.reduceToNat, eq_self, ↓reduceIte, Bool.false_eq_true, decide_true, decide_false, List.take_length]; rfl) rfl (by rw [hpre.take]; simp -implicitDefEqProofs only [go_sem, Nat.reduceBEq, Nat.reduceLT, Nat.reduceAdd, Nat.reduceSub, Nat.reduceLeDiff, Int.reduceToNat, eq_self, ↓reduceIte, Bool.false_eq_true, decide_true, decide_false, List.take_length]; exact hfin hstep hstepE)
  have hdt : (decodeS line out.length).2 = true := hag1.2 ⟨hrec, hln⟩
  rw [if_pos ⟨rfl, hdt⟩] at hstep hstepE
  rw [hag2 hdt] at hstep
  simp -implicitDefEqProofs only [go_sem, Nat.reduceBEq, Nat.reduceLT, Nat.reduceAdd, Nat.reduceSub, Nat.reduceLeDiff, Int.reduceToNat, eq_self, ↓reduceIte, Bool.false_eq_true, decide_true, decide_false, List.take_length, h60, h6, h5, h4, hln]
  rw [w64 (n := (line.length : Int) + 1) (by omega), w64 (by omega)]
  refine need_mk (by first | omega | decide | rfl | trivial | (refine ⟨?_, ?_⟩ <;> first | omega | rfl | decide) | (refine ⟨?_, ?_, ?_⟩ <;> first | omega | rfl | decide)) fun _ => ?_
  simp -implicitDefEqProofs only [go_sem, Nat.reduceBEq, Nat.reduceLT, Nat.reduceAdd, Nat.reduceSub, Nat.reduceLeDiff, Int.reduceToNat, eq_self, ↓reduceIte, Bool.false_eq_true, decide_true, decide_false, List.take_length, h60, h6, h5, h4]
  refine need_mk ⟨ho, ?_, ?_, ?_⟩ fun _ => ?_
  · intro x hx
    rw [List.mem_append] at hx
    rcases hx with hx | hx
    · exact all_cells_rec _ x hx
    · simp at hx; subst hx; rfl
  · intro x hx d hd
    simp at hx; subst hx; simp [D.cells] at hd
    rcases hd with rfl | rfl <;> exact ⟨rfl, rfl⟩
  · omega
  simp -implicitDefEqProofs only [go_sem, Nat.reduceBEq, Nat.reduceLT, Nat.reduceAdd, Nat.reduceSub, Nat.reduceLeDiff, Int.reduceToNat, eq_self, ↓reduceIte, Bool.false_eq_true, decide_true, decide_false, List.take_length, h60, h6, h5, h4]
  refine need_mk (by first | omega | decide | rfl | trivial | (refine ⟨?_, ?_⟩ <;> first | omega | rfl | decide) | (refine ⟨?_, ?_, ?_⟩ <;> first | omega | rfl | decide)) fun _ => ?_
  simp -implicitDefEqProofs only [go_sem, Nat.reduceBEq, Nat.reduceLT, Nat.reduceAdd, Nat.reduceSub, Nat.reduceLeDiff, Int.reduceToNat, eq_self, ↓reduceIte, Bool.false_eq_true, decide_true, decide_false, List.take_length, h60, h6, h5, h4]
  refine need_mk ⟨ho2, ?_, ?_, by omega⟩ fun _ => ?_
  · intro x hx
    rw [List.mem_cons, List.mem_append] at hx
    rcases hx with rfl | hx | hx
    · rfl
    · exact all_cells_int _ x hx
    · simp at hx; subst hx; rfl
  · intro x hx d hd
    simp at hx; subst hx; simp [D.cells] at hd
    subst hd; exact ⟨rfl, rfl⟩
  simp -implicitDefEqProofs only [go_sem, Nat.reduceBEq, Nat.reduceLT, Nat.reduceAdd, Nat.reduceSub, Nat.reduceLeDiff, Int.reduceToNat, eq_self, ↓reduceIte, Bool.false_eq_true, decide_true, decide_false, List.take_length, h60, h6, h5, h4]
  refine ⟨⟨out ++ [(c, rp)], es ++ [at_ + (line.length + 1)], at_ + (line.length + 1)⟩, by simp only [List.length_append, List.length_cons, List.length_nil]; omega, ⟨by simp -implicitDefEqProofs only [go_sem, Nat.reduceBEq, Nat.reduceLT, Nat.reduceAdd, Nat.reduceSub, Nat.reduceLeDiff, Int.reduceToNat, eq_self, ↓reduceIte, Bool.false_eq_true, decide_true, decide_false, List.take_length]; refine congrArg (D.int .i64) ?_; omega, ⟨.tip 25, .inr rfl, by simp -implicitDefEqProofs only [go_sem, Nat.reduceBEq, Nat.reduceLT, Nat.reduceAdd, Nat.reduceSub, Nat.reduceLeDiff, Int.reduceToNat, eq_self, ↓reduceIte, Bool.false_eq_true, decide_true, decide_false, List.take_length]; simp⟩, .tip 3, .inr rfl, by simp -implicitDefEqProofs only [go_sem, Nat.reduceBEq, Nat.reduceLT, Nat.reduceAdd, Nat.reduceSub, Nat.reduceLeDiff, Int.reduceToNat, eq_self, ↓reduceIte, Bool.false_eq_true, decide_true, decide_false, List.take_length]; simp⟩, by simp only; omega, by simp only [List.length_append, List.length_cons, List.length_nil]; omega, by simp only [List.length_append, List.length_cons, List.length_nil]; omega, ?_, ?_, hpre.app _⟩
  · simp only [List.length_append, List.length_cons, List.length_nil]
    rw [hop, hstep, ← hdd]
    simp
    omega
  · simp only [List.length_append, List.length_cons, List.length_nil]
    rw [hoe, hstepE, ← hdd]
    simp

theorem c87 (l : List Nat) (n : Nat) (hl : l.length < 1000000000) (h : K (int (if l.contains n = true then ((l.takeWhile (fun x => !(x == n))).length : Int) else -1)) H) : CallWp Tryd.prog W0 87 [.lst .no (intsD l), int n] H K := by
  refine CallWp.fun hm F87 (Nat.le_of_ble_eq_true rfl) (Nat.le_of_ble_eq_true rfl) ?_
  unfold s87 h87
  simp -implicitDefEqProofs only [go_sem, Nat.reduceBEq, Nat.reduceLT, Nat.reduceAdd, Nat.reduceSub, Nat.reduceLeDiff, Int.reduceToNat, eq_self, ↓reduceIte, Bool.false_eq_true, decide_true, decide_false, List.take_length]
  refine s_loop (fun i => l.length - i) (fun i fr' H' => fr' 8 = int i ∧ i ≤ l.length ∧ (∀ j, j < i → ¬ l.getD j 0 = n) ∧ H' = H) [0, 1, 7] CallWp.monoC (by kernel_rfl) 0 ⟨by simp -implicitDefEqProofs only [go_sem, Nat.reduceBEq, Nat.reduceLT, Nat.reduceAdd, Nat.reduceSub, Nat.reduceLeDiff, Int.reduceToNat, eq_self, ↓reduceIte, Bool.false_eq_true, decide_true, decide_false, List.take_length]; rfl, by omega, fun j hj => by omega, rfl⟩ ?_
  rintro i g H' ⟨h8, hi, hc, rfl⟩
  simp -implicitDefEqProofs only [go_sem, Nat.reduceBEq, Nat.reduceLT, Nat.reduceAdd, Nat.reduceSub, Nat.reduceLeDiff, Int.reduceToNat, eq_self, ↓reduceIte, Bool.false_eq_true, decide_true, decide_false, List.take_length] at h8
  simp -implicitDefEqProofs only [go_sem, Nat.reduceBEq, Nat.reduceLT, Nat.reduceAdd, Nat.reduceSub, Nat.reduceLeDiff, Int.reduceToNat, eq_self, ↓reduceIte, Bool.false_eq_true, decide_true, decide_false, List.take_length, h8]
  refine dsplit (fun hlt => ?_) (fun hge => ?_)
  · have hlt' : i < l.length := by omega
    simp -implicitDefEqProofs only [go_sem, Nat.reduceBEq, Nat.reduceLT, Nat.reduceAdd, Nat.reduceSub, Nat.reduceLeDiff, Int.reduceToNat, eq_self, ↓reduceIte, Bool.false_eq_true, decide_true, decide_false, List.take_length, h8]
    have hget : (intsD l).getD i D.any = int (l.getD i 0 : Nat) := by rw [getD_map _ _ _ _ hlt', getD_lt' _ _ _ hlt']
    rw [hget]
    refine need_mk (by first | omega | decide | rfl | trivial | (refine ⟨?_, ?_⟩ <;> first | omega | rfl | decide) | (refine ⟨?_, ?_, ?_⟩ <;> first | omega | rfl | decide)) fun _ => ?_
    simp -implicitDefEqProofs only [go_sem, Nat.reduceBEq, Nat.reduceLT, Nat.reduceAdd, Nat.reduceSub, Nat.reduceLeDiff, Int.reduceToNat, eq_self, ↓reduceIte, Bool.false_eq_true, decide_true, decide_false, List.take_length, h8]
    refine dsplit (fun he => ?_) (fun hne => ?_)
    · simp -implicitDefEqProofs only [go_sem, Nat.reduceBEq, Nat.reduceLT, Nat.reduceAdd, Nat.reduceSub, Nat.reduceLeDiff, Int.reduceToNat, eq_self, ↓reduceIte, Bool.false_eq_true, decide_true, decide_false, List.take_length, h8]
      have he' : l.getD i 0 = n := by omega
      have hm' : l.contains n = true := by
        rw [List.contains_iff_mem, ← he', getD_lt' _ _ _ hlt']; exact List.getElem_mem _
      have htw : (l.takeWhile (fun x => !(x == n))).length = i := by
        have hp : ∀ (l : List Nat) (i : Nat), i < l.length → l.getD i 0 = n → (∀ j, j < i → ¬ l.getD j 0 = n) → (l.takeWhile (fun x => !(x == n))).length = i := by
          intro l
          induction l with
          | nil => intro i h; simp at h
          | cons x xs ih =>
            intro i h1 h2 h3
            cases i with
            | zero => simp at h2; simp [h2]
            | succ i =>
              have := h3 0 (by omega)
              simp at this
              simp only [List.takeWhile_cons]
              rw [if_pos (by simpa using this), List.length_cons, ih i (by simpa using h1) (by simpa using h2) (fun j hj => by have := h3 (j + 1) (by omega); simpa using this)]
        exact hp l i hlt' he' hc
      rw [if_pos hm', htw] at h
      exact end1 (by simp -implicitDefEqProofs only [go_sem, Nat.reduceBEq, Nat.reduceLT, Nat.reduceAdd, Nat.reduceSub, Nat.reduceLeDiff, Int.reduceToNat, eq_self, ↓reduceIte, Bool.false_eq_true, decide_true, decide_false, List.take_length]; rfl) rfl (by simp -implicitDefEqProofs only [go_sem, Nat.reduceBEq, Nat.reduceLT, Nat.reduceAdd, Nat.reduceSub, Nat.reduceLeDiff, Int.reduceToNat, eq_self, ↓reduceIte, Bool.false_eq_true, decide_true, decide_false, List.take_length]; exact h)
    · simp -implicitDefEqProofs only [go_sem, Nat.reduceBEq, Nat.reduceLT, Nat.reduceAdd, Nat.reduceSub, Nat.reduceLeDiff, Int.reduceToNat, eq_self, ↓reduceIte, Bool.false_eq_true, decide_true, decide_false, List.take_length, h8]
      rw [w64 (by omega)]
      refine ⟨i + 1, by dsimp only; omega, by simp -implicitDefEqProofs only [go_sem, Nat.reduceBEq, Nat.reduceLT, Nat.reduceAdd, Nat.reduceSub, Nat.reduceLeDiff, Int.reduceToNat, eq_self, ↓reduceIte, Bool.false_eq_true, decide_true, decide_false, List.take_length]; rfl, by omega, fun j hj => ?_, rfl⟩
      by_cases e : j = i
      · subst e; omega
      · exact hc j (by omega)
  · simp -implicitDefEqProofs only [go_sem, Nat.reduceBEq, Nat.reduceLT, Nat.reduceAdd, Nat.reduceSub, Nat.reduceLeDiff, Int.reduceToNat, eq_self, ↓reduceIte, Bool.false_eq_true, decide_true, decide_false, List.take_length, h8]
    have hm' : ¬ l.contains n = true := by
      intro hh
      rw [List.contains_iff_mem] at hh
      obtain ⟨j, hj, e⟩ := List.getElem_of_mem hh
      exact hc j (by omega) (by rw [getD_lt' _ _ _ hj]; exact e)
    rw [if_neg hm'] at h
    exact end1 (by simp -implicitDefEqProofs only [go_sem, Nat.reduceBEq, Nat.reduceLT, Nat.reduceAdd, Nat.reduceSub, Nat.reduceLeDiff, Int.reduceToNat, eq_self, ↓reduceIte, Bool.false_eq_true, decide_true, decide_false, List.take_length]; rfl) rfl (by simp -implicitDefEqProofs only [go_sem, Nat.reduceBEq, Nat.reduceLT, Nat.reduceAdd, Nat.reduceSub, Nat.reduceLeDiff, Int.reduceToNat, eq_self, ↓reduceIte, Bool.false_eq_true, decide_true, decide_false, List.take_length]; exact h)

theorem c62 (l : List Nat) (n : Nat) (hl : l.length < 1000000000) (h : K (.bool (l.contains n)) H) : CallWp Tryd.prog W0 62 [.lst .no (intsD l), int n] H K := by
  refine CallWp.fun hm F62 (Nat.le_of_ble_eq_true rfl) (Nat.le_of_ble_eq_true rfl) ?_
  unfold s62 h62
  simp -implicitDefEqProofs only [go_sem, Nat.reduceBEq, Nat.reduceLT, Nat.reduceAdd, Nat.reduceSub, Nat.reduceLeDiff, Int.reduceToNat, eq_self, ↓reduceIte, Bool.false_eq_true, decide_true, decide_false, List.take_length]
  refine c87 l n hl ?_
  cases hc : l.contains n with
  | true =>
    rw [hc] at h
    rw [if_pos rfl]
    simp -implicitDefEqProofs only [go_sem, Nat.reduceBEq, Nat.reduceLT, Nat.reduceAdd, Nat.reduceSub, Nat.reduceLeDiff, Int.reduceToNat, eq_self, ↓reduceIte, Bool.false_eq_true, decide_true, decide_false, List.take_length]
    rw [decide_eq_true (by omega)]
    exact end1 (by simp -implicitDefEqProofs only [go_sem, Nat.reduceBEq, Nat.reduceLT, Nat.reduceAdd, Nat.reduceSub, Nat.reduceLeDiff, Int.reduceToNat, eq_self, ↓reduceIte, Bool.false_eq_true, decide_true, decide_false, List.take_length]; rfl) rfl (by simp -implicitDefEqProofs only [go_sem, Nat.reduceBEq, Nat.reduceLT, Nat.reduceAdd, Nat.reduceSub, Nat.reduceLeDiff, Int.reduceToNat, eq_self, ↓reduceIte, Bool.false_eq_true, decide_true, decide_false, List.take_length]; exact h)
  | false =>
    rw [hc] at h
    rw [if_neg (by simp)]
    simp -implicitDefEqProofs only [go_sem, Nat.reduceBEq, Nat.reduceLT, Nat.reduceAdd, Nat.reduceSub, Nat.reduceLeDiff, Int.reduceToNat, eq_self, ↓reduceIte, Bool.false_eq_true, decide_true, decide_false, List.take_length]
    exact end1 (by simp -implicitDefEqProofs only [go_sem, Nat.reduceBEq, Nat.reduceLT, Nat.reduceAdd, Nat.reduceSub, Nat.reduceLeDiff, Int.reduceToNat, eq_self, ↓reduceIte, Bool.false_eq_true, decide_true, decide_false, List.take_length]; rfl) rfl (by simp -implicitDefEqProofs only [go_sem, Nat.reduceBEq, Nat.reduceLT, Nat.reduceAdd, Nat.reduceSub, Nat.reduceLeDiff, Int.reduceToNat, eq_self, ↓reduceIte, Bool.false_eq_true, decide_true, decide_false, List.take_length]; exact h)
end Go.Proofs.YtgnebanjejmckaaDoor
