/- Contracts of the reference's reading of a log. -/
import Derived.Test.YtgnebanjejmckaaDoorA3
set_option maxRecDepth 100000
set_option linter.unusedSimpArgs false
set_option linter.unusedVariables false
namespace Go.Proofs.YtgnebanjejmckaaDoor
open Go Dl
variable {W0 : World} {H : Heap} {K : D → Heap → Prop}

theorem split_len (b : UInt8) : ∀ s, (splitB b s).length = s.count b + 1
  | [] => rfl
  | c :: cs => by
    have ih := split_len b cs
    obtain ⟨x, xs, h⟩ := splitB_ne b cs
    by_cases hc : c = b
    · subst hc; rw [splitB, if_pos rfl, List.length_cons, ih, List.count_cons_self]
    · rw [splitB, if_neg hc, h, glue, List.length_cons, List.count_cons_of_ne hc, ← ih, h, List.length_cons]
theorem split_two (b : UInt8) (s : List UInt8) : (splitB b s).length < 2 ↔ s.contains b = false := by
  rw [split_len, Bool.eq_false_iff, ne_eq, List.contains_iff_mem, ← List.count_pos_iff]
  omega
/-- Behind the first part there is the sign. -/
theorem fstB_lt (b : UInt8) (s : List UInt8) (h : s.contains b = true) : (fstB b s).length + 1 ≤ s.length := by
  rw [fstB_eq]
  have hm : b ∈ s := by simpa using h
  have := List.takeWhile_append_dropWhile (p := fun c => !(c == b)) (l := s)
  have h2 := congrArg List.length this
  rw [List.length_append] at h2
  have hne : s.dropWhile (fun c => !(c == b)) ≠ [] := by
    intro h0
    rw [h0, List.append_nil] at this
    rw [← this] at hm
    have := List.all_eq_true.1 (List.all_takeWhile (p := fun c => !(c == b)) (l := s)) b hm
    simp at this
  have : 0 < (s.dropWhile (fun c => !(c == b))).length := List.length_pos_iff.2 hne
  omega

abbrev Rec := List UInt8 × List UInt8
abbrev recsD (l : List Rec) : List D := l.map fun e => recD e.1 e.2

def openS : Nat → Nat → List UInt8 → List Rec × Nat
  | 0, _, _ => ([], 0)
  | f + 1, k, s => if s.contains 10 = true ∧ (decodeS (fstB 10 s) k).2 = true then
      ((decodeS (fstB 10 s) k).1 :: (openS f (k + 1) (s.drop ((fstB 10 s).length + 1))).1, (fstB 10 s).length + 1 + (openS f (k + 1) (s.drop ((fstB 10 s).length + 1))).2)
    else ([], 0)
theorem openS_nil (f k : Nat) : openS f k [] = ([], 0) := by
  cases f with
  | zero => rfl
  | succ f => rw [openS, if_neg (by simp)]
theorem openS_le : ∀ (f k : Nat) (s : List UInt8), (openS f k s).2 ≤ s.length ∧ (openS f k s).1.length ≤ f
  | 0, _, _ => ⟨Nat.zero_le _, Nat.le_refl _⟩
  | f + 1, k, s => by
    rw [openS]
    split
    · rename_i hc
      have := openS_le f (k + 1) (s.drop ((fstB 10 s).length + 1))
      have h2 := fstB_lt 10 s hc.1
      rw [List.length_drop] at this
      simp only [List.length_cons]
      omega
    · exact ⟨Nat.zero_le _, Nat.zero_le _⟩

structure OpenSt where
  out : List Rec
  at_ : Nat

theorem all_cells_rec (l : List Rec) : ∀ x ∈ recsD l, x.cells.length = 2 := by
  intro x hx
  obtain ⟨y, _, rfl⟩ := List.mem_map.1 hx
  rfl

theorem c63 (s : List UInt8) (hs : s.length < 10000000) (h : K (.tup [.lst .no (recsD (openS 60 0 s).1), int (openS 60 0 s).2]) H) : CallWp Tryd.prog W0 63 [.str s] H K := by
  refine CallWp.fun hm F63 (Nat.le_of_ble_eq_true rfl) (Nat.le_of_ble_eq_true rfl) ?_
  unfold s63 h63
  simp -implicitDefEqProofs only [go_sem, Nat.reduceBEq, Nat.reduceLT, Nat.reduceAdd, Nat.reduceSub, Nat.reduceLeDiff, Int.reduceToNat, eq_self, ↓reduceIte, Bool.false_eq_true, decide_true, decide_false, List.take_length]
  refine need_mk ⟨rfl, by decide⟩ fun _ => ?_
  simp -implicitDefEqProofs only [go_sem, Nat.reduceBEq, Nat.reduceLT, Nat.reduceAdd, Nat.reduceSub, Nat.reduceLeDiff, Int.reduceToNat, eq_self, ↓reduceIte, Bool.false_eq_true, decide_true, decide_false, List.take_length]
  refine s_loop (fun (x : OpenSt) => 60 - x.out.length) (fun x fr' H' => (fr' 5 = int x.at_ ∧ ∃ o, (o = .exact ∨ o = .tip 25) ∧ fr' 4 = .lst o (recsD x.out)) ∧ x.at_ ≤ s.length ∧ x.out.length ≤ 60 ∧
      openS 60 0 s = (x.out ++ (openS (60 - x.out.length) x.out.length (s.drop x.at_)).1, x.at_ + (openS (60 - x.out.length) x.out.length (s.drop x.at_)).2) ∧ Pre H H')
    [0] CallWp.monoC (by kernel_rfl) ⟨[], 0⟩ ⟨⟨by simp -implicitDefEqProofs only [go_sem, Nat.reduceBEq, Nat.reduceLT, Nat.reduceAdd, Nat.reduceSub, Nat.reduceLeDiff, Int.reduceToNat, eq_self, ↓reduceIte, Bool.false_eq_true, decide_true, decide_false, List.take_length]; rfl, .exact, .inl rfl, by simp -implicitDefEqProofs only [go_sem, Nat.reduceBEq, Nat.reduceLT, Nat.reduceAdd, Nat.reduceSub, Nat.reduceLeDiff, Int.reduceToNat, eq_self, ↓reduceIte, Bool.false_eq_true, decide_true, decide_false, List.take_length]⟩, by simp, by simp, by simp, Pre.refl H⟩ ?_
  rintro ⟨out, at_⟩ g H' ⟨⟨h5, o, ho, h4⟩, hat, hout, hop, hpre⟩
  simp only at h5 h4 hat hout hop
  simp -implicitDefEqProofs only [go_sem, Nat.reduceBEq, Nat.reduceLT, Nat.reduceAdd, Nat.reduceSub, Nat.reduceLeDiff, Int.reduceToNat, eq_self, ↓reduceIte, Bool.false_eq_true, decide_true, decide_false, List.take_length] at h5 h4
  simp -implicitDefEqProofs only [go_sem, Nat.reduceBEq, Nat.reduceLT, Nat.reduceAdd, Nat.reduceSub, Nat.reduceLeDiff, Int.reduceToNat, eq_self, ↓reduceIte, Bool.false_eq_true, decide_true, decide_false, List.take_length, h5, h4]
  have hfin : openS (60 - out.length) out.length (s.drop at_) = ([], 0) → K (.tup [.lst .no (recsD out), int at_]) H := fun hz => by
    rw [hop, hz] at h
    simpa using h
  by_cases hlt : (at_ : Int) < s.length
  case neg =>
    have hz : openS (60 - out.length) out.length (s.drop at_) = ([], 0) := by rw [List.drop_eq_nil_of_le (by omega)]; exact openS_nil _ _
    simp -implicitDefEqProofs only [go_sem, Nat.reduceBEq, Nat.reduceLT, Nat.reduceAdd, Nat.reduceSub, Nat.reduceLeDiff, Int.reduceToNat, eq_self, ↓reduceIte, Bool.false_eq_true, decide_true, decide_false, List.take_length, hlt, h5, h4]
    exact end2 (by simp -implicitDefEqProofs only [go_sem, Nat.reduceBEq, Nat.reduceLT, Nat.reduceAdd, Nat.reduceSub, Nat.reduceLeDiff, Int.reduceToNat, eq_self, ↓reduceIte, Bool.false_eq_true, decide_true, decide_false, List.take_length]; rfl) (by simp -implicitDefEqProofs only [go_sem, Nat.reduceBEq, Nat.reduceLT, Nat.reduceAdd, Nat.reduceSub, Nat.reduceLeDiff, Int.reduceToNat, eq_self, ↓reduceIte, Bool.false_eq_true, decide_true, decide_false, List.take_length]; rfl) rfl (by rw [hpre.2]; simp -implicitDefEqProofs only [go_sem, Nat.reduceBEq, Nat.reduceLT, Nat.reduceAdd, Nat.reduceSub, Nat.reduceLeDiff, Int.reduceToNat, eq_self, ↓reduceIte, Bool.false_eq_true, decide_true, decide_false, List.take_length]; exact hfin hz)
  simp -implicitDefEqProofs only [go_sem, Nat.reduceBEq, Nat.reduceLT, Nat.reduceAdd, Nat.reduceSub, Nat.reduceLeDiff, Int.reduceToNat, eq_self, ↓reduceIte, Bool.false_eq_true, decide_true, decide_false, List.take_length, hlt, h5, h4]
  by_cases h60 : (out.length : Int) < 60
  case neg =>
    have hz : openS (60 - out.length) out.length (s.drop at_) = ([], 0) := by rw [show 60 - out.length = 0 by omega]; rfl
    simp -implicitDefEqProofs only [go_sem, Nat.reduceBEq, Nat.reduceLT, Nat.reduceAdd, Nat.reduceSub, Nat.reduceLeDiff, Int.reduceToNat, eq_self, ↓reduceIte, Bool.false_eq_true, decide_true, decide_false, List.take_length, hlt, h60, h5, h4]
    exact end2 (by simp -implicitDefEqProofs only [go_sem, Nat.reduceBEq, Nat.reduceLT, Nat.reduceAdd, Nat.reduceSub, Nat.reduceLeDiff, Int.reduceToNat, eq_self, ↓reduceIte, Bool.false_eq_true, decide_true, decide_false, List.take_length]; rfl) (by simp -implicitDefEqProofs only [go_sem, Nat.reduceBEq, Nat.reduceLT, Nat.reduceAdd, Nat.reduceSub, Nat.reduceLeDiff, Int.reduceToNat, eq_self, ↓reduceIte, Bool.false_eq_true, decide_true, decide_false, List.take_length]; rfl) rfl (by rw [hpre.2]; simp -implicitDefEqProofs only [go_sem, Nat.reduceBEq, Nat.reduceLT, Nat.reduceAdd, Nat.reduceSub, Nat.reduceLeDiff, Int.reduceToNat, eq_self, ↓reduceIte, Bool.false_eq_true, decide_true, decide_false, List.take_length]; exact hfin hz)
  simp -implicitDefEqProofs only [go_sem, Nat.reduceBEq, Nat.reduceLT, Nat.reduceAdd, Nat.reduceSub, Nat.reduceLeDiff, Int.reduceToNat, eq_self, ↓reduceIte, Bool.false_eq_true, decide_true, decide_false, List.take_length, hlt, h60, h5, h4]
  refine need_mk (by omega) fun _ => ?_
  simp -implicitDefEqProofs only [go_sem, Nat.reduceBEq, Nat.reduceLT, Nat.reduceAdd, Nat.reduceSub, Nat.reduceLeDiff, Int.reduceToNat, eq_self, ↓reduceIte, Bool.false_eq_true, decide_true, decide_false, List.take_length, hlt, h60, h5, h4]
  have e1 : List.take (s.length - at_) (List.drop at_ s) = s.drop at_ := by rw [← List.length_drop, List.take_length]
  rw [e1]
  have hrl : (s.drop at_).length + at_ = s.length := by rw [List.length_drop]; omega
  have hdd : ∀ n, (s.drop at_).drop n = s.drop (at_ + n) := fun n => by rw [List.drop_drop]
  generalize s.drop at_ = r at *
  refine c88 r 10 (by omega) ?_
  obtain ⟨ys, hsp⟩ := split_head 10 r
  have h2 := split_two 10 r
  have hfl := fstB_le 10 r
  have hfc := fstB_lt 10 r
  rw [hsp] at h2 ⊢
  have hstep : openS (60 - out.length) out.length r = if r.contains 10 = true ∧ (decodeS (fstB 10 r) out.length).2 = true then
      ((decodeS (fstB 10 r) out.length).1 :: (openS (60 - (out.length + 1)) (out.length + 1) (r.drop ((fstB 10 r).length + 1))).1, (fstB 10 r).length + 1 + (openS (60 - (out.length + 1)) (out.length + 1) (r.drop ((fstB 10 r).length + 1))).2)
    else ([], 0) := by
    rw [show 60 - out.length = (60 - (out.length + 1)) + 1 by omega, openS]
  generalize fstB 10 r = line at *
  simp -implicitDefEqProofs only [go_sem, Nat.reduceBEq, Nat.reduceLT, Nat.reduceAdd, Nat.reduceSub, Nat.reduceLeDiff, Int.reduceToNat, eq_self, ↓reduceIte, Bool.false_eq_true, decide_true, decide_false, List.take_length, hlt, h60, h5, h4]
  refine need_mk (by first | omega | decide | rfl | trivial | (refine ⟨?_, ?_⟩ <;> first | omega | rfl | decide) | (refine ⟨?_, ?_, ?_⟩ <;> first | omega | rfl | decide)) fun _ => ?_
  simp -implicitDefEqProofs only [go_sem, Nat.reduceBEq, Nat.reduceLT, Nat.reduceAdd, Nat.reduceSub, Nat.reduceLeDiff, Int.reduceToNat, eq_self, ↓reduceIte, Bool.false_eq_true, decide_true, decide_false, List.take_length, hlt, h60, h5, h4]
  refine c89 line out.length (by omega) (by omega) ?_
  generalize decodeS line out.length = d at *
  obtain ⟨⟨cmd, rp⟩, ok⟩ := d
  simp only at hstep ⊢
  simp -implicitDefEqProofs only [go_sem, Nat.reduceBEq, Nat.reduceLT, Nat.reduceAdd, Nat.reduceSub, Nat.reduceLeDiff, Int.reduceToNat, eq_self, ↓reduceIte, Bool.false_eq_true, decide_true, decide_false, List.take_length, hlt, h60, h5, h4]
  by_cases hc : ((ys.length + 1 : Nat) : Int) < 2
  · have hz : openS (60 - out.length) out.length r = ([], 0) := by
      rw [hstep, if_neg]
      rintro ⟨h', _⟩
      rw [h2.1 (by simp only [List.length_cons]; omega)] at h'
      cases h'
    simp -implicitDefEqProofs only [go_sem, Nat.reduceBEq, Nat.reduceLT, Nat.reduceAdd, Nat.reduceSub, Nat.reduceLeDiff, Int.reduceToNat, eq_self, ↓reduceIte, Bool.false_eq_true, decide_true, decide_false, List.take_length, hc, hlt, h60, h5, h4]
    exact end2 (by simp -implicitDefEqProofs only [go_sem, Nat.reduceBEq, Nat.reduceLT, Nat.reduceAdd, Nat.reduceSub, Nat.reduceLeDiff, Int.reduceToNat, eq_self, ↓reduceIte, Bool.false_eq_true, decide_true, decide_false, List.take_length]; rfl) (by simp -implicitDefEqProofs only [go_sem, Nat.reduceBEq, Nat.reduceLT, Nat.reduceAdd, Nat.reduceSub, Nat.reduceLeDiff, Int.reduceToNat, eq_self, ↓reduceIte, Bool.false_eq_true, decide_true, decide_false, List.take_length]; rfl) rfl (by rw [hpre.take]; simp -implicitDefEqProofs only [go_sem, Nat.reduceBEq, Nat.reduceLT, Nat.reduceAdd, Nat.reduceSub, Nat.reduceLeDiff, Int.reduceToNat, eq_self, ↓reduceIte, Bool.false_eq_true, decide_true, decide_false, List.take_length]; exact hfin hz)
  have hcon : r.contains 10 = true := by
    cases hcc : r.contains 10 with
    | true => rfl
    | false =>
      have := h2.2 hcc
      simp only [List.length_cons] at this
      omega
  cases ok with
  | false =>
    have hz : openS (60 - out.length) out.length r = ([], 0) := by
      rw [hstep, if_neg]
      rintro ⟨_, h'⟩
      cases h'
    simp -implicitDefEqProofs only [go_sem, Nat.reduceBEq, Nat.reduceLT, Nat.reduceAdd, Nat.reduceSub, Nat.reduceLeDiff, Int.reduceToNat, eq_self, ↓reduceIte, Bool.false_eq_true, decide_true, decide_false, List.take_length, hc, hlt, h60, h5, h4]
    exact end2 (by simp -implicitDefEqProofs only [go_sem, Nat.reduceBEq, Nat.reduceLT, Nat.reduceAdd, Nat.reduceSub, Nat.reduceLeDiff, Int.reduceToNat, eq_self, ↓reduceIte, Bool.false_eq_true, decide_true, decide_false, List.take_length]; rfl) (by simp -implicitDefEqProofs only [go_sem, Nat.reduceBEq, Nat.reduceLT, Nat.reduceAdd, Nat.reduceSub, Nat.reduceLeDiff, Int.reduceToNat, eq_self, ↓reduceIte, Bool.false_eq_true, decide_true, decide_false, List.take_length]; rfl) rfl (by rw [hpre.take]; simp -implicitDefEqProofs only [go_sem, Nat.reduceBEq, Nat.reduceLT, Nat.reduceAdd, Nat.reduceSub, Nat.reduceLeDiff, Int.reduceToNat, eq_self, ↓reduceIte, Bool.false_eq_true, decide_true, decide_false, List.take_length]; exact hfin hz)
  | true =>
    rw [if_pos ⟨hcon, rfl⟩] at hstep
    have hlc := hfc hcon
    simp -implicitDefEqProofs only [go_sem, Nat.reduceBEq, Nat.reduceLT, Nat.reduceAdd, Nat.reduceSub, Nat.reduceLeDiff, Int.reduceToNat, eq_self, ↓reduceIte, Bool.false_eq_true, decide_true, decide_false, List.take_length, hc, hlt, h60, h5, h4]
    refine need_mk (by first | omega | decide | rfl | trivial | (refine ⟨?_, ?_⟩ <;> first | omega | rfl | decide) | (refine ⟨?_, ?_, ?_⟩ <;> first | omega | rfl | decide)) fun _ => ?_
    simp -implicitDefEqProofs only [go_sem, Nat.reduceBEq, Nat.reduceLT, Nat.reduceAdd, Nat.reduceSub, Nat.reduceLeDiff, Int.reduceToNat, eq_self, ↓reduceIte, Bool.false_eq_true, decide_true, decide_false, List.take_length, hc, hlt, h60, h5, h4]
    refine need_mk ⟨ho, ?_, ?_, ?_⟩ fun _ => ?_
    · intro x hx
      rw [List.mem_append] at hx
      rcases hx with hx | hx
      · exact all_cells_rec _ x hx
      · simp at hx; subst hx; rfl
    · intro x hx d hd
      simp at hx; subst hx; simp [D.cells] at hd
      rcases hd with rfl | rfl <;> exact ⟨rfl, rfl⟩
    · omega
    simp -implicitDefEqProofs only [go_sem, Nat.reduceBEq, Nat.reduceLT, Nat.reduceAdd, Nat.reduceSub, Nat.reduceLeDiff, Int.reduceToNat, eq_self, ↓reduceIte, Bool.false_eq_true, decide_true, decide_false, List.take_length, hc, hlt, h60, h5, h4]
    refine need_mk (by first | omega | decide | rfl | trivial | (refine ⟨?_, ?_⟩ <;> first | omega | rfl | decide) | (refine ⟨?_, ?_, ?_⟩ <;> first | omega | rfl | decide)) fun _ => ?_
    simp -implicitDefEqProofs only [go_sem, Nat.reduceBEq, Nat.reduceLT, Nat.reduceAdd, Nat.reduceSub, Nat.reduceLeDiff, Int.reduceToNat, eq_self, ↓reduceIte, Bool.false_eq_true, decide_true, decide_false, List.take_length, hc, hlt, h60, h5, h4]
    rw [w64 (n := (at_ : Int) + line.length) (by omega), w64 (by omega)]
    refine ⟨⟨out ++ [(cmd, rp)], at_ + (line.length + 1)⟩, by simp only [List.length_append, List.length_cons, List.length_nil]; omega, ⟨by simp -implicitDefEqProofs only [go_sem, Nat.reduceBEq, Nat.reduceLT, Nat.reduceAdd, Nat.reduceSub, Nat.reduceLeDiff, Int.reduceToNat, eq_self, ↓reduceIte, Bool.false_eq_true, decide_true, decide_false, List.take_length]; refine congrArg (D.int .i64) ?_; omega, .tip 25, .inr rfl, by simp -implicitDefEqProofs only [go_sem, Nat.reduceBEq, Nat.reduceLT, Nat.reduceAdd, Nat.reduceSub, Nat.reduceLeDiff, Int.reduceToNat, eq_self, ↓reduceIte, Bool.false_eq_true, decide_true, decide_false, List.take_length]; simp⟩, by simp only; omega, by simp only [List.length_append, List.length_cons, List.length_nil]; omega, ?_, hpre.app _⟩
    simp only [List.length_append, List.length_cons, List.length_nil]
    rw [hop, hstep, ← hdd]
    simp
    omega

/-- Is a log valid? -/
def validS (d p : List UInt8) (cnt : Int) : Bool :=
  decide (d.length + p.length ≤ 30000) && decide ((openS 60 0 (d ++ p)).2 = d.length + p.length) && decide ((openS 60 0 d).2 = d.length) && decide (((openS 60 0 (d ++ p)).1.length : Int) = cnt)
abbrev logD (d p : List UInt8) (cnt : Int) : D := .agg [.str d, .str p, int cnt]

theorem c58 (d p : List UInt8) (cnt : Int) (h1 : d.length < 1000000000) (h2 : p.length < 1000000000) (h : K (.bool (validS d p cnt)) H) : CallWp Tryd.prog W0 58 [logD d p cnt] H K := by
  refine CallWp.fun hm F58 (Nat.le_of_ble_eq_true rfl) (Nat.le_of_ble_eq_true rfl) ?_
  unfold s58 h58
  unfold validS at h
  simp -implicitDefEqProofs only [go_sem, Nat.reduceBEq, Nat.reduceLT, Nat.reduceAdd, Nat.reduceSub, Nat.reduceLeDiff, Int.reduceToNat, eq_self, ↓reduceIte, Bool.false_eq_true, decide_true, decide_false, List.take_length]
  rw [w64 (by omega)]
  refine dsplit (fun hb => ?_) (fun hb => ?_)
  · rw [decide_eq_false (by omega : ¬ d.length + p.length ≤ 30000)] at h
    simp -implicitDefEqProofs only [go_sem, Nat.reduceBEq, Nat.reduceLT, Nat.reduceAdd, Nat.reduceSub, Nat.reduceLeDiff, Int.reduceToNat, eq_self, ↓reduceIte, Bool.false_eq_true, decide_true, decide_false, List.take_length, hb] at h ⊢
    exact end1 (by simp -implicitDefEqProofs only [go_sem, Nat.reduceBEq, Nat.reduceLT, Nat.reduceAdd, Nat.reduceSub, Nat.reduceLeDiff, Int.reduceToNat, eq_self, ↓reduceIte, Bool.false_eq_true, decide_true, decide_false, List.take_length]; rfl) rfl (by simp -implicitDefEqProofs only [go_sem, Nat.reduceBEq, Nat.reduceLT, Nat.reduceAdd, Nat.reduceSub, Nat.reduceLeDiff, Int.reduceToNat, eq_self, ↓reduceIte, Bool.false_eq_true, decide_true, decide_false, List.take_length]; exact h)
  · rw [decide_eq_true (by omega : d.length + p.length ≤ 30000)] at h
    simp -implicitDefEqProofs only [go_sem, Nat.reduceBEq, Nat.reduceLT, Nat.reduceAdd, Nat.reduceSub, Nat.reduceLeDiff, Int.reduceToNat, eq_self, ↓reduceIte, Bool.false_eq_true, decide_true, decide_false, List.take_length, hb] at h ⊢
    refine need_mk (by omega) fun _ => ?_
    simp -implicitDefEqProofs only [go_sem, Nat.reduceBEq, Nat.reduceLT, Nat.reduceAdd, Nat.reduceSub, Nat.reduceLeDiff, Int.reduceToNat, eq_self, ↓reduceIte, Bool.false_eq_true, decide_true, decide_false, List.take_length, hb]
    have hle := openS_le 60 0 (d ++ p)
    have hle2 := openS_le 60 0 d
    refine c63 (d ++ p) (by rw [List.length_append]; omega) ?_
    simp -implicitDefEqProofs only [go_sem, Nat.reduceBEq, Nat.reduceLT, Nat.reduceAdd, Nat.reduceSub, Nat.reduceLeDiff, Int.reduceToNat, eq_self, ↓reduceIte, Bool.false_eq_true, decide_true, decide_false, List.take_length]
    refine c63 d (by omega) ?_
    simp -implicitDefEqProofs only [go_sem, Nat.reduceBEq, Nat.reduceLT, Nat.reduceAdd, Nat.reduceSub, Nat.reduceLeDiff, Int.reduceToNat, eq_self, ↓reduceIte, Bool.false_eq_true, decide_true, decide_false, List.take_length]
    rw [w64 (by omega)]
    generalize openS 60 0 (d ++ p) = q at *
    generalize openS 60 0 d = q2 at *
    by_cases e1 : (q.2 : Int) = d.length + p.length
    · have e1' : q.2 = d.length + p.length := by omega
      by_cases e2 : (q2.2 : Int) = d.length
      · have e2' : q2.2 = d.length := by omega
        simp -implicitDefEqProofs only [go_sem, Nat.reduceBEq, Nat.reduceLT, Nat.reduceAdd, Nat.reduceSub, Nat.reduceLeDiff, Int.reduceToNat, eq_self, ↓reduceIte, Bool.false_eq_true, decide_true, decide_false, List.take_length, e1', e2'] at h
        simp -implicitDefEqProofs only [go_sem, Nat.reduceBEq, Nat.reduceLT, Nat.reduceAdd, Nat.reduceSub, Nat.reduceLeDiff, Int.reduceToNat, eq_self, ↓reduceIte, Bool.false_eq_true, decide_true, decide_false, List.take_length, e1, e2]
        exact end1 (by simp -implicitDefEqProofs only [go_sem, Nat.reduceBEq, Nat.reduceLT, Nat.reduceAdd, Nat.reduceSub, Nat.reduceLeDiff, Int.reduceToNat, eq_self, ↓reduceIte, Bool.false_eq_true, decide_true, decide_false, List.take_length]; rfl) rfl (by simp -implicitDefEqProofs only [go_sem, Nat.reduceBEq, Nat.reduceLT, Nat.reduceAdd, Nat.reduceSub, Nat.reduceLeDiff, Int.reduceToNat, eq_self, ↓reduceIte, Bool.false_eq_true, decide_true, decide_false, List.take_length]; exact h)
      · have e2' : ¬ q2.2 = d.length := by omega
        simp -implicitDefEqProofs only [go_sem, Nat.reduceBEq, Nat.reduceLT, Nat.reduceAdd, Nat.reduceSub, Nat.reduceLeDiff, Int.reduceToNat, eq_self, ↓reduceIte, Bool.false_eq_true, decide_true, decide_false, List.take_length, e1', e2'] at h
        simp -implicitDefEqProofs only [go_sem, Nat.reduceBEq, Nat.reduceLT, Nat.reduceAdd, Nat.reduceSub, Nat.reduceLeDiff, Int.reduceToNat, eq_self, ↓reduceIte, Bool.false_eq_true, decide_true, decide_false, List.take_length, e1, e2]
        exact end1 (by simp -implicitDefEqProofs only [go_sem, Nat.reduceBEq, Nat.reduceLT, Nat.reduceAdd, Nat.reduceSub, Nat.reduceLeDiff, Int.reduceToNat, eq_self, ↓reduceIte, Bool.false_eq_true, decide_true, decide_false, List.take_length]; rfl) rfl (by simp -implicitDefEqProofs only [go_sem, Nat.reduceBEq, Nat.reduceLT, Nat.reduceAdd, Nat.reduceSub, Nat.reduceLeDiff, Int.reduceToNat, eq_self, ↓reduceIte, Bool.false_eq_true, decide_true, decide_false, List.take_length]; exact h)
    · have e1' : ¬ q.2 = d.length + p.length := by omega
      simp -implicitDefEqProofs only [go_sem, Nat.reduceBEq, Nat.reduceLT, Nat.reduceAdd, Nat.reduceSub, Nat.reduceLeDiff, Int.reduceToNat, eq_self, ↓reduceIte, Bool.false_eq_true, decide_true, decide_false, List.take_length, e1'] at h
      simp -implicitDefEqProofs only [go_sem, Nat.reduceBEq, Nat.reduceLT, Nat.reduceAdd, Nat.reduceSub, Nat.reduceLeDiff, Int.reduceToNat, eq_self, ↓reduceIte, Bool.false_eq_true, decide_true, decide_false, List.take_length, e1]
      exact end1 (by simp -implicitDefEqProofs only [go_sem, Nat.reduceBEq, Nat.reduceLT, Nat.reduceAdd, Nat.reduceSub, Nat.reduceLeDiff, Int.reduceToNat, eq_self, ↓reduceIte, Bool.false_eq_true, decide_true, decide_false, List.take_length]; rfl) rfl (by simp -implicitDefEqProofs only [go_sem, Nat.reduceBEq, Nat.reduceLT, Nat.reduceAdd, Nat.reduceSub, Nat.reduceLeDiff, Int.reduceToNat, eq_self, ↓reduceIte, Bool.false_eq_true, decide_true, decide_false, List.take_length]; exact h)
end Go.Proofs.YtgnebanjejmckaaDoor
