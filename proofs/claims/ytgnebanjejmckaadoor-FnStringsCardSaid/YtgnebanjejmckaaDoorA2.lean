/- Contract of the reference's splitting. -/
import Derived.Test.YtgnebanjejmckaaDoorA1
set_option maxRecDepth 100000
set_option linter.unusedSimpArgs false
set_option linter.unusedVariables false
namespace Go.Proofs.YtgnebanjejmckaaDoor
open Go Dl
variable {W0 : World} {H : Heap} {K : D → Heap → Prop}

def glue (p : List UInt8) : List (List UInt8) → List (List UInt8)
  | x :: xs => (p ++ x) :: xs
  | [] => [p]
def splitB (b : UInt8) : List UInt8 → List (List UInt8)
  | [] => [[]]
  | c :: cs => if c = b then [] :: splitB b cs else glue [c] (splitB b cs)
theorem splitB_ne (b : UInt8) (s : List UInt8) : ∃ x xs, splitB b s = x :: xs := by
  cases s with
  | nil => exact ⟨_, _, rfl⟩
  | cons c cs =>
    unfold splitB
    split
    · exact ⟨_, _, rfl⟩
    · cases splitB b cs <;> exact ⟨_, _, rfl⟩
theorem glue_nil (b : UInt8) (s : List UInt8) : glue [] (splitB b s) = splitB b s := by
  obtain ⟨x, xs, h⟩ := splitB_ne b s
  rw [h]; rfl
theorem glue_glue (p q : List UInt8) (l : List (List UInt8)) (h : l ≠ []) : glue p (glue q l) = glue (p ++ q) l := by
  cases l with
  | nil => exact absurd rfl h
  | cons x xs => simp [glue]
theorem drop_cons (s : List UInt8) (i : Nat) (h : i < s.length) : s.drop i = s.getD i 0 :: s.drop (i + 1) := by
  rw [List.drop_eq_getElem_cons h, getD_lt' _ _ _ h]
theorem piece_succ (s : List UInt8) (a i : Nat) (h : i < s.length) (ha : a ≤ i) : (s.drop a).take (i + 1 - a) = (s.drop a).take (i - a) ++ [s.getD i 0] := by
  have e : i + 1 - a = (i - a) + 1 := by omega
  have hl : i - a < (s.drop a).length := by rw [List.length_drop]; omega
  rw [e, List.take_succ_eq_append_getElem hl, getD_lt' _ _ _ h, List.getElem_drop]
  congr 2
  congr 1
  omega

structure SplitSt where
  i : Nat
  a : Nat
  out : List (List UInt8)

theorem all_cells_str (l : List (List UInt8)) : ∀ x ∈ l.map D.str, x.cells.length = 1 := by
  intro x hx
  obtain ⟨y, _, rfl⟩ := List.mem_map.1 hx
  rfl

theorem c88 (s : List UInt8) (b : UInt8) (hs : s.length < 1000000000) (h : K (.lst (.tip 9) ((splitB b s).map .str)) H) : CallWp Tryd.prog W0 88 [.str s, .int .u8 b.toNat] H K := by
  refine CallWp.fun hm F88 (Nat.le_of_ble_eq_true rfl) (Nat.le_of_ble_eq_true rfl) ?_
  unfold s88 h88
  simp -implicitDefEqProofs only [go_sem, Nat.reduceBEq, Nat.reduceLT, Nat.reduceAdd, Nat.reduceSub, Nat.reduceLeDiff, Int.reduceToNat, eq_self, ↓reduceIte, Bool.false_eq_true, decide_true, decide_false, List.take_length]
  refine need_mk ⟨rfl, by decide⟩ fun _ => ?_
  simp -implicitDefEqProofs only [go_sem, Nat.reduceBEq, Nat.reduceLT, Nat.reduceAdd, Nat.reduceSub, Nat.reduceLeDiff, Int.reduceToNat, eq_self, ↓reduceIte, Bool.false_eq_true, decide_true, decide_false, List.take_length]
  refine s_loop (fun (x : SplitSt) => s.length - x.i) (fun x fr' H' => (fr' 7 = int x.i ∧ fr' 6 = int x.a ∧ ∃ o, (o = .exact ∨ o = .tip 9) ∧ fr' 5 = .lst o (x.out.map .str)) ∧ x.i ≤ s.length ∧ x.a ≤ x.i ∧ x.out.length ≤ x.i ∧ splitB b s = x.out ++ glue ((s.drop x.a).take (x.i - x.a)) (splitB b (s.drop x.i)) ∧ H' = H)
    [0, 1] CallWp.monoC (by kernel_rfl) ⟨0, 0, []⟩ ⟨⟨by simp -implicitDefEqProofs only [go_sem, Nat.reduceBEq, Nat.reduceLT, Nat.reduceAdd, Nat.reduceSub, Nat.reduceLeDiff, Int.reduceToNat, eq_self, ↓reduceIte, Bool.false_eq_true, decide_true, decide_false, List.take_length]; rfl, by simp -implicitDefEqProofs only [go_sem, Nat.reduceBEq, Nat.reduceLT, Nat.reduceAdd, Nat.reduceSub, Nat.reduceLeDiff, Int.reduceToNat, eq_self, ↓reduceIte, Bool.false_eq_true, decide_true, decide_false, List.take_length]; rfl, .exact, .inl rfl, by simp -implicitDefEqProofs only [go_sem, Nat.reduceBEq, Nat.reduceLT, Nat.reduceAdd, Nat.reduceSub, Nat.reduceLeDiff, Int.reduceToNat, eq_self, ↓reduceIte, Bool.false_eq_true, decide_true, decide_false, List.take_length]⟩, by simp, by simp, by simp, by simp [glue_nil], rfl⟩ ?_
  rintro ⟨i, a, out⟩ g H' ⟨⟨h7, h6, o, ho, h5⟩, hi, ha, hout, hsp, rfl⟩
  simp only at h7 h6 h5 hi ha hout hsp
  simp -implicitDefEqProofs only [go_sem, Nat.reduceBEq, Nat.reduceLT, Nat.reduceAdd, Nat.reduceSub, Nat.reduceLeDiff, Int.reduceToNat, eq_self, ↓reduceIte, Bool.false_eq_true, decide_true, decide_false, List.take_length] at h7 h6 h5
  simp -implicitDefEqProofs only [go_sem, Nat.reduceBEq, Nat.reduceLT, Nat.reduceAdd, Nat.reduceSub, Nat.reduceLeDiff, Int.reduceToNat, eq_self, ↓reduceIte, Bool.false_eq_true, decide_true, decide_false, List.take_length, h7]
  refine dsplit (fun hlt => ?_) (fun hge => ?_)
  · have hlt' : i < s.length := by omega
    have hdc := drop_cons s i hlt'
    have hps := piece_succ s a i hlt' ha
    obtain ⟨x, xs, hne⟩ := splitB_ne b (s.drop (i + 1))
    simp -implicitDefEqProofs only [go_sem, Nat.reduceBEq, Nat.reduceLT, Nat.reduceAdd, Nat.reduceSub, Nat.reduceLeDiff, Int.reduceToNat, eq_self, ↓reduceIte, Bool.false_eq_true, decide_true, decide_false, List.take_length, h7]
    refine need_mk (by omega) fun _ => ?_
    simp -implicitDefEqProofs only [go_sem, Nat.reduceBEq, Nat.reduceLT, Nat.reduceAdd, Nat.reduceSub, Nat.reduceLeDiff, Int.reduceToNat, eq_self, ↓reduceIte, Bool.false_eq_true, decide_true, decide_false, List.take_length, h7]
    refine dsplit (fun he => ?_) (fun hne' => ?_)
    · rw [u8_eq] at he
      simp -implicitDefEqProofs only [go_sem, Nat.reduceBEq, Nat.reduceLT, Nat.reduceAdd, Nat.reduceSub, Nat.reduceLeDiff, Int.reduceToNat, eq_self, ↓reduceIte, Bool.false_eq_true, decide_true, decide_false, List.take_length, h7, h6, h5]
      refine need_mk (by omega) fun _ => ?_
      simp -implicitDefEqProofs only [go_sem, Nat.reduceBEq, Nat.reduceLT, Nat.reduceAdd, Nat.reduceSub, Nat.reduceLeDiff, Int.reduceToNat, eq_self, ↓reduceIte, Bool.false_eq_true, decide_true, decide_false, List.take_length, h7, h6, h5]
      refine need_mk ⟨rfl, by decide⟩ fun _ => ?_
      simp -implicitDefEqProofs only [go_sem, Nat.reduceBEq, Nat.reduceLT, Nat.reduceAdd, Nat.reduceSub, Nat.reduceLeDiff, Int.reduceToNat, eq_self, ↓reduceIte, Bool.false_eq_true, decide_true, decide_false, List.take_length, h7, h6, h5]
      refine need_mk ⟨ho, ?_, ?_, ?_⟩ fun _ => ?_
      · intro x hx
        rw [List.mem_append] at hx
        rcases hx with hx | hx
        · exact all_cells_str _ x hx
        · simp at hx; subst hx; rfl
      · intro x hx d hd
        simp at hx; subst hx; simp [D.cells] at hd; subst hd; exact ⟨rfl, rfl⟩
      · omega
      · simp -implicitDefEqProofs only [go_sem, Nat.reduceBEq, Nat.reduceLT, Nat.reduceAdd, Nat.reduceSub, Nat.reduceLeDiff, Int.reduceToNat, eq_self, ↓reduceIte, Bool.false_eq_true, decide_true, decide_false, List.take_length, h7, h6, h5]
        rw [w64 (by omega)]
        refine ⟨⟨i + 1, i + 1, out ++ [(s.drop a).take (i - a)]⟩, by simp only; omega, ⟨by simp -implicitDefEqProofs only [go_sem, Nat.reduceBEq, Nat.reduceLT, Nat.reduceAdd, Nat.reduceSub, Nat.reduceLeDiff, Int.reduceToNat, eq_self, ↓reduceIte, Bool.false_eq_true, decide_true, decide_false, List.take_length]; rfl, by simp -implicitDefEqProofs only [go_sem, Nat.reduceBEq, Nat.reduceLT, Nat.reduceAdd, Nat.reduceSub, Nat.reduceLeDiff, Int.reduceToNat, eq_self, ↓reduceIte, Bool.false_eq_true, decide_true, decide_false, List.take_length]; rfl, .tip 9, .inr rfl, by simp -implicitDefEqProofs only [go_sem, Nat.reduceBEq, Nat.reduceLT, Nat.reduceAdd, Nat.reduceSub, Nat.reduceLeDiff, Int.reduceToNat, eq_self, ↓reduceIte, Bool.false_eq_true, decide_true, decide_false, List.take_length]; simp⟩, by simp only; omega, by simp, by simp; omega, ?_, rfl⟩
        simp only
        rw [hsp, hdc, splitB, if_pos he, Nat.sub_self, List.take_zero, glue_nil]
        simp [glue]
    · rw [u8_eq] at hne'
      simp -implicitDefEqProofs only [go_sem, Nat.reduceBEq, Nat.reduceLT, Nat.reduceAdd, Nat.reduceSub, Nat.reduceLeDiff, Int.reduceToNat, eq_self, ↓reduceIte, Bool.false_eq_true, decide_true, decide_false, List.take_length, h7, h6, h5]
      rw [w64 (by omega)]
      refine ⟨⟨i + 1, a, out⟩, by simp only; omega, ⟨by simp -implicitDefEqProofs only [go_sem, Nat.reduceBEq, Nat.reduceLT, Nat.reduceAdd, Nat.reduceSub, Nat.reduceLeDiff, Int.reduceToNat, eq_self, ↓reduceIte, Bool.false_eq_true, decide_true, decide_false, List.take_length]; rfl, by simp -implicitDefEqProofs only [go_sem, Nat.reduceBEq, Nat.reduceLT, Nat.reduceAdd, Nat.reduceSub, Nat.reduceLeDiff, Int.reduceToNat, eq_self, ↓reduceIte, Bool.false_eq_true, decide_true, decide_false, List.take_length, h6], o, ho, by simp -implicitDefEqProofs only [go_sem, Nat.reduceBEq, Nat.reduceLT, Nat.reduceAdd, Nat.reduceSub, Nat.reduceLeDiff, Int.reduceToNat, eq_self, ↓reduceIte, Bool.false_eq_true, decide_true, decide_false, List.take_length, h5]⟩, by simp only; omega, by simp only; omega, by simp only; omega, ?_, rfl⟩
      simp only
      rw [hsp, hdc, splitB, if_neg hne', glue_glue _ _ _ (by rw [hne]; simp), hps]
  · simp -implicitDefEqProofs only [go_sem, Nat.reduceBEq, Nat.reduceLT, Nat.reduceAdd, Nat.reduceSub, Nat.reduceLeDiff, Int.reduceToNat, eq_self, ↓reduceIte, Bool.false_eq_true, decide_true, decide_false, List.take_length, h7, h6, h5]
    have hil : i = s.length := by omega
    refine need_mk (by omega) fun _ => ?_
    simp -implicitDefEqProofs only [go_sem, Nat.reduceBEq, Nat.reduceLT, Nat.reduceAdd, Nat.reduceSub, Nat.reduceLeDiff, Int.reduceToNat, eq_self, ↓reduceIte, Bool.false_eq_true, decide_true, decide_false, List.take_length, h7, h6, h5]
    refine need_mk ⟨rfl, by decide⟩ fun _ => ?_
    simp -implicitDefEqProofs only [go_sem, Nat.reduceBEq, Nat.reduceLT, Nat.reduceAdd, Nat.reduceSub, Nat.reduceLeDiff, Int.reduceToNat, eq_self, ↓reduceIte, Bool.false_eq_true, decide_true, decide_false, List.take_length, h7, h6, h5]
    refine need_mk ⟨ho, ?_, ?_, ?_⟩ fun _ => ?_
    · intro x hx
      rw [List.mem_append] at hx
      rcases hx with hx | hx
      · exact all_cells_str _ x hx
      · simp at hx; subst hx; rfl
    · intro x hx d hd
      simp at hx; subst hx; simp [D.cells] at hd; subst hd; exact ⟨rfl, rfl⟩
    · omega
    · simp -implicitDefEqProofs only [go_sem, Nat.reduceBEq, Nat.reduceLT, Nat.reduceAdd, Nat.reduceSub, Nat.reduceLeDiff, Int.reduceToNat, eq_self, ↓reduceIte, Bool.false_eq_true, decide_true, decide_false, List.take_length, h7, h6, h5]
      refine end1 (by simp -implicitDefEqProofs only [go_sem, Nat.reduceBEq, Nat.reduceLT, Nat.reduceAdd, Nat.reduceSub, Nat.reduceLeDiff, Int.reduceToNat, eq_self, ↓reduceIte, Bool.false_eq_true, decide_true, decide_false, List.take_length]; rfl) rfl ?_
      simp -implicitDefEqProofs only [go_sem, Nat.reduceBEq, Nat.reduceLT, Nat.reduceAdd, Nat.reduceSub, Nat.reduceLeDiff, Int.reduceToNat, eq_self, ↓reduceIte, Bool.false_eq_true, decide_true, decide_false, List.take_length]
      have e : out.map D.str ++ [D.str (List.take (s.length - a) (List.drop a s))] = (splitB b s).map .str := by
        rw [hsp, hil, List.drop_length]
        simp [splitB, glue]
      rw [e]; exact h
end Go.Proofs.YtgnebanjejmckaaDoor
