/- Plain facts on checksums: a byte that changes is seen. -/
import Derived.Test.YtgnebanjejmckaaDoorB7
import Derived.Test.YtgnebanjejmckaaDoorA5
import Derived.Test.YtgnebanjejmckaaDoorP1
set_option maxRecDepth 100000
set_option linter.unusedSimpArgs false
set_option linter.unusedVariables false
namespace Go.Proofs.YtgnebanjejmckaaDoor
open Go Dl

theorem appS_some {x : List UInt8} (h : (appS x).2 = true) : (appS x).1 = sealS x ∧ x.contains 35 = false ∧ x.length ≤ 4000 ∧ (sealS x).length ≤ 4000 := by
  unfold appS at *
  split at h
  · cases h
  · rename_i h1
    split at h
    · cases h
    · rename_i h2
      rw [if_neg h1, if_neg h2]
      exact ⟨rfl, by simpa using (fun e => h1 (.inr e)), by omega, by omega⟩
theorem seal_fst {x : List UInt8} (h : x.contains 35 = false) : fstB 35 (sealS x) = x := by
  unfold sealS
  rw [List.append_assoc]
  exact fstB_app 35 _ _ h
theorem step_inj {c : UInt8} {u v : Nat} (hu : u < 999979) (hv : v < 999979) (h : sumStep u c = sumStep v c) : u = v := by
  unfold sumStep at h
  omega
theorem step_ne {c d : UInt8} {u : Nat} (hu : u < 999979) (h : sumStep u c = sumStep u d) : c = d := by
  unfold sumStep at h
  apply UInt8.toNat_inj.1
  have := c.toNat_lt
  have := d.toNat_lt
  omega

theorem fold_lt : ∀ (l : List UInt8) (u : Nat), u < 999979 → l.foldl sumStep u < 999979
  | [], u, h => h
  | c :: l, u, h => fold_lt l _ (Nat.mod_lt _ (by decide))
theorem fold_inj : ∀ (l : List UInt8) (u v : Nat), u < 999979 → v < 999979 → l.foldl sumStep u = l.foldl sumStep v → u = v
  | [], _, _, _, _, h => h
  | c :: l, u, v, hu, hv, h => step_inj hu hv (fold_inj l _ _ (Nat.mod_lt _ (by decide)) (Nat.mod_lt _ (by decide)) h)
theorem sum_set {x : List UInt8} {i : Nat} {c : UInt8} (hi : i < x.length) (h : sumN (x.set i c) = sumN x) : c = x.getD i 0 := by
  have e1 : x.set i c = x.take i ++ c :: x.drop (i + 1) := by rw [List.set_eq_take_append_cons_drop, if_pos hi]
  have e2 : x = x.take i ++ x.getD i 0 :: x.drop (i + 1) := by
    rw [List.getD_eq_getElem?_getD, List.getElem?_eq_getElem hi]
    simp
  rw [e1] at h
  have h2 : sumN (x.take i ++ c :: x.drop (i + 1)) = sumN (x.take i ++ x.getD i 0 :: x.drop (i + 1)) := by rw [h, ← e2]
  unfold sumN at h2
  rw [List.foldl_append, List.foldl_append, List.foldl_cons, List.foldl_cons] at h2
  have hl := fold_lt (x.take i) 7 (by decide)
  exact step_ne hl (fold_inj _ _ _ (Nat.mod_lt _ (by decide)) (Nat.mod_lt _ (by decide)) h2)
theorem dec_no35 (u : Nat) : (Lib.decDigits u).contains 35 = false := dd35 u
theorem ver_change {x : List UInt8} {i : Nat} {c : UInt8} (hx : x.contains 35 = false) (hi : i < (sealS x).length) (hc : ¬ c = (sealS x).getD i 0) : (verS ((sealS x).set i c)).2 = false := by
  unfold verS
  split
  case isFalse => rfl
  rename_i h
  exfalso
  obtain ⟨h1, h2, _⟩ := appS_some h.1
  have hy := h1.symm.trans h.2
  generalize hT : fstB 35 ((sealS x).set i c) = t at hy h2
  have ey : sealS x = x ++ 35 :: Lib.decDigits (sumN x) := by unfold sealS; simp
  have et : sealS t = t ++ 35 :: Lib.decDigits (sumN t) := by unfold sealS; simp
  rw [ey] at hT hy hi hc
  rw [et] at hy
  rcases Nat.lt_trichotomy i x.length with hlt | heq | hgt
  · rw [List.set_append_left _ _ hlt] at hT hy
    by_cases h35 : c = 35
    · subst h35
      rw [List.set_eq_take_append_cons_drop, if_pos hlt, List.append_assoc, List.cons_append] at hT hy
      have hno : (x.take i).contains 35 = false := by
        rw [Bool.eq_false_iff] at hx ⊢
        intro h; exact hx (by have := List.mem_of_mem_take (by simpa using h : (35 : UInt8) ∈ x.take i); simpa using this)
      rw [fstB_app 35 _ _ hno] at hT
      subst hT
      have := List.append_cancel_left hy
      injection this with _ this
      have hd := dec_no35 (sumN (x.take i))
      rw [this] at hd
      simp at hd
    · have hno : (x.set i c).contains 35 = false := by
        rw [Bool.eq_false_iff] at hx ⊢
        intro h
        rcases List.mem_or_eq_of_mem_set (by simpa using h : (35 : UInt8) ∈ x.set i c) with hm | hm
        · exact hx (by simpa using hm)
        · exact h35 hm.symm
      rw [fstB_app 35 _ _ hno] at hT
      subst hT
      have := List.append_cancel_left hy
      injection this with _ this
      have := sum_set hlt (dec_inj this)
      refine hc (this.trans ?_)
      rw [List.getD_eq_getElem?_getD, List.getD_eq_getElem?_getD, List.getElem?_append_left hlt]
  · subst heq
    rw [List.set_append_right _ _ (Nat.le_refl _), Nat.sub_self, List.set_cons_zero] at hy
    have h35 : ¬ c = 35 := fun e => hc (by rw [e, List.getD_eq_getElem?_getD, List.getElem?_append_right (Nat.le_refl _), Nat.sub_self]; rfl)
    have : (x ++ c :: Lib.decDigits (sumN x)).contains 35 = true := by rw [← hy]; simp
    rw [contains_app, hx, List.contains_cons, dec_no35] at this
    simp [Ne.symm h35] at this
  · rw [List.set_append_right _ _ (by omega)] at hT hy
    obtain ⟨j, hj⟩ : ∃ j, i - x.length = j + 1 := ⟨i - x.length - 1, by omega⟩
    rw [hj, List.set_cons_succ] at hT hy
    rw [fstB_app 35 _ _ hx] at hT
    subst hT
    have := List.append_cancel_left hy
    injection this with _ this
    refine hc ?_
    rw [List.getD_eq_getElem?_getD, List.getElem?_append_right (by omega), hj, List.getElem?_cons_succ, this, List.getElem?_set_self]
    · rfl
    · simp at hi; omega
end Go.Proofs.YtgnebanjejmckaaDoor
