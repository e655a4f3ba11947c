/- Plain facts on logs: a record that is appended is read behind the others. -/
import Derived.Test.YtgnebanjejmckaaDoorB5
set_option maxRecDepth 100000
set_option linter.unusedSimpArgs false
set_option linter.unusedVariables false
namespace Go.Proofs.YtgnebanjejmckaaDoor
open Go Dl

theorem fstB_more {b : UInt8} (t : List UInt8) : ∀ s : List UInt8, s.contains b = true → fstB b (s ++ t) = fstB b s
  | [], h => by simp at h
  | c :: cs, h => by
    rw [List.cons_append]
    by_cases hc : c = b
    · subst hc; rw [fstB_cons_eq, fstB_cons_eq]
    · rw [fstB_cons_ne _ hc, fstB_cons_ne _ hc, fstB_more t cs (by simpa [Ne.symm hc] using h)]
theorem line_no10 (k : Nat) {c r : List UInt8} (h : recOk c r = true) : (lineS k c r).contains 10 = false := by
  obtain ⟨h1, h2, h3⟩ := recOk_parts h
  unfold lineS sealS lineT
  simp only [contains_app, dd10, plain_no h1 10 (by decide), plain_no h3 10 (by decide)]
  decide
theorem openS_line {f k : Nat} {c r : List UInt8} (h : recOk c r = true) (hf : 0 < f) : openS f k (lineS k c r ++ [10]) = ([(c, r)], (lineS k c r).length + 1) := by
  obtain ⟨f, rfl⟩ : ∃ g, f = g + 1 := ⟨f - 1, by omega⟩
  have e1 : fstB 10 (lineS k c r ++ [10]) = lineS k c r := fstB_app 10 [] _ (line_no10 k h)
  have e2 := decodeS_line k h
  rw [openS, e1, e2, if_pos ⟨by simp, rfl⟩]
  have e3 : (lineS k c r ++ [10]).drop ((lineS k c r).length + 1) = [] := List.drop_eq_nil_of_le (by simp)
  rw [e3, openS_nil]
  rfl
theorem openS_app {c r : List UInt8} (h : recOk c r = true) : ∀ (f k : Nat) (s : List UInt8), (openS f k s).2 = s.length → (openS f k s).1.length < f →
    openS f k (s ++ (lineS (k + (openS f k s).1.length) c r ++ [10])) = ((openS f k s).1 ++ [(c, r)], s.length + ((lineS (k + (openS f k s).1.length) c r).length + 1))
  | 0, _, _, _, hn => by simp at hn
  | f + 1, k, s, he, hn => by
    by_cases hs : s = []
    · subst hs
      rw [openS_nil]
      simp only [List.nil_append, List.length_nil, Nat.add_zero, Nat.zero_add]
      exact openS_line h (by omega)
    · have hpos : 0 < s.length := List.length_pos_iff.2 hs
      have hc : s.contains 10 = true ∧ (decodeS (fstB 10 s) k).2 = true := by
        rw [openS] at he
        split at he
        · assumption
        · simp at he; omega
      have e : openS (f + 1) k s = ((decodeS (fstB 10 s) k).1 :: (openS f (k + 1) (s.drop ((fstB 10 s).length + 1))).1, (fstB 10 s).length + 1 + (openS f (k + 1) (s.drop ((fstB 10 s).length + 1))).2) := by
        rw [openS, if_pos hc]
      have hl := fstB_lt 10 s hc.1
      rw [e] at he hn ⊢
      simp only [List.length_cons] at he hn ⊢
      have ih := openS_app h f (k + 1) (s.drop ((fstB 10 s).length + 1)) (by rw [List.length_drop]; omega) (by omega)
      rw [show k + 1 + (openS f (k + 1) (s.drop ((fstB 10 s).length + 1))).1.length = k + ((openS f (k + 1) (s.drop ((fstB 10 s).length + 1))).1.length + 1) by omega] at ih
      rw [openS, fstB_more _ _ hc.1, if_pos ⟨by rw [contains_app, hc.1]; rfl, hc.2⟩, List.drop_append_of_le_length hl, ih, List.length_drop]
      simp only [List.cons_append, Prod.mk.injEq, true_and]
      omega
theorem openS_size : ∀ (f k : Nat) (s : List UInt8), k + f < 1000000 → (openS f k s).2 ≤ 456 * (openS f k s).1.length
  | 0, _, _, _ => by simp [openS]
  | f + 1, k, s, hk => by
    rw [openS]
    split
    · rename_i hc
      have ih := openS_size f (k + 1) (s.drop ((fstB 10 s).length + 1)) (by omega)
      obtain ⟨h1, h2⟩ := (decode_agree (fstB 10 s) k).1.1 hc.2
      have := lineS_len k (by omega) h1
      rw [h2] at this
      simp only [List.length_cons]
      omega
    · simp

theorem valid_parts {d p : List UInt8} {cnt : Int} (h : validS d p cnt = true) : (openS 60 0 (d ++ p)).2 = (d ++ p).length ∧ (openS 60 0 d).2 = d.length ∧ ((openS 60 0 (d ++ p)).1.length : Int) = cnt ∧ (d ++ p).length ≤ 30000 := by
  unfold validS at h
  simp only [Bool.and_eq_true, decide_eq_true_eq] at h
  rw [List.length_append]
  omega
theorem valid_append {d p c r : List UInt8} {u : Nat} (hv : validS d p u = true) (hr : recOk c r = true) (hu : u < 60) :
    validS d (p ++ (lineS u c r ++ [10])) (u + 1) = true ∧ (openS 60 0 (d ++ (p ++ (lineS u c r ++ [10])))).1 = (openS 60 0 (d ++ p)).1 ++ [(c, r)] := by
  obtain ⟨h1, h2, h3, h4⟩ := valid_parts hv
  have hn : (openS 60 0 (d ++ p)).1.length = u := by omega
  have ha := openS_app hr 60 0 (d ++ p) h1 (by omega)
  rw [hn, Nat.zero_add, List.append_assoc] at ha
  refine ⟨?_, by rw [ha]⟩
  have hs := openS_size 60 0 (d ++ (p ++ (lineS u c r ++ [10]))) (by omega)
  rw [ha] at hs
  simp only [List.length_append, List.length_cons, List.length_nil, hn] at hs h4
  unfold validS
  simp only [Bool.and_eq_true, decide_eq_true_eq]
  rw [ha]
  simp only [List.length_append, List.length_cons, List.length_nil, hn]
  omega
theorem valid_sync {d p : List UInt8} {cnt : Int} (hv : validS d p cnt = true) : validS (d ++ p) [] cnt = true := by
  obtain ⟨h1, h2, h3, h4⟩ := valid_parts hv
  unfold validS
  simp only [Bool.and_eq_true, decide_eq_true_eq, List.append_nil, List.length_nil]
  omega
end Go.Proofs.YtgnebanjejmckaaDoor
