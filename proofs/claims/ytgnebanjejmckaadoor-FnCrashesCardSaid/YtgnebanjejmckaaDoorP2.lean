/- Plain facts on logs after a crash. -/
import Derived.Test.YtgnebanjejmckaaDoorP1
import Derived.Test.YtgnebanjejmckaaDoorA6
set_option maxRecDepth 100000
set_option linter.unusedSimpArgs false
set_option linter.unusedVariables false
namespace Go.Proofs.YtgnebanjejmckaaDoor
open Go Dl

theorem openS_pos {f k : Nat} {s : List UInt8} (h : s.contains 10 = true ∧ (decodeS (fstB 10 s) k).2 = true) : openS (f + 1) k s = ((decodeS (fstB 10 s) k).1 :: (openS f (k + 1) (s.drop ((fstB 10 s).length + 1))).1, (fstB 10 s).length + 1 + (openS f (k + 1) (s.drop ((fstB 10 s).length + 1))).2) := by
  rw [openS, if_pos h]
theorem openS_neg {f k : Nat} {s : List UInt8} (h : ¬(s.contains 10 = true ∧ (decodeS (fstB 10 s) k).2 = true)) : openS (f + 1) k s = ([], 0) := by
  rw [openS, if_neg h]

theorem fstB_split (b : UInt8) : ∀ s : List UInt8, s.contains b = true → s = (fstB b s ++ [b]) ++ s.drop ((fstB b s).length + 1)
  | [], h => by simp at h
  | c :: s, h => by
    by_cases e : c = b
    · subst e; rw [fstB_cons_eq]; simp
    · rw [fstB_cons_ne s e]
      have := fstB_split b s (by simpa [Ne.symm e] using h)
      simp only [List.length_cons, List.drop_succ_cons, List.cons_append]
      rw [← this]
theorem fstB_no (b : UInt8) : ∀ s : List UInt8, (fstB b s).contains b = false
  | [] => by rw [fstB_eq]; rfl
  | c :: s => by
    by_cases e : c = b
    · subst e; rw [fstB_cons_eq]; rfl
    · rw [fstB_cons_ne s e, List.contains_cons, fstB_no b s, Bool.or_false, beq_eq_false_iff_ne]
      exact fun h => e h.symm

/-- A text that goes on otherwise behind 'u', and has no line's end there. -/
theorem openS_cut {w : List UInt8} (hw : w.contains 10 = false) : ∀ (f k : Nat) (u v : List UInt8), (openS f k (u ++ w)).1.length ≤ (openS f k (u ++ v)).1.length ∧ (openS f k (u ++ w)).1 = (openS f k (u ++ v)).1.take (openS f k (u ++ w)).1.length
  | 0, _, _, _ => by simp [openS]
  | f + 1, k, u, v => by
    cases hu : u.contains 10 with
    | false =>
      rw [openS_neg (s := u ++ w) (by rw [contains_app, hu, hw]; simp)]
      simp
    | true =>
      have e1 := fstB_more w u hu
      have e2 := fstB_more v u hu
      by_cases hd : (decodeS (fstB 10 u) k).2 = true
      · rw [openS_pos (s := u ++ w) ⟨by rw [contains_app, hu]; rfl, by rw [e1]; exact hd⟩, openS_pos (s := u ++ v) ⟨by rw [contains_app, hu]; rfl, by rw [e2]; exact hd⟩, e1, e2]
        have hl := fstB_lt 10 u hu
        rw [List.drop_append_of_le_length hl, List.drop_append_of_le_length hl]
        obtain ⟨h1, h2⟩ := openS_cut hw f (k + 1) (u.drop ((fstB 10 u).length + 1)) v
        refine ⟨by simpa using h1, ?_⟩
        simp only [List.length_cons, List.take_succ_cons]
        rw [← h2]
      · rw [openS_neg (s := u ++ w) (by rw [e1]; exact fun h => hd h.2)]
        simp
theorem openS_pre : ∀ (f k : Nat) (s : List UInt8), openS f k (s.take (openS f k s).2) = openS f k s
  | 0, _, _ => by simp [openS]
  | f + 1, k, s => by
    by_cases h : s.contains 10 = true ∧ (decodeS (fstB 10 s) k).2 = true
    · have ih := openS_pre f (k + 1) (s.drop ((fstB 10 s).length + 1))
      have hl := fstB_lt 10 s h.1
      have hle := (openS_le f (k + 1) (s.drop ((fstB 10 s).length + 1))).1
      rw [openS_pos h]
      dsimp only
      generalize hq : openS f (k + 1) (s.drop ((fstB 10 s).length + 1)) = q at *
      have ew : ∀ t, fstB 10 ((fstB 10 s ++ [10]) ++ t) = fstB 10 s := fun t => by
        have hno := fstB_no 10 s
        rw [List.append_assoc]
        exact fstB_app 10 t _ hno
      have es := fstB_split 10 s h.1
      have et : s.take ((fstB 10 s).length + 1 + q.2) = (fstB 10 s ++ [10]) ++ (s.drop ((fstB 10 s).length + 1)).take q.2 := by
        have : ∀ n r, r = (fstB 10 s ++ [10]) ++ s.drop ((fstB 10 s).length + 1) → r.take ((fstB 10 s).length + 1 + n) = (fstB 10 s ++ [10]) ++ (s.drop ((fstB 10 s).length + 1)).take n := fun n r hr => by
          rw [hr, List.take_append, List.take_of_length_le (by simp), List.length_append, List.length_singleton, Nat.add_sub_cancel_left]
        exact this q.2 s es
      rw [et]
      have hc' : ((fstB 10 s ++ [10]) ++ (s.drop ((fstB 10 s).length + 1)).take q.2).contains 10 = true := by simp
      rw [openS_pos ⟨hc', by rw [ew]; exact h.2⟩, ew, List.drop_left' (by simp), ih]
    · rw [openS_neg h, List.take_zero, openS_nil]
theorem openS_ge : ∀ (f k : Nat) (d t : List UInt8), (openS f k d).2 = d.length → d.length ≤ (openS f k (d ++ t)).2
  | 0, _, d, t, h => by
    have : d.length = 0 := by rw [← h, openS]
    omega
  | f + 1, k, d, t, h => by
    by_cases hc : d.contains 10 = true ∧ (decodeS (fstB 10 d) k).2 = true
    · have hl := fstB_lt 10 d hc.1
      rw [openS_pos hc] at h
      have e1 := fstB_more t d hc.1
      rw [openS_pos (s := d ++ t) ⟨by rw [contains_app, hc.1]; rfl, by rw [e1]; exact hc.2⟩, e1, List.drop_append_of_le_length hl]
      have := openS_ge f (k + 1) (d.drop ((fstB 10 d).length + 1)) t (by rw [List.length_drop]; dsimp only at h; omega)
      rw [List.length_drop] at this
      dsimp only
      omega
    · rw [openS_neg hc] at h
      dsimp only at h
      omega
theorem dd245 (u : Nat) : (Lib.decDigits u).contains 245 = false := dd_no 245 (by decide) u
theorem openS_no245 : ∀ (f k : Nat) (s : List UInt8), (openS f k s).2 = s.length → s.contains 245 = false
  | 0, _, s, h => by
    have : s = [] := List.eq_nil_of_length_eq_zero (by simp [openS] at h; omega)
    subst this; rfl
  | f + 1, k, s, h => by
    by_cases hc : s.contains 10 = true ∧ (decodeS (fstB 10 s) k).2 = true
    · have hl := fstB_lt 10 s hc.1
      rw [openS_pos hc] at h
      have ih := openS_no245 f (k + 1) (s.drop ((fstB 10 s).length + 1)) (by rw [List.length_drop]; dsimp only at h; omega)
      obtain ⟨h1, h2⟩ := (decode_agree (fstB 10 s) k).1.1 hc.2
      have hline : (fstB 10 s).contains 245 = false := by
        rw [← h2]
        obtain ⟨p1, p2, p3⟩ := recOk_parts h1
        unfold lineS sealS lineT
        simp only [contains_app, dd245, plain_no p1 245 (by decide), plain_no p3 245 (by decide)]
        decide
      have es := fstB_split 10 s hc.1
      rw [es, contains_app, contains_app, hline, ih]
      decide
    · rw [openS_neg hc] at h
      have : s = [] := List.eq_nil_of_length_eq_zero (by dsimp only at h; omega)
      subst this; rfl

theorem valid_pre (s : List UInt8) (h : s.length ≤ 30000) : validS (s.take (openS 60 0 s).2) [] ((openS 60 0 s).1.length : Nat) = true := by
  have hp := openS_pre 60 0 s
  have hle := (openS_le 60 0 s).1
  have hlen : (s.take (openS 60 0 s).2).length = (openS 60 0 s).2 := by rw [List.length_take]; omega
  unfold validS
  rw [List.append_nil, hp, hlen]
  simp only [List.length_nil, Nat.add_zero, decide_true, Bool.and_true, decide_eq_true_eq]
  simp
  omega
theorem crash_facts {d p : List UInt8} {cnt : Int} {k : Nat} (torn : Bool) (hv : validS d p cnt = true) (hk : k ≤ p.length) :
    (d ++ flipS torn (p.take k)).length ≤ 30000 ∧ d.length ≤ (openS 60 0 (d ++ flipS torn (p.take k))).2 ∧
    (openS 60 0 (d ++ flipS torn (p.take k))).1.length ≤ (openS 60 0 (d ++ p)).1.length ∧
    (openS 60 0 (d ++ flipS torn (p.take k))).1 = (openS 60 0 (d ++ p)).1.take (openS 60 0 (d ++ flipS torn (p.take k))).1.length ∧
    (torn = false → k = p.length → (openS 60 0 (d ++ flipS torn (p.take k))).1.length = (openS 60 0 (d ++ p)).1.length) := by
  obtain ⟨h1, h2, h3, h4⟩ := valid_parts hv
  have hlt : (p.take k).length = k := by rw [List.length_take]; omega
  refine ⟨by rw [List.length_append, flip_len, hlt]; rw [List.length_append] at h4; omega, openS_ge _ _ _ _ h2, ?_⟩
  have h245 : p.contains 245 = false := by
    have := openS_no245 60 0 (d ++ p) h1
    rw [contains_app, Bool.or_eq_false_iff] at this
    exact this.2
  have key : ∃ u w v, d ++ flipS torn (p.take k) = u ++ w ∧ d ++ p = u ++ v ∧ w.contains 10 = false := by
    unfold flipS
    split
    · rename_i hc
      have hk0 : 0 < k := by omega
      refine ⟨d ++ p.take (k - 1), [255 - (p.take k).getD (k - 1) 0], p.drop (k - 1), ?_, by rw [List.append_assoc, List.take_append_drop], ?_⟩
      · rw [hlt, List.append_assoc, List.set_eq_take_append_cons_drop, if_pos (by omega), List.take_take, Nat.min_eq_left (by omega), List.drop_of_length_le (by omega)]
      · have hb : ∀ c : UInt8, 255 - c = 10 → c = 245 := fun c h => by
          have e5 : (255 : UInt8).toNat = 255 := rfl
          have e6 := congrArg UInt8.toNat h
          have := c.toNat_lt
          rw [UInt8.toNat_sub_of_le _ _ (by rw [UInt8.le_iff_toNat_le]; omega), e5, show (10 : UInt8).toNat = 10 from rfl] at e6
          apply UInt8.toNat_inj.1
          rw [show (245 : UInt8).toNat = 245 from rfl]
          omega
        rw [List.contains_cons, List.contains_nil, Bool.or_false, beq_eq_false_iff_ne]
        intro e
        have e1 := hb _ e.symm
        have hmem : (p.take k).getD (k - 1) 0 ∈ p := by
          rw [List.getD_eq_getElem?_getD, List.getElem?_eq_getElem (by omega)]
          exact List.mem_of_mem_take (List.getElem_mem _)
        rw [e1] at hmem
        simp [hmem] at h245
    · exact ⟨d ++ p.take k, [], p.drop k, by rw [List.append_nil], by rw [List.append_assoc, List.take_append_drop], rfl⟩
  obtain ⟨u, w, v, e1, e2, hw⟩ := key
  have hc := openS_cut hw 60 0 u v
  rw [← e1, ← e2] at hc
  refine ⟨hc.1, hc.2, fun ht hkp => ?_⟩
  subst ht
  rw [show flipS false (p.take k) = p.take k by simp [flipS], List.take_of_length_le (by omega)]
end Go.Proofs.YtgnebanjejmckaaDoor
