/- Reads of memory, slices, lengths, conversions, comparisons, structs that are built. -/
import Derived.Test.YtgnebanjejmckaaDoorDe
namespace Dl
open Go

section
variable {P : Program} {σ : Sig} {w : World}

theorem cell_at {b j : Nat} {c : Array Value} {ty : TypeId} {fz : Nat × Nat} (hb : w.heap[b]? = some (.cells c ty fz)) (hj : j < c.size) :
    w.cell? ⟨b, j, none⟩ = some (c.getD j undef) := by
  rw [cell_of_row w b j c ty fz hb]; exact getD_lt hj

theorem run_dCells {t : TypeId} {b off : Nat} {c : Array Value} {ty : TypeId} {fz : Nat × Nat} {ds : List D} {d : D}
    (hb : w.heap[b]? = some (.cells c ty fz)) (hc : off + ds.length ≤ c.size)
    (hv : ∀ j, j < ds.length → V σ w (c.getD (off + j) undef) (ds.getD j .any)) (h : dCells P t ds = some d) :
    ∃ r, (Instr.loadAt t (.pointer (some ⟨b, off, none⟩))).run P w = .ok r w ∧ V σ w r d ∧ noOwn d = true := by
  unfold dCells at h
  by_cases hA : aggB P t = true
  · rw [if_pos hA] at h
    by_cases hle : P.cellsOf t ≤ ds.length
    · rw [if_pos hle] at h
      cases h
      have hl := run_loadCells (P := P) w ⟨b, off, none⟩ (P.cellsOf t) (fun j => c.getD (off + j) undef) (fun j hj => by rw [add_lit]; exact cell_at hb (by omega))
      refine ⟨.agg ((List.range (P.cellsOf t)).map (fun j => c.getD (off + j) undef)).toArray, ?_, ?_, rfl⟩
      · simp only [Instr.loadAt, Instr.sureAddr, loadVar, Sem.run_bind, Sem.run_pure, Result.andThen_ok, rn_isAgg (aggB_known hA), hA, if_true, rn_sizeOf (und_infoS (aggB_known hA)), hl]
      · refine .agg _ _ (by simp; omega) fun j hj => ?_
        have hj' : j < P.cellsOf t := by simp at hj; omega
        have e1 : ((List.range (P.cellsOf t)).map (fun j => c.getD (off + j) undef)).toArray.getD j undef = c.getD (off + j) undef := by
          simp [hj']
        have e2 : (ds.take (P.cellsOf t)).getD j .any = ds.getD j .any := by
          simp only [List.getD_eq_getElem?_getD, List.getElem?_take]; rw [if_pos hj']
        rw [e1, e2]; exact hv j (by omega)
    · rw [if_neg hle] at h; cases h
  · rw [if_neg hA] at h
    by_cases hle : 0 < ds.length ∧ known P t = true
    · rw [if_pos hle] at h
      cases h
      have hA' : aggB P t = false := by simpa using hA
      have h0 := hv 0 hle.1
      rw [Nat.add_zero] at h0
      refine ⟨c.getD off undef, ?_, h0.pl, noOwn_pl _⟩
      simp only [Instr.loadAt, Instr.sureAddr, loadVar, Sem.run_bind, Sem.run_pure, Result.andThen_ok, rn_isAgg (known_parts hle.2).1, hA', Bool.false_eq_true, if_false, run_load]
      rw [cell_at hb (by omega)]
    · rw [if_neg hle] at h; cases h

theorem run_dLoad {W0 : World} {H : Heap} {t : TypeId} {u : Value} {x d : D} (hr : Rel W0 σ w H) (hx : V σ w u x) (h : dLoad P H t x = some d) :
    ∃ r, (Instr.loadAt t u).run P w = .ok r w ∧ V σ w r d ∧ noOwn d = true := by
  unfold dLoad at h
  split at h
  · cases hx with
    | rptr b off c ty fz cs hb hnp hκ hκ0 hc hv => exact run_dCells hb (by omega) hv h
  · rename_i b off
    by_cases hlt : b < H.length ∧ off ≤ (hget H b).length
    · rw [if_pos hlt] at h
      cases hx with
      | ptr _ _ hin =>
        obtain ⟨c, ty, fz, h1, _, h2, h3, h4⟩ := hr.box b hin
        have hd : ((hget H b).drop off).length = (hget H b).length - off := List.length_drop
        refine run_dCells h1 (by omega) (fun j hj => ?_) h
        have e2 : ((hget H b).drop off).getD j .any = (hget H b).getD (off + j) .any := by simp only [List.getD_eq_getElem?_getD, List.getElem?_drop]
        rw [e2]; exact h4 (off + j) (by omega)
    · rw [if_neg hlt] at h; cases h
  · cases h

theorem run_dLen {t : TypeId} {ty : TypeId} {u : Value} {x d : D} (hx : V σ w u x) (h : dLen P t x = some d) :
    ∃ r, (Builtin.len_ #[t] ty #[u]).run P w = .ok r w ∧ V σ w r d ∧ noOwn d = true := by
  unfold dLen at h
  split at h
  · cases hx with
    | str b l hl =>
      subst hl
      by_cases hs : isStr P t = true
      · rw [if_pos hs] at h; cases h
        exact ⟨.int .i64 (b.size : Nat), by simp [Builtin.len_, run_und (isStr_some hs), goInt], .int _ _, rfl⟩
      · rw [if_neg hs] at h; cases h
  · rename_i o xs
    by_cases hs : (slE P t).isSome = true
    · rw [if_pos hs] at h; cases h
      obtain ⟨e, he⟩ := Option.isSome_iff_exists.1 hs
      cases hx with
      | lnil a cap => exact ⟨.int .i64 ((0 : Nat) : Int), by simp [Builtin.len_, run_und (slE_some he), goInt], .int _ _, rfl⟩
      | lst b off cap E c ty fz _ _ len hlen => 
        subst hlen
        exact ⟨.int .i64 ((xs.length : Nat) : Int), by simp [Builtin.len_, run_und (slE_some he), goInt], .int _ _, rfl⟩
    · rw [if_neg hs] at h; cases h
  · rename_i i off len cap e
    by_cases hs : (slE P t).isSome = true
    · rw [if_pos hs] at h; cases h
      obtain ⟨e', he⟩ := Option.isSome_iff_exists.1 hs
      cases hx with
      | ref => exact ⟨.int .i64 ((len : Nat) : Int), by simp [Builtin.len_, run_und (slE_some he), goInt], .int _ _, rfl⟩
    · rw [if_neg hs] at h; cases h
  · cases h

/-! ### Slices -/

def OV (σ : Sig) (w : World) : Option Value → Option D → Prop
  | none, none => True
  | some v, some d => V σ w v d
  | _, _ => False

theorem run_bound {lo : Option Value} {d : Option D} {dflt l : Int} (h : OV σ w lo d) (hb : bound d dflt = some l) :
    (lo = none ∧ l = dflt) ∨ ∃ k, lo = some (.int k l) := by
  unfold bound at hb
  split at hb
  · cases lo with
    | none => simp at hb; exact .inl ⟨rfl, hb.symm⟩
    | some v => exact h.elim
  · cases lo with
    | none => exact h.elim
    | some v =>
      have hv : V σ w v _ := h
      cases hv
      simp at hb
      subst hb
      exact .inr ⟨_, rfl⟩
  · cases hb

theorem run_sb (k : IntKind) (i : Int) (y : Nat) (code : BoundsCode) (h0 : 0 ≤ i) (h1 : i ≤ y) : (Instr.sliceBound (.int k i) y code).run P w = .ok i.toNat w := by
  simp [Instr.sliceBound, asIntOf, h0, h1]

theorem run_sliceBounds {isS : Bool} {len cap : Nat} {lo hi : Option Value} {dl dh : Option D} {l h : Int} (hlo : OV σ w lo dl) (hhi : OV σ w hi dh)
    (h1 : bound dl 0 = some l) (h2 : bound dh len = some h) (h3 : 0 ≤ l) (h4 : l ≤ h) (h5 : h ≤ cap) :
    (Instr.sliceBounds isS len cap lo hi none).run P w = .ok (l.toNat, h.toNat, cap) w := by
  unfold Instr.sliceBounds
  rcases run_bound hlo h1 with ⟨rfl, rfl⟩ | ⟨k, rfl⟩ <;> rcases run_bound hhi h2 with ⟨rfl, rfl⟩ | ⟨k', rfl⟩
  · simp
  · simp only [Sem.run_bind, Sem.run_pure, Result.andThen_ok]
    rw [run_sb k' h cap _ (by omega) h5]; rfl
  · simp only [Sem.run_bind, Sem.run_pure]
    simp only [Result.andThen_ok]
    rw [run_sb k l len _ h3 h4]; rfl
  · simp only [Sem.run_bind, Sem.run_pure, Result.andThen_ok]
    rw [run_sb k' h cap _ (by omega) h5]
    simp only [Result.andThen_ok]
    rw [run_sb k l _ _ h3 (by omega)]; rfl

theorem run_sliceBounds3 {isS : Bool} {len cap : Nat} {lo hi : Option Value} {dl dh : Option D} {l h m : Int} {km : IntKind} (hlo : OV σ w lo dl) (hhi : OV σ w hi dh)
    (h1 : bound dl 0 = some l) (h2 : bound dh len = some h) (h3 : 0 ≤ l) (h4 : l ≤ h) (h5 : h ≤ m) (h6 : m ≤ cap) (hne : dh ≠ none) :
    (Instr.sliceBounds isS len cap lo hi (some (.int km m))).run P w = .ok (l.toNat, h.toNat, m.toNat) w := by
  unfold Instr.sliceBounds
  rcases run_bound hhi h2 with ⟨rfl, rfl⟩ | ⟨k', rfl⟩
  · cases dh with
    | none => exact absurd rfl hne
    | some _ => exact hhi.elim
  · rcases run_bound hlo h1 with ⟨rfl, rfl⟩ | ⟨k, rfl⟩
    · simp only [Sem.run_bind, Sem.run_pure, Result.andThen_ok]
      rw [run_sb km m cap _ (by omega) h6]
      simp only [Result.andThen_ok]
      rw [run_sb k' h _ _ (by omega) (by omega)]; rfl
    · simp only [Sem.run_bind, Sem.run_pure, Result.andThen_ok]
      rw [run_sb km m cap _ (by omega) h6]
      simp only [Result.andThen_ok]
      rw [run_sb k' h _ _ (by omega) (by omega)]
      simp only [Result.andThen_ok]
      rw [run_sb k l _ _ h3 (by omega)]; rfl

theorem extract_take (s : ByteArray) (l h : Nat) : (s.extract l h).data.toList = (s.data.toList.drop l).take (h - l) := by
  rw [ByteArray.data_extract, Array.toList_extract, List.extract_eq_take_drop]

/-- A part of a list is a list. -/
theorem V.sub {xs : List D} {o : Own} {a : Option Addr} {len cap : Nat} (hx : V σ w (.slice a len cap) (.lst o xs)) (E : Nat) (hE : ∀ x ∈ xs, x.cells.length = E)
    (l h : Nat) (hlh : l ≤ h) (hh : h ≤ xs.length) (m : Nat) (hm : h ≤ m) (o' : Own) :
    V σ w (.slice (if m = l then a else a.map (·.add (l * E))) (h - l) (m - l)) (.lst o' ((xs.drop l).take (h - l))) := by
  have hlen : ((xs.drop l).take (h - l)).length = h - l := by simp; omega
  rcases Nat.eq_zero_or_pos (h - l) with h0 | h0
  · rw [h0]
    simp only [List.take_zero]
    exact .lnil _ _ _
  · rw [if_neg (by omega)]
    cases hx with
    | lnil a cap => simp at hh; omega
    | lst b off cap E' c ty fz _ _ len hl hcap hb hE' hnp hκ hκ0 hc hv =>
      have hEE : E' = E := by
        have hm := getD_mem (l := xs) (j := l) (d := .any) (by omega)
        rw [← hE' _ hm]; exact hE _ hm
      subst hEE
      have hmem : ∀ x, x ∈ (xs.drop l).take (h - l) → x ∈ xs := fun x hx => List.mem_of_mem_drop (List.mem_of_mem_take hx)
      simp only [Option.map_some, add_lit]
      refine .lst b (off + l * E') (m - l) E' c ty fz o' _ (h - l) hlen.symm (by omega) hb (fun x hx => hE _ (hmem x hx)) (fun x hx => hnp x (hmem x hx)) ?_ hκ0 hc fun i hi j hj => ?_
      · rw [hlen]
        have h1 : h * E' ≤ xs.length * E' := Nat.mul_le_mul_right _ hh
        have h2 : l * E' + (h - l) * E' = h * E' := by rw [← Nat.add_mul]; congr 1; omega
        omega
      · rw [hlen] at hi
        have := hv (l + i) (by omega) j hj
        have e2 : ((xs.drop l).take (h - l)).getD i .any = xs.getD (l + i) .any := by
          simp only [List.getD_eq_getElem?_getD, List.getElem?_take, List.getElem?_drop]; rw [if_pos hi]
        rw [e2, show off + l * E' + i * E' + j = off + (l + i) * E' + j by rw [Nat.add_mul]; omega]
        exact this

theorem run_dSlice {W0 : World} {H : Heap} {t : TypeId} {u : Value} {x d : D} {lo hi mx : Option Value} {dl dh dm : Option D} (hr : Rel W0 σ w H)
    (hx : V σ w u x) (hlo : OV σ w lo dl) (hhi : OV σ w hi dh) (hmx : OV σ w mx dm) (h : dSlice P t x dl dh dm = some d) :
    ∃ r, (Instr.sliceAt t u lo hi mx).run P w = .ok r w ∧ V σ w r d ∧ (noOwn d = true ∨ ∃ xs a, d = .lst .exact xs ∧ r = .slice a xs.length xs.length) := by
  unfold dSlice at h
  split at h
  · rename_i s
    cases hx with
    | str b l hl =>
      subst hl
      split at h
      · rename_i l hh hl1 hl2
        by_cases hb : isStr P t = true ∧ 0 ≤ l ∧ l ≤ hh ∧ hh ≤ b.data.toList.length
        · rw [if_pos hb] at h; cases h
          obtain ⟨h0, h1, h2, h3⟩ := hb
          cases mx with
          | some v => exact hmx.elim
          | none =>
            have hs := run_sliceBounds (P := P) (isS := false) (cap := b.size) hlo hhi hl1 hl2 h1 h2 (by exact h3)
            refine ⟨.string (b.extract l.toNat hh.toNat), ?_, .str _ _ (extract_take _ _ _), .inl rfl⟩
            have hs' : (Instr.sliceBounds false b.size b.size lo hi none).run P w = .ok (l.toNat, hh.toNat, b.size) w := hs
            simp only [Instr.sliceAt, Instr.slice, Sem.run_bind, run_und (isStr_some h0), Result.andThen_ok, Option.isSome_none, Bool.false_eq_true, if_false, Sem.run_pure, hs']
        · rw [if_neg hb] at h; cases h
      · cases h
  · rename_i o xs
    split at h
    · rename_i l hh e hl1 hl2 he
      by_cases hb : 0 ≤ l ∧ l ≤ hh ∧ hh ≤ xs.length ∧ (∀ x ∈ xs, x.cells.length = P.cellsOf e) ∧ known P e = true
      · rw [if_pos hb] at h; cases h
        obtain ⟨h1, h2, h3, h4, h5⟩ := hb
        cases mx with
        | some v => exact hmx.elim
        | none =>
          have hgo : ∀ (a : Option Addr) (len cap : Nat), u = .slice a len cap → len = xs.length → len ≤ cap → (Instr.sliceAt t u lo hi none).run P w = .ok (.slice (if cap = l.toNat then a else a.map (·.add (l.toNat * P.cellsOf e))) (hh.toNat - l.toNat) (cap - l.toNat)) w := by
            rintro a len cap rfl hlen hcap
            have hs := run_sliceBounds (P := P) (isS := true) (len := len) (cap := cap) hlo hhi hl1 (by rw [hlen]; exact hl2) h1 h2 (by omega)
            simp only [Instr.sliceAt, Instr.slice, Sem.run_bind, run_und (slE_some he), Result.andThen_ok, hs, rn_sizeOf (known_parts h5).2, Sem.run_pure]
          cases hx with
          | lnil a cap => exact ⟨_, hgo a 0 cap rfl rfl (Nat.zero_le _), V.sub (.lnil a cap o) _ h4 _ _ (by omega) (by omega) _ (by simp at h3; omega) _, .inl rfl⟩
          | lst b off cap E c ty fz _ _ len hlen hcap hbk hE hnp hκ hκ0 hc hv =>
            exact ⟨_, hgo _ _ cap rfl hlen hcap, V.sub (.lst b off cap E c ty fz o xs len hlen hcap hbk hE hnp hκ hκ0 hc hv) _ h4 _ _ (by omega) (by omega) _ (by omega) _, .inl rfl⟩
      · rw [if_neg hb] at h; cases h
    · rename_i l hh k m e hl1 hl2 he
      by_cases hb : dh.isSome = true ∧ 0 ≤ l ∧ l ≤ hh ∧ m = hh ∧ hh ≤ xs.length ∧ (∀ x ∈ xs, x.cells.length = P.cellsOf e) ∧ known P e = true
      · rw [if_pos hb] at h; cases h
        obtain ⟨h0, h1, h2, hmh, h3, h4, h5⟩ := hb
        subst hmh
        cases mx with
        | none => exact hmx.elim
        | some v =>
          have hv : V σ w v (.int k m) := hmx
          cases hv
          have hne : dh ≠ none := by intro e0; rw [e0] at h0; cases h0
          have hgo : ∀ (a : Option Addr) (len cap : Nat), u = .slice a len cap → len = xs.length → len ≤ cap → (Instr.sliceAt t u lo hi (some (.int k m))).run P w = .ok (.slice (if m.toNat = l.toNat then a else a.map (·.add (l.toNat * P.cellsOf e))) (m.toNat - l.toNat) (m.toNat - l.toNat)) w := by
            rintro a len cap rfl hlen hcap
            have hs := run_sliceBounds3 (P := P) (isS := true) (len := len) (cap := cap) (km := k) hlo hhi hl1 (by rw [hlen]; exact hl2) h1 h2 (Int.le_refl m) (by omega) hne
            simp only [Instr.sliceAt, Instr.slice, Sem.run_bind, run_und (slE_some he), Result.andThen_ok, hs, rn_sizeOf (known_parts h5).2, Sem.run_pure]
          have hlen' : ((xs.drop l.toNat).take (m.toNat - l.toNat)).length = m.toNat - l.toNat := by simp; omega
          cases hx with
          | lnil a cap => exact ⟨_, hgo a 0 cap rfl rfl (Nat.zero_le _), V.sub (.lnil a cap o) _ h4 _ _ (by omega) (by omega) _ (by omega) _, .inr ⟨_, _, rfl, by rw [hlen']⟩⟩
          | lst b off cap E c ty fz _ _ len hlen hcap hbk hE hnp hκ hκ0 hc hv =>
            exact ⟨_, hgo _ _ cap rfl hlen hcap, V.sub (.lst b off cap E c ty fz o xs len hlen hcap hbk hE hnp hκ hκ0 hc hv) _ h4 _ _ (by omega) (by omega) _ (by omega) _, .inr ⟨_, _, rfl, by rw [hlen']⟩⟩
      · rw [if_neg hb] at h; cases h
    · cases h
  · rename_i b off
    split at h
    · rename_i l n e hl1 he
      split at h
      · rename_i hh hl2
        by_cases hb : 0 ≤ l ∧ l ≤ hh ∧ hh ≤ n ∧ l < n ∧ known P e = true
        · rw [if_pos hb] at h; cases h
          obtain ⟨h1, h2, h3, h4, h5⟩ := hb
          cases mx with
          | some v => exact hmx.elim
          | none =>
            have hs := run_sliceBounds (P := P) (isS := false) (len := n) (cap := n) hlo hhi hl1 hl2 h1 h2 (by omega)
            cases hx with
            | ptr _ _ hin =>
              refine ⟨.slice (some ⟨σ.ι b, off + l.toNat * P.cellsOf e, none⟩) (hh.toNat - l.toNat) (n - l.toNat), ?_, .ref b _ _ _ _ hin (by omega), .inl rfl⟩
              have hne : ¬ (n = l.toNat) := by omega
              simp only [Instr.sliceAt, Instr.sureAddr, Sem.run_bind, run_und (arE_some he), Result.andThen_ok, hs, rn_sizeOf (known_parts h5).2, Sem.run_pure, add_lit, hne, if_false]
        · rw [if_neg hb] at h; cases h
      · cases h
    · cases h
  · rename_i b off len cap e'
    split at h
    · rename_i l hh e hl1 hl2 he
      by_cases hb : 0 ≤ l ∧ l ≤ hh ∧ hh ≤ cap ∧ e' = P.cellsOf e ∧ known P e = true
      · rw [if_pos hb] at h; cases h
        obtain ⟨h1, h2, h3, h4, h5⟩ := hb
        subst h4
        cases mx with
        | some v => exact hmx.elim
        | none =>
          cases hx with
          | ref _ _ _ _ _ hin hcap =>
            have hs := run_sliceBounds (P := P) (isS := true) (len := len) (cap := cap) hlo hhi hl1 hl2 h1 h2 (by omega)
            refine ⟨.slice (some ⟨σ.ι b, if cap = l.toNat then off else off + l.toNat * P.cellsOf e, none⟩) (hh.toNat - l.toNat) (cap - l.toNat), ?_, .ref b _ _ _ _ hin (by omega), .inl rfl⟩
            simp only [Instr.sliceAt, Instr.slice, Sem.run_bind, run_und (slE_some he), Result.andThen_ok, hs, rn_sizeOf (known_parts h5).2, Sem.run_pure]
            by_cases hcl : cap = l.toNat
            · simp only [hcl, if_true]
            · simp only [hcl, if_false, Option.map_some, add_lit]
      · rw [if_neg hb] at h; cases h
    · cases h
  · cases h

end
end Dl
