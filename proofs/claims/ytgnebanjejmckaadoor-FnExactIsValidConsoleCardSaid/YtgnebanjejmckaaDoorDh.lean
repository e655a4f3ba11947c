/- The operations that make or write memory. -/
import Derived.Test.YtgnebanjejmckaaDoorDg
import Derived.Laws.MakeOwn
namespace Dl
open Go

section
variable {P : Program} {σ σ' : Sig} {w w' : World}

theorem mapM_run {α β : Type} {g : α → Sem β} {h : α → β} (l : List α) (hg : ∀ x ∈ l, (g x).run P w = .ok (h x) w) : (l.mapM g).run P w = .ok (l.map h) w := by
  induction l with
  | nil => simp
  | cons a l ih =>
    rw [List.mapM_cons]
    simp only [Sem.run_bind, hg a (by simp), Result.andThen_ok, ih (fun x hx => hg x (by simp [hx])), Sem.run_pure, List.map_cons]

theorem fieldsKnown_some {t : TypeId} (h : fieldsKnown P t = true) : ∃ fs, P.underlying t = some (.struct fs) ∧ ∀ f ∈ fs.toList, (P.info? f.type).isSome = true := by
  unfold fieldsKnown at h
  split at h
  · rename_i fs hu
    exact ⟨fs, hu, fun f hf => List.all_eq_true.1 h f hf⟩
  · cases h

theorem run_dBuild {t : TypeId} {parts : List (Nat × Value)} {dparts : List (Nat × D)} {d : D} (hm : parts.map (·.1) = dparts.map (·.1))
    (hv : ∀ i, i < parts.length → V σ w ((parts.getD i default).2) ((dparts.getD i default).2)) (h : dBuild P t dparts = some d) :
    ∃ r, (Instr.build t parts.toArray).run P w = .ok r w ∧ V σ w r d ∧ noOwn d = true := by
  unfold dBuild at h
  split at h
  · rename_i z hz
    obtain ⟨i, v, hi, hzv, hrun, hcv⟩ := zeroD_run (σ := σ) (w := w) hz
    split at h
    · rename_i n e ha
      have hu := arE_some ha
      by_cases hk : known P e = true
      · rw [if_pos hk] at h
        obtain ⟨r, hr, rfl⟩ := Option.map_eq_some_iff.1 h
        obtain ⟨c', hc', hcr⟩ := fill_run (place := fun i => some (i * P.cellsOf e, P.cellsOf e)) (fun i x hx => hx) parts dparts _ _ r hm hv hcv hr
        refine ⟨.agg c', ?_, .agg _ _ hcr.1 hcr.2, rfl⟩
        simp only [Instr.build, Sem.run_bind, hrun, Result.andThen_ok, run_und hu, rn_sizeOf (known_parts hk).2, hc', Sem.run_pure]
      · rw [if_neg hk] at h; cases h
    · rename_i ha
      by_cases hk : fieldsKnown P t = true
      · rw [if_pos hk] at h
        obtain ⟨r, hr, rfl⟩ := Option.map_eq_some_iff.1 h
        obtain ⟨fs, hu, hfs⟩ := fieldsKnown_some hk
        have hmap : (fs.mapM fun f => do pure (f.offset, ← Go.sizeOf f.type) : Sem (Array (Nat × Nat))).run P w = .ok (fs.map fun f => (f.offset, P.cellsOf f.type)) w := by
          rw [Array.mapM_eq_mapM_toList, Sem.run_map]
          rw [mapM_run (h := fun f => (f.offset, P.cellsOf f.type)) fs.toList (fun f hf => by simp only [Sem.run_bind, rn_sizeOf (hfs f hf), Result.andThen_ok, Sem.run_pure])]
          simp only [Result.andThen_ok]
          congr 1
          exact Array.toList_inj.1 (by simp)
        obtain ⟨c', hc', hcr⟩ := fill_run (place := fun i => (fs.map fun f => (f.offset, P.cellsOf f.type))[i]?) (fun i x hx => by
          obtain ⟨y, hy, rfl⟩ := Option.map_eq_some_iff.1 hx
          obtain ⟨fs', fd, hu', hfd, ho, hft⟩ := fieldOf_some (off := y.1) (ft := y.2) hy
          rw [hu] at hu'; cases hu'
          rw [Array.getElem?_map, hfd, ← ho, ← hft]; rfl) parts dparts _ _ r hm hv hcv hr
        refine ⟨.agg c', ?_, .agg _ _ hcr.1 hcr.2, rfl⟩
        simp only [Instr.build, Sem.run_bind, hrun, Result.andThen_ok, run_und hu, hmap, hc', Sem.run_pure]
      · rw [if_neg hk] at h; cases h
  · cases h

/-! ### New blocks -/

theorem zeroD_np1 {t : TypeId} {z : List D} (h : zeroD P t = some z) : ∀ d ∈ z, d.np1 = true := by
  unfold zeroD at h
  split at h
  · obtain ⟨v, _, rfl⟩ := Option.map_eq_some_iff.1 h
    unfold ofVal
    split <;> try (intro d hd; simp [D.cells] at hd; subst hd; rfl)
    · intro d hd
      simp only [D.cells, List.mem_map] at hd
      obtain ⟨u, _, rfl⟩ := hd
      split <;> rfl
  · cases h

theorem CV.at {c : Array Value} {ds : List D} (h : CV σ w c ds) (hn : ∀ d ∈ ds, d.np1 = true) : ∀ j, j < c.size → V σ w (c.getD j undef) (ds.getD j .any) ∧ (ds.getD j .any).np1 = true :=
  fun j hj => ⟨h.2 j (by rw [← h.1]; exact hj), hn _ (getD_mem (by rw [← h.1]; exact hj))⟩

theorem np1_pl (d : D) : d.pl.np1 = d.np1 := by cases d <;> rfl
theorem sc_pl (d : D) : d.pl.sc = d.sc := by cases d <;> rfl

theorem St.box {W0 : World} {σ0 : Sig} {w0 : World} {nt : Nat} {fr : Fr} {H : Heap} {a : Act} (h : St P W0 σ0 w0 nt σ fr H a w) (c : Array Value) (ty : TypeId) (ds : List D)
    (hc : CV σ w c ds) (hn : ∀ d ∈ ds, d.np1 = true) : St P W0 σ0 w0 nt (σ.box w.heap.size) fr (H ++ [ds]) a (w.alloc (.cells c ty)) :=
  h.world (step_box σ w _) (rel_box h.rel c ty ds hc.1 (hc.at hn))

theorem flat_getD {E : Nat} : ∀ (xs : List D), (∀ x ∈ xs, x.cells.length = E) → ∀ i, i < xs.length → ∀ j, j < E →
    (xs.flatMap D.cells).getD (i * E + j) .any = (xs.getD i .any).cells.getD j .any
  | x :: xs, hE, i, hi, j, hj => by
    have h0 : x.cells.length = E := hE x (by simp)
    simp only [List.flatMap_cons, List.getD_eq_getElem?_getD]
    cases i with
    | zero =>
      rw [List.getElem?_append_left (by omega)]
      simp
    | succ i =>
      rw [List.getElem?_append_right (by rw [h0, Nat.add_mul]; omega)]
      rw [show (i + 1) * E + j - x.cells.length = i * E + j by rw [h0, Nat.add_mul]; omega]
      have := flat_getD xs (fun y hy => hE y (by simp [hy])) i (by simpa using hi) j hj
      simpa [List.getD_eq_getElem?_getD] using this
theorem flat_length {E : Nat} : ∀ (xs : List D), (∀ x ∈ xs, x.cells.length = E) → (xs.flatMap D.cells).length = xs.length * E
  | [], _ => by simp
  | x :: xs, hE => by
    rw [List.flatMap_cons, List.length_append, hE x (by simp), flat_length xs (fun y hy => hE y (by simp [hy])), List.length_cons, Nat.add_mul]; omega

/-- A block whose first cells are those of a list's elements. -/
theorem V.of_block {xs : List D} {E g cap : Nat} {c : Array Value} {ty : TypeId} {fz : Nat × Nat} (o : Own) (hb : w.heap[g]? = some (.cells c ty fz)) (hE : ∀ x ∈ xs, x.cells.length = E)
    (hn : ∀ x ∈ xs, ∀ d ∈ x.cells, d.np1 = true) (hE0 : 0 < E) (hk : σ.κ g = xs.length * E) (hc : xs.length * E ≤ c.size) (hcap : xs.length ≤ cap)
    (hv : ∀ j, j < xs.length * E → V σ w (c.getD j undef) ((xs.flatMap D.cells).getD j .any)) : V σ w (.slice (some ⟨g, 0, none⟩) xs.length cap) (.lst o xs) := by
  rcases Nat.eq_zero_or_pos xs.length with h0 | h0
  · have : xs = [] := List.eq_nil_of_length_eq_zero h0
    subst this
    exact .lnil _ _ _
  · refine .lst g 0 cap E c ty fz o xs _ rfl hcap hb hE hn (by omega) (by rw [hk]; exact Nat.mul_pos h0 hE0) (by omega) fun i hi j hj => ?_
    have hlt : i * E + j < xs.length * E := by
      have : (i + 1) * E ≤ xs.length * E := Nat.mul_le_mul_right _ hi
      rw [Nat.add_mul] at this; omega
    have := hv (i * E + j) hlt
    rw [flat_getD xs hE i hi j hj] at this
    rw [Nat.zero_add]; exact this

/-- Cells of a list as they lie in memory. -/
theorem V.lst_cells {xs : List D} {o : Own} {a : Option Addr} {len cap : Nat} (hx : V σ w (.slice a len cap) (.lst o xs)) {E : Nat} (hE : ∀ x ∈ xs, x.cells.length = E) (h0 : 0 < xs.length) :
    ∃ b off c ty fz, a = some ⟨b, off, none⟩ ∧ w.heap[b]? = some (.cells c ty fz) ∧ off + xs.length * E ≤ c.size ∧ off + xs.length * E ≤ σ.κ b ∧
      ∀ j, j < xs.length * E → V σ w (c.getD (off + j) undef) ((xs.flatMap D.cells).getD j .any) := by
  cases hx with
  | lnil a cap => simp at h0
  | lst b off cap E' c ty fz _ _ len hlen hcap hb hE' hnp hκ hκ0 hc hv =>
    have hEE : E' = E := by
      have hm := getD_mem (l := xs) (j := 0) (d := .any) h0
      rw [← hE' _ hm]; exact hE _ hm
    subst hEE
    refine ⟨b, off, c, ty, fz, rfl, hb, by omega, hκ, fun j hj => ?_⟩
    have hE0 : 0 < E' := by
      rcases Nat.eq_zero_or_pos E' with h | h
      · rw [h] at hj; simp at hj
      · exact h
    have hd : j = j / E' * E' + j % E' := by rw [Nat.mul_comm]; exact (Nat.div_add_mod j E').symm
    have hq : j / E' < xs.length := Nat.div_lt_of_lt_mul (by rw [Nat.mul_comm]; exact hj)
    have := hv (j / E') hq (j % E') (Nat.mod_lt _ hE0)
    rw [← flat_getD xs hE _ hq _ (Nat.mod_lt _ hE0)] at this
    rw [show off + j / E' * E' + j % E' = off + j by omega, ← hd] at this
    exact this

end
end Dl
