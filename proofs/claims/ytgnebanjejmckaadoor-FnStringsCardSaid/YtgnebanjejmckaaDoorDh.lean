/- The operations that make or write memory. -/
import Derived.Test.YtgnebanjejmckaaDoorDg
import Derived.Laws.MakeOwn
namespace Dl
open Go

section
variable {P : Program} {σ σ' : Sig} {w w' : World}

theorem mapM_run {α β : Type} {g : α → Sem β} {h : α → β} (l : List α) (hg : ∀ x ∈ l, (g x).run P w = .ok (h x) w) : (l.mapM g).run P w = .ok (l.map h) w := by
  induction l with
  | nil => simp
  | cons a l ih =>
    rw [List.mapM_cons]
    simp only [Sem.run_bind, hg a (by simp), Result.andThen_ok, ih (fun x hx => hg x (by simp [hx])), Sem.run_pure, List.map_cons]

theorem fieldsKnown_some {t : TypeId} (h : fieldsKnown P t = true) : ∃ fs, P.underlying t = some (.struct fs) ∧ ∀ f ∈ fs.toList, (P.info? f.type).isSome = true := by
  unfold fieldsKnown at h
  split at h
  · rename_i fs hu
    exact ⟨fs, hu, fun f hf => List.all_eq_true.1 h f hf⟩
  · cases h

theorem run_dBuild {t : TypeId} {parts : List (Nat × Value)} {dparts : List (Nat × D)} {d : D} (hm : parts.map (·.1) = dparts.map (·.1))
    (hv : ∀ i, i < parts.length → V σ w ((parts.getD i default).2) ((dparts.getD i default).2)) (h : dBuild P t dparts = some d) :
    ∃ r, (Instr.build t parts.toArray).run P w = .ok r w ∧ V σ w r d ∧ noOwn d = true := by
  unfold dBuild at h
  split at h
  · rename_i z hz
    obtain ⟨i, v, hi, hzv, hrun, hcv⟩ := zeroD_run (σ := σ) (w := w) hz
    split at h
    · rename_i n e ha
      have hu := arE_some ha
      by_cases hk : known P e = true
      · rw [if_pos hk] at h
        obtain ⟨r, hr, rfl⟩ := Option.map_eq_some_iff.1 h
        obtain ⟨c', hc', hcr⟩ := fill_run (place := fun i => some (i * P.cellsOf e, P.cellsOf e)) (fun i x hx => hx) parts dparts _ _ r hm hv hcv hr
        refine ⟨.agg c', ?_, .agg _ _ hcr.1 hcr.2, rfl⟩
        simp only [Instr.build, Sem.run_bind, hrun, Result.andThen_ok, run_und hu, rn_sizeOf (known_parts hk).2, hc', Sem.run_pure]
      · rw [if_neg hk] at h; cases h
    · rename_i ha
      by_cases hk : fieldsKnown P t = true
      · rw [if_pos hk] at h
        obtain ⟨r, hr, rfl⟩ := Option.map_eq_some_iff.1 h
        obtain ⟨fs, hu, hfs⟩ := fieldsKnown_some hk
        have hmap : (fs.mapM fun f => do pure (f.offset, ← Go.sizeOf f.type) : Sem (Array (Nat × Nat))).run P w = .ok (fs.map fun f => (f.offset, P.cellsOf f.type)) w := by
          rw [Array.mapM_eq_mapM_toList, Sem.run_map]
          rw [mapM_run (h := fun f => (f.offset, P.cellsOf f.type)) fs.toList (fun f hf => by simp only [Sem.run_bind, rn_sizeOf (hfs f hf), Result.andThen_ok, Sem.run_pure])]
          simp only [Result.andThen_ok]
          congr 1
          exact Array.toList_inj.1 (by simp)
        obtain ⟨c', hc', hcr⟩ := fill_run (place := fun i => (fs.map fun f => (f.offset, P.cellsOf f.type))[i]?) (fun i x hx => by
          obtain ⟨y, hy, rfl⟩ := Option.map_eq_some_iff.1 hx
          obtain ⟨fs', fd, hu', hfd, ho, hft⟩ := fieldOf_some (off := y.1) (ft := y.2) hy
          rw [hu] at hu'; cases hu'
          rw [Array.getElem?_map, hfd, ← ho, ← hft]; rfl) parts dparts _ _ r hm hv hcv hr
        refine ⟨.agg c', ?_, .agg _ _ hcr.1 hcr.2, rfl⟩
        simp only [Instr.build, Sem.run_bind, hrun, Result.andThen_ok, run_und hu, hmap, hc', Sem.run_pure]
      · rw [if_neg hk] at h; cases h
  · cases h

/-! ### New blocks -/

theorem zeroD_np1 {t : TypeId} {z : List D} (h : zeroD P t = some z) : ∀ d ∈ z, d.np1 = true := by
  unfold zeroD at h
  split at h
  · obtain ⟨v, _, rfl⟩ := Option.map_eq_some_iff.1 h
    unfold ofVal
    split <;> try (intro d hd; simp [D.cells] at hd; subst hd; rfl)
    · intro d hd
      simp only [D.cells, List.mem_map] at hd
      obtain ⟨u, _, rfl⟩ := hd
      split <;> rfl
  · cases h

theorem CV.at {c : Array Value} {ds : List D} (h : CV σ w c ds) : ∀ j, j < c.size → V σ w (c.getD j undef) (ds.getD j .any) :=
  fun j hj => h.2 j (by rw [← h.1]; exact hj)

theorem np1_pl (d : D) : d.pl.np1 = d.np1 := by cases d <;> rfl
theorem bx_pl (d : D) : d.pl.bx = d.bx := by cases d <;> rfl
theorem sc_pl (d : D) : d.pl.sc = d.sc := by cases d <;> rfl

theorem St.box {W0 : World} {σ0 : Sig} {w0 : World} {nt : Nat} {fr : Fr} {H : Heap} {a : Act} (h : St P W0 σ0 w0 nt σ fr H a w) (c : Array Value) (ty : TypeId) (ds : List D)
    (hc : CV σ w c ds) (hn : ∀ d ∈ ds, d.bx = true) : St P W0 σ0 w0 nt (σ.box w.heap.size) fr (H ++ [ds]) a (w.alloc (.cells c ty)) :=
  h.world (step_box σ w _) (rel_box h.rel c ty (0, 0) (fzOk_0 c) ds hc.1 hc.at hn)
theorem St.boxF {W0 : World} {σ0 : Sig} {w0 : World} {nt : Nat} {fr : Fr} {H : Heap} {a : Act} (h : St P W0 σ0 w0 nt σ fr H a w) (c : Array Value) (ty : TypeId) (fz : Nat × Nat) (hfz : fzOk c fz) (ds : List D)
    (hc : CV σ w c ds) (hn : ∀ d ∈ ds, d.bx = true) : St P W0 σ0 w0 nt (σ.box w.heap.size) fr (H ++ [ds]) a (w.alloc (.cells c ty fz)) :=
  h.world (step_box σ w _) (rel_box h.rel c ty fz hfz ds hc.1 hc.at hn)

theorem flat_getD {E : Nat} : ∀ (xs : List D), (∀ x ∈ xs, x.cells.length = E) → ∀ i, i < xs.length → ∀ j, j < E →
    (xs.flatMap D.cells).getD (i * E + j) .any = (xs.getD i .any).cells.getD j .any
  | x :: xs, hE, i, hi, j, hj => by
    have h0 : x.cells.length = E := hE x (by simp)
    simp only [List.flatMap_cons, List.getD_eq_getElem?_getD]
    cases i with
    | zero =>
      rw [List.getElem?_append_left (by omega)]
      simp
    | succ i =>
      rw [List.getElem?_append_right (by rw [h0, Nat.add_mul]; omega)]
      rw [show (i + 1) * E + j - x.cells.length = i * E + j by rw [h0, Nat.add_mul]; omega]
      have := flat_getD xs (fun y hy => hE y (by simp [hy])) i (by simpa using hi) j hj
      simpa [List.getD_eq_getElem?_getD] using this
theorem flat_length {E : Nat} : ∀ (xs : List D), (∀ x ∈ xs, x.cells.length = E) → (xs.flatMap D.cells).length = xs.length * E
  | [], _ => by simp
  | x :: xs, hE => by
    rw [List.flatMap_cons, List.length_append, hE x (by simp), flat_length xs (fun y hy => hE y (by simp [hy])), List.length_cons, Nat.add_mul]; omega

/-- A block whose first cells are those of a list's elements. -/
theorem V.of_block {xs : List D} {E g cap : Nat} {c : Array Value} {ty : TypeId} {fz : Nat × Nat} (o : Own) (hb : w.heap[g]? = some (.cells c ty fz)) (hE : ∀ x ∈ xs, x.cells.length = E)
    (hn : ∀ x ∈ xs, ∀ d ∈ x.cells, d.np1 = true) (hE0 : 0 < E) (hk : σ.κ g = xs.length * E) (hc : xs.length * E ≤ c.size) (hcap : xs.length ≤ cap)
    (hv : ∀ j, j < xs.length * E → V σ w (c.getD j undef) ((xs.flatMap D.cells).getD j .any)) : V σ w (.slice (some ⟨g, 0, none⟩) xs.length cap) (.lst o xs) := by
  rcases Nat.eq_zero_or_pos xs.length with h0 | h0
  · have : xs = [] := List.eq_nil_of_length_eq_zero h0
    subst this
    exact .lnil _ _ _
  · refine .lst g 0 cap E c ty fz o xs _ rfl hcap hb hE hn (by omega) (by rw [hk]; exact Nat.mul_pos h0 hE0) (by omega) fun i hi j hj => ?_
    have hlt : i * E + j < xs.length * E := by
      have : (i + 1) * E ≤ xs.length * E := Nat.mul_le_mul_right _ hi
      rw [Nat.add_mul] at this; omega
    have := hv (i * E + j) hlt
    rw [flat_getD xs hE i hi j hj] at this
    rw [Nat.zero_add]; exact this

theorem V.np_els {v : Value} {o : Own} {xs : List D} (hv : V σ w v (.lst o xs)) : ∀ x ∈ xs, ∀ d ∈ x.cells, d.np1 = true := by
  cases hv with
  | lnil a cap => intro x hx; cases hx
  | lst b off cap E c ty fz _ _ len hl hcap hb hE' hnp => exact hnp

/-- Cells of a list as they lie in memory. -/
theorem V.lst_cells {xs : List D} {o : Own} {a : Option Addr} {len cap : Nat} (hx : V σ w (.slice a len cap) (.lst o xs)) {E : Nat} (hE : ∀ x ∈ xs, x.cells.length = E) (h0 : 0 < xs.length) :
    ∃ b off c ty fz, a = some ⟨b, off, none⟩ ∧ w.heap[b]? = some (.cells c ty fz) ∧ off + xs.length * E ≤ c.size ∧ off + xs.length * E ≤ σ.κ b ∧
      ∀ j, j < xs.length * E → V σ w (c.getD (off + j) undef) ((xs.flatMap D.cells).getD j .any) := by
  cases hx with
  | lnil a cap => simp at h0
  | lst b off cap E' c ty fz _ _ len hlen hcap hb hE' hnp hκ hκ0 hc hv =>
    have hEE : E' = E := by
      have hm := getD_mem (l := xs) (j := 0) (d := .any) h0
      rw [← hE' _ hm]; exact hE _ hm
    subst hEE
    refine ⟨b, off, c, ty, fz, rfl, hb, by omega, hκ, fun j hj => ?_⟩
    have hE0 : 0 < E' := by
      rcases Nat.eq_zero_or_pos E' with h | h
      · rw [h] at hj; simp at hj
      · exact h
    have hd : j = j / E' * E' + j % E' := by rw [Nat.mul_comm]; exact (Nat.div_add_mod j E').symm
    have hq : j / E' < xs.length := Nat.div_lt_of_lt_mul (by rw [Nat.mul_comm]; exact hj)
    have := hv (j / E') hq (j % E') (Nat.mod_lt _ hE0)
    rw [← flat_getD xs hE _ hq _ (Nat.mod_lt _ hE0)] at this
    rw [show off + j / E' * E' + j % E' = off + j by omega, ← hd] at this
    exact this

theorem getD_append_left {α : Type} {xs ys : List α} {j : Nat} {d : α} (h : j < xs.length) : (xs ++ ys).getD j d = xs.getD j d := by
  simp only [List.getD_eq_getElem?_getD]; rw [List.getElem?_append_left h]
theorem getD_append_right {α : Type} {xs ys : List α} {j : Nat} {d : α} (h : xs.length ≤ j) : (xs ++ ys).getD j d = ys.getD (j - xs.length) d := by
  simp only [List.getD_eq_getElem?_getD]; rw [List.getElem?_append_right h]

theorem CV.append {c c' : Array Value} {ds ds' : List D} (h : CV σ w c ds) (h' : CV σ w c' ds') : CV σ w (c ++ c') (ds ++ ds') := by
  refine ⟨by simp [h.1, h'.1], fun j hj => ?_⟩
  rcases Nat.lt_or_ge j ds.length with hlt | hge
  · have e1 : (c ++ c').getD j undef = c.getD j undef := by
      simp only [Array.getD_eq_getD_getElem?]; rw [Array.getElem?_append_left (by rw [h.1]; exact hlt)]
    rw [e1, getD_append_left hlt]; exact h.2 j hlt
  · have e1 : (c ++ c').getD j undef = c'.getD (j - ds.length) undef := by
      simp only [Array.getD_eq_getD_getElem?]; rw [Array.getElem?_append_right (by rw [h.1]; exact hge), h.1]
    rw [e1, getD_append_right hge]
    exact h'.2 _ (by rw [List.length_append] at hj; omega)

theorem cv_made {z : List D} {zv : Array Value} {E : Nat} (hz : CV σ w zv z) (hE : z.length = E) (h0 : 0 < E) (n : Nat) : CV σ w (madeCells zv (n * E)) (List.replicate n z).flatten := by
  have hl : (List.replicate n z).flatten.length = n * E := by simp [hE]
  refine ⟨by rw [size_madeCells, hl], fun j hj => ?_⟩
  rw [hl] at hj
  have e1 : (madeCells zv (n * E)).getD j undef = zv.getD (j % E) undef := by
    have hzs : zv.size = E := by rw [hz.1, hE]
    have hlt : j % E < zv.size := by rw [hzs]; exact Nat.mod_lt _ h0
    simp only [madeCells, Array.getD_eq_getD_getElem?, Array.getElem?_map, Array.getElem?_range, hj, if_true, Option.map_some, Option.getD_some, hzs]
    rw [getElem!_pos zv (j % E) hlt, Array.getElem?_eq_getElem hlt]; rfl
  have e2 : (List.replicate n z).flatten.getD j .any = z.getD (j % E) .any := by
    clear e1 hl
    induction n generalizing j with
    | zero => simp at hj
    | succ n ih =>
      rw [List.replicate_succ, List.flatten_cons]
      simp only [List.getD_eq_getElem?_getD] at ih ⊢
      rcases Nat.lt_or_ge j z.length with h | h
      · rw [List.getElem?_append_left h, Nat.mod_eq_of_lt (by omega)]
      · rw [List.getElem?_append_right h, ih (j - z.length) (by rw [hE]; rw [Nat.add_mul] at hj; omega), hE]
        congr 2
        rw [hE] at h
        exact (Nat.mod_eq_sub_mod h).symm
  rw [e1, e2]
  exact hz.2 _ (by rw [hE]; exact Nat.mod_lt _ h0)

/-- Cells of elements that are taken out of a row. -/
theorem chop_flat (P : Program) (e : TypeId) (cs : List D) (hA : aggB P e = true ∨ P.cellsOf e = 1) : ∀ n, n * P.cellsOf e ≤ cs.length → (∀ d ∈ cs.take (n * P.cellsOf e), d.np1 = true) → (chop P e n cs).flatMap D.cells = cs.take (n * P.cellsOf e)
  | 0, _, _ => by simp [chop]
  | n + 1, hn, hd => by
    rw [Nat.add_mul, Nat.one_mul] at hn hd
    have ih := chop_flat P e cs hA n (by omega) (fun d h => hd d (List.mem_of_mem_take (i := n * P.cellsOf e) (by rw [List.take_take, Nat.min_eq_left (by omega)]; exact h)))
    have e1 : chop P e (n + 1) cs = chop P e n cs ++ [if aggB P e then .agg ((cs.drop (n * P.cellsOf e)).take (P.cellsOf e)) else cs.getD n .any] := by
      simp only [chop, List.range_succ, List.map_append, List.map_cons, List.map_nil]
    rw [e1, List.flatMap_append, ih, Nat.add_mul, Nat.one_mul, List.take_add]
    congr 1
    simp only [List.flatMap_cons, List.flatMap_nil, List.append_nil]
    by_cases hAA : aggB P e = true
    · rw [if_pos hAA]; rfl
    · rw [if_neg hAA]
      have h1 : P.cellsOf e = 1 := hA.resolve_left hAA
      rw [h1] at hn hd ⊢
      rw [Nat.mul_one] at hn hd ⊢
      have hlt : n < cs.length := by omega
      have e2 : cs.getD n .any = cs[n] := by rw [List.getD_eq_getElem?_getD, List.getElem?_eq_getElem hlt]; rfl
      have hm : cs[n] ∈ cs.take (n + 1) := by
        rw [List.mem_take_iff_getElem]; exact ⟨n, by omega, rfl⟩
      have hnp := hd _ hm
      rw [e2, List.drop_eq_getElem_cons hlt, List.take_succ_cons, List.take_zero]
      revert hnp
      generalize cs[n] = d
      intro hnp
      cases d <;> first | rfl | simp [D.np1] at hnp
theorem chop_len (P : Program) (e : TypeId) (n : Nat) (cs : List D) : (chop P e n cs).length = n := by simp [chop]

/-- Where the elements lie that are to be appended. -/
def Src (P : Program) (σ : Sig) (w : World) (e : TypeId) (y : Value) (ys : List D) : Prop :=
  ∃ ad cap2, y = .slice ad ys.length cap2 ∧ (0 < ys.length → ∃ b off c ty fz, ad = some ⟨b, off, none⟩ ∧ w.heap[b]? = some (.cells c ty fz) ∧ off + ys.length * P.cellsOf e ≤ c.size ∧
    ∀ j, j < ys.length * P.cellsOf e → V σ w (c.getD (off + j) undef) ((ys.flatMap D.cells).getD j .any))

theorem elsOf_src {W0 : World} {H : Heap} {e : TypeId} {y : Value} {dy : D} {ys : List D} (hr : Rel W0 σ w H) (hv : V σ w y dy) (he : elsOf P H e dy = some ys) (hE : ∀ x ∈ ys, x.cells.length = P.cellsOf e) : Src P σ w e y ys := by
  unfold elsOf at he
  split at he
  · cases he
    have hs : ∃ ad cap2, y = .slice ad ys.length cap2 := by
      cases hv with
      | lnil a cap => exact ⟨a, cap, rfl⟩
      | lst b off cap E c ty fz _ _ len hl => subst hl; exact ⟨_, cap, rfl⟩
    obtain ⟨ad, cap2, rfl⟩ := hs
    refine ⟨ad, cap2, rfl, fun h0 => ?_⟩
    obtain ⟨b, off, c, ty, fz, h1, h2, h3, _, h4⟩ := V.lst_cells hv hE h0
    exact ⟨b, off, c, ty, fz, h1, h2, h3, h4⟩
  · rename_i b off len cap e'
    split at he
    · rename_i hc
      obtain ⟨h1, h2, h3, h4, h5⟩ := hc
      cases he
      have hdl : len * P.cellsOf e ≤ ((hget H b).drop off).length := by rw [List.length_drop]; omega
      have hfl := chop_flat P e ((hget H b).drop off) h4 len hdl h5
      cases hv with
      | ref _ _ _ _ _ hi hcap =>
        obtain ⟨c, ty, fz, q1, _, q2, _, q3⟩ := hr.box b hi
        refine ⟨some ⟨σ.ι b, off, none⟩, cap, by rw [chop_len], fun _ => ⟨σ.ι b, off, c, ty, fz, rfl, q1, by rw [chop_len, q2]; exact h3, fun j hj => ?_⟩⟩
        rw [chop_len] at hj
        rw [hfl]
        have e2 : (((hget H b).drop off).take (len * P.cellsOf e)).getD j .any = (hget H b).getD (off + j) .any := by
          simp only [List.getD_eq_getElem?_getD, List.getElem?_take, List.getElem?_drop]; rw [if_pos hj]
        rw [e2]
        exact q3 _ (by omega)
    · cases he
  · cases he

end
end Dl
