/- Appends whose result is a box, bytes of a text, 'clear'. -/
import Derived.Test.YtgnebanjejmckaaDoorDk
import Derived.Laws.IdiomStrings
namespace Dl
open Go

section
variable {P : Program} {W0 : World} {σ0 σ σ' : Sig} {w0 w w' : World} {fr : Fr} {H H' : Heap} {a : Act} {nt : Nat}

/-- What an operation gives whose value is no owner: the value, and the boxes behind it. -/
def Gives (P : Program) (W0 : World) (σ0 : Sig) (w0 : World) (nt : Nat) (fr : Fr) (a : Act) (K : D → Heap → Prop) (v : Value) (w' : World) : Prop :=
  ∃ σ' d H', K d H' ∧ St P W0 σ0 w0 nt σ' fr H' a w' ∧ V σ' w' v d ∧ OwnV P σ' w0.heap.size w' v d ∧ ∀ g, ¬ holds v d g

theorem V_ref_box (h : St P W0 σ0 w0 nt σ fr H a w) (w' : World) (n cap e : Nat) (hn : n ≤ cap) : V (σ.box w.heap.size) w' (.slice (some ⟨w.heap.size, 0, none⟩) n cap) (.ref H.length 0 n cap e) := by
  have hι : (σ.box w.heap.size).ι H.length = w.heap.size := by rw [← h.rel.n]; simp [Sig.box]
  have := V.ref (σ := σ.box w.heap.size) (w := w') H.length 0 n cap e (by rw [← h.rel.n]; simp [Sig.box]) hn
  rwa [hι] at this

theorem CV.drew {c : Array Value} {ds : List D} (h : CV σ w c ds) : CV σ w.drew c ds := ⟨h.1, fun j hj => (h.2 j hj).mono (ext_drew σ w)⟩

/-- A new row, behind a draw, as a box. -/
theorem gives_new (h : St P W0 σ0 w0 nt σ fr H a w) {K : D → Heap → Prop} (arr : Array Value) (ty : TypeId) (fz : Nat × Nat) (hfz : fzOk arr fz) (n cap e : Nat) (hn : n ≤ cap) (ds : List D) (hcv : CV σ w arr ds) (hbx : ∀ d ∈ ds, d.bx = true) (hK : K (.ref H.length 0 n cap e) (H ++ [ds])) :
    Gives P W0 σ0 w0 nt fr a K (.slice (some ⟨w.heap.size, 0, none⟩) n cap) (w.drew.alloc (.cells arr ty fz)) :=
  ⟨σ.box w.heap.size, _, _, hK, h.drew.boxF arr ty fz hfz ds hcv.drew hbx, V_ref_box h _ n cap e hn, .of_noOwn rfl, fun _ => not_holds_of_noOwn rfl⟩

theorem zeros_cv {e : TypeId} {z : List D} {zv : Array Value} (hz : zeroD P e = some z) (hzc : CV σ w zv z) (hl : z.length = P.cellsOf e) (h0 : 0 < P.cellsOf e) (k : Nat) : CV σ w (Builtin.zeroCells zv k) (zeros P e k) := by
  have h := cv_made (σ := σ) (w := w) hzc hl h0 k
  have e1 : Builtin.zeroCells zv k = madeCells zv (k * P.cellsOf e) := by
    have hs : zv.size = P.cellsOf e := by rw [hzc.1, hl]
    simp only [Builtin.zeroCells, madeCells, hs]
  rw [e1]
  simpa [zeros, hz] using h

theorem zeroOk_some {e : TypeId} (hz : zeroOk P e = true) : ∃ z, zeroD P e = some z ∧ z.length = P.cellsOf e := by
  unfold zeroOk at hz
  split at hz
  · rename_i z hz'; exact ⟨z, hz', by simpa using hz⟩
  · cases hz

theorem src_cv {e : TypeId} {y : Value} {ys : List D} (hs : Src P σ w e y ys) (hE : ∀ x ∈ ys, x.cells.length = P.cellsOf e) (h0 : 0 < ys.length) :
    ∃ (ad : Addr) (cap2 : Nat) (news : List Value), y = .slice (some ad) ys.length cap2 ∧ news.length = ys.length * P.cellsOf e ∧ (∀ j u, news[j]? = some u → w.cell? (ad.add j) = some u) ∧ CV σ w news.toArray (ys.flatMap D.cells) := by
  obtain ⟨ad, cap2, rfl, h⟩ := hs
  obtain ⟨b, off, c, ty, fz, rfl, h1, h2, h3⟩ := h h0
  refine ⟨⟨b, off, none⟩, cap2, (List.range (ys.length * P.cellsOf e)).map fun j => c.getD (off + j) undef, rfl, by simp, fun j u hj => ?_, by simp [flat_length ys hE], fun j hj => ?_⟩
  · have hjl : j < ys.length * P.cellsOf e := by
      have := (List.getElem?_eq_some_iff.1 hj).1; simpa using this
    rw [List.getElem?_map, List.getElem?_range hjl] at hj
    cases hj
    rw [add_lit]; exact cell_at h1 (by omega)
  · rw [flat_length ys hE] at hj
    have : (((List.range (ys.length * P.cellsOf e)).map fun j => c.getD (off + j) undef).toArray).getD j undef = c.getD (off + j) undef := by
      rw [Array.getD_eq_getD_getElem?, List.getElem?_toArray, List.getElem?_map, List.getElem?_range hj]; rfl
    rw [this]; exact h3 j hj

theorem cv_oneCell {c : Array Value} {ds : List D} (h : CV σ w c ds) (hs : ∀ d ∈ ds, d.sc = true) : ∀ v ∈ c.toList, v.oneCell' = true := fun v hmem => by
  obtain ⟨j, hj, rfl⟩ := List.getElem_of_mem hmem
  have hj' : j < ds.length := by rw [← h.1]; simpa using hj
  have := h.2 j hj'
  have e : c.getD j undef = c.toList[j] := by
    have : j < c.size := by rw [h.1]; exact hj'
    simp [this]
  rw [e] at this
  exact this.oneCell (hs _ (getD_mem hj'))

theorem St.appendR (h : St P W0 σ0 w0 nt σ fr H a w) {t ty e : TypeId} (ht : slE P t = some e) {v y : Value} {x : D} {ys : List D} (hv : V σ w v x) (hown : OwnV P σ w0.heap.size w v x)
    (hy : (∀ x ∈ ys, x.cells.length = P.cellsOf e) → Src P σ w e y ys) (hE0 : 0 < P.cellsOf e) (hby : P.bytesOf e ≤ 4096) (hz : zeroOk P e = true) {K : D → Heap → Prop} (hw : appR P e x ys H K) :
    ∃ v' w', (Builtin.append_ #[t, t] ty #[v, y]).run P w = .ok v' w' ∧ Gives P W0 σ0 w0 nt fr a K v' w' := by
  have hu := slE_some ht
  obtain ⟨z, hz, hzlen⟩ := zeroOk_some hz
  obtain ⟨i, zv, hi, hzv, hzrun, hzc⟩ := zeroD_run (σ := σ) (w := w) hz
  have hcell : P.cellsOf e = i.size := by simp [Program.cellsOf, hi]
  have hbyt : P.bytesOf e = i.bytes := by simp [Program.bytesOf, hi]
  have hfit : ∀ n : Nat, n ≤ 1073741824 → n * i.bytes ≤ 140737488355328 := fun n hn => by
    have h1 : n * i.bytes ≤ 1073741824 * 4096 := Nat.mul_le_mul hn (by rw [← hbyt]; exact hby)
    omega
  -- a new row: the old elements, the new ones, zeros
  have hzb : ∀ n, ∀ d ∈ zeros P e n, d.bx = true := fun n d hd => by
    simp only [zeros, hz] at hd
    obtain ⟨q, hq, hd⟩ := List.mem_flatten.1 hd
    rw [List.eq_of_mem_replicate hq] at hd
    exact D.bx_np1 (zeroD_np1 hz d hd)
  have grow : ∀ (olds news : List Value) (do_ : List D) (n k : Nat), (∀ d ∈ do_, d.bx = true) → (∀ d ∈ ys.flatMap D.cells, d.bx = true) → CV σ w olds.toArray do_ → CV σ w news.toArray (ys.flatMap D.cells) →
      K (.ref H.length 0 n (grownCap w n k e) (P.cellsOf e)) (H ++ [do_ ++ ys.flatMap D.cells ++ zeros P e (grownCap w n k e - n)]) →
      Gives P W0 σ0 w0 nt fr a K (.slice (some ⟨w.heap.size, 0, none⟩) n (grownCap w n k e)) (w.drew.alloc (.cells (olds.toArray ++ news.toArray ++ Builtin.zeroCells zv.cells (grownCap w n k e - n)) e)) := fun olds news do_ n k hb1 hb2 h1 h2 hk =>
    gives_new h _ e (0, 0) (fzOk_0 _) n _ _ (grownCap_ge w n k e) _ ((h1.append h2).append (zeros_cv hz hzc hzlen hE0 _)) (fun d hd => by
      rcases List.mem_append.1 hd with hd | hd
      · rcases List.mem_append.1 hd with hd | hd
        · exact hb1 d hd
        · exact hb2 d hd
      · exact hzb _ d hd) hk
  have capOk : ∀ n k : Nat, n ≤ 1073741824 → n ≤ grownCap w n k e ∧ grownCap w n k e ≤ 9223372036854775807 := fun n k hn => by
    have := grownCap_le_maxLen w n k e (by unfold maxLen; omega)
    unfold maxLen at this
    exact ⟨grownCap_ge w n k e, by omega⟩
  unfold appR at hw
  split at hw
  · rename_i xs
    obtain ⟨⟨h1, h2, h3⟩, hw1, hw2⟩ := hw
    obtain ⟨ad, rfl⟩ := hown
    have hEx : ∀ x ∈ xs, x.cells.length = P.cellsOf e := fun x hx => h1 x (by simp [hx])
    have hEy : ∀ x ∈ ys, x.cells.length = P.cellsOf e := fun x hx => h1 x (by simp [hx])
    have hy := hy hEy
    have hyb : ∀ d ∈ ys.flatMap D.cells, d.bx = true := fun d hd => by
      obtain ⟨x, hx, hd⟩ := List.mem_flatMap.1 hd
      exact D.bx_np1 (h2 x hx d hd).2
    have hxb : ∀ d ∈ xs.flatMap D.cells, d.bx = true := fun d hd => by
      obtain ⟨x, hx, hd⟩ := List.mem_flatMap.1 hd
      exact D.bx_np1 (hv.np_els x hx d hd)
    rcases Nat.eq_zero_or_pos ys.length with hm | hm
    · have hy0 : ys = [] := List.eq_nil_of_length_eq_zero hm
      subst hy0
      obtain ⟨b, c, rfl, _⟩ := hy
      exact ⟨_, w, run_append_none w t ty e hu (info_of_cells hE0) ad xs.length xs.length (Nat.le_refl _) b c, σ, _, H, hw1 rfl, h, hv, ⟨ad, rfl⟩, fun g hh => by
        obtain ⟨_, _, _, _, _, hh, _⟩ := hh; simp at hh⟩
    · have hne : ys ≠ [] := fun e0 => by rw [e0] at hm; simp at hm
      obtain ⟨ad2, cap2, news, rfl, hnl, hnews, hncv⟩ := src_cv hy hEy hm
      rw [hcell] at hnl
      have hcap := fun k => capOk (xs.length + ys.length) k h3
      cases ad with
      | none =>
        have h0 : xs.length = 0 := by
          rcases Nat.eq_zero_or_pos xs.length with h0 | h0
          · exact h0
          · obtain ⟨b, off, c, ty3, fz3, he, _⟩ := V.lst_cells hv hEx h0
            cases he
        have hxs : xs = [] := List.eq_nil_of_length_eq_zero h0
        subst hxs
        have hr := run_append_nil (P := P) w t ty e i zv hu hi hzv ad2 ys.length cap2 news hnl hnews hm (by simp at h3; omega) (by have := hfit ys.length (by simpa using h3); omega)
        have hg := grow [] news [] ys.length 0 (fun d hd => by cases hd) hyb ⟨rfl, fun j hj => absurd hj (by simp)⟩ hncv (by
          have := hw2 hne (grownCap w ys.length 0 e) (by simpa using (hcap 0).1) (by simpa using (hcap 0).2)
          simpa using this)
        exact ⟨_, _, hr, by simpa using hg⟩
      | some ad' =>
        obtain ⟨olds, hol, hoc, hocv⟩ : ∃ olds : List Value, olds.length = xs.length * i.size ∧ (∀ j u, olds[j]? = some u → w.cell? (ad'.add j) = some u) ∧ CV σ w olds.toArray (xs.flatMap D.cells) := by
          rcases Nat.eq_zero_or_pos xs.length with h0 | h0
          · have hxs : xs = [] := List.eq_nil_of_length_eq_zero h0
            subst hxs
            exact ⟨[], by simp, fun j u hj => by simp at hj, rfl, fun j hj => absurd hj (by simp)⟩
          · obtain ⟨b, off, c, ty3, fz3, he, q1, q2, _, q3⟩ := V.lst_cells hv hEx h0
            have hs : Src P σ w e (.slice (some ad') xs.length xs.length) xs := ⟨_, _, rfl, fun _ => ⟨b, off, c, ty3, fz3, he, q1, q2, q3⟩⟩
            obtain ⟨ad4, cap4, olds, he4, k1, k2, k3⟩ := src_cv hs hEx h0
            cases he4
            exact ⟨olds, by rw [← hcell]; exact k1, k2, k3⟩
        have hr := run_append_grow (P := P) w t ty e i zv hu hi hzv ad' xs.length xs.length olds hol hoc ad2 ys.length cap2 news hnl hnews (by omega) (by omega) (growslice_fits (by omega) (hfit _ h3))
        exact ⟨_, _, hr, grow olds news _ _ xs.length hxb hyb hocv hncv (by
          have := hw2 hne _ (hcap xs.length).1 (hcap xs.length).2
          simpa using this)⟩
  · rename_i b off len cap e'
    obtain ⟨⟨rfl, hb, hbl, hlc, h3, hEy, hsc⟩, hw1, hw2⟩ := hw
    have hy := hy hEy
    have hyb : ∀ d ∈ ys.flatMap D.cells, d.bx = true := fun d hd => by
      obtain ⟨x, hx, hd⟩ := List.mem_flatMap.1 hd
      exact D.bx_np1 (hsc x hx d hd).2
    cases hv with
    | ref _ _ _ _ _ hin _ =>
      obtain ⟨c, ty3, fz3, q1, q0, q2, q3, q4⟩ := h.rel.box b hin
      have hlen : off + len * P.cellsOf e ≤ (hget H b).length := by
        have := Nat.mul_le_mul_right (P.cellsOf e) hlc; omega
      rcases Nat.eq_zero_or_pos ys.length with hm | hm
      · have hy0 : ys = [] := List.eq_nil_of_length_eq_zero hm
        subst hy0
        obtain ⟨b2, c2, rfl, _⟩ := hy
        have hk := hw1 (by simpa using hlc)
        have hset : H.set b (setCells (hget H b) (off + len * P.cellsOf e) ([] : List D)) = H := by
          simp only [setCells, List.append_nil, List.length_nil, Nat.add_zero, List.take_append_drop]
          apply List.ext_getElem?
          intro j
          rw [List.getElem?_set]
          by_cases hj : b = j
          · subst hj; simp [hb, hget]
          · rw [if_neg hj]
        simp only [List.flatMap_nil, hset, List.length_nil, Nat.add_zero] at hk
        exact ⟨_, w, run_append_none w t ty e hu (info_of_cells hE0) _ len cap hlc b2 c2, σ, _, H, hk, h, .ref b off len cap _ hin hlc, .of_noOwn rfl, fun _ => not_holds_of_noOwn rfl⟩
      · obtain ⟨ad2, cap2, news, rfl, hnl, hnews, hncv⟩ := src_cv hy hEy hm
        rw [hcell] at hnl
        rcases Nat.lt_or_ge cap (len + ys.length) with hlt | hroom
        · have hcap := capOk (len + ys.length) cap h3
          obtain ⟨olds, hol, hoc, hocv⟩ : ∃ olds : List Value, olds.length = len * i.size ∧ (∀ j u, olds[j]? = some u → w.cell? ((⟨σ.ι b, off, none⟩ : Addr).add j) = some u) ∧ CV σ w olds.toArray (((hget H b).drop off).take (len * P.cellsOf e)) := by
            refine ⟨(List.range (len * P.cellsOf e)).map fun j => c.getD (off + j) undef, by simp [hcell], fun j u hj => ?_, ?_, fun j hj => ?_⟩
            · have hjl : j < len * P.cellsOf e := by
                have := (List.getElem?_eq_some_iff.1 hj).1; simpa using this
              rw [List.getElem?_map, List.getElem?_range hjl] at hj
              cases hj
              rw [add_lit]; exact cell_at q1 (by omega)
            · simp; omega
            · have hjl : j < len * P.cellsOf e := by simp at hj; omega
              have e1 : (((List.range (len * P.cellsOf e)).map fun j => c.getD (off + j) undef).toArray).getD j undef = c.getD (off + j) undef := by
                rw [Array.getD_eq_getD_getElem?, List.getElem?_toArray, List.getElem?_map, List.getElem?_range hjl]; rfl
              have e2 : (((hget H b).drop off).take (len * P.cellsOf e)).getD j .any = (hget H b).getD (off + j) .any := by
                simp only [List.getD_eq_getElem?_getD, List.getElem?_take, List.getElem?_drop]; rw [if_pos hjl]
              rw [e1, e2]; exact q4 _ (by omega)
          have hr := run_append_grow (P := P) w t ty e i zv hu hi hzv ⟨σ.ι b, off, none⟩ len cap olds hol hoc ad2 ys.length cap2 news hnl hnews hlt (by omega) (growslice_fits (by omega) (hfit _ h3))
          exact ⟨_, _, hr, grow olds news _ _ cap (fun d hd => h.rel.bx (hget H b) (getD_mem hb) d (List.mem_of_mem_drop (List.mem_of_mem_take hd))) hyb hocv hncv (hw2 hlt _ hcap.1 hcap.2)⟩
        · -- in place
          have hscf : ∀ d ∈ ys.flatMap D.cells, d.sc = true := fun d hd => by
            obtain ⟨x, hx, hd⟩ := List.mem_flatMap.1 hd
            exact (hsc x hx d hd).1
          have hmul : (len + ys.length) * P.cellsOf e ≤ cap * P.cellsOf e := Nat.mul_le_mul_right _ hroom
          rw [Nat.add_mul] at hmul
          obtain ⟨w', hst, hs⟩ := h.store (P := P) (b := b) (off := off + len * P.cellsOf e) hin hncv hscf hyb (by rw [flat_length ys hEy]; omega)
          have hf := run_firstCells_some (P := P) w i.size ys.length ad2 ys.length cap2 news hnl hnews
          have hr : (Builtin.append_ #[t, t] ty #[.slice (some ⟨σ.ι b, off, none⟩) len cap, .slice (some ad2) ys.length cap2]).run P w = .ok (.slice (some ⟨σ.ι b, off, none⟩) (len + ys.length) cap) w' := by
            rw [hcell] at hst
            simp [Builtin.append_, run_underlying hu, Go.sizeOf, typeInfo, hi, Builtin.lenOf, hroom, hf, Addr.add_lit, hst]
          exact ⟨_, _, hr, σ, _, _, hw1 hroom, hs, .ref b off _ cap _ hin hroom, .of_noOwn rfl, fun _ => not_holds_of_noOwn rfl⟩
  · exact hw.elim

theorem cvR_sound (h : St P W0 σ0 w0 nt σ fr H a w) {s t : TypeId} {v : Value} {x : D} (hv : V σ w v x) {K : D → Heap → Prop} (hw : cvR P s t x H K) : ∃ v' w', (convert s t v).run P w = .ok v' w' ∧ Gives P W0 σ0 w0 nt fr a K v' w' := by
  unfold cvR at hw
  split at hw
  · rename_i l
    obtain ⟨⟨h1, h2, h3⟩, hk⟩ := hw
    obtain ⟨e, he, hke⟩ := Option.bind_eq_some_iff.1 h2
    cases hv with
    | str bs _ hl =>
      subst hl
      have hr := run_bytes_of_string (P := P) w s t e bs (isStr_some h1) (slE_some he) (kindOf_some hke)
      have hsz : bs.data.toList.length = bs.size := rfl
      have hm := grownCap_le_maxLen w bs.size 0 e (by unfold maxLen; omega)
      have hg := grownCap_ge w bs.size 0 e
      refine ⟨_, _, hr, gives_new h _ e _ (fun j hj hh => ?_) bs.size _ 1 hg _ ?_ ?_ (hk (grownCap w bs.size 0 e) hg (by unfold maxLen at hm; omega))⟩
      · simp only at hh; omega
      · refine CV.append ⟨by simp, fun j hj => ?_⟩ ⟨by simp [hsz], fun j hj => ?_⟩
        · have hj' : j < bs.data.size := by simpa using hj
          have e1 : (bs.data.map (fun b => Value.int .u8 b.toNat)).getD j undef = .int .u8 (bs.data[j].toNat : Nat) := by
            rw [Array.getD_eq_getD_getElem?, Array.getElem?_map, Array.getElem?_eq_getElem hj']; rfl
          have e2 : (bs.data.toList.map fun c => D.int .u8 (c.toNat : Nat)).getD j .any = .int .u8 (bs.data[j].toNat : Nat) := by
            rw [List.getD_eq_getElem?_getD, List.getElem?_map, List.getElem?_eq_getElem (by simpa using hj')]
            simp
          rw [e1, e2]; exact .int _ _
        · have hj' : j < grownCap w bs.size 0 e - bs.size := by simpa [hsz] using hj
          have e1 : (Array.replicate (grownCap w bs.size 0 e - bs.size) (Value.int .u8 0)).getD j undef = .int .u8 0 := by simp [hj']
          have e2 : (List.replicate (grownCap w bs.size 0 e - bs.data.toList.length) (D.int .u8 0)).getD j .any = .int .u8 0 := by
            rw [List.getD_eq_getElem?_getD, List.getElem?_replicate, if_pos (by rw [hsz]; exact hj')]; rfl
          rw [e1, e2]; exact .int _ _
      · intro d hd
        rcases List.mem_append.1 hd with hd | hd
        · obtain ⟨c, _, rfl⟩ := List.mem_map.1 hd; rfl
        · rw [List.eq_of_mem_replicate hd]; rfl
  · rename_i b off len cap e'
    obtain ⟨⟨rfl, h2, h3, hb, hlen⟩, hk⟩ := hw
    obtain ⟨e, he, hke⟩ := Option.bind_eq_some_iff.1 h2
    unfold optK at hk
    split at hk
    rotate_left
    · exact hk.elim
    rename_i d hd
    obtain ⟨bs, hbs, rfl⟩ := Option.map_eq_some_iff.1 hd
    obtain ⟨k1, k2⟩ := mapM_some hbs
    cases hv with
    | ref _ _ _ _ _ hin hcap =>
      obtain ⟨c, ty3, fz3, q1, q0, q2, q3, q4⟩ := h.rel.box b hin
      have hll : (((hget H b).drop off).take len).length = len := by simp; omega
      rw [hll] at k1 k2
      have hel : ∀ j, j < len → ∃ n : Int, c.getD (off + j) undef = .int .u8 n ∧ bs.getD j 0 = UInt8.ofNat n.toNat := fun j hj => by
        obtain ⟨n, hn, hn'⟩ := byteD_some (k2 j hj .any 0)
        have e2 : (((hget H b).drop off).take len).getD j .any = (hget H b).getD (off + j) .any := by
          simp only [List.getD_eq_getElem?_getD, List.getElem?_take, List.getElem?_drop]; rw [if_pos hj]
        rw [e2] at hn
        have hq := q4 (off + j) (by omega)
        rw [hn] at hq
        refine ⟨n, ?_, hn'⟩
        revert hq
        generalize c.getD (off + j) undef = v
        intro hq; cases hq; rfl
      have hcell : ∀ j (hj : j < len), ∃ n : Int, w.cell? ⟨σ.ι b, off + j, none⟩ = some (.int .u8 n) ∧ bs.getD j 0 = UInt8.ofNat n.toNat := fun j hj => by
        obtain ⟨n, h1, h2⟩ := hel j hj
        exact ⟨n, by rw [cell_at q1 (by omega), h1], h2⟩
      obtain ⟨ns, hnl, hns⟩ : ∃ ns : List Int, ns.length = len ∧ ∀ j, j < len → w.cell? ⟨σ.ι b, off + j, none⟩ = some (.int .u8 (ns.getD j 0)) ∧ bs.getD j 0 = UInt8.ofNat (ns.getD j 0).toNat := by
        refine ⟨(List.range len).map fun j => match c.getD (off + j) undef with | .int _ n => n | _ => 0, by simp, fun j hj => ?_⟩
        obtain ⟨n, h1, h2⟩ := hel j hj
        have : ((List.range len).map fun j => match c.getD (off + j) undef with | .int _ n => n | _ => 0).getD j 0 = n := by
          simp only [List.getD_eq_getElem?_getD, List.getElem?_map, List.getElem?_range hj, Option.map_some, Option.getD_some, h1]
        rw [this]
        exact ⟨by rw [cell_at q1 (by omega), h1], h2⟩
      have hr := run_convert_bytes_arg (P := P) w s e (slE_some he) (kindOf_some hke) (σ.ι b) off len cap ns hnl (fun j hj => (hns j hj).1) t (isStr_some h3)
      refine ⟨_, w, hr, σ, _, H, hk, h, .str _ _ ?_, .of_noOwn rfl, fun _ => not_holds_of_noOwn rfl⟩
      rw [strOfNums_data]
      apply List.ext_getElem?
      intro j
      rcases Nat.lt_or_ge j len with hj | hj
      · have h5 := (hns j hj).2
        have e1 : bs[j]? = some (bs.getD j 0) := by rw [List.getD_eq_getElem?_getD, List.getElem?_eq_getElem (by omega)]; rfl
        have e2 : ns[j]? = some (ns.getD j 0) := by rw [List.getD_eq_getElem?_getD, List.getElem?_eq_getElem (by omega)]; rfl
        rw [List.getElem?_map, e1, e2, h5]; rfl
      · rw [List.getElem?_eq_none (by simp; omega), List.getElem?_eq_none (by omega)]
  · exact hw.elim

theorem run_clear (w : World) (t ty e : TypeId) (z : Value) (ht : P.underlying t = some (.slice e)) (hv : (zeroValue e).run P w = .ok z w) (ad : Addr) (n cap : Nat) (hn : 0 < n) (w' : World)
    (hs : (storeCells ad (Builtin.zeroCells z.cells n).toList).run P w = .ok () w') : (Builtin.clear_ #[t] ty #[.slice (some ad) n cap]).run P w = .ok (.tuple #[]) w' := by
  obtain ⟨n, rfl⟩ : ∃ m, n = m + 1 := ⟨n - 1, by omega⟩
  simp [Builtin.clear_, run_underlying ht, hv, hs]

theorem clear_sound (h : St P W0 σ0 w0 nt σ fr H a w) {t ty e : TypeId} (ht : slE P t = some e) {v : Value} {b off len cap e' : Nat} (hv : V σ w v (.ref b off len cap e')) (hl : off + len * P.cellsOf e ≤ (hget H b).length)
    (hz : zeroOk P e = true) (hzs : zeroSc P e = true) (hE0 : 0 < P.cellsOf e) :
    ∃ w', (Builtin.clear_ #[t] ty #[v]).run P w = .ok (.tuple #[]) w' ∧ St P W0 σ0 w0 nt σ fr (H.set b (setCells (hget H b) off (zeros P e len))) a w' := by
  have hu := slE_some ht
  obtain ⟨z, hz, hzlen⟩ := zeroOk_some hz
  obtain ⟨i, zv, hi, hzv, hzrun, hzc⟩ := zeroD_run (σ := σ) (w := w) hz
  have hcv := zeros_cv (σ := σ) (w := w) hz hzc hzlen hE0 len
  have hzl : (zeros P e len).length = len * P.cellsOf e := by simp [zeros, hz, hzlen]
  have hsc : ∀ d ∈ zeros P e len, d.sc = true := fun d hd => by
    simp only [zeros, hz] at hd
    obtain ⟨q, hq, hd⟩ := List.mem_flatten.1 hd
    rw [List.eq_of_mem_replicate hq] at hd
    simp only [zeroSc, hz] at hzs
    exact List.all_eq_true.1 hzs d hd
  have hbx : ∀ d ∈ zeros P e len, d.bx = true := fun d hd => by
    simp only [zeros, hz] at hd
    obtain ⟨q, hq, hd⟩ := List.mem_flatten.1 hd
    rw [List.eq_of_mem_replicate hq] at hd
    exact D.bx_np1 (zeroD_np1 hz d hd)
  cases hv with
  | ref _ _ _ _ _ hin hcap =>
    rcases Nat.eq_zero_or_pos len with h0 | h0
    · subst h0
      refine ⟨w, by simp [Builtin.clear_, run_underlying hu], ?_⟩
      have hz0 : zeros P e 0 = [] := by simp [zeros, hz]
      have hset : H.set b (setCells (hget H b) off ([] : List D)) = H := by
        simp only [setCells, List.append_nil, List.length_nil, Nat.add_zero, List.take_append_drop]
        apply List.ext_getElem?
        intro j
        have hb : b < H.length := by rw [← h.rel.n]; exact hin
        rw [List.getElem?_set]
        by_cases hj : b = j
        · subst hj; simp [hb, hget]
        · rw [if_neg hj]
      rw [hz0, hset]; exact h
    · obtain ⟨w', hst, hs⟩ := h.store (P := P) (b := b) (off := off) hin hcv hsc hbx (by rw [hzl]; exact hl)
      exact ⟨w', run_clear w t ty e zv hu hzrun _ len cap h0 w' hst, hs⟩

end
end Dl
