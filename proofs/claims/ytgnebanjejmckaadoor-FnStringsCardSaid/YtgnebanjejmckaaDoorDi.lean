/- append, stores, slices that are made. -/
import Derived.Test.YtgnebanjejmckaaDoorDh
namespace Dl
open Go

section
variable {P : Program} {W0 : World} {σ0 σ σ' : Sig} {w0 w w' : World} {fr : Fr} {H H' : Heap} {a : Act} {nt : Nat}

theorem run_append_none (w : World) (t ty e : TypeId) (ht : P.underlying t = some (.slice e)) (hi : (P.info? e).isSome = true) (base : Option Addr) (n cap : Nat) (hn : n ≤ cap) (b : Option Addr) (c : Nat) :
    (Builtin.append_ #[t, t] ty #[.slice base n cap, .slice b 0 c]).run P w = .ok (.slice base n cap) w := by
  obtain ⟨i, hi⟩ := Option.isSome_iff_exists.1 hi
  cases base <;> cases b <;> simp [Builtin.append_, run_underlying ht, Go.sizeOf, typeInfo, hi, Builtin.lenOf, hn, Builtin.firstCells, loadCells, loadCellsFrom, storeCells]

/-- What an append gives: a list that alone may be appended to, all else as it was. -/
structure AppRes (P : Program) (W0 : World) (σ0 : Sig) (w0 : World) (nt : Nat) (fr : Fr) (H : Heap) (a : Act) (σ' : Sig) (w' : World) (v' : Value) (e : TypeId) (zs : List D) : Prop where
  st : St P W0 σ0 w0 nt σ' fr H a w'
  v : V σ' w' v' (.lst (.tip e) zs)
  own : OwnV P σ' w0.heap.size w' v' (.lst (.tip e) zs)
  new : ∀ g, holds v' (.lst (.tip e) zs) g → ∀ t, ¬ holds (sl a t) (fr t) g

/-- An append whose result lies in a new block. -/
theorem app_grow (h : St P W0 σ0 w0 nt σ fr H a w) {e : TypeId} {zs : List D} (hE : ∀ x ∈ zs, x.cells.length = P.cellsOf e) (hn : ∀ x ∈ zs, ∀ d ∈ x.cells, d.np1 = true)
    (hE0 : 0 < P.cellsOf e) (arr : Array Value) (cap : Nat) (hcap : zs.length ≤ cap) (hmax : cap ≤ maxLen) (hsz : arr.size = cap * P.cellsOf e)
    (hv : ∀ j, j < zs.length * P.cellsOf e → V σ w (arr.getD j undef) ((zs.flatMap D.cells).getD j .any)) :
    AppRes P W0 σ0 w0 nt fr H a (σ.lay w.heap.size (zs.length * P.cellsOf e)) (w.drew.alloc (.cells arr e)) (.slice (some ⟨w.heap.size, 0, none⟩) zs.length cap) e zs := by
  have h1 := h.drew
  have hs : w.drew.heap.size = w.heap.size := rfl
  have st : St P W0 σ0 w0 nt (σ.lay w.heap.size (zs.length * P.cellsOf e)) fr H a (w.drew.alloc (.cells arr e)) := by
    have := h1.world (step_lay σ w.drew (.cells arr e) (zs.length * P.cellsOf e)) (rel_lay h1.rel _ _)
    rwa [hs] at this
  have sd : Step σ w.drew (σ.lay w.heap.size (zs.length * P.cellsOf e)) (w.drew.alloc (.cells arr e)) := step_lay σ w.drew (.cells arr e) (zs.length * P.cellsOf e)
  have hext : ∀ {u : Value} {d : D}, V σ w u d → V (σ.lay w.heap.size (zs.length * P.cellsOf e)) (w.drew.alloc (.cells arr e)) u d := fun hu =>
    (hu.mono (ext_drew σ w)).mono (sd.ext h1.rel)
  have hb : (w.drew.alloc (.cells arr e)).heap[w.heap.size]? = some (.cells arr e (0, 0)) := heap_alloc_new w.drew _
  have hk : (σ.lay w.heap.size (zs.length * P.cellsOf e)).κ w.heap.size = zs.length * P.cellsOf e := by simp [Sig.lay]
  have hle : zs.length * P.cellsOf e ≤ arr.size := by rw [hsz]; exact Nat.mul_le_mul_right _ hcap
  refine ⟨st, V.of_block _ hb hE hn hE0 hk hle hcap fun j hj => hext (hv j hj), .inr ⟨w.heap.size, cap, arr, rfl, h.step.size, hb, hcap, hmax, hsz, hk, fun i hi => ?_, hE⟩, ?_⟩
  · have := h.rel.lt i hi; simp only [Sig.lay]; omega
  · rintro g ⟨_, _, off, len, cap', _, hv', _⟩ t ⟨e', xs', off', len', cap'', hf, hv'', hlt⟩
    cases hv'
    have := h.own t
    rw [hf] at this
    rcases this with ⟨a', ha'⟩ | ⟨g', cap3, cur, hv3, _, hg', _⟩
    · rw [ha'] at hv''; cases hv''; omega
    · rw [hv3] at hv''; cases hv''
      have := lt_of_get hg'; omega

theorem St.append (h : St P W0 σ0 w0 nt σ fr H a w) {t ty e : TypeId} (ht : slE P t = some e) {v y : Value} {o : Own} {xs ys : List D} (s : Operand) (hsv : a.eval s = v) (hsd : Dl.ev fr s = D.lst o xs)
    (hy : Src P σ w e y ys) (ho : o = .exact ∨ o = .tip e) (hE : ∀ x ∈ xs ++ ys, x.cells.length = P.cellsOf e) (hsc : ∀ x ∈ ys, ∀ d ∈ x.cells, d.sc = true ∧ d.np1 = true)
    (hE0 : 0 < P.cellsOf e) (hby : P.bytesOf e ≤ 4096) (hlen : xs.length + ys.length ≤ 1073741824) (hz : zeroOk P e = true) :
    ∃ v' σ' w', (Builtin.append_ #[t, t] ty #[v, y]).run P w = .ok v' w' ∧ AppRes P W0 σ0 w0 nt (dropOp fr s) H a σ' w' v' e (xs ++ ys) := by
  have hu := slE_some ht
  have hv : V σ w v (.lst o xs) := by rw [← hsv, ← hsd]; exact h.evV s
  have hown : OwnV P σ w0.heap.size w v (.lst o xs) := by
    cases s with
    | tmp t => have := h.own t; rw [show sl a t = v from hsv] at this; rw [show fr t = _ from hsd] at this; exact this
    | const c => rw [← hsv, ← hsd]; exact own_ofVal _ _
    | global g => cases hsd
    | func f => cases hsd
  have hdrop : St P W0 σ0 w0 nt σ (dropOp fr s) H a w := by
    cases s with
    | tmp t => exact h.drop t
    | _ => exact h
  have hEx : ∀ x ∈ xs, x.cells.length = P.cellsOf e := fun x hx => hE x (by simp [hx])
  have hEy : ∀ x ∈ ys, x.cells.length = P.cellsOf e := fun x hx => hE x (by simp [hx])
  obtain ⟨z, hz, hzlen⟩ : ∃ z, zeroD P e = some z ∧ z.length = P.cellsOf e := by
    unfold zeroOk at hz
    split at hz
    · rename_i z hz'; exact ⟨z, hz', by simpa using hz⟩
    · cases hz
  obtain ⟨i, zv, hi, hzv, hzrun, hzc⟩ := zeroD_run (σ := σ) (w := w) hz
  have hcell : P.cellsOf e = i.size := by simp [Program.cellsOf, hi]
  have hbyt : P.bytesOf e = i.bytes := by simp [Program.bytesOf, hi]
  have hnpx : ∀ x ∈ xs, ∀ d ∈ x.cells, d.np1 = true := by
    cases hv with
    | lnil a cap => intro x hx; cases hx
    | lst b off cap E c ty fz _ _ len hl hcap hb hE' hnp => exact hnp
  -- the first list's shape
  have hshape : ∃ ad cap, v = .slice ad xs.length cap ∧ xs.length ≤ cap := by
    cases hv with
    | lnil a cap => exact ⟨a, cap, rfl, Nat.zero_le _⟩
    | lst b off cap E c ty fz _ _ len hl hcap => subst hl; exact ⟨_, cap, rfl, hcap⟩
  obtain ⟨ad, cap, rfl, hxcap⟩ := hshape
  have hnp : ∀ x ∈ xs ++ ys, ∀ d ∈ x.cells, d.np1 = true := fun x hx d hd => by
    rcases List.mem_append.1 hx with hx | hx
    · exact hnpx x hx d hd
    · exact (hsc x hx d hd).2
  have howntip : OwnV P σ w0.heap.size w (.slice ad xs.length cap) (.lst (.tip e) xs) := by
    rcases ho with rfl | rfl
    · obtain ⟨a', ha'⟩ := hown; cases ha'; exact .inl ⟨_, rfl⟩
    · exact hown
  -- no other slot writes where this one may
  have hdist : ∀ g, holds (.slice ad xs.length cap) (.lst (.tip e) xs) g → ∀ t, ¬ holds (sl a t) (dropOp fr s t) g := by
    rintro g ⟨e', xs', off, len, cap', hd, hv', hlt⟩ t ht'
    simp only [D.lst.injEq, Own.tip.injEq] at hd
    obtain ⟨rfl, rfl⟩ := hd
    rcases ho with rfl | rfl
    · obtain ⟨a', ha'⟩ := hown
      cases ha'; cases hv'; omega
    · cases s with
      | tmp s' =>
        by_cases hts : t = s'
        · subst hts
          have : dropOp fr (.tmp t) t = (fr t).dis := by simp [dropOp, Fr.set_app]
          rw [this] at ht'
          exact not_holds_dis ht'
        · have : dropOp fr (.tmp s') t = fr t := by simp [dropOp, Fr.set_app, hts]
          rw [this] at ht'
          refine h.dist t s' g hts ht' ?_
          rw [show fr s' = _ from hsd, show sl a s' = _ from hsv]
          exact ⟨_, _, off, len, cap', rfl, hv', hlt⟩
      | const c =>
        exfalso
        have : ofVal c = D.lst (.tip e) xs := hsd
        unfold ofVal at this
        split at this <;> simp at this
      | global g => cases hsd
      | func f => cases hsd
  rcases Nat.eq_zero_or_pos ys.length with hm | hm
  · -- nothing to append
    have hy0 : ys = [] := List.eq_nil_of_length_eq_zero hm
    subst hy0
    rw [List.append_nil]
    obtain ⟨b, c, rfl, _⟩ := hy
    exact ⟨_, σ, w, run_append_none w t ty e hu (info_of_cells hE0) ad xs.length cap hxcap b c, hdrop, hv.flag _, howntip, hdist⟩
  · -- the new elements, as they lie
    obtain ⟨b2, off2, c2, len2, cap2, hyv, hb2, hsz2, hv2⟩ : ∃ b off c len cap, y = .slice (some ⟨b, off, none⟩) len cap ∧ (∃ ty fz, w.heap[b]? = some (.cells c ty fz)) ∧ (len = ys.length ∧ off + ys.length * P.cellsOf e ≤ c.size) ∧
        ∀ j, j < ys.length * P.cellsOf e → V σ w (c.getD (off + j) undef) ((ys.flatMap D.cells).getD j .any) := by
      obtain ⟨ad2, cap2, rfl, hs⟩ := hy
      obtain ⟨b, off, c, ty2, fz2, rfl, h1, h2, h3⟩ := hs hm
      exact ⟨b, off, c, _, cap2, rfl, ⟨_, _, h1⟩, ⟨rfl, h2⟩, h3⟩
    obtain ⟨ty2, fz2, hb2⟩ := hb2
    obtain ⟨rfl, hsz2⟩ := hsz2
    subst hyv
    let news : List Value := (List.range (ys.length * P.cellsOf e)).map fun j => c2.getD (off2 + j) undef
    have hnl : news.length = ys.length * i.size := by simp [news, hcell]
    have hng : ∀ j, j < ys.length * P.cellsOf e → news[j]? = some (c2.getD (off2 + j) undef) := fun j hj => by simp only [news, List.getElem?_map, List.getElem?_range hj, Option.map_some]
    have hnews : ∀ j u, news[j]? = some u → w.cell? ((⟨b2, off2, none⟩ : Addr).add j) = some u := fun j u hj => by
      have hjl : j < ys.length * P.cellsOf e := by
        have := (List.getElem?_eq_some_iff.1 hj).1; rw [hnl, ← hcell] at this; exact this
      rw [hng j hjl] at hj; cases hj
      rw [add_lit]; exact cell_at hb2 (by omega)
    have hone : ∀ u ∈ news, u.oneCell' = true := fun u hu => by
      obtain ⟨j, hj, rfl⟩ := List.mem_map.1 hu
      have hjl : j < ys.length * P.cellsOf e := by simpa using hj
      refine (hv2 j hjl).oneCell ?_
      have hmem := getD_mem (l := ys.flatMap D.cells) (j := j) (d := .any) (by rw [flat_length ys hEy]; exact hjl)
      obtain ⟨x, hx, hxd⟩ := List.mem_flatMap.1 hmem
      exact (hsc x hx _ hxd).1
    have hflat : ∀ j, ((xs ++ ys).flatMap D.cells).getD j .any = if j < xs.length * P.cellsOf e then (xs.flatMap D.cells).getD j .any else (ys.flatMap D.cells).getD (j - xs.length * P.cellsOf e) .any := fun j => by
      rw [List.flatMap_append]
      by_cases hj : j < xs.length * P.cellsOf e
      · rw [if_pos hj, getD_append_left (by rw [flat_length xs hEx]; exact hj)]
      · rw [if_neg hj, getD_append_right (by rw [flat_length xs hEx]; omega), flat_length xs hEx]
    have hzl : (xs ++ ys).length = xs.length + ys.length := List.length_append
    -- a new block
    have grow : ∀ (olds : List Value) (k : Nat), olds.length = xs.length * P.cellsOf e → (∀ j, j < xs.length * P.cellsOf e → V σ w (olds.getD j undef) ((xs.flatMap D.cells).getD j .any)) →
        AppRes P W0 σ0 w0 nt (dropOp fr s) H a (σ.lay w.heap.size ((xs ++ ys).length * P.cellsOf e))
          (w.drew.alloc (.cells (olds.toArray ++ news.toArray ++ Builtin.zeroCells zv.cells (grownCap w (xs.length + ys.length) k e - (xs.length + ys.length))) e))
          (.slice (some ⟨w.heap.size, 0, none⟩) (xs ++ ys).length (grownCap w (xs.length + ys.length) k e)) e (xs ++ ys) := fun olds k hol hov => by
      have hge := grownCap_ge w (xs.length + ys.length) k e
      have hmx := grownCap_le_maxLen w (xs.length + ys.length) k e (by unfold maxLen; omega)
      have hzsz : zv.cells.size = P.cellsOf e := by
        rw [hzc.1, hzlen]
      refine app_grow hdrop hE hnp hE0 _ _ (by omega) hmx ?_ fun j hj => ?_
      · simp only [Array.size_append, List.size_toArray, size_zeroCells, hzsz, hol, hnl, ← hcell, ← Nat.add_mul]
        congr 1; omega
      · rw [hzl, Nat.add_mul] at hj
        rw [hflat j]
        have hget : (olds.toArray ++ news.toArray ++ Builtin.zeroCells zv.cells (grownCap w (xs.length + ys.length) k e - (xs.length + ys.length))).getD j undef = (olds ++ news).getD j undef := by
          have hl : j < (olds ++ news).length := by rw [List.length_append, hol, hnl, ← hcell]; exact hj
          rw [Array.getD_eq_getD_getElem?, List.getD_eq_getElem?_getD, Array.getElem?_append_left (by simpa using hl)]
          simp
        rw [hget]
        by_cases hjx : j < xs.length * P.cellsOf e
        · rw [if_pos hjx, getD_append_left (by omega)]; exact hov j hjx
        · rw [if_neg hjx, getD_append_right (by omega), hol]
          have : news.getD (j - xs.length * P.cellsOf e) undef = c2.getD (off2 + (j - xs.length * P.cellsOf e)) undef := by
            rw [List.getD_eq_getElem?_getD, hng _ (by omega)]; rfl
          rw [this]; exact hv2 _ (by omega)
    -- the old elements, as they lie
    obtain ⟨olds, hol, hoc, hov⟩ : ∃ olds : List Value, olds.length = xs.length * P.cellsOf e ∧ (∀ ad', ad = some ad' → ∀ j u, olds[j]? = some u → w.cell? (ad'.add j) = some u) ∧
        ∀ j, j < xs.length * P.cellsOf e → V σ w (olds.getD j undef) ((xs.flatMap D.cells).getD j .any) := by
      rcases Nat.eq_zero_or_pos xs.length with h0 | h0
      · exact ⟨[], by simp [h0], fun ad' _ j u hj => by simp at hj, fun j hj => by rw [h0] at hj; simp at hj⟩
      · obtain ⟨b, off, c, ty3, fz3, rfl, hb, h1, h2, h3⟩ := V.lst_cells hv hEx h0
        refine ⟨(List.range (xs.length * P.cellsOf e)).map fun j => c.getD (off + j) undef, by simp, fun ad' he j u hj => ?_, fun j hj => ?_⟩
        · cases he
          have hjl : j < xs.length * P.cellsOf e := by
            have := (List.getElem?_eq_some_iff.1 hj).1; simpa using this
          rw [List.getElem?_map, List.getElem?_range hjl] at hj
          cases hj
          rw [add_lit]; exact cell_at hb (by omega)
        · have : ((List.range (xs.length * P.cellsOf e)).map fun j => c.getD (off + j) undef).getD j undef = c.getD (off + j) undef := by
            rw [List.getD_eq_getElem?_getD, List.getElem?_map, List.getElem?_range hj]; rfl
          rw [this]; exact h3 j hj
    have hbig : (xs.length + ys.length) * i.bytes ≤ 140737488355328 := by
      have h1 : (xs.length + ys.length) * i.bytes ≤ 1073741824 * 4096 := Nat.mul_le_mul hlen (by rw [← hbyt]; exact hby)
      omega
    -- a new block, whatever lay there before
    have grew : cap < xs.length + ys.length → ∃ v' σ' w', (Builtin.append_ #[t, t] ty #[.slice ad xs.length cap, .slice (some ⟨b2, off2, none⟩) ys.length cap2]).run P w = .ok v' w' ∧
        AppRes P W0 σ0 w0 nt (dropOp fr s) H a σ' w' v' e (xs ++ ys) := fun hlt => by
      cases ad with
      | none =>
        have h0 : xs.length = 0 := by
          rcases Nat.eq_zero_or_pos xs.length with h0 | h0
          · exact h0
          · obtain ⟨b, off, c, ty3, fz3, he, _⟩ := V.lst_cells hv hEx h0
            cases he
        have hxs : xs = [] := List.eq_nil_of_length_eq_zero h0
        subst hxs
        have hcap0 : cap = 0 := by
          rcases howntip with ⟨a', ha'⟩ | ⟨g, cap', cur, hv', _⟩
          · cases ha'; rfl
          · cases hv'
        subst hcap0
        have hr := run_append_nil (P := P) w t ty e i zv hu hi hzv ⟨b2, off2, none⟩ ys.length cap2 news hnl hnews hm (by omega) (by simp at hbig; omega)
        have hg := grow olds 0 hol hov
        have ho0 : olds = [] := List.eq_nil_of_length_eq_zero (by simpa using hol)
        subst ho0
        simp only [List.length_nil, Nat.zero_add, List.nil_append, Array.empty_append] at hr hg ⊢
        exact ⟨_, _, _, hr, hg⟩
      | some ad' =>
        have hr := run_append_grow (P := P) w t ty e i zv hu hi hzv ad' xs.length cap olds (by rw [hol, hcell]) (hoc ad' rfl) ⟨b2, off2, none⟩ ys.length cap2 news hnl hnews hlt (by omega) (growslice_fits hlt hbig)
        have hg := grow olds cap hol hov
        rw [← hzl] at hr hg
        exact ⟨_, _, _, hr, hg⟩
    rcases howntip with ⟨a', ha'⟩ | ⟨g, cap', cur, hv', hB, hg, h1, h2, h3, h4, h5, h6⟩
    · cases ha'
      exact grew (by omega)
    · cases hv'
      rcases Nat.lt_or_ge cap (xs.length + ys.length) with hlt | hroom
      · exact grew hlt
      · -- in place
        have hfit : xs.length * i.size + news.length ≤ cur.size := by
          rw [hnl, h3, ← hcell, ← Nat.add_mul]; exact Nat.mul_le_mul_right _ hroom
        have hr := run_append_room (P := P) w t ty e i hu hi g xs.length cap cur hg ⟨b2, off2, none⟩ ys.length cap2 news hnl hnews hone hroom hfit
        refine ⟨_, { σ with κ := fun x => if x = g then (xs ++ ys).length * P.cellsOf e else σ.κ x }, _, hr, ?_⟩
        generalize hcs : (cur.toList.take (xs.length * i.size) ++ news ++ cur.toList.drop (xs.length * i.size + news.length)).toArray = cs
        have hcsz : cs.size = cur.size := by
          rw [← hcs]; simp only [List.size_toArray, List.length_append, List.length_take, List.length_drop, Array.length_toList]; omega
        have hcl : ∀ j, j < xs.length * P.cellsOf e → cs.getD j undef = cur.getD j undef := fun j hj => by
          rw [← hcs, Array.getD_eq_getD_getElem?, Array.getD_eq_getD_getElem?]
          have hj1 : j < xs.length * i.size := by rw [← hcell]; exact hj
          have hj2 : j < cur.size := by omega
          simp only [List.getElem?_toArray]
          rw [List.append_assoc, List.getElem?_append_left (by simp; omega), List.getElem?_take, if_pos hj1, Array.getElem?_toList]
        have hcr : ∀ j, j < ys.length * P.cellsOf e → cs.getD (xs.length * P.cellsOf e + j) undef = c2.getD (off2 + j) undef := fun j hj => by
          have hl1 : (cur.toList.take (xs.length * i.size)).length = xs.length * P.cellsOf e := by
            have hle : xs.length * i.size ≤ cur.size := Nat.le_trans (Nat.le_add_right _ _) hfit
            rw [List.length_take, show cur.toList.length = cur.size from rfl, Nat.min_eq_left hle, hcell]
          rw [← hcs, Array.getD_eq_getD_getElem?]
          simp only [List.getElem?_toArray]
          rw [List.append_assoc, List.getElem?_append_right (by rw [hl1]; omega), hl1, List.getElem?_append_left (by rw [hnl, ← hcell]; omega)]
          rw [show xs.length * P.cellsOf e + j - xs.length * P.cellsOf e = j by omega, hng j hj]; rfl
        have hheap : (w.setRow g cs).heap[g]? = some (.cells cs e (0, 0)) := setRow_heap w g cur cs e (0, 0) hg
        have hk' : (xs ++ ys).length * P.cellsOf e ≤ cs.size := by rw [hcsz, h3, hzl]; exact Nat.mul_le_mul_right _ hroom
        have hge : σ.κ g ≤ (xs ++ ys).length * P.cellsOf e := by rw [h4, hzl]; exact Nat.mul_le_mul_right _ (by omega)
        have hext : Ext σ w { σ with κ := fun x => if x = g then (xs ++ ys).length * P.cellsOf e else σ.κ x } (w.setRow g cs) := by
          refine ⟨Nat.le_refl _, fun _ _ => rfl, fun b hb => ?_, fun b c ty4 fz4 hb h0 hc => ?_⟩
          · by_cases hbg : b = g
            · subst hbg; simpa using hge
            · simp [hbg]
          · by_cases hbg : b = g
            · subst hbg
              rw [hg] at hb; cases hb
              refine ⟨cs, (0, 0), hheap, hcsz, fun j hj => hcl j (by rw [← h4]; exact hj), by simpa using hk'⟩
            · exact ⟨c, fz4, by rw [setRow_other w g b cs hbg]; exact hb, rfl, fun _ _ => rfl, by simp [hbg]; exact hc⟩
        have hgl := lt_of_get hg
        have hspare : holds (.slice (some ⟨g, 0, none⟩) xs.length cap) (.lst (.tip e) xs) g := ⟨e, xs, 0, _, cap, rfl, rfl, by omega⟩
        have hbase : W0.heap.size ≤ g := Nat.le_trans h.base0 hB
        have hst : St P W0 σ0 w0 nt { σ with κ := fun x => if x = g then (xs ++ ys).length * P.cellsOf e else σ.κ x } (dropOp fr s) H a (w.setRow g cs) := by
          refine ⟨hdrop.size, fun t => (hdrop.slot t).mono hext, fun t => ?_, hdrop.dist, ?_, ?_, h.base0, h.defers⟩
          · have hot := hdrop.own t
            have hnt := hdist g hspare t
            revert hot hnt
            generalize dropOp fr s t = d
            generalize sl a t = v
            intro hot hnt
            cases d with
            | lst o' zs => ?_
            | _ => trivial
            cases o' with
            | no => trivial
            | exact => exact hot
            | tip e' =>
              rcases hot with hot | ⟨g', cap', cur', hv', hB', hg', k1, k2, k3, k4, k5, k6⟩
              · exact .inl hot
              · have hne : g' ≠ g := by
                  rintro rfl
                  rw [hg] at hg'; cases hg'
                  have hcc : cap' = cap := Nat.eq_of_mul_eq_mul_right hE0 (by rw [← k3, h3])
                  have hzz : zs.length = xs.length := Nat.eq_of_mul_eq_mul_right hE0 (by rw [← k4, h4])
                  exact hnt ⟨_, zs, 0, _, cap', rfl, hv', by omega⟩
                exact .inr ⟨g', cap', cur', hv', hB', by rw [setRow_other w g g' cs hne]; exact hg', k1, k2, k3, by simp [hne]; exact k4, k5, k6⟩
          · refine ⟨h.rel.n, h.rel.inj, h.rel.old, fun j hj => ?_, h.rel.bx, h.rel.base.setRow g cs hbase⟩
            obtain ⟨c, ty4, fz4, q1, q0, q2, q3, q4⟩ := h.rel.box j hj
            have hne : σ.ι j ≠ g := h5 j hj
            exact ⟨c, ty4, fz4, by rw [setRow_other w g _ cs hne]; exact q1, q0, q2, by simp [hne]; exact q3, fun k hk => (q4 k hk).mono hext⟩
          · refine ⟨by simpa using h.step.size, fun b hb hi' => ?_, h.step.n, h.step.ι, h.step.new, fun b hb => ?_⟩
            · have hne : b ≠ g := by omega
              rw [setRow_other w g b cs hne]; exact h.step.block b hb hi'
            · have hne : b ≠ g := by omega
              simp [hne]; exact h.step.κ b hb
        rw [← hzl]
        refine ⟨hst, V.of_block _ hheap hE hnp hE0 (by simp) hk' (by rw [hzl]; exact hroom) fun j hj => ?_,
          .inr ⟨g, cap, cs, rfl, hB, hheap, by rw [hzl]; exact hroom, h2, by rw [hcsz]; exact h3, by simp, h5, hE⟩, fun g' hh t => ?_⟩
        · rw [hflat j]
          by_cases hjx : j < xs.length * P.cellsOf e
          · rw [if_pos hjx, hcl j hjx]
            obtain ⟨b, off, c, ty3, fz3, he, hb, _, _, q3⟩ := V.lst_cells hv hEx (by
              rcases Nat.eq_zero_or_pos xs.length with h0 | h0
              · rw [h0] at hjx; simp at hjx
              · exact h0)
            cases he
            rw [hg] at hb; cases hb
            have := q3 j hjx
            rw [Nat.zero_add] at this
            exact this.mono hext
          · rw [if_neg hjx]
            have hjy : j - xs.length * P.cellsOf e < ys.length * P.cellsOf e := by rw [hzl, Nat.add_mul] at hj; omega
            have := hcr _ hjy
            rw [show xs.length * P.cellsOf e + (j - xs.length * P.cellsOf e) = j by omega] at this
            rw [this]
            exact (hv2 _ hjy).mono hext
        · obtain ⟨e', xs', off, len, cap', hd, hv', hlt⟩ := hh
          cases hv'
          exact hdist _ hspare t

end
end Dl
