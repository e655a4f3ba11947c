/- One operation: what the machine does is what the data say. -/
import Derived.Test.YtgnebanjejmckaaDoorDi
namespace Dl
open Go

/-- A call: whatever fits, it returns, and what it returns and leaves in the boxes meets 'K'. -/
def CallWp (P : Program) (W0 : World) : Callee := fun f ds H K =>
  (∃ fn, P.funcs[f]? = some fn ∧ fn.body.isSome = true ∧ (fn.name == "runtime.NumGoroutine") = false) ∧
  ∀ (σ : Sig) (w : World) (vs : Array Value), Rel W0 σ w H → CV σ w vs ds →
    Calls P f vs w fun e w' => ∃ v r H' σ', e = .returned v ∧ K r H' ∧ V σ' w' v r ∧ OwnV P σ' w.heap.size w' v r ∧ Rel W0 σ' w' H' ∧ Step σ w σ' w'

theorem CallWp.mono {P : Program} {W0 : World} {f : FuncId} {ds : List D} {H : Heap} {K K' : D → Heap → Prop} (h : CallWp P W0 f ds H K) (hk : ∀ r H', K r H' → K' r H') : CallWp P W0 f ds H K' :=
  ⟨h.1, fun σ w vs hr hv => (h.2 σ w vs hr hv).mono fun _ _ ⟨v, r, H', σ', h1, h2, h3⟩ => ⟨v, r, H', σ', h1, hk _ _ h2, h3⟩⟩

section
variable {P : Program} {W0 : World} {σ0 σ σ' : Sig} {w0 w w' : World} {fr : Fr} {H H' : Heap} {a : Act} {nt : Nat}

/-- Goes on: whatever state fits what 'K' says. -/
def Next (P : Program) (W0 : World) (σ0 : Sig) (w0 : World) (nt : Nat) (K : Fr → Heap → Prop) (next : Act → World → Prop) : Prop :=
  ∀ σ fr H a w, St P W0 σ0 w0 nt σ fr H a w → K fr H → next a w

theorem wp_value {o : Oper} {next : Act → World → Prop} {Q : Exit → Act → World → Prop} {K : Fr → Heap → Prop} (h : St P W0 σ0 w0 nt σ fr H a w) (hn : Next P W0 σ0 w0 nt K next)
    (hd : ∀ t, o.dst = some t → t < nt) {v : Value} {d : D} (hr : (execOp a.eval o).run P w = .ok (.value v) w) (hv : V σ w v d) (ho : noOwn d = true)
    (hK : K (fr.put o.dst d) H) : o.wp P a w next Q := by
  unfold Oper.wp
  rw [hr]
  exact hn _ _ _ _ _ (h.putNo hv ho o.dst hd) hK

theorem exec_v {α : Operand → Value} {o : Oper} {s : Sem Value} (h : execOp α o = (do pure (.value (← s)))) {v : Value} {w w' : World} (hr : s.run P w = .ok v w') :
    (execOp α o).run P w = .ok (.value v) w' := by
  rw [h, Sem.run_bind, hr]; rfl

theorem optK_some' {o : Option D} {k : D → Prop} (h : optK o k) : ∃ d, o = some d ∧ k d := by
  unfold optK at h
  split at h
  · exact ⟨_, rfl, h⟩
  · exact h.elim

theorem St.putTr (h : St P W0 σ0 w0 nt σ fr H a w) (s d : Nat) (hd : d < nt) (hne : d ≠ s) : St P W0 σ0 w0 nt σ ((fr.set s (fr s).dis).set d (fr s)) H (a.put (some d) (sl a s)) w :=
  (h.drop s).put (dst := some d) (h.slot s) (h.own s) (fun t ht => by cases ht; exact hd) fun g hg t ht hh => by
    rw [Fr.set_app] at hh
    by_cases e : t = s
    · rw [if_pos e] at hh; exact not_holds_dis hh
    · rw [if_neg e] at hh; exact h.dist t s g e hh hg

theorem fzOk_size {c c' : Array Value} {fz : Nat × Nat} (h : fzOk c fz) (hs : c'.size = c.size) : fzOk c' fz := fun j hj => h j (by omega)

/-- Cells are written into a row of which no cell is shared with a string. -/
theorem run_storeCells_ok (P : Program) (g o : Nat) (t : TypeId) (fz : Nat × Nat) : ∀ (vs : List Value) (i : Nat) (cur : Array Value) (w : World), w.heap[g]? = some (.cells cur t fz) → fzOk cur fz → o + i + vs.length ≤ cur.size → (∀ v ∈ vs, v.oneCell' = true) →
    (storeCells ⟨g, o, none⟩ vs i).run P w = .ok () (w.setRow g (cur.toList.take (o + i) ++ vs ++ cur.toList.drop (o + i + vs.length)).toArray)
  | [], i, cur, w, hg, _, _, _ => by
    simp only [storeCells, List.append_nil, List.length_nil, Nat.add_zero, List.take_append_drop, Array.toArray_toList]
    rw [setRow_self w g cur t fz hg]
    rfl
  | v :: rest, i, cur, w, hg, hfz, hl, h1 => by
    have hi : o + i < cur.size := by simp at hl; omega
    have hadd : (⟨g, o, none⟩ : Addr).add i = ⟨g, o + i, none⟩ := by unfold Addr.add; split <;> simp_all
    have hcell : w.cell? ⟨g, o + i, none⟩ = some cur[o + i] := by simp [World.cell?, hg, hi]
    have hfro : w.frozen? ⟨g, o + i, none⟩ = false := by
      have hno := hfz (o + i) hi
      obtain ⟨lo, hi'⟩ := fz
      simp only [World.frozen?, hg, Bool.and_eq_false_iff, decide_eq_false_iff_not]
      simp only at hno
      omega
    have hst : (store ((⟨g, o, none⟩ : Addr).add i) v).run P w = .ok () (w.setRow g (cur.setIfInBounds (o + i) v)) := by
      rw [hadd, run_store P w _ v _ (h1 v (by simp)), hcell]
      simp [hfro, setCell_eq_setRow w g (o + i) cur t fz v hg]
    have ih := run_storeCells_ok P g o t fz rest (i + 1) (cur.setIfInBounds (o + i) v) (w.setRow g (cur.setIfInBounds (o + i) v)) (setRow_heap w g cur _ t _ hg) (fzOk_size hfz (by simp)) (by simp at hl ⊢; omega) (fun x hx => h1 x (by simp [hx]))
    simp only [storeCells, Sem.run_bind, hst, Result.andThen_ok, ih, setRow_setRow]
    congr 3
    have e := list_seg_step cur.toList (o + i) v rest (by simp at hl ⊢; omega)
    simpa [Array.toList_setIfInBounds, Nat.add_assoc] using e

theorem run_setRow_store {b off : Nat} {c : Array Value} {ty : TypeId} {fz : Nat × Nat} (hb : w.heap[b]? = some (.cells c ty fz)) (hfz : fzOk c fz) (vs : List Value) (hl : off + vs.length ≤ c.size) (h1 : ∀ v ∈ vs, v.oneCell' = true) :
    (storeCells ⟨b, off, none⟩ vs).run P w = .ok () (w.setRow b (c.toList.take off ++ vs ++ c.toList.drop (off + vs.length)).toArray) := by
  have := run_storeCells_ok P b off ty fz vs 0 c w hb hfz (by simpa using hl) h1
  simpa using this

theorem getD_splice {α : Type} {c vs : List α} {off : Nat} {d : α} (hl : off + vs.length ≤ c.length) (j : Nat) :
    (c.take off ++ vs ++ c.drop (off + vs.length)).getD j d = if off ≤ j ∧ j < off + vs.length then vs.getD (j - off) d else c.getD j d := by
  simp only [List.getD_eq_getElem?_getD]
  have htl : (c.take off).length = off := by simp; omega
  rcases Nat.lt_or_ge j off with h1 | h1
  · rw [if_neg (by omega), List.append_assoc, List.getElem?_append_left (by omega), List.getElem?_take, if_pos h1]
  · rw [List.append_assoc, List.getElem?_append_right (by omega), htl]
    rcases Nat.lt_or_ge (j - off) vs.length with h2 | h2
    · rw [if_pos (by omega), List.getElem?_append_left h2]
    · rw [if_neg (by omega), List.getElem?_append_right h2, List.getElem?_drop]
      congr 2
      omega

/-- A store into a box. -/
theorem St.store (h : St P W0 σ0 w0 nt σ fr H a w) {b off : Nat} (hb : b < σ.n) {vs : Array Value} {ds : List D} (hv : CV σ w vs ds) (hsc : ∀ d ∈ ds, d.sc = true) (hbx : ∀ d ∈ ds, d.bx = true)
    (hl : off + ds.length ≤ (hget H b).length) :
    ∃ w', (storeCells ⟨σ.ι b, off, none⟩ vs.toList).run P w = .ok () w' ∧ St P W0 σ0 w0 nt σ fr (H.set b (setCells (hget H b) off ds)) a w' := by
  obtain ⟨c, ty, fz, h1, hfz, h2, h3, h4⟩ := h.rel.box b hb
  have hvl : vs.toList.length = ds.length := by simpa using hv.1
  have hone : ∀ v ∈ vs.toList, v.oneCell' = true := fun v hmem => by
    obtain ⟨j, hj, rfl⟩ := List.getElem_of_mem hmem
    have hj' : j < ds.length := by rw [← hvl]; exact hj
    have := hv.2 j hj'
    have e : vs.getD j undef = vs.toList[j] := by
      have : j < vs.size := by rw [hv.1]; exact hj'
      simp [this]
    rw [e] at this
    exact this.oneCell (hsc _ (getD_mem hj'))
  have hr := run_setRow_store (P := P) h1 hfz vs.toList (off := off) (by rw [hvl, h2]; exact hl) hone
  refine ⟨_, hr, ?_⟩
  generalize hcs : (c.toList.take off ++ vs.toList ++ c.toList.drop (off + vs.toList.length)).toArray = cs
  have hcsz : cs.size = c.size := by
    rw [← hcs]; simp only [List.size_toArray, List.length_append, List.length_take, List.length_drop]
    rw [show c.toList.length = c.size from rfl]; omega
  have hcg : ∀ j, cs.getD j undef = if off ≤ j ∧ j < off + ds.length then vs.getD (j - off) undef else c.getD j undef := fun j => by
    have e1 : cs.getD j undef = (c.toList.take off ++ vs.toList ++ c.toList.drop (off + vs.toList.length)).getD j undef := by
      rw [← hcs, Array.getD_eq_getD_getElem?, List.getD_eq_getElem?_getD, List.getElem?_toArray]
    have e2 : ∀ (x : Array Value) k, x.toList.getD k undef = x.getD k undef := fun x k => by
      rw [Array.getD_eq_getD_getElem?, List.getD_eq_getElem?_getD, Array.getElem?_toList]
    rw [e1, getD_splice (by rw [hvl, show c.toList.length = c.size from rfl, h2]; exact hl), hvl, e2, e2]
  have hdg : ∀ j, (setCells (hget H b) off ds).getD j .any = if off ≤ j ∧ j < off + ds.length then ds.getD (j - off) .any else (hget H b).getD j .any := fun j => by
    unfold setCells
    rw [getD_splice hl]
  have hdsz : (setCells (hget H b) off ds).length = (hget H b).length := by
    unfold setCells; simp only [List.length_append, List.length_take, List.length_drop]; omega
  have hstep : Step σ w σ (w.setRow (σ.ι b) cs) :=
    ⟨by simp, fun k hk hi => setRow_other w (σ.ι b) k cs (fun e => hi b hb e.symm), Nat.le_refl _, fun _ _ => rfl, fun i h1 h2 => by omega, fun _ _ => rfl⟩
  have hext := hstep.ext h.rel
  refine h.world hstep ⟨by rw [List.length_set]; exact h.rel.n, h.rel.inj, h.rel.old, fun i hi => ?_, fun x hx d hd => ?_, h.rel.base.setRow _ _ (h.rel.old b hb)⟩
  rotate_right
  · rcases List.mem_or_eq_of_mem_set hx with hx | rfl
    · exact h.rel.bx x hx d hd
    · unfold setCells at hd
      have hold : ∀ d ∈ hget H b, d.bx = true := fun d hd => h.rel.bx (hget H b) (getD_mem (by rw [← h.rel.n]; exact hb)) d hd
      rcases List.mem_append.1 hd with hd | hd
      · rcases List.mem_append.1 hd with hd | hd
        · exact hold d (List.mem_of_mem_take hd)
        · exact hbx d hd
      · exact hold d (List.mem_of_mem_drop hd)
  by_cases e : i = b
  · subst e
    have hgs : hget (H.set i (setCells (hget H i) off ds)) i = setCells (hget H i) off ds := by
      have : i < H.length := by rw [← h.rel.n]; exact hi
      simp [hget, this]
    rw [hgs]
    refine ⟨cs, ty, fz, setRow_heap w _ c cs ty fz h1, fzOk_size hfz hcsz, by rw [hcsz, hdsz, h2], h3, fun j hj => ?_⟩
    rw [hcg j, hdg j]
    by_cases hc : off ≤ j ∧ j < off + ds.length
    · rw [if_pos hc, if_pos hc]
      have hjl : j - off < ds.length := by omega
      exact (hv.2 _ hjl).mono hext
    · rw [if_neg hc, if_neg hc]
      exact (h4 j (by omega)).mono hext
  · have hgs : hget (H.set b (setCells (hget H b) off ds)) i = hget H i := by
      simp only [hget, List.getD_eq_getElem?_getD]; rw [List.getElem?_set_ne (Ne.symm e)]
    rw [hgs]
    obtain ⟨c', ty', fz', q1, q0, q2, q3, q4⟩ := h.rel.box i hi
    have hne : σ.ι i ≠ σ.ι b := fun he => e (h.rel.inj i b hi hb he)
    exact ⟨c', ty', fz', by rw [setRow_other w _ _ cs hne]; exact q1, q0, q2, q3, fun j hj => (q4 j hj).mono hext⟩

end
end Dl
