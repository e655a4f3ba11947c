/- One operation: what the machine does is what the data say. -/
import Derived.Test.YtgnebanjejmckaaDoorDi
namespace Dl
open Go

/-- A call: whatever fits, it returns, and what it returns and leaves in the boxes meets 'K'. -/
def CallWp (P : Program) (W0 : World) : Callee := fun f ds H K =>
  (∃ fn, P.funcs[f]? = some fn ∧ fn.body.isSome = true ∧ (fn.name == "runtime.NumGoroutine") = false) ∧
  ∀ (σ : Sig) (w : World) (vs : Array Value), Rel W0 σ w H → CV σ w vs ds →
    Calls P f vs w fun e w' => ∃ v r H' σ', e = .returned v ∧ K r H' ∧ V σ' w' v r ∧ OwnV P σ' w.heap.size w' v r ∧ Rel W0 σ' w' H' ∧ Step σ w σ' w' ∧ σ'.n = σ.n

theorem CallWp.mono {P : Program} {W0 : World} {f : FuncId} {ds : List D} {H : Heap} {K K' : D → Heap → Prop} (h : CallWp P W0 f ds H K) (hk : ∀ r H', K r H' → K' r H') : CallWp P W0 f ds H K' :=
  ⟨h.1, fun σ w vs hr hv => (h.2 σ w vs hr hv).mono fun _ _ ⟨v, r, H', σ', h1, h2, h3⟩ => ⟨v, r, H', σ', h1, hk _ _ h2, h3⟩⟩

section
variable {P : Program} {W0 : World} {σ0 σ σ' : Sig} {w0 w w' : World} {fr : Fr} {H H' : Heap} {a : Act} {nt : Nat}

/-- Goes on: whatever state fits what 'K' says. -/
def Next (P : Program) (W0 : World) (σ0 : Sig) (w0 : World) (nt : Nat) (K : Fr → Heap → Prop) (next : Act → World → Prop) : Prop :=
  ∀ σ fr H a w, St P W0 σ0 w0 nt σ fr H a w → K fr H → next a w

theorem wp_value {o : Oper} {next : Act → World → Prop} {Q : Exit → Act → World → Prop} {K : Fr → Heap → Prop} (h : St P W0 σ0 w0 nt σ fr H a w) (hn : Next P W0 σ0 w0 nt K next)
    (hd : ∀ t, o.dst = some t → t < nt) {v : Value} {d : D} (hr : (execOp a.eval o).run P w = .ok (.value v) w) (hv : V σ w v d) (ho : noOwn d = true)
    (hK : K (fr.put o.dst d) H) : o.wp P a w next Q := by
  unfold Oper.wp
  rw [hr]
  exact hn _ _ _ _ _ (h.putNo hv ho o.dst hd) hK

theorem exec_v {α : Operand → Value} {o : Oper} {s : Sem Value} (h : execOp α o = (do pure (.value (← s)))) {v : Value} {w w' : World} (hr : s.run P w = .ok v w') :
    (execOp α o).run P w = .ok (.value v) w' := by
  rw [h, Sem.run_bind, hr]; rfl

theorem optK_some' {o : Option D} {k : D → Prop} (h : optK o k) : ∃ d, o = some d ∧ k d := by
  unfold optK at h
  split at h
  · exact ⟨_, rfl, h⟩
  · exact h.elim

theorem St.putTr (h : St P W0 σ0 w0 nt σ fr H a w) (s d : Nat) (hd : d < nt) (hne : d ≠ s) : St P W0 σ0 w0 nt σ ((fr.set s (fr s).dis).set d (fr s)) H (a.put (some d) (sl a s)) w :=
  (h.drop s).put (dst := some d) (h.slot s) (h.own s) (fun t ht => by cases ht; exact hd) fun g hg t ht hh => by
    rw [Fr.set_app] at hh
    by_cases e : t = s
    · rw [if_pos e] at hh; exact not_holds_dis hh
    · rw [if_neg e] at hh; exact h.dist t s g e hh hg

theorem run_setRow_store {b off : Nat} {c : Array Value} {ty : TypeId} (hb : w.heap[b]? = some (.cells c ty (0, 0))) (vs : List Value) (hl : off + vs.length ≤ c.size) (h1 : ∀ v ∈ vs, v.oneCell' = true) :
    (storeCells ⟨b, off, none⟩ vs).run P w = .ok () (w.setRow b (c.toList.take off ++ vs ++ c.toList.drop (off + vs.length)).toArray) := by
  have := run_storeCells_at P b off ty vs 0 c w hb (by simpa using hl) h1
  simpa using this

theorem getD_splice {α : Type} {c vs : List α} {off : Nat} {d : α} (hl : off + vs.length ≤ c.length) (j : Nat) :
    (c.take off ++ vs ++ c.drop (off + vs.length)).getD j d = if off ≤ j ∧ j < off + vs.length then vs.getD (j - off) d else c.getD j d := by
  simp only [List.getD_eq_getElem?_getD]
  have htl : (c.take off).length = off := by simp; omega
  rcases Nat.lt_or_ge j off with h1 | h1
  · rw [if_neg (by omega), List.append_assoc, List.getElem?_append_left (by omega), List.getElem?_take, if_pos h1]
  · rw [List.append_assoc, List.getElem?_append_right (by omega), htl]
    rcases Nat.lt_or_ge (j - off) vs.length with h2 | h2
    · rw [if_pos (by omega), List.getElem?_append_left h2]
    · rw [if_neg (by omega), List.getElem?_append_right h2, List.getElem?_drop]
      congr 2
      omega

/-- A store into a box. -/
theorem St.store (h : St P W0 σ0 w0 nt σ fr H a w) {b off : Nat} (hb : b < σ.n) {vs : Array Value} {ds : List D} (hv : CV σ w vs ds) (hsc : ∀ d ∈ ds, d.sc = true ∧ d.np1 = true)
    (hl : off + ds.length ≤ (hget H b).length) :
    ∃ w', (storeCells ⟨σ.ι b, off, none⟩ vs.toList).run P w = .ok () w' ∧ St P W0 σ0 w0 nt σ fr (H.set b (setCells (hget H b) off (ds.map D.pl))) a w' := by
  obtain ⟨c, ty, h1, h2, h3, h4⟩ := h.rel.box b hb
  have hvl : vs.toList.length = ds.length := by simpa using hv.1
  have hone : ∀ v ∈ vs.toList, v.oneCell' = true := fun v hmem => by
    obtain ⟨j, hj, rfl⟩ := List.getElem_of_mem hmem
    have hj' : j < ds.length := by rw [← hvl]; exact hj
    have := hv.2 j hj'
    have e : vs.getD j undef = vs.toList[j] := by
      have : j < vs.size := by rw [hv.1]; exact hj'
      simp [this]
    rw [e] at this
    exact this.oneCell (hsc _ (getD_mem hj')).1
  have hr := run_setRow_store (P := P) h1 vs.toList (off := off) (by rw [hvl, h2]; exact hl) hone
  refine ⟨_, hr, ?_⟩
  generalize hcs : (c.toList.take off ++ vs.toList ++ c.toList.drop (off + vs.toList.length)).toArray = cs
  have hcsz : cs.size = c.size := by
    rw [← hcs]; simp only [List.size_toArray, List.length_append, List.length_take, List.length_drop]
    rw [show c.toList.length = c.size from rfl]; omega
  have hcg : ∀ j, cs.getD j undef = if off ≤ j ∧ j < off + ds.length then vs.getD (j - off) undef else c.getD j undef := fun j => by
    have e1 : cs.getD j undef = (c.toList.take off ++ vs.toList ++ c.toList.drop (off + vs.toList.length)).getD j undef := by
      rw [← hcs, Array.getD_eq_getD_getElem?, List.getD_eq_getElem?_getD, List.getElem?_toArray]
    have e2 : ∀ (x : Array Value) k, x.toList.getD k undef = x.getD k undef := fun x k => by
      rw [Array.getD_eq_getD_getElem?, List.getD_eq_getElem?_getD, Array.getElem?_toList]
    rw [e1, getD_splice (by rw [hvl, show c.toList.length = c.size from rfl, h2]; exact hl), hvl, e2, e2]
  have hdl : (ds.map D.pl).length = ds.length := by simp
  have hdg : ∀ j, (setCells (hget H b) off (ds.map D.pl)).getD j .any = if off ≤ j ∧ j < off + ds.length then (ds.map D.pl).getD (j - off) .any else (hget H b).getD j .any := fun j => by
    unfold setCells
    rw [getD_splice (by rw [hdl]; exact hl), hdl]
  have hdsz : (setCells (hget H b) off (ds.map D.pl)).length = (hget H b).length := by
    unfold setCells; simp only [List.length_append, List.length_take, List.length_drop, hdl]; omega
  have hstep : Step σ w σ (w.setRow (σ.ι b) cs) :=
    ⟨by simp, fun k hk hi => setRow_other w (σ.ι b) k cs (fun e => hi b hb e.symm), Nat.le_refl _, fun _ _ => rfl, fun i h1 h2 => by omega, fun _ _ => rfl⟩
  have hext := hstep.ext h.rel
  refine h.world hstep ⟨by rw [List.length_set]; exact h.rel.n, h.rel.inj, h.rel.old, fun i hi => ?_, h.rel.base.setRow _ _ (h.rel.old b hb)⟩
  by_cases e : i = b
  · subst e
    have hgs : hget (H.set i (setCells (hget H i) off (ds.map D.pl))) i = setCells (hget H i) off (ds.map D.pl) := by
      have : i < H.length := by rw [← h.rel.n]; exact hi
      simp [hget, this]
    rw [hgs]
    refine ⟨cs, ty, setRow_heap w _ c cs ty (0, 0) h1, by rw [hcsz, hdsz, h2], h3, fun j hj => ?_⟩
    rw [hcg j, hdg j]
    by_cases hc : off ≤ j ∧ j < off + ds.length
    · rw [if_pos hc, if_pos hc]
      have hjl : j - off < ds.length := by omega
      have e2 : (ds.map D.pl).getD (j - off) .any = (ds.getD (j - off) .any).pl := by
        simp only [List.getD_eq_getElem?_getD, List.getElem?_map, List.getElem?_eq_getElem hjl, Option.map_some, Option.getD_some]
      rw [e2]
      exact ⟨((hv.2 _ hjl).mono hext).pl, by rw [np1_pl]; exact (hsc _ (getD_mem hjl)).2⟩
    · rw [if_neg hc, if_neg hc]
      have := h4 j (by omega)
      exact ⟨this.1.mono hext, this.2⟩
  · have hgs : hget (H.set b (setCells (hget H b) off (ds.map D.pl))) i = hget H i := by
      simp only [hget, List.getD_eq_getElem?_getD]; rw [List.getElem?_set_ne (Ne.symm e)]
    rw [hgs]
    obtain ⟨c', ty', q1, q2, q3, q4⟩ := h.rel.box i hi
    have hne : σ.ι i ≠ σ.ι b := fun he => e (h.rel.inj i b hi hb he)
    exact ⟨c', ty', by rw [setRow_other w _ _ cs hne]; exact q1, q2, q3, fun j hj => ⟨(q4 j hj).1.mono hext, (q4 j hj).2⟩⟩

end
end Dl
