/- The relation between a call's state and its data, and how single steps keep it. -/
import Derived.Test.YtgnebanjejmckaaDoorDb
import Derived.Laws.CopyRow
import Derived.Laws.Tables
import Derived.Laws.MakeOwn
namespace Dl
open Go

theorem hget_left (H X : Heap) (i : Nat) (h : i < H.length) : hget (H ++ X) i = hget H i := by
  simp only [hget, List.getD_eq_getElem?_getD]; rw [List.getElem?_append_left h]
theorem hget_last (H : Heap) (ds : List D) : hget (H ++ [ds]) H.length = ds := by
  simp [hget]

/-- Of the world in which the law's call began nothing has turned. -/
structure Base (W0 w : World) : Prop where
  size : W0.heap.size ≤ w.heap.size
  block : ∀ b, b < W0.heap.size → w.heap[b]? = W0.heap[b]?
  os : w.os = W0.os
  tape : w.tape = W0.tape
  output : w.output = W0.output

/-- None of the row's cells is shared with a string. -/
def fzOk (c : Array Value) (fz : Nat × Nat) : Prop := ∀ j, j < c.size → ¬ (fz.1 ≤ j ∧ j < fz.2)
theorem fzOk_0 (c : Array Value) : fzOk c (0, 0) := fun j _ h => by omega

/-- The boxes hold what the heap of data says. -/
structure Rel (W0 : World) (σ : Sig) (w : World) (H : Heap) : Prop where
  n : σ.n = H.length
  inj : ∀ i j, i < σ.n → j < σ.n → σ.ι i = σ.ι j → i = j
  old : ∀ i, i < σ.n → W0.heap.size ≤ σ.ι i
  box : ∀ i, i < σ.n → ∃ c ty fz, w.heap[σ.ι i]? = some (.cells c ty fz) ∧ fzOk c fz ∧ c.size = (hget H i).length ∧ σ.κ (σ.ι i) = 0 ∧
    ∀ j, j < c.size → V σ w (c.getD j undef) ((hget H i).getD j .any)
  bx : ∀ ds ∈ H, ∀ d ∈ ds, d.bx = true
  base : Base W0 w

/-- What has become of the world since 'w': old blocks are as they were, but for the boxes. -/
structure Step (σ : Sig) (w : World) (σ' : Sig) (w' : World) : Prop where
  size : w.heap.size ≤ w'.heap.size
  block : ∀ b, b < w.heap.size → (∀ i, i < σ.n → σ.ι i ≠ b) → w'.heap[b]? = w.heap[b]?
  n : σ.n ≤ σ'.n
  ι : ∀ i, i < σ.n → σ'.ι i = σ.ι i
  new : ∀ i, σ.n ≤ i → i < σ'.n → w.heap.size ≤ σ'.ι i
  κ : ∀ b, b < w.heap.size → σ'.κ b = σ.κ b

theorem Step.refl (σ : Sig) (w : World) : Step σ w σ w :=
  ⟨Nat.le_refl _, fun _ _ _ => rfl, Nat.le_refl _, fun _ _ => rfl, fun i h1 h2 => by omega, fun _ _ => rfl⟩

theorem Step.trans {σ σ' σ'' : Sig} {w w' w'' : World} (h : Step σ w σ' w') (k : Step σ' w' σ'' w'') : Step σ w σ'' w'' := by
  refine ⟨Nat.le_trans h.size k.size, fun b hb hi => ?_, Nat.le_trans h.n k.n, fun i hi => ?_, fun i h1 h2 => ?_, fun b hb => ?_⟩
  · rw [k.block b (Nat.lt_of_lt_of_le hb h.size) ?_, h.block b hb hi]
    intro i hi'
    rcases Nat.lt_or_ge i σ.n with hlt | hge
    · rw [h.ι i hlt]; exact hi i hlt
    · have := h.new i hge hi'; omega
  · rw [k.ι i (Nat.lt_of_lt_of_le hi h.n), h.ι i hi]
  · rcases Nat.lt_or_ge i σ'.n with hlt | hge
    · rw [k.ι i hlt]; exact h.new i h1 hlt
    · exact Nat.le_trans h.size (k.new i hge h2)
  · rw [k.κ b (Nat.lt_of_lt_of_le hb h.size), h.κ b hb]

theorem Step.ext {σ σ' : Sig} {w w' : World} {W0 : World} {H : Heap} (h : Step σ w σ' w') (r : Rel W0 σ w H) : Ext σ w σ' w' := by
  refine ⟨h.n, h.ι, fun b hb => Nat.le_of_eq (h.κ b hb).symm, fun b c ty fz hb hk hc => ?_⟩
  have hlt := lt_of_get hb
  refine ⟨c, fz, ?_, rfl, fun _ _ => rfl, ?_⟩
  · rw [h.block b hlt ?_, hb]
    intro i hi e
    obtain ⟨_, _, _, _, _, _, h0, _⟩ := r.box i hi
    rw [e] at h0; omega
  · rw [h.κ b hlt]; exact hc

/-- What a value's own flag asks of memory. -/
def OwnV (P : Program) (σ : Sig) (B : Nat) (w : World) (v : Value) : D → Prop
  | .lst .exact xs => ∃ a, v = .slice a xs.length xs.length
  | .lst (.tip e) xs => (∃ a, v = .slice a xs.length xs.length) ∨
      ∃ g cap cur, v = .slice (some ⟨g, 0, none⟩) xs.length cap ∧ B ≤ g ∧ w.heap[g]? = some (.cells cur e (0, 0)) ∧ xs.length ≤ cap ∧ cap ≤ maxLen ∧
        cur.size = cap * P.cellsOf e ∧ σ.κ g = xs.length * P.cellsOf e ∧ (∀ i, i < σ.n → σ.ι i ≠ g) ∧ (∀ x ∈ xs, x.cells.length = P.cellsOf e)
  | _ => True

/-- This value may write into the spare cells of row g. -/
def holds (v : Value) (d : D) (g : Nat) : Prop := ∃ e xs off len cap, d = .lst (.tip e) xs ∧ v = .slice (some ⟨g, off, none⟩) len cap ∧ len < cap

def noOwn : D → Bool
  | .lst .no _ => true
  | .lst _ _ => false
  | _ => true

theorem OwnV.of_noOwn {P : Program} {σ : Sig} {B : Nat} {w : World} {v : Value} {d : D} (h : noOwn d = true) : OwnV P σ B w v d := by
  unfold OwnV
  split <;> simp_all [noOwn]

theorem not_holds_of_noOwn {v : Value} {d : D} {g : Nat} (h : noOwn d = true) : ¬ holds v d g := by
  rintro ⟨e, xs, off, len, cap, rfl, _⟩
  simp [noOwn] at h

theorem noOwn_pl (d : D) : noOwn d.pl = true := by cases d <;> rfl
theorem V.pl {σ : Sig} {w : World} {v : Value} {d : D} (h : V σ w v d) : V σ w v d.pl := by
  cases d with
  | lst o xs => exact h.flag .no
  | _ => exact h

theorem OwnV.step {P : Program} {σ σ' : Sig} {B : Nat} {w w' : World} {v : Value} {d : D} (h : Step σ w σ' w') (ho : OwnV P σ B w v d) : OwnV P σ' B w' v d := by
  cases d with
  | lst o xs => ?_
  | _ => trivial
  cases o with
  | no => trivial
  | exact => exact ho
  | tip e =>
    rcases ho with ho | ⟨g, cap, cur, hv, hB, hg, h1, h2, h3, h4, h5, h6⟩
    · exact .inl ho
    · have hlt := lt_of_get hg
      refine .inr ⟨g, cap, cur, hv, hB, ?_, h1, h2, h3, ?_, fun i hi e => ?_, h6⟩
      · rw [h.block g hlt h5, hg]
      · rw [h.κ g hlt, h4]
      · rcases Nat.lt_or_ge i σ.n with hi' | hi'
        · rw [h.ι i hi'] at e; exact h5 i hi' e
        · have := h.new i hi' hi; omega

/-- A slot's value. -/
def sl (a : Act) (t : Nat) : Value := a.tmps.getD t undef

/-- The state of a call with 'nt' slots: slots, boxes, and what has become of memory since it began in 'w0'. -/
structure St (P : Program) (W0 : World) (σ0 : Sig) (w0 : World) (nt : Nat) (σ : Sig) (fr : Fr) (H : Heap) (a : Act) (w : World) : Prop where
  size : a.tmps.size = nt
  slot : ∀ t, V σ w (sl a t) (fr t)
  own : ∀ t, OwnV P σ w0.heap.size w (sl a t) (fr t)
  dist : ∀ t t' g, t ≠ t' → holds (sl a t) (fr t) g → holds (sl a t') (fr t') g → False
  rel : Rel W0 σ w H
  step : Step σ0 w0 σ w
  base0 : W0.heap.size ≤ w0.heap.size
  defers : a.defers = []

section
variable {P : Program} {W0 : World} {σ0 σ σ' : Sig} {w0 w w' : World} {fr : Fr} {H H' : Heap} {a : Act} {nt : Nat}

theorem St.world (h : St P W0 σ0 w0 nt σ fr H a w) (s : Step σ w σ' w') (r : Rel W0 σ' w' H') : St P W0 σ0 w0 nt σ' fr H' a w' :=
  ⟨h.size, fun t => (h.slot t).mono (s.ext h.rel), fun t => (h.own t).step s, h.dist, r, h.step.trans s, h.base0, h.defers⟩

theorem sl_put (a : Act) (d : Nat) (v : Value) (t : Nat) (hd : d < a.tmps.size) : sl (a.put (some d) v) t = if t = d then v else sl a t := by
  simp only [sl, Act.put, Array.getD_eq_getD_getElem?]
  by_cases e : t = d
  · subst e
    simp [hd]
  · rw [Array.getElem?_setIfInBounds_ne (Ne.symm e), if_neg e]

theorem size_put (a : Act) (d : Option Nat) (v : Value) : (a.put d v).tmps.size = a.tmps.size := by
  cases d <;> simp [Act.put]
theorem defers_put (a : Act) (d : Option Nat) (v : Value) : (a.put d v).defers = a.defers := by cases d <;> rfl

theorem St.put (h : St P W0 σ0 w0 nt σ fr H a w) {v : Value} {d : D} (hv : V σ w v d) (ho : OwnV P σ w0.heap.size w v d) (dst : Option Nat)
    (hlt : ∀ t, dst = some t → t < nt)
    (hd : ∀ g, holds v d g → ∀ t, dst ≠ some t → ¬ holds (sl a t) (fr t) g) :
    St P W0 σ0 w0 nt σ (fr.put dst d) H (a.put dst v) w := by
  cases dst with
  | none => exact h
  | some d' =>
    have hlt' : d' < a.tmps.size := by rw [h.size]; exact hlt d' rfl
    refine ⟨by rw [size_put, h.size], fun t => ?_, fun t => ?_, fun t t' g hne h1 h2 => ?_, h.rel, h.step, h.base0, h.defers⟩
    · rw [sl_put a d' v t hlt', Fr.put_some, Fr.set_app]
      split
      · exact hv
      · exact h.slot t
    · rw [sl_put a d' v t hlt', Fr.put_some, Fr.set_app]
      split
      · exact ho
      · exact h.own t
    · rw [sl_put a d' v t hlt', Fr.put_some, Fr.set_app] at h1
      rw [sl_put a d' v t' hlt', Fr.put_some, Fr.set_app] at h2
      by_cases e : t = d'
      · have e' : ¬ t' = d' := by omega
        simp only [e, e', if_true, if_false] at h1 h2
        exact hd g h1 t' (by simp; omega) h2
      · simp only [e, if_false] at h1
        by_cases e' : t' = d'
        · simp only [e', if_true] at h2
          exact hd g h2 t (by simp; omega) h1
        · simp only [e', if_false] at h2
          exact h.dist t t' g hne h1 h2

theorem St.putNo (h : St P W0 σ0 w0 nt σ fr H a w) {v : Value} {d : D} (hv : V σ w v d) (ho : noOwn d = true) (dst : Option Nat)
    (hlt : ∀ t, dst = some t → t < nt) :
    St P W0 σ0 w0 nt σ (fr.put dst d) H (a.put dst v) w :=
  h.put hv (.of_noOwn ho) dst hlt fun _ hh => absurd hh (not_holds_of_noOwn ho)

theorem noOwn_dis_tip (d : D) : (∀ e xs, d ≠ .lst (.tip e) xs) → d.dis = d := by
  intro h
  cases d with
  | lst o xs => cases o with
    | tip e => exact absurd rfl (h e xs)
    | _ => rfl
  | _ => rfl

theorem OwnV.dis {B : Nat} {v : Value} {d : D} (h : OwnV P σ B w v d) : OwnV P σ B w v d.dis := by
  cases d with
  | lst o xs => cases o with
    | tip e => exact .of_noOwn rfl
    | _ => exact h
  | _ => exact h
theorem not_holds_dis {v : Value} {d : D} {g : Nat} : ¬ holds v d.dis g := by
  rintro ⟨e, xs, off, len, cap, hd, _⟩
  cases d with
  | lst o ys => cases o <;> simp [D.dis] at hd
  | _ => simp [D.dis] at hd

/-- A slot gives up what it owns. -/
theorem St.drop (h : St P W0 σ0 w0 nt σ fr H a w) (s : Nat) : St P W0 σ0 w0 nt σ (fr.set s (fr s).dis) H a w := by
  refine ⟨h.size, fun t => ?_, fun t => ?_, fun t t' g hne h1 h2 => ?_, h.rel, h.step, h.base0, h.defers⟩
  · rw [Fr.set_app]
    split
    · rename_i e; subst e; exact (h.slot t).dis
    · exact h.slot t
  · rw [Fr.set_app]
    split
    · rename_i e; subst e; exact (h.own t).dis
    · exact h.own t
  · rw [Fr.set_app] at h1 h2
    split at h1
    · exact not_holds_dis h1
    · split at h2
      · exact not_holds_dis h2
      · exact h.dist t t' g hne h1 h2

/-- A draw. -/
theorem ext_drew (σ : Sig) (w : World) : Ext σ w σ w.drew :=
  ⟨Nat.le_refl _, fun _ _ => rfl, fun _ _ => Nat.le_refl _, fun _ c _ fz hb _ hc => ⟨c, fz, hb, rfl, fun _ _ => rfl, hc⟩⟩
theorem St.drew (h : St P W0 σ0 w0 nt σ fr H a w) : St P W0 σ0 w0 nt σ fr H a w.drew :=
  h.world ⟨Nat.le_refl _, fun _ _ _ => rfl, Nat.le_refl _, fun _ _ => rfl, fun i h1 h2 => by omega, fun _ _ => rfl⟩
    ⟨h.rel.n, h.rel.inj, h.rel.old, fun i hi => by
      obtain ⟨c, ty, fz, h1, h0, h2, h3, h4⟩ := h.rel.box i hi
      exact ⟨c, ty, fz, h1, h0, h2, h3, fun j hj => V.mono (ext_drew σ w) (h4 j hj)⟩, h.rel.bx,
     ⟨h.rel.base.size, h.rel.base.block, h.rel.base.os, h.rel.base.tape, h.rel.base.output⟩⟩

end

/-- The boxes under a step that leaves their blocks alone. -/
theorem Rel.keep {W0 : World} {σ σ' : Sig} {w w' : World} {H : Heap} (h : Rel W0 σ w H) (s : Step σ w σ' w') (hn : σ'.n = σ.n)
    (hb : ∀ i, i < σ.n → w'.heap[σ.ι i]? = w.heap[σ.ι i]?) (hk : ∀ i, i < σ.n → σ'.κ (σ.ι i) = 0) (base : Base W0 w') : Rel W0 σ' w' H := by
  refine ⟨by rw [hn, h.n], fun i j hi hj e => ?_, fun i hi => ?_, fun i hi => ?_, h.bx, base⟩
  · rw [hn] at hi hj
    rw [s.ι i hi, s.ι j hj] at e
    exact h.inj i j hi hj e
  · rw [hn] at hi; rw [s.ι i hi]; exact h.old i hi
  · rw [hn] at hi
    obtain ⟨c, ty, fz, h1, h0, h2, h3, h4⟩ := h.box i hi
    rw [s.ι i hi]
    exact ⟨c, ty, fz, by rw [hb i hi, h1], h0, h2, hk i hi, fun j hj => (h4 j hj).mono (s.ext h)⟩

theorem Base.alloc {W0 w : World} (h : Base W0 w) (o : Obj) : Base W0 (w.alloc o) :=
  ⟨by have := h.size; simp; omega, fun b hb => by rw [heap_alloc_old w o b (by have := h.size; omega)]; exact h.block b hb, h.os, h.tape, h.output⟩
theorem Base.drew {W0 w : World} (h : Base W0 w) : Base W0 w.drew := ⟨h.size, h.block, h.os, h.tape, h.output⟩
theorem Base.setRow {W0 w : World} (h : Base W0 w) (g : Nat) (cs : Array Value) (hg : W0.heap.size ≤ g) : Base W0 (w.setRow g cs) :=
  ⟨by have := h.size; simp; omega, fun b hb => by rw [setRow_other w g b cs (by omega)]; exact h.block b hb, h.os, h.tape, h.output⟩

theorem Rel.lt {W0 : World} {σ : Sig} {w : World} {H : Heap} (h : Rel W0 σ w H) (i : Nat) (hi : i < σ.n) : σ.ι i < w.heap.size := by
  obtain ⟨c, ty, fz, h1, _⟩ := h.box i hi
  exact lt_of_get h1

/-- A new block of cells laid for good up to 'k'. -/
def Sig.lay (σ : Sig) (b k : Nat) : Sig := { σ with κ := fun x => if x = b then k else σ.κ x }
/-- A new box. -/
def Sig.box (σ : Sig) (b : Nat) : Sig := { ι := fun i => if i = σ.n then b else σ.ι i, n := σ.n + 1, κ := fun x => if x = b then 0 else σ.κ x }

theorem step_lay (σ : Sig) (w : World) (o : Obj) (k : Nat) : Step σ w (σ.lay w.heap.size k) (w.alloc o) :=
  ⟨by simp, fun b hb _ => heap_alloc_old w o b hb, Nat.le_refl _, fun _ _ => rfl, fun i h1 h2 => by simp only [Sig.lay] at h2; omega,
    fun b hb => by simp only [Sig.lay]; rw [if_neg (by omega)]⟩
theorem step_box (σ : Sig) (w : World) (o : Obj) : Step σ w (σ.box w.heap.size) (w.alloc o) :=
  ⟨by simp, fun b hb _ => heap_alloc_old w o b hb, by simp [Sig.box], fun i hi => by simp only [Sig.box]; rw [if_neg (by omega)],
    fun i h1 h2 => by simp only [Sig.box] at h2 ⊢; rw [if_pos (by omega)]; exact Nat.le_refl _, fun b hb => by simp only [Sig.box]; rw [if_neg (by omega)]⟩

theorem rel_lay {W0 : World} {σ : Sig} {w : World} {H : Heap} (h : Rel W0 σ w H) (o : Obj) (k : Nat) : Rel W0 (σ.lay w.heap.size k) (w.alloc o) H :=
  h.keep (step_lay σ w o k) rfl (fun i hi => heap_alloc_old w o _ (h.lt i hi))
    (fun i hi => by have := h.lt i hi; simp only [Sig.lay]; rw [if_neg (by omega)]; obtain ⟨_, _, _, _, _, _, h3, _⟩ := h.box i hi; exact h3) (h.base.alloc o)

theorem rel_box {W0 : World} {σ : Sig} {w : World} {H : Heap} (h : Rel W0 σ w H) (c : Array Value) (ty : TypeId) (fz : Nat × Nat) (hfz : fzOk c fz) (ds : List D) (hl : c.size = ds.length)
    (hc : ∀ j, j < c.size → V σ w (c.getD j undef) (ds.getD j .any)) (hn : ∀ d ∈ ds, d.bx = true) :
    Rel W0 (σ.box w.heap.size) (w.alloc (.cells c ty fz)) (H ++ [ds]) := by
  have st := step_box σ w (.cells c ty fz)
  refine ⟨by simp [Sig.box, h.n], fun i j hi hj e => ?_, fun i hi => ?_, fun i hi => ?_, fun x hx => ?_, h.base.alloc _⟩
  rotate_right
  · rcases List.mem_append.1 hx with hx | hx
    · exact h.bx x hx
    · have : x = ds := by simpa using hx
      rw [this]; exact hn
  · simp only [Sig.box] at hi hj e
    split at e <;> split at e
    · omega
    · have := h.lt j (by omega); omega
    · have := h.lt i (by omega); omega
    · exact h.inj i j (by omega) (by omega) e
  · simp only [Sig.box] at hi ⊢
    split
    · exact h.base.size
    · exact h.old i (by omega)
  · have hi' : i < σ.n + 1 := hi
    by_cases e : i = σ.n
    · subst e
      have h1 : (σ.box w.heap.size).ι σ.n = w.heap.size := by simp [Sig.box]
      rw [h1]
      refine ⟨c, ty, fz, heap_alloc_new w _, hfz, ?_, by simp [Sig.box], fun j hj => ?_⟩
      · rw [h.n, hget_last]; exact hl
      · have := hc j hj
        rw [h.n, hget_last]
        exact this.mono (st.ext h)
    · have hlt : i < σ.n := by omega
      obtain ⟨c', ty', fz', h1, h0, h2, h3, h4⟩ := h.box i hlt
      have hi2 : (σ.box w.heap.size).ι i = σ.ι i := by simp [Sig.box, e]
      have hb := h.lt i hlt
      have hH : hget (H ++ [ds]) i = hget H i := hget_left H _ i (by rw [← h.n]; exact hlt)
      rw [hi2, hH]
      refine ⟨c', ty', fz', ?_, h0, h2, ?_, fun j hj => (h4 j hj).mono (st.ext h)⟩
      · rw [heap_alloc_old w _ _ hb]; exact h1
      · simp only [Sig.box]; rw [if_neg (by omega)]; exact h3

end Dl
