/- The pure data D that stand for the machine's values, the relation V between them, and how it is kept as the world grows. -/
import Derived.Calls
import Derived.Orders
import Derived.Laws.Sem
import Derived.Laws.World
import Derived.Laws.Entries
import Derived.Laws.AppendOwn
import Derived.Laws.Rows
import Derived.Below
namespace Dl
open Go

/-- May a list be appended to in place? 'no': not by this value; 'exact': its capacity is its length; 'tip E': it alone reaches into its row's spare cells, elements of E cells. -/
inductive Own where
  | no
  | exact
  | tip (e : Nat)
  deriving DecidableEq, Inhabited

/-- Pure data. -/
inductive D where
  | any
  | int (k : IntKind) (n : Int)
  | bool (b : Bool)
  | str (s : List UInt8)
  | lst (o : Own) (xs : List D)
  | ref (i off len cap e : Nat)
  | agg (cs : List D)
  | ptr (i off : Nat)
  | rptr (cs : List D)
  | nilp
  | nili
  | nilf
  | ifc
  | fn (f : FuncId) (cs : List D)
  | tup (ds : List D)
  deriving Inhabited

/-- The cells of a datum. -/
def D.cells : D → List D
  | .agg cs => cs
  | d => [d]

/-- No pointer into a box (lists hold none by the relation's own words). -/
def D.np1 : D → Bool
  | .ptr _ _ => false
  | .ref _ _ _ _ _ => false
  | .agg _ => false
  | .tup _ => false
  | .fn _ cs => cs.isEmpty
  | _ => true
def D.np : D → Bool
  | .agg cs => cs.all D.np1
  | .tup ds => ds.all fun d => match d with | .agg cs => cs.all D.np1 | d => d.np1
  | d => d.np1

/-- A cell, each box that it sees being of a kind. -/
def D.ok1 (S : Nat → Bool) : D → Bool
  | .ref i _ _ _ _ => S i
  | .ptr i _ => S i
  | .agg _ => false
  | .tup _ => false
  | .fn _ cs => cs.isEmpty
  | _ => true
def D.okS (S : Nat → Bool) : D → Bool
  | .agg cs => cs.all (D.ok1 S)
  | .tup ds => ds.all fun d => match d with | .agg cs => cs.all (D.ok1 S) | d => d.ok1 S
  | d => d.ok1 S
/-- What may lie in a box. -/
def D.bx (d : D) : Bool := d.ok1 fun _ => true
theorem D.bx_np1 {d : D} (h : d.np1 = true) : d.bx = true := by cases d <;> first | rfl | exact h | (simp [D.np1] at h)
/-- Boxes numbered anew. -/
def D.ren1 (f : Nat → Nat) : D → D
  | .ref i off len cap e => .ref (f i) off len cap e
  | .ptr i off => .ptr (f i) off
  | d => d
def D.ren (f : Nat → Nat) : D → D
  | .agg cs => .agg (cs.map (D.ren1 f))
  | .tup ds => .tup (ds.map fun d => match d with | .agg cs => .agg (cs.map (D.ren1 f)) | d => d.ren1 f)
  | d => d.ren1 f
theorem D.ren1_np1 {f : Nat → Nat} {d : D} (h : d.np1 = true) : d.ren1 f = d := by cases d <;> first | rfl | (simp [D.np1] at h)
theorem D.ren_np {f : Nat → Nat} {d : D} (h : d.np = true) : d.ren f = d := by
  cases d with
  | agg cs =>
    show D.agg _ = D.agg cs
    congr 1
    conv => rhs; rw [← List.map_id cs]
    exact List.map_congr_left fun d hd => D.ren1_np1 (List.all_eq_true.1 (show cs.all D.np1 = true from h) d hd)
  | tup ds =>
    show D.tup _ = D.tup ds
    congr 1
    conv => rhs; rw [← List.map_id ds]
    refine List.map_congr_left fun d hd => ?_
    have hm := List.all_eq_true.1 (show (ds.all fun d => match d with | .agg cs => cs.all D.np1 | d => d.np1) = true from h) d hd
    cases d with
    | agg cs =>
      show D.agg _ = D.agg cs
      congr 1
      conv => rhs; rw [← List.map_id cs]
      exact List.map_congr_left fun d hd => D.ren1_np1 (List.all_eq_true.1 (show cs.all D.np1 = true from hm) d hd)
    | ref => simp [D.np1] at hm
    | ptr => simp [D.np1] at hm
    | _ => rfl
  | ref => simp [D.np, D.np1] at h
  | ptr => simp [D.np, D.np1] at h
  | _ => rfl
theorem D.ok1_np1 {S : Nat → Bool} {d : D} (h : d.np1 = true) : d.ok1 S = true := by cases d <;> first | rfl | exact h | (simp [D.np1] at h)
theorem D.okS_np {S : Nat → Bool} {d : D} (h : d.np = true) : d.okS S = true := by
  cases d with
  | agg cs => exact List.all_eq_true.2 fun d hd => D.ok1_np1 (List.all_eq_true.1 (show cs.all D.np1 = true from h) d hd)
  | tup ds =>
    refine List.all_eq_true.2 fun d hd => ?_
    have hm := List.all_eq_true.1 (show (ds.all fun d => match d with | .agg cs => cs.all D.np1 | d => d.np1) = true from h) d hd
    cases d with
    | agg cs => exact List.all_eq_true.2 fun d hd => D.ok1_np1 (List.all_eq_true.1 (show cs.all D.np1 = true from hm) d hd)
    | ref => simp [D.np1] at hm
    | ptr => simp [D.np1] at hm
    | tup => simp [D.np1] at hm
    | fn => exact hm
    | _ => rfl
  | ref => simp [D.np, D.np1] at h
  | ptr => simp [D.np, D.np1] at h
  | fn => exact h
  | _ => rfl

/-- One cell of memory, whatever it holds. -/
def D.sc : D → Bool
  | .any => false
  | .agg _ => false
  | .tup _ => false
  | _ => true

/-- A list that is not this value's to append to. -/
def D.dis : D → D
  | .lst (.tip _) xs => .lst .no xs
  | d => d

/-- Where the boxes lie, how many there are, and how many cells of each block are laid for good. -/
structure Sig where
  ι : Nat → Nat
  n : Nat
  κ : Nat → Nat

/-- The machine's value 'v' in the world 'w' is the datum 'd'. -/
inductive V (σ : Sig) (w : World) : Value → D → Prop where
  | any (v : Value) : V σ w v .any
  | int (k : IntKind) (n : Int) : V σ w (.int k n) (.int k n)
  | bool (b : Bool) : V σ w (.bool b) (.bool b)
  | str (s : ByteArray) (l : List UInt8) (h : s.data.toList = l) : V σ w (.string s) (.str l)
  | lnil (a : Option Addr) (cap : Nat) (o : Own) : V σ w (.slice a 0 cap) (.lst o [])
  | lst (b off cap E : Nat) (c : Array Value) (ty : TypeId) (fz : Nat × Nat) (o : Own) (xs : List D) (len : Nat) (hlen : len = xs.length) (hcap : len ≤ cap)
      (hb : w.heap[b]? = some (.cells c ty fz)) (hE : ∀ x ∈ xs, x.cells.length = E)
      (hnp : ∀ x ∈ xs, ∀ d ∈ x.cells, d.np1 = true) (hκ : off + xs.length * E ≤ σ.κ b) (hκ0 : 0 < σ.κ b) (hc : σ.κ b ≤ c.size)
      (h : ∀ i, i < xs.length → ∀ j, j < E → V σ w (c.getD (off + i * E + j) undef) (((xs.getD i .any).cells).getD j .any)) :
      V σ w (.slice (some ⟨b, off, none⟩) len cap) (.lst o xs)
  | ref (i off len cap e : Nat) (hi : i < σ.n) (hcap : len ≤ cap) : V σ w (.slice (some ⟨σ.ι i, off, none⟩) len cap) (.ref i off len cap e)
  | agg (c : Array Value) (ds : List D) (hl : c.size = ds.length) (h : ∀ j, j < ds.length → V σ w (c.getD j undef) (ds.getD j .any)) :
      V σ w (.agg c) (.agg ds)
  | tup (c : Array Value) (ds : List D) (hl : c.size = ds.length) (h : ∀ j, j < ds.length → V σ w (c.getD j undef) (ds.getD j .any)) :
      V σ w (.tuple c) (.tup ds)
  | ptr (i off : Nat) (hi : i < σ.n) : V σ w (.pointer (some ⟨σ.ι i, off, none⟩)) (.ptr i off)
  | rptr (b off : Nat) (c : Array Value) (ty : TypeId) (fz : Nat × Nat) (cs : List D)
      (hb : w.heap[b]? = some (.cells c ty fz)) (hnp : ∀ d ∈ cs, d.np1 = true) (hκ : off + cs.length ≤ σ.κ b) (hκ0 : 0 < σ.κ b) (hc : σ.κ b ≤ c.size)
      (h : ∀ j, j < cs.length → V σ w (c.getD (off + j) undef) (cs.getD j .any)) :
      V σ w (.pointer (some ⟨b, off, none⟩)) (.rptr cs)
  | nilp : V σ w (.pointer none) .nilp
  | nili : V σ w .nilIface .nili
  | nilf : V σ w .nilFunc .nilf
  | ifc (t : TypeId) (v : Value) : V σ w (.iface t v) .ifc
  | fn (f : FuncId) (c : Array Value) (cs : List D) (hl : c.size = cs.length) (h : ∀ j, j < cs.length → V σ w (c.getD j undef) (cs.getD j .any)) :
      V σ w (.func (.func f) #[] c) (.fn f cs)

/-- What is laid for good in 'w' is there in 'w''. -/
structure Ext (σ : Sig) (w : World) (σ' : Sig) (w' : World) : Prop where
  n : σ.n ≤ σ'.n
  ι : ∀ i, i < σ.n → σ'.ι i = σ.ι i
  κ : ∀ b, b < w.heap.size → σ.κ b ≤ σ'.κ b
  cell : ∀ b c ty fz, w.heap[b]? = some (.cells c ty fz) → 0 < σ.κ b → σ.κ b ≤ c.size →
    ∃ c' fz', w'.heap[b]? = some (.cells c' ty fz') ∧ c'.size = c.size ∧ (∀ j, j < σ.κ b → c'.getD j undef = c.getD j undef) ∧ σ'.κ b ≤ c'.size

theorem lt_of_get {w : World} {b : Nat} {o : Obj} (h : w.heap[b]? = some o) : b < w.heap.size := (Array.getElem?_eq_some_iff.1 h).1

theorem V.mono {σ σ' : Sig} {w w' : World} (e : Ext σ w σ' w') {v : Value} {d : D} (h : V σ w v d) : V σ' w' v d := by
  induction h with
  | any v => exact .any v
  | int k n => exact .int k n
  | bool b => exact .bool b
  | str s l h => exact .str s l h
  | lnil a cap o => exact .lnil a cap o
  | lst b off cap E c ty fz o xs len hlen hcap hb hE hnp hκ hκ0 hc h ih =>
    obtain ⟨c', fz', hb', hs, hj, hk'⟩ := e.cell b c ty fz hb hκ0 hc
    have hk := e.κ b (lt_of_get hb)
    refine .lst b off cap E c' ty fz' o xs len hlen hcap hb' hE hnp (by omega) (by omega) hk' ?_
    intro i hi j hjE
    have hlt : off + i * E + j < σ.κ b := by
      have : (i + 1) * E ≤ xs.length * E := Nat.mul_le_mul_right _ hi
      rw [Nat.add_mul] at this
      omega
    rw [hj _ hlt]
    exact ih i hi j hjE
  | ref i off len cap e' hi hcap =>
    have := V.ref (σ := σ') (w := w') i off len cap e' (Nat.lt_of_lt_of_le hi e.n) hcap
    rwa [e.ι i hi] at this
  | agg c ds hl h ih => exact .agg c ds hl ih
  | tup c ds hl h ih => exact .tup c ds hl ih
  | ptr i off hi =>
    have := V.ptr (σ := σ') (w := w') i off (Nat.lt_of_lt_of_le hi e.n)
    rwa [e.ι i hi] at this
  | rptr b off c ty fz cs hb hnp hκ hκ0 hc h ih =>
    obtain ⟨c', fz', hb', hs, hj, hk'⟩ := e.cell b c ty fz hb hκ0 hc
    have hk := e.κ b (lt_of_get hb)
    refine .rptr b off c' ty fz' cs hb' hnp (by omega) (by omega) hk' ?_
    intro j hjl
    rw [hj _ (by omega)]
    exact ih j hjl
  | nilp => exact .nilp
  | nili => exact .nili
  | nilf => exact .nilf
  | ifc t v => exact .ifc t v
  | fn f c cs hl h ih => exact .fn f c cs hl ih

theorem Ext.refl (σ : Sig) (w : World) : Ext σ w σ w :=
  ⟨Nat.le_refl _, fun _ _ => rfl, fun _ _ => Nat.le_refl _, fun _ c _ fz h _ hc => ⟨c, fz, h, rfl, fun _ _ => rfl, hc⟩⟩

theorem getD_mem {α : Type} {l : List α} {j : Nat} {d : α} (h : j < l.length) : l.getD j d ∈ l := by
  rw [List.getD_eq_getElem?_getD, List.getElem?_eq_getElem h]; exact List.getElem_mem _

theorem V.np1_any {σ : Sig} {w : World} (σ' : Sig) (hκ : σ'.κ = σ.κ) {v : Value} {d : D} (h : V σ w v d) : d.np1 = true → V σ' w v d := by
  induction h with
  | any v => exact fun _ => .any v
  | int k n => exact fun _ => .int k n
  | bool b => exact fun _ => .bool b
  | str s l h => exact fun _ => .str s l h
  | lnil a cap o => exact fun _ => .lnil a cap o
  | lst b off cap E c ty fz o xs len hlen hcap hb hE hnp h1 h2 hc h ih =>
    intro _
    refine .lst b off cap E c ty fz o xs len hlen hcap hb hE hnp (by rw [hκ]; exact h1) (by rw [hκ]; exact h2) (by rw [hκ]; exact hc) ?_
    intro i hi j hj
    have hx : xs.getD i .any ∈ xs := getD_mem hi
    have hl := hE _ hx
    exact ih i hi j hj (hnp _ hx _ (getD_mem (by omega)))
  | ref i off len cap e' hi hcap => intro h; simp [D.np1] at h
  | agg c ds hl h ih => intro h; simp [D.np1] at h
  | tup c ds hl h ih => intro h; simp [D.np1] at h
  | ptr i off hi => intro h; simp [D.np1] at h
  | rptr b off c ty fz cs hb hnp h1 h2 hc h ih =>
    intro _
    refine .rptr b off c ty fz cs hb hnp (by rw [hκ]; exact h1) (by rw [hκ]; exact h2) (by rw [hκ]; exact hc) ?_
    intro j hj
    exact ih j hj (hnp _ (getD_mem hj))
  | nilp => exact fun _ => .nilp
  | nili => exact fun _ => .nili
  | nilf => exact fun _ => .nilf
  | ifc t v => exact fun _ => .ifc t v
  | fn f c cs hl h ih =>
    intro hn
    have : cs = [] := by simpa [D.np1] using hn
    subst this
    exact .fn f c [] hl (fun j hj => absurd hj (by simp))

theorem V.np_any {σ : Sig} {w : World} (σ' : Sig) (hκ : σ'.κ = σ.κ) {v : Value} {d : D} (h : V σ w v d) (hn : d.np = true) : V σ' w v d := by
  cases h with
  | agg c ds hl h =>
    refine .agg c ds hl fun j hj => (h j hj).np1_any σ' hκ ?_
    have hall : ds.all D.np1 = true := hn
    rw [List.getD_eq_getElem?_getD, List.getElem?_eq_getElem hj]
    exact List.all_eq_true.1 hall _ (List.getElem_mem _)
  | tup c ds hl h =>
    refine .tup c ds hl fun j hj => ?_
    have hall : (ds.all fun d => match d with | .agg cs => cs.all D.np1 | d => d.np1) = true := hn
    have hm := List.all_eq_true.1 hall (ds.getD j .any) (by rw [List.getD_eq_getElem?_getD, List.getElem?_eq_getElem hj]; exact List.getElem_mem _)
    have hv := h j hj
    revert hm hv
    generalize ds.getD j .any = d
    generalize c.getD j undef = v
    intro hm hv
    cases hv with
    | agg c ds hl h =>
      refine .agg c ds hl fun j hj => (h j hj).np1_any σ' hκ ?_
      rw [List.getD_eq_getElem?_getD, List.getElem?_eq_getElem hj]
      exact List.all_eq_true.1 hm _ (List.getElem_mem _)
    | _ => first | exact V.np1_any σ' hκ (by first | exact .any _ | exact .int _ _ | exact .bool _ | exact .str _ _ ‹_› | exact .lnil _ _ _ | exact .nilp | exact .nili | exact .nilf | exact .ifc _ _ | (constructor <;> assumption)) hm
  | any v => exact .any v
  | int k n => exact .int k n
  | bool b => exact .bool b
  | str s l h => exact .str s l h
  | lnil a cap o => exact .lnil a cap o
  | lst b off cap E c ty fz o xs len hlen hcap hb hE hnp h1 h2 hc h => exact V.np1_any σ' hκ (.lst b off cap E c ty fz o xs len hlen hcap hb hE hnp h1 h2 hc h) hn
  | ref i off len cap e' hi hcap => simp [D.np, D.np1] at hn
  | ptr i off hi => simp [D.np, D.np1] at hn
  | rptr b off c ty fz cs hb hnp h1 h2 hc h => exact V.np1_any σ' hκ (.rptr b off c ty fz cs hb hnp h1 h2 hc h) hn
  | nilp => exact .nilp
  | nili => exact .nili
  | nilf => exact .nilf
  | ifc t v => exact .ifc t v
  | fn f c cs hl h => exact V.np1_any σ' hκ (.fn f c cs hl h) hn

theorem V.ren1 {σ σ' : Sig} {w : World} {S : Nat → Bool} {f : Nat → Nat} (hι : ∀ i, S i = true → i < σ.n → f i < σ'.n ∧ σ'.ι (f i) = σ.ι i) (hκ : σ'.κ = σ.κ) {v : Value} {d : D} (h : V σ w v d) (hd : d.ok1 S = true) : V σ' w v (d.ren1 f) := by
  have np : d.np1 = true → V σ' w v (d.ren1 f) := fun hn => by rw [D.ren1_np1 hn]; exact h.np1_any σ' hκ hn
  cases h with
  | ref i off len cap e hi hcap =>
    obtain ⟨h1, h2⟩ := hι i hd hi
    have := V.ref (σ := σ') (w := w) (f i) off len cap e h1 hcap
    rwa [h2] at this
  | ptr i off hi =>
    obtain ⟨h1, h2⟩ := hι i hd hi
    have := V.ptr (σ := σ') (w := w) (f i) off h1
    rwa [h2] at this
  | agg => simp [D.ok1] at hd
  | tup => simp [D.ok1] at hd
  | fn f c cs hl h => exact np hd
  | _ => exact np rfl

theorem V.ren {σ σ' : Sig} {w : World} {S : Nat → Bool} {f : Nat → Nat} (hι : ∀ i, S i = true → i < σ.n → f i < σ'.n ∧ σ'.ι (f i) = σ.ι i) (hκ : σ'.κ = σ.κ) {v : Value} {d : D} (h : V σ w v d) (hd : d.okS S = true) : V σ' w v (d.ren f) := by
  have hagg : ∀ (c : Array Value) (ds : List D), c.size = ds.length → (∀ j, j < ds.length → V σ w (c.getD j undef) (ds.getD j .any)) → ds.all (D.ok1 S) = true → V σ' w (.agg c) (.agg (ds.map (D.ren1 f))) := fun c ds hl h hall => by
    refine .agg c _ (by simp [hl]) fun j hj => ?_
    have hj' : j < ds.length := by simpa using hj
    have e : (ds.map (D.ren1 f)).getD j .any = (ds.getD j .any).ren1 f := by
      simp only [List.getD_eq_getElem?_getD, List.getElem?_map, List.getElem?_eq_getElem hj', Option.map_some, Option.getD_some]
    rw [e]
    exact (h j hj').ren1 hι hκ (List.all_eq_true.1 hall _ (getD_mem hj'))
  cases h with
  | agg c ds hl h => exact hagg c ds hl h hd
  | tup c ds hl h =>
    refine .tup c _ (by simp [hl]) fun j hj => ?_
    have hj' : j < ds.length := by simpa using hj
    have hm := List.all_eq_true.1 (show (ds.all fun d => match d with | .agg cs => cs.all (D.ok1 S) | d => d.ok1 S) = true from hd) (ds.getD j .any) (getD_mem hj')
    have hv := h j hj'
    have e : (ds.map fun d => match d with | .agg cs => D.agg (cs.map (D.ren1 f)) | d => d.ren1 f).getD j .any = (match ds.getD j .any with | .agg cs => D.agg (cs.map (D.ren1 f)) | d => d.ren1 f) := by
      simp only [List.getD_eq_getElem?_getD, List.getElem?_map, List.getElem?_eq_getElem hj', Option.map_some, Option.getD_some]
    rw [e]
    revert hm hv
    generalize ds.getD j .any = d
    generalize c.getD j undef = v
    intro hm hv
    cases d with
    | agg cs => cases hv with
      | agg c ds hl h => exact hagg _ _ hl h hm
    | _ => exact V.ren1 hι hκ hv hm
  | any v => exact V.ren1 hι hκ (.any v) hd
  | int k n => exact V.ren1 hι hκ (.int k n) hd
  | bool b => exact V.ren1 hι hκ (.bool b) hd
  | str s l h => exact V.ren1 hι hκ (.str s l h) hd
  | lnil a cap o => exact V.ren1 hι hκ (.lnil a cap o) hd
  | lst b off cap E c ty fz o xs len hlen hcap hb hE hnp h1 h2 hc h => exact V.ren1 hι hκ (.lst b off cap E c ty fz o xs len hlen hcap hb hE hnp h1 h2 hc h) hd
  | ref i off len cap e hi hcap => exact V.ren1 hι hκ (.ref i off len cap e hi hcap) hd
  | ptr i off hi => exact V.ren1 hι hκ (.ptr i off hi) hd
  | rptr b off c ty fz cs hb hnp h1 h2 hc h => exact V.ren1 hι hκ (.rptr b off c ty fz cs hb hnp h1 h2 hc h) hd
  | nilp => exact V.ren1 hι hκ .nilp hd
  | nili => exact V.ren1 hι hκ .nili hd
  | nilf => exact V.ren1 hι hκ .nilf hd
  | ifc t v => exact V.ren1 hι hκ (.ifc t v) hd
  | fn f c cs hl h => exact V.ren1 hι hκ (.fn f c cs hl h) hd

theorem V.seeing {σ : Sig} {w : World} {v : Value} {d : D} (h : V σ w v d) (hd : d.bx = true) : d.ok1 (fun i => decide (i < σ.n)) = true := by
  cases h with
  | ref i off len cap e hi hcap => simpa [D.ok1] using hi
  | ptr i off hi => simpa [D.ok1] using hi
  | agg => simp [D.bx, D.ok1] at hd
  | tup => simp [D.bx, D.ok1] at hd
  | fn => exact hd
  | _ => rfl

theorem V.oneCell {σ : Sig} {w : World} {v : Value} {d : D} (h : V σ w v d) (hs : d.sc = true) : v.oneCell' = true := by
  cases h <;> first | rfl | (simp [D.sc] at hs)

/-- The owner's flag says nothing of the value. -/
theorem V.flag {σ : Sig} {w : World} {v : Value} {o : Own} {xs : List D} (o' : Own) (h : V σ w v (.lst o xs)) : V σ w v (.lst o' xs) := by
  cases h with
  | lnil a cap => exact .lnil a cap o'
  | lst b off cap E c ty fz _ _ len hlen hcap hb hE hnp h1 h2 hc h => exact .lst b off cap E c ty fz o' xs len hlen hcap hb hE hnp h1 h2 hc h

theorem V.dis {σ : Sig} {w : World} {v : Value} {d : D} (h : V σ w v d) : V σ w v d.dis := by
  cases d with
  | lst o xs => cases o with
    | tip e => exact h.flag .no
    | _ => exact h
  | _ => exact h

end Dl
