/- The code of a call: 'SC.wp' is sound; how a call's contract is shown. -/
import Derived.Test.YtgnebanjejmckaaDoorDn
import Derived.Deep.LoopGhost
namespace Dl
open Go

section
variable {P : Program} {W0 : World} {σ0 σ σ' : Sig} {w0 w w' : World} {fr : Fr} {H H' : Heap} {a : Act} {nt : Nat} {hn : Hints}

theorem CallWp.monoC : MonoC (CallWp P W0) := fun _ _ _ _ _ hk h => h.mono hk

theorem fits_parts {o : SO} (h : o.fits nt = true) : (∀ t ∈ o.mods, t < nt) ∧ ∀ t b, o.guard = some (t, b) → t < nt := by
  unfold SO.fits at h
  rw [Bool.and_eq_true] at h
  refine ⟨fun t ht => by simpa using List.all_eq_true.1 h.1 t ht, fun t b hg => ?_⟩
  have := h.2
  rw [hg] at this
  simpa using this

theorem soWp_sound {ops : Array Oper} {o : Oper} (hnt : nt ≤ 1000000) (hf : (stripOp ops o).fits nt = true) (h : St P W0 σ0 w0 nt σ fr H a w) {K : Fr → Heap → Prop}
    (hw : soWp P hn (CallWp P W0) (stripOp ops o) fr H K) {next : Act → World → Prop} {Q : Exit → Act → World → Prop} (hK : Next P W0 σ0 w0 nt K next) :
    if Region.wanted o (yielded ops a.tmps) then o.wp P a w next Q else next (a.put o.dst undef) w := by
  obtain ⟨hd, hg⟩ := fits_parts hf
  have hgo : opWp P hn (CallWp P W0) (stripOp ops o) fr H K → o.wp P a w next Q := fun hw => opWp_sound ⟨rfl, rfl⟩ hd h hw hK
  unfold soWp at hw
  cases hgd : o.guard with
  | none =>
    have e1 : (stripOp ops o).guard = none := by simp [stripOp, hgd]
    rw [e1] at hw
    have : Region.wanted o (yielded ops a.tmps) = true := by simp [Region.wanted, hgd]
    rw [this]; exact hgo hw
  | some jb =>
    obtain ⟨j, b⟩ := jb
    have e1 : (stripOp ops o).guard = some (((ops[j]?).bind (·.dst)).getD 1000000, b) := by simp [stripOp, hgd]
    have hlt := hg _ _ e1
    rw [e1] at hw
    simp only at hw
    obtain ⟨t, ht⟩ : ∃ t, (ops[j]?).bind (·.dst) = some t := by
      cases hx : (ops[j]?).bind (·.dst) with
      | some t => exact ⟨t, rfl⟩
      | none => rw [hx] at hlt; simp at hlt; omega
    rw [ht] at hw hlt
    simp only [Option.getD_some] at hw hlt
    split at hw
    · rename_i c hc
      have hs := h.slot t
      have hsz : t < a.tmps.size := by rw [h.size]; exact hlt
      have hy : yielded ops a.tmps j = c := by
        unfold yielded
        rw [ht, Option.bind_some, getD_lt hsz]
        show (match some (sl a t) with | some (.bool b) => some b | _ => none) = c
        revert hs hc
        generalize sl a t = v
        generalize fr t = d
        intro hc hs
        cases hs with
        | bool b => simp only [gB, Option.some.injEq] at hc; exact hc
        | tup cc ds hl hv =>
          cases ds with
          | nil => simp only [gB, Option.some.injEq] at hc; exact hc
          | cons x xs => simp [gB] at hc
        | _ => simp [gB] at hc
      by_cases hcb : c = some b
      · rw [if_pos hcb] at hw
        have : Region.wanted o (yielded ops a.tmps) = true := by simp [Region.wanted, hgd, hy, hcb]
        rw [this]; exact hgo hw
      · rw [if_neg hcb] at hw
        have : Region.wanted o (yielded ops a.tmps) = false := by simp [Region.wanted, hgd, hy, hcb]
        rw [this]
        exact hK _ _ _ _ _ (h.putNo (.tup _ _ rfl fun j hj => absurd hj (by simp)) rfl o.dst fun t ht => hd t (by unfold SO.mods; simp [stripOp, ht])) hw
    · exact hw.elim

theorem regWp_sound {ops : Array Oper} (hnt : nt ≤ 1000000) {Q : Exit → Act → World → Prop} {K : Fr → Heap → Prop} (hK : Next P W0 σ0 w0 nt K (Q .normal)) :
    ∀ (l : List Oper) (s : Nat), ops.toList.drop s = l → (l.map (stripOp ops)).all (SO.fits nt) = true → ∀ {σ : Sig} {fr : Fr} {H : Heap} {a : Act} {w : World}, St P W0 σ0 w0 nt σ fr H a w →
      regWp P hn (CallWp P W0) (l.map (stripOp ops)) fr H K → wpOps P ops Q (List.range' s l.length) a w
  | [], s, _, _, _, _, _, _, _, h, hw => hK _ _ _ _ _ h hw
  | o :: l, s, hl, hf, σ, fr, H, a, w, h, hw => by
    rw [List.map_cons, List.all_cons, Bool.and_eq_true] at hf
    have hs : ops[s]? = some o := by
      have : (ops.toList.drop s)[0]? = some o := by rw [hl]; rfl
      rw [List.getElem?_drop] at this
      simpa using this
    have hl' : ops.toList.drop (s + 1) = l := by
      rw [← List.drop_drop, hl]; rfl
    rw [List.length_cons, List.range'_succ]
    simp only [wpOps, hs]
    have := soWp_sound (Q := Q) hnt hf.1 h hw (next := wpOps P ops Q (List.range' (s + 1) l.length)) fun σ' fr' H' a' w' h' hw' => regWp_sound hnt hK l (s + 1) hl' hf.2 h' hw'
    split
    · rename_i hc; rw [if_pos hc] at this; exact .inl this
    · rename_i hc; rw [if_neg hc] at this; exact this

theorem ready_eq (ops : Array Oper) (listed : Array Bool) : dReady (ops.toList.map (stripD ops)) listed.toList = Region.ready .any ops listed := by
  unfold dReady Region.ready
  rw [List.length_map, show ops.toList.length = ops.size from rfl]
  congr 1
  funext i
  have e1 : ∀ j d, listed.toList.getD j d = listed.getD j d := fun j d => by
    rw [List.getD_eq_getElem?_getD, Array.getD_eq_getD_getElem?, Array.getElem?_toList]
  rw [e1]
  congr 1
  rw [List.getElem?_map, Array.getElem?_toList]
  cases ops[i]? with
  | none => rfl
  | some o =>
    simp only [Option.map_some, Option.getD_some, stripD]
    rw [← Array.all_toList]
    simp only [e1]
    induction o.after.toList with
    | nil => rfl
    | cons e es ih =>
      rw [List.filter_cons]
      cases hb : Region.binds .any e with
      | true => simp only [if_true, List.map_cons, List.all_cons, ih, hb, Bool.not_true, Bool.false_or]
      | false => simp only [Bool.false_eq_true, if_false, List.all_cons, ih, hb, Bool.not_false, Bool.true_or, Bool.true_and]

theorem dAny_sound {ops : Array Oper} (hnt : nt ≤ 1000000) (hf : ((ops.toList.map (stripD ops)).all fun o => o.1.fits nt) = true) {Q : Exit → Act → World → Prop} {K : Fr → Heap → Prop} (hK : Next P W0 σ0 w0 nt K (Q .normal)) :
    ∀ (n : Nat) (listed : Array Bool) {σ : Sig} {fr : Fr} {H : Heap} {a : Act} {w : World}, St P W0 σ0 w0 nt σ fr H a w →
      dAny P hn (CallWp P W0) (ops.toList.map (stripD ops)) n listed.toList fr H K → wpAny P .any ops Q n listed a w
  | 0, listed, _, _, _, _, _, h, hw => by
    obtain ⟨h1, h2⟩ := hw
    rw [ready_eq] at h1
    exact ⟨h1, hK _ _ _ _ _ h h2⟩
  | n + 1, listed, _, _, _, _, _, h, hw => by
    obtain ⟨h1, h2⟩ := hw
    rw [ready_eq] at h1 h2
    refine ⟨fun h0 => hK _ _ _ _ _ h (h1 h0), fun i hi => ?_⟩
    obtain ⟨so, hso, hw⟩ := h2 i hi
    rw [List.getElem?_map, Array.getElem?_toList] at hso
    obtain ⟨o, ho, rfl⟩ := Option.map_eq_some_iff.1 hso
    have hfo : (stripOp ops o).fits nt = true := by
      have := List.all_eq_true.1 hf (stripD ops o) (List.mem_map.2 ⟨o, by exact Array.mem_toList_iff.2 (Array.mem_of_getElem? ho), rfl⟩)
      exact this
    have := soWp_sound (Q := Q) (next := wpAny P .any ops Q n (listed.setIfInBounds i true)) hnt hfo h hw fun σ' fr' H' a' w' h' hw' => dAny_sound hnt hf hK n (listed.setIfInBounds i true) h' (by rw [Array.toList_setIfInBounds]; exact hw')
    unfold wpOp
    rw [ho]
    simp only
    split
    · rename_i hc; rw [if_pos hc] at this; exact .inl this
    · rename_i hc; rw [if_neg hc] at this; exact this

/-- What the code leaves behind fits. -/
def Post (P : Program) (W0 : World) (σ0 : Sig) (w0 : World) (nt : Nat) (Q : Ex) : Exit → Act → World → Prop := fun e a w => ∃ σ fr H, St P W0 σ0 w0 nt σ fr H a w ∧ Q e fr H

theorem wp_sound (hm : P.follows .mixedOrders = true) (hnt : nt ≤ 1000000) (c : Code) : ∀ {σ : Sig} {fr : Fr} {H : Heap} {a : Act} {w : World} {Q : Ex}, (strip c).fits nt = true → St P W0 σ0 w0 nt σ fr H a w →
    (strip c).wp P hn (CallWp P W0) fr H Q → c.wp P (Post P W0 σ0 w0 nt Q) a w := by
  induction c with
  | skip => exact fun _ h hw => wp_skip ⟨_, _, _, h, hw⟩
  | region id ops draw =>
    intro σ fr H a w Q hf h hw
    cases draw with
    | false =>
      refine wp_region ?_
      have := regWp_sound (hn := hn) (ops := ops) hnt (Q := Post P W0 σ0 w0 nt Q) (K := Q .normal) (fun σ fr H a w h hq => ⟨σ, fr, H, h, hq⟩) ops.toList 0 (by simp) (by exact hf) h hw
      rw [List.range_eq_range']
      exact this
    | true =>
      refine wp_region_any hm ?_
      have hl : ((List.replicate ((ops.toList.map (stripD ops)).length) false)) = (Array.replicate ops.size false).toList := by simp
      refine dAny_sound (hn := hn) (ops := ops) hnt (by exact hf) (Q := Post P W0 σ0 w0 nt Q) (K := Q .normal) (fun σ fr H a w h hq => ⟨σ, fr, H, h, hq⟩) ops.size (Array.replicate ops.size false) (σ := σ) (fr := fr) (H := H) (a := a) (w := w.drew) h.drew ?_
      rw [← hl]
      have hw' : dAny P hn (CallWp P W0) (ops.toList.map (stripD ops)) (ops.toList.map (stripD ops)).length (List.replicate ((ops.toList.map (stripD ops)).length) false) fr H (Q .normal) := hw
      rw [show ops.size = (ops.toList.map (stripD ops)).length by simp]
      exact hw'
  | seq x y ihx ihy =>
    intro σ fr H a w Q hf h hw
    have hf' : (strip x).fits nt = true ∧ (strip y).fits nt = true := by simpa [strip, SC.fits] using hf
    refine wp_seq (wp_mono (ihx hf'.1 h hw) ?_)
    rintro e a' w' ⟨σ', fr', H', h', hq⟩
    cases e with
    | normal => exact ihy hf'.2 h' hq
    | exit id => exact ⟨σ', fr', H', h', hq⟩
    | ret => exact ⟨σ', fr', H', h', hq⟩
    | goto l => exact hq.elim
    | panic c => exact hq.elim
    | outgrown => exact hq.elim
  | cond c x y ihx ihy =>
    intro σ fr H a w Q hf h hw
    have hf' : (strip x).fits nt = true ∧ (strip y).fits nt = true := by simpa [strip, SC.fits] using hf
    simp only [strip, SC.wp] at hw
    split at hw
    · rename_i b hb
      have hc := h.evV c
      rw [hb] at hc
      have hce : a.eval c = .bool b := by revert hc; generalize a.eval c = v; intro hc; cases hc; rfl
      refine wp_cond hce ?_
      cases b with
      | true => simp only [if_true] at hw ⊢; exact ihx hf'.1 h hw
      | false => simp only [Bool.false_eq_true, if_false] at hw ⊢; exact ihy hf'.2 h hw
    · exact hw.elim
  | block id x ih =>
    intro σ fr H a w Q hf h hw
    refine wp_block (wp_mono (ih (by exact hf) h hw) ?_)
    rintro e a' w' ⟨σ', fr', H', h', hq⟩
    cases e with
    | normal => exact ⟨σ', fr', H', h', hq⟩
    | exit i =>
      unfold inBlock at hq
      simp only [Exit.inBlock] at hq ⊢
      split at hq
      · rename_i hc; rw [if_pos hc]; exact ⟨σ', fr', H', h', hq⟩
      · rename_i hc; rw [if_neg hc]; exact ⟨σ', fr', H', h', hq⟩
    | ret => exact ⟨σ', fr', H', h', hq⟩
    | goto l => exact hq.elim
    | panic c => exact hq.elim
    | outgrown => exact hq.elim
  | loop x ih =>
    intro σ fr H a w Q hf h hw
    obtain ⟨I, n0, h0, hr⟩ := hw
    refine wp_loop_ghost (fun n a w => ∃ σ g H, St P W0 σ0 w0 nt σ (over (strip x).mods g fr) H a w ∧ I n (over (strip x).mods g fr) H) n0 ⟨σ, fr, H, ?_, ?_⟩ ?_
    · have : over (strip x).mods fr fr = fr := by funext t; simp [over]
      rw [this]; exact h
    · have : over (strip x).mods fr fr = fr := by funext t; simp [over]
      rw [this]; exact h0
    · rintro n a w ⟨σ, g, H, h, hI⟩
      have hb := hr n g H hI
      have hb2 := wp_mods (Q' := andThen (fun fr' H'' => ∃ g', fr' = over (strip x).mods g' fr ∧ ∃ n', n' < n ∧ I n' fr' H'') Q) CallWp.monoC (strip x) hb (fun e fr' H' hq hout => by
        cases e with
        | normal =>
          refine ⟨fr', ?_, hq⟩
          funext t
          by_cases ht : t ∈ (strip x).mods
          · simp [over, ht]
          · rw [hout t ht, over_out ht, over_out ht]
        | exit id => exact hq
        | ret => exact hq
        | goto l => exact hq
        | panic c => exact hq
        | outgrown => exact hq)
      refine wp_mono (ih (by exact hf) h hb2) ?_
      rintro e a' w' ⟨σ', fr', H', h', hq⟩
      cases e with
      | normal =>
        obtain ⟨g', rfl, n', hlt, hI'⟩ := hq
        exact ⟨n', hlt, σ', g', H', h', hI'⟩
      | exit id => exact ⟨σ', fr', H', h', hq⟩
      | ret => exact ⟨σ', fr', H', h', hq⟩
      | goto l => exact hq.elim
      | panic c => exact hq.elim
      | outgrown => exact hq.elim
  | exit id => exact fun _ h hw => wp_exit ⟨_, _, _, h, hw⟩
  | ret => exact fun _ h hw => wp_ret ⟨_, _, _, h, hw⟩
  | _ => intro σ fr H a w Q hf h hw; exact hw.elim

/-! ### A call's contract -/

/-- The results, out of the slots. -/
def resD (P : Program) (H : Heap) (fr : Fr) : List ResultVar → Option (List D)
  | [] => some []
  | .tmp t :: rs => (resD P H fr rs).map fun ds => fr t :: ds
  | .cell t ty :: rs => (dLoad P H ty (fr t)).bind fun d => (resD P H fr rs).map fun ds => d :: ds

def retD : List D → D
  | [d] => d
  | ds => .tup (ds.map D.pl)

theorem getD_lt'' {α : Type} (l : List α) (i : Nat) (d : α) (h : i < l.length) : l.getD i d = l[i] := by
  rw [List.getD_eq_getElem?_getD, List.getElem?_eq_getElem h]; rfl

/-- The slots when a call begins. -/
def fr0 (ds : List D) : Fr := fun t => (ds.getD t .any).pl

/-- A slice that was made as a box of this call, seen as a list from its end on. -/
def fz1 (n0 : Nat) (ks : List Nat) (H : Heap) (d r : D) : Prop :=
  r = d ∨ ∃ b off len cap e xs, d = .ref b off len cap e ∧ n0 ≤ b ∧ b ∉ ks ∧ 0 < e ∧ xs.length = len ∧ (∀ x ∈ xs, x.cells.length = e ∧ ∀ d ∈ x.cells, d.np1 = true) ∧ off + len * e ≤ (hget H b).length ∧ ((hget H b).drop off).take (len * e) = xs.flatMap D.cells ∧ r = .lst .no xs
def fzl (n0 : Nat) (ks : List Nat) (H : Heap) : List D → List D → Prop
  | [], [] => True
  | d :: ds, r :: rs => fz1 n0 ks H d r ∧ fzl n0 ks H ds rs
  | _, _ => False
def fz (n0 : Nat) (ks : List Nat) (H : Heap) (d r : D) : Prop := fz1 n0 ks H d r ∨ ∃ cs rs, d = .agg cs ∧ r = .agg rs ∧ fzl n0 ks H cs rs
def fzs (n0 : Nat) (ks : List Nat) (H : Heap) : List D → List D → Prop
  | [], [] => True
  | d :: ds, r :: rs => fz n0 ks H d r ∧ fzs n0 ks H ds rs
  | _, _ => False
theorem fzs_self (n0 : Nat) (ks : List Nat) (H : Heap) : ∀ ds, fzs n0 ks H ds ds
  | [] => trivial
  | d :: ds => ⟨.inl (.inl rfl), fzs_self n0 ks H ds⟩
theorem fzs_len {n0 : Nat} {ks : List Nat} {H : Heap} : ∀ {ds rs : List D}, fzs n0 ks H ds rs → rs.length = ds.length
  | [], [], _ => rfl
  | _ :: _, _ :: _, h => by rw [List.length_cons, List.length_cons, fzs_len h.2]
  | [], _ :: _, h => h.elim
  | _ :: _, [], h => h.elim
theorem fzs_get {n0 : Nat} {ks : List Nat} {H : Heap} : ∀ {ds rs : List D}, fzs n0 ks H ds rs → ∀ i, i < ds.length → fz n0 ks H (ds.getD i .any) (rs.getD i .any)
  | _ :: _, _ :: _, h, 0, _ => h.1
  | _ :: _, _ :: _, h, i + 1, hi => fzs_get h.2 i (by simpa using hi)
  | [], [], _, i, hi => by simp at hi
  | [], _ :: _, h, _, _ => h.elim
  | _ :: _, [], h, _, _ => h.elim
theorem fzl_len {n0 : Nat} {ks : List Nat} {H : Heap} : ∀ {ds rs : List D}, fzl n0 ks H ds rs → rs.length = ds.length
  | [], [], _ => rfl
  | _ :: _, _ :: _, h => by rw [List.length_cons, List.length_cons, fzl_len h.2]
  | [], _ :: _, h => h.elim
  | _ :: _, [], h => h.elim
theorem fzl_get {n0 : Nat} {ks : List Nat} {H : Heap} : ∀ {ds rs : List D}, fzl n0 ks H ds rs → ∀ i, i < ds.length → fz1 n0 ks H (ds.getD i .any) (rs.getD i .any)
  | _ :: _, _ :: _, h, 0, _ => h.1
  | _ :: _, _ :: _, h, i + 1, hi => fzl_get h.2 i (by simpa using hi)
  | [], [], _, i, hi => by simp at hi
  | [], _ :: _, h, _, _ => h.elim
  | _ :: _, [], h, _, _ => h.elim

/-- The blocks of the boxes from number 'n0' on are laid for good, but for those that are kept. -/
noncomputable def fzSig (n0 : Nat) (ks : List Nat) (σ : Sig) (w : World) : Sig :=
  open Classical in
  { σ with κ := fun b => if ∃ i, n0 ≤ i ∧ i < σ.n ∧ i ∉ ks ∧ σ.ι i = b then (match w.heap[b]? with | some (.cells c _ _) => c.size | _ => 0) else σ.κ b }

theorem fzSig_old {n0 : Nat} {ks : List Nat} {σ : Sig} {w : World} {b : Nat} (h : ∀ i, n0 ≤ i → i < σ.n → i ∉ ks → σ.ι i ≠ b) : (fzSig n0 ks σ w).κ b = σ.κ b := by
  simp only [fzSig]
  rw [if_neg (fun ⟨i, h1, h2, h4, h3⟩ => h i h1 h2 h4 h3)]
theorem fzSig_new {n0 : Nat} {ks : List Nat} {σ : Sig} {w : World} {i : Nat} {c : Array Value} {ty : TypeId} {f : Nat × Nat} (h0 : n0 ≤ i) (h1 : i < σ.n) (hk : i ∉ ks) (hb : w.heap[σ.ι i]? = some (.cells c ty f)) : (fzSig n0 ks σ w).κ (σ.ι i) = c.size := by
  simp only [fzSig]
  rw [if_pos ⟨i, h0, h1, hk, rfl⟩, hb]

theorem fz_ext {n0 : Nat} {ks : List Nat} (h : Rel W0 σ w H) : Ext σ w (fzSig n0 ks σ w) w := by
  refine ⟨Nat.le_refl _, fun _ _ => rfl, fun b hb => ?_, fun b c ty fz hb hk hc => ⟨c, fz, hb, rfl, fun _ _ => rfl, ?_⟩⟩
  · by_cases hx : ∃ i, n0 ≤ i ∧ i < σ.n ∧ i ∉ ks ∧ σ.ι i = b
    · obtain ⟨i, h0, h1, _, rfl⟩ := hx
      obtain ⟨c, ty, _, h2, _, h3, h4, _⟩ := h.box i h1
      rw [h4]; exact Nat.zero_le _
    · rw [fzSig_old fun i h0 h1 h3 h2 => hx ⟨i, h0, h1, h3, h2⟩]; exact Nat.le_refl _
  · by_cases hx : ∃ i, n0 ≤ i ∧ i < σ.n ∧ i ∉ ks ∧ σ.ι i = b
    · obtain ⟨i, h0, h1, h3, rfl⟩ := hx
      rw [fzSig_new h0 h1 h3 hb]; exact Nat.le_refl _
    · rw [fzSig_old fun i h0 h1 h3 h2 => hx ⟨i, h0, h1, h3, h2⟩]; exact hc

theorem fz1_V {n0 : Nat} {ks : List Nat} (h : Rel W0 σ w H) {v : Value} {d r : D} (hv : V σ w v d) (hz : fz1 n0 ks H d r) : V (fzSig n0 ks σ w) w v r := by
  rcases hz with rfl | ⟨b, off, len, cap, e, xs, rfl, h0, hks, he, hl, hEn, hlen, hH, rfl⟩
  · exact hv.mono (fz_ext h)
  · have hE : ∀ x ∈ xs, x.cells.length = e := fun x hx => (hEn x hx).1
    cases hv with
    | ref _ _ _ _ _ hi hcap =>
      obtain ⟨c, ty, fzz, h2, _, h3, h4, h5⟩ := h.box b hi
      cases xs with
      | nil => subst hl; exact .lnil _ _ _
      | cons x xs =>
        have hpos : 0 < (x :: xs).length * e := Nat.mul_pos (by simp) he
        have hκ := fzSig_new (w := w) h0 hi hks h2
        have hcs : off + (x :: xs).length * e ≤ c.size := by rw [h3, hl]; exact hlen
        refine .lst (σ.ι b) off cap e c ty fzz .no (x :: xs) len hl.symm hcap h2 hE (fun y hy d hd => (hEn y hy).2 d hd) (by rw [hκ]; omega) (by rw [hκ]; omega) (by rw [hκ]; exact Nat.le_refl _) fun i hi' j hj => ?_
        have hlt : i * e + j < (x :: xs).length * e := by
          have : (i + 1) * e ≤ (x :: xs).length * e := Nat.mul_le_mul_right _ hi'
          rw [Nat.add_mul] at this; omega
        have := h5 (off + (i * e + j)) (by omega)
        have e2 : (hget H b).getD (off + (i * e + j)) .any = (((hget H b).drop off).take (len * e)).getD (i * e + j) .any := by
          simp only [List.getD_eq_getElem?_getD, List.getElem?_take, List.getElem?_drop]; rw [if_pos (by rw [← hl]; exact hlt)]
        rw [e2, hH, flat_getD (x :: xs) hE i hi' j hj] at this
        rw [Nat.add_assoc]
        exact this.mono (fz_ext h)
theorem fz_V {n0 : Nat} {ks : List Nat} (h : Rel W0 σ w H) {v : Value} {d r : D} (hv : V σ w v d) (hz : fz n0 ks H d r) : V (fzSig n0 ks σ w) w v r := by
  rcases hz with hz | ⟨cs, rs, rfl, rfl, hz⟩
  · exact fz1_V h hv hz
  · cases hv with
    | agg c ds hl hv =>
      refine .agg c rs (by rw [hl, fzl_len hz]) fun j hj => ?_
      rw [fzl_len hz] at hj
      exact fz1_V h (hv j hj) (fzl_get hz j hj)

/-- The old boxes see no new ones. -/
def Old (H0 H : Heap) : Prop := ∀ i, i < H0.length → hget H i = hget H0 i ∨ ∀ d ∈ hget H i, d.ok1 (fun k => decide (k < H0.length)) = true
/-- Boxes of the call's own that its caller has from now on. -/
def Kept (n0 : Nat) (H : Heap) (ks : List Nat) : Prop := ks.Nodup ∧ ∀ k ∈ ks, (n0 ≤ k ∧ k < H.length) ∧ ∀ d ∈ hget H k, d.ok1 (fun k => decide (k < n0)) = true
def rnm (n0 : Nat) (ks : List Nat) (i : Nat) : Nat := if i < n0 then i else n0 + ks.idxOf i
def seen (n0 : Nat) (ks : List Nat) (i : Nat) : Bool := decide (i < n0) || ks.contains i

/-- What is asked where the code ends: what it returns fits 'K'. -/
def endW (P : Program) (H0 : Heap) (rs : List ResultVar) (K : D → Heap → Prop) (fr : Fr) (H : Heap) : Prop :=
  ∃ ds ds' ks, resD P H fr rs = some ds ∧ fzs H0.length ks H ds ds' ∧ Old H0 H ∧ Kept H0.length H ks ∧ (retD ds').okS (seen H0.length ks) = true ∧
    K ((retD ds').ren (rnm H0.length ks)) (H.take H0.length ++ ks.map (hget H))
def atEnd (P : Program) (H0 : Heap) (rs : List ResultVar) (K : D → Heap → Prop) : Ex := fun e fr H =>
  match e with
  | .normal => endW P H0 rs K fr H
  | .ret => endW P H0 rs K fr H
  | _ => False

def resOne (tmps : Array Value) : ResultVar → Sem Value
  | .tmp t => pure (tmps.getD t undef)
  | .cell ad t => do loadVar t (← asAddr (tmps.getD ad undef))
theorem results_eq (fn : Func) (tmps : Array Value) : results fn tmps = (do
    let vs ← fn.results.mapM (resOne tmps)
    pure (if h : vs.size = 1 then vs[0] else .tuple vs)) := by
  unfold results
  have : (fun (x : ResultVar) => (match x with
      | .tmp t => pure (tmps.getD t undef)
      | .cell a t => do loadVar t (← asAddr (tmps.getD a undef)) : Sem Value)) = resOne tmps := by funext x; cases x <;> rfl
  rw [← this]
  rfl

theorem resD_run (h : St P W0 σ0 w0 nt σ fr H a w) : ∀ (rs : List ResultVar) (ds : List D), resD P H fr rs = some ds →
    ∃ vs : List Value, (rs.mapM (resOne a.tmps)).run P w = .ok vs w ∧ vs.length = ds.length ∧
      ∀ i, i < ds.length → V σ w (vs.getD i undef) (ds.getD i .any) ∧ OwnV P σ w0.heap.size w (vs.getD i undef) (ds.getD i .any)
  | [], ds, hr => by cases hr; exact ⟨[], rfl, rfl, fun i hi => by simp at hi⟩
  | .tmp t :: rs, ds, hr => by
    obtain ⟨ds', h1, rfl⟩ := Option.map_eq_some_iff.1 hr
    obtain ⟨vs, h2, h3, h4⟩ := resD_run h rs ds' h1
    refine ⟨sl a t :: vs, ?_, by simp [h3], fun i hi => ?_⟩
    · rw [List.mapM_cons]
      simp only [resOne, Sem.run_bind, Sem.run_pure, Result.andThen_ok, h2]
      rfl
    · cases i with
      | zero => exact ⟨h.slot t, h.own t⟩
      | succ i => exact h4 i (by simpa using hi)
  | .cell ad t :: rs, ds, hr => by
    obtain ⟨d, h0, hr⟩ := Option.bind_eq_some_iff.1 hr
    obtain ⟨ds', h1, rfl⟩ := Option.map_eq_some_iff.1 hr
    obtain ⟨vs, h2, h3, h4⟩ := resD_run h rs ds' h1
    obtain ⟨r, hr1, hv, hno⟩ := run_dLoad (P := P) h.rel (h.slot ad) h0
    have hr2 : (resOne a.tmps (.cell ad t)).run P w = .ok r w := by
      have hs := h.slot ad
      have : ∃ p, sl a ad = .pointer (some p) := by
        revert hs h0
        generalize sl a ad = v
        generalize fr ad = x
        intro h0 hs
        unfold dLoad at h0
        cases hs <;> simp at h0 <;> exact ⟨_, rfl⟩
      obtain ⟨p, hp⟩ := this
      rw [hp] at hr1
      show (do loadVar t (← asAddr (a.tmps.getD ad undef)) : Sem Value).run P w = .ok r w
      rw [show a.tmps.getD ad undef = .pointer (some p) from hp]
      simpa [Instr.loadAt, Instr.sureAddr, asAddr] using hr1
    refine ⟨r :: vs, ?_, by simp [h3], fun i hi => ?_⟩
    · rw [List.mapM_cons]
      simp only [Sem.run_bind, hr2, Result.andThen_ok, h2, Sem.run_pure]
    · cases i with
      | zero => exact ⟨hv, .of_noOwn hno⟩
      | succ i => exact h4 i (by simpa using hi)

theorem CallWp.intro (hm : P.follows .mixedOrders = true) {f : FuncId} {fn : Func} {c : Code} {s : SC} (hn : Hints) (hf : P.funcs[f]? = some fn) (hb : fn.body = some c) (hname : (fn.name == "runtime.NumGoroutine") = false)
    (hs : strip c = s) (hfit : s.fits fn.ntmps = true) (hnt : fn.ntmps ≤ 1000000) {ds : List D} (hlen : ds.length ≤ fn.ntmps) {H : Heap} {K : D → Heap → Prop}
    (hw : s.wp P hn (CallWp P W0) (fr0 ds) H (atEnd P H fn.results.toList K)) : CallWp P W0 f ds H K := by
  subst hs
  refine ⟨⟨fn, hf, by rw [hb]; rfl, hname⟩, fun σ w vs hrel hcv => ?_⟩
  refine calls_of_wp hf hb (wp_mono (wp_sound (W0 := W0) (σ0 := σ) (w0 := w) (σ := σ) (fr := fr0 ds) (H := H) hm hnt c hfit ?_ hw) ?_)
  · -- the state when the call begins
    have hsl : ∀ t, V σ w ((vs ++ Array.replicate (fn.ntmps - vs.size) undef).getD t undef) ((ds.getD t .any).pl) := fun t => by
      rcases Nat.lt_or_ge t ds.length with hlt | hge
      · have e1 : (vs ++ Array.replicate (fn.ntmps - vs.size) undef).getD t undef = vs.getD t undef := by
          simp only [Array.getD_eq_getD_getElem?]; rw [Array.getElem?_append_left (by rw [hcv.1]; exact hlt)]
        rw [e1]; exact (hcv.2 t hlt).pl
      · have : ds.getD t .any = .any := by rw [List.getD_eq_getElem?_getD, List.getElem?_eq_none hge]; rfl
        rw [this]; exact .any _
    exact ⟨by simp [hcv.1]; omega, hsl, fun t => .of_noOwn (noOwn_pl _), fun t t' g _ h1 _ => not_holds_of_noOwn (noOwn_pl _) h1, hrel, .refl _ _, hrel.base.size, rfl⟩
  · -- and when it ends
    have fin : ∀ (a : Act) (w' : World) (σ' : Sig) (fr' : Fr) (H' : Heap), St P W0 σ w fn.ntmps σ' fr' H' a w' → endW P H fn.results.toList K fr' H' →
        a.defers = [] ∧ ∃ v, (results fn a.tmps).run P w' = .ok v w' ∧ ∃ v' r H' σ', Ending.returned v = .returned v' ∧ K r H' ∧ V σ' w' v' r ∧ OwnV P σ' w.heap.size w' v' r ∧ Rel W0 σ' w' H' ∧ Step σ w σ' w' := by
      rintro a w' σ' fr' H' h ⟨rs0, rs, ks, hr, hfz, hold, hkept, hnp, hk⟩
      refine ⟨h.defers, ?_⟩
      obtain ⟨us, h1, h2', h3'⟩ := resD_run h _ rs0 hr
      have h2 : us.length = rs.length := by rw [fzs_len hfz]; exact h2'
      have hn0 : σ.n = H.length := hrel.n
      have hn' : σ'.n = H'.length := h.rel.n
      have hσn : ∀ i, H.length ≤ i → i < σ'.n → w.heap.size ≤ σ'.ι i := fun i h1 h2 => h.step.new i (by rw [hn0]; exact h1) h2
      have h3 : ∀ i, i < rs.length → V (fzSig H.length ks σ' w') w' (us.getD i undef) (rs.getD i .any) ∧ (rs.getD i .any = rs0.getD i .any → OwnV P σ' w.heap.size w' (us.getD i undef) (rs.getD i .any)) := fun i hi => by
        have hi' : i < rs0.length := by rw [← fzs_len hfz]; exact hi
        have hz := fzs_get hfz i hi'
        exact ⟨fz_V h.rel (h3' i hi').1 hz, fun e => by rw [e]; exact (h3' i hi').2⟩
      have hrun : (results fn a.tmps).run P w' = .ok (if hh : us.toArray.size = 1 then us.toArray[0] else .tuple us.toArray) w' := by
        rw [results_eq, Array.mapM_eq_mapM_toList]
        simp only [Sem.run_bind, Sem.run_map]
        rw [h1]
        rfl
      have hHl : H.length ≤ H'.length := by rw [← hn0, ← hn']; exact h.step.n
      have hcut : ∀ i, i < H.length → hget (H'.take H.length ++ ks.map (hget H')) i = hget H' i := fun i hi => by
        simp only [hget, List.getD_eq_getElem?_getD]; rw [List.getElem?_append_left (by simp; omega), List.getElem?_take, if_pos hi]
      have hcut2 : ∀ j, j < ks.length → hget (H'.take H.length ++ ks.map (hget H')) (H.length + j) = hget H' (ks.getD j 0) := fun j hj => by
        have hl : (H'.take H.length).length = H.length := by simp; omega
        simp only [hget, List.getD_eq_getElem?_getD]; rw [List.getElem?_append_right (by omega), hl, List.getElem?_map, Nat.add_sub_cancel_left, List.getElem?_eq_getElem hj]; rfl
      have hkm : ∀ j, j < ks.length → ks.getD j 0 ∈ ks := fun j hj => getD_mem hj
      -- the box behind a number
      let g : Nat → Nat := fun i => if i < H.length then i else ks.getD (i - H.length) 0
      have hg1 : ∀ i, i < H.length → g i = i := fun i hi => if_pos hi
      have hg2 : ∀ i, ¬ i < H.length → g i = ks.getD (i - H.length) 0 := fun i hi => if_neg hi
      have hgn : ∀ i, i < H.length + ks.length → g i < σ'.n := fun i hi => by
        by_cases hi' : i < H.length
        · rw [hg1 i hi', hn']; omega
        · rw [hg2 i hi', hn']; exact (hkept.2 _ (hkm _ (by omega))).1.2
      have hginj : ∀ i j, i < H.length + ks.length → j < H.length + ks.length → g i = g j → i = j := fun i j hi hj e => by
        by_cases hi' : i < H.length <;> by_cases hj' : j < H.length
        · rw [hg1 i hi', hg1 j hj'] at e; exact e
        · rw [hg1 i hi', hg2 j hj'] at e
          have := (hkept.2 _ (hkm (j - H.length) (by omega))).1.1; omega
        · rw [hg2 i hi', hg1 j hj'] at e
          have := (hkept.2 _ (hkm (i - H.length) (by omega))).1.1; omega
        · rw [hg2 i hi', hg2 j hj'] at e
          have h1 : i - H.length < ks.length := by omega
          have h2 : j - H.length < ks.length := by omega
          rw [getD_lt'' _ _ _ h1, getD_lt'' _ _ _ h2] at e
          have i1 := List.Nodup.idxOf_getElem hkept.1 _ h1
          have i2 := List.Nodup.idxOf_getElem hkept.1 _ h2
          rw [e, i2] at i1
          omega
      let σ2 : Sig := { ι := fun i => σ'.ι (g i), n := H.length + ks.length, κ := (fzSig H.length ks σ' w').κ }
      have hstep : Step σ w σ2 w' := ⟨h.step.size, h.step.block, by simp only [σ2]; omega, fun i hi => by
          simp only [σ2]; rw [hg1 i (by omega)]; exact h.step.ι i hi, fun i h1 h2 => by
          simp only [σ2] at h2 ⊢
          rw [hg2 i (by omega)]
          exact hσn _ (hkept.2 _ (hkm _ (by omega))).1.1 (by rw [hn']; exact (hkept.2 _ (hkm _ (by omega))).1.2), fun b hb => by
        show (fzSig H.length ks σ' w').κ b = σ.κ b
        rw [fzSig_old fun i h1 h2 _ h3 => by have := hσn i h1 h2; omega]
        exact h.step.κ b hb⟩
      have hι : ∀ i, seen H.length ks i = true → i < σ'.n → rnm H.length ks i < σ2.n ∧ σ2.ι (rnm H.length ks i) = σ'.ι i := fun i hs hi => by
        unfold seen at hs
        unfold rnm
        by_cases hi' : i < H.length
        · rw [if_pos hi']
          refine ⟨by simp only [σ2]; omega, ?_⟩
          simp only [σ2]; rw [hg1 i hi']
        · rw [if_neg hi']
          have hm : i ∈ ks := by simpa [hi'] using hs
          have hlt : ks.idxOf i < ks.length := List.idxOf_lt_length_iff.2 hm
          refine ⟨by simp only [σ2]; omega, ?_⟩
          simp only [σ2]; rw [hg2 _ (by omega), Nat.add_sub_cancel_left, getD_lt'' _ _ _ hlt, List.getElem_idxOf]
      have hι2 : ∀ i, decide (i < H.length) = true → i < (fzSig H.length ks σ' w').n → i < σ2.n ∧ σ2.ι i = (fzSig H.length ks σ' w').ι i := fun i hi _ => by
        have hi' : i < H.length := by simpa using hi
        refine ⟨by simp only [σ2]; omega, ?_⟩
        simp only [σ2]; rw [hg1 i hi']; rfl
      have hid : ∀ d : D, d.ren1 id = d := fun d => by cases d <;> rfl
      have hrel2 : Rel W0 σ2 w' (H'.take H.length ++ ks.map (hget H')) := by
        refine ⟨by simp only [σ2, List.length_append, List.length_take, List.length_map]; omega, fun i j hi hj e => hginj i j hi hj (h.rel.inj _ _ (hgn i hi) (hgn j hj) e),
          fun i hi => h.rel.old _ (hgn i hi), fun i hi => ?_, fun x hx => ?_, h.rel.base⟩
        · obtain ⟨c, ty, fzz, q1, q0, q2, q3, q4⟩ := h.rel.box (g i) (hgn i hi)
          have hget2 : hget (H'.take H.length ++ ks.map (hget H')) i = hget H' (g i) := by
            by_cases hi' : i < H.length
            · rw [hcut i hi', hg1 i hi']
            · have := hcut2 (i - H.length) (by simp only [σ2] at hi; omega)
              rw [show H.length + (i - H.length) = i by omega] at this
              rw [this, hg2 i hi']
          rw [hget2]
          refine ⟨c, ty, fzz, q1, q0, q2, ?_, fun j hj => ?_⟩
          · show (fzSig H.length ks σ' w').κ (σ'.ι (g i)) = 0
            rw [fzSig_old fun j h1 h2 h4 h3 => ?_]
            · exact q3
            · have e := h.rel.inj j (g i) h2 (hgn i hi) h3
              subst e
              by_cases hi' : i < H.length
              · rw [hg1 i hi'] at h1; omega
              · rw [hg2 i hi'] at h4
                exact h4 (hkm _ (by simp only [σ2] at hi; omega))
          · have hok : ((hget H' (g i)).getD j .any).ok1 (fun k => decide (k < H.length)) = true := by
              have hjl : j < (hget H' (g i)).length := by omega
              by_cases hi' : i < H.length
              · rw [hg1 i hi'] at hjl ⊢
                rcases hold i hi' with hsame | hsee
                · rw [hsame] at hjl ⊢
                  obtain ⟨c0, ty0, fz0, k1, k0, k2, k3, k4⟩ := hrel.box i (by rw [hn0]; exact hi')
                  have := (k4 j (by omega)).seeing (hrel.bx (hget H i) (getD_mem hi') _ (getD_mem hjl))
                  rw [hn0] at this
                  exact this
                · exact hsee _ (getD_mem hjl)
              · rw [hg2 i hi'] at hjl ⊢
                exact (hkept.2 _ (hkm _ (by simp only [σ2] at hi; omega))).2 _ (getD_mem hjl)
            have := V.ren1 (σ := fzSig H.length ks σ' w') (σ' := σ2) (f := id) hι2 rfl ((q4 j hj).mono (fz_ext h.rel)) hok
            rwa [hid] at this
        · rcases List.mem_append.1 hx with hx | hx
          · exact h.rel.bx x (List.mem_of_mem_take hx)
          · obtain ⟨k, hk, rfl⟩ := List.mem_map.1 hx
            exact h.rel.bx _ (getD_mem (hkept.2 k hk).1.2)
      have hown : ∀ {v d}, OwnV P σ' w.heap.size w' v d → OwnV P σ2 w.heap.size w' v d := fun {v d} ho => by
        cases d with
        | lst o xs => ?_
        | _ => trivial
        cases o with
        | no => trivial
        | exact => exact ho
        | tip e =>
          rcases ho with ho | ⟨g', cap, cur, k1, k2, k3, k4, k5, k6, k7, k8, k9⟩
          · exact .inl ho
          · refine .inr ⟨g', cap, cur, k1, k2, k3, k4, k5, k6, ?_, fun i hi => k8 _ (hgn i hi), k9⟩
            show (fzSig H.length ks σ' w').κ g' = _
            rw [fzSig_old fun i h1 h2 _ => k8 i h2]; exact k7
      refine ⟨_, hrun, _, _, _, σ2, rfl, hk, ?_, ?_, hrel2, hstep⟩
      · refine V.ren (σ := fzSig H.length ks σ' w') (σ' := σ2) hι rfl ?_ hnp
        match rs, us, h2, h3 with
        | [d], [u], _, h3 => exact (h3 0 (by simp)).1
        | [], [], _, _ => exact .tup _ _ rfl fun j hj => absurd hj (by simp)
        | d1 :: d2 :: ds', us, h2, h3 =>
          have hne : ¬ (us.toArray.size = 1) := by simp [h2]
          rw [dif_neg hne]
          refine .tup _ _ (by simp [h2]) fun j hj => ?_
          have hj' : j < (d1 :: d2 :: ds').length := by simpa using hj
          have e1 : us.toArray.getD j undef = us.getD j undef := by
            rw [Array.getD_eq_getD_getElem?, List.getD_eq_getElem?_getD, List.getElem?_toArray]
          have e2 : ((d1 :: d2 :: ds').map D.pl).getD j .any = ((d1 :: d2 :: ds').getD j .any).pl := by
            simp only [List.getD_eq_getElem?_getD, List.getElem?_map, List.getElem?_eq_getElem hj', Option.map_some, Option.getD_some]
          rw [e1, e2]; exact (h3 j hj').1.pl
      · match rs, us, h2, h3, hfz with
        | [d], [u], _, h3, hfz =>
          cases d with
          | lst o xs =>
            cases o with
            | no => exact .of_noOwn rfl
            | _ =>
              refine hown ((h3 0 (by simp)).2 ?_)
              match rs0, hfz with
              | [d0], hfz =>
                rcases hfz.1 with (hz | ⟨_, _, _, _, _, _, _, _, _, _, _, _, _, _, hz⟩) | ⟨_, _, _, hz, _⟩
                · exact hz
                · simp at hz
                · cases hz
          | _ => exact .of_noOwn rfl
        | [], [], _, _, _ => exact .of_noOwn rfl
        | d1 :: d2 :: ds', us, h2, h3, _ => exact .of_noOwn rfl
    rintro e a w' ⟨σ', fr', H', h, hq⟩
    cases e with
    | normal => exact fin a w' σ' fr' H' h hq
    | ret => exact fin a w' σ' fr' H' h hq
    | exit id => exact hq.elim
    | goto l => exact hq.elim
    | panic c => exact hq.elim
    | outgrown => exact hq.elim

end
end Dl
