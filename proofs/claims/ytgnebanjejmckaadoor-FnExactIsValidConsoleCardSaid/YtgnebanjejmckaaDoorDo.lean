/- The code of a call: 'SC.wp' is sound; how a call's contract is shown. -/
import Derived.Test.YtgnebanjejmckaaDoorDn
import Derived.Deep.LoopGhost
namespace Dl
open Go

section
variable {P : Program} {W0 : World} {σ0 σ σ' : Sig} {w0 w w' : World} {fr : Fr} {H H' : Heap} {a : Act} {nt : Nat} {hn : Hints}

theorem CallWp.monoC : MonoC (CallWp P W0) := fun _ _ _ _ _ hk h => h.mono hk

theorem fits_parts {o : SO} (h : o.fits nt = true) : (∀ t ∈ o.mods, t < nt) ∧ ∀ t b, o.guard = some (t, b) → t < nt := by
  unfold SO.fits at h
  rw [Bool.and_eq_true] at h
  refine ⟨fun t ht => by simpa using List.all_eq_true.1 h.1 t ht, fun t b hg => ?_⟩
  have := h.2
  rw [hg] at this
  simpa using this

theorem soWp_sound {ops : Array Oper} {o : Oper} (hnt : nt ≤ 1000000) (hf : (stripOp ops o).fits nt = true) (h : St P W0 σ0 w0 nt σ fr H a w) {K : Fr → Heap → Prop}
    (hw : soWp P hn (CallWp P W0) (stripOp ops o) fr H K) {next : Act → World → Prop} {Q : Exit → Act → World → Prop} (hK : Next P W0 σ0 w0 nt K next) :
    if Region.wanted o (yielded ops a.tmps) then o.wp P a w next Q else next (a.put o.dst undef) w := by
  obtain ⟨hd, hg⟩ := fits_parts hf
  have hgo : opWp P hn (CallWp P W0) (stripOp ops o) fr H K → o.wp P a w next Q := fun hw => opWp_sound ⟨rfl, rfl⟩ hd h hw hK
  unfold soWp at hw
  cases hgd : o.guard with
  | none =>
    have e1 : (stripOp ops o).guard = none := by simp [stripOp, hgd]
    rw [e1] at hw
    have : Region.wanted o (yielded ops a.tmps) = true := by simp [Region.wanted, hgd]
    rw [this]; exact hgo hw
  | some jb =>
    obtain ⟨j, b⟩ := jb
    have e1 : (stripOp ops o).guard = some (((ops[j]?).bind (·.dst)).getD 1000000, b) := by simp [stripOp, hgd]
    have hlt := hg _ _ e1
    rw [e1] at hw
    simp only at hw
    obtain ⟨t, ht⟩ : ∃ t, (ops[j]?).bind (·.dst) = some t := by
      cases hx : (ops[j]?).bind (·.dst) with
      | some t => exact ⟨t, rfl⟩
      | none => rw [hx] at hlt; simp at hlt; omega
    rw [ht] at hw hlt
    simp only [Option.getD_some] at hw hlt
    split at hw
    · rename_i c hc
      have hs := h.slot t
      have hsz : t < a.tmps.size := by rw [h.size]; exact hlt
      have hy : yielded ops a.tmps j = c := by
        unfold yielded
        rw [ht, Option.bind_some, getD_lt hsz]
        show (match some (sl a t) with | some (.bool b) => some b | _ => none) = c
        revert hs hc
        generalize sl a t = v
        generalize fr t = d
        intro hc hs
        cases hs with
        | bool b => simp only [gB, Option.some.injEq] at hc; exact hc
        | tup cc ds hl hv =>
          cases ds with
          | nil => simp only [gB, Option.some.injEq] at hc; exact hc
          | cons x xs => simp [gB] at hc
        | _ => simp [gB] at hc
      by_cases hcb : c = some b
      · rw [if_pos hcb] at hw
        have : Region.wanted o (yielded ops a.tmps) = true := by simp [Region.wanted, hgd, hy, hcb]
        rw [this]; exact hgo hw
      · rw [if_neg hcb] at hw
        have : Region.wanted o (yielded ops a.tmps) = false := by simp [Region.wanted, hgd, hy, hcb]
        rw [this]
        exact hK _ _ _ _ _ (h.putNo (.tup _ _ rfl fun j hj => absurd hj (by simp)) rfl o.dst fun t ht => hd t (by unfold SO.mods; simp [stripOp, ht])) hw
    · exact hw.elim

theorem regWp_sound {ops : Array Oper} (hnt : nt ≤ 1000000) {Q : Exit → Act → World → Prop} {K : Fr → Heap → Prop} (hK : Next P W0 σ0 w0 nt K (Q .normal)) :
    ∀ (l : List Oper) (s : Nat), ops.toList.drop s = l → (l.map (stripOp ops)).all (SO.fits nt) = true → ∀ {σ : Sig} {fr : Fr} {H : Heap} {a : Act} {w : World}, St P W0 σ0 w0 nt σ fr H a w →
      regWp P hn (CallWp P W0) (l.map (stripOp ops)) fr H K → wpOps P ops Q (List.range' s l.length) a w
  | [], s, _, _, _, _, _, _, _, h, hw => hK _ _ _ _ _ h hw
  | o :: l, s, hl, hf, σ, fr, H, a, w, h, hw => by
    rw [List.map_cons, List.all_cons, Bool.and_eq_true] at hf
    have hs : ops[s]? = some o := by
      have : (ops.toList.drop s)[0]? = some o := by rw [hl]; rfl
      rw [List.getElem?_drop] at this
      simpa using this
    have hl' : ops.toList.drop (s + 1) = l := by
      rw [← List.drop_drop, hl]; rfl
    rw [List.length_cons, List.range'_succ]
    simp only [wpOps, hs]
    have := soWp_sound (Q := Q) hnt hf.1 h hw (next := wpOps P ops Q (List.range' (s + 1) l.length)) fun σ' fr' H' a' w' h' hw' => regWp_sound hnt hK l (s + 1) hl' hf.2 h' hw'
    split
    · rename_i hc; rw [if_pos hc] at this; exact .inl this
    · rename_i hc; rw [if_neg hc] at this; exact this

theorem ready_eq (ops : Array Oper) (listed : Array Bool) : dReady (ops.toList.map (stripD ops)) listed.toList = Region.ready .any ops listed := by
  unfold dReady Region.ready
  rw [List.length_map, show ops.toList.length = ops.size from rfl]
  congr 1
  funext i
  have e1 : ∀ j d, listed.toList.getD j d = listed.getD j d := fun j d => by
    rw [List.getD_eq_getElem?_getD, Array.getD_eq_getD_getElem?, Array.getElem?_toList]
  rw [e1]
  congr 1
  rw [List.getElem?_map, Array.getElem?_toList]
  cases ops[i]? with
  | none => rfl
  | some o =>
    simp only [Option.map_some, Option.getD_some, stripD]
    rw [← Array.all_toList]
    simp only [e1]
    induction o.after.toList with
    | nil => rfl
    | cons e es ih =>
      rw [List.filter_cons]
      cases hb : Region.binds .any e with
      | true => simp only [if_true, List.map_cons, List.all_cons, ih, hb, Bool.not_true, Bool.false_or]
      | false => simp only [Bool.false_eq_true, if_false, List.all_cons, ih, hb, Bool.not_false, Bool.true_or, Bool.true_and]

theorem dAny_sound {ops : Array Oper} (hnt : nt ≤ 1000000) (hf : ((ops.toList.map (stripD ops)).all fun o => o.1.fits nt) = true) {Q : Exit → Act → World → Prop} {K : Fr → Heap → Prop} (hK : Next P W0 σ0 w0 nt K (Q .normal)) :
    ∀ (n : Nat) (listed : Array Bool) {σ : Sig} {fr : Fr} {H : Heap} {a : Act} {w : World}, St P W0 σ0 w0 nt σ fr H a w →
      dAny P hn (CallWp P W0) (ops.toList.map (stripD ops)) n listed.toList fr H K → wpAny P .any ops Q n listed a w
  | 0, listed, _, _, _, _, _, h, hw => by
    obtain ⟨h1, h2⟩ := hw
    rw [ready_eq] at h1
    exact ⟨h1, hK _ _ _ _ _ h h2⟩
  | n + 1, listed, _, _, _, _, _, h, hw => by
    obtain ⟨h1, h2⟩ := hw
    rw [ready_eq] at h1 h2
    refine ⟨fun h0 => hK _ _ _ _ _ h (h1 h0), fun i hi => ?_⟩
    obtain ⟨so, hso, hw⟩ := h2 i hi
    rw [List.getElem?_map, Array.getElem?_toList] at hso
    obtain ⟨o, ho, rfl⟩ := Option.map_eq_some_iff.1 hso
    have hfo : (stripOp ops o).fits nt = true := by
      have := List.all_eq_true.1 hf (stripD ops o) (List.mem_map.2 ⟨o, by exact Array.mem_toList_iff.2 (Array.mem_of_getElem? ho), rfl⟩)
      exact this
    have := soWp_sound (Q := Q) (next := wpAny P .any ops Q n (listed.setIfInBounds i true)) hnt hfo h hw fun σ' fr' H' a' w' h' hw' => dAny_sound hnt hf hK n (listed.setIfInBounds i true) h' (by rw [Array.toList_setIfInBounds]; exact hw')
    unfold wpOp
    rw [ho]
    simp only
    split
    · rename_i hc; rw [if_pos hc] at this; exact .inl this
    · rename_i hc; rw [if_neg hc] at this; exact this

/-- What the code leaves behind fits. -/
def Post (P : Program) (W0 : World) (σ0 : Sig) (w0 : World) (nt : Nat) (Q : Ex) : Exit → Act → World → Prop := fun e a w => ∃ σ fr H, St P W0 σ0 w0 nt σ fr H a w ∧ Q e fr H

theorem wp_sound (hm : P.follows .mixedOrders = true) (hnt : nt ≤ 1000000) (c : Code) : ∀ {σ : Sig} {fr : Fr} {H : Heap} {a : Act} {w : World} {Q : Ex}, (strip c).fits nt = true → St P W0 σ0 w0 nt σ fr H a w →
    (strip c).wp P hn (CallWp P W0) fr H Q → c.wp P (Post P W0 σ0 w0 nt Q) a w := by
  induction c with
  | skip => exact fun _ h hw => wp_skip ⟨_, _, _, h, hw⟩
  | region id ops draw =>
    intro σ fr H a w Q hf h hw
    cases draw with
    | false =>
      refine wp_region ?_
      have := regWp_sound (hn := hn) (ops := ops) hnt (Q := Post P W0 σ0 w0 nt Q) (K := Q .normal) (fun σ fr H a w h hq => ⟨σ, fr, H, h, hq⟩) ops.toList 0 (by simp) (by exact hf) h hw
      rw [List.range_eq_range']
      exact this
    | true =>
      refine wp_region_any hm ?_
      have hl : ((List.replicate ((ops.toList.map (stripD ops)).length) false)) = (Array.replicate ops.size false).toList := by simp
      refine dAny_sound (hn := hn) (ops := ops) hnt (by exact hf) (Q := Post P W0 σ0 w0 nt Q) (K := Q .normal) (fun σ fr H a w h hq => ⟨σ, fr, H, h, hq⟩) ops.size (Array.replicate ops.size false) (σ := σ) (fr := fr) (H := H) (a := a) (w := w.drew) h.drew ?_
      rw [← hl]
      have hw' : dAny P hn (CallWp P W0) (ops.toList.map (stripD ops)) (ops.toList.map (stripD ops)).length (List.replicate ((ops.toList.map (stripD ops)).length) false) fr H (Q .normal) := hw
      rw [show ops.size = (ops.toList.map (stripD ops)).length by simp]
      exact hw'
  | seq x y ihx ihy =>
    intro σ fr H a w Q hf h hw
    have hf' : (strip x).fits nt = true ∧ (strip y).fits nt = true := by simpa [strip, SC.fits] using hf
    refine wp_seq (wp_mono (ihx hf'.1 h hw) ?_)
    rintro e a' w' ⟨σ', fr', H', h', hq⟩
    cases e with
    | normal => exact ihy hf'.2 h' hq
    | exit id => exact ⟨σ', fr', H', h', hq⟩
    | ret => exact ⟨σ', fr', H', h', hq⟩
    | goto l => exact hq.elim
    | panic c => exact hq.elim
    | outgrown => exact hq.elim
  | cond c x y ihx ihy =>
    intro σ fr H a w Q hf h hw
    have hf' : (strip x).fits nt = true ∧ (strip y).fits nt = true := by simpa [strip, SC.fits] using hf
    simp only [strip, SC.wp] at hw
    split at hw
    · rename_i b hb
      have hc := h.evV c
      rw [hb] at hc
      have hce : a.eval c = .bool b := by revert hc; generalize a.eval c = v; intro hc; cases hc; rfl
      refine wp_cond hce ?_
      cases b with
      | true => simp only [if_true] at hw ⊢; exact ihx hf'.1 h hw
      | false => simp only [Bool.false_eq_true, if_false] at hw ⊢; exact ihy hf'.2 h hw
    · exact hw.elim
  | block id x ih =>
    intro σ fr H a w Q hf h hw
    refine wp_block (wp_mono (ih (by exact hf) h hw) ?_)
    rintro e a' w' ⟨σ', fr', H', h', hq⟩
    cases e with
    | normal => exact ⟨σ', fr', H', h', hq⟩
    | exit i =>
      unfold inBlock at hq
      simp only [Exit.inBlock] at hq ⊢
      split at hq
      · rename_i hc; rw [if_pos hc]; exact ⟨σ', fr', H', h', hq⟩
      · rename_i hc; rw [if_neg hc]; exact ⟨σ', fr', H', h', hq⟩
    | ret => exact ⟨σ', fr', H', h', hq⟩
    | goto l => exact hq.elim
    | panic c => exact hq.elim
    | outgrown => exact hq.elim
  | loop x ih =>
    intro σ fr H a w Q hf h hw
    obtain ⟨I, n0, h0, hr⟩ := hw
    refine wp_loop_ghost (fun n a w => ∃ σ g H, St P W0 σ0 w0 nt σ (over (strip x).mods g fr) H a w ∧ I n (over (strip x).mods g fr) H) n0 ⟨σ, fr, H, ?_, ?_⟩ ?_
    · have : over (strip x).mods fr fr = fr := by funext t; simp [over]
      rw [this]; exact h
    · have : over (strip x).mods fr fr = fr := by funext t; simp [over]
      rw [this]; exact h0
    · rintro n a w ⟨σ, g, H, h, hI⟩
      have hb := hr n g H hI
      have hb2 := wp_mods (Q' := andThen (fun fr' H'' => ∃ g', fr' = over (strip x).mods g' fr ∧ ∃ n', n' < n ∧ I n' fr' H'') Q) CallWp.monoC (strip x) hb (fun e fr' H' hq hout => by
        cases e with
        | normal =>
          refine ⟨fr', ?_, hq⟩
          funext t
          by_cases ht : t ∈ (strip x).mods
          · simp [over, ht]
          · rw [hout t ht, over_out ht, over_out ht]
        | exit id => exact hq
        | ret => exact hq
        | goto l => exact hq
        | panic c => exact hq
        | outgrown => exact hq)
      refine wp_mono (ih (by exact hf) h hb2) ?_
      rintro e a' w' ⟨σ', fr', H', h', hq⟩
      cases e with
      | normal =>
        obtain ⟨g', rfl, n', hlt, hI'⟩ := hq
        exact ⟨n', hlt, σ', g', H', h', hI'⟩
      | exit id => exact ⟨σ', fr', H', h', hq⟩
      | ret => exact ⟨σ', fr', H', h', hq⟩
      | goto l => exact hq.elim
      | panic c => exact hq.elim
      | outgrown => exact hq.elim
  | exit id => exact fun _ h hw => wp_exit ⟨_, _, _, h, hw⟩
  | ret => exact fun _ h hw => wp_ret ⟨_, _, _, h, hw⟩
  | _ => intro σ fr H a w Q hf h hw; exact hw.elim

/-! ### A call's contract -/

/-- The results, out of the slots. -/
def resD (P : Program) (H : Heap) (fr : Fr) : List ResultVar → Option (List D)
  | [] => some []
  | .tmp t :: rs => (resD P H fr rs).map fun ds => fr t :: ds
  | .cell t ty :: rs => (dLoad P H ty (fr t)).bind fun d => (resD P H fr rs).map fun ds => d :: ds

def retD : List D → D
  | [d] => d
  | ds => .tup (ds.map D.pl)

/-- The slots when a call begins. -/
def fr0 (ds : List D) : Fr := fun t => (ds.getD t .any).pl

/-- A slice that was made as a box of this call, seen as a list from its end on. -/
def fz (n0 : Nat) (H : Heap) (d r : D) : Prop :=
  r = d ∨ ∃ b len e xs, d = .ref b 0 len e ∧ n0 ≤ b ∧ 0 < e ∧ xs.length = len ∧ (∀ x ∈ xs, x.cells.length = e) ∧ hget H b = xs.flatMap D.cells ∧ r = .lst .no xs
def fzs (n0 : Nat) (H : Heap) : List D → List D → Prop
  | [], [] => True
  | d :: ds, r :: rs => fz n0 H d r ∧ fzs n0 H ds rs
  | _, _ => False
theorem fzs_self (n0 : Nat) (H : Heap) : ∀ ds, fzs n0 H ds ds
  | [] => trivial
  | d :: ds => ⟨.inl rfl, fzs_self n0 H ds⟩
theorem fzs_len {n0 : Nat} {H : Heap} : ∀ {ds rs : List D}, fzs n0 H ds rs → rs.length = ds.length
  | [], [], _ => rfl
  | _ :: _, _ :: _, h => by rw [List.length_cons, List.length_cons, fzs_len h.2]
  | [], _ :: _, h => h.elim
  | _ :: _, [], h => h.elim
theorem fzs_get {n0 : Nat} {H : Heap} : ∀ {ds rs : List D}, fzs n0 H ds rs → ∀ i, i < ds.length → fz n0 H (ds.getD i .any) (rs.getD i .any)
  | _ :: _, _ :: _, h, 0, _ => h.1
  | _ :: _, _ :: _, h, i + 1, hi => fzs_get h.2 i (by simpa using hi)
  | [], [], _, i, hi => by simp at hi
  | [], _ :: _, h, _, _ => h.elim
  | _ :: _, [], h, _, _ => h.elim

/-- The blocks of the boxes from number 'n0' on are laid for good. -/
noncomputable def fzSig (n0 : Nat) (σ : Sig) (w : World) : Sig :=
  open Classical in
  { σ with κ := fun b => if ∃ i, n0 ≤ i ∧ i < σ.n ∧ σ.ι i = b then (match w.heap[b]? with | some (.cells c _ _) => c.size | _ => 0) else σ.κ b }

theorem fzSig_old {n0 : Nat} {σ : Sig} {w : World} {b : Nat} (h : ∀ i, n0 ≤ i → i < σ.n → σ.ι i ≠ b) : (fzSig n0 σ w).κ b = σ.κ b := by
  simp only [fzSig]
  rw [if_neg (fun ⟨i, h1, h2, h3⟩ => h i h1 h2 h3)]
theorem fzSig_new {n0 : Nat} {σ : Sig} {w : World} {i : Nat} {c : Array Value} {ty : TypeId} {f : Nat × Nat} (h0 : n0 ≤ i) (h1 : i < σ.n) (hb : w.heap[σ.ι i]? = some (.cells c ty f)) : (fzSig n0 σ w).κ (σ.ι i) = c.size := by
  simp only [fzSig]
  rw [if_pos ⟨i, h0, h1, rfl⟩, hb]

theorem fz_ext {n0 : Nat} (h : Rel W0 σ w H) : Ext σ w (fzSig n0 σ w) w := by
  refine ⟨Nat.le_refl _, fun _ _ => rfl, fun b hb => ?_, fun b c ty fz hb hk hc => ⟨c, fz, hb, rfl, fun _ _ => rfl, ?_⟩⟩
  · by_cases hx : ∃ i, n0 ≤ i ∧ i < σ.n ∧ σ.ι i = b
    · obtain ⟨i, h0, h1, rfl⟩ := hx
      obtain ⟨c, ty, h2, h3, h4, _⟩ := h.box i h1
      rw [h4]; exact Nat.zero_le _
    · rw [fzSig_old fun i h0 h1 h2 => hx ⟨i, h0, h1, h2⟩]; exact Nat.le_refl _
  · by_cases hx : ∃ i, n0 ≤ i ∧ i < σ.n ∧ σ.ι i = b
    · obtain ⟨i, h0, h1, rfl⟩ := hx
      rw [fzSig_new h0 h1 hb]; exact Nat.le_refl _
    · rw [fzSig_old fun i h0 h1 h2 => hx ⟨i, h0, h1, h2⟩]; exact hc

theorem fz_V {n0 : Nat} (h : Rel W0 σ w H) {v : Value} {d r : D} (hv : V σ w v d) (hz : fz n0 H d r) : V (fzSig n0 σ w) w v r := by
  rcases hz with rfl | ⟨b, len, e, xs, rfl, h0, he, hl, hE, hH, rfl⟩
  · exact hv.mono (fz_ext h)
  · cases hv with
    | ref _ _ _ cap _ hi hcap =>
      obtain ⟨c, ty, h2, h3, h4, h5⟩ := h.box b hi
      rw [hH, flat_length xs hE] at h3
      cases xs with
      | nil => subst hl; exact .lnil _ _ _
      | cons x xs =>
        have hpos : 0 < (x :: xs).length * e := Nat.mul_pos (by simp) he
        have hκ := fzSig_new (w := w) h0 hi h2
        refine .lst (σ.ι b) 0 cap e c ty (0, 0) .no (x :: xs) len hl.symm hcap h2 hE (fun y hy d hd => ?_) (by rw [hκ, h3]; omega) (by rw [hκ, h3]; exact hpos) (by rw [hκ]; exact Nat.le_refl _) fun i hi' j hj => ?_
        · obtain ⟨i, hi', rfl⟩ := List.getElem_of_mem hy
          obtain ⟨j, hj, rfl⟩ := List.getElem_of_mem hd
          have hj' : j < e := by rw [← hE _ hy]; exact hj
          have hlt : i * e + j < c.size := by
            rw [h3]
            have : (i + 1) * e ≤ (x :: xs).length * e := Nat.mul_le_mul_right _ hi'
            rw [Nat.add_mul] at this; omega
          have := (h5 _ hlt).2
          rw [hH, flat_getD (x :: xs) hE i hi' j hj'] at this
          have e1 : (x :: xs).getD i .any = (x :: xs)[i] := by rw [List.getD_eq_getElem?_getD, List.getElem?_eq_getElem hi']; rfl
          rw [e1, List.getD_eq_getElem?_getD, List.getElem?_eq_getElem hj] at this
          exact this
        · have hlt : i * e + j < c.size := by
            rw [h3]
            have : (i + 1) * e ≤ (x :: xs).length * e := Nat.mul_le_mul_right _ hi'
            rw [Nat.add_mul] at this; omega
          have := (h5 _ hlt).1
          rw [hH, flat_getD (x :: xs) hE i hi' j hj] at this
          rw [Nat.zero_add]
          exact this.mono (fz_ext h)

/-- What is asked where the code ends: what it returns fits 'K'. -/
def atEnd (P : Program) (H0 : Heap) (rs : List ResultVar) (K : D → Heap → Prop) : Ex := fun e fr H =>
  match e with
  | .normal => ∃ ds ds', resD P H fr rs = some ds ∧ fzs H0.length H ds ds' ∧ (retD ds').np = true ∧ K (retD ds') (H.take H0.length)
  | .ret => ∃ ds ds', resD P H fr rs = some ds ∧ fzs H0.length H ds ds' ∧ (retD ds').np = true ∧ K (retD ds') (H.take H0.length)
  | _ => False

def resOne (tmps : Array Value) : ResultVar → Sem Value
  | .tmp t => pure (tmps.getD t undef)
  | .cell ad t => do loadVar t (← asAddr (tmps.getD ad undef))
theorem results_eq (fn : Func) (tmps : Array Value) : results fn tmps = (do
    let vs ← fn.results.mapM (resOne tmps)
    pure (if h : vs.size = 1 then vs[0] else .tuple vs)) := by
  unfold results
  have : (fun (x : ResultVar) => (match x with
      | .tmp t => pure (tmps.getD t undef)
      | .cell a t => do loadVar t (← asAddr (tmps.getD a undef)) : Sem Value)) = resOne tmps := by funext x; cases x <;> rfl
  rw [← this]
  rfl

theorem resD_run (h : St P W0 σ0 w0 nt σ fr H a w) : ∀ (rs : List ResultVar) (ds : List D), resD P H fr rs = some ds →
    ∃ vs : List Value, (rs.mapM (resOne a.tmps)).run P w = .ok vs w ∧ vs.length = ds.length ∧
      ∀ i, i < ds.length → V σ w (vs.getD i undef) (ds.getD i .any) ∧ OwnV P σ w0.heap.size w (vs.getD i undef) (ds.getD i .any)
  | [], ds, hr => by cases hr; exact ⟨[], rfl, rfl, fun i hi => by simp at hi⟩
  | .tmp t :: rs, ds, hr => by
    obtain ⟨ds', h1, rfl⟩ := Option.map_eq_some_iff.1 hr
    obtain ⟨vs, h2, h3, h4⟩ := resD_run h rs ds' h1
    refine ⟨sl a t :: vs, ?_, by simp [h3], fun i hi => ?_⟩
    · rw [List.mapM_cons]
      simp only [resOne, Sem.run_bind, Sem.run_pure, Result.andThen_ok, h2]
      rfl
    · cases i with
      | zero => exact ⟨h.slot t, h.own t⟩
      | succ i => exact h4 i (by simpa using hi)
  | .cell ad t :: rs, ds, hr => by
    obtain ⟨d, h0, hr⟩ := Option.bind_eq_some_iff.1 hr
    obtain ⟨ds', h1, rfl⟩ := Option.map_eq_some_iff.1 hr
    obtain ⟨vs, h2, h3, h4⟩ := resD_run h rs ds' h1
    obtain ⟨r, hr1, hv, hno⟩ := run_dLoad (P := P) h.rel (h.slot ad) h0
    have hr2 : (resOne a.tmps (.cell ad t)).run P w = .ok r w := by
      have hs := h.slot ad
      have : ∃ p, sl a ad = .pointer (some p) := by
        revert hs h0
        generalize sl a ad = v
        generalize fr ad = x
        intro h0 hs
        unfold dLoad at h0
        cases hs <;> simp at h0 <;> exact ⟨_, rfl⟩
      obtain ⟨p, hp⟩ := this
      rw [hp] at hr1
      show (do loadVar t (← asAddr (a.tmps.getD ad undef)) : Sem Value).run P w = .ok r w
      rw [show a.tmps.getD ad undef = .pointer (some p) from hp]
      simpa [Instr.loadAt, Instr.sureAddr, asAddr] using hr1
    refine ⟨r :: vs, ?_, by simp [h3], fun i hi => ?_⟩
    · rw [List.mapM_cons]
      simp only [Sem.run_bind, hr2, Result.andThen_ok, h2, Sem.run_pure]
    · cases i with
      | zero => exact ⟨hv, .of_noOwn hno⟩
      | succ i => exact h4 i (by simpa using hi)

theorem CallWp.intro (hm : P.follows .mixedOrders = true) {f : FuncId} {fn : Func} {c : Code} {s : SC} (hn : Hints) (hf : P.funcs[f]? = some fn) (hb : fn.body = some c) (hname : (fn.name == "runtime.NumGoroutine") = false)
    (hs : strip c = s) (hfit : s.fits fn.ntmps = true) (hnt : fn.ntmps ≤ 1000000) {ds : List D} (hlen : ds.length ≤ fn.ntmps) {H : Heap} {K : D → Heap → Prop}
    (hw : s.wp P hn (CallWp P W0) (fr0 ds) H (atEnd P H fn.results.toList K)) : CallWp P W0 f ds H K := by
  subst hs
  refine ⟨⟨fn, hf, by rw [hb]; rfl, hname⟩, fun σ w vs hrel hcv => ?_⟩
  refine calls_of_wp hf hb (wp_mono (wp_sound (W0 := W0) (σ0 := σ) (w0 := w) (σ := σ) (fr := fr0 ds) (H := H) hm hnt c hfit ?_ hw) ?_)
  · -- the state when the call begins
    have hsl : ∀ t, V σ w ((vs ++ Array.replicate (fn.ntmps - vs.size) undef).getD t undef) ((ds.getD t .any).pl) := fun t => by
      rcases Nat.lt_or_ge t ds.length with hlt | hge
      · have e1 : (vs ++ Array.replicate (fn.ntmps - vs.size) undef).getD t undef = vs.getD t undef := by
          simp only [Array.getD_eq_getD_getElem?]; rw [Array.getElem?_append_left (by rw [hcv.1]; exact hlt)]
        rw [e1]; exact (hcv.2 t hlt).pl
      · have : ds.getD t .any = .any := by rw [List.getD_eq_getElem?_getD, List.getElem?_eq_none hge]; rfl
        rw [this]; exact .any _
    exact ⟨by simp [hcv.1]; omega, hsl, fun t => .of_noOwn (noOwn_pl _), fun t t' g _ h1 _ => not_holds_of_noOwn (noOwn_pl _) h1, hrel, .refl _ _, hrel.base.size, rfl⟩
  · -- and when it ends
    have fin : ∀ (a : Act) (w' : World) (σ' : Sig) (fr' : Fr) (H' : Heap), St P W0 σ w fn.ntmps σ' fr' H' a w' → (∃ ds ds', resD P H' fr' fn.results.toList = some ds ∧ fzs H.length H' ds ds' ∧ (retD ds').np = true ∧ K (retD ds') (H'.take H.length)) →
        a.defers = [] ∧ ∃ v, (results fn a.tmps).run P w' = .ok v w' ∧ ∃ v' r H' σ', Ending.returned v = .returned v' ∧ K r H' ∧ V σ' w' v' r ∧ OwnV P σ' w.heap.size w' v' r ∧ Rel W0 σ' w' H' ∧ Step σ w σ' w' ∧ σ'.n = σ.n := by
      rintro a w' σ' fr' H' h ⟨rs0, rs, hr, hfz, hnp, hk⟩
      refine ⟨h.defers, ?_⟩
      obtain ⟨us, h1, h2', h3'⟩ := resD_run h _ rs0 hr
      have h2 : us.length = rs.length := by rw [fzs_len hfz]; exact h2'
      have hσn : ∀ i, H.length ≤ i → i < σ'.n → w.heap.size ≤ σ'.ι i := fun i h1 h2 => h.step.new i (by rw [hrel.n]; exact h1) h2
      have h3 : ∀ i, i < rs.length → V (fzSig H.length σ' w') w' (us.getD i undef) (rs.getD i .any) ∧ (OwnV P σ' w.heap.size w' (us.getD i undef) (rs.getD i .any)) := fun i hi => by
        have hi' : i < rs0.length := by rw [← fzs_len hfz]; exact hi
        have hz := fzs_get hfz i hi'
        refine ⟨fz_V h.rel (h3' i hi').1 hz, ?_⟩
        rcases hz with hz | ⟨_, _, _, _, _, _, _, _, _, _, hz⟩
        · rw [hz]; exact (h3' i hi').2
        · rw [hz]; exact .of_noOwn rfl
      have hrun : (results fn a.tmps).run P w' = .ok (if hh : us.toArray.size = 1 then us.toArray[0] else .tuple us.toArray) w' := by
        rw [results_eq, Array.mapM_eq_mapM_toList]
        simp only [Sem.run_bind, Sem.run_map]
        rw [h1]
        rfl
      have hHl : H.length ≤ H'.length := by rw [← hrel.n, ← h.rel.n]; exact h.step.n
      have hcut : ∀ i, i < H.length → hget (H'.take H.length) i = hget H' i := fun i hi => by
        simp only [hget, List.getD_eq_getElem?_getD]; rw [List.getElem?_take, if_pos hi]
      let σ2 : Sig := { ι := σ'.ι, n := σ.n, κ := (fzSig H.length σ' w').κ }
      have hstep : Step σ w σ2 w' := ⟨h.step.size, h.step.block, Nat.le_refl _, h.step.ι, fun i h1 h2 => by simp only [σ2] at h2; omega, fun b hb => by
        show (fzSig H.length σ' w').κ b = σ.κ b
        rw [fzSig_old fun i h1 h2 h3 => by have := hσn i h1 h2; omega]
        exact h.step.κ b hb⟩
      have hrel2 : Rel W0 σ2 w' (H'.take H.length) := by
        refine ⟨by simp only [σ2, List.length_take]; rw [hrel.n]; omega, fun i j hi hj e => h.rel.inj i j (Nat.lt_of_lt_of_le hi h.step.n) (Nat.lt_of_lt_of_le hj h.step.n) e,
          fun i hi => h.rel.old i (Nat.lt_of_lt_of_le hi h.step.n), fun i hi => ?_, h.rel.base⟩
        obtain ⟨c, ty, q1, q2, q3, q4⟩ := h.rel.box i (Nat.lt_of_lt_of_le hi h.step.n)
        have hi' : i < H.length := by rw [← hrel.n]; exact hi
        rw [hcut i hi']
        refine ⟨c, ty, q1, q2, ?_, fun j hj => ⟨V.np1_any (σ := fzSig H.length σ' w') σ2 rfl ((q4 j hj).1.mono (fz_ext h.rel)) (q4 j hj).2, (q4 j hj).2⟩⟩
        show (fzSig H.length σ' w').κ (σ'.ι i) = 0
        rw [fzSig_old fun j h1 h2 h3 => by have := h.rel.inj j i h2 (Nat.lt_of_lt_of_le hi h.step.n) h3; omega]
        exact q3
      have hown : ∀ {v d}, OwnV P σ' w.heap.size w' v d → OwnV P σ2 w.heap.size w' v d := fun {v d} ho => by
        cases d with
        | lst o xs => ?_
        | _ => trivial
        cases o with
        | no => trivial
        | exact => exact ho
        | tip e =>
          rcases ho with ho | ⟨g, cap, cur, k1, k2, k3, k4, k5, k6, k7, k8, k9⟩
          · exact .inl ho
          · refine .inr ⟨g, cap, cur, k1, k2, k3, k4, k5, k6, ?_, fun i hi => k8 i (Nat.lt_of_lt_of_le hi h.step.n), k9⟩
            show (fzSig H.length σ' w').κ g = _
            rw [fzSig_old fun i h1 h2 => k8 i h2]; exact k7
      refine ⟨_, hrun, _, retD rs, _, σ2, rfl, hk, ?_, ?_, hrel2, hstep, rfl⟩
      · refine V.np_any (σ := fzSig H.length σ' w') σ2 rfl ?_ hnp
        match rs, us, h2, h3 with
        | [d], [u], _, h3 => exact (h3 0 (by simp)).1
        | [], [], _, _ => exact .tup _ _ rfl fun j hj => absurd hj (by simp)
        | d1 :: d2 :: ds', us, h2, h3 =>
          have hne : ¬ (us.toArray.size = 1) := by simp [h2]
          rw [dif_neg hne]
          refine .tup _ _ (by simp [h2]) fun j hj => ?_
          have hj' : j < (d1 :: d2 :: ds').length := by simpa using hj
          have e1 : us.toArray.getD j undef = us.getD j undef := by
            rw [Array.getD_eq_getD_getElem?, List.getD_eq_getElem?_getD, List.getElem?_toArray]
          have e2 : ((d1 :: d2 :: ds').map D.pl).getD j .any = ((d1 :: d2 :: ds').getD j .any).pl := by
            simp only [List.getD_eq_getElem?_getD, List.getElem?_map, List.getElem?_eq_getElem hj', Option.map_some, Option.getD_some]
          rw [e1, e2]; exact (h3 j hj').1.pl
      · match rs, us, h2, h3 with
        | [d], [u], _, h3 => exact hown (h3 0 (by simp)).2
        | [], [], _, _ => exact .of_noOwn rfl
        | d1 :: d2 :: ds', us, h2, h3 => exact .of_noOwn rfl
    rintro e a w' ⟨σ', fr', H', h, hq⟩
    cases e with
    | normal => exact fin a w' σ' fr' H' h hq
    | ret => exact fin a w' σ' fr' H' h hq
    | exit id => exact hq.elim
    | goto l => exact hq.elim
    | panic c => exact hq.elim
    | outgrown => exact hq.elim

end
end Dl
