/- One operation, and lists of them: 'opWp' and 'regWp' are sound. -/
import Derived.Test.YtgnebanjejmckaaDoorDl
namespace Dl
open Go

section
variable {P : Program} {W0 : World} {σ0 σ σ' : Sig} {w0 w w' : World} {fr : Fr} {H H' : Heap} {a : Act} {nt : Nat}

theorem noOwn_of_ev_const {x : Operand} (_h : St P W0 σ0 w0 nt σ fr H a w) (hx : ∀ t, x ≠ .tmp t) : OwnV P σ w0.heap.size w (a.eval x) (Dl.ev fr x) ∧ ∀ v g, ¬ holds v (Dl.ev fr x) g := by
  cases x with
  | tmp t => exact absurd rfl (hx t)
  | const v => exact ⟨own_ofVal _ _, fun u g => not_holds_ofVal v u g⟩
  | global g => exact ⟨.of_noOwn rfl, fun u g => not_holds_of_noOwn rfl⟩
  | func f => exact ⟨.of_noOwn rfl, fun u g => not_holds_of_noOwn rfl⟩

theorem OwnV.weaken {B B' : Nat} {v : Value} {d : D} (h : OwnV P σ B w v d) (hb : B' ≤ B) : OwnV P σ B' w v d := by
  cases d with
  | lst o xs => ?_
  | _ => trivial
  cases o with
  | no => trivial
  | exact => exact h
  | tip e =>
    rcases h with h | ⟨g, cap, cur, hv, hB, hr⟩
    · exact .inl h
    · exact .inr ⟨g, cap, cur, hv, Nat.le_trans hb hB, hr⟩

/-- A value that comes back from a call: into its slot. -/
theorem St.ret (h : St P W0 σ0 w0 nt σ fr H a w) (s : Step σ w σ' w') (r : Rel W0 σ' w' H') {v : Value} {d : D} (hv : V σ' w' v d) (ho : OwnV P σ' w.heap.size w' v d) (dst : Option Nat)
    (hd : ∀ t, dst = some t → t < nt) : St P W0 σ0 w0 nt σ' (fr.put dst d) H' (a.put dst v) w' := by
  refine (h.world s r).put hv (ho.weaken h.step.size) dst hd fun g hg t _ hh => ?_
  -- the new value's row is younger than whatever another slot owns
  obtain ⟨e, xs, off, len, cap, rfl, rfl, hlt⟩ := hg
  rcases ho with ⟨a', ha'⟩ | ⟨g', cap', cur, hv', hB, _⟩
  · cases ha'; omega
  · cases hv'
    obtain ⟨e2, ys, off2, len2, cap2, hf, hs, hlt2⟩ := hh
    have := h.own t
    rw [hf] at this
    rcases this with ⟨a', ha'⟩ | ⟨g2, cap3, cur2, hv2, _, hg2, _⟩
    · rw [ha'] at hs; cases hs; omega
    · rw [hv2] at hs; cases hs
      have := lt_of_get hg2; omega

theorem cv_map {xs : List Operand} {f : Operand → Value} {g : Operand → D} (h : ∀ x ∈ xs, V σ w (f x) (g x)) : CV σ w (xs.map f).toArray (xs.map g) := by
  refine ⟨by simp, fun j hj => ?_⟩
  have hj' : j < xs.length := by simpa using hj
  have e1 : (xs.map f).toArray.getD j undef = f xs[j] := by
    rw [Array.getD_eq_getD_getElem?, List.getElem?_toArray, List.getElem?_map, List.getElem?_eq_getElem hj']; rfl
  have e2 : (xs.map g).getD j .any = g xs[j] := by
    rw [List.getD_eq_getElem?_getD, List.getElem?_map, List.getElem?_eq_getElem hj']; rfl
  rw [e1, e2]; exact h _ (List.getElem_mem hj')

theorem OV_map (h : St P W0 σ0 w0 nt σ fr H a w) (x : Option Operand) : OV σ w (x.map a.eval) (x.map (Dl.ev fr)) := by
  cases x with
  | none => trivial
  | some x => exact h.evV x

theorem parts_rel (h : St P W0 σ0 w0 nt σ fr H a w) (parts : List (Nat × Operand)) :
    (parts.map fun p => (p.1, a.eval p.2)).map (·.1) = (parts.map fun p => (p.1, Dl.ev fr p.2)).map (·.1) ∧
    ∀ i, i < (parts.map fun p => (p.1, a.eval p.2)).length → V σ w (((parts.map fun p => (p.1, a.eval p.2)).getD i default).2) (((parts.map fun p => (p.1, Dl.ev fr p.2)).getD i default).2) := by
  refine ⟨by simp, fun i hi => ?_⟩
  have hi' : i < parts.length := by simpa using hi
  simp only [List.getD_eq_getElem?_getD, List.getElem?_map, List.getElem?_eq_getElem hi', Option.map_some, Option.getD_some]
  exact h.evV _

theorem V_box (σ : Sig) (w' : World) (b n : Nat) (hn : σ.n = n) : V (σ.box b) w' (.pointer (some ⟨b, 0, none⟩)) (.ptr n 0) := by
  have hι : (σ.box b).ι n = b := by rw [← hn]; simp [Sig.box]
  have := V.ptr (σ := σ.box b) (w := w') n 0 (by rw [← hn]; simp [Sig.box])
  rwa [hι] at this

theorem opWp_sound {hn : Hints} {o : Oper} {so : SO} (hso : so.dst = o.dst ∧ so.op = o.op) (hd : ∀ t ∈ so.mods, t < nt) (h : St P W0 σ0 w0 nt σ fr H a w)
    {K : Fr → Heap → Prop} (hw : opWp P hn (CallWp P W0) so fr H K) {next : Act → World → Prop} {Q : Exit → Act → World → Prop} (hK : Next P W0 σ0 w0 nt K next) : o.wp P a w next Q := by
  obtain ⟨hdst, hop⟩ := hso
  have hdd : ∀ t, o.dst = some t → t < nt := fun t ht => hd t (by unfold SO.mods; rw [hdst, ht]; simp)
  have val : ∀ {v : Value} {d : D}, (execOp a.eval o).run P w = .ok (.value v) w → V σ w v d → noOwn d = true → K (fr.put so.dst d) H → o.wp P a w next Q := fun hr hv ho hk =>
    wp_value h hK hdd hr hv ho (by rw [← hdst]; exact hk)
  have give : ∀ {v : Value} {w' : World}, (execOp a.eval o).run P w = .ok (.value v) w' → Gives P W0 σ0 w0 nt fr a (fun d H' => K (fr.put so.dst d) H') v w' → o.wp P a w next Q := fun hr hg => by
    obtain ⟨σ', d, H', hk, hst, hv, ho, hnh⟩ := hg
    unfold Oper.wp
    rw [hr]
    exact hK _ _ _ _ _ (hst.put hv ho o.dst hdd fun g hh => absurd hh (hnh g)) (by rw [← hdst]; exact hk)
  unfold opWp at hw
  rw [hop] at hw
  split at hw
  case h_1 s ho =>
    -- move of a slot
    have hr : (execOp a.eval o).run P w = .ok (.value (sl a s)) w := by simp only [execOp, ho, Sem.run_pure]; rfl
    unfold Oper.wp
    rw [hr]
    split at hw
    · rename_i d hsd
      have hd' : d < nt := hdd d (by rw [← hdst]; exact hsd)
      rw [hdst] at hsd
      by_cases ht : d ∈ hn.trs ∧ d ≠ s
      · rw [if_pos ht] at hw
        have := h.putTr s d hd' ht.2
        rw [← hsd] at this
        exact hK _ _ _ _ _ (by simpa [hsd] using this) hw
      · rw [if_neg ht] at hw
        have := h.put (dst := o.dst) (h.slot s).dis (h.own s).dis hdd (fun g hg => absurd hg not_holds_dis)
        exact hK _ _ _ _ _ this (by rw [hsd]; exact hw)
    · rename_i hsd
      rw [hdst] at hsd
      have : St P W0 σ0 w0 nt σ fr H (a.put o.dst (sl a s)) w := by rw [hsd]; exact h
      exact hK _ _ _ _ _ this hw
  case h_2 x hx ho =>
    have hc := noOwn_of_ev_const h (x := x) (fun t e => hx t e)
    have hr : (execOp a.eval o).run P w = .ok (.value (a.eval x)) w := by simp only [execOp, ho, Sem.run_pure]
    unfold Oper.wp
    rw [hr]
    exact hK _ _ _ _ _ (h.put (h.evV x) hc.1 o.dst hdd fun g hg => absurd hg (hc.2 _ g)) (by rw [← hdst]; exact hw)
  case h_3 s ho =>
    have hr : (execOp a.eval o).run P w = .ok (.value (sl a s)) w := by simp only [execOp, ho, Sem.run_pure]; rfl
    unfold Oper.wp
    rw [hr]
    split at hw
    · rename_i d hsd
      have hd' : d < nt := hdd d (by rw [← hdst]; exact hsd)
      rw [hdst] at hsd
      by_cases hcp : d ∈ hn.cps
      · rw [if_pos hcp] at hw
        have := h.put (dst := o.dst) (h.slot s).dis (h.own s).dis hdd (fun g hg => absurd hg not_holds_dis)
        exact hK _ _ _ _ _ this (by rw [hsd]; exact hw)
      rw [if_neg hcp] at hw
      split at hw
      · rename_i e xs hfs
        by_cases ht : d ≠ s
        · rw [if_pos ht] at hw
          have := h.putTr s d hd' ht
          rw [← hsd] at this
          rw [hfs] at this
          exact hK _ _ _ _ _ (by simpa [hsd, D.dis] using this) hw
        · rw [if_neg ht] at hw; exact hw.elim
      · rename_i v hne
        have hno : ∀ e xs, fr s ≠ .lst (.tip e) xs := fun e xs hh => hne e xs hh
        have hnh : ∀ g, ¬ holds (sl a s) (fr s) g := by
          rintro g ⟨e, xs, _, _, _, hh, _⟩; exact hno e xs hh
        have := h.put (dst := o.dst) (h.slot s) (h.own s) hdd (fun g hg => absurd hg (hnh g))
        exact hK _ _ _ _ _ this (by rw [hsd]; exact hw)
    · rename_i hsd
      rw [hdst] at hsd
      have : St P W0 σ0 w0 nt σ fr H (a.put o.dst (sl a s)) w := by rw [hsd]; exact h
      exact hK _ _ _ _ _ this hw
  case h_4 x hx ho =>
    have hc := noOwn_of_ev_const h (x := x) (fun t e => hx t e)
    have hr : (execOp a.eval o).run P w = .ok (.value (a.eval x)) w := by simp only [execOp, ho, Sem.run_pure]
    unfold Oper.wp
    rw [hr]
    exact hK _ _ _ _ _ (h.put (h.evV x) hc.1 o.dst hdd fun g hg => absurd hg (hc.2 _ g)) (by rw [← hdst]; exact hw)
  case h_5 c x y ho =>
    have hcv := h.evV c
    have disput : ∀ z : Operand, (execOp a.eval o).run P w = .ok (.value (a.eval z)) w → K (fr.put so.dst (Dl.ev fr z).dis) H → o.wp P a w next Q := fun z hr hk => by
      have hov : OwnV P σ w0.heap.size w (a.eval z) (Dl.ev fr z) := by
        cases z with
        | tmp t => exact h.own t
        | _ => exact (noOwn_of_ev_const h (fun t e => by cases e)).1
      unfold Oper.wp
      rw [hr]
      exact hK _ _ _ _ _ (h.put (h.evV z).dis hov.dis o.dst hdd fun g hg => absurd hg not_holds_dis) (by rw [← hdst]; exact hk)
    split at hw
    · rename_i hb
      rw [hb] at hcv
      have hcb : a.eval c = .bool true := by revert hcv; generalize a.eval c = v; intro hcv; cases hcv; rfl
      exact disput x (by simp [execOp, ho, hcb, asBool]) hw
    · rename_i hb
      rw [hb] at hcv
      have hcb : a.eval c = .bool false := by revert hcv; generalize a.eval c = v; intro hcv; cases hcv; rfl
      exact disput y (by simp [execOp, ho, hcb, asBool]) hw
    · exact hw.elim
  case h_6 op t x y yt ho =>
    obtain ⟨d, h1, hk⟩ := optK_some' hw
    obtain ⟨r, hr, hv, hno⟩ := run_dBinT x y (h.evV x) (h.evV y) h1
    exact val (exec_v (s := eqGuard op t x y (a.eval x) (a.eval y) >>= fun _ => binOp op t (a.eval x) (a.eval y)) (by simp only [execOp, ho]) hr) hv hno hk
  case h_7 op t x ho =>
    obtain ⟨d, h1, hk⟩ := optK_some' hw
    obtain ⟨r, hr, hv, hno⟩ := run_dUn op _ _ _ (h.evV x) h1
    exact val (exec_v (s := Op.unary op (a.eval x)) (by simp only [execOp, ho]) hr) hv hno hk
  case h_8 s t x ho =>
    by_cases hdr : dstIn so.dst hn.refs = true
    · rw [if_pos hdr] at hw
      obtain ⟨v', w', hr, hg⟩ := cvR_sound h (h.evV x) hw
      exact give (exec_v (s := convert s t (a.eval x)) (by simp only [execOp, ho]) hr) hg
    rw [if_neg hdr] at hw
    obtain ⟨d, h1, hk⟩ := optK_some' hw
    obtain ⟨r, hr, hv, hno⟩ := run_dConv (h.evV x) h1
    exact val (exec_v (s := convert s t (a.eval x)) (by simp only [execOp, ho]) hr) hv hno hk
  case h_9 t x f ho =>
    obtain ⟨d, h1, hk⟩ := optK_some' hw
    obtain ⟨r, hr, hv, hno⟩ := run_dField (h.evV x) h1
    exact val (exec_v (s := Instr.field t (a.eval x) f) (by simp only [execOp, ho]) hr) hv hno hk
  case h_10 t x i ho =>
    obtain ⟨d, h1, hk⟩ := optK_some' hw
    obtain ⟨r, hr, hv, hno⟩ := run_dIndex (h.evV x) (h.evV i) h1
    exact val (exec_v (s := Instr.index t (a.eval x) (a.eval i)) (by simp only [execOp, ho]) hr) hv hno hk
  case h_11 x i ho =>
    obtain ⟨d, h1, hk⟩ := optK_some' hw
    obtain ⟨r, hr, hv, hno⟩ := run_dExtract (P := P) (h.evV x) h1
    exact val (exec_v (s := Instr.extract (a.eval x) i) (by simp only [execOp, ho]) hr) hv hno hk
  case h_12 t x i ho =>
    obtain ⟨d, h1, hk⟩ := optK_some' hw
    obtain ⟨r, hr, hv, hno⟩ := run_dIndexAddr (h.evV x) (h.evV i) h1
    exact val (exec_v (s := Instr.indexAt t (a.eval x) (a.eval i)) (by simp only [execOp, ho]) hr) hv hno hk
  case h_13 t x f ho =>
    obtain ⟨d, h1, hk⟩ := optK_some' hw
    obtain ⟨r, hr, hv, hno⟩ := run_dFieldAddr (h.evV x) h1
    exact val (exec_v (s := Instr.fieldAt t (a.eval x) f) (by simp only [execOp, ho]) hr) hv hno hk
  case h_14 t x ho =>
    obtain ⟨d, h1, hk⟩ := optK_some' hw
    obtain ⟨r, hr, hv, hno⟩ := run_dLoad h.rel (h.evV x) h1
    exact val (exec_v (s := Instr.loadAt t (a.eval x)) (by simp only [execOp, ho]) hr) hv hno hk
  case h_15 x ho =>
    have hx := h.evV x
    split at hw
    · rename_i b off hb
      rw [hb] at hx
      have he : ∃ v, a.eval x = .pointer (some v) := by revert hx; generalize a.eval x = v; intro hx; cases hx; exact ⟨_, rfl⟩
      obtain ⟨v, he⟩ := he
      exact val (v := a.eval x) (by simp only [execOp, ho, he, Sem.run_pure]) hx rfl hw
    · rename_i cs hb
      rw [hb] at hx
      have he : ∃ v, a.eval x = .pointer (some v) := by revert hx; generalize a.eval x = v; intro hx; cases hx; exact ⟨_, rfl⟩
      obtain ⟨v, he⟩ := he
      exact val (v := a.eval x) (by simp only [execOp, ho, he, Sem.run_pure]) hx rfl hw
    · rename_i f cs hb
      rw [hb] at hx
      have he : ∃ c, a.eval x = .func (.func f) #[] c := by revert hx; generalize a.eval x = v; intro hx; cases hx; exact ⟨_, rfl⟩
      obtain ⟨c, he⟩ := he
      exact val (v := a.eval x) (by simp only [execOp, ho, he, Sem.run_pure]) hx rfl hw
    · exact hw.elim
  case h_16 t x lo hi mx ho =>
    obtain ⟨d, h1, hk⟩ := optK_some' hw
    obtain ⟨r, hr, hv, hno⟩ := run_dSlice h.rel (h.evV x) (OV_map h lo) (OV_map h hi) (OV_map h mx) h1
    have hrun : (execOp a.eval o).run P w = .ok (.value r) w := exec_v (s := Instr.sliceAt t (a.eval x) (lo.map a.eval) (hi.map a.eval) (mx.map a.eval)) (by simp only [execOp, ho]) hr
    rcases hno with hno | ⟨xs, ad, rfl, rfl⟩
    · exact val hrun hv hno hk
    · unfold Oper.wp
      rw [hrun]
      refine hK _ _ _ _ _ (h.put hv ⟨ad, rfl⟩ o.dst hdd fun g hg => ?_) (by rw [← hdst]; exact hk)
      obtain ⟨e, ys, _, _, _, hh, _⟩ := hg
      simp at hh
  case h_17 t parts ho =>
    obtain ⟨d, h1, hk⟩ := optK_some' hw
    have hp := parts_rel h parts.toList
    obtain ⟨r, hr, hv, hno⟩ := run_dBuild hp.1 hp.2 h1
    refine val (exec_v (s := Instr.build t (parts.map fun p => (p.1, a.eval p.2))) (by simp only [execOp, ho]) ?_) hv hno hk
    have : (parts.map fun p => (p.1, a.eval p.2)) = (parts.toList.map fun p => (p.1, a.eval p.2)).toArray := by
      apply Array.toList_inj.1; simp
    rw [this]; exact hr
  case h_18 f first caps ho =>
    by_cases hb : first = #[] ∧ ∀ d ∈ caps.toList.map (Dl.ev fr), D.sc d = true
    · rw [if_pos hb] at hw
      have hcv := cv_map (σ := σ) (w := w) (xs := caps.toList) (f := a.eval) (g := Dl.ev fr) (fun x _ => h.evV x)
      have hce : caps.map a.eval = (caps.toList.map a.eval).toArray := by apply Array.toList_inj.1; simp
      refine val (v := .func (.func f) #[] (caps.map a.eval)) ?_ (.fn f _ _ (by rw [hce]; exact hcv.1) (by rw [hce]; exact hcv.2)) rfl hw
      simp only [execOp, ho, Instr.makeFunc, hb.1, Sem.run_bind, Sem.run_pure, Result.andThen_ok, List.map_toArray, List.map_nil]
    · rw [if_neg hb] at hw; exact hw.elim
  case h_19 t x ho =>
    by_cases hb : P.cellsOf t = (Dl.ev fr x).cells.length ∧ ∀ d ∈ (Dl.ev fr x).cells, d.sc = true ∧ d.bx = true
    · rw [if_pos hb] at hw
      have hcv := (h.evV x).cv (List.all_eq_true.2 fun d hd => (hb.2 d hd).1)
      have hst := h.box (a.eval x).cells t ((Dl.ev fr x).cells.map D.pl) hcv.pl (fun d hd => by
        obtain ⟨d', hd', rfl⟩ := List.mem_map.1 hd; rw [bx_pl]; exact (hb.2 d' hd').2)
      unfold Oper.wp
      have hr : (execOp a.eval o).run P w = .ok (.value (.pointer (some ⟨w.heap.size, 0, none⟩))) (w.alloc (.cells (a.eval x).cells t)) := by
        simp only [execOp, ho, Instr.box, newVar, newRow, Sem.run_bind, run_newObj, Result.andThen_ok, Sem.run_pure, World.alloc_eq]
      rw [hr]
      refine hK _ _ _ _ _ (hst.putNo (d := .ptr H.length 0) (V_box σ _ _ _ h.rel.n) rfl o.dst hdd) (by rw [← hdst]; exact hw)
    · rw [if_neg hb] at hw; exact hw.elim
  case h_20 t ho =>
    split at hw
    · rename_i z hz
      obtain ⟨i, zv, hi, hzv, hzrun, hzc⟩ := zeroD_run (σ := σ) (w := w) hz
      have hst := h.box zv.cells t z hzc (fun d hd => D.bx_np1 (zeroD_np1 hz d hd))
      unfold Oper.wp
      have hr : (execOp a.eval o).run P w = .ok (.value (.pointer (some ⟨w.heap.size, 0, none⟩))) (w.alloc (.cells zv.cells t)) := by
        simp only [execOp, ho, Instr.alloc, newVar, newRow, Sem.run_bind, hzrun, run_newObj, Result.andThen_ok, Sem.run_pure, World.alloc_eq]
      rw [hr]
      refine hK _ _ _ _ _ (hst.putNo (d := .ptr H.length 0) (V_box σ _ _ _ h.rel.n) rfl o.dst hdd) (by rw [← hdst]; exact hw)
    · exact hw.elim
  case h_21 t ad x ho =>
    split at hw
    · rename_i b off hb
      by_cases hc : b < H.length ∧ (Dl.ev fr x).cells.length = P.cellsOf t ∧ off + P.cellsOf t ≤ (hget H b).length ∧ (∀ d ∈ (Dl.ev fr x).cells, d.sc = true ∧ d.bx = true) ∧ known P t = true
      · rw [if_pos hc] at hw
        obtain ⟨h1, h2, h3, h4, h5⟩ := hc
        have hcv := (h.evV x).cv (List.all_eq_true.2 fun d hd => (h4 d hd).1)
        obtain ⟨w', hr, hst⟩ := h.store (P := P) (b := b) (off := off) (by rw [h.rel.n]; exact h1) hcv.pl (fun d hd => by
          obtain ⟨d', hd', rfl⟩ := List.mem_map.1 hd; rw [sc_pl]; exact (h4 d' hd').1) (fun d hd => by
          obtain ⟨d', hd', rfl⟩ := List.mem_map.1 hd; rw [bx_pl]; exact (h4 d' hd').2) (by rw [List.length_map, h2]; exact h3)
        have hp := h.evV ad
        rw [hb] at hp
        have hae : a.eval ad = .pointer (some ⟨σ.ι b, off, none⟩) := by
          revert hp; generalize a.eval ad = v; intro hp; cases hp; rfl
        unfold Oper.wp
        have hrun : (execOp a.eval o).run P w = .ok .skip w' := by
          have hsz : ¬ ((a.eval x).cells.size ≠ P.cellsOf t) := by rw [hcv.1, h2]; simp
          simp only [execOp, ho, hae, Instr.storeAt, Instr.sureAddr, storeVar, Sem.run_bind, Sem.run_pure, Result.andThen_ok, rn_sizeOf (known_parts h5).2, hsz, if_false, hr, Sem.run_ite]
        rw [hrun]
        exact hK _ _ _ _ _ (hst.putNo (.any _) rfl o.dst hdd) (by rw [← hdst]; exact hw)
      · rw [if_neg hc] at hw; exact hw.elim
    · exact hw.elim
  case h_22 c ho =>
    split at hw
    · -- a function
      rename_i f hcal
      split at hw
      · rename_i g cs hg
        have hf := h.evV f
        rw [hg] at hf
        obtain ⟨cap, he, hcv⟩ : ∃ cap, a.eval f = .func (.func g) #[] cap ∧ CV σ w cap cs := by
          revert hf; generalize a.eval f = v; intro hf
          cases hf with
          | fn f c cs hl hv => exact ⟨c, rfl, hl, hv⟩
        obtain ⟨⟨fn, hfn, hbody, hname⟩, hcalls⟩ := hw
        have hargs := cv_map (σ := σ) (w := w) (xs := c.args.toList) (f := a.eval) (g := fun x => (Dl.ev fr x).pl) (fun x _ => (h.evV x).pl)
        have hce : c.args.map a.eval = (c.args.toList.map a.eval).toArray := by apply Array.toList_inj.1; simp
        have hcall := hcalls σ w (c.args.map a.eval ++ cap) h.rel (by rw [hce]; exact hargs.append hcv)
        have hrun : (execOp a.eval o).run P w = .ok (.enter g (c.args.map a.eval ++ cap)) w := by
          have hb : fn.body.isNone = false := by cases hx : fn.body <;> simp_all
          simp only [execOp, ho, resolve, hcal, he, Deferred.ofValue, Sem.run_bind, Sem.run_pure, Result.andThen_ok, invoke, callFunc, run_program, hfn, hname, hb, Bool.false_eq_true, if_false, Array.empty_append]
        unfold Oper.wp
        rw [hrun]
        refine hcall.mono fun e w' hres => ?_
        obtain ⟨v, r, H', σ', rfl, hk, hv, hown, hrel, hstep⟩ := hres
        exact hK _ _ _ _ _ (h.ret hstep hrel hv hown o.dst hdd) (by rw [← hdst]; exact hk)
      · exact hw.elim
    · -- len
      rename_i hcal
      split at hw
      · rename_i x t hx ht
        obtain ⟨d, h1, hk⟩ := optK_some' hw
        obtain ⟨r, hr, hv, hno⟩ := run_dLen (ty := o.type) (h.evV x) h1
        have hax : c.args = #[x] := by apply Array.toList_inj.1; simpa using hx
        have hat : c.argTypes = #[t] := by apply Array.toList_inj.1; simpa using ht
        refine val ?_ hv hno hk
        simp only [execOp, ho, resolve, hcal, Sem.run_bind, Sem.run_pure, Result.andThen_ok, invoke, builtin, hax, hat, List.map_toArray, List.map_cons, List.map_nil, hr]
      · exact hw.elim
    · rename_i hcal
      split at hw
      · rename_i x y hx
        split at hw
        · rename_i k p k' q hx1 hx2
          by_cases hkk : k = k'
          · rw [if_pos hkk] at hw
            subst hkk
            have hax : c.args = #[x, y] := by apply Array.toList_inj.1; simpa using hx
            have e1 := h.evV x
            have e2 := h.evV y
            rw [hx1] at e1; rw [hx2] at e2
            have e1' : a.eval x = .int k p := by revert e1; generalize a.eval x = v; intro e1; cases e1; rfl
            have e2' : a.eval y = .int k q := by revert e2; generalize a.eval y = v; intro e2; cases e2; rfl
            refine val (v := .int k (if q < p then q else p)) ?_ (.int _ _) rfl hw
            simp only [execOp, ho, resolve, hcal, Sem.run_bind, Sem.run_pure, Result.andThen_ok, invoke, builtin, hax, List.map_toArray, List.map_cons, List.map_nil, e1', e2', run_min_int2]
          · rw [if_neg hkk] at hw; exact hw.elim
        · exact hw.elim
      · exact hw.elim
    · rename_i hcal
      split at hw
      · rename_i x y hx
        split at hw
        · rename_i k p k' q hx1 hx2
          by_cases hkk : k = k'
          · rw [if_pos hkk] at hw
            subst hkk
            have hax : c.args = #[x, y] := by apply Array.toList_inj.1; simpa using hx
            have e1 := h.evV x
            have e2 := h.evV y
            rw [hx1] at e1; rw [hx2] at e2
            have e1' : a.eval x = .int k p := by revert e1; generalize a.eval x = v; intro e1; cases e1; rfl
            have e2' : a.eval y = .int k q := by revert e2; generalize a.eval y = v; intro e2; cases e2; rfl
            refine val (v := .int k (if q > p then q else p)) ?_ (.int _ _) rfl hw
            simp only [execOp, ho, resolve, hcal, Sem.run_bind, Sem.run_pure, Result.andThen_ok, invoke, builtin, hax, List.map_toArray, List.map_cons, List.map_nil, e1', e2', run_max_int2]
          · rw [if_neg hkk] at hw; exact hw.elim
        · exact hw.elim
      · exact hw.elim
    · -- append
      rename_i hcal
      split at hw
      · rename_i x y t t' hx ht
        split at hw
        · rename_i e he
          split at hw
          rotate_left
          · exact hw.elim
          rename_i ys hys
          have hax : c.args = #[x, y] := by apply Array.toList_inj.1; simpa using hx
          have hat : c.argTypes = #[t, t'] := by apply Array.toList_inj.1; simpa using ht
          have hsrc : (∀ x ∈ ys, x.cells.length = P.cellsOf e) → Src P σ w e (a.eval y) ys := elsOf_src h.rel (h.evV y) hys
          by_cases hdr : dstIn so.dst hn.refs = true
          · rw [if_pos hdr] at hw
            obtain ⟨⟨rfl, h5, h6, h8⟩, hw⟩ := hw
            have hov : OwnV P σ w0.heap.size w (a.eval x) (Dl.ev fr x) := by
              cases x with
              | tmp t => exact h.own t
              | _ => exact (noOwn_of_ev_const h (fun t e => by cases e)).1
            obtain ⟨v', w', hr, hg⟩ := h.appendR (ty := o.type) he (h.evV x) hov hsrc h5 h6 h8 hw
            refine give ?_ hg
            simp only [execOp, ho, resolve, hcal, Sem.run_bind, Sem.run_pure, Result.andThen_ok, invoke, builtin, hax, hat, List.map_toArray, List.map_cons, List.map_nil, hr]
          rw [if_neg hdr] at hw
          split at hw
          · rename_i o1 xs hx1
            by_cases hc : t' = t ∧ (o1 = .exact ∨ o1 = .tip e) ∧ (∀ x ∈ xs ++ ys, x.cells.length = P.cellsOf e) ∧ (∀ x ∈ ys, ∀ d ∈ x.cells, d.sc = true ∧ d.np1 = true) ∧ 0 < P.cellsOf e ∧ P.bytesOf e ≤ 4096 ∧ xs.length + ys.length ≤ 1073741824 ∧ zeroOk P e = true
            · rw [if_pos hc] at hw
              obtain ⟨h1, h2, h3, h4, h5, h6, h7, h8⟩ := hc
              subst h1
              obtain ⟨v', σ', w', hr, hres⟩ := h.append (ty := o.type) he x rfl hx1 (hsrc fun x hx => h3 x (by simp [hx])) h2 h3 h4 h5 h6 h7 h8
              have hrun : (execOp a.eval o).run P w = .ok (.value v') w' := by
                simp only [execOp, ho, resolve, hcal, Sem.run_bind, Sem.run_pure, Result.andThen_ok, invoke, builtin, hax, hat, List.map_toArray, List.map_cons, List.map_nil, hr]
              unfold Oper.wp
              rw [hrun]
              exact hK _ _ _ _ _ (hres.st.put hres.v hres.own o.dst hdd fun g hg t _ => hres.new g hg t) (by rw [← hdst]; exact hw)
            · rw [if_neg hc] at hw; exact hw.elim
          · exact hw.elim
        · exact hw.elim
      · exact hw.elim
    · -- clear
      rename_i hcal
      split at hw
      · rename_i x t hx ht
        have hax : c.args = #[x] := by apply Array.toList_inj.1; simpa using hx
        have hat : c.argTypes = #[t] := by apply Array.toList_inj.1; simpa using ht
        have hvx := h.evV x
        split at hw
        · rename_i o1 e hx1 he
          rw [hx1] at hvx
          have hvs : ∃ ad cap, a.eval x = .slice ad 0 cap := by
            revert hvx; generalize a.eval x = v; intro hvx
            cases hvx with
            | lnil ad cap => exact ⟨ad, cap, rfl⟩
            | lst b off cap E c ty fz _ _ len hl => subst hl; exact ⟨_, cap, rfl⟩
          obtain ⟨ad, cap, hvs⟩ := hvs
          have hr : (Builtin.clear_ #[t] o.type #[.slice ad 0 cap]).run P w = .ok (.tuple #[]) w := by
            cases ad <;> simp [Builtin.clear_, run_underlying (slE_some he)]
          refine val (v := .tuple #[]) ?_ (.tup _ _ rfl fun j hj => absurd hj (by simp)) rfl hw
          simp only [execOp, ho, resolve, hcal, Sem.run_bind, Sem.run_pure, Result.andThen_ok, invoke, builtin, hax, hat, List.map_toArray, List.map_cons, List.map_nil, hvs, hr]
        · rename_i b off len cap e' e hx1 he
          rw [hx1] at hvx
          by_cases hc : e' = P.cellsOf e ∧ b < H.length ∧ off + len * P.cellsOf e ≤ (hget H b).length ∧ (zeroOk P e = true ∧ zeroSc P e = true ∧ 0 < P.cellsOf e)
          · rw [if_pos hc] at hw
            obtain ⟨h1, h2, h3, h4, h5, h6⟩ := hc
            obtain ⟨w', hr, hs⟩ := clear_sound (ty := o.type) h he hvx h3 h4 h5 h6
            refine give (v := .tuple #[]) (w' := w') ?_ ⟨σ, .tup [], _, hw, hs, .tup _ _ rfl fun j hj => absurd hj (by simp), .of_noOwn rfl, fun _ => not_holds_of_noOwn rfl⟩
            simp only [execOp, ho, resolve, hcal, Sem.run_bind, Sem.run_pure, Result.andThen_ok, invoke, builtin, hax, hat, List.map_toArray, List.map_cons, List.map_nil, hr]
          · rw [if_neg hc] at hw; exact hw.elim
        · exact hw.elim
      · exact hw.elim
    · exact hw.elim
  case h_23 t len parts ho =>
    split at hw
    · rename_i e he
      by_cases hc : parts.toList.map (·.1) = List.range len ∧ (∀ x ∈ parts.toList.map (fun (p : Nat × Operand) => Dl.ev fr p.2), x.cells.length = P.cellsOf e ∧ ∀ d ∈ x.cells, d.sc = true ∧ d.np1 = true) ∧ 0 < P.cellsOf e ∧ len * P.cellsOf e ≤ 16777216 ∧ zeroOk P e = true
      · rw [if_pos hc] at hw
        obtain ⟨h1, h2, h3, h4, h5⟩ := hc
        have hlen : (parts.toList.map (fun (p : Nat × Operand) => Dl.ev fr p.2)).length = len := by
          have := congrArg List.length h1; simpa using this
        have hpp := parts_rel h parts.toList
        obtain ⟨c, hr, hcv⟩ := run_buildSlice (P := P) (σ := σ) (w := w) he (parts := parts.toList.map fun p => (p.1, a.eval p.2)) (ds := parts.toList.map (fun (p : Nat × Operand) => Dl.ev fr p.2))
          (by rw [hlen, ← h1]; simp) (fun i hi => by
            have := hpp.2 i hi
            have hi' : i < parts.toList.length := by simpa using hi
            have e2 : ((parts.toList.map fun p => (p.1, Dl.ev fr p.2)).getD i default).2 = (parts.toList.map (fun (p : Nat × Operand) => Dl.ev fr p.2)).getD i .any := by
              simp only [List.getD_eq_getElem?_getD, List.getElem?_map, List.getElem?_eq_getElem hi', Option.map_some, Option.getD_some]
            rw [← e2]; exact this) h2 h3 h5 (by rw [hlen]; exact h4)
        rw [hlen] at hr
        have hrun : (execOp a.eval o).run P w = .ok (.value (.slice (some ⟨w.heap.size, 0, none⟩) len len)) (w.alloc (.cells c e)) := by
          refine exec_v (s := Instr.buildSlice t len (parts.map fun p => (p.1, a.eval p.2))) (by simp only [execOp, ho]) ?_
          have : (parts.map fun p => (p.1, a.eval p.2)) = (parts.toList.map fun p => (p.1, a.eval p.2)).toArray := by
            apply Array.toList_inj.1; simp
          rw [this]; exact hr
        have hnp : ∀ x ∈ (parts.toList.map (fun (p : Nat × Operand) => Dl.ev fr p.2)).flatMap (fun d => d.cells.map D.pl), x.np1 = true := fun x hx => by
          obtain ⟨d, hd, hx⟩ := List.mem_flatMap.1 hx
          obtain ⟨y, hy, rfl⟩ := List.mem_map.1 hx
          rw [np1_pl]; exact ((h2 d hd).2 y hy).2
        split at hw
        · rename_i d hsd
          have hd' : d < nt := hdd d (by rw [← hdst]; exact hsd)
          rw [hdst] at hsd
          unfold Oper.wp
          rw [hrun]
          by_cases href : d ∈ hn.refs
          · rw [if_pos href] at hw
            have hst := h.box c e _ hcv (fun d hd => D.bx_np1 (hnp d hd))
            have hv : V (σ.box w.heap.size) (w.alloc (.cells c e)) (.slice (some ⟨w.heap.size, 0, none⟩) len len) (.ref H.length 0 len len (P.cellsOf e)) := by
              have hι : (σ.box w.heap.size).ι H.length = w.heap.size := by rw [← h.rel.n]; simp [Sig.box]
              have := V.ref (σ := σ.box w.heap.size) (w := w.alloc (.cells c e)) H.length 0 len len (P.cellsOf e) (by rw [← h.rel.n]; simp [Sig.box]) (Nat.le_refl _)
              rwa [hι] at this
            have := hst.putNo hv rfl o.dst hdd
            exact hK _ _ _ _ _ this (by rw [hsd]; exact hw)
          · rw [if_neg href] at hw
            have hst := h.world (step_lay σ w (.cells c e) (len * P.cellsOf e)) (rel_lay h.rel _ _)
            have hel : (parts.toList.map (fun (p : Nat × Operand) => (Dl.ev fr p.2).el)) = (parts.toList.map (fun (p : Nat × Operand) => Dl.ev fr p.2)).map D.el := by simp
            have hell : (parts.toList.map (fun (p : Nat × Operand) => (Dl.ev fr p.2).el)).length = len := by rw [← hlen]; simp
            rw [← flat_el, ← hel] at hcv hnp
            have hEl : ∀ x ∈ parts.toList.map (fun (p : Nat × Operand) => (Dl.ev fr p.2).el), x.cells.length = P.cellsOf e := fun x hx => by
              rw [hel] at hx
              obtain ⟨y, hy, rfl⟩ := List.mem_map.1 hx
              rw [el_cells, List.length_map]; exact (h2 y hy).1
            have hsz : c.size = len * P.cellsOf e := by rw [hcv.1, flat_length _ hEl, hell]
            have hv := V.of_block (σ := σ.lay w.heap.size (len * P.cellsOf e)) (w := w.alloc (.cells c e)) (g := w.heap.size) (cap := len) .exact (heap_alloc_new w _) hEl
              (fun x hx d hd => hnp d (List.mem_flatMap.2 ⟨x, hx, hd⟩)) h3 (by simp [Sig.lay, hell]) (by rw [hell, hsz]; exact Nat.le_refl _) (by rw [hell]; exact Nat.le_refl _)
              (fun j hj => (hcv.2 j (by rw [flat_length _ hEl]; exact hj)).mono ((step_lay σ w (.cells c e) _).ext h.rel))
            rw [hell] at hv
            have := hst.put hv ⟨some ⟨w.heap.size, 0, none⟩, by rw [hell]⟩ o.dst hdd (fun g hg => by obtain ⟨e', ys, _, _, _, hh, _⟩ := hg; simp at hh)
            exact hK _ _ _ _ _ this (by rw [hsd]; exact hw)
        · exact hw.elim
      · rw [if_neg hc] at hw; exact hw.elim
    · exact hw.elim
  case h_24 t l c ho =>
    split at hw
    · rename_i d hsd
      have hd' : d < nt := hdd d (by rw [← hdst]; exact hsd)
      rw [hdst] at hsd
      split at hw
      · rename_i e n m he hl hcp
        by_cases hc : 0 ≤ n ∧ n ≤ m ∧ m ≤ 1073741824 ∧ 0 < P.cellsOf e ∧ P.bytesOf e ≤ 4096 ∧ zeroOk P e = true
        · rw [if_pos hc] at hw
          obtain ⟨h1, h2, h3, h4, h5, h6⟩ := hc
          split at hw
          rotate_left
          · exact hw.elim
          rename_i z hz
          by_cases hec : (elD P e z).cells.length ≠ P.cellsOf e
          · rw [if_pos hec] at hw; exact hw.elim
          rw [if_neg hec] at hw
          have hec' : (elD P e z).cells.length = P.cellsOf e := by simpa using hec
          obtain ⟨i, zv, hi, hzv, hzrun, hzc⟩ := zeroD_run (σ := σ) (w := w) hz
          have hzlen : z.length = P.cellsOf e := by
            unfold zeroOk at h6; rw [hz] at h6; simpa using h6
          have hcell : P.cellsOf e = i.size := by simp [Program.cellsOf, hi]
          have hbyt : P.bytesOf e = i.bytes := by simp [Program.bytesOf, hi]
          have e1 := h.evV l
          have e2 := h.evV c
          rw [hl] at e1; rw [hcp] at e2
          have e1' : a.eval l = .int .i64 n := by revert e1; generalize a.eval l = v; intro e1; cases e1; rfl
          have e2' : a.eval c = .int .i64 m := by revert e2; generalize a.eval c = v; intro e2; cases e2; rfl
          have hb48 : (i.bytes : Int) * m ≤ 281474976710656 := by
            have : (i.bytes : Int) * m ≤ 4096 * 1073741824 := by
              apply Int.mul_le_mul
              · rw [← hbyt]; exact Int.ofNat_le.2 h5
              · exact h3
              · omega
              · omega
            omega
          have hmk := run_make (P := P) w t e i zv (slE_some he) hi hzv .i64 .i64 n m h1 h2 hb48 (by omega)
          have hrun : (execOp a.eval o).run P w = .ok (.value (.slice (some ⟨w.heap.size, 0, none⟩) n.toNat m.toNat)) (w.alloc (.cells (madeCells zv.cells (m.toNat * i.size)) e)) :=
            exec_v (s := Instr.makeSlice t (a.eval l) (a.eval c)) (by simp only [execOp, ho]) (by rw [e1', e2']; exact hmk)
          rw [← hcell] at hrun
          have hcv := cv_made (σ := σ) (w := w) hzc hzlen h4 m.toNat
          unfold Oper.wp
          rw [hrun]
          by_cases href : d ∈ hn.refs
          · rw [if_pos href] at hw
            have hst := h.box (madeCells zv.cells (m.toNat * P.cellsOf e)) e _ hcv (fun x hx => by
                obtain ⟨q, hq, hx⟩ := List.mem_flatten.1 hx
                rw [List.eq_of_mem_replicate hq] at hx
                exact D.bx_np1 (zeroD_np1 hz x hx))
            have hv := V_ref_box h (w.alloc (.cells (madeCells zv.cells (m.toNat * P.cellsOf e)) e)) n.toNat m.toNat (P.cellsOf e) (by omega)
            have := hst.putNo hv rfl o.dst hdd
            exact hK _ _ _ _ _ this (by rw [hsd]; exact hw)
          · rw [if_neg href] at hw
            have hst := h.world (step_lay σ w (.cells (madeCells zv.cells (m.toNat * P.cellsOf e)) e) (n.toNat * P.cellsOf e)) (rel_lay h.rel _ _)
            have hz1 : ∀ x ∈ z, x.cells = [x] := fun x hx => by
              have := zeroD_np1 hz x hx
              cases x <;> first | rfl | simp [D.np1] at this
            have helc : (elD P e z).cells = z := by
              unfold elD at hec' ⊢
              by_cases hA : aggB P e = true
              · rw [if_pos hA]; rfl
              · rw [if_neg hA] at hec' ⊢
                have hz0 : 0 < z.length := by omega
                rw [hz1 _ (getD_mem hz0)] at hec' ⊢
                have h1z : z.length = 1 := by rw [hzlen, ← hec']; rfl
                match z, h1z with
                | [x], _ => rfl
            have hEl : ∀ x ∈ List.replicate n.toNat (elD P e z), x.cells.length = P.cellsOf e := fun x hx => by
              rw [List.eq_of_mem_replicate hx]; exact hec'
            have hfl : (List.replicate n.toNat (elD P e z)).flatMap D.cells = (List.replicate n.toNat z).flatten := by
              simp [List.flatMap, helc]
            have hk : n.toNat * P.cellsOf e ≤ m.toNat * P.cellsOf e := Nat.mul_le_mul_right _ (by omega)
            have hcv' := cv_made (σ := σ) (w := w) hzc hzlen h4 m.toNat
            have hpre : ∀ j, j < n.toNat * P.cellsOf e → (List.replicate m.toNat z).flatten.getD j .any = (List.replicate n.toNat z).flatten.getD j .any := fun j hj => by
              have : List.replicate m.toNat z = List.replicate n.toNat z ++ List.replicate (m.toNat - n.toNat) z := by
                rw [List.replicate_append_replicate]; congr 1; omega
              rw [this, List.flatten_append, getD_append_left (by simp [hzlen]; exact hj)]
            have hv := V.of_block (σ := σ.lay w.heap.size (n.toNat * P.cellsOf e)) (w := w.alloc (.cells (madeCells zv.cells (m.toNat * P.cellsOf e)) e)) (g := w.heap.size) (cap := m.toNat) (xs := List.replicate n.toNat (elD P e z)) (.tip e) (heap_alloc_new w _) hEl
              (fun x hx d hd => by rw [List.eq_of_mem_replicate hx, helc] at hd; exact zeroD_np1 hz d hd) h4 (by simp [Sig.lay]) (by rw [size_madeCells]; simpa using hk) (by simp; omega)
              (fun j hj => by
                rw [List.length_replicate] at hj
                rw [hfl, ← hpre j hj]
                exact (hcv'.2 j (by simp [hzlen]; omega)).mono ((step_lay σ w (.cells (madeCells zv.cells (m.toNat * P.cellsOf e)) e) _).ext h.rel))
            rw [List.length_replicate] at hv
            have hown : OwnV P (σ.lay w.heap.size (n.toNat * P.cellsOf e)) w0.heap.size (w.alloc (.cells (madeCells zv.cells (m.toNat * P.cellsOf e)) e)) (.slice (some ⟨w.heap.size, 0, none⟩) n.toNat m.toNat) (.lst (.tip e) (List.replicate n.toNat (elD P e z))) := by
              refine .inr ⟨w.heap.size, m.toNat, _, by rw [List.length_replicate], h.step.size, heap_alloc_new w _, by rw [List.length_replicate]; omega, by unfold maxLen; omega, size_madeCells _ _, by rw [List.length_replicate]; simp [Sig.lay], fun i hi => ?_, hEl⟩
              have := h.rel.lt i hi; simp only [Sig.lay]; omega
            have := hst.put hv hown o.dst hdd (fun g hg t _ hh => by
              obtain ⟨e', ys, off, len, cap, _, hv', _⟩ := hg
              cases hv'
              obtain ⟨e2, ys2, off2, len2, cap2, hf, hs, hlt2⟩ := hh
              have := h.own t
              rw [hf] at this
              rcases this with ⟨a', ha'⟩ | ⟨g2, cap3, cur2, hv2, _, hg2, _⟩
              · rw [ha'] at hs; cases hs; omega
              · rw [hv2] at hs; cases hs
                have := lt_of_get hg2; omega)
            exact hK _ _ _ _ _ this (by rw [hsd]; exact hw)
        · rw [if_neg hc] at hw; exact hw.elim
      · exact hw.elim
    · exact hw.elim
  case h_25 => exact hw.elim

end
end Dl
