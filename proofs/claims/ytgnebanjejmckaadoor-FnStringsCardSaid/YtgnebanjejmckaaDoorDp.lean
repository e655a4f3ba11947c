/- Statements whose order is open: one order that serves for all; the code with such orders chosen; how a function is told. -/
import Derived.Test.YtgnebanjejmckaaDoorDo
namespace Dl
open Go

/-- Does it only compute a value out of slots and boxes? -/
def quietB (hn : Hints) (o : SO) : Bool :=
  match o.op with
  | .move (.tmp _) => match o.dst with
    | some d => !(hn.trs.contains d)
    | none => false
  | .assign (.tmp _) => match o.dst with
    | some d => hn.cps.contains d
    | none => false
  | .convert .. => !dstIn o.dst hn.refs
  | .move _ | .assign _ | .pick .. | .binOp .. | .unOp .. | .field .. | .index .. | .extract .. | .indexAddr .. | .fieldAddr .. | .load .. | .nilCheck _ | .slice .. | .build .. => true
  | .call { callee := .builtin .len, .. } => true
  | _ => false

def hreadB (o : SO) : Bool :=
  match o.op with
  | .load .. => true
  | _ => false

/-- The slots that it looks at. -/
def SO.reads (o : SO) : List Nat :=
  (o.op.operands.toList.filterMap fun | .tmp t => some t | _ => none) ++ match o.guard with
    | some (t, _) => [t]
    | none => []

def opVal (P : Program) (o : Op) (ev : Operand → D) (H : Heap) : Option D :=
  match o with
  | .move (.tmp s) => some (ev (.tmp s)).dis
  | .move x => some (ev x)
  | .assign (.tmp s) => some (ev (.tmp s)).dis
  | .assign x => some (ev x)
  | .pick c a b => match ev c with
    | .bool true => some (ev a).dis
    | .bool false => some (ev b).dis
    | _ => none
  | .binOp op t x y _ => dBinT P (Region.isConst y) op t (ev x) (ev y)
  | .unOp op _ x => dUn op (ev x)
  | .convert s t x => dConv P s t (ev x)
  | .field t x f => dField P t (ev x) f
  | .index t x i => dIndex P t (ev x) (ev i)
  | .extract x i => dExtract (ev x) i
  | .indexAddr t x i => dIndexAddr P t (ev x) (ev i)
  | .fieldAddr t x f => dFieldAddr P t (ev x) f
  | .load t x => dLoad P H t (ev x)
  | .nilCheck x => match ev x with
    | .ptr b off => some (.ptr b off)
    | .rptr cs => some (.rptr cs)
    | .fn f cs => some (.fn f cs)
    | _ => none
  | .slice t x lo hi mx => dSlice P t (ev x) (lo.map ev) (hi.map ev) (mx.map ev)
  | .build t parts => dBuild P t (parts.toList.map fun (i, x) => (i, ev x))
  | .call c => match c.args.toList, c.argTypes.toList with
    | [x], [t] => dLen P t (ev x)
    | _, _ => none
  | _ => none

def soVal (P : Program) (o : SO) (fr : Fr) (H : Heap) : Option D :=
  match o.guard with
  | none => opVal P o.op (ev fr) H
  | some (t, b) => match gB (fr t) with
    | some c => if c = some b then opVal P o.op (ev fr) H else some (.tup [])
    | none => none

section
variable {P : Program} {hn : Hints} {C : Callee} {fr : Fr} {H : Heap}

theorem optK_iff {o : Option D} {k : D → Prop} : optK o k ↔ ∃ d, o = some d ∧ k d := by
  cases o <;> simp [optK]

theorem opWp_quiet {o : SO} (hq : quietB hn o = true) (K : Fr → Heap → Prop) : opWp P hn C o fr H K ↔ ∃ d, opVal P o.op (ev fr) H = some d ∧ K (fr.put o.dst d) H := by
  obtain ⟨dst, op, g⟩ := o
  cases op with
  | move x =>
    cases x with
    | tmp s =>
      cases dst with
      | none => simp [quietB] at hq
      | some d =>
        simp only [quietB, Bool.not_eq_true', List.contains_eq_mem, decide_eq_false_iff_not] at hq
        simp only [opWp, opVal, hq, false_and, if_false, Option.some.injEq, exists_eq_left', Fr.put_some, ev]
    | _ => simp only [opWp, opVal, Option.some.injEq, exists_eq_left']
  | assign x =>
    cases x with
    | tmp s =>
      cases dst with
      | none => simp [quietB] at hq
      | some d =>
        simp only [quietB, List.contains_eq_mem, decide_eq_true_eq] at hq
        simp only [opWp, opVal, hq, if_true, Option.some.injEq, exists_eq_left', Fr.put_some, ev]
    | _ => simp only [opWp, opVal, Option.some.injEq, exists_eq_left']
  | pick c a b =>
    simp only [opWp, opVal]
    cases ev fr c with
    | bool b => cases b <;> simp
    | _ => simp
  | nilCheck x =>
    simp only [opWp, opVal]
    cases ev fr x <;> simp
  | call c =>
    obtain ⟨cal, args, at_⟩ := c
    cases cal with
    | builtin b =>
      cases b <;> simp only [quietB, Bool.false_eq_true] at hq
      simp only [opWp, opVal]
      obtain ⟨l⟩ := args
      obtain ⟨l2⟩ := at_
      match l, l2 with
      | [x], [t] => simp [optK_iff]
      | [], _ => simp
      | [x], [] => simp
      | [x], _ :: _ :: _ => simp
      | _ :: _ :: _, _ => simp
    | _ => simp only [quietB, Bool.false_eq_true] at hq
  | binOp => simp only [opWp, opVal, optK_iff]
  | unOp => simp only [opWp, opVal, optK_iff]
  | convert =>
    have hq' : ¬ (dstIn dst hn.refs = true) := by simpa [quietB] using hq
    simp only [opWp, opVal, optK_iff, hq', Bool.false_eq_true, if_false]
  | field => simp only [opWp, opVal, optK_iff]
  | index => simp only [opWp, opVal, optK_iff]
  | extract => simp only [opWp, opVal, optK_iff]
  | indexAddr => simp only [opWp, opVal, optK_iff]
  | fieldAddr => simp only [opWp, opVal, optK_iff]
  | load => simp only [opWp, opVal, optK_iff]
  | slice => simp only [opWp, opVal, optK_iff]
  | build => simp only [opWp, opVal, optK_iff]
  | _ => simp only [quietB, Bool.false_eq_true] at hq

theorem soWp_quiet {o : SO} (hq : quietB hn o = true) (K : Fr → Heap → Prop) : soWp P hn C o fr H K ↔ ∃ d, soVal P o fr H = some d ∧ K (fr.put o.dst d) H := by
  unfold soWp soVal
  cases o.guard with
  | none => exact opWp_quiet hq K
  | some tb =>
    obtain ⟨t, b⟩ := tb
    simp only
    cases gB (fr t) with
    | some c =>
      simp only
      by_cases hc : c = some b
      · rw [if_pos hc, if_pos hc]; exact opWp_quiet hq K
      · rw [if_neg hc, if_neg hc]; simp
    | none => simp

theorem opVal_congr {o : SO} (hq : quietB hn o = true) {ev ev' : Operand → D} (h : ∀ x ∈ o.op.operands, ev x = ev' x) {H' : Heap} (hH : hreadB o = false ∨ H = H') : opVal P o.op ev H = opVal P o.op ev' H' := by
  obtain ⟨dst, op, g⟩ := o
  cases op <;> simp only [Op.operands] at h
  case move x => cases x <;> simp only [opVal, h _ (List.mem_toArray.2 (List.mem_singleton.2 rfl))]
  case assign x => cases x <;> simp only [opVal, h _ (List.mem_toArray.2 (List.mem_singleton.2 rfl))]
  case load t x =>
    rcases hH with hH | rfl
    · simp [hreadB] at hH
    · simp only [opVal, h x (by simp)]
  case build t parts =>
    simp only [opVal]
    congr 1
    refine List.map_congr_left fun p hp => ?_
    obtain ⟨i, x⟩ := p
    simp only
    rw [h x (by simp only [List.mem_toArray, List.mem_map]; exact ⟨(i, x), hp, rfl⟩)]
  case slice t x lo hi mx =>
    simp only [opVal]
    cases lo <;> cases hi <;> cases mx <;> simp_all
  case call c =>
    obtain ⟨cal, args, at_⟩ := c
    simp only [opVal]
    obtain ⟨l⟩ := args
    obtain ⟨l2⟩ := at_
    match l, l2 with
    | [x], [t] => 
      have := h x (by simp only [Call.operands]; exact Array.mem_append_right _ (by simp))
      simp only [this]
    | [], _ => rfl
    | [x], [] => rfl
    | [x], _ :: _ :: _ => rfl
    | _ :: _ :: _, _ => rfl
  all_goals first
    | (simp only [quietB, Bool.false_eq_true] at hq; done)
    | (simp only [opVal]; simp_all)

theorem ev_congr {fr fr' : Fr} {o : SO} (h : ∀ t ∈ o.reads, fr t = fr' t) : ∀ x ∈ o.op.operands, ev fr x = ev fr' x := fun x hx => by
  cases x with
  | tmp t => exact h t (by unfold SO.reads; exact List.mem_append_left _ (List.mem_filterMap.2 ⟨.tmp t, by simpa using hx, rfl⟩))
  | _ => rfl

theorem soVal_congr {o : SO} (hq : quietB hn o = true) {fr fr' : Fr} (h : ∀ t ∈ o.reads, fr t = fr' t) {H' : Heap} (hH : hreadB o = false ∨ H = H') : soVal P o fr H = soVal P o fr' H' := by
  have e1 := opVal_congr (P := P) hq (ev_congr h) hH
  unfold soVal
  cases hg : o.guard with
  | none => exact e1
  | some tb =>
    obtain ⟨t, b⟩ := tb
    have : fr t = fr' t := h t (by unfold SO.reads; rw [hg]; simp)
    simp only [this, e1]

theorem set_comm {fr : Fr} {s t : Nat} {d e : D} (h : s ≠ t) : (fr.set t d).set s e = (fr.set s e).set t d := by
  funext u
  simp only [Fr.set_app]
  by_cases h1 : u = s
  · subst h1; simp [h]
  · by_cases h2 : u = t
    · subst h2; simp [h1]
    · simp [h1, h2]

theorem opWp_put {o : SO} {t : Nat} {d : D} (hr : t ∉ o.reads) (hm : t ∉ o.mods) (K : Fr → Heap → Prop) (h : opWp P hn C o (fr.set t d) H K) : opWp P hn C o fr H fun fr' H' => K (fr'.set t d) H' := by
  have he : ∀ x ∈ o.op.operands, ev (fr.set t d) x = ev fr x := ev_congr fun u hu => set_out fun e => hr (e ▸ hu)
  have hp : ∀ v, (fr.set t d).put o.dst v = (fr.put o.dst v).set t d := fun v => by
    cases hd : o.dst with
    | none => rfl
    | some s => exact set_comm fun e => hm (by unfold SO.mods; rw [hd, e]; simp)
  have hs : ∀ s, o.dst = some s → ∀ v, (fr.set t d).set s v = (fr.set s v).set t d := fun s hd v => by
    have := hp v; rw [hd] at this; exact this
  by_cases hq : quietB hn o = true
  · rw [opWp_quiet hq] at h ⊢
    obtain ⟨v, h1, h2⟩ := h
    rw [opVal_congr hq he (.inr rfl)] at h1
    exact ⟨v, h1, by rw [← hp]; exact h2⟩
  obtain ⟨dst, op, g⟩ := o
  simp only at he hp hs
  cases op <;> simp only [Op.operands] at he
  case move x =>
    cases x with
    | tmp s =>
      cases dst with
      | none => exact h
      | some e =>
        have hst : s ≠ t := fun hst => hm (by unfold SO.mods; simp [hst])
        have h1 : (fr.set t d) s = fr s := set_out hst
        simp only [opWp, h1, set_comm hst, hs e rfl] at h ⊢
        by_cases hc : e ∈ hn.trs ∧ e ≠ s
        · rw [if_pos hc] at h ⊢
          have het : e ≠ t := fun het => hm (by unfold SO.mods; simp [het])
          rw [set_comm het] at h
          exact h
        · rw [if_neg hc] at h ⊢; exact h
    | const v => simp only [opWp, hp] at h ⊢; exact h
    | global v => simp only [opWp, hp] at h ⊢; exact h
    | func v => simp only [opWp, hp] at h ⊢; exact h
  case assign x =>
    cases x with
    | tmp s =>
      cases dst with
      | none => exact h
      | some e =>
        have hst : s ≠ t := fun hst => hm (by unfold SO.mods; simp [hst])
        have het : e ≠ t := fun het => hm (by unfold SO.mods; simp [het])
        have h1 : (fr.set t d) s = fr s := set_out hst
        simp only [opWp, h1, set_comm hst, set_comm het] at h ⊢
        by_cases hc : e ∈ hn.cps
        · rw [if_pos hc] at h ⊢; exact h
        · rw [if_neg hc] at h ⊢
          cases hfs : fr s with
          | lst o xs =>
            rw [hfs] at h
            cases o with
            | tip ty =>
              simp only at h ⊢
              by_cases hc : e ≠ s
              · rw [if_pos hc] at h ⊢; exact h
              · rw [if_neg hc] at h; exact h.elim
            | _ => exact h
          | _ => rw [hfs] at h; exact h
    | const v => simp only [opWp, hp] at h ⊢; exact h
    | global v => simp only [opWp, hp] at h ⊢; exact h
    | func v => simp only [opWp, hp] at h ⊢; exact h
  case makeFunc f first caps =>
    cases f with
    | func g =>
      simp only [opWp] at h ⊢
      have : caps.toList.map (ev (fr.set t d)) = caps.toList.map (ev fr) := List.map_congr_left fun x hx => he x (Array.mem_append_right _ (Array.mem_toList_iff.1 hx))
      simp only [this, hp] at h
      exact h
    | _ => exact h.elim
  case box ty x => simp only [opWp, he x (by simp), hp] at h ⊢; exact h
  case convert s1 s2 x =>
    have hq' : dstIn dst hn.refs = true := by simpa [quietB] using hq
    simp only [opWp, hq', if_true, he x (by simp), hp] at h ⊢; exact h
  case alloc ty => simp only [opWp, hp] at h ⊢; exact h
  case store ty a x => simp only [opWp, he x (by simp), he a (by simp), hp] at h ⊢; exact h
  case call c =>
    obtain ⟨cal, args, at_⟩ := c
    have hargs : ∀ x ∈ args.toList, ev (fr.set t d) x = ev fr x := fun x hx => he x (by simp only [Call.operands]; exact Array.mem_append_right _ (Array.mem_toList_iff.1 hx))
    cases cal with
    | value f =>
      have h1 := he f (by simp [Call.operands])
      have h2 : args.toList.map (fun x => (ev (fr.set t d) x).pl) = args.toList.map (fun x => (ev fr x).pl) := List.map_congr_left fun x hx => by rw [hargs x hx]
      simp only [opWp, h1, h2, hp] at h ⊢
      exact h
    | invoke r m => exact h.elim
    | builtin b =>
      obtain ⟨l⟩ := args
      obtain ⟨l2⟩ := at_
      cases b <;> try exact h.elim
      case len =>
        match l, l2 with
        | [x], [ty] => simp only [opWp, hargs x (by simp), hp] at h ⊢; exact h
        | [], _ => exact h.elim
        | [x], [] => exact h.elim
        | [x], _ :: _ :: _ => exact h.elim
        | _ :: _ :: _, _ => exact h.elim
      case min =>
        match l with
        | [x, y] => simp only [opWp, hargs x (by simp), hargs y (by simp), hp] at h ⊢; exact h
        | [] => exact h.elim
        | [x] => exact h.elim
        | _ :: _ :: _ :: _ => exact h.elim
      case max =>
        match l with
        | [x, y] => simp only [opWp, hargs x (by simp), hargs y (by simp), hp] at h ⊢; exact h
        | [] => exact h.elim
        | [x] => exact h.elim
        | _ :: _ :: _ :: _ => exact h.elim
      case append =>
        match l, l2 with
        | [x, y], [ty, ty'] =>
          have hdr : ∀ v, (dropOp (fr.set t d) x).put dst v = ((dropOp fr x).put dst v).set t d := fun v => by
            cases x with
            | tmp s =>
              have hst : s ≠ t := fun hst => hm (by unfold SO.mods; simp [hst])
              simp only [dropOp, set_out hst, set_comm hst]
              cases dst with
              | none => rfl
              | some e => exact set_comm fun e' => hm (by unfold SO.mods; simp [e'])
            | _ => exact hp v
          simp only [opWp, hargs x (by simp), hargs y (by simp), hdr, hp] at h ⊢
          exact h
        | [], _ => exact h.elim
        | [x], _ => exact h.elim
        | [x, y], [] => exact h.elim
        | [x, y], [_] => exact h.elim
        | [x, y], _ :: _ :: _ :: _ => exact h.elim
        | _ :: _ :: _ :: _, _ => exact h.elim
      case clear =>
        match l, l2 with
        | [x], [ty] => simp only [opWp, hargs x (by simp), hp] at h ⊢; exact h
        | [], _ => exact h.elim
        | [x], [] => exact h.elim
        | [x], _ :: _ :: _ => exact h.elim
        | _ :: _ :: _, _ => exact h.elim
  case buildSlice ty len parts =>
    have h2 : parts.toList.map (fun (p : Nat × Operand) => ev (fr.set t d) p.2) = parts.toList.map (fun (p : Nat × Operand) => ev fr p.2) := List.map_congr_left fun p hpm => he p.2 (by simp only [List.mem_toArray, List.mem_map]; exact ⟨p, hpm, rfl⟩)
    have h3 : parts.toList.map (fun (p : Nat × Operand) => (ev (fr.set t d) p.2).el) = parts.toList.map (fun (p : Nat × Operand) => (ev fr p.2).el) := List.map_congr_left fun p hpm => by rw [he p.2 (by simp only [List.mem_toArray, List.mem_map]; exact ⟨p, hpm, rfl⟩)]
    cases dst with
    | none => simp only [opWp, h2] at h ⊢; exact h
    | some e => simp only [opWp, h2, h3, hs e rfl] at h ⊢; exact h
  case makeSlice ty l c =>
    cases dst with
    | none => exact h.elim
    | some e => simp only [opWp, he l (by simp), he c (by simp), hs e rfl] at h ⊢; exact h
  all_goals first
    | exact absurd rfl hq
    | exact h.elim

theorem soWp_put {o : SO} {t : Nat} {d : D} (hr : t ∉ o.reads) (hm : t ∉ o.mods) (K : Fr → Heap → Prop) (h : soWp P hn C o (fr.set t d) H K) : soWp P hn C o fr H fun fr' H' => K (fr'.set t d) H' := by
  unfold soWp at h ⊢
  cases hg : o.guard with
  | none => rw [hg] at h; exact opWp_put hr hm K h
  | some tb =>
    obtain ⟨u, b⟩ := tb
    rw [hg] at h
    have hu : u ≠ t := fun e => hr (by unfold SO.reads; rw [hg, e]; simp)
    simp only [set_out hu] at h ⊢
    cases hf : gB (fr u) with
    | some c =>
      rw [hf] at h
      simp only at h ⊢
      by_cases hc : c = some b
      · rw [if_pos hc] at h ⊢; exact opWp_put hr hm K h
      · rw [if_neg hc] at h ⊢
        cases hd : o.dst with
        | none => rw [hd] at h; exact h
        | some s =>
          rw [hd] at h
          have : (fr.set t d).put (some s) (.tup []) = (fr.put (some s) (.tup [])).set t d := set_comm fun e => hm (by unfold SO.mods; rw [hd, e]; simp)
          rw [this] at h; exact h
    | none => rw [hf] at h; exact h

end
end Dl
