/- An order that serves for all; how a function is told; lists of simp rules' lemmas. -/
import Derived.Test.YtgnebanjejmckaaDoorDp
namespace Dl
open Go

/-- Neither looks at what the other writes; no read of a box beside what may write one. -/
def callB (o : SO) : Bool :=
  match o.op with
  | .call { callee := .value _, .. } => true
  | _ => false

/-- It may lay new boxes, and leaves those that are there. -/
def layB (o : SO) : Bool :=
  match o.op with
  | .convert .. => true
  | .box .. => true
  | .alloc _ => true
  | _ => false

def apartB (g : Bool) (hn : Hints) (x y : SO) : Bool :=
  -- x is quiet: it writes its own slot alone
  x.dst.toList.all (fun t => !(y.reads.contains t) && !(y.mods.contains t)) && ((if quietB hn y then y.dst.toList else y.mods).all fun t => !(x.reads.contains t)) &&
  (!(hreadB x) || quietB hn y || (g && callB y) || layB y)

/-- It may come up first. -/
def firstB (g : Bool) (hn : Hints) (ops : List (SO × List Nat)) (listed : List Bool) (i : Nat) : Bool :=
  match ops[i]? with
  | none => false
  | some x => quietB hn x.1 && (List.range ops.length).all fun j => j == i || listed.getD j true || match ops[j]? with
    | none => true
    | some y => y.2.contains i || apartB g hn x.1 y.1

def orderOk (g : Bool) (hn : Hints) (ops : List (SO × List Nat)) : List Bool → List Nat → Bool
  | listed, [] => (dReady ops listed).isEmpty
  | listed, i :: rest => (dReady ops listed).contains i && (firstB g hn ops listed i || dReady ops listed == [i]) && orderOk g hn ops (listed.set i true) rest

def autoOrder (g : Bool) (hn : Hints) (ops : List (SO × List Nat)) : Nat → List Bool → List Nat
  | 0, _ => []
  | n + 1, listed => match dReady ops listed with
    | [] => []
    | [i] => i :: autoOrder g hn ops n (listed.set i true)
    | r => match r.find? (firstB g hn ops listed) with
      | some i => i :: autoOrder g hn ops n (listed.set i true)
      | none => []

section
variable {P : Program} {hn : Hints} {C : Callee} {fr : Fr} {H : Heap}

theorem quiet_only {o : SO} (hq : quietB hn o = true) (K : Fr → Heap → Prop) (h : soWp P hn C o fr H K) : soWp P hn C o fr H fun fr' H' => K fr' H' ∧ H' = H ∧ ∀ t, o.dst ≠ some t → fr' t = fr t := by
  rw [soWp_quiet hq] at h ⊢
  obtain ⟨d, h1, h2⟩ := h
  exact ⟨d, h1, h2, rfl, fun t ht => put_out (by cases hd : o.dst <;> simp_all; exact fun e => ht e.symm)⟩

def GrowC (C : Callee) : Prop := ∀ f ds H K, C f ds H K → C f ds H fun r H' => K r H' ∧ H' = H

theorem soWp_grow (hG : GrowC C) {o : SO} (hc : callB o = true) {K : Fr → Heap → Prop} (h : soWp P hn C o fr H K) : soWp P hn C o fr H fun fr' H' => K fr' H' ∧ H' = H := by
  have hop : opWp P hn C o fr H K → opWp P hn C o fr H fun fr' H' => K fr' H' ∧ H' = H := fun h => by
    obtain ⟨dst, op, g⟩ := o
    cases op with
    | call c =>
      obtain ⟨cal, args, at_⟩ := c
      cases cal with
      | value f =>
        simp only [opWp] at h ⊢
        split at h
        · exact hG _ _ _ _ h
        · exact h.elim
      | _ => simp [callB] at hc
    | _ => simp [callB] at hc
  unfold soWp at h ⊢
  split at h
  · exact hop h
  · split at h
    · split at h
      · rename_i hc; rw [if_pos hc]; exact hop h
      · rename_i hc; rw [if_neg hc]; exact ⟨h, rfl⟩
    · exact h.elim

theorem soWp_lay {o : SO} (hc : layB o = true) {K : Fr → Heap → Prop} (h : soWp P hn C o fr H K) : soWp P hn C o fr H fun fr' H' => K fr' H' ∧ ∃ l, H' = H ++ l := by
  have h0 : ∃ l, H = H ++ l := ⟨[], by simp⟩
  have hop : opWp P hn C o fr H K → opWp P hn C o fr H fun fr' H' => K fr' H' ∧ ∃ l, H' = H ++ l := fun h => by
    obtain ⟨dst, op, g⟩ := o
    cases op with
    | convert s t x =>
      simp only [opWp] at h ⊢
      split at h
      · rename_i hd
        rw [if_pos hd]
        unfold cvR at h ⊢
        split at h
        · exact ⟨h.1, fun cap h1 h2 => ⟨h.2 cap h1 h2, _, rfl⟩⟩
        · exact ⟨h.1, optK_mono h.2 fun d hk => ⟨hk, h0⟩⟩
        · exact h.elim
      · rename_i hd
        rw [if_neg hd]
        exact optK_mono h fun d hk => ⟨hk, h0⟩
    | box t x =>
      simp only [opWp] at h ⊢
      split at h
      · rename_i hd; rw [if_pos hd]; exact ⟨h, _, rfl⟩
      · exact h.elim
    | alloc t =>
      simp only [opWp] at h ⊢
      split at h
      · exact ⟨h, _, rfl⟩
      · exact h.elim
    | _ => simp [layB] at hc
  unfold soWp at h ⊢
  split at h
  · exact hop h
  · split at h
    · split at h
      · rename_i hc; rw [if_pos hc]; exact hop h
      · rename_i hc; rw [if_neg hc]; exact ⟨h, h0⟩
    · exact h.elim

theorem dLoad_app {t : TypeId} {x : D} {d : D} (h : dLoad P H t x = some d) (l : List (List D)) : dLoad P (H ++ l) t x = some d := by
  unfold dLoad at h ⊢
  cases x with
  | rptr cs => exact h
  | ptr b off =>
    simp only at h ⊢
    by_cases hb : b < H.length ∧ off ≤ (hget H b).length
    · rw [if_pos hb] at h
      have e : hget (H ++ l) b = hget H b := hget_left H l b hb.1
      rw [e, if_pos ⟨by rw [List.length_append]; omega, hb.2⟩]; exact h
    · rw [if_neg hb] at h; cases h
  | _ => cases h

theorem soVal_app {o : SO} (hq : quietB hn o = true) {d : D} (h : soVal P o fr H = some d) (l : List (List D)) : soVal P o fr (H ++ l) = some d := by
  by_cases hr : hreadB o = false
  · rw [← soVal_congr (P := P) (H := H) hq (fun t _ => rfl) (.inl hr)]; exact h
  · obtain ⟨dst, op, g⟩ := o
    cases op <;> try (exact absurd rfl hr)
    rename_i t x
    unfold soVal at h ⊢
    simp only at h ⊢
    split at h
    · exact dLoad_app h l
    · split at h
      · split at h
        · rename_i hc; rw [if_pos hc]; exact dLoad_app h l
        · rename_i hc; rw [if_neg hc]; exact h
      · cases h

theorem comm {g : Bool} {x y : SO} (hC : MonoC C) (hG : g = true → GrowC C) (hx : quietB hn x = true) (ha : apartB g hn x y = true) (K : Fr → Heap → Prop) (h : soWp P hn C x fr H fun fr' H' => soWp P hn C y fr' H' K) :
    soWp P hn C y fr H fun fr' H' => soWp P hn C x fr' H' K := by
  rw [soWp_quiet hx] at h
  obtain ⟨d, h1, h2⟩ := h
  unfold apartB at ha
  simp only [Bool.and_eq_true, List.all_eq_true, Bool.not_eq_true', List.contains_eq_mem, decide_eq_false_iff_not, Bool.or_eq_true] at ha
  obtain ⟨⟨a1, a2⟩, a3⟩ := ha
  -- y, without x's slot
  have h3 : soWp P hn C y fr H fun fr' H' => K (fr'.put x.dst d) H' := by
    cases hd : x.dst with
    | none => rw [hd] at h2; exact h2
    | some t =>
      rw [hd] at h2
      have := a1 t (by rw [hd]; simp)
      exact soWp_put this.1 this.2 K h2
  -- x behind y
  have go : ∀ fr' H', K (fr'.put x.dst d) H' → (∀ t ∈ x.reads, fr' t = fr t) → (hreadB x = false ∨ H' = H) → soWp P hn C x fr' H' K := fun fr' H' hk hr hH => by
    rw [soWp_quiet hx]
    exact ⟨d, by rw [soVal_congr (H' := H) hx hr hH]; exact h1, hk⟩
  by_cases hy : quietB hn y = true
  · have := quiet_only hy _ h3
    rw [soWp_quiet hy] at this ⊢
    obtain ⟨e, h4, h5, h6, h7⟩ := this
    refine ⟨e, h4, go _ _ h5 (fun t ht => h7 t fun hd => ?_) (.inr h6)⟩
    have := a2 t (by rw [if_pos hy, hd]; simp)
    exact this ht
  · have hout' : ∀ fr' : Fr, (∀ t, t ∉ y.mods → fr' t = fr t) → ∀ t ∈ x.reads, fr' t = fr t := fun fr' hout t ht => hout t fun hm => by
      have := a2 t (by rw [if_neg hy]; exact hm)
      exact this ht
    rcases a3 with ((h | h) | h) | h
    · exact soWp_mods hC h3 fun fr' H' hk hout => go _ _ hk (hout' fr' hout) (.inl h)
    · exact absurd h hy
    · exact soWp_mods hC (soWp_grow (hG h.1) h.2 h3) fun fr' H' hk hout => go _ _ hk.1 (hout' fr' hout) (.inr hk.2)
    · refine soWp_mods hC (soWp_lay h h3) fun fr' H' hk hout => ?_
      obtain ⟨hk, l, rfl⟩ := hk
      rw [soWp_quiet hx]
      refine ⟨d, ?_, hk⟩
      have h4 := soVal_app hx h1 l
      rw [← soVal_congr (P := P) (H := H ++ l) hx (fun t ht => (hout' fr' hout t ht).symm) (.inr rfl)]
      exact h4

theorem mem_dReady {ops : List (SO × List Nat)} {listed : List Bool} {i : Nat} : i ∈ dReady ops listed ↔ listed.getD i true = false ∧ ∃ o, ops[i]? = some o ∧ ∀ e ∈ o.2, listed.getD e false = true := by
  unfold dReady
  rw [List.mem_filter, List.mem_range]
  simp only [Bool.and_eq_true, Bool.not_eq_true']
  constructor
  · rintro ⟨h1, h2, h3⟩
    refine ⟨h2, ops[i], List.getElem?_eq_getElem h1, ?_⟩
    rw [List.getElem?_eq_getElem h1] at h3
    simpa using h3
  · rintro ⟨h1, o, h2, h3⟩
    refine ⟨(List.getElem?_eq_some_iff.1 h2).1, h1, ?_⟩
    rw [h2]; simpa using h3

theorem getD_set_ne' {l : List Bool} {i j : Nat} {b d : Bool} (h : i ≠ j) : (l.set i b).getD j d = l.getD j d := by
  rw [List.getD_eq_getElem?_getD, List.getD_eq_getElem?_getD, List.getElem?_set_ne h]

theorem ready_set {ops : List (SO × List Nat)} {listed : List Bool} {i j : Nat} (h : j ∈ dReady ops listed) (hne : i ≠ j) : j ∈ dReady ops (listed.set i true) := by
  rw [mem_dReady] at h ⊢
  obtain ⟨h1, o, h2, h3⟩ := h
  refine ⟨by rw [getD_set_ne' hne]; exact h1, o, h2, fun e he => ?_⟩
  by_cases hei : i = e
  · subst hei
    have := h3 i he
    have hl : i < listed.length := by
      rcases Nat.lt_or_ge i listed.length with h' | h'
      · exact h'
      · rw [List.getD_eq_getElem?_getD, List.getElem?_eq_none h'] at this; simp at this
    rw [List.getD_eq_getElem?_getD, List.getElem?_set_self hl]; rfl
  · rw [getD_set_ne' hei]; exact h3 e he

/-- A quiet operation that is apart from all that does not wait for it may come up first. -/
theorem dAny_first {g : Bool} (hC : MonoC C) (hG : g = true → GrowC C) {ops : List (SO × List Nat)} {i : Nat} {x : SO × List Nat} (hi : ops[i]? = some x) (hq : quietB hn x.1 = true) : ∀ (n : Nat) (listed : List Bool) (fr : Fr) (H : Heap) (K : Fr → Heap → Prop),
    (∀ j y, ops[j]? = some y → j ≠ i → listed.getD j true = false → i ∉ y.2 → apartB g hn x.1 y.1 = true) → i ∈ dReady ops listed →
    soWp P hn C x.1 fr H (fun fr' H' => dAny P hn C ops n (listed.set i true) fr' H' K) → dAny P hn C ops (n + 1) listed fr H K := by
  intro n
  induction n with
  | zero =>
    intro listed fr H K hfree hr h
    refine ⟨fun h0 => (by rw [h0] at hr; cases hr), fun j hj => ?_⟩
    by_cases hji : j = i
    · subst hji; exact ⟨x, hi, h⟩
    · exfalso
      rw [soWp_quiet hq] at h
      obtain ⟨d, _, h2, _⟩ := h
      have := ready_set hj (Ne.symm hji)
      rw [h2] at this; cases this
  | succ n ih =>
    intro listed fr H K hfree hr h
    refine ⟨fun h0 => (by rw [h0] at hr; cases hr), fun j hj => ?_⟩
    by_cases hji : j = i
    · subst hji; exact ⟨x, hi, h⟩
    · obtain ⟨hun, y, hy, hall⟩ := mem_dReady.1 hj
      have hnot : i ∉ y.2 := fun hm => by
        have h1 := hall i hm
        have h0 := (mem_dReady.1 hr).1
        rw [List.getD_eq_getElem?_getD] at h0 h1
        cases hl : listed[i]? with
        | none => rw [hl] at h0; cases h0
        | some b => rw [hl] at h0 h1; simp at h0 h1; rw [h0] at h1; cases h1
      have hap := hfree j y hy hji hun hnot
      refine ⟨y, hy, ?_⟩
      have hrj := ready_set hj (Ne.symm hji)
      have h' : soWp P hn C x.1 fr H fun fr' H' => soWp P hn C y.1 fr' H' fun fr'' H'' => dAny P hn C ops n ((listed.set i true).set j true) fr'' H'' K := by
        refine soWp_mods hC h fun fr' H' hk _ => ?_
        obtain ⟨y', hy', hw⟩ := hk.2 j hrj
        rw [hy] at hy'; cases hy'
        exact hw
      have hsw := comm hC hG hq hap _ h'
      refine soWp_mods hC hsw fun fr' H' hk _ => ?_
      refine ih (listed.set j true) fr' H' K (fun k z hz hki hun' hno => ?_) (ready_set hr hji) ?_
      · refine hfree k z hz hki ?_ hno
        by_cases hjk : j = k
        · subst hjk; exact hun
        · rw [getD_set_ne' hjk] at hun'; exact hun'
      · rw [List.set_comm _ _ hji]
        exact hk

theorem dAny_order {g : Bool} (hC : MonoC C) (hG : g = true → GrowC C) {ops : List (SO × List Nat)} : ∀ (l : List Nat) (n : Nat) (listed : List Bool) (fr : Fr) (H : Heap) (K : Fr → Heap → Prop), l.length ≤ n → orderOk g hn ops listed l = true →
    regWp P hn C (l.map fun i => (ops.getD i default).1) fr H K → dAny P hn C ops n listed fr H K
  | [], n, listed, fr, H, K, _, ho, h => by
    have h0 : dReady ops listed = [] := by simpa [orderOk] using ho
    cases n with
    | zero => exact ⟨h0, h⟩
    | succ n => exact ⟨fun _ => h, fun i hi => by rw [h0] at hi; cases hi⟩
  | i :: l, 0, _, _, _, _, hl, _, _ => by simp at hl
  | i :: l, n + 1, listed, fr, H, K, hl, ho, h => by
    simp only [orderOk, Bool.and_eq_true, Bool.or_eq_true, List.contains_eq_mem, decide_eq_true_eq, beq_iff_eq] at ho
    obtain ⟨⟨hr, hs⟩, hrest⟩ := ho
    obtain ⟨hun, x, hx, hall⟩ := mem_dReady.1 hr
    have hxd : ops.getD i default = x := by rw [List.getD_eq_getElem?_getD, hx]; rfl
    simp only [List.map_cons, regWp, hxd] at h
    have h' : soWp P hn C x.1 fr H fun fr' H' => dAny P hn C ops n (listed.set i true) fr' H' K :=
      soWp_mods hC h fun fr' H' hk _ => dAny_order hC hG l n _ fr' H' K (by simpa using hl) hrest hk
    rcases hs with hs | hs
    · unfold firstB at hs
      rw [hx] at hs
      simp only [Bool.and_eq_true, List.all_eq_true, Bool.or_eq_true, beq_iff_eq, List.mem_range] at hs
      refine dAny_first hC hG hx hs.1 n listed fr H K (fun j y hy hji hun' hno => ?_) hr h'
      have := hs.2 j (List.getElem?_eq_some_iff.1 hy).1
      rw [hy] at this
      rcases this with (h | h) | h
      · exact absurd h hji
      · rw [hun'] at h; cases h
      · simp only [Bool.or_eq_true, List.contains_eq_mem, decide_eq_true_eq] at h
        rcases h with h | h
        · exact absurd h hno
        · exact h
    · refine ⟨fun h0 => (by rw [h0] at hr; cases hr), fun j hj => ?_⟩
      rw [hs] at hj
      have : j = i := by simpa using hj
      subst this
      exact ⟨x, hx, h'⟩

/-- A tree of orders. -/
inductive IT where
  | done
  | bad
  | op (i : Nat) (t : IT)
  | br (a b : IT)
def IT.idx : IT → List Nat
  | .done => []
  | .bad => []
  | .op i t => i :: t.idx
  | .br a b => a.idx ++ b.idx
def IT.rt (ops : List (SO × List Nat)) : IT → RT
  | .done => .done
  | .bad => .bad
  | .op i t => .op (ops.getD i default).1 (t.rt ops)
  | .br a b => .br (a.rt ops) (b.rt ops)
def brs (f : Nat → IT) : List Nat → IT
  | [] => .bad
  | [i] => f i
  | i :: l => .br (f i) (brs f l)
def autoTree (hn : Hints) (ops : List (SO × List Nat)) : Nat → List Bool → IT
  | 0, listed => if (dReady ops listed).isEmpty then .done else .bad
  | n + 1, listed => match dReady ops listed with
    | [] => .done
    | [i] => .op i (autoTree hn ops n (listed.set i true))
    | i :: j :: r => match (i :: j :: r).find? (firstB false hn ops listed) with
      | some k => .op k (autoTree hn ops n (listed.set k true))
      | none => brs (fun k => .op k (autoTree hn ops n (listed.set k true))) (i :: j :: r)

theorem brs_wp {ops : List (SO × List Nat)} {f : Nat → IT} {K : Fr → Heap → Prop} : ∀ {l : List Nat}, rtWp P hn C ((brs f l).rt ops) fr H K → ∀ i ∈ l, rtWp P hn C ((f i).rt ops) fr H K
  | [], h, _, hi => by cases hi
  | [i], h, j, hj => by
    obtain rfl : j = i := by simpa using hj
    exact h
  | i :: k :: l, h, j, hj => by
    rcases List.mem_cons.1 hj with rfl | hj
    · exact h.1
    · exact brs_wp (l := k :: l) h.2 j hj

theorem first_spec {g : Bool} (hC : MonoC C) (hG : g = true → GrowC C) {ops : List (SO × List Nat)} {n i : Nat} {listed : List Bool} {K : Fr → Heap → Prop} (hs : firstB g hn ops listed i = true) (hr : i ∈ dReady ops listed)
    (h : soWp P hn C (ops.getD i default).1 fr H fun fr' H' => dAny P hn C ops n (listed.set i true) fr' H' K) : dAny P hn C ops (n + 1) listed fr H K := by
  obtain ⟨hun, x, hx, hall⟩ := mem_dReady.1 hr
  have hxd : ops.getD i default = x := by rw [List.getD_eq_getElem?_getD, hx]; rfl
  rw [hxd] at h
  unfold firstB at hs
  rw [hx] at hs
  simp only [Bool.and_eq_true, List.all_eq_true, Bool.or_eq_true, beq_iff_eq, List.mem_range] at hs
  refine dAny_first hC hG hx hs.1 n listed fr H K (fun j y hy hji hun' hno => ?_) hr h
  have := hs.2 j (List.getElem?_eq_some_iff.1 hy).1
  rw [hy] at this
  rcases this with (h | h) | h
  · exact absurd h hji
  · rw [hun'] at h; cases h
  · simp only [Bool.or_eq_true, List.contains_eq_mem, decide_eq_true_eq] at h
    rcases h with h | h
    · exact absurd h hno
    · exact h

theorem dAny_tree (hC : MonoC C) {ops : List (SO × List Nat)} : ∀ (n : Nat) (listed : List Bool) (fr : Fr) (H : Heap) (K : Fr → Heap → Prop),
    rtWp P hn C ((autoTree hn ops n listed).rt ops) fr H K → dAny P hn C ops n listed fr H K
  | 0, listed, fr, H, K, h => by
    unfold autoTree at h
    split at h
    · rename_i h0
      exact ⟨(by simpa using h0), h⟩
    · exact h.elim
  | n + 1, listed, fr, H, K, h => by
    have sub : ∀ k, rtWp P hn C ((IT.op k (autoTree hn ops n (listed.set k true))).rt ops) fr H K → soWp P hn C (ops.getD k default).1 fr H fun fr' H' => dAny P hn C ops n (listed.set k true) fr' H' K := fun k h =>
      soWp_mods hC h fun fr' H' hk _ => dAny_tree hC n _ fr' H' K hk
    have get : ∀ k ∈ dReady ops listed, ops[k]? = some (ops.getD k default) := fun k hk => by
      obtain ⟨_, x, hx, _⟩ := mem_dReady.1 hk
      rw [List.getD_eq_getElem?_getD, hx]; rfl
    unfold autoTree at h
    split at h
    · rename_i h0
      exact ⟨fun _ => h, fun i hi => by rw [h0] at hi; cases hi⟩
    · rename_i i h0
      refine ⟨fun h1 => (by rw [h0] at h1; cases h1), fun j hj => ?_⟩
      have hj' := hj
      rw [h0] at hj'
      obtain rfl : j = i := by simpa using hj'
      exact ⟨_, get j hj, sub j h⟩
    · rename_i i j r h0
      split at h
      · rename_i k hk
        have hm := List.mem_of_find?_eq_some hk
        have hf := List.find?_some hk
        exact first_spec hC (fun h => by cases h) hf (by rw [h0]; exact hm) (sub k h)
      · refine ⟨fun h1 => (by rw [h0] at h1; cases h1), fun k hk => ⟨_, get k hk, sub k (brs_wp h k (by rw [← h0]; exact hk))⟩⟩

def treeGood (hn : Hints) (ops : List (SO × List Nat)) : Bool :=
  let t := autoTree hn ops ops.length (List.replicate ops.length false)
  (List.range ops.length).all (fun i => t.idx.contains i) && t.idx.all (fun i => i < ops.length)

theorem rt_ops (ops : List (SO × List Nat)) : ∀ t : IT, (t.rt ops).ops = t.idx.map fun i => (ops.getD i default).1
  | .done => rfl
  | .bad => rfl
  | .op i t => by rw [IT.rt, RT.ops, IT.idx, List.map_cons, rt_ops ops t]
  | .br a b => by rw [IT.rt, RT.ops, IT.idx, List.map_append, rt_ops ops a, rt_ops ops b]

def order (g : Bool) (hn : Hints) (ops : List (SO × List Nat)) : List Nat := autoOrder g hn ops ops.length (List.replicate ops.length false)
def orderGood (g : Bool) (hn : Hints) (ops : List (SO × List Nat)) : Bool :=
  orderOk g hn ops (List.replicate ops.length false) (order g hn ops) && decide ((order g hn ops).length ≤ ops.length) && (List.range ops.length).all (fun i => (order g hn ops).contains i) && (order g hn ops).all (fun i => i < ops.length)

/-- The code with an order chosen wherever one serves for all. -/
def norm (hn : Hints) : SC → SC
  | .regd ops => if orderGood false hn ops then .reg ((order false hn ops).map fun i => (ops.getD i default).1) else
    if hn.tree = true ∧ treeGood hn ops = true then .regt ((autoTree hn ops ops.length (List.replicate ops.length false)).rt ops) else
    if orderGood true hn ops then .regp ((order true hn ops).map fun i => (ops.getD i default).1) else .regd ops
  | .seq a b => .seq (norm hn a) (norm hn b)
  | .cond c a b => .cond c (norm hn a) (norm hn b)
  | .block i b => .block i (norm hn b)
  | .loop b => .loop (norm hn b)
  | c => c

theorem orderGood_parts {g : Bool} {ops : List (SO × List Nat)} (h : orderGood g hn ops = true) : orderOk g hn ops (List.replicate ops.length false) (order g hn ops) = true ∧ (order g hn ops).length ≤ ops.length ∧
    (∀ i, i < ops.length → i ∈ order g hn ops) ∧ ∀ i ∈ order g hn ops, i < ops.length := by
  unfold orderGood at h
  simp only [Bool.and_eq_true, decide_eq_true_eq, List.all_eq_true, List.mem_range, List.contains_eq_mem] at h
  exact ⟨h.1.1.1, h.1.1.2, h.1.2, h.2⟩

theorem mods_norm (c : SC) (t : Nat) : t ∈ (norm hn c).mods ↔ t ∈ c.mods := by
  induction c with
  | regd ops =>
    have go : ∀ g, orderGood g hn ops = true → (t ∈ ((order g hn ops).map fun i => (ops.getD i default).1).flatMap SO.mods ↔ t ∈ ops.flatMap fun o => o.1.mods) := fun g hg => by
      obtain ⟨_, _, h3, h4⟩ := orderGood_parts hg
      simp only [List.mem_flatMap, List.mem_map]
      constructor
      · rintro ⟨o, ⟨i, hi, rfl⟩, ht⟩
        have hlt := h4 i hi
        rw [List.getD_eq_getElem?_getD, List.getElem?_eq_getElem hlt] at ht
        exact ⟨ops[i], List.getElem_mem hlt, ht⟩
      · rintro ⟨o, ho, ht⟩
        obtain ⟨i, hlt, rfl⟩ := List.getElem_of_mem ho
        refine ⟨ops[i].1, ⟨i, h3 i hlt, ?_⟩, ht⟩
        rw [List.getD_eq_getElem?_getD, List.getElem?_eq_getElem hlt]; rfl
    unfold norm
    split
    · rename_i hg; exact go _ hg
    · split
      · rename_i hg
        have h3 := hg.2
        unfold treeGood at h3
        simp only [Bool.and_eq_true, List.all_eq_true, List.mem_range, List.contains_eq_mem, decide_eq_true_eq] at h3
        show t ∈ (RT.ops _).flatMap SO.mods ↔ t ∈ ops.flatMap fun o => o.1.mods
        rw [rt_ops]
        simp only [List.mem_flatMap, List.mem_map]
        constructor
        · rintro ⟨o, ⟨i, hi, rfl⟩, ht⟩
          have hlt := h3.2 i hi
          rw [List.getD_eq_getElem?_getD, List.getElem?_eq_getElem hlt] at ht
          exact ⟨ops[i], List.getElem_mem hlt, ht⟩
        · rintro ⟨o, ho, ht⟩
          obtain ⟨i, hlt, rfl⟩ := List.getElem_of_mem ho
          refine ⟨ops[i].1, ⟨i, h3.1 i hlt, ?_⟩, ht⟩
          rw [List.getD_eq_getElem?_getD, List.getElem?_eq_getElem hlt]; rfl
      · split
        · rename_i hg; exact go _ hg
        · exact Iff.rfl
  | seq a b iha ihb => simp only [norm, SC.mods, List.mem_append, iha, ihb]
  | cond c a b iha ihb => simp only [norm, SC.mods, List.mem_append, iha, ihb]
  | block i b ih => exact ih
  | loop b ih => exact ih
  | _ => exact Iff.rfl

theorem over_norm (c : SC) (g fr : Fr) : over (norm hn c).mods g fr = over c.mods g fr := by
  funext t
  simp only [over, mods_norm]

theorem opWp_callee {C' : Callee} (hk : ∀ f ds H K, C f ds H K → C' f ds H K) {o : SO} {K : Fr → Heap → Prop} (h : opWp P hn C o fr H K) : opWp P hn C' o fr H K := by
  obtain ⟨dst, op, g⟩ := o
  cases op with
  | call c =>
    obtain ⟨cal, args, at_⟩ := c
    cases cal with
    | value f =>
      simp only [opWp] at h ⊢
      split at h
      · exact hk _ _ _ _ h
      · exact h.elim
    | invoke r m => exact h
    | builtin b => cases b <;> exact h
  | move x => cases x <;> exact h
  | assign x => cases x <;> exact h
  | makeFunc f _ _ => cases f <;> exact h
  | _ => exact h

theorem soWp_callee {C' : Callee} (hk : ∀ f ds H K, C f ds H K → C' f ds H K) {o : SO} {K : Fr → Heap → Prop} (h : soWp P hn C o fr H K) : soWp P hn C' o fr H K := by
  unfold soWp at h ⊢
  split at h
  · exact opWp_callee hk h
  · split at h
    · split at h
      · rename_i hc; rw [if_pos hc]; exact opWp_callee hk h
      · rename_i hc; rw [if_neg hc]; exact h
    · exact h.elim

theorem soWp_mono' (hC : MonoC C) {o : SO} {K K' : Fr → Heap → Prop} (h : soWp P hn C o fr H K) (hk : ∀ fr' H', K fr' H' → K' fr' H') : soWp P hn C o fr H K' :=
  soWp_mods hC h fun _ _ h _ => hk _ _ h

theorem dAny_callee {C' : Callee} (hC' : MonoC C') (hk : ∀ f ds H K, C f ds H K → C' f ds H K) (ops : List (SO × List Nat)) : ∀ (n : Nat) (listed : List Bool) {fr : Fr} {H : Heap} {K : Fr → Heap → Prop}, dAny P hn C ops n listed fr H K → dAny P hn C' ops n listed fr H K
  | 0, _, _, _, _, h => h
  | n + 1, listed, _, _, _, h => ⟨h.1, fun i hi => by
      obtain ⟨o, ho, hw⟩ := h.2 i hi
      exact ⟨o, ho, soWp_mono' hC' (soWp_callee hk hw) fun _ _ h => dAny_callee hC' hk ops n _ h⟩⟩

theorem norm_wp (hC : MonoC C) (c : SC) : ∀ {fr : Fr} {H : Heap} {Q : Ex}, (norm hn c).wp P hn C fr H Q → c.wp P hn C fr H Q := by
  induction c with
  | regd ops =>
    intro fr H Q h
    unfold norm at h
    split at h
    · rename_i hg
      obtain ⟨h1, h2, _⟩ := orderGood_parts hg
      exact dAny_order hC (g := false) (fun h => by cases h) _ _ _ _ _ _ h2 h1 h
    split at h
    · exact dAny_tree hC _ _ _ _ _ h
    · split at h
      · rename_i hg
        obtain ⟨h1, h2, _⟩ := orderGood_parts hg
        have hC' : MonoC (Grow C) := Grow_mono hC
        have hG' : GrowC (Grow C) := fun f ds H K h => hC _ _ _ _ _ (fun r H' (hh : _ ∧ _) => ⟨hh, hh.2⟩) h
        exact dAny_callee hC (fun f ds H K h => hC _ _ _ _ _ (fun r H' (hh : _ ∧ _) => hh.1) h) ops _ _ (dAny_order hC' (g := true) (fun _ => hG') _ _ _ _ _ _ h2 h1 h)
      · exact h
  | seq a b iha ihb =>
    intro fr H Q h
    refine iha (wp_mods hC _ h fun e fr' H' hq _ => ?_)
    cases e with
    | normal => exact ihb hq
    | _ => exact hq
  | cond c a b iha ihb =>
    intro fr H Q h
    simp only [norm, SC.wp] at h ⊢
    cases hc : ev fr c with
    | bool x =>
      rw [hc] at h
      simp only at h ⊢
      by_cases hx : x = true
      · rw [if_pos hx] at h ⊢; exact iha h
      · rw [if_neg hx] at h ⊢; exact ihb h
    | _ => rw [hc] at h; exact h
  | block i b ih => exact fun h => ih h
  | loop b ih =>
    intro fr H Q h
    obtain ⟨I, n0, h0, hr⟩ := h
    refine ⟨I, n0, h0, fun n g H' hI => ?_⟩
    rw [← over_norm (hn := hn)] at hI ⊢
    exact ih (hr n g H' hI)
  | _ => exact fun h => h

/-- Function number 'f' of the program has this code, these results and so many slots. -/
def IsFun (P : Program) (f : FuncId) (hn : Hints) (s : SC) (rs : List ResultVar) (nt : Nat) : Prop :=
  ∃ fn, P.funcs[f]? = some fn ∧ fn.body.map (fun c => norm hn (strip c)) = some s ∧ (fn.body.map fun c => (strip c).fits nt) = some true ∧ fn.results.toList = rs ∧ fn.ntmps = nt ∧ (fn.name == "runtime.NumGoroutine") = false

theorem CallWp.fun {W0 : World} (hm : P.follows .mixedOrders = true) {f : FuncId} {s : SC} {rs : List ResultVar} {nt : Nat} (hF : IsFun P f hn s rs nt) (hnt : nt ≤ 1000000) {ds : List D} (hlen : ds.length ≤ nt) {K : D → Heap → Prop}
    (hw : s.wp P hn (CallWp P W0) (fr0 ds) H (atEnd P H rs K)) : CallWp P W0 f ds H K := by
  obtain ⟨fn, h1, h2, h3, h4, h5, h6⟩ := hF
  cases hb : fn.body with
  | none => rw [hb] at h2; cases h2
  | some c =>
    rw [hb] at h2 h3
    simp only [Option.map_some, Option.some.injEq] at h2 h3
    subst h2 h4 h5
    exact CallWp.intro hm hn h1 hb h6 rfl h3 hnt hlen (norm_wp CallWp.monoC (strip c) hw)

end
end Dl
