/- Contracts of the library's functions as contracts on data. -/
import Derived.Test.YtgnebanjejmckaaDoorDt
import Derived.Deep.Draws
import Derived.Lib.LaidTab
import Derived.Sort.Grow
namespace Dl
open Go

/-- What a library's call leaves: the old blocks, and new ones. -/
structure Left0 (w w' : World) : Prop where
  size : w.heap.size ≤ w'.heap.size
  block : ∀ b, b < w.heap.size → w'.heap[b]? = w.heap[b]?
  os : w'.os = w.os
  tape : w'.tape = w.tape
  output : w'.output = w.output

theorem left_refl (w : World) : Left0 w w := ⟨Nat.le_refl _, fun _ _ => rfl, rfl, rfl, rfl⟩
theorem left_drew (w : World) (n : Nat) : Left0 w (w.drewN n) := ⟨Nat.le_refl _, fun _ _ => rfl, rfl, rfl, rfl⟩
theorem left_grow (w : World) (n : Nat) (os : Array Obj) : Left0 w («Sort».grow (w.drewN n) os) :=
  ⟨by simp [«Sort».grow], fun b hb => by
    show (w.heap ++ os)[b]? = _
    rw [Array.getElem?_append_left hb], rfl, rfl, rfl⟩

theorem CallWp.lib {P : Program} {W0 : World} {f : FuncId} {ds : List D} {H : Heap} {K : D → Heap → Prop} {r : D}
    (hfn : ∃ fn, P.funcs[f]? = some fn ∧ fn.body.isSome = true ∧ (fn.name == "runtime.NumGoroutine") = false) (hno : noOwn r = true)
    (h : ∀ (σ : Sig) (w : World) (vs : Array Value), Base W0 w → CV σ w vs ds → Calls P f vs w fun e w' => ∃ v, e = .returned v ∧ (∀ σ w, V σ w v r) ∧ Left0 w w') (hk : K r H) : CallWp P W0 f ds H K := by
  refine ⟨hfn, fun σ w vs hr hv => (h σ w vs hr.base hv).mono ?_⟩
  rintro e w' ⟨v, rfl, hV, hL⟩
  have st : Step σ w σ w' := ⟨hL.size, fun b hb _ => hL.block b hb, Nat.le_refl _, fun _ _ => rfl, fun i h1 h2 => by omega, fun _ _ => rfl⟩
  have hb : Base W0 w' := by
    refine ⟨Nat.le_trans hr.base.size hL.size, fun b hb => ?_, hL.os.trans hr.base.os, hL.tape.trans hr.base.tape, hL.output.trans hr.base.output⟩
    rw [hL.block b (Nat.lt_of_lt_of_le hb hr.base.size), hr.base.block b hb]
  refine ⟨v, r, H, σ, rfl, hk, hV _ _, .of_noOwn hno, ?_, st⟩
  exact hr.keep st rfl (fun i hi => hL.block _ (hr.lt i hi)) (fun i hi => by obtain ⟨_, _, _, _, _, _, h3, _⟩ := hr.box i hi; exact h3) hb

theorem Base.cell {W0 w : World} (h : Base W0 w) {a : Addr} {v : Value} (hc : W0.cell? a = some v) : w.cell? a = some v := by
  unfold World.cell? at *
  have hlt : a.block < W0.heap.size := by
    cases hx : W0.heap[a.block]? with
    | none => rw [hx] at hc; simp at hc
    | some o => exact lt_of_get hx
  rw [h.block _ hlt]; exact hc
theorem Base.tab {P : Program} {W0 w : World} (h : Base W0 w) {name : String} {k : IntKind} {zs : List Int} (hc : Lib.TabIs P W0 name k zs) : Lib.TabIs P w name k zs := by
  unfold Lib.TabIs World.var? at *
  cases hg : P.globalNamed name with
  | none => rw [hg] at hc; simp at hc
  | some g =>
    rw [hg] at hc
    simp only [Option.bind_some] at hc ⊢
    have hlt : g < W0.heap.size := by
      cases hx : W0.heap[g]? with
      | none => rw [hx] at hc; simp at hc
      | some o => exact lt_of_get hx
    rw [h.block _ hlt]; exact hc

theorem CV_str2 {σ : Sig} {w : World} {vs : Array Value} {s t : List UInt8} (h : CV σ w vs [.str s, .str t]) : vs = #[.string ⟨s.toArray⟩, .string ⟨t.toArray⟩] := by
  obtain ⟨hl, hv⟩ := h
  have h0 := hv 0 (by simp)
  have h1 := hv 1 (by simp)
  simp only [List.getD_cons_zero, List.getD_cons_succ] at h0 h1
  have e0 : vs.getD 0 undef = .string ⟨s.toArray⟩ := by
    revert h0; generalize vs.getD 0 undef = v; intro h; cases h with
    | str b l hb => subst hb; rfl
  have e1 : vs.getD 1 undef = .string ⟨t.toArray⟩ := by
    revert h1; generalize vs.getD 1 undef = v; intro h; cases h with
    | str b l hb => subst hb; rfl
  obtain ⟨l⟩ := vs
  match l, hl, e0, e1 with
  | [a, b], _, e0, e1 =>
    simp at e0 e1
    rw [e0, e1]
theorem CV_str1 {σ : Sig} {w : World} {vs : Array Value} {s : List UInt8} (h : CV σ w vs [.str s]) : vs = #[.string ⟨s.toArray⟩] := by
  obtain ⟨hl, hv⟩ := h
  have h0 := hv 0 (by simp)
  simp only [List.getD_cons_zero] at h0
  have e0 : vs.getD 0 undef = .string ⟨s.toArray⟩ := by
    revert h0; generalize vs.getD 0 undef = v; intro h; cases h with
    | str b l hb => subst hb; rfl
  obtain ⟨l⟩ := vs
  match l, hl, e0 with
  | [a], _, e0 =>
    simp at e0
    rw [e0]
theorem CV_int1 {σ : Sig} {w : World} {vs : Array Value} {k : IntKind} {n : Int} (h : CV σ w vs [.int k n]) : vs = #[.int k n] := by
  obtain ⟨hl, hv⟩ := h
  have h0 := hv 0 (by simp)
  simp only [List.getD_cons_zero] at h0
  have e0 : vs.getD 0 undef = .int k n := by
    revert h0; generalize vs.getD 0 undef = v; intro h; cases h with
    | int => rfl
  obtain ⟨l⟩ := vs
  match l, hl, e0 with
  | [a], _, e0 =>
    simp at e0
    rw [e0]
theorem V_str {σ : Sig} {w : World} (l : List UInt8) : V σ w (.string ⟨l.toArray⟩) (.str l) := .str _ _ rfl
end Dl
