/- The console that comes in, as data. -/
import Derived.Test.YtgnebanjejmckaaDoorC4
import Derived.Test.YtgnebanjejmckaaDoorDv
import Derived.Test.YtgnebanjejmckaaDoorChecked
import Derived.Deep.Strs
import Derived.Lib.SmallJoins
import Derived.Laws.IdiomArrays
set_option maxRecDepth 100000
set_option linter.unusedVariables false
namespace Go.Proofs.YtgnebanjejmckaaDoor
open Go Dl Go.ChangeShapes Go.WideShapes Go.RowKit Go.Deep

section
variable {H : Type} {enc : TypeId × Value → H} {w : World} {base : Nat} {spare : Nat → Bool} {held : Bool}

theorem open_card (n : Nat) (cs : List Value) (y : DataW H × List MemPlace) (h : DataW.trod enc Tryd.prog w base spare held n 127 cs = some y) :
    ∃ c : Card, ∀ j, j < 4 → V (sig0 w) w (cs.getD j undef) ((cardD c).cells.getD j .any) := by
  obtain ⟨xs, m, rfl, _, hl, _, hi⟩ := DataW.trod_array Tryd.underlying127 h
  rw [show Tryd.prog.cellsOf 127 = 4 by kernel_rfl] at hl
  match cs, hl with
  | [v0, v1, v2, v3], _ =>
    have c3 : Tryd.prog.cellsOf 3 = 1 := by kernel_rfl
    have hh : ∀ i, i < 4 → ∃ x, DataW.trod enc Tryd.prog w base spare held m 3 (([v0, v1, v2, v3].drop i).take 1) = some x := fun i hi4 => by
      have := hi i hi4
      rw [c3, Nat.mul_one] at this
      cases hx : xs[i]? with
      | none =>
        rw [List.getElem?_eq_none_iff] at hx
        omega
      | some x => exact ⟨x, by rw [this, hx]⟩
    obtain ⟨_, h0⟩ := hh 0 (by decide)
    obtain ⟨_, h1⟩ := hh 1 (by decide)
    obtain ⟨_, h2⟩ := hh 2 (by decide)
    obtain ⟨_, h3⟩ := hh 3 (by decide)
    obtain ⟨a, ha, _⟩ := open_V_int Tryd.underlying3 h0 (sig0 w) w
    obtain ⟨b, hb, _⟩ := open_V_int Tryd.underlying3 h1 (sig0 w) w
    obtain ⟨c, hc, _⟩ := open_V_int Tryd.underlying3 h2 (sig0 w) w
    obtain ⟨d, hd, _⟩ := open_V_int Tryd.underlying3 h3 (sig0 w) w
    refine ⟨(a, b, c, d), fun j hj => ?_⟩
    match j, hj with
    | 0, _ => exact ha
    | 1, _ => exact hb
    | 2, _ => exact hc
    | 3, _ => exact hd

theorem open_cons {v : Value} {d : DataW H} {p : List MemPlace} {r : Reach} {b0 : Nat} (hval : Value.okWide Tryd.prog w r b0 57 v) (h : DataW.Trod enc Tryd.prog w base (fun _ => true) held 57 v d p) :
    ∃ (l : List Card) (t n : Int) (dd pp : List UInt8) (cnt : Int), V (sig0 w) w v (consD l t n dd pp cnt) ∧ l.length < 9223372036854775808 ∧ dd.length < 9223372036854775808 ∧ pp.length < 9223372036854775808 := by
  obtain ⟨cs, rfl, hsz⟩ := okWide_struct Tryd.underlying57 hval
  have c57 : Tryd.prog.cellsOf 57 = 6 := by kernel_rfl
  have c54 : Tryd.prog.cellsOf 54 = 3 := by kernel_rfl
  have c55 : Tryd.prog.cellsOf 55 = 3 := by kernel_rfl
  have c52 : Tryd.prog.cellsOf 52 = 1 := by kernel_rfl
  have c3 : Tryd.prog.cellsOf 3 = 1 := by kernel_rfl
  have c9 : Tryd.prog.cellsOf 9 = 1 := by kernel_rfl
  have c127 : Tryd.prog.cellsOf 127 = 4 := by kernel_rfl
  rw [c57] at hsz
  obtain ⟨cl⟩ := cs
  match cl, hsz with
  | [v0, v1, v2, v3, v4, v5], _ =>
    obtain ⟨fuel, hf⟩ := h
    obtain ⟨y0, y1, n, _, _, h0, h1⟩ := trod_struct2 Tryd.underlying57 hf
    simp only [Value.cells, c54, c55, List.drop_zero, List.take_succ_cons, List.take_zero, List.drop_succ_cons] at h0 h1
    obtain ⟨_, _, _, _, _, _, a0, a1, a2⟩ := trod_struct3 Tryd.underlying54 h0
    obtain ⟨_, _, _, _, _, _, b0, b1, b2⟩ := trod_struct3 Tryd.underlying55 h1
    simp only [c52, c3, c9, List.drop_zero, List.take_succ_cons, List.take_zero, List.drop_succ_cons] at a0 a1 a2 b0 b1 b2
    obtain ⟨l, hl, hll⟩ := open_V_slice Tryd.underlying52 (by rw [c127]; decide) (fun _ => rfl) a0 cardD (fun c => ⟨by rw [c127]; rfl, fun d hd => by
      simp [D.cells] at hd
      rcases hd with rfl | rfl | rfl | rfl <;> rfl⟩) (fun n cs y hy => by
        rw [c127]; exact open_card n cs y hy)
    obtain ⟨t, ht, _⟩ := open_V_int Tryd.underlying3 a1 (sig0 w) w
    obtain ⟨m, hm', _⟩ := open_V_int Tryd.underlying3 a2 (sig0 w) w
    obtain ⟨dd, hd, hdl⟩ := open_V_str Tryd.underlying9 b0 (sig0 w) w
    obtain ⟨pp, hp, hpl⟩ := open_V_str Tryd.underlying9 b1 (sig0 w) w
    obtain ⟨cnt, hc, _⟩ := open_V_int Tryd.underlying3 b2 (sig0 w) w
    refine ⟨l, t, m, dd, pp, cnt, .agg _ _ rfl fun j hj => ?_, by unfold Go.maxLen at hll; omega, by unfold Go.maxLen at hdl; omega, by unfold Go.maxLen at hpl; omega⟩
    match j, hj with
    | 0, _ => exact hl
    | 1, _ => exact ht
    | 2, _ => exact hm'
    | 3, _ => exact hd
    | 4, _ => exact hp
    | 5, _ => exact hc
end
end Go.Proofs.YtgnebanjejmckaaDoor
