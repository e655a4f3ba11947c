/- What comes in, as data: the start of a law's proof. -/
import Derived.Test.YtgnebanjejmckaaDoorDu
import Derived.Deep.Slices
import Derived.OpenShut
import Derived.Carry
namespace Dl
open Go Go.Deep Go.WideShapes

/-- At the start there are no boxes, and all of memory is laid for good. -/
def sig0 (W : World) : Sig := { ι := fun _ => 0, n := 0, κ := fun b => match W.heap[b]? with | some (.cells c _ _) => c.size | _ => 0 }
theorem base0 (W : World) : Base W W := ⟨Nat.le_refl _, fun _ _ => rfl, rfl, rfl, rfl⟩
theorem rel0 (W : World) : Rel W (sig0 W) W [] := ⟨rfl, fun i j hi => absurd hi (by simp [sig0]), fun i hi => absurd hi (by simp [sig0]), fun i hi => absurd hi (by simp [sig0]), fun ds hd => absurd hd (by simp), base0 W⟩

section
variable {H : Type} {enc : TypeId × Value → H} {P : Program} {w : World} {base : Nat} {spare : Nat → Bool} {held : Bool}

theorem open_V_int {t : TypeId} {k : IntKind} {fuel : Nat} {v : Value} {x : DataW H × List MemPlace} (ht : P.underlying t = some (.int k)) (h : DataW.trod enc P w base spare held fuel t [v] = some x) (σ : Sig) (w' : World) :
    ∃ n, V σ w' v (.int k n) ∧ (Lit.int k n).wf = true := by
  obtain ⟨n, hc, _, hw⟩ := DataW.trod_int ht h
  simp only [List.cons.injEq, and_true] at hc
  subst hc
  exact ⟨n, .int k n, hw⟩
theorem open_V_str {t : TypeId} {fuel : Nat} {v : Value} {x : DataW H × List MemPlace} (ht : P.underlying t = some .string) (h : DataW.trod enc P w base spare held fuel t [v] = some x) (σ : Sig) (w' : World) :
    ∃ l, V σ w' v (.str l) ∧ l.length ≤ Go.maxLen := by
  obtain ⟨s, hc, _, hw⟩ := DataW.trod_string ht h
  simp only [List.cons.injEq, and_true] at hc
  subst hc
  exact ⟨s.data.toList, .str s _ rfl, hw⟩

/-- A slice whose elements read as data of E cells each. -/
theorem open_V_slice {t e : TypeId} {fuel : Nat} {v : Value} {x : DataW H × List MemPlace} (ht : P.underlying t = some (.slice e)) (hE : 0 < P.cellsOf e) (hsp : ∀ b, spare b = true) (h : DataW.trod enc P w base spare held fuel t [v] = some x)
    {α : Type} (f : α → D) (hf : ∀ a, (f a).cells.length = P.cellsOf e ∧ ∀ d ∈ (f a).cells, d.np1 = true)
    (hel : ∀ (n : Nat) (cs : List Value) (y : DataW H × List MemPlace), DataW.trod enc P w base spare held n e cs = some y → ∃ a : α, ∀ j, j < P.cellsOf e → V (sig0 w) w (cs.getD j undef) ((f a).cells.getD j .any)) :
    ∃ l : List α, V (sig0 w) w v (.lst .no (l.map f)) ∧ l.length ≤ Go.maxLen := by
  rcases open_slice ht h with ⟨hc, _⟩ | ⟨a, len, cap, m, n, _, _, hc, hb, hl, hm, hmm, _, hx⟩
  · simp only [List.cons.injEq, and_true] at hc
    subst hc
    exact ⟨[], .lnil _ _ _, Nat.zero_le _⟩
  · simp only [List.cons.injEq, and_true] at hc
    subst hc
    rw [hsp, if_pos rfl] at hmm
    subst hmm
    have hall : ∀ i, i < m → ∃ x : α, ∀ j, j < P.cellsOf e → ∃ u, w.cell? ((a.add (i * P.cellsOf e)).add j) = some u ∧ V (sig0 w) w u ((f x).cells.getD j .any) := fun i hi => by
      obtain ⟨cs, h1, h2⟩ := hx i hi
      obtain ⟨x, hV⟩ := hel _ _ _ h2
      obtain ⟨_, hlen, hcell⟩ := World.cells?_some h1
      refine ⟨x, fun j hj => ⟨cs.getD j undef, ?_, hV j hj⟩⟩
      rw [hcell j hj, List.getD_eq_getElem?_getD, List.getElem?_eq_getElem (by omega)]
      rfl
    by_cases h0 : len = 0
    · subst h0
      exact ⟨[], .lnil _ _ _, Nat.zero_le _⟩
    have hex : ∃ l : List α, l.length = len ∧ ∀ i (hi : i < l.length), ∀ j, j < P.cellsOf e → ∃ u, w.cell? ((a.add (i * P.cellsOf e)).add j) = some u ∧ V (sig0 w) w u ((f l[i]).cells.getD j .any) := by
      have : ∀ k, k ≤ len → ∃ l : List α, l.length = k ∧ ∀ i (hi : i < l.length), ∀ j, j < P.cellsOf e → ∃ u, w.cell? ((a.add (i * P.cellsOf e)).add j) = some u ∧ V (sig0 w) w u ((f l[i]).cells.getD j .any) := by
        intro k
        induction k with
        | zero => exact fun _ => ⟨[], rfl, fun i hi => absurd hi (by simp)⟩
        | succ k ih =>
          intro hk
          obtain ⟨l, hl1, hl2⟩ := ih (by omega)
          obtain ⟨x, hx⟩ := hall k (by omega)
          refine ⟨l ++ [x], by simp [hl1], fun i hi j hj => ?_⟩
          by_cases hik : i < l.length
          · rw [List.getElem_append_left hik]; exact hl2 i hik j hj
          · have : i = l.length := by simp at hi; omega
            subst this
            rw [List.getElem_append_right (by omega)]
            simp only [Nat.sub_self, List.getElem_cons_zero]
            rw [hl1]; exact hx j hj
      exact this len (Nat.le_refl _)
    obtain ⟨l, hl1, hl2⟩ := hex
    -- the block
    obtain ⟨ab, ao, spot⟩ := a
    obtain ⟨u0, hu0, _⟩ := hl2 0 (by omega) 0 hE
    rw [Nat.zero_mul] at hu0
    have hspot : spot = none := by
      have := World.cell?_spot hu0
      simpa [Addr.add] using this
    subst hspot
    have haddr : ∀ i j, ((⟨ab, ao, none⟩ : Addr).add i).add j = ⟨ab, ao + (i + j), none⟩ := fun i j => by rw [add_add, Addr.add_lit]
    rw [haddr] at hu0
    unfold World.cell? at hu0
    split at hu0
    · rename_i c ty fz hblk
      have hcells : ∀ i (hi : i < l.length) j, j < P.cellsOf e → ∃ hlt : ao + (i * P.cellsOf e + j) < c.size, V (sig0 w) w c[ao + (i * P.cellsOf e + j)] ((f l[i]).cells.getD j .any) := fun i hi j hj => by
        obtain ⟨u, hu, hV⟩ := hl2 i hi j hj
        rw [haddr] at hu
        unfold World.cell? at hu
        simp only [hblk, Option.isSome_none, Bool.false_eq_true, if_false] at hu
        obtain ⟨hlt, rfl⟩ := Array.getElem?_eq_some_iff.1 hu
        exact ⟨hlt, hV⟩
      refine ⟨l, ?_, by omega⟩
      have hk : (sig0 w).κ ab = c.size := by simp only [sig0]; rw [hblk]
      obtain ⟨hlast, _⟩ := hcells (l.length - 1) (by omega) (P.cellsOf e - 1) (by omega)
      have hmul : (l.length - 1) * P.cellsOf e + P.cellsOf e = l.length * P.cellsOf e := by
        conv => rhs; rw [show l.length = (l.length - 1) + 1 by omega]
        rw [Nat.add_mul, Nat.one_mul]
      refine .lst ab ao m (P.cellsOf e) c ty fz .no (l.map f) len (by simp [hl1]) hl hblk (fun y hy => ?_) (fun y hy => ?_) (by rw [hk, List.length_map]; omega) (by rw [hk]; omega) (by rw [hk]; exact Nat.le_refl _) fun i hi j hj => ?_
      · obtain ⟨z, _, rfl⟩ := List.mem_map.1 hy
        exact (hf z).1
      · obtain ⟨z, _, rfl⟩ := List.mem_map.1 hy
        exact (hf z).2
      · have hi' : i < l.length := by simpa using hi
        obtain ⟨hlt, hV⟩ := hcells i hi' j hj
        have e1 : c.getD (ao + i * P.cellsOf e + j) undef = c[ao + (i * P.cellsOf e + j)] := by
          rw [Array.getD_eq_getD_getElem?, show ao + i * P.cellsOf e + j = ao + (i * P.cellsOf e + j) by omega, Array.getElem?_eq_getElem hlt]; rfl
        rw [e1, getD_map _ _ _ _ hi']
        exact hV
    · cases hu0
end
end Dl
