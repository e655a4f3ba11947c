/- Slices that are made: literals and make. -/
import Derived.Test.YtgnebanjejmckaaDoorDj
namespace Dl
open Go

section
variable {P : Program} {W0 : World} {σ0 σ σ' : Sig} {w0 w w' : World} {fr : Fr} {H H' : Heap} {a : Act} {nt : Nat}

theorem el_cells (d : D) : d.el.cells = d.cells.map D.pl := by
  cases d <;> rfl
theorem flat_el (ds : List D) : (ds.map D.el).flatMap D.cells = ds.flatMap fun d => d.cells.map D.pl := by
  rw [List.flatMap_map]; congr 1; funext d; exact el_cells d

theorem fillD_full {E : Nat} : ∀ (ds : List D) (s : Nat) (done : List D), done.length = s * E → (∀ x ∈ ds, x.cells.length = E ∧ x.cells.all D.sc = true) →
    fillD (fun i => some (i * E, E)) (done ++ List.replicate (ds.length * E) .any) ((List.range' s ds.length).zip ds) = some (done ++ ds.flatMap fun d => d.cells.map D.pl)
  | [], s, done, _, _ => by simp [fillD]
  | d :: ds, s, done, hl, hd => by
    obtain ⟨h1, h2⟩ := hd d (by simp)
    simp only [List.length_cons, List.range'_succ, List.zip_cons_cons, fillD]
    have hlen : (done ++ List.replicate ((ds.length + 1) * E) D.any).length = s * E + (ds.length + 1) * E := by simp [hl]
    rw [if_pos ⟨h1, by rw [hlen, Nat.add_mul]; omega, h2⟩]
    have e1 : (done ++ List.replicate ((ds.length + 1) * E) D.any).take (s * E) = done := by rw [← hl]; exact List.take_left
    have e2 : (done ++ List.replicate ((ds.length + 1) * E) D.any).drop (s * E + E) = List.replicate (ds.length * E) D.any := by
      rw [← hl, ← List.drop_drop, List.drop_left, List.drop_replicate]
      congr 1; rw [Nat.add_mul]; omega
    rw [e1, e2]
    have ih := fillD_full ds (s + 1) (done ++ d.cells.map D.pl) (by simp [hl, h1, Nat.add_mul]) (fun x hx => hd x (by simp [hx]))
    rw [ih]
    simp

theorem run_buildSlice {t e : TypeId} (ht : slE P t = some e) {parts : List (Nat × Value)} {ds : List D} (hm : parts.map (·.1) = List.range ds.length)
    (hv : ∀ i, i < parts.length → V σ w ((parts.getD i default).2) (ds.getD i .any))
    (hd : ∀ x ∈ ds, x.cells.length = P.cellsOf e ∧ ∀ d ∈ x.cells, d.sc = true ∧ d.np1 = true) (hE : 0 < P.cellsOf e) (hz : zeroOk P e = true) (hl : ds.length * P.cellsOf e ≤ 16777216) :
    ∃ c, (Instr.buildSlice t ds.length parts.toArray).run P w = .ok (.slice (some ⟨w.heap.size, 0, none⟩) ds.length ds.length) (w.alloc (.cells c e)) ∧
      CV σ w c (ds.flatMap fun d => d.cells.map D.pl) := by
  obtain ⟨z, hz, hzlen⟩ : ∃ z, zeroD P e = some z ∧ z.length = P.cellsOf e := by
    unfold zeroOk at hz
    split at hz
    · rename_i z hz'; exact ⟨z, hz', by simpa using hz⟩
    · cases hz
  obtain ⟨i, zv, hi, hzv, hzrun, hzc⟩ := zeroD_run (σ := σ) (w := w) hz
  have hpl : parts.length = ds.length := by have := congrArg List.length hm; simpa using this
  have hdp : parts.map (·.1) = ((List.range' 0 ds.length).zip ds).map (·.1) := by
    rw [hm, List.range_eq_range']
    exact (List.map_fst_zip (by simp)).symm
  have hall : ∀ x ∈ ds, x.cells.length = P.cellsOf e ∧ x.cells.all D.sc = true := fun x hx => ⟨(hd x hx).1, List.all_eq_true.2 fun d hd' => ((hd x hx).2 d hd').1⟩
  have hf := fillD_full (E := P.cellsOf e) ds 0 [] (by simp) hall
  simp only [List.nil_append] at hf
  have hgo : ∀ c0 : Array Value, c0.size = ds.length * P.cellsOf e → ∃ c, Instr.fill (fun i => some (i * P.cellsOf e, P.cellsOf e)) c0 parts = some c ∧ CV σ w c (ds.flatMap fun d => d.cells.map D.pl) := fun c0 hc0 =>
    fill_run (fun i x hx => hx) parts ((List.range' 0 ds.length).zip ds) c0 (List.replicate (ds.length * P.cellsOf e) .any) _ hdp (fun i hi => by
      have hi' : i < ds.length := by omega
      have e2 : (((List.range' 0 ds.length).zip ds).getD i default).2 = ds.getD i .any := by
        have hlt : i < ((List.range' 0 ds.length).zip ds).length := by simp; exact hi'
        simp only [List.getD_eq_getElem?_getD, List.getElem?_eq_getElem hlt, List.getElem?_eq_getElem hi', Option.getD_some, List.getElem_zip]
      rw [e2]; exact hv i hi) ⟨by simp [hc0], fun j hj => by
        have : (List.replicate (ds.length * P.cellsOf e) D.any).getD j .any = .any := by
          simp only [List.getD_eq_getElem?_getD, List.getElem?_replicate]; split <;> rfl
        rw [this]; exact .any _⟩ hf
  obtain ⟨c, hc, hcv⟩ := hgo ((Array.range (ds.length * P.cellsOf e)).map ((if ds.length * P.cellsOf e = 0 then #[] else zv.cells)[· % (if ds.length * P.cellsOf e = 0 then #[] else zv.cells).size]!)) (by simp)
  refine ⟨c, ?_, hcv⟩
  have hle : ¬ (ds.length * P.cellsOf e > 2 ^ 24) := by omega
  by_cases h0 : ds.length * P.cellsOf e = 0
  · simp only [h0, if_true] at hc
    simp only [Instr.buildSlice, Sem.run_bind, run_und (slE_some ht), Result.andThen_ok, rn_sizeOf (info_of_cells hE), h0, if_true, Sem.run_ite, Sem.run_pure, newRow, run_newObj, World.alloc_eq, hc]
    rfl
  · simp only [h0, if_false] at hc
    simp only [Instr.buildSlice, Sem.run_bind, run_und (slE_some ht), Result.andThen_ok, rn_sizeOf (info_of_cells hE), hle, h0, if_false, Sem.run_ite, Sem.run_pure, hzrun, newRow, run_newObj, World.alloc_eq, hc]

end
end Dl
