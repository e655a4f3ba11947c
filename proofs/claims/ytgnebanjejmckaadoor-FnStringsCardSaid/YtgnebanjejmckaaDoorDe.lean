/- More operations that leave the world alone: parts, places, reads, slices, lengths. -/
import Derived.Test.YtgnebanjejmckaaDoorDd
namespace Dl
open Go

section
variable {P : Program} {σ : Sig} {w : World}

theorem run_und {t : TypeId} {d : TypeDesc} (h : P.underlying t = some d) : (underlying t).run P w = .ok d w := run_underlying h w

theorem slE_some {t e : TypeId} (h : slE P t = some e) : P.underlying t = some (.slice e) := by
  unfold slE at h; split at h <;> simp_all
theorem arE_some {t e : TypeId} {n : Nat} (h : arE P t = some (n, e)) : P.underlying t = some (.array n e) := by
  unfold arE at h; split at h <;> simp_all
theorem isStr_some {t : TypeId} (h : isStr P t = true) : P.underlying t = some .string := by
  unfold isStr at h; split at h <;> simp_all
theorem isBool_some {t : TypeId} (h : isBool P t = true) : P.underlying t = some .bool := by
  unfold isBool at h; split at h <;> simp_all
theorem isIface_some {t : TypeId} (h : isIface P t = true) : ∃ ms, P.underlying t = some (.interface ms) := by
  unfold isIface at h; split at h <;> simp_all
theorem kindOf_some {t : TypeId} {k : IntKind} (h : kindOf P t = some k) : P.underlying t = some (.int k) := by
  unfold kindOf at h; split at h <;> simp_all

theorem rn_sizeOf {t : TypeId} (h : (P.info? t).isSome = true) : (Go.sizeOf t).run P w = .ok (P.cellsOf t) w := by
  obtain ⟨i, hi⟩ := Option.isSome_iff_exists.1 h
  exact run_sizeOf w hi
theorem rn_isAgg {t : TypeId} (h : (P.underlying t).isSome = true) : (isAgg t).run P w = .ok (aggB P t) w := by
  obtain ⟨d, hd⟩ := Option.isSome_iff_exists.1 h
  unfold isAgg aggB
  simp only [Sem.run_bind, run_und hd, Result.andThen_ok, hd]
  cases d <;> rfl

theorem known_parts {t : TypeId} (h : known P t = true) : (P.underlying t).isSome = true ∧ (P.info? t).isSome = true := by
  simpa [known] using h
theorem aggB_known {t : TypeId} (h : aggB P t = true) : (P.underlying t).isSome = true := by
  unfold aggB at h; split at h <;> simp_all

theorem info_of_cells {t : TypeId} (h : 0 < P.cellsOf t) : (P.info? t).isSome = true := by
  unfold Program.cellsOf at h
  cases hi : P.info? t with
  | none => simp [hi] at h
  | some i => rfl

theorem getD_lt {c : Array Value} {j : Nat} (h : j < c.size) : c[j]? = some (c.getD j undef) := by
  simp [h]

/-! ### Parts of a struct or an array -/

theorem run_dPart {t : TypeId} {c : Array Value} {ds : List D} {off : Nat} {d : D} (hi : (P.info? t).isSome = true) (hl : c.size = ds.length)
    (hv : ∀ j, j < ds.length → V σ w (c.getD j undef) (ds.getD j .any)) (h : dPart P t ds off = some d) :
    ∃ r, (part t c off).run P w = .ok r w ∧ V σ w r d ∧ noOwn d = true := by
  unfold dPart at h
  by_cases hA : aggB P t = true
  · rw [if_pos hA] at h
    by_cases hb : off + P.cellsOf t ≤ ds.length
    · rw [if_pos hb] at h
      cases h
      refine ⟨.agg (c.extract off (off + P.cellsOf t)), ?_, ?_, rfl⟩
      · unfold part
        simp only [Sem.run_bind, rn_isAgg (aggB_known hA), Result.andThen_ok, hA, if_true, rn_sizeOf hi, Sem.run_pure]
      · refine .agg _ _ (by simp; omega) fun j hj => ?_
        have hj' : j < P.cellsOf t := by simp at hj; omega
        have h1 := hv (off + j) (by omega)
        have e1 : (c.extract off (off + P.cellsOf t)).getD j undef = c.getD (off + j) undef := by
          simp only [Array.getD_eq_getD_getElem?]
          rw [Array.getElem?_extract, if_pos (by omega)]
        have e2 : ((ds.drop off).take (P.cellsOf t)).getD j .any = ds.getD (off + j) .any := by
          simp only [List.getD_eq_getElem?_getD, List.getElem?_take, List.getElem?_drop]
          rw [if_pos hj']
        rw [e1, e2]; exact h1
    · rw [if_neg hb] at h; cases h
  · rw [if_neg hA] at h
    by_cases hb : off < ds.length ∧ known P t = true
    · rw [if_pos hb] at h
      cases h
      have hA' : aggB P t = false := by simpa using hA
      refine ⟨c.getD off undef, ?_, (hv off hb.1).pl, noOwn_pl _⟩
      unfold part
      simp only [Sem.run_bind, rn_isAgg (known_parts hb.2).1, Result.andThen_ok, hA', Bool.false_eq_true, if_false]
      rw [getD_lt (by omega)]
      rfl
    · rw [if_neg hb] at h; cases h

theorem fieldOf_some {t : TypeId} {f off : Nat} {ft : TypeId} (h : fieldOf P t f = some (off, ft)) :
    ∃ fs fd, P.underlying t = some (.struct fs) ∧ fs[f]? = some fd ∧ fd.offset = off ∧ fd.type = ft := by
  unfold fieldOf at h
  split at h
  · rename_i fs hfs
    obtain ⟨fd, h1, h2⟩ := Option.map_eq_some_iff.1 h
    cases h2
    exact ⟨fs, fd, hfs, h1, rfl, rfl⟩
  · cases h

theorem und_info {t : TypeId} {d : TypeDesc} (h : P.underlying t = some d) : (P.info? t).isSome = true := by
  unfold Program.underlying at h
  cases hi : P.info? t with
  | none => simp [hi] at h
  | some i => rfl

theorem und_infoS {t : TypeId} (h : (P.underlying t).isSome = true) : (P.info? t).isSome = true := by
  obtain ⟨d, hd⟩ := Option.isSome_iff_exists.1 h
  exact und_info hd

theorem dPart_info {t : TypeId} {ds : List D} {off : Nat} {d : D} (h : dPart P t ds off = some d) : (P.info? t).isSome = true := by
  unfold dPart at h
  by_cases hA : aggB P t = true
  · exact und_infoS (aggB_known hA)
  · rw [if_neg hA] at h
    by_cases hb : off < ds.length ∧ known P t = true
    · exact (known_parts hb.2).2
    · rw [if_neg hb] at h; cases h

theorem run_dField {t : TypeId} {u : Value} {x d : D} {f : Nat} (hx : V σ w u x) (h : dField P t x f = some d) :
    ∃ r, (Instr.field t u f).run P w = .ok r w ∧ V σ w r d ∧ noOwn d = true := by
  unfold dField at h
  split at h
  · rename_i cs off ft hf
    obtain ⟨fs, fd, hu, hfd, rfl, rfl⟩ := fieldOf_some hf
    cases hx with
    | agg c ds hl hv =>
      obtain ⟨r, hr, h1, h2⟩ := run_dPart (dPart_info h) hl hv h
      refine ⟨r, ?_, h1, h2⟩
      simp only [Instr.field, Sem.run_bind, run_und hu, Result.andThen_ok, hfd, asAgg, Sem.run_pure, hr]
  · cases h

theorem run_dIndex {t : TypeId} {u v : Value} {x i d : D} (hx : V σ w u x) (hi : V σ w v i) (h : dIndex P t x i = some d) :
    ∃ r, (Instr.index t u v).run P w = .ok r w ∧ V σ w r d ∧ noOwn d = true := by
  unfold dIndex at h
  split at h
  · cases hi
    rename_i cs k n
    cases hx with
    | agg c ds hl hv =>
      split at h
      · rename_i len e ha
        have hu := arE_some ha
        by_cases hb : 0 ≤ n ∧ n < len
        · rw [if_pos hb] at h
          obtain ⟨r, hr, h1, h2⟩ := run_dPart (dPart_info h) hl hv h
          refine ⟨r, ?_, h1, h2⟩
          simp only [Instr.index, asIntOf, Sem.run_bind, Sem.run_pure, Result.andThen_ok, run_und hu, hb, and_self, if_true, rn_sizeOf (dPart_info h), hr]
        · rw [if_neg hb] at h; cases h
      · cases h
  · cases hi
    rename_i s k n
    cases hx with
    | str b l hl =>
      subst hl
      by_cases hb : isStr P t = true ∧ 0 ≤ n ∧ n < b.data.toList.length
      · rw [if_pos hb] at h
        cases h
        obtain ⟨h1, h2, h3⟩ := hb
        have hs : b.data.toList.length = b.size := rfl
        have h4 : n.toNat < b.size := by omega
        refine ⟨.int .u8 ((b.data.toList.getD n.toNat 0).toNat : Nat), ?_, .int _ _, rfl⟩
        have hg : b[n.toNat]? = some (b[n.toNat]) := by rw [getElem?_pos b n.toNat h4]
        have hg2 : b.data.toList.getD n.toNat 0 = b[n.toNat] := by
          rw [List.getD_eq_getElem?_getD, Array.getElem?_toList, Array.getElem?_eq_getElem (by exact h4)]
          rfl
        simp only [Instr.index, asIntOf, Sem.run_bind, Sem.run_pure, Result.andThen_ok, run_und (isStr_some h1), h2, if_true, hg, hg2]
      · rw [if_neg hb] at h; cases h
  · cases h

theorem run_dExtract {u : Value} {x d : D} {i : Nat} (hx : V σ w u x) (h : dExtract x i = some d) :
    ∃ r, (Instr.extract u i).run P w = .ok r w ∧ V σ w r d ∧ noOwn d = true := by
  unfold dExtract at h
  split at h
  · rename_i ds
    by_cases hi : i < ds.length
    · rw [if_pos hi] at h
      cases h
      cases hx with
      | tup c ds hl hv =>
        refine ⟨c.getD i undef, ?_, (hv i hi).pl, noOwn_pl _⟩
        unfold Instr.extract
        simp only []
        rw [getD_lt (by omega)]
        rfl
    · rw [if_neg hi] at h; cases h
  · cases h

theorem add_lit (b o n : Nat) : Addr.add ⟨b, o, none⟩ n = ⟨b, o + n, none⟩ := Addr.add_lit b o n

theorem run_dFieldAddr {t : TypeId} {u : Value} {x d : D} {f : Nat} (hx : V σ w u x) (h : dFieldAddr P t x f = some d) :
    ∃ r, (Instr.fieldAt t u f).run P w = .ok r w ∧ V σ w r d ∧ noOwn d = true := by
  unfold dFieldAddr at h
  split at h
  · rename_i off ft hf
    obtain ⟨fs, fd, hu, hfd, rfl, rfl⟩ := fieldOf_some hf
    by_cases h0 : 0 < P.cellsOf fd.type
    · rw [if_pos h0] at h
      have hne : ¬ (P.cellsOf fd.type = 0) := by omega
      have hgo : ∀ (b o : Nat), (Instr.fieldAt t (.pointer (some ⟨b, o, none⟩)) f).run P w = .ok (.pointer (some ⟨b, o + fd.offset, none⟩)) w := by
        intro b o
        simp only [Instr.fieldAt, Sem.run_bind, run_und hu, Result.andThen_ok, hfd, Instr.sureAddr, Sem.run_pure, fieldPlace, rn_sizeOf (info_of_cells h0), Sem.run_ite, hne, if_false, add_lit]
      split at h
      · cases h
        cases hx with
        | ptr b o hi => exact ⟨_, hgo _ _, .ptr _ _ hi, rfl⟩
      · rename_i cs
        by_cases hle : fd.offset ≤ cs.length
        · rw [if_pos hle] at h
          cases h
          cases hx with
          | rptr b o c ty fz cs hb hnp hκ hκ0 hc hv =>
            refine ⟨_, hgo _ _, .rptr b (o + fd.offset) c ty fz _ hb (fun d hd => hnp d (List.mem_of_mem_drop hd)) (by simp; omega) hκ0 hc fun j hj => ?_, rfl⟩
            have := hv (fd.offset + j) (by simp at hj; omega)
            have e2 : (cs.drop fd.offset).getD j .any = cs.getD (fd.offset + j) .any := by simp only [List.getD_eq_getElem?_getD, List.getElem?_drop]
            rw [e2, Nat.add_assoc]; exact this
        · rw [if_neg hle] at h; cases h
      · cases h
    · rw [if_neg h0] at h; cases h
  · cases h

theorem getD_cells {xs : List D} {i : Nat} (hi : i < xs.length) : xs.getD i .any ∈ xs := getD_mem hi

theorem run_dIndexAddr {t : TypeId} {u v : Value} {x i d : D} (hx : V σ w u x) (hi : V σ w v i) (h : dIndexAddr P t x i = some d) :
    ∃ r, (Instr.indexAt t u v).run P w = .ok r w ∧ V σ w r d ∧ noOwn d = true := by
  unfold dIndexAddr at h
  split at h
  · cases hi
    rename_i o xs k n
    split at h
    · rename_i e he
      have hu := slE_some he
      by_cases hb : 0 ≤ n ∧ n < xs.length ∧ (xs.getD n.toNat .any).cells.length = P.cellsOf e ∧ known P e = true
      · rw [if_pos hb] at h
        cases h
        obtain ⟨h1, h2, h3, h4⟩ := hb
        have hn : n.toNat < xs.length := by omega
        cases hx with
        | lnil a cap => simp at hn
        | lst b off cap E c ty fz _ _ len hlen hcap hbk hE hnp hκ hκ0 hc hv =>
          have hEe : P.cellsOf e = E := by rw [← h3]; exact hE _ (getD_mem hn)
          refine ⟨.pointer (some ⟨b, off + n.toNat * P.cellsOf e, none⟩), ?_, ?_, rfl⟩
          · have hsl : (match (TypeDesc.slice e) with | .array .. => true | _ => false) = false := rfl
            have h2' : n < (len : Int) := by rw [hlen]; exact h2
            simp only [Instr.indexAt, asIntOf, Sem.run_bind, Sem.run_pure, Result.andThen_ok, run_und hu, Sem.run_ite, h1, h2', and_self, if_true, rn_sizeOf (known_parts h4).2, add_lit]
          · have hle : (n.toNat + 1) * E ≤ xs.length * E := Nat.mul_le_mul_right _ hn
            rw [Nat.add_mul] at hle
            refine .rptr b _ c ty fz _ hbk (hnp _ (getD_mem hn)) (by rw [h3, hEe]; omega) hκ0 hc fun j hj => ?_
            rw [hEe]
            exact hv n.toNat hn j (by rw [h3, hEe] at hj; exact hj)
      · rw [if_neg hb] at h; cases h
    · cases h
  · cases hi
    rename_i b off len cap e' k n
    split at h
    · rename_i e he
      have hu := slE_some he
      by_cases hb : 0 ≤ n ∧ n < len ∧ e' = P.cellsOf e ∧ known P e = true
      · rw [if_pos hb] at h
        cases h
        obtain ⟨h1, h2, h3, h4⟩ := hb
        cases hx with
        | ref _ _ _ _ _ hin hcap =>
          refine ⟨_, ?_, .ptr b (off + n.toNat * P.cellsOf e) hin, rfl⟩
          simp only [Instr.indexAt, asIntOf, Sem.run_bind, Sem.run_pure, Result.andThen_ok, run_und hu, Sem.run_ite, h1, h2, and_self, if_true, rn_sizeOf (known_parts h4).2, add_lit]
      · rw [if_neg hb] at h; cases h
    · cases h
  · cases hi
    rename_i b off k n
    split at h
    · rename_i len e he
      have hu := arE_some he
      by_cases hb : 0 ≤ n ∧ n < len ∧ known P e = true
      · rw [if_pos hb] at h
        cases h
        obtain ⟨h1, h2, h4⟩ := hb
        cases hx with
        | ptr _ _ hin =>
          refine ⟨_, ?_, .ptr b (off + n.toNat * P.cellsOf e) hin, rfl⟩
          simp only [Instr.indexAt, Instr.sureAddr, asIntOf, Sem.run_bind, Sem.run_pure, Result.andThen_ok, run_und hu, Sem.run_ite, h1, h2, and_self, if_true, rn_sizeOf (known_parts h4).2, add_lit]
      · rw [if_neg hb] at h; cases h
    · cases h
  · cases hi
    rename_i cs k n
    split at h
    · rename_i len e he
      have hu := arE_some he
      by_cases hb : 0 ≤ n ∧ n < len ∧ n.toNat * P.cellsOf e ≤ cs.length ∧ known P e = true
      · rw [if_pos hb] at h
        cases h
        obtain ⟨h1, h2, h3, h4⟩ := hb
        cases hx with
        | rptr b o c ty fz cs hb hnp hκ hκ0 hc hv =>
          refine ⟨.pointer (some ⟨b, o + n.toNat * P.cellsOf e, none⟩), ?_, .rptr b _ c ty fz _ hb (fun d hd => hnp d (List.mem_of_mem_drop hd)) (by simp; omega) hκ0 hc fun j hj => ?_, rfl⟩
          · simp only [Instr.indexAt, Instr.sureAddr, asIntOf, Sem.run_bind, Sem.run_pure, Result.andThen_ok, run_und hu, Sem.run_ite, h1, h2, and_self, if_true, rn_sizeOf (known_parts h4).2, add_lit]
          · have := hv (n.toNat * P.cellsOf e + j) (by simp at hj; omega)
            have e2 : (cs.drop (n.toNat * P.cellsOf e)).getD j .any = cs.getD (n.toNat * P.cellsOf e + j) .any := by simp only [List.getD_eq_getElem?_getD, List.getElem?_drop]
            rw [e2, Nat.add_assoc]; exact this
      · rw [if_neg hb] at h; cases h
    · cases h
  · cases h

end
end Dl
