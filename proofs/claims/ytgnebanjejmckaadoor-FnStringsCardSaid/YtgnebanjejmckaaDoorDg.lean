/- Conversions, comparisons, structs and arrays that are built. -/
import Derived.Test.YtgnebanjejmckaaDoorDf
import Derived.Laws.BytesArg
namespace Dl
open Go

section
variable {P : Program} {σ : Sig} {w : World}

theorem mapM_some {α β : Type} {f : α → Option β} : ∀ {l : List α} {r : List β}, l.mapM f = some r → r.length = l.length ∧ ∀ i, i < l.length → ∀ (da : α) (db : β), f (l.getD i da) = some (r.getD i db)
  | [], r, h => by simp at h; subst h; simp
  | a :: l, r, h => by
    rw [List.mapM_cons] at h
    simp only [bind, Option.bind_eq_some_iff, pure, Option.some.injEq] at h
    obtain ⟨b, h1, r', h2, rfl⟩ := h
    obtain ⟨h3, h4⟩ := mapM_some h2
    refine ⟨by simp [h3], fun i hi da db => ?_⟩
    cases i with
    | zero => simpa using h1
    | succ i => simpa using h4 i (by simpa using hi) da db

theorem byteD_some {d : D} {b : UInt8} (h : byteD d = some b) : ∃ n, d = .int .u8 n ∧ b = UInt8.ofNat n.toNat := by
  unfold byteD at h
  split at h
  · cases h; exact ⟨_, rfl, rfl⟩
  · cases h

theorem run_dConv {s t : TypeId} {u : Value} {x d : D} (hx : V σ w u x) (h : dConv P s t x = some d) :
    ∃ r, (convert s t u).run P w = .ok r w ∧ V σ w r d ∧ noOwn d = true := by
  unfold dConv at h
  split at h
  · cases hx
    rename_i k n
    split at h
    · rename_i k0 k' hs hk
      cases h
      exact ⟨.int k' (k'.wrap n), by simp [convert, run_und hs, run_und (kindOf_some hk), Conv.intToInt], .int _ _, rfl⟩
    · cases h
  · cases hx with
    | str b l hl =>
      subst hl
      by_cases hb : (isStr P s && isStr P t) = true
      · rw [if_pos hb] at h; cases h
        simp only [Bool.and_eq_true] at hb
        exact ⟨.string b, by simp [convert, run_und (isStr_some hb.1), run_und (isStr_some hb.2)], .str _ _ rfl, rfl⟩
      · rw [if_neg hb] at h; cases h
  · rename_i o xs
    split at h
    · rename_i e he
      by_cases hb : kindOf P e = some .u8 ∧ isStr P t = true
      · rw [if_pos hb] at h
        obtain ⟨bs, h1, rfl⟩ := Option.map_eq_some_iff.1 h
        obtain ⟨h2, h3⟩ := mapM_some h1
        have hs := slE_some he
        have hk := kindOf_some hb.1
        have ht := isStr_some hb.2
        cases hx with
        | lnil a cap =>
          have hbs : bs = [] := List.eq_nil_of_length_eq_zero (by simpa using h2)
          subst hbs
          refine ⟨.string (strOfNums []), ?_, .str _ _ rfl, rfl⟩
          cases a with
          | none => exact run_convert_bytes_nil w s e hs hk 0 cap t ht
          | some a =>
            have hl : (loadCells a 0).run P w = .ok (([] : List Int).map (Value.int .u8)).toArray w := rfl
            rw [run_convert_bytes_string w s t e _ 0 cap hs hk ht, run_bytesToString w _ 0 cap [] hl, foldl_push_bytes]
            rfl
        | lst b off cap E c ty fz _ _ len hlen hcap hbk hE hnp hκ hκ0 hc hv =>
          subst hlen
          -- the elements are bytes, of one cell each
          have hel : ∀ i, i < xs.length → ∃ n, xs.getD i .any = .int .u8 n ∧ bs.getD i 0 = UInt8.ofNat n.toNat := fun i hi => by
            obtain ⟨n, hn, hn'⟩ := byteD_some (h3 i hi .any 0)
            exact ⟨n, hn, hn'⟩
          rcases Nat.eq_zero_or_pos xs.length with h0 | h0
          · have hbs : bs = [] := List.eq_nil_of_length_eq_zero (by omega)
            subst hbs
            refine ⟨.string (strOfNums []), ?_, .str _ _ rfl, rfl⟩
            rw [h0]
            have hl : (loadCells ⟨b, off, none⟩ 0).run P w = .ok (([] : List Int).map (Value.int .u8)).toArray w := rfl
            rw [run_convert_bytes_string w s t e _ 0 cap hs hk ht, run_bytesToString w _ 0 cap [] hl, foldl_push_bytes]
            rfl
          · have hE1 : E = 1 := by
              obtain ⟨n, hn, _⟩ := hel 0 h0
              have := hE _ (getD_mem (d := .any) h0)
              rw [hn] at this
              simpa [D.cells] using this.symm
            subst hE1
            obtain ⟨ns, hnl, hns⟩ : ∃ ns : List Int, ns.length = xs.length ∧ ∀ i, i < xs.length → xs.getD i .any = .int .u8 (ns.getD i 0) ∧ bs.getD i 0 = UInt8.ofNat (ns.getD i 0).toNat := by
              refine ⟨(List.range xs.length).map fun i => match xs.getD i .any with | .int _ n => n | _ => 0, by simp, fun i hi => ?_⟩
              obtain ⟨n, hn, hn'⟩ := hel i hi
              have : ((List.range xs.length).map fun i => match xs.getD i .any with | .int _ n => n | _ => 0).getD i 0 = n := by
                simp only [List.getD_eq_getElem?_getD, List.getElem?_map, List.getElem?_range hi, Option.map_some, Option.getD_some]
                rw [← List.getD_eq_getElem?_getD, hn]
              rw [this]; exact ⟨hn, hn'⟩
            have hcell : ∀ i, i < xs.length → w.cell? ⟨b, off + i, none⟩ = some (.int .u8 (ns.getD i 0)) := fun i hi => by
              rw [cell_at hbk (by simp at hκ; omega)]
              have := hv i hi 0 (by omega)
              rw [(hns i hi).1] at this
              simp only [Nat.mul_one, Nat.add_zero, D.cells, List.getD_cons_zero] at this
              revert this
              generalize c.getD (off + i) undef = v
              intro this
              cases this
              rfl
            refine ⟨.string (strOfNums ns), run_convert_bytes_arg w s e hs hk b off xs.length cap ns hnl hcell t ht, .str _ _ ?_, rfl⟩
            rw [strOfNums_data]
            apply List.ext_getElem?
            intro i
            rcases Nat.lt_or_ge i xs.length with hi | hi
            · have h5 := (hns i hi).2
              have e1 : bs[i]? = some (bs.getD i 0) := by rw [List.getD_eq_getElem?_getD, List.getElem?_eq_getElem (by omega)]; rfl
              have e2 : ns[i]? = some (ns.getD i 0) := by rw [List.getD_eq_getElem?_getD, List.getElem?_eq_getElem (by omega)]; rfl
              rw [List.getElem?_map, e1, e2, h5]; rfl
            · rw [List.getElem?_eq_none (by simp; omega), List.getElem?_eq_none (by omega)]
      · rw [if_neg hb] at h; cases h
    · cases h
  · cases h

/-! ### '==' -/

theorem run_eqScal {t : TypeId} {u v : Value} {x y : D} {b : Bool} (n : Nat) (hx : V σ w u x) (hy : V σ w v y) (h : eqScal P t x y = some b) :
    (Op.equalIn (n + 1) t u v).run P w = .ok b w := by
  unfold eqScal at h
  split at h
  · cases hx; cases hy
    rename_i a b'
    by_cases hb : isBool P t = true
    · rw [if_pos hb] at h; cases h
      rw [run_equalIn_bool w n t a b' (isBool_some hb)]
      congr 1
    · rw [if_neg hb] at h; cases h
  · cases hx; cases hy
    rename_i k a k' b'
    by_cases hb : k = k' ∧ (kindOf P t).isSome = true
    · rw [if_pos hb] at h; cases h
      obtain ⟨k0, hk0⟩ := Option.isSome_iff_exists.1 hb.2
      rw [hb.1, run_equalIn_int w n t k' k0 a b' (kindOf_some hk0)]
      rfl
    · rw [if_neg hb] at h; cases h
  · cases hx with
    | str s l hl => cases hy with
      | str s' l' hl' =>
        subst hl; subst hl'
        by_cases hb : isStr P t = true
        · rw [if_pos hb] at h; cases h
          rw [run_equalIn_string w n t s s' (isStr_some hb), bytes_toList, bytes_toList]
          congr 1
          rw [Bool.eq_iff_iff]; simp
        · rw [if_neg hb] at h; cases h
  · cases h

theorem arrEq_some {t e : TypeId} {n : Nat} (h : arrEq P t = some (n, e)) : P.underlying t = some (.array n e) ∧ P.eqGuardType P.depth t = false := by
  unfold arrEq at h
  split at h
  · rename_i n' e' hu
    by_cases hb : (!P.eqGuardType P.depth t) = true
    · rw [if_pos hb] at h; cases h; exact ⟨hu, by simpa using hb⟩
    · rw [if_neg hb] at h; cases h
  · cases h

theorem eqScal_info {t : TypeId} {x y : D} {b : Bool} (h : eqScal P t x y = some b) : (P.underlying t).isSome = true ∧ aggB P t = false := by
  unfold eqScal at h
  split at h
  · by_cases hb : isBool P t = true
    · have := isBool_some hb; simp [aggB, this]
    · rw [if_neg hb] at h; cases h
  · rename_i k a k' b'
    by_cases hb : k = k' ∧ (kindOf P t).isSome = true
    · obtain ⟨k0, hk0⟩ := Option.isSome_iff_exists.1 hb.2
      have := kindOf_some hk0; simp [aggB, this]
    · rw [if_neg hb] at h; cases h
  · by_cases hb : isStr P t = true
    · have := isStr_some hb; simp [aggB, this]
    · rw [if_neg hb] at h; cases h
  · cases h

theorem run_part_scal {t : TypeId} {c : Array Value} {off : Nat} (h1 : (P.underlying t).isSome = true) (h2 : aggB P t = false) (ho : off < c.size) :
    (part t c off).run P w = .ok (c.getD off undef) w := by
  unfold part
  simp only [Sem.run_bind, rn_isAgg h1, Result.andThen_ok, h2, Bool.false_eq_true, if_false]
  rw [getD_lt ho]; rfl

theorem eqRow_run {e : TypeId} (n : Nat) (c c' : Array Value) (h1 : P.cellsOf e = 1) : ∀ (xs ys : List D) (s : Nat) (b : Bool),
    eqRow P e xs ys = some b → s + xs.length ≤ c.size → s + ys.length ≤ c'.size →
    (∀ j, j < xs.length → V σ w (c.getD (s + j) undef) (xs.getD j .any)) → (∀ j, j < ys.length → V σ w (c'.getD (s + j) undef) (ys.getD j .any)) →
    (Op.eqItems (n + 1) e (P.cellsOf e) c c' (List.range' s xs.length)).run P w = .ok b w
  | [], [], s, b, h, _, _, _, _ => by cases h; simp [Op.eqItems]
  | x :: xs, y :: ys, s, b, h, hs, hs', hv, hv' => by
    unfold eqRow at h
    obtain ⟨b0, hb0, hb1⟩ := Option.bind_eq_some_iff.1 h
    have hi := eqScal_info hb0
    have e0 := hv 0 (by simp)
    have e0' := hv' 0 (by simp)
    simp only [Nat.add_zero, List.getD_cons_zero] at e0 e0'
    have hq := run_eqScal n e0 e0' hb0
    simp only [List.length_cons, List.range'_succ, Op.eqItems, h1, Nat.mul_one, Sem.run_bind]
    rw [run_part_scal hi.1 hi.2 (by simp at hs; omega)]
    simp only [Result.andThen_ok]
    rw [run_part_scal hi.1 hi.2 (by simp at hs'; omega)]
    simp only [Result.andThen_ok, hq]
    cases b0 with
    | false =>
      simp only [Bool.false_eq_true, if_false] at hb1
      cases hb1
      simp
    | true =>
      simp only [if_true] at hb1
      have ih := eqRow_run n c c' h1 xs ys (s + 1) b hb1 (by simp at hs; omega) (by simp at hs'; omega)
        (fun j hj => by have := hv (j + 1) (by simpa using hj); rw [show s + 1 + j = s + (j + 1) by omega]; simpa using this)
        (fun j hj => by have := hv' (j + 1) (by simpa using hj); rw [show s + 1 + j = s + (j + 1) by omega]; simpa using this)
      rw [h1] at ih
      simpa using ih

theorem eqPart_run {t : TypeId} (n : Nat) (c c' : Array Value) (xs ys : List D) (off : Nat) (b : Bool) (hl : c.size = xs.length) (hl' : c'.size = ys.length)
    (hv : ∀ j, j < xs.length → V σ w (c.getD j undef) (xs.getD j .any)) (hv' : ∀ j, j < ys.length → V σ w (c'.getD j undef) (ys.getD j .any))
    (h : eqPart P t xs ys off = some b) :
    ∃ u v, (part t c off).run P w = .ok u w ∧ (part t c' off).run P w = .ok v w ∧ (Op.equalIn (n + 2) t u v).run P w = .ok b w := by
  unfold eqPart at h
  split at h
  · rename_i m e ha
    obtain ⟨hu, hg⟩ := arrEq_some ha
    by_cases hb : P.cellsOf e = 1 ∧ P.cellsOf t = m ∧ off + m ≤ xs.length ∧ off + m ≤ ys.length
    · rw [if_pos hb] at h
      obtain ⟨h1, h2, h3, h4⟩ := hb
      have hA : aggB P t = true := by simp [aggB, hu]
      have hp : ∀ c : Array Value, (part t c off).run P w = .ok (.agg (c.extract off (off + m))) w := fun c => by
        unfold part
        simp only [Sem.run_bind, rn_isAgg (aggB_known hA), Result.andThen_ok, hA, if_true, rn_sizeOf (und_info hu), Sem.run_pure, h2]
      refine ⟨_, _, hp c, hp c', ?_⟩
      have hei : (P.info? e).isSome = true := info_of_cells (by omega)
      obtain ⟨i, hi⟩ := Option.isSome_iff_exists.1 hei
      rw [run_equalIn_array w (n + 1) _ _ hu hi, List.range_eq_range']
      have e1 : ∀ (l : List D), off + m ≤ l.length → ((l.drop off).take m).length = m := fun l hl => by simp; omega
      have r := eqRow_run (σ := σ) (w := w) n (c.extract off (off + m)) (c'.extract off (off + m)) h1 _ _ 0 b h (by rw [e1 xs h3]; simp; omega) (by rw [e1 ys h4]; simp; omega)
        (fun j hj => ?_) (fun j hj => ?_)
      · rw [e1 xs h3] at r; exact r
      · rw [e1 xs h3] at hj
        have := hv (off + j) (by omega)
        have ea : (c.extract off (off + m)).getD (0 + j) undef = c.getD (off + j) undef := by
          simp only [Array.getD_eq_getD_getElem?]; rw [Array.getElem?_extract, if_pos (by omega), Nat.zero_add]
        have eb : ((xs.drop off).take m).getD j .any = xs.getD (off + j) .any := by
          simp only [List.getD_eq_getElem?_getD, List.getElem?_take, List.getElem?_drop]; rw [if_pos hj]
        rw [ea, eb]; exact this
      · rw [e1 ys h4] at hj
        have := hv' (off + j) (by omega)
        have ea : (c'.extract off (off + m)).getD (0 + j) undef = c'.getD (off + j) undef := by
          simp only [Array.getD_eq_getD_getElem?]; rw [Array.getElem?_extract, if_pos (by omega), Nat.zero_add]
        have eb : ((ys.drop off).take m).getD j .any = ys.getD (off + j) .any := by
          simp only [List.getD_eq_getElem?_getD, List.getElem?_take, List.getElem?_drop]; rw [if_pos hj]
        rw [ea, eb]; exact this
    · rw [if_neg hb] at h; cases h
  · by_cases hb : off < xs.length ∧ off < ys.length ∧ aggB P t = false
    · rw [if_pos hb] at h
      have hi := eqScal_info h
      exact ⟨_, _, run_part_scal hi.1 hi.2 (by omega), run_part_scal hi.1 hi.2 (by omega), run_eqScal (n + 1) (hv off hb.1) (hv' off hb.2.1) h⟩
    · rw [if_neg hb] at h; cases h

theorem eqFields_run (n : Nat) (c c' : Array Value) (xs ys : List D) (hl : c.size = xs.length) (hl' : c'.size = ys.length)
    (hv : ∀ j, j < xs.length → V σ w (c.getD j undef) (xs.getD j .any)) (hv' : ∀ j, j < ys.length → V σ w (c'.getD j undef) (ys.getD j .any)) :
    ∀ (fs : List Field) (b : Bool), (fs.all fun f => f.name != "_") = true → eqFields P xs ys (fs.map fun f => (f.offset, f.type)) = some b →
      (Op.eqFields (n + 2) c c' fs).run P w = .ok b w
  | [], b, _, h => by cases h; rfl
  | f :: fs, b, hn, h => by
    simp only [List.map_cons, eqFields] at h
    obtain ⟨b0, h0, h1⟩ := Option.bind_eq_some_iff.1 h
    obtain ⟨u, v, hu, hv1, he⟩ := eqPart_run n c c' xs ys f.offset b0 hl hl' hv hv' h0
    simp only [List.all_cons, Bool.and_eq_true, bne_iff_ne, ne_eq] at hn
    simp only [Op.eqFields, ne_eq, hn.1, not_false_eq_true, if_true, Sem.run_bind, hu, hv1, he, Result.andThen_ok]
    cases b0 with
    | false => simp only [Bool.false_eq_true, if_false] at h1; cases h1; rfl
    | true =>
      simp only [if_true] at h1
      simp only [Bool.not_true, Bool.false_eq_true, if_false]
      exact eqFields_run n c c' xs ys hl hl' hv hv' fs b hn.2 h1

theorem eqIface_run (n : Nat) {t : TypeId} {ms : Array (String × TypeId)} (hm : P.underlying t = some (.interface ms)) (ti : TypeId) (vi : Value) :
    (Op.equalIn (n + 1) t (.iface ti vi) .nilIface).run P w = .ok false w := by
  simp only [Op.equalIn, Sem.run_bind, run_und hm, Result.andThen_ok, Sem.run_pure]
theorem eqNil_run (n : Nat) {t : TypeId} {ms : Array (String × TypeId)} (hm : P.underlying t = some (.interface ms)) :
    (Op.equalIn (n + 1) t .nilIface .nilIface).run P w = .ok true w := by
  simp only [Op.equalIn, Sem.run_bind, run_und hm, Result.andThen_ok, Sem.run_pure]

theorem run_dEq {t : TypeId} {u v : Value} {x y : D} {b : Bool} (X Y : Operand) (hx : V σ w u x) (hy : V σ w v y) (h : eqD P (Region.isConst Y) t x y = some b) :
    (Op.equal t u v).run P w = .ok b w ∧ (∀ op, (eqGuard op t X Y u v).run P w = .ok () w) ∧ ((∃ c, u = .agg c) ∨ (∃ b, u = .bool b) ∨ (∃ t v, u = .iface t v) ∨ u = .nilIface) := by
  unfold eqD at h
  split at h
  · rename_i xs ys
    cases hx with
    | agg c _ hl hv => cases hy with
      | agg c' _ hl' hv' =>
        split at h
        · rename_i fs hfs
          unfold fieldsOf at hfs
          split at hfs
          · rename_i fa hu
            by_cases hb : ((fa.toList.all fun f => f.name != "_") && !P.stoodInHeld t && !P.eqGuardType P.depth t) = true
            · rw [if_pos hb] at hfs
              cases hfs
              simp only [Bool.and_eq_true, Bool.not_eq_true'] at hb
              have hfe : P.fieldsOf t = fa := by simp [Program.fieldsOf, hu]
              refine ⟨?_, fun op => run_eqGuard_agg w op t X Y c c' hb.2, by simp⟩
              unfold Op.equal
              rw [show Op.maxDepth = 9997 + 2 + 1 from rfl, run_equalIn_struct w _ t c c' (by rw [hfe, hu]) hb.1.2, hfe]
              exact eqFields_run 9997 c c' xs ys hl hl' hv hv' _ b hb.1.1 h
            · rw [if_neg hb] at hfs; cases hfs
          · cases hfs
        · split at h
          · rename_i m e ha
            obtain ⟨hu, hg⟩ := arrEq_some ha
            by_cases hb : xs.length = m ∧ ys.length = m
            · rw [if_pos hb] at h
              obtain ⟨p, q, hp, hq, he⟩ := eqPart_run 9998 c c' xs ys 0 b hl hl' hv hv' h
              have hA : aggB P t = true := by simp [aggB, hu]
              refine ⟨?_, fun op => run_eqGuard_agg w op t X Y c c' hg, by simp⟩
              have hcell : P.cellsOf t = m := by
                unfold eqPart at h
                rw [ha] at h
                simp only [] at h
                by_cases hb' : P.cellsOf e = 1 ∧ P.cellsOf t = m ∧ 0 + m ≤ xs.length ∧ 0 + m ≤ ys.length
                · exact hb'.2.1
                · rw [if_neg hb'] at h; cases h
              have hpart : ∀ c : Array Value, c.size = m → (part t c 0).run P w = .ok (.agg c) w := fun c hc => by
                unfold part
                simp only [Sem.run_bind, rn_isAgg (aggB_known hA), Result.andThen_ok, hA, if_true, rn_sizeOf (und_info hu), Sem.run_pure, hcell]
                rw [Nat.zero_add, ← hc, Array.extract_size]
              rw [hpart c (by omega)] at hp
              rw [hpart c' (by omega)] at hq
              cases hp; cases hq
              exact he
            · rw [if_neg hb] at h; cases h
          · cases h
  · cases hx; cases hy
    rename_i a b'
    by_cases hb : isBool P t = true
    · rw [if_pos hb] at h; cases h
      refine ⟨?_, fun op => run_eqGuard op t X Y _ _ (by simp), by simp⟩
      rw [run_equal_bool w t a b' (isBool_some hb)]
      congr 1
    · rw [if_neg hb] at h; cases h
  · cases hx; cases hy
    rename_i ti vi
    by_cases hb : isIface P t = true
    · rw [if_pos hb] at h; cases h
      obtain ⟨ms, hm⟩ := isIface_some hb
      refine ⟨?_, fun op => run_eqGuard op t X Y _ _ (by simp), by simp⟩
      exact eqIface_run 9999 hm _ _
    · rw [if_neg hb] at h; cases h
  · cases hx; cases hy
    by_cases hb : isIface P t = true ∧ Region.isConst Y = true
    · rw [if_pos hb] at h; cases h
      obtain ⟨ms, hm⟩ := isIface_some hb.1
      obtain ⟨c, rfl⟩ : ∃ c, Y = .const c := by
        have := hb.2
        unfold Region.isConst at this
        split at this
        · exact ⟨_, rfl⟩
        · cases this
      refine ⟨?_, fun op => by rw [eqGuard_nil_constR]; rfl, by simp⟩
      exact eqNil_run 9999 hm
    · rw [if_neg hb] at h; cases h
  · cases h


theorem run_dBinT {op : BinOp} {t : TypeId} {u v : Value} {x y d : D} (X Y : Operand) (hx : V σ w u x) (hy : V σ w v y) (h : dBinT P (Region.isConst Y) op t x y = some d) :
    ∃ r, ((eqGuard op t X Y u v >>= fun _ => binOp op t u v) : Sem Value).run P w = .ok r w ∧ V σ w r d ∧ noOwn d = true := by
  have plain : dBin op x y = some d → ∃ r, ((eqGuard op t X Y u v >>= fun _ => binOp op t u v) : Sem Value).run P w = .ok r w ∧ V σ w r d ∧ noOwn d = true := fun h => by
    obtain ⟨⟨r, hr, h1, h2⟩, h3⟩ := run_dBin op t u v x y d hx hy h
    refine ⟨r, ?_, h1, h2⟩
    rw [Sem.run_bind, run_eqGuard op t X Y u v h3]
    exact hr
  unfold dBinT at h
  split at h
  · exact plain h
  · exact plain h
  · split at h
    · obtain ⟨b, hb, rfl⟩ := Option.map_eq_some_iff.1 h
      obtain ⟨h1, h2, h3⟩ := run_dEq X Y hx hy hb
      refine ⟨.bool b, ?_, .bool b, rfl⟩
      rw [Sem.run_bind, h2]
      simp only [Result.andThen_ok]
      have : binOp .eql t u v = (do pure (.bool (← Op.equal t u v))) := by
        rcases h3 with ⟨c, rfl⟩ | ⟨b, rfl⟩ | ⟨t, v', rfl⟩ | rfl <;> cases v <;> rfl
      rw [this, Sem.run_bind, h1]; rfl
    · obtain ⟨b, hb, rfl⟩ := Option.map_eq_some_iff.1 h
      obtain ⟨h1, h2, h3⟩ := run_dEq X Y hx hy hb
      refine ⟨.bool (!b), ?_, .bool _, rfl⟩
      rw [Sem.run_bind, h2]
      simp only [Result.andThen_ok]
      have : binOp .neq t u v = (do pure (.bool (!(← Op.equal t u v)))) := by
        rcases h3 with ⟨c, rfl⟩ | ⟨b, rfl⟩ | ⟨t, v', rfl⟩ | rfl <;> cases v <;> rfl
      rw [this, Sem.run_bind, h1]; rfl
    · cases h

/-! ### Building -/

def CV (σ : Sig) (w : World) (c : Array Value) (ds : List D) : Prop := c.size = ds.length ∧ ∀ j, j < ds.length → V σ w (c.getD j undef) (ds.getD j .any)

theorem V.cv {u : Value} {d : D} (h : V σ w u d) (hs : d.cells.all D.sc = true) : CV σ w u.cells d.cells := by
  cases h with
  | agg c ds hl hv => exact ⟨hl, hv⟩
  | any v => simp [D.cells, D.sc] at hs
  | tup c ds hl hv => simp [D.cells, D.sc] at hs
  | int k n => exact ⟨rfl, fun j hj => by obtain rfl : j = 0 := by simpa [D.cells] using hj
                                          exact .int k n⟩
  | bool b => exact ⟨rfl, fun j hj => by obtain rfl : j = 0 := by simpa [D.cells] using hj
                                         exact .bool b⟩
  | str s l hl => exact ⟨rfl, fun j hj => by obtain rfl : j = 0 := by simpa [D.cells] using hj
                                             exact .str s l hl⟩
  | lnil a cap o => exact ⟨rfl, fun j hj => by obtain rfl : j = 0 := by simpa [D.cells] using hj
                                               exact .lnil a cap o⟩
  | lst b off cap E c ty fz o xs len hlen hcap hb hE hnp h1 h2 hc h =>
    exact ⟨rfl, fun j hj => by obtain rfl : j = 0 := by simpa [D.cells] using hj
                               exact .lst b off cap E c ty fz o xs len hlen hcap hb hE hnp h1 h2 hc h⟩
  | ref i off len cap e hi hcap => exact ⟨rfl, fun j hj => by obtain rfl : j = 0 := by simpa [D.cells] using hj
                                                              exact .ref i off len cap e hi hcap⟩
  | ptr i off hi => exact ⟨rfl, fun j hj => by obtain rfl : j = 0 := by simpa [D.cells] using hj
                                               exact .ptr i off hi⟩
  | rptr b off c ty fz cs hb hnp h1 h2 hc h => exact ⟨rfl, fun j hj => by obtain rfl : j = 0 := by simpa [D.cells] using hj
                                                                          exact .rptr b off c ty fz cs hb hnp h1 h2 hc h⟩
  | nilp => exact ⟨rfl, fun j hj => by obtain rfl : j = 0 := by simpa [D.cells] using hj
                                       exact .nilp⟩
  | nili => exact ⟨rfl, fun j hj => by obtain rfl : j = 0 := by simpa [D.cells] using hj
                                       exact .nili⟩
  | nilf => exact ⟨rfl, fun j hj => by obtain rfl : j = 0 := by simpa [D.cells] using hj
                                       exact .nilf⟩
  | ifc t v => exact ⟨rfl, fun j hj => by obtain rfl : j = 0 := by simpa [D.cells] using hj
                                          exact .ifc t v⟩
  | fn f c cs hl h => exact ⟨rfl, fun j hj => by obtain rfl : j = 0 := by simpa [D.cells] using hj
                                                 exact .fn f c cs hl h⟩

theorem CV.one {u : Value} {d : D} (h : V σ w u d) : CV σ w #[u] [d] :=
  ⟨rfl, fun j hj => by obtain rfl : j = 0 := by simpa using hj
                       exact h⟩

theorem CV.pl {c : Array Value} {ds : List D} (h : CV σ w c ds) : CV σ w c (ds.map D.pl) := by
  refine ⟨by simp [h.1], fun j hj => ?_⟩
  have hj' : j < ds.length := by simpa using hj
  have e : (ds.map D.pl).getD j .any = (ds.getD j .any).pl := by
    simp only [List.getD_eq_getElem?_getD, List.getElem?_map, List.getElem?_eq_getElem hj', Option.map_some, Option.getD_some]
  rw [e]; exact (h.2 j hj').pl

/-- Cells written one after the other. -/
theorem foldl_set (off : Nat) : ∀ (vs : List Value) (s : Nat) (cs : Array Value),
    let r := (vs.zipIdx s).foldl (fun cs (p : Value × Nat) => cs.setIfInBounds (off + p.2) p.1) cs
    r.size = cs.size ∧ ∀ j, r.getD j undef = if off + s ≤ j ∧ j < off + s + vs.length ∧ j < cs.size then vs.getD (j - (off + s)) undef else cs.getD j undef
  | [], s, cs => ⟨rfl, fun j => by simp; omega⟩
  | v :: vs, s, cs => by
    obtain ⟨h1, h2⟩ := foldl_set off vs (s + 1) (cs.setIfInBounds (off + s) v)
    refine ⟨by simpa using h1, fun j => ?_⟩
    have := h2 j
    simp only [List.zipIdx_cons, List.foldl_cons] at this ⊢
    rw [this]
    simp only [Array.size_setIfInBounds, List.length_cons]
    by_cases hj : j = off + s
    · subst hj
      rw [if_neg (by omega)]
      by_cases hs : off + s < cs.size
      · rw [if_pos ⟨by omega, by omega, hs⟩, Nat.sub_self]
        simp [hs]
      · rw [if_neg (by omega)]
        simp [hs]
    · have e : (cs.setIfInBounds (off + s) v).getD j undef = cs.getD j undef := by
        simp only [Array.getD_eq_getD_getElem?]; rw [Array.getElem?_setIfInBounds_ne (by omega)]
      rw [e]
      by_cases hc : off + (s + 1) ≤ j ∧ j < off + (s + 1) + vs.length ∧ j < cs.size
      · rw [if_pos hc, if_pos (by omega)]
        rw [show j - (off + s) = (j - (off + (s + 1))) + 1 by omega]
        simp
      · rw [if_neg hc]
        by_cases hc' : off + s ≤ j ∧ j < off + s + (vs.length + 1) ∧ j < cs.size
        · exfalso; omega
        · rw [if_neg hc']

theorem CV.fill1 {c : Array Value} {ds : List D} {vs : Array Value} {es : List D} (h : CV σ w c ds) (hv : CV σ w vs es) (off : Nat) (hle : off + es.length ≤ ds.length) :
    CV σ w (vs.zipIdx.foldl (fun cs (p : Value × Nat) => cs.setIfInBounds (off + p.2) p.1) c) (ds.take off ++ es ++ ds.drop (off + es.length)) := by
  have hz : vs.zipIdx.foldl (fun cs (p : Value × Nat) => cs.setIfInBounds (off + p.2) p.1) c = (vs.toList.zipIdx 0).foldl (fun cs (p : Value × Nat) => cs.setIfInBounds (off + p.2) p.1) c := by
    rw [← Array.foldl_toList, Array.toList_zipIdx]
  rw [hz]
  obtain ⟨h1, h2⟩ := foldl_set off vs.toList 0 c
  refine ⟨?_, fun j hj => ?_⟩
  · rw [h1, h.1]; simp; omega
  · have hjl : j < ds.length := by simp at hj; omega
    rw [h2 j]
    have hvl : vs.toList.length = es.length := by simpa using hv.1
    simp only [Nat.add_zero, hvl]
    by_cases hc : off ≤ j ∧ j < off + es.length
    · rw [if_pos ⟨hc.1, hc.2, by rw [h.1]; exact hjl⟩]
      have e1 : vs.toList.getD (j - off) undef = vs.getD (j - off) undef := by
        rw [List.getD_eq_getElem?_getD, Array.getD_eq_getD_getElem?, Array.getElem?_toList]
      have e2 : (ds.take off ++ es ++ ds.drop (off + es.length)).getD j .any = es.getD (j - off) .any := by
        simp only [List.getD_eq_getElem?_getD]
        rw [List.append_assoc, List.getElem?_append_right (by simp; omega), List.getElem?_append_left (by simp; omega)]
        congr 2
        simp; omega
      rw [e1, e2]; exact hv.2 _ (by omega)
    · rw [if_neg (by omega)]
      have e2 : (ds.take off ++ es ++ ds.drop (off + es.length)).getD j .any = ds.getD j .any := by
        simp only [List.getD_eq_getElem?_getD]
        rcases Nat.lt_or_ge j off with hlt | hge
        · rw [List.append_assoc, List.getElem?_append_left (by simp; omega), List.getElem?_take, if_pos hlt]
        · rw [List.getElem?_append_right (by simp; omega), List.getElem?_drop]
          congr 2
          simp; omega
      rw [e2]; exact h.2 j hjl

theorem fill_run {place place' : Nat → Option (Nat × Nat)} (hp : ∀ i x, place' i = some x → place i = some x) : ∀ (parts : List (Nat × Value)) (dparts : List (Nat × D)) (c : Array Value) (ds r : List D),
    parts.map (·.1) = dparts.map (·.1) → (∀ i, i < parts.length → V σ w ((parts.getD i default).2) ((dparts.getD i default).2)) →
    CV σ w c ds → fillD place' ds dparts = some r → ∃ c', Instr.fill place c parts = some c' ∧ CV σ w c' r
  | [], [], c, ds, r, _, _, hc, h => by cases h; exact ⟨c, rfl, hc⟩
  | [], _ :: _, _, _, _, h, _, _, _ => by simp at h
  | _ :: _, [], _, _, _, h, _, _, _ => by simp at h
  | (i, v) :: parts, (i', d) :: dparts, c, ds, r, hm, hv, hc, h => by
    simp only [List.map_cons, List.cons.injEq] at hm
    obtain ⟨rfl, hm⟩ := hm
    have hv0 : V σ w v d := by simpa using hv 0 (by simp)
    unfold fillD at h
    split at h
    · cases h
    · rename_i off size hpl
      by_cases hb : d.cells.length = size ∧ off + size ≤ ds.length ∧ d.cells.all D.sc = true
      · rw [if_pos hb] at h
        obtain ⟨h1, h2, h3⟩ := hb
        have hcv := hv0.cv h3
        have hc1 := hc.fill1 hcv.pl off (by simp; omega)
        simp only [List.length_map, h1] at hc1
        obtain ⟨c', hc', hr⟩ := fill_run hp parts dparts _ _ r hm (fun j hj => by simpa using hv (j + 1) (by simpa using hj)) hc1 h
        refine ⟨c', ?_, hr⟩
        have hsz : v.cells.size = size := by rw [hcv.1, h1]
        have hle : ¬ (c.size < off + v.cells.size) := by rw [hc.1, hsz]; omega
        unfold Instr.fill
        simp only [hp i _ hpl]
        rw [if_neg (by simp [hsz, hc.1]; omega)]
        exact hc'
      · rw [if_neg hb] at h; cases h

theorem zeroD_run {t : TypeId} {z : List D} (h : zeroD P t = some z) : ∃ i v, P.info? t = some i ∧ i.zero = some v ∧ (zeroValue t).run P w = .ok v w ∧ CV σ w v.cells z := by
  unfold zeroD at h
  split at h
  · rename_i i hi
    obtain ⟨v, hzv, rfl⟩ := Option.map_eq_some_iff.1 h
    refine ⟨i, v, hi, hzv, by simp [zeroValue, typeInfo, hi, hzv], ?_⟩
    have hV := V_ofVal (σ := σ) (w := w) v
    revert hV
    generalize hd : ofVal v = d
    intro hV
    have hV0 := hV
    cases hV with
    | agg c ds hl hv => exact ⟨hl, hv⟩
    | tup c ds hl hv => unfold ofVal at hd; split at hd <;> cases hd
    | any v =>
      cases v <;> first | exact CV.one (.any _) | (unfold ofVal at hd; split at hd <;> simp_all)
    | _ => exact CV.one hV0
  · cases h


end
end Dl
