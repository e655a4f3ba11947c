/- The reference's drawing of inputs: choices out of bytes. -/
import Derived.Test.YtgnebanjejmckaaDoorA0
set_option maxRecDepth 100000
set_option linter.unusedSimpArgs false
set_option linter.unusedVariables false
namespace Go.Proofs.YtgnebanjejmckaaDoor
open Go Dl
variable {W0 : World} {H : Heap} {K : D → Heap → Prop}

abbrev bytesD (l : List UInt8) : List D := l.map fun c => .int .u8 (c.toNat : Nat)
abbrev curC (code : List UInt8) (a : Nat) (sd : Int) : List D := [.lst .no (bytesD code), int a, .int .u64 sd]
/-- Box b is a cursor over the code, which has read at most n bytes. -/
def Cur (code : List UInt8) (b n : Nat) (H : Heap) : Prop := b < H.length ∧ ∃ a sd, a ≤ n ∧ hget H b = curC code a sd
/-- But for box b all is as it was. -/
def But (b : Nat) (H H' : Heap) : Prop := H'.length = H.length ∧ ∀ i, i ≠ b → hget H' i = hget H i
theorem But.refl (b : Nat) (H : Heap) : But b H H := ⟨rfl, fun _ _ => rfl⟩
theorem But.trans {b : Nat} {H H' H'' : Heap} (h : But b H H') (k : But b H' H'') : But b H H'' := ⟨k.1.trans h.1, fun i hi => (k.2 i hi).trans (h.2 i hi)⟩
theorem But.set (b : Nat) (H : Heap) (x : List D) : But b H (H.set b x) := ⟨List.length_set, fun i hi => by
  simp only [hget, List.getD_eq_getElem?_getD]; rw [List.getElem?_set_ne (Ne.symm hi)]⟩
theorem Cur.mono {code : List UInt8} {b n m : Nat} (h : Cur code b n H) (hn : n ≤ m) : Cur code b m H := by
  obtain ⟨h1, a, sd, h2, h3⟩ := h
  exact ⟨h1, a, sd, by omega, h3⟩
/-- The cursor's own box is of no concern to the old boxes. -/
theorem But.pre {b : Nat} {H H' : Heap} (x : List D) (h : But H.length (H ++ [x]) H') : Pre H H' := by
  refine ⟨by rw [h.1]; simp, ?_⟩
  apply List.ext_getElem?
  intro i
  rw [List.getElem?_take]
  by_cases hi : i < H.length
  · rw [if_pos hi]
    have h1 := h.2 i (by omega)
    have h2 : hget (H ++ [x]) i = hget H i := hget_left H _ i hi
    rw [h2] at h1
    have hl : i < H'.length := by rw [h.1]; simp; omega
    simp only [hget, List.getD_eq_getElem?_getD, List.getElem?_eq_getElem hl, List.getElem?_eq_getElem hi, Option.getD_some] at h1 ⊢
    rw [h1]
  · rw [if_neg hi, List.getElem?_eq_none (by omega)]

theorem But.split {b : Nat} {H l H' : Heap} (hb : b < H.length) (h : But b (H ++ l) H') : ∃ H1, H' = H1 ++ l ∧ But b H H1 := by
  have hlen : H'.length = H.length + l.length := by rw [h.1, List.length_append]
  refine ⟨H'.take H.length, ?_, by rw [List.length_take]; omega, fun i hi => ?_⟩
  · apply List.ext_getElem?
    intro i
    by_cases hi : i < H.length
    · rw [List.getElem?_append_left (by rw [List.length_take]; omega), List.getElem?_take, if_pos hi]
    · have e : (H'.take H.length).length = H.length := by rw [List.length_take]; omega
      rw [List.getElem?_append_right (by omega), e]
      by_cases hl : i < H'.length
      · have h1 := h.2 i (by omega)
        simp only [hget, List.getD_eq_getElem?_getD] at h1
        rw [List.getElem?_append_right (by omega)] at h1
        rw [List.getElem?_eq_getElem hl] at h1 ⊢
        rw [List.getElem?_eq_getElem (by omega)] at h1 ⊢
        simp only [Option.getD_some] at h1
        rw [h1]
      · rw [List.getElem?_eq_none (by omega), List.getElem?_eq_none (by omega)]
  · by_cases hl : i < H.length
    · have h1 := h.2 i hi
      rw [hget_left H l i hl] at h1
      rw [← h1]
      simp only [hget, List.getD_eq_getElem?_getD, List.getElem?_take]; rw [if_pos hl]
    · simp only [hget, List.getD_eq_getElem?_getD]
      rw [List.getElem?_eq_none (by rw [List.length_take]; omega), List.getElem?_eq_none (by omega)]
theorem Cur.app {code : List UInt8} {b n : Nat} (h : Cur code b n H) (l : Heap) : Cur code b n (H ++ l) := by
  obtain ⟨h1, a, sd, h2, h3⟩ := h
  exact ⟨by rw [List.length_append]; omega, a, sd, h2, by rw [hget_left H l b h1]; exact h3⟩
theorem Cur.of_app {code : List UInt8} {b n : Nat} {l : Heap} (h : Cur code b n (H ++ l)) (hb : b < H.length) : Cur code b n H := by
  obtain ⟨h1, a, sd, h2, h3⟩ := h
  exact ⟨hb, a, sd, h2, by rw [hget_left H l b hb] at h3; exact h3⟩
theorem But.lt {b : Nat} {H H' : Heap} (h : But b H H') (hb : b < H.length) : b < H'.length := by rw [h.1]; exact hb
/-- Behind a call that draws, below boxes of one's own. -/
theorem But.cut {code : List UInt8} {b n : Nat} {H l H' : Heap} (h : But b (H ++ l) H') (hc : Cur code b n H') (hb : b < H.length) : ∃ H1, H' = H1 ++ l ∧ But b H H1 ∧ Cur code b n H1 := by
  obtain ⟨H1, rfl, h1⟩ := h.split hb
  exact ⟨H1, rfl, h1, hc.of_app (h1.lt hb)⟩
theorem Cur.ok {code : List UInt8} {b n : Nat} (h : Cur code b n H) (m : Nat) : ∀ d ∈ hget H b, d.ok1 (fun k => decide (k < m)) = true := by
  obtain ⟨_, a, sd, _, hg⟩ := h
  rw [hg]
  intro d hd
  simp at hd
  rcases hd with rfl | rfl | rfl <;> rfl
theorem But.oldA {code : List UInt8} {b n : Nat} {H H' : Heap} (h : But b H H') (hc : Cur code b n H') (l : Heap) : Old H (H' ++ l) := fun i hi => by
  have hi' : i < H'.length := by rw [h.1]; exact hi
  by_cases e : i = b
  · subst e; exact .inr (by rw [hget_left H' l _ hi']; exact hc.ok _)
  · exact .inl (by rw [hget_left H' l _ hi']; exact h.2 i e)
theorem But.takeA {b : Nat} {H H' : Heap} (h : But b H H') (l : Heap) : (H' ++ l).take H.length = H' := by rw [← h.1]; exact List.take_left
theorem take_set (H : Heap) (b : Nat) (x : List D) : (H.set b x).take H.length = H.set b x := by
  rw [List.take_of_length_le (by rw [List.length_set]; exact Nat.le_refl _)]
theorem But.old {code : List UInt8} {b n : Nat} {H H' : Heap} (h : But b H H') (hc : Cur code b n H') : Old H H' := fun i _ => by
  by_cases e : i = b
  · subst e; exact .inr (hc.ok _)
  · exact .inl (h.2 i e)
theorem But.take {b : Nat} {H H' : Heap} (h : But b H H') : H'.take H.length = H' := by rw [← h.1]; exact List.take_length
theorem zbytes : ∀ n, (List.replicate n (D.int .u8 0)).mapM byteD = some (List.replicate n 0)
  | 0 => rfl
  | n + 1 => by rw [List.replicate_succ, List.mapM_cons, zbytes n]; rfl
theorem elD_sc {P : Program} {e : TypeId} (h : aggB P e = false) (d : D) : elD P e [d] = d := by simp [elD, h]
theorem hget_set_self {H : Heap} {b : Nat} (x : List D) (h : b < H.length) : hget (H.set b x) b = x := by simp [hget, h]
theorem set_set' (H : Heap) (b : Nat) (x y : List D) : (H.set b x).set b y = H.set b y := List.set_set ..

theorem and255 (x : Int) : ∃ r : Nat, r < 256 ∧ IntKind.i64.wrap (IntKind.u64.wrap (BitVec.ofInt 64 x &&& BitVec.ofInt 64 255).toNat) = r := by
  have h : (BitVec.ofInt 64 x &&& BitVec.ofInt 64 255).toNat < 256 := by
    rw [BitVec.toNat_and]
    have : (BitVec.ofInt 64 255).toNat = 255 := rfl
    rw [this]
    exact Nat.lt_succ_of_le Nat.and_le_right
  generalize (BitVec.ofInt 64 x &&& BitVec.ofInt 64 255).toNat = r at h
  refine ⟨r, h, ?_⟩
  have e : IntKind.u64.wrap (r : Int) = r := by
    simp only [IntKind.wrap, IntKind.bits, IntKind.signed]; simp; omega
  rw [e, w64 (by omega)]

theorem c86 {code : List UInt8} {b n : Nat} (hcode : code.length < 1000000) (hn : n < 1000000000) (hc : Cur code b n H)
    (h : ∀ (r : Nat) H', r < 256 → Cur code b (n + 1) H' → But b H H' → K (int r) H') : CallWp Tryd.prog W0 86 [.ptr b 0] H K := by
  refine CallWp.fun hm F86 (Nat.le_of_ble_eq_true rfl) (Nat.le_of_ble_eq_true rfl) ?_
  unfold s86 h86
  obtain ⟨hb, a, sd, ha, hg⟩ := hc
  simp -implicitDefEqProofs only [go_sem, Nat.reduceBEq, Nat.reduceLT, Nat.reduceAdd, Nat.reduceSub, Nat.reduceLeDiff, Int.reduceToNat, eq_self, ↓reduceIte, Bool.false_eq_true, decide_true, decide_false, List.take_length, hg, hb]
  have fin : ∀ (r : Nat) (x y z u : Int), r < 256 → K (int r) (H.set b (curC code (a + 1) z)) := fun r _ _ z _ hr =>
    h r _ hr ⟨by rw [List.length_set]; exact hb, a + 1, z, by omega, hget_set_self _ hb⟩ (But.set b H _)
  have old : ∀ z, Old H (H.set b (curC code (a + 1) z)) := fun z => (But.set b H _).old (code := code) (n := n + 1) ⟨by rw [List.length_set]; exact hb, a + 1, z, by omega, hget_set_self _ hb⟩
  have e0 : ((a + 1 : Nat) : Int) = a + 1 := by omega
  simp only [curC, e0] at fin old
  refine dsplit (fun hlt => ?_) (fun hlt => ?_)
  · have hlt' : a < code.length := by omega
    have hget : (bytesD code).getD a .any = .int .u8 ((code.getD a 0).toNat : Nat) := by rw [getD_map _ _ _ _ hlt', getD_lt' _ _ _ hlt']
    simp -implicitDefEqProofs only [go_sem, Nat.reduceBEq, Nat.reduceLT, Nat.reduceAdd, Nat.reduceSub, Nat.reduceLeDiff, Int.reduceToNat, eq_self, ↓reduceIte, Bool.false_eq_true, decide_true, decide_false, List.take_length, hg, hb]
    rw [hget]
    refine need_mk (by first | omega | decide | rfl | trivial | (refine ⟨?_, ?_⟩ <;> first | omega | rfl | decide) | (refine ⟨?_, ?_, ?_⟩ <;> first | omega | rfl | decide)) fun _ => ?_
    have hr : (code.getD a 0).toNat < 256 := (code.getD a 0).toNat_lt
    generalize (code.getD a 0).toNat = r at hr
    have e1 : IntKind.i64.wrap (r : Int) = r := w64 (by omega)
    simp -implicitDefEqProofs only [go_sem, Nat.reduceBEq, Nat.reduceLT, Nat.reduceAdd, Nat.reduceSub, Nat.reduceLeDiff, Int.reduceToNat, eq_self, ↓reduceIte, Bool.false_eq_true, decide_true, decide_false, List.take_length, hg, hb, List.length_set, hget_set_self, set_set', e1]
    rw [w64 (n := (a : Int) + 1) (by omega)]
    refine dsplit (fun h2 => ?_) (fun h2 => ?_)
    · simp -implicitDefEqProofs only [go_sem, Nat.reduceBEq, Nat.reduceLT, Nat.reduceAdd, Nat.reduceSub, Nat.reduceLeDiff, Int.reduceToNat, eq_self, ↓reduceIte, Bool.false_eq_true, decide_true, decide_false, List.take_length, hg, hb, List.length_set, hget_set_self, set_set', e1]
      exact end1 (by simp -implicitDefEqProofs only [go_sem, Nat.reduceBEq, Nat.reduceLT, Nat.reduceAdd, Nat.reduceSub, Nat.reduceLeDiff, Int.reduceToNat, eq_self, ↓reduceIte, Bool.false_eq_true, decide_true, decide_false, List.take_length]; rfl) rfl (by rw [take_set]; exact fin r 0 0 _ 0 hr) (old _)
    · omega
  · simp -implicitDefEqProofs only [go_sem, Nat.reduceBEq, Nat.reduceLT, Nat.reduceAdd, Nat.reduceSub, Nat.reduceLeDiff, Int.reduceToNat, eq_self, ↓reduceIte, Bool.false_eq_true, decide_true, decide_false, List.take_length, hg, hb, List.length_set, hget_set_self, set_set']
    rw [w64 (n := (a : Int) + 1) (by omega)]
    refine dsplit (fun h2 => ?_) (fun h2 => ?_)
    · omega
    · simp -implicitDefEqProofs only [go_sem, Nat.reduceBEq, Nat.reduceLT, Nat.reduceAdd, Nat.reduceSub, Nat.reduceLeDiff, Int.reduceToNat, eq_self, ↓reduceIte, Bool.false_eq_true, decide_true, decide_false, List.take_length, hg, hb, List.length_set, hget_set_self, set_set']
      refine need_mk (by decide) fun _ => ?_
      simp -implicitDefEqProofs only [go_sem, Nat.reduceBEq, Nat.reduceLT, Nat.reduceAdd, Nat.reduceSub, Nat.reduceLeDiff, Int.reduceToNat, eq_self, ↓reduceIte, Bool.false_eq_true, decide_true, decide_false, List.take_length, hg, hb, List.length_set, hget_set_self, set_set']
      have key : ∀ q z : Int, (∃ r : Nat, r < 256 ∧ q = r) → K (int q) (H.set b [D.lst Own.no (bytesD code), int ((a : Int) + 1), D.int IntKind.u64 z]) := fun q z ⟨r, hr, er⟩ => by
        rw [er]; exact fin r 0 0 z 0 hr
      exact end1 (by simp -implicitDefEqProofs only [go_sem, Nat.reduceBEq, Nat.reduceLT, Nat.reduceAdd, Nat.reduceSub, Nat.reduceLeDiff, Int.reduceToNat, eq_self, ↓reduceIte, Bool.false_eq_true, decide_true, decide_false, List.take_length]; rfl) rfl (by rw [take_set]; exact key _ _ (and255 _)) (old _)

theorem c57 {code : List UInt8} {b n : Nat} (m : Int) (hcode : code.length < 1000000) (hn : n + 2 < 1000000000) (hc : Cur code b n H)
    (h : ∀ (r : Nat) H', (r : Int) < 65536 ∧ (m ≤ 1 → r = 0) ∧ (1 < m → (r : Int) < m) → Cur code b (n + 2) H' → But b H H' → K (int r) H') : CallWp Tryd.prog W0 57 [.ptr b 0, int m] H K := by
  refine CallWp.fun hm F57 (Nat.le_of_ble_eq_true rfl) (Nat.le_of_ble_eq_true rfl) ?_
  unfold s57 h57
  simp -implicitDefEqProofs only [go_sem, Nat.reduceBEq, Nat.reduceLT, Nat.reduceAdd, Nat.reduceSub, Nat.reduceLeDiff, Int.reduceToNat, eq_self, ↓reduceIte, Bool.false_eq_true, decide_true, decide_false, List.take_length]
  refine dsplit (fun h1 => ?_) (fun h1 => ?_)
  · simp -implicitDefEqProofs only [go_sem, Nat.reduceBEq, Nat.reduceLT, Nat.reduceAdd, Nat.reduceSub, Nat.reduceLeDiff, Int.reduceToNat, eq_self, ↓reduceIte, Bool.false_eq_true, decide_true, decide_false, List.take_length, h1]
    exact end1 (by simp -implicitDefEqProofs only [go_sem, Nat.reduceBEq, Nat.reduceLT, Nat.reduceAdd, Nat.reduceSub, Nat.reduceLeDiff, Int.reduceToNat, eq_self, ↓reduceIte, Bool.false_eq_true, decide_true, decide_false, List.take_length]; rfl) rfl (by simp -implicitDefEqProofs only [go_sem, Nat.reduceBEq, Nat.reduceLT, Nat.reduceAdd, Nat.reduceSub, Nat.reduceLeDiff, Int.reduceToNat, eq_self, ↓reduceIte, Bool.false_eq_true, decide_true, decide_false, List.take_length]; exact h 0 H ⟨by omega, fun _ => rfl, fun _ => by omega⟩ (hc.mono (by omega)) (But.refl _ _))
  simp -implicitDefEqProofs only [go_sem, Nat.reduceBEq, Nat.reduceLT, Nat.reduceAdd, Nat.reduceSub, Nat.reduceLeDiff, Int.reduceToNat, eq_self, ↓reduceIte, Bool.false_eq_true, decide_true, decide_false, List.take_length, h1]
  refine c86 hcode (by omega) hc fun r1 H1 hr1 hc1 hb1 => ?_
  simp -implicitDefEqProofs only [go_sem, Nat.reduceBEq, Nat.reduceLT, Nat.reduceAdd, Nat.reduceSub, Nat.reduceLeDiff, Int.reduceToNat, eq_self, ↓reduceIte, Bool.false_eq_true, decide_true, decide_false, List.take_length, h1]
  have fin : ∀ (x : Nat) H2, x < 65536 → Cur code b (n + 2) H2 → But b H H2 → K (int (Int.tmod x m)) H2 := fun x H2 hx hc2 hb2 => by
    have e : Int.tmod (x : Int) m = ((x % m.toNat : Nat) : Int) := by
      have em : m = (m.toNat : Int) := by omega
      rw [Int.tmod_eq_emod_of_nonneg (by omega)]
      conv => lhs; rw [em]
      exact (Int.natCast_emod x m.toNat).symm
    rw [e]
    have hlt : x % m.toNat < m.toNat := Nat.mod_lt _ (by omega)
    have hle : x % m.toNat ≤ x := Nat.mod_le _ _
    exact h _ H2 ⟨by omega, fun hh => by omega, fun _ => by omega⟩ hc2 hb2
  refine dsplit (fun h2 => ?_) (fun h2 => ?_)
  · simp -implicitDefEqProofs only [go_sem, Nat.reduceBEq, Nat.reduceLT, Nat.reduceAdd, Nat.reduceSub, Nat.reduceLeDiff, Int.reduceToNat, eq_self, ↓reduceIte, Bool.false_eq_true, decide_true, decide_false, List.take_length, h1, h2]
    refine c86 hcode (by omega) hc1 fun r2 H2 hr2 hc2 hb2 => ?_
    simp -implicitDefEqProofs only [go_sem, Nat.reduceBEq, Nat.reduceLT, Nat.reduceAdd, Nat.reduceSub, Nat.reduceLeDiff, Int.reduceToNat, eq_self, ↓reduceIte, Bool.false_eq_true, decide_true, decide_false, List.take_length, h1, h2]
    rw [w64 (n := (r1 : Int) * 256) (by omega), w64 (by omega)]
    refine need_mk (by omega) fun _ => ?_
    simp -implicitDefEqProofs only [go_sem, Nat.reduceBEq, Nat.reduceLT, Nat.reduceAdd, Nat.reduceSub, Nat.reduceLeDiff, Int.reduceToNat, eq_self, ↓reduceIte, Bool.false_eq_true, decide_true, decide_false, List.take_length, h1, h2]
    have e : ((r1 : Int) * 256 + r2) = ((r1 * 256 + r2 : Nat) : Int) := by omega
    rw [e]
    have hB := hb1.trans hb2
    exact end1 (by simp -implicitDefEqProofs only [go_sem, Nat.reduceBEq, Nat.reduceLT, Nat.reduceAdd, Nat.reduceSub, Nat.reduceLeDiff, Int.reduceToNat, eq_self, ↓reduceIte, Bool.false_eq_true, decide_true, decide_false, List.take_length]; rfl) rfl (by rw [hB.take]; exact fin _ H2 (by omega) hc2 hB) (hB.old hc2)
  · simp -implicitDefEqProofs only [go_sem, Nat.reduceBEq, Nat.reduceLT, Nat.reduceAdd, Nat.reduceSub, Nat.reduceLeDiff, Int.reduceToNat, eq_self, ↓reduceIte, Bool.false_eq_true, decide_true, decide_false, List.take_length, h1, h2]
    refine need_mk (by omega) fun _ => ?_
    simp -implicitDefEqProofs only [go_sem, Nat.reduceBEq, Nat.reduceLT, Nat.reduceAdd, Nat.reduceSub, Nat.reduceLeDiff, Int.reduceToNat, eq_self, ↓reduceIte, Bool.false_eq_true, decide_true, decide_false, List.take_length, h1, h2]
    exact end1 (by simp -implicitDefEqProofs only [go_sem, Nat.reduceBEq, Nat.reduceLT, Nat.reduceAdd, Nat.reduceSub, Nat.reduceLeDiff, Int.reduceToNat, eq_self, ↓reduceIte, Bool.false_eq_true, decide_true, decide_false, List.take_length]; rfl) rfl (by rw [hb1.take]; exact fin _ H1 (by omega) (hc1.mono (by omega)) hb1) (hb1.old hc1)

theorem c56 {code : List UInt8} {b n : Nat} (m : Int) (hcode : code.length < 1000000) (hn : n + 2 < 1000000000) (hc : Cur code b n H)
    (h : ∀ (r : Bool) H', Cur code b (n + 2) H' → But b H H' → K (.bool r) H') : CallWp Tryd.prog W0 56 [.ptr b 0, int m] H K := by
  refine CallWp.fun hm F56 (Nat.le_of_ble_eq_true rfl) (Nat.le_of_ble_eq_true rfl) ?_
  unfold s56 h56
  simp -implicitDefEqProofs only [go_sem, Nat.reduceBEq, Nat.reduceLT, Nat.reduceAdd, Nat.reduceSub, Nat.reduceLeDiff, Int.reduceToNat, eq_self, ↓reduceIte, Bool.false_eq_true, decide_true, decide_false, List.take_length]
  refine c57 m hcode hn hc fun r H1 hr hc1 hb1 => ?_
  simp -implicitDefEqProofs only [go_sem, Nat.reduceBEq, Nat.reduceLT, Nat.reduceAdd, Nat.reduceSub, Nat.reduceLeDiff, Int.reduceToNat, eq_self, ↓reduceIte, Bool.false_eq_true, decide_true, decide_false, List.take_length]
  exact end1 (by simp -implicitDefEqProofs only [go_sem, Nat.reduceBEq, Nat.reduceLT, Nat.reduceAdd, Nat.reduceSub, Nat.reduceLeDiff, Int.reduceToNat, eq_self, ↓reduceIte, Bool.false_eq_true, decide_true, decide_false, List.take_length]; rfl) rfl (by rw [hb1.take]; exact h _ H1 hc1 hb1) (hb1.old hc1)

theorem c75 {code : List UInt8} {b n : Nat} (l : List (List UInt8)) (hl : 0 < l.length ∧ l.length < 60000) (hcode : code.length < 1000000) (hn : n + 2 < 1000000000) (hc : Cur code b n H)
    (h : ∀ (r : List UInt8) H', r ∈ l → Cur code b (n + 2) H' → But b H H' → K (.str r) H') : CallWp Tryd.prog W0 75 [.ptr b 0, .lst .no (l.map .str)] H K := by
  refine CallWp.fun hm F75 (Nat.le_of_ble_eq_true rfl) (Nat.le_of_ble_eq_true rfl) ?_
  unfold s75 h75
  simp -implicitDefEqProofs only [go_sem, Nat.reduceBEq, Nat.reduceLT, Nat.reduceAdd, Nat.reduceSub, Nat.reduceLeDiff, Int.reduceToNat, eq_self, ↓reduceIte, Bool.false_eq_true, decide_true, decide_false, List.take_length]
  refine c57 l.length hcode hn hc fun r H1 hr hc1 hb1 => ?_
  have hlt : r < l.length := by
    have := hr.2.1; have := hr.2.2
    omega
  have hget : (l.map D.str).getD r D.any = .str (l.getD r []) := by rw [getD_map _ _ _ _ hlt, getD_lt' _ _ _ hlt]
  simp -implicitDefEqProofs only [go_sem, Nat.reduceBEq, Nat.reduceLT, Nat.reduceAdd, Nat.reduceSub, Nat.reduceLeDiff, Int.reduceToNat, eq_self, ↓reduceIte, Bool.false_eq_true, decide_true, decide_false, List.take_length]
  rw [hget]
  refine need_mk ⟨by omega, by omega, rfl⟩ fun _ => ?_
  simp -implicitDefEqProofs only [go_sem, Nat.reduceBEq, Nat.reduceLT, Nat.reduceAdd, Nat.reduceSub, Nat.reduceLeDiff, Int.reduceToNat, eq_self, ↓reduceIte, Bool.false_eq_true, decide_true, decide_false, List.take_length]
  exact end1 (by simp -implicitDefEqProofs only [go_sem, Nat.reduceBEq, Nat.reduceLT, Nat.reduceAdd, Nat.reduceSub, Nat.reduceLeDiff, Int.reduceToNat, eq_self, ↓reduceIte, Bool.false_eq_true, decide_true, decide_false, List.take_length]; rfl) rfl (by rw [hb1.take]; exact h _ H1 (by rw [getD_lt' _ _ _ hlt]; exact List.getElem_mem _) hc1 hb1) (hb1.old hc1)

/-- A text out of a list, of a length that is bounded. -/
def strMost (M : Nat) : D → Bool
  | .str s => decide (s.length ≤ M)
  | _ => false
theorem strs_of {M : Nat} : ∀ {ds : List D}, ds.all (strMost M) = true → ∃ l : List (List UInt8), ds = l.map .str ∧ ∀ s ∈ l, s.length ≤ M
  | [], _ => ⟨[], rfl, fun s hs => by cases hs⟩
  | d :: ds, h => by
    simp only [List.all_cons, Bool.and_eq_true] at h
    obtain ⟨l, h1, h2⟩ := strs_of h.2
    cases d with
    | str s => exact ⟨s :: l, by rw [h1]; rfl, fun x hx => by
        rcases List.mem_cons.1 hx with rfl | hx
        · simpa [strMost] using h.1
        · exact h2 x hx⟩
    | _ => simp [strMost] at h
theorem c75M {code : List UInt8} {b n : Nat} (M : Nat) (ds : List D) (hd : ds.all (strMost M) = true) (hl : 0 < ds.length ∧ ds.length < 60000) (hcode : code.length < 1000000) (hn : n + 2 < 1000000000) (hc : Cur code b n H)
    (h : ∀ (r : List UInt8) H', r.length ≤ M → Cur code b (n + 2) H' → But b H H' → K (.str r) H') : CallWp Tryd.prog W0 75 [.ptr b 0, .lst .no ds] H K := by
  obtain ⟨l, rfl, hM⟩ := strs_of hd
  exact c75 l (by simpa using hl) hcode hn hc fun r H' hr => h r H' (hM r hr)
/-- Numbers. -/
def isInt : D → Bool
  | .int .i64 _ => true
  | _ => false
theorem ints_of : ∀ {ds : List D}, ds.all isInt = true → ∃ l : List Int, ds = l.map int
  | [], _ => ⟨[], rfl⟩
  | d :: ds, h => by
    simp only [List.all_cons, Bool.and_eq_true] at h
    obtain ⟨l, h1⟩ := ints_of h.2
    cases d with
    | int k n => cases k <;> first | exact ⟨n :: l, by rw [h1]; rfl⟩ | (simp [isInt] at h)
    | _ => simp [isInt] at h

theorem c49 {code : List UInt8} {b n : Nat} (l : List Int) (hl : 0 < l.length ∧ l.length < 60000) (hcode : code.length < 1000000) (hn : n + 2 < 1000000000) (hc : Cur code b n H)
    (h : ∀ (r : Int) H', r ∈ l → Cur code b (n + 2) H' → But b H H' → K (int r) H') : CallWp Tryd.prog W0 49 [.ptr b 0, .lst .no (l.map int)] H K := by
  refine CallWp.fun hm F49 (Nat.le_of_ble_eq_true rfl) (Nat.le_of_ble_eq_true rfl) ?_
  unfold s49 h49
  simp -implicitDefEqProofs only [go_sem, Nat.reduceBEq, Nat.reduceLT, Nat.reduceAdd, Nat.reduceSub, Nat.reduceLeDiff, Int.reduceToNat, eq_self, ↓reduceIte, Bool.false_eq_true, decide_true, decide_false, List.take_length]
  refine c57 l.length hcode hn hc fun r H1 hr hc1 hb1 => ?_
  have hlt : r < l.length := by
    have := hr.2.1; have := hr.2.2
    omega
  have hget : (l.map int).getD r D.any = int (l.getD r 0) := by rw [getD_map _ _ _ _ hlt, getD_lt' _ _ _ hlt]
  simp -implicitDefEqProofs only [go_sem, Nat.reduceBEq, Nat.reduceLT, Nat.reduceAdd, Nat.reduceSub, Nat.reduceLeDiff, Int.reduceToNat, eq_self, ↓reduceIte, Bool.false_eq_true, decide_true, decide_false, List.take_length]
  rw [hget]
  refine need_mk ⟨by omega, by omega, rfl⟩ fun _ => ?_
  simp -implicitDefEqProofs only [go_sem, Nat.reduceBEq, Nat.reduceLT, Nat.reduceAdd, Nat.reduceSub, Nat.reduceLeDiff, Int.reduceToNat, eq_self, ↓reduceIte, Bool.false_eq_true, decide_true, decide_false, List.take_length]
  exact end1 (by simp -implicitDefEqProofs only [go_sem, Nat.reduceBEq, Nat.reduceLT, Nat.reduceAdd, Nat.reduceSub, Nat.reduceLeDiff, Int.reduceToNat, eq_self, ↓reduceIte, Bool.false_eq_true, decide_true, decide_false, List.take_length]; rfl) rfl (by rw [hb1.take]; exact h _ H1 (by rw [getD_lt' _ _ _ hlt]; exact List.getElem_mem _) hc1 hb1) (hb1.old hc1)
theorem c49D {code : List UInt8} {b n : Nat} (ds : List D) (hd : ds.all isInt = true) (hl : 0 < ds.length ∧ ds.length < 60000) (hcode : code.length < 1000000) (hn : n + 2 < 1000000000) (hc : Cur code b n H)
    (h : ∀ (r : Int) H', int r ∈ ds → Cur code b (n + 2) H' → But b H H' → K (int r) H') : CallWp Tryd.prog W0 49 [.ptr b 0, .lst .no ds] H K := by
  obtain ⟨l, rfl⟩ := ints_of hd
  exact c49 l (by simpa using hl) hcode hn hc fun r H' hr => h r H' (List.mem_map.2 ⟨r, hr, rfl⟩)

/-- A cursor among boxes of one's own. -/
theorem Cur.own {code : List UInt8} {n k a : Nat} {sd : Int} {l : Heap} (hk : l[k]? = some (curC code a sd)) (ha : a ≤ n) : Cur code (H.length + k) n (H ++ l) := by
  have hlt := (List.getElem?_eq_some_iff.1 hk).1
  refine ⟨by rw [List.length_append]; omega, a, sd, ha, ?_⟩
  simp only [hget, List.getD_eq_getElem?_getD]
  rw [List.getElem?_append_right (by omega), Nat.add_sub_cancel_left, hk]; rfl
theorem But.own {code : List UInt8} {n k : Nat} {l H' : Heap} (hb : But (H.length + k) (H ++ l) H') (hc : Cur code (H.length + k) n H') : ∃ a sd, a ≤ n ∧ H' = H ++ l.set k (curC code a sd) := by
  obtain ⟨hlt, a, sd, ha, hg⟩ := hc
  refine ⟨a, sd, ha, ?_⟩
  have hl : H'.length = H.length + l.length := by rw [hb.1, List.length_append]
  apply List.ext_getElem?
  intro i
  by_cases hi : i < H'.length
  · by_cases e : i = H.length + k
    · subst e
      simp only [hget, List.getD_eq_getElem?_getD, List.getElem?_eq_getElem hi, Option.getD_some] at hg
      rw [List.getElem?_eq_getElem hi, hg, List.getElem?_append_right (by omega), Nat.add_sub_cancel_left, List.getElem?_set_self (by omega)]
    · have h1 := hb.2 i e
      have hi2 : i < (H ++ l).length := by rw [List.length_append]; omega
      simp only [hget, List.getD_eq_getElem?_getD, List.getElem?_eq_getElem hi, List.getElem?_eq_getElem hi2, Option.getD_some] at h1
      rw [List.getElem?_eq_getElem hi, h1, ← List.getElem?_eq_getElem hi2]
      by_cases hH : i < H.length
      · rw [List.getElem?_append_left hH, List.getElem?_append_left hH]
      · rw [List.getElem?_append_right (by omega), List.getElem?_append_right (by omega), List.getElem?_set_ne (by omega)]
  · rw [List.getElem?_eq_none (by omega), List.getElem?_eq_none (by simp; omega)]
theorem Cur.own0 {code : List UInt8} {n a : Nat} {sd : Int} {l : Heap} (hk : l[0]? = some (curC code a sd)) (ha : a ≤ n) : Cur code H.length n (H ++ l) := Cur.own (k := 0) hk ha
theorem But.own0 {code : List UInt8} {n : Nat} {l H' : Heap} (hb : But H.length (H ++ l) H') (hc : Cur code H.length n H') : ∃ a sd, a ≤ n ∧ H' = H ++ l.set 0 (curC code a sd) := But.own (k := 0) hb hc
end Go.Proofs.YtgnebanjejmckaaDoor
