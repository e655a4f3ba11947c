/- The drawn inputs of the law on texts. -/
import Derived.Test.YtgnebanjejmckaaDoorG2
import Derived.Test.YtgnebanjejmckaaDoorA7
set_option maxRecDepth 100000
set_option linter.unusedSimpArgs false
set_option linter.unusedVariables false
namespace Go.Proofs.YtgnebanjejmckaaDoor
open Go Dl
variable {W0 : World} {H : Heap} {K : D → Heap → Prop}

theorem c37 {code : List UInt8} (hcode : code.length < 1000000) (h : ∀ n : Int, K (int n) H) : CallWp Tryd.prog W0 37 [.lst .no (bytesD code)] H K := by
  refine CallWp.fun hm F37 (Nat.le_of_ble_eq_true rfl) (Nat.le_of_ble_eq_true rfl) ?_
  unfold s37 h37
  simp -implicitDefEqProofs only [go_sem, Nat.reduceBEq, Nat.reduceLT, Nat.reduceAdd, Nat.reduceSub, Nat.reduceLeDiff, Int.reduceToNat, eq_self, ↓reduceIte, Bool.false_eq_true, decide_true, decide_false, List.take_length]
  refine c57 (n := 0) 1000 hcode (by omega) (Cur.own0 (a := 0) (sd := 0) rfl (Nat.le_refl 0)) fun k H1 hk hc1 hb1 => ?_
  obtain ⟨a, sd, ha, rfl⟩ := hb1.own0 hc1
  simp -implicitDefEqProofs only [go_sem, Nat.reduceBEq, Nat.reduceLT, Nat.reduceAdd, Nat.reduceSub, Nat.reduceLeDiff, Int.reduceToNat, eq_self, ↓reduceIte, Bool.false_eq_true, decide_true, decide_false, List.take_length]
  refine need_mk (by first | decide | simp) fun _ => ?_
  simp -implicitDefEqProofs only [go_sem, Nat.reduceBEq, Nat.reduceLT, Nat.reduceAdd, Nat.reduceSub, Nat.reduceLeDiff, Int.reduceToNat, eq_self, ↓reduceIte, Bool.false_eq_true, decide_true, decide_false, List.take_length]
  refine c49D (n := 2) _ rfl (by simp) hcode (by omega) (Cur.own0 rfl (by omega)) fun n H2 hn hc2 hb2 => ?_
  obtain ⟨a2, sd2, ha2, rfl⟩ := hb2.own0 hc2
  simp -implicitDefEqProofs only [go_sem, Nat.reduceBEq, Nat.reduceLT, Nat.reduceAdd, Nat.reduceSub, Nat.reduceLeDiff, Int.reduceToNat, eq_self, ↓reduceIte, Bool.false_eq_true, decide_true, decide_false, List.take_length]
  exact end1 (by simp -implicitDefEqProofs only [go_sem, Nat.reduceBEq, Nat.reduceLT, Nat.reduceAdd, Nat.reduceSub, Nat.reduceLeDiff, Int.reduceToNat, eq_self, ↓reduceIte, Bool.false_eq_true, decide_true, decide_false, List.take_length]; rfl) rfl (by simp -implicitDefEqProofs only [go_sem, Nat.reduceBEq, Nat.reduceLT, Nat.reduceAdd, Nat.reduceSub, Nat.reduceLeDiff, Int.reduceToNat, eq_self, ↓reduceIte, Bool.false_eq_true, decide_true, decide_false, List.take_length]; exact h n)

theorem itoa_small {m : Int} (h0 : -999999 ≤ m) (h1 : m ≤ 999999) : (Lib.itoa m).length ≤ 7 := by
  unfold Lib.itoa
  split
  · have := decDigits_le 5 m.natAbs (by omega)
    simp only [List.length_cons]; omega
  · have := decDigits_le 5 m.toNat (by omega)
    omega
theorem c40 {code : List UInt8} (hcode : code.length < 1000000) (h : ∀ s : List UInt8, s.length ≤ 20 → K (.str s) H) : CallWp Tryd.prog W0 40 [.lst .no (bytesD code)] H K := by
  refine CallWp.fun hm F40 (Nat.le_of_ble_eq_true rfl) (Nat.le_of_ble_eq_true rfl) ?_
  unfold s40 h40
  simp -implicitDefEqProofs only [go_sem, Nat.reduceBEq, Nat.reduceLT, Nat.reduceAdd, Nat.reduceSub, Nat.reduceLeDiff, Int.reduceToNat, eq_self, ↓reduceIte, Bool.false_eq_true, decide_true, decide_false, List.take_length]
  refine c56 (n := 0) 2 hcode (by omega) (Cur.own0 (a := 0) (sd := 0) rfl (Nat.le_refl 0)) fun o H1 hc1 hb1 => ?_
  obtain ⟨a, sd, ha, rfl⟩ := hb1.own0 hc1
  simp -implicitDefEqProofs only [go_sem, Nat.reduceBEq, Nat.reduceLT, Nat.reduceAdd, Nat.reduceSub, Nat.reduceLeDiff, Int.reduceToNat, eq_self, ↓reduceIte, Bool.false_eq_true, decide_true, decide_false, List.take_length]
  cases o with
  | true =>
    simp -implicitDefEqProofs only [go_sem, Nat.reduceBEq, Nat.reduceLT, Nat.reduceAdd, Nat.reduceSub, Nat.reduceLeDiff, Int.reduceToNat, eq_self, ↓reduceIte, Bool.false_eq_true, decide_true, decide_false, List.take_length]
    refine need_mk (by decide) fun _ => ?_
    simp -implicitDefEqProofs only [go_sem, Nat.reduceBEq, Nat.reduceLT, Nat.reduceAdd, Nat.reduceSub, Nat.reduceLeDiff, Int.reduceToNat, eq_self, ↓reduceIte, Bool.false_eq_true, decide_true, decide_false, List.take_length]
    refine c75M (n := 2) 20 _ rfl (by decide) hcode (by omega) (Cur.own0 rfl (by omega)) fun s H2 hl hc2 hb2 => ?_
    obtain ⟨a2, sd2, ha2, rfl⟩ := hb2.own0 hc2
    simp -implicitDefEqProofs only [go_sem, Nat.reduceBEq, Nat.reduceLT, Nat.reduceAdd, Nat.reduceSub, Nat.reduceLeDiff, Int.reduceToNat, eq_self, ↓reduceIte, Bool.false_eq_true, decide_true, decide_false, List.take_length]
    exact end1 (by simp -implicitDefEqProofs only [go_sem, Nat.reduceBEq, Nat.reduceLT, Nat.reduceAdd, Nat.reduceSub, Nat.reduceLeDiff, Int.reduceToNat, eq_self, ↓reduceIte, Bool.false_eq_true, decide_true, decide_false, List.take_length]; rfl) rfl (by simp -implicitDefEqProofs only [go_sem, Nat.reduceBEq, Nat.reduceLT, Nat.reduceAdd, Nat.reduceSub, Nat.reduceLeDiff, Int.reduceToNat, eq_self, ↓reduceIte, Bool.false_eq_true, decide_true, decide_false, List.take_length]; exact h s hl)
  | false =>
    simp -implicitDefEqProofs only [go_sem, Nat.reduceBEq, Nat.reduceLT, Nat.reduceAdd, Nat.reduceSub, Nat.reduceLeDiff, Int.reduceToNat, eq_self, ↓reduceIte, Bool.false_eq_true, decide_true, decide_false, List.take_length]
    refine c57 (n := 2) 2000 hcode (by omega) (Cur.own0 rfl (by omega)) fun k H2 hk hc2 hb2 => ?_
    obtain ⟨a2, sd2, ha2, rfl⟩ := hb2.own0 hc2
    have hk' : k < 2000 := by have := hk.2.1; have := hk.2.2; omega
    simp -implicitDefEqProofs only [go_sem, Nat.reduceBEq, Nat.reduceLT, Nat.reduceAdd, Nat.reduceSub, Nat.reduceLeDiff, Int.reduceToNat, eq_self, ↓reduceIte, Bool.false_eq_true, decide_true, decide_false, List.take_length]
    rw [w64 (n := (k : Int) - 1000) (by omega)]
    refine c74 _ (by omega) (by omega) ?_
    simp -implicitDefEqProofs only [go_sem, Nat.reduceBEq, Nat.reduceLT, Nat.reduceAdd, Nat.reduceSub, Nat.reduceLeDiff, Int.reduceToNat, eq_self, ↓reduceIte, Bool.false_eq_true, decide_true, decide_false, List.take_length]
    exact end1 (by simp -implicitDefEqProofs only [go_sem, Nat.reduceBEq, Nat.reduceLT, Nat.reduceAdd, Nat.reduceSub, Nat.reduceLeDiff, Int.reduceToNat, eq_self, ↓reduceIte, Bool.false_eq_true, decide_true, decide_false, List.take_length]; rfl) rfl (by simp -implicitDefEqProofs only [go_sem, Nat.reduceBEq, Nat.reduceLT, Nat.reduceAdd, Nat.reduceSub, Nat.reduceLeDiff, Int.reduceToNat, eq_self, ↓reduceIte, Bool.false_eq_true, decide_true, decide_false, List.take_length]; exact h _ (Nat.le_trans (itoa_small (by omega) (by omega)) (by decide)))

theorem c78 {code : List UInt8} {b n : Nat} (hcode : code.length < 1000000) (hn : n + 2 < 1000000000) (hc : Cur code b n H)
    (h : ∀ (s : List UInt8) H', s.length ≤ 20 → Cur code b (n + 2) H' → But b H H' → K (.str s) H') : CallWp Tryd.prog W0 78 [.ptr b 0] H K := by
  refine CallWp.fun hm F78 (Nat.le_of_ble_eq_true rfl) (Nat.le_of_ble_eq_true rfl) ?_
  unfold s78 h78
  simp -implicitDefEqProofs only [go_sem, Nat.reduceBEq, Nat.reduceLT, Nat.reduceAdd, Nat.reduceSub, Nat.reduceLeDiff, Int.reduceToNat, eq_self, ↓reduceIte, Bool.false_eq_true, decide_true, decide_false, List.take_length]
  refine need_mk (by decide) fun _ => ?_
  simp -implicitDefEqProofs only [go_sem, Nat.reduceBEq, Nat.reduceLT, Nat.reduceAdd, Nat.reduceSub, Nat.reduceLeDiff, Int.reduceToNat, eq_self, ↓reduceIte, Bool.false_eq_true, decide_true, decide_false, List.take_length]
  refine c75M 20 _ rfl (by decide) hcode (by omega) hc fun s H1 hl hc1 hb1 => ?_
  simp -implicitDefEqProofs only [go_sem, Nat.reduceBEq, Nat.reduceLT, Nat.reduceAdd, Nat.reduceSub, Nat.reduceLeDiff, Int.reduceToNat, eq_self, ↓reduceIte, Bool.false_eq_true, decide_true, decide_false, List.take_length]
  exact end1 (by simp -implicitDefEqProofs only [go_sem, Nat.reduceBEq, Nat.reduceLT, Nat.reduceAdd, Nat.reduceSub, Nat.reduceLeDiff, Int.reduceToNat, eq_self, ↓reduceIte, Bool.false_eq_true, decide_true, decide_false, List.take_length]; rfl) rfl (by rw [hb1.take]; exact h s H1 hl hc1 hb1) (hb1.old hc1)

theorem c43 {code : List UInt8} (hcode : code.length < 1000000) (h : ∀ s : List UInt8, s.length ≤ 5000 → K (.str s) H) : CallWp Tryd.prog W0 43 [.lst .no (bytesD code)] H K := by
  refine CallWp.fun hm F43 (Nat.le_of_ble_eq_true rfl) (Nat.le_of_ble_eq_true rfl) ?_
  unfold s43 h43
  simp -implicitDefEqProofs only [go_sem, Nat.reduceBEq, Nat.reduceLT, Nat.reduceAdd, Nat.reduceSub, Nat.reduceLeDiff, Int.reduceToNat, eq_self, ↓reduceIte, Bool.false_eq_true, decide_true, decide_false, List.take_length]
  refine c56 (n := 0) 20 hcode (by omega) (Cur.own0 (a := 0) (sd := 0) rfl (Nat.le_refl 0)) fun o H1 hc1 hb1 => ?_
  obtain ⟨a, sd, ha, rfl⟩ := hb1.own0 hc1
  simp -implicitDefEqProofs only [go_sem, Nat.reduceBEq, Nat.reduceLT, Nat.reduceAdd, Nat.reduceSub, Nat.reduceLeDiff, Int.reduceToNat, eq_self, ↓reduceIte, Bool.false_eq_true, decide_true, decide_false, List.take_length]
  cases o with
  | true =>
    simp -implicitDefEqProofs only [go_sem, Nat.reduceBEq, Nat.reduceLT, Nat.reduceAdd, Nat.reduceSub, Nat.reduceLeDiff, Int.reduceToNat, eq_self, ↓reduceIte, Bool.false_eq_true, decide_true, decide_false, List.take_length]
    refine c57 (n := 2) 10 hcode (by omega) (Cur.own0 rfl (by omega)) fun z H5 hz hc5 hb5 => ?_
    obtain ⟨a5, sd5, ha5, rfl⟩ := hb5.own0 hc5
    have hz' : z < 10 := by have := hz.2.1; have := hz.2.2; omega
    simp -implicitDefEqProofs only [go_sem, Nat.reduceBEq, Nat.reduceLT, Nat.reduceAdd, Nat.reduceSub, Nat.reduceLeDiff, Int.reduceToNat, eq_self, ↓reduceIte, Bool.false_eq_true, decide_true, decide_false, List.take_length]
    have e5 : IntKind.i64.wrap (3990 + (z : Int)) = ((3990 + z : Nat) : Int) := by rw [w64 (by omega)]; omega
    rw [e5, msK_some _ _ _ _ _ tz5, elD_sc ta5]
    refine need_mk ⟨by omega, by omega, by omega, by simp -implicitDefEqProofs only [go_sem, Nat.reduceBEq, Nat.reduceLT, Nat.reduceAdd, Nat.reduceSub, Nat.reduceLeDiff, Int.reduceToNat, eq_self, ↓reduceIte, Bool.false_eq_true, decide_true, decide_false, List.take_length], by simp -implicitDefEqProofs only [go_sem, Nat.reduceBEq, Nat.reduceLT, Nat.reduceAdd, Nat.reduceSub, Nat.reduceLeDiff, Int.reduceToNat, eq_self, ↓reduceIte, Bool.false_eq_true, decide_true, decide_false, List.take_length], by kernel_rfl, by simp -implicitDefEqProofs only [go_sem, Nat.reduceBEq, Nat.reduceLT, Nat.reduceAdd, Nat.reduceSub, Nat.reduceLeDiff, Int.reduceToNat, eq_self, ↓reduceIte, Bool.false_eq_true, decide_true, decide_false, List.take_length]⟩ fun _ => ?_
    rw [Int.toNat_natCast]
    simp -implicitDefEqProofs only [go_sem, Nat.reduceBEq, Nat.reduceLT, Nat.reduceAdd, Nat.reduceSub, Nat.reduceLeDiff, Int.reduceToNat, eq_self, ↓reduceIte, Bool.false_eq_true, decide_true, decide_false, List.take_length, zbytes]
    exact end1 (by simp -implicitDefEqProofs only [go_sem, Nat.reduceBEq, Nat.reduceLT, Nat.reduceAdd, Nat.reduceSub, Nat.reduceLeDiff, Int.reduceToNat, eq_self, ↓reduceIte, Bool.false_eq_true, decide_true, decide_false, List.take_length]; rfl) rfl (by simp -implicitDefEqProofs only [go_sem, Nat.reduceBEq, Nat.reduceLT, Nat.reduceAdd, Nat.reduceSub, Nat.reduceLeDiff, Int.reduceToNat, eq_self, ↓reduceIte, Bool.false_eq_true, decide_true, decide_false, List.take_length]; exact h _ (by simp; omega))
  | false =>
    simp -implicitDefEqProofs only [go_sem, Nat.reduceBEq, Nat.reduceLT, Nat.reduceAdd, Nat.reduceSub, Nat.reduceLeDiff, Int.reduceToNat, eq_self, ↓reduceIte, Bool.false_eq_true, decide_true, decide_false, List.take_length]
    refine c78 (n := 2) hcode (by omega) (Cur.own0 rfl (by omega)) fun s H2 hl hc2 hb2 => ?_
    obtain ⟨a2, sd2, ha2, rfl⟩ := hb2.own0 hc2
    simp -implicitDefEqProofs only [go_sem, Nat.reduceBEq, Nat.reduceLT, Nat.reduceAdd, Nat.reduceSub, Nat.reduceLeDiff, Int.reduceToNat, eq_self, ↓reduceIte, Bool.false_eq_true, decide_true, decide_false, List.take_length]
    exact end1 (by simp -implicitDefEqProofs only [go_sem, Nat.reduceBEq, Nat.reduceLT, Nat.reduceAdd, Nat.reduceSub, Nat.reduceLeDiff, Int.reduceToNat, eq_self, ↓reduceIte, Bool.false_eq_true, decide_true, decide_false, List.take_length]; rfl) rfl (by simp -implicitDefEqProofs only [go_sem, Nat.reduceBEq, Nat.reduceLT, Nat.reduceAdd, Nat.reduceSub, Nat.reduceLeDiff, Int.reduceToNat, eq_self, ↓reduceIte, Bool.false_eq_true, decide_true, decide_false, List.take_length]; exact h s (by omega))
theorem bytes_getD' (l : List UInt8) (i : Nat) (h : i < l.length) : (bytesD l).getD i .any = .int .u8 ((l.getD i 0).toNat : Nat) := by
  rw [getD_map _ _ _ _ h, getD_lt' _ _ _ h]
/-- A byte of a code, or one that its length gives. -/
def vAtS (code : List UInt8) (i : Nat) : Nat := if i < code.length then (code.getD i 0).toNat else (i * 7 + code.length) % 256
theorem vAtS_lt (code : List UInt8) (i : Nat) : vAtS code i < 256 := by
  unfold vAtS
  split
  · exact (code.getD i 0).toNat_lt
  · omega
theorem c47 {code : List UInt8} (i : Nat) (hi : i < 1000) (hcode : code.length < 1000000) (h : K (int (vAtS code i : Nat)) H) : CallWp Tryd.prog W0 47 [.lst .no (bytesD code), int i] H K := by
  refine CallWp.fun hm F47 (Nat.le_of_ble_eq_true rfl) (Nat.le_of_ble_eq_true rfl) ?_
  unfold s47 h47
  simp -implicitDefEqProofs only [go_sem, Nat.reduceBEq, Nat.reduceLT, Nat.reduceAdd, Nat.reduceSub, Nat.reduceLeDiff, Int.reduceToNat, eq_self, ↓reduceIte, Bool.false_eq_true, decide_true, decide_false, List.take_length]
  refine dsplit (fun h1 => ?_) (fun h1 => ?_)
  · have hget : (bytesD code).getD i .any = .int .u8 ((code.getD i 0).toNat : Nat) := bytes_getD' code i (by omega)
    simp -implicitDefEqProofs only [go_sem, Nat.reduceBEq, Nat.reduceLT, Nat.reduceAdd, Nat.reduceSub, Nat.reduceLeDiff, Int.reduceToNat, eq_self, ↓reduceIte, Bool.false_eq_true, decide_true, decide_false, List.take_length, h1, hget]
    refine need_mk (by omega) fun _ => ?_
    simp -implicitDefEqProofs only [go_sem, Nat.reduceBEq, Nat.reduceLT, Nat.reduceAdd, Nat.reduceSub, Nat.reduceLeDiff, Int.reduceToNat, eq_self, ↓reduceIte, Bool.false_eq_true, decide_true, decide_false, List.take_length, h1, hget]
    have := (code.getD i 0).toNat_lt
    rw [w64 (by omega)]
    unfold vAtS at h
    rw [if_pos (by omega)] at h
    exact end1 (by simp -implicitDefEqProofs only [go_sem, Nat.reduceBEq, Nat.reduceLT, Nat.reduceAdd, Nat.reduceSub, Nat.reduceLeDiff, Int.reduceToNat, eq_self, ↓reduceIte, Bool.false_eq_true, decide_true, decide_false, List.take_length]; rfl) rfl (by simp -implicitDefEqProofs only [go_sem, Nat.reduceBEq, Nat.reduceLT, Nat.reduceAdd, Nat.reduceSub, Nat.reduceLeDiff, Int.reduceToNat, eq_self, ↓reduceIte, Bool.false_eq_true, decide_true, decide_false, List.take_length]; exact h)
  · unfold vAtS at h
    rw [if_neg (by omega)] at h
    simp -implicitDefEqProofs only [go_sem, Nat.reduceBEq, Nat.reduceLT, Nat.reduceAdd, Nat.reduceSub, Nat.reduceLeDiff, Int.reduceToNat, eq_self, ↓reduceIte, Bool.false_eq_true, decide_true, decide_false, List.take_length, h1]
    refine need_mk (by decide) fun _ => ?_
    simp -implicitDefEqProofs only [go_sem, Nat.reduceBEq, Nat.reduceLT, Nat.reduceAdd, Nat.reduceSub, Nat.reduceLeDiff, Int.reduceToNat, eq_self, ↓reduceIte, Bool.false_eq_true, decide_true, decide_false, List.take_length, h1]
    have e1 : IntKind.i64.wrap ((i : Int) * 7) = ((i * 7 : Nat) : Int) := by rw [w64 (by omega)]; omega
    have e2 : IntKind.i64.wrap (((i * 7 : Nat) : Int) + (code.length : Nat)) = ((i * 7 + code.length : Nat) : Int) := by rw [w64 (by omega)]; omega
    have e3 : Int.tmod ((i * 7 + code.length : Nat) : Int) 256 = (((i * 7 + code.length) % 256 : Nat) : Int) := by rw [Int.tmod_eq_emod_of_nonneg (by omega)]; omega
    rw [e1, e2, e3]
    exact end1 (by simp -implicitDefEqProofs only [go_sem, Nat.reduceBEq, Nat.reduceLT, Nat.reduceAdd, Nat.reduceSub, Nat.reduceLeDiff, Int.reduceToNat, eq_self, ↓reduceIte, Bool.false_eq_true, decide_true, decide_false, List.take_length]; rfl) rfl (by simp -implicitDefEqProofs only [go_sem, Nat.reduceBEq, Nat.reduceLT, Nat.reduceAdd, Nat.reduceSub, Nat.reduceLeDiff, Int.reduceToNat, eq_self, ↓reduceIte, Bool.false_eq_true, decide_true, decide_false, List.take_length]; exact h)
end Go.Proofs.YtgnebanjejmckaaDoor
