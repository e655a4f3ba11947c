/- The law FnStrings, as a contract. -/
import Derived.Test.YtgnebanjejmckaaDoorP3
import Derived.Test.YtgnebanjejmckaaDoorA6
import Derived.Test.YtgnebanjejmckaaDoorG4
set_option maxRecDepth 100000
set_option linter.unusedSimpArgs false
set_option linter.unusedVariables false
namespace Go.Proofs.YtgnebanjejmckaaDoor
open Go Dl
variable {W0 : World} {H : Heap} {K : D → Heap → Prop}

theorem load_byte (q : List UInt8) (R : List D) (k : Nat) (h : k < q.length) : (if 0 + k * 1 ≤ (bytesD q ++ R).length then (if 0 < (List.drop (0 + k * 1) (bytesD q ++ R)).length then some ((List.drop (0 + k * 1) (bytesD q ++ R)).getD 0 D.any).pl else none) else none) = some (.int .u8 ((q.getD k 0).toNat : Nat)) := by
  have e1 : (List.drop (0 + k * 1) (bytesD q ++ R)).getD 0 .any = .int .u8 ((q.getD k 0).toNat : Nat) := by
    rw [← bytes_getD q k h, List.getD_eq_getElem?_getD, List.getElem?_drop, List.getElem?_append_left (by simp; omega), List.getD_eq_getElem?_getD]
    simp
  rw [if_pos (by simp; omega), if_pos (by simp; omega), e1]
  rfl
theorem xor_val (c : UInt8) (d : Nat) (hd : d < 256) : IntKind.u8.wrap ((BitVec.ofInt IntKind.u8.bits ((c.toNat : Nat) : Int) ^^^ BitVec.ofInt IntKind.u8.bits ((d : Nat) : Int)).toNat : Nat) = ((c ^^^ UInt8.ofNat d).toNat : Nat) := by
  have h1 : BitVec.ofInt IntKind.u8.bits ((c.toNat : Nat) : Int) = BitVec.ofNat 8 c.toNat := by
    rw [BitVec.ofInt_natCast]; rfl
  have h2 : BitVec.ofInt IntKind.u8.bits ((d : Nat) : Int) = BitVec.ofNat 8 d := by
    rw [BitVec.ofInt_natCast]; rfl
  rw [h1, h2]
  have h3 : (BitVec.ofNat 8 c.toNat ^^^ BitVec.ofNat 8 d).toNat = (c ^^^ UInt8.ofNat d).toNat := by
    rw [UInt8.toNat_xor, BitVec.toNat_xor, BitVec.toNat_ofNat, BitVec.toNat_ofNat, UInt8.toNat_ofNat']
    have := c.toNat_lt
    rw [Nat.mod_eq_of_lt (by omega)]
  have h4 := (c ^^^ UInt8.ofNat d).toNat_lt
  show IntKind.u8.wrap ((BitVec.ofNat 8 c.toNat ^^^ BitVec.ofNat 8 d).toNat : Nat) = _
  rw [h3, wu8 (by omega)]
theorem xor_ne (c : UInt8) (d : Nat) (h0 : 0 < d) (hd : d < 256) : ¬ c ^^^ UInt8.ofNat d = c := by
  intro h
  have h1 : c ^^^ (c ^^^ UInt8.ofNat d) = c ^^^ c := by rw [h]
  rw [← UInt8.xor_assoc, UInt8.xor_self, UInt8.zero_xor] at h1
  have := congrArg UInt8.toNat h1
  rw [UInt8.toNat_ofNat', Nat.mod_eq_of_lt (by omega)] at this
  have e0 : (0 : UInt8).toNat = 0 := rfl
  omega

theorem c6 (hW : GoodE W0) {code : List UInt8} (hcode : code.length < 9223372036854775808) (h : K (.bool true) H) : CallWp Tryd.prog W0 6 [.lst .no (bytesD code)] H K := by
  refine CallWp.fun hm F6 (Nat.le_of_ble_eq_true rfl) (Nat.le_of_ble_eq_true rfl) ?_
  unfold s6 h6
  simp -implicitDefEqProofs only [go_sem, Nat.reduceBEq, Nat.reduceLT, Nat.reduceAdd, Nat.reduceSub, Nat.reduceLeDiff, Int.reduceToNat, eq_self, ↓reduceIte, Bool.false_eq_true, decide_true, decide_false, List.take_length]
  refine c7 ?_
  simp -implicitDefEqProofs only [go_sem, Nat.reduceBEq, Nat.reduceLT, Nat.reduceAdd, Nat.reduceSub, Nat.reduceLeDiff, Int.reduceToNat, eq_self, ↓reduceIte, Bool.false_eq_true, decide_true, decide_false, List.take_length]
  refine dsplit (fun hbig => ?_) (fun hbig => ?_)
  · simp -implicitDefEqProofs only [go_sem, Nat.reduceBEq, Nat.reduceLT, Nat.reduceAdd, Nat.reduceSub, Nat.reduceLeDiff, Int.reduceToNat, eq_self, ↓reduceIte, Bool.false_eq_true, decide_true, decide_false, List.take_length]
    exact end1 (by simp -implicitDefEqProofs only [go_sem, Nat.reduceBEq, Nat.reduceLT, Nat.reduceAdd, Nat.reduceSub, Nat.reduceLeDiff, Int.reduceToNat, eq_self, ↓reduceIte, Bool.false_eq_true, decide_true, decide_false, List.take_length]; rfl) rfl (by simp -implicitDefEqProofs only [go_sem, Nat.reduceBEq, Nat.reduceLT, Nat.reduceAdd, Nat.reduceSub, Nat.reduceLeDiff, Int.reduceToNat, eq_self, ↓reduceIte, Bool.false_eq_true, decide_true, decide_false, List.take_length]; exact h)
  have hc : code.length ≤ 65536 := by omega
  simp -implicitDefEqProofs only [go_sem, Nat.reduceBEq, Nat.reduceLT, Nat.reduceAdd, Nat.reduceSub, Nat.reduceLeDiff, Int.reduceToNat, eq_self, ↓reduceIte, Bool.false_eq_true, decide_true, decide_false, List.take_length]
  refine c37 (by omega) fun n => ?_
  simp -implicitDefEqProofs only [go_sem, Nat.reduceBEq, Nat.reduceLT, Nat.reduceAdd, Nat.reduceSub, Nat.reduceLeDiff, Int.reduceToNat, eq_self, ↓reduceIte, Bool.false_eq_true, decide_true, decide_false, List.take_length]
  refine c38 hW.good n ?_
  simp -implicitDefEqProofs only [go_sem, Nat.reduceBEq, Nat.reduceLT, Nat.reduceAdd, Nat.reduceSub, Nat.reduceLeDiff, Int.reduceToNat, eq_self, ↓reduceIte, Bool.false_eq_true, decide_true, decide_false, List.take_length]
  refine c39 n ?_
  simp -implicitDefEqProofs only [go_sem, Nat.reduceBEq, Nat.reduceLT, Nat.reduceAdd, Nat.reduceSub, Nat.reduceLeDiff, Int.reduceToNat, eq_self, ↓reduceIte, Bool.false_eq_true, decide_true, decide_false, List.take_length]
  refine c40 (by omega) fun t ht => ?_
  simp -implicitDefEqProofs only [go_sem, Nat.reduceBEq, Nat.reduceLT, Nat.reduceAdd, Nat.reduceSub, Nat.reduceLeDiff, Int.reduceToNat, eq_self, ↓reduceIte, Bool.false_eq_true, decide_true, decide_false, List.take_length]
  refine c41 hW t (by omega) fun m1 b1 hp1 => ?_
  simp -implicitDefEqProofs only [go_sem, Nat.reduceBEq, Nat.reduceLT, Nat.reduceAdd, Nat.reduceSub, Nat.reduceLeDiff, Int.reduceToNat, eq_self, ↓reduceIte, Bool.false_eq_true, decide_true, decide_false, List.take_length]
  refine c42 t (by omega) fun m2 b2 hp2 => ?_
  obtain ⟨rfl, rfl⟩ := hp1.uniq hp2
  simp -implicitDefEqProofs only [go_sem, Nat.reduceBEq, Nat.reduceLT, Nat.reduceAdd, Nat.reduceSub, Nat.reduceLeDiff, Int.reduceToNat, eq_self, ↓reduceIte, Bool.false_eq_true, decide_true, decide_false, List.take_length]
  refine c43 (by omega) fun x hx => ?_
  simp -implicitDefEqProofs only [go_sem, Nat.reduceBEq, Nat.reduceLT, Nat.reduceAdd, Nat.reduceSub, Nat.reduceLeDiff, Int.reduceToNat, eq_self, ↓reduceIte, Bool.false_eq_true, decide_true, decide_false, List.take_length]
  refine c44 hW.good x (by omega) ?_
  simp -implicitDefEqProofs only [go_sem, Nat.reduceBEq, Nat.reduceLT, Nat.reduceAdd, Nat.reduceSub, Nat.reduceLeDiff, Int.reduceToNat, eq_self, ↓reduceIte, Bool.false_eq_true, decide_true, decide_false, List.take_length]
  refine c45 x (by omega) ?_
  simp -implicitDefEqProofs only [go_sem, Nat.reduceBEq, Nat.reduceLT, Nat.reduceAdd, Nat.reduceSub, Nat.reduceLeDiff, Int.reduceToNat, eq_self, ↓reduceIte, Bool.false_eq_true, decide_true, decide_false, List.take_length]
  have hf : (fmtS n).1.length ≤ 7 := by
    unfold fmtS
    split
    · rename_i hh; exact itoa_small hh.1 hh.2
    · simp
  refine c41 hW (fmtS n).1 (by omega) fun m3 b3 hp3 => ?_
  have hback : (fmtS n).2 = true → m3 = n ∧ b3 = true := fun h2 => by
    unfold fmtS at h2 hp3
    split at h2
    · rename_i hh
      rw [if_pos hh] at hp3
      exact hp3.uniq (.inl ⟨rfl, hh.1, hh.2, rfl⟩)
    · cases h2
  have hno : (appS x).2 = false → (appS x).1 = [] := fun h2 => by
    unfold appS at *
    split
    · rfl
    · rename_i h1
      rw [if_neg h1] at h2
      split
      · rfl
      · rename_i h3
        rw [if_neg h3] at h2
        cases h2
  cases hfn : (fmtS n).2 with
  | false =>
    simp -implicitDefEqProofs only [go_sem, Nat.reduceBEq, Nat.reduceLT, Nat.reduceAdd, Nat.reduceSub, Nat.reduceLeDiff, Int.reduceToNat, eq_self, ↓reduceIte, Bool.false_eq_true, decide_true, decide_false, List.take_length]
    cases hs : (appS x).2 with
    | false =>
      rw [hno hs]
      simp -implicitDefEqProofs only [go_sem, Nat.reduceBEq, Nat.reduceLT, Nat.reduceAdd, Nat.reduceSub, Nat.reduceLeDiff, Int.reduceToNat, eq_self, ↓reduceIte, Bool.false_eq_true, decide_true, decide_false, List.take_length]
      exact end1 (by simp -implicitDefEqProofs only [go_sem, Nat.reduceBEq, Nat.reduceLT, Nat.reduceAdd, Nat.reduceSub, Nat.reduceLeDiff, Int.reduceToNat, eq_self, ↓reduceIte, Bool.false_eq_true, decide_true, decide_false, List.take_length]; rfl) rfl (by simp -implicitDefEqProofs only [go_sem, Nat.reduceBEq, Nat.reduceLT, Nat.reduceAdd, Nat.reduceSub, Nat.reduceLeDiff, Int.reduceToNat, eq_self, ↓reduceIte, Bool.false_eq_true, decide_true, decide_false, List.take_length]; exact h)
    | true =>
      obtain ⟨ey, hx35, hxl, hyl⟩ := appS_some hs
      rw [ey]
      have hver : verS (sealS x) = (x, true) := by
        unfold verS
        rw [seal_fst hx35, if_pos ⟨hs, ey⟩]
      have hypos : 0 < (sealS x).length := by unfold sealS; simp; omega
      have hchg := fun i c => ver_change (x := x) (i := i) (c := c) hx35
      generalize sealS x = y at *
      simp -implicitDefEqProofs only [go_sem, Nat.reduceBEq, Nat.reduceLT, Nat.reduceAdd, Nat.reduceSub, Nat.reduceLeDiff, Int.reduceToNat, eq_self, ↓reduceIte, Bool.false_eq_true, decide_true, decide_false, List.take_length]
      refine c46 hW.good y (by omega) ?_
      rw [hver]
      simp -implicitDefEqProofs only [go_sem, Nat.reduceBEq, Nat.reduceLT, Nat.reduceAdd, Nat.reduceSub, Nat.reduceLeDiff, Int.reduceToNat, eq_self, ↓reduceIte, Bool.false_eq_true, decide_true, decide_false, List.take_length]
      refine ⟨⟨by kernel_rfl, by kernel_rfl, by omega⟩, fun cap hc1 hc2 => ?_⟩
      simp -implicitDefEqProofs only [go_sem, Nat.reduceBEq, Nat.reduceLT, Nat.reduceAdd, Nat.reduceSub, Nat.reduceLeDiff, Int.reduceToNat, eq_self, ↓reduceIte, Bool.false_eq_true, decide_true, decide_false, List.take_length]
      refine c47 9 (by omega) (by omega) ?_
      have hv9 := vAtS_lt code 9
      have hv10 := vAtS_lt code 10
      generalize vAtS code 9 = v9 at *
      simp -implicitDefEqProofs only [go_sem, Nat.reduceBEq, Nat.reduceLT, Nat.reduceAdd, Nat.reduceSub, Nat.reduceLeDiff, Int.reduceToNat, eq_self, ↓reduceIte, Bool.false_eq_true, decide_true, decide_false, List.take_length]
      refine need_mk (by omega) fun _ => ?_
      have e1 : Int.tmod ((v9 : Nat) : Int) ((y.length : Nat) : Int) = ((v9 % y.length : Nat) : Int) := by rw [Int.tmod_eq_emod_of_nonneg (by omega)]; omega
      have hk : v9 % y.length < y.length := Nat.mod_lt _ hypos
      generalize v9 % y.length = k at *
      simp -implicitDefEqProofs only [go_sem, Nat.reduceBEq, Nat.reduceLT, Nat.reduceAdd, Nat.reduceSub, Nat.reduceLeDiff, Int.reduceToNat, eq_self, ↓reduceIte, Bool.false_eq_true, decide_true, decide_false, List.take_length, e1]
      refine need_mk (by omega) fun _ => ?_
      simp -implicitDefEqProofs only [go_sem, Nat.reduceBEq, Nat.reduceLT, Nat.reduceAdd, Nat.reduceSub, Nat.reduceLeDiff, Int.reduceToNat, eq_self, ↓reduceIte, Bool.false_eq_true, decide_true, decide_false, List.take_length, e1]
      generalize List.replicate (cap - y.length) (D.int IntKind.u8 0) = R at *
      rw [load_byte y R k hk]
      simp -implicitDefEqProofs only [go_sem, Nat.reduceBEq, Nat.reduceLT, Nat.reduceAdd, Nat.reduceSub, Nat.reduceLeDiff, Int.reduceToNat, eq_self, ↓reduceIte, Bool.false_eq_true, decide_true, decide_false, List.take_length, e1]
      refine Grow_mk (fun K => c47 10 (by omega) (by omega)) ?_
      generalize vAtS code 10 = v10 at *
      simp -implicitDefEqProofs only [go_sem, Nat.reduceBEq, Nat.reduceLT, Nat.reduceAdd, Nat.reduceSub, Nat.reduceLeDiff, Int.reduceToNat, eq_self, ↓reduceIte, Bool.false_eq_true, decide_true, decide_false, List.take_length, e1]
      refine need_mk (by decide) fun _ => ?_
      have e2 : Int.tmod ((v10 : Nat) : Int) 255 = ((v10 % 255 : Nat) : Int) := by rw [Int.tmod_eq_emod_of_nonneg (by omega)]; omega
      have e3 : IntKind.i64.wrap (1 + ((v10 % 255 : Nat) : Int)) = ((1 + v10 % 255 : Nat) : Int) := by rw [w64 (by omega)]; omega
      have e4 : IntKind.u8.wrap ((1 + v10 % 255 : Nat) : Int) = ((1 + v10 % 255 : Nat) : Int) := wu8 (by omega)
      simp -implicitDefEqProofs only [go_sem, Nat.reduceBEq, Nat.reduceLT, Nat.reduceAdd, Nat.reduceSub, Nat.reduceLeDiff, Int.reduceToNat, eq_self, ↓reduceIte, Bool.false_eq_true, decide_true, decide_false, List.take_length, e1, e2, e3, e4]
      refine need_mk (by omega) fun _ => ?_
      simp -implicitDefEqProofs only [go_sem, Nat.reduceBEq, Nat.reduceLT, Nat.reduceAdd, Nat.reduceSub, Nat.reduceLeDiff, Int.reduceToNat, eq_self, ↓reduceIte, Bool.false_eq_true, decide_true, decide_false, List.take_length]
      refine needH_mk (by simp; omega) fun _ => ?_
      erw [xor_val _ _ (show 1 + v10 % 255 < 256 by omega)]
      rw [set_byte _ _ _ _ hk]
      simp -implicitDefEqProofs only [go_sem, Nat.reduceBEq, Nat.reduceLT, Nat.reduceAdd, Nat.reduceSub, Nat.reduceLeDiff, Int.reduceToNat, eq_self, ↓reduceIte, Bool.false_eq_true, decide_true, decide_false, List.take_length]
      have hbad := hchg k (y.getD k 0 ^^^ UInt8.ofNat (1 + v10 % 255)) hk (xor_ne _ _ (by omega) (by omega))
      refine cv_back (q := y.set k (y.getD k 0 ^^^ UInt8.ofNat (1 + v10 % 255))) (rest := R) (by kernel_rfl) (by kernel_rfl) (by simp) (by simp) (by simp -implicitDefEqProofs only [go_sem, Nat.reduceBEq, Nat.reduceLT, Nat.reduceAdd, Nat.reduceSub, Nat.reduceLeDiff, Int.reduceToNat, eq_self, ↓reduceIte, Bool.false_eq_true, decide_true, decide_false, List.take_length]) ?_
      simp -implicitDefEqProofs only [go_sem, Nat.reduceBEq, Nat.reduceLT, Nat.reduceAdd, Nat.reduceSub, Nat.reduceLeDiff, Int.reduceToNat, eq_self, ↓reduceIte, Bool.false_eq_true, decide_true, decide_false, List.take_length]
      refine c46 hW.good _ (by first | omega | (simp only [List.length_append, List.length_cons, List.length_nil, List.length_take, List.length_drop, List.length_map, List.length_set]; omega) | (simp only [List.length_append, List.length_cons, List.length_nil, List.length_take, List.length_drop, List.length_map, List.length_set] at *; omega)) ?_
      rw [hbad]
      simp -implicitDefEqProofs only [go_sem, Nat.reduceBEq, Nat.reduceLT, Nat.reduceAdd, Nat.reduceSub, Nat.reduceLeDiff, Int.reduceToNat, eq_self, ↓reduceIte, Bool.false_eq_true, decide_true, decide_false, List.take_length]
      exact end1 (by simp -implicitDefEqProofs only [go_sem, Nat.reduceBEq, Nat.reduceLT, Nat.reduceAdd, Nat.reduceSub, Nat.reduceLeDiff, Int.reduceToNat, eq_self, ↓reduceIte, Bool.false_eq_true, decide_true, decide_false, List.take_length]; rfl) rfl (by simp -implicitDefEqProofs only [go_sem, Nat.reduceBEq, Nat.reduceLT, Nat.reduceAdd, Nat.reduceSub, Nat.reduceLeDiff, Int.reduceToNat, eq_self, ↓reduceIte, Bool.false_eq_true, decide_true, decide_false, List.take_length]; exact h)
  | true =>
    obtain ⟨rfl, rfl⟩ := hback hfn
    simp -implicitDefEqProofs only [go_sem, Nat.reduceBEq, Nat.reduceLT, Nat.reduceAdd, Nat.reduceSub, Nat.reduceLeDiff, Int.reduceToNat, eq_self, ↓reduceIte, Bool.false_eq_true, decide_true, decide_false, List.take_length]
    cases hs : (appS x).2 with
    | false =>
      rw [hno hs]
      simp -implicitDefEqProofs only [go_sem, Nat.reduceBEq, Nat.reduceLT, Nat.reduceAdd, Nat.reduceSub, Nat.reduceLeDiff, Int.reduceToNat, eq_self, ↓reduceIte, Bool.false_eq_true, decide_true, decide_false, List.take_length]
      exact end1 (by simp -implicitDefEqProofs only [go_sem, Nat.reduceBEq, Nat.reduceLT, Nat.reduceAdd, Nat.reduceSub, Nat.reduceLeDiff, Int.reduceToNat, eq_self, ↓reduceIte, Bool.false_eq_true, decide_true, decide_false, List.take_length]; rfl) rfl (by simp -implicitDefEqProofs only [go_sem, Nat.reduceBEq, Nat.reduceLT, Nat.reduceAdd, Nat.reduceSub, Nat.reduceLeDiff, Int.reduceToNat, eq_self, ↓reduceIte, Bool.false_eq_true, decide_true, decide_false, List.take_length]; exact h)
    | true =>
      obtain ⟨ey, hx35, hxl, hyl⟩ := appS_some hs
      rw [ey]
      have hver : verS (sealS x) = (x, true) := by
        unfold verS
        rw [seal_fst hx35, if_pos ⟨hs, ey⟩]
      have hypos : 0 < (sealS x).length := by unfold sealS; simp; omega
      have hchg := fun i c => ver_change (x := x) (i := i) (c := c) hx35
      generalize sealS x = y at *
      simp -implicitDefEqProofs only [go_sem, Nat.reduceBEq, Nat.reduceLT, Nat.reduceAdd, Nat.reduceSub, Nat.reduceLeDiff, Int.reduceToNat, eq_self, ↓reduceIte, Bool.false_eq_true, decide_true, decide_false, List.take_length]
      refine c46 hW.good y (by omega) ?_
      rw [hver]
      simp -implicitDefEqProofs only [go_sem, Nat.reduceBEq, Nat.reduceLT, Nat.reduceAdd, Nat.reduceSub, Nat.reduceLeDiff, Int.reduceToNat, eq_self, ↓reduceIte, Bool.false_eq_true, decide_true, decide_false, List.take_length]
      refine ⟨⟨by kernel_rfl, by kernel_rfl, by omega⟩, fun cap hc1 hc2 => ?_⟩
      simp -implicitDefEqProofs only [go_sem, Nat.reduceBEq, Nat.reduceLT, Nat.reduceAdd, Nat.reduceSub, Nat.reduceLeDiff, Int.reduceToNat, eq_self, ↓reduceIte, Bool.false_eq_true, decide_true, decide_false, List.take_length]
      refine c47 9 (by omega) (by omega) ?_
      have hv9 := vAtS_lt code 9
      have hv10 := vAtS_lt code 10
      generalize vAtS code 9 = v9 at *
      simp -implicitDefEqProofs only [go_sem, Nat.reduceBEq, Nat.reduceLT, Nat.reduceAdd, Nat.reduceSub, Nat.reduceLeDiff, Int.reduceToNat, eq_self, ↓reduceIte, Bool.false_eq_true, decide_true, decide_false, List.take_length]
      refine need_mk (by omega) fun _ => ?_
      have e1 : Int.tmod ((v9 : Nat) : Int) ((y.length : Nat) : Int) = ((v9 % y.length : Nat) : Int) := by rw [Int.tmod_eq_emod_of_nonneg (by omega)]; omega
      have hk : v9 % y.length < y.length := Nat.mod_lt _ hypos
      generalize v9 % y.length = k at *
      simp -implicitDefEqProofs only [go_sem, Nat.reduceBEq, Nat.reduceLT, Nat.reduceAdd, Nat.reduceSub, Nat.reduceLeDiff, Int.reduceToNat, eq_self, ↓reduceIte, Bool.false_eq_true, decide_true, decide_false, List.take_length, e1]
      refine need_mk (by omega) fun _ => ?_
      simp -implicitDefEqProofs only [go_sem, Nat.reduceBEq, Nat.reduceLT, Nat.reduceAdd, Nat.reduceSub, Nat.reduceLeDiff, Int.reduceToNat, eq_self, ↓reduceIte, Bool.false_eq_true, decide_true, decide_false, List.take_length, e1]
      generalize List.replicate (cap - y.length) (D.int IntKind.u8 0) = R at *
      rw [load_byte y R k hk]
      simp -implicitDefEqProofs only [go_sem, Nat.reduceBEq, Nat.reduceLT, Nat.reduceAdd, Nat.reduceSub, Nat.reduceLeDiff, Int.reduceToNat, eq_self, ↓reduceIte, Bool.false_eq_true, decide_true, decide_false, List.take_length, e1]
      refine Grow_mk (fun K => c47 10 (by omega) (by omega)) ?_
      generalize vAtS code 10 = v10 at *
      simp -implicitDefEqProofs only [go_sem, Nat.reduceBEq, Nat.reduceLT, Nat.reduceAdd, Nat.reduceSub, Nat.reduceLeDiff, Int.reduceToNat, eq_self, ↓reduceIte, Bool.false_eq_true, decide_true, decide_false, List.take_length, e1]
      refine need_mk (by decide) fun _ => ?_
      have e2 : Int.tmod ((v10 : Nat) : Int) 255 = ((v10 % 255 : Nat) : Int) := by rw [Int.tmod_eq_emod_of_nonneg (by omega)]; omega
      have e3 : IntKind.i64.wrap (1 + ((v10 % 255 : Nat) : Int)) = ((1 + v10 % 255 : Nat) : Int) := by rw [w64 (by omega)]; omega
      have e4 : IntKind.u8.wrap ((1 + v10 % 255 : Nat) : Int) = ((1 + v10 % 255 : Nat) : Int) := wu8 (by omega)
      simp -implicitDefEqProofs only [go_sem, Nat.reduceBEq, Nat.reduceLT, Nat.reduceAdd, Nat.reduceSub, Nat.reduceLeDiff, Int.reduceToNat, eq_self, ↓reduceIte, Bool.false_eq_true, decide_true, decide_false, List.take_length, e1, e2, e3, e4]
      refine need_mk (by omega) fun _ => ?_
      simp -implicitDefEqProofs only [go_sem, Nat.reduceBEq, Nat.reduceLT, Nat.reduceAdd, Nat.reduceSub, Nat.reduceLeDiff, Int.reduceToNat, eq_self, ↓reduceIte, Bool.false_eq_true, decide_true, decide_false, List.take_length]
      refine needH_mk (by simp; omega) fun _ => ?_
      erw [xor_val _ _ (show 1 + v10 % 255 < 256 by omega)]
      rw [set_byte _ _ _ _ hk]
      simp -implicitDefEqProofs only [go_sem, Nat.reduceBEq, Nat.reduceLT, Nat.reduceAdd, Nat.reduceSub, Nat.reduceLeDiff, Int.reduceToNat, eq_self, ↓reduceIte, Bool.false_eq_true, decide_true, decide_false, List.take_length]
      have hbad := hchg k (y.getD k 0 ^^^ UInt8.ofNat (1 + v10 % 255)) hk (xor_ne _ _ (by omega) (by omega))
      refine cv_back (q := y.set k (y.getD k 0 ^^^ UInt8.ofNat (1 + v10 % 255))) (rest := R) (by kernel_rfl) (by kernel_rfl) (by simp) (by simp) (by simp -implicitDefEqProofs only [go_sem, Nat.reduceBEq, Nat.reduceLT, Nat.reduceAdd, Nat.reduceSub, Nat.reduceLeDiff, Int.reduceToNat, eq_self, ↓reduceIte, Bool.false_eq_true, decide_true, decide_false, List.take_length]) ?_
      simp -implicitDefEqProofs only [go_sem, Nat.reduceBEq, Nat.reduceLT, Nat.reduceAdd, Nat.reduceSub, Nat.reduceLeDiff, Int.reduceToNat, eq_self, ↓reduceIte, Bool.false_eq_true, decide_true, decide_false, List.take_length]
      refine c46 hW.good _ (by first | omega | (simp only [List.length_append, List.length_cons, List.length_nil, List.length_take, List.length_drop, List.length_map, List.length_set]; omega) | (simp only [List.length_append, List.length_cons, List.length_nil, List.length_take, List.length_drop, List.length_map, List.length_set] at *; omega)) ?_
      rw [hbad]
      simp -implicitDefEqProofs only [go_sem, Nat.reduceBEq, Nat.reduceLT, Nat.reduceAdd, Nat.reduceSub, Nat.reduceLeDiff, Int.reduceToNat, eq_self, ↓reduceIte, Bool.false_eq_true, decide_true, decide_false, List.take_length]
      exact end1 (by simp -implicitDefEqProofs only [go_sem, Nat.reduceBEq, Nat.reduceLT, Nat.reduceAdd, Nat.reduceSub, Nat.reduceLeDiff, Int.reduceToNat, eq_self, ↓reduceIte, Bool.false_eq_true, decide_true, decide_false, List.take_length]; rfl) rfl (by simp -implicitDefEqProofs only [go_sem, Nat.reduceBEq, Nat.reduceLT, Nat.reduceAdd, Nat.reduceSub, Nat.reduceLeDiff, Int.reduceToNat, eq_self, ↓reduceIte, Bool.false_eq_true, decide_true, decide_false, List.take_length]; exact h)
end Go.Proofs.YtgnebanjejmckaaDoor
