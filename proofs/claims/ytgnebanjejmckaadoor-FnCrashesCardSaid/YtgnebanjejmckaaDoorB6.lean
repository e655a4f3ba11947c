/- Contracts of the program's own functions on crashes. -/
import Derived.Test.YtgnebanjejmckaaDoorB5
import Derived.Test.YtgnebanjejmckaaDoorA6
set_option maxRecDepth 100000
set_option linter.unusedSimpArgs false
set_option linter.unusedVariables false
namespace Go.Proofs.YtgnebanjejmckaaDoor
open Go Dl
variable {W0 : World} {H : Heap} {K : D → Heap → Prop}

theorem c27 (hW : Good W0) (d p : List UInt8) (cnt keep : Int) (torn : Bool) (h1 : d.length < 100000000) (h2 : p.length < 100000000)
    (h : K (.tup [.str (crashS d p cnt keep torn).1, .bool (crashS d p cnt keep torn).2]) H) : CallWp Tryd.prog W0 27 [logD d p cnt, int keep, .bool torn] H K := by
  refine CallWp.fun hm F27 (Nat.le_of_ble_eq_true rfl) (Nat.le_of_ble_eq_true rfl) ?_
  unfold s27 h27 logD
  simp -implicitDefEqProofs only [go_sem, Nat.reduceBEq, Nat.reduceLT, Nat.reduceAdd, Nat.reduceSub, Nat.reduceLeDiff, Int.reduceToNat, eq_self, ↓reduceIte, Bool.false_eq_true, decide_true, decide_false, List.take_length]
  refine c19 hW d p cnt (by omega) (by omega) ?_
  unfold crashS at h
  cases hv : validS d p cnt with
  | false =>
    rw [hv, if_neg (by simp)] at h
    simp -implicitDefEqProofs only [go_sem, Nat.reduceBEq, Nat.reduceLT, Nat.reduceAdd, Nat.reduceSub, Nat.reduceLeDiff, Int.reduceToNat, eq_self, ↓reduceIte, Bool.false_eq_true, decide_true, decide_false, List.take_length]
    exact end2 (by simp -implicitDefEqProofs only [go_sem, Nat.reduceBEq, Nat.reduceLT, Nat.reduceAdd, Nat.reduceSub, Nat.reduceLeDiff, Int.reduceToNat, eq_self, ↓reduceIte, Bool.false_eq_true, decide_true, decide_false, List.take_length]; rfl) (by simp -implicitDefEqProofs only [go_sem, Nat.reduceBEq, Nat.reduceLT, Nat.reduceAdd, Nat.reduceSub, Nat.reduceLeDiff, Int.reduceToNat, eq_self, ↓reduceIte, Bool.false_eq_true, decide_true, decide_false, List.take_length]; rfl) rfl (by simp -implicitDefEqProofs only [go_sem, Nat.reduceBEq, Nat.reduceLT, Nat.reduceAdd, Nat.reduceSub, Nat.reduceLeDiff, Int.reduceToNat, eq_self, ↓reduceIte, Bool.false_eq_true, decide_true, decide_false, List.take_length]; exact h)
  | true =>
    have v3 := (valid_cnt hv).2.2
    rw [hv] at h
    simp -implicitDefEqProofs only [go_sem, Nat.reduceBEq, Nat.reduceLT, Nat.reduceAdd, Nat.reduceSub, Nat.reduceLeDiff, Int.reduceToNat, eq_self, ↓reduceIte, Bool.false_eq_true, decide_true, decide_false, List.take_length]
    refine c50 _ _ _ ?_
    by_cases g1 : 0 ≤ keep
    case neg =>
      rw [if_neg (by omega)] at h
      simp -implicitDefEqProofs only [go_sem, Nat.reduceBEq, Nat.reduceLT, Nat.reduceAdd, Nat.reduceSub, Nat.reduceLeDiff, Int.reduceToNat, eq_self, ↓reduceIte, Bool.false_eq_true, decide_true, decide_false, List.take_length, g1]
      exact end2 (by simp -implicitDefEqProofs only [go_sem, Nat.reduceBEq, Nat.reduceLT, Nat.reduceAdd, Nat.reduceSub, Nat.reduceLeDiff, Int.reduceToNat, eq_self, ↓reduceIte, Bool.false_eq_true, decide_true, decide_false, List.take_length]; rfl) (by simp -implicitDefEqProofs only [go_sem, Nat.reduceBEq, Nat.reduceLT, Nat.reduceAdd, Nat.reduceSub, Nat.reduceLeDiff, Int.reduceToNat, eq_self, ↓reduceIte, Bool.false_eq_true, decide_true, decide_false, List.take_length]; rfl) rfl (by simp -implicitDefEqProofs only [go_sem, Nat.reduceBEq, Nat.reduceLT, Nat.reduceAdd, Nat.reduceSub, Nat.reduceLeDiff, Int.reduceToNat, eq_self, ↓reduceIte, Bool.false_eq_true, decide_true, decide_false, List.take_length]; exact h)
    by_cases g2 : keep ≤ p.length
    case neg =>
      rw [if_neg (by omega)] at h
      simp -implicitDefEqProofs only [go_sem, Nat.reduceBEq, Nat.reduceLT, Nat.reduceAdd, Nat.reduceSub, Nat.reduceLeDiff, Int.reduceToNat, eq_self, ↓reduceIte, Bool.false_eq_true, decide_true, decide_false, List.take_length, g1, g2]
      exact end2 (by simp -implicitDefEqProofs only [go_sem, Nat.reduceBEq, Nat.reduceLT, Nat.reduceAdd, Nat.reduceSub, Nat.reduceLeDiff, Int.reduceToNat, eq_self, ↓reduceIte, Bool.false_eq_true, decide_true, decide_false, List.take_length]; rfl) (by simp -implicitDefEqProofs only [go_sem, Nat.reduceBEq, Nat.reduceLT, Nat.reduceAdd, Nat.reduceSub, Nat.reduceLeDiff, Int.reduceToNat, eq_self, ↓reduceIte, Bool.false_eq_true, decide_true, decide_false, List.take_length]; rfl) rfl (by simp -implicitDefEqProofs only [go_sem, Nat.reduceBEq, Nat.reduceLT, Nat.reduceAdd, Nat.reduceSub, Nat.reduceLeDiff, Int.reduceToNat, eq_self, ↓reduceIte, Bool.false_eq_true, decide_true, decide_false, List.take_length]; exact h)
    rw [if_pos ⟨rfl, g1, g2⟩] at h
    obtain ⟨k, rfl⟩ : ∃ k : Nat, keep = k := ⟨keep.toNat, by omega⟩
    rw [Int.toNat_natCast] at h
    have hk : k ≤ p.length := by omega
    simp -implicitDefEqProofs only [go_sem, Nat.reduceBEq, Nat.reduceLT, Nat.reduceAdd, Nat.reduceSub, Nat.reduceLeDiff, Int.reduceToNat, eq_self, ↓reduceIte, Bool.false_eq_true, decide_true, decide_false, List.take_length, g1, g2]
    refine need_mk (by omega) fun _ => ?_
    simp -implicitDefEqProofs only [go_sem, Nat.reduceBEq, Nat.reduceLT, Nat.reduceAdd, Nat.reduceSub, Nat.reduceLeDiff, Int.reduceToNat, eq_self, ↓reduceIte, Bool.false_eq_true, decide_true, decide_false, List.take_length, g1, g2, Nat.sub_zero]
    have hlt : (p.take k).length = k := by first | omega | (simp only [List.length_append, List.length_cons, List.length_nil, List.length_take, List.length_drop, List.length_map, List.length_set]; omega) | (simp only [List.length_append, List.length_cons, List.length_nil, List.length_take, List.length_drop, List.length_map, List.length_set] at *; omega)
    refine need_mk (by omega) fun _ => ?_
    simp -implicitDefEqProofs only [go_sem, Nat.reduceBEq, Nat.reduceLT, Nat.reduceAdd, Nat.reduceSub, Nat.reduceLeDiff, Int.reduceToNat, eq_self, ↓reduceIte, Bool.false_eq_true, decide_true, decide_false, List.take_length, g1, g2, Nat.sub_zero]
    generalize p.take k = q at *
    have hln : (d ++ q).length = d.length + k := by first | omega | (simp only [List.length_append, List.length_cons, List.length_nil, List.length_take, List.length_drop, List.length_map, List.length_set]; omega) | (simp only [List.length_append, List.length_cons, List.length_nil, List.length_take, List.length_drop, List.length_map, List.length_set] at *; omega)
    refine ⟨⟨by kernel_rfl, by kernel_rfl, by first | omega | (simp only [List.length_append, List.length_cons, List.length_nil, List.length_take, List.length_drop, List.length_map, List.length_set]; omega) | (simp only [List.length_append, List.length_cons, List.length_nil, List.length_take, List.length_drop, List.length_map, List.length_set] at *; omega)⟩, fun cap hc1 hc2 => ?_⟩
    rw [hln] at hc1 ⊢
    have hfl : d ++ flipS torn q = if torn = true ∧ 0 < k then (d ++ q).set (d.length + k - 1) (255 - (d ++ q).getD (d.length + k - 1) 0) else d ++ q := by
      unfold flipS
      rw [hlt]
      split
      · rename_i ht
        have e1 : (d ++ q).getD (d.length + k - 1) 0 = q.getD (k - 1) 0 := by
          rw [List.getD_eq_getElem?_getD, List.getElem?_append_right (by omega), show d.length + k - 1 - d.length = k - 1 by omega, List.getD_eq_getElem?_getD]
        rw [List.set_append_right _ _ (by omega), show d.length + k - 1 - d.length = k - 1 by omega, e1]
      · rfl
    rw [hfl] at h
    clear hfl hlt
    generalize d ++ q = q at *
    have hnk : k ≤ d.length + k := by omega
    generalize d.length + k = n at *
    cases torn with
    | false =>
      rw [if_neg (by simp)] at h
      simp -implicitDefEqProofs only [go_sem, Nat.reduceBEq, Nat.reduceLT, Nat.reduceAdd, Nat.reduceSub, Nat.reduceLeDiff, Int.reduceToNat, eq_self, ↓reduceIte, Bool.false_eq_true, decide_true, decide_false, List.take_length]
      refine cv_back (q := q) (rest := List.replicate (cap - n) (D.int IntKind.u8 0)) (by kernel_rfl) (by kernel_rfl) (by first | omega | (simp only [List.length_append, List.length_cons, List.length_nil, List.length_take, List.length_drop, List.length_map, List.length_set]; omega) | (simp only [List.length_append, List.length_cons, List.length_nil, List.length_take, List.length_drop, List.length_map, List.length_set] at *; omega)) hln (by simp -implicitDefEqProofs only [go_sem, Nat.reduceBEq, Nat.reduceLT, Nat.reduceAdd, Nat.reduceSub, Nat.reduceLeDiff, Int.reduceToNat, eq_self, ↓reduceIte, Bool.false_eq_true, decide_true, decide_false, List.take_length]) ?_
      simp -implicitDefEqProofs only [go_sem, Nat.reduceBEq, Nat.reduceLT, Nat.reduceAdd, Nat.reduceSub, Nat.reduceLeDiff, Int.reduceToNat, eq_self, ↓reduceIte, Bool.false_eq_true, decide_true, decide_false, List.take_length]
      exact end2 (by simp -implicitDefEqProofs only [go_sem, Nat.reduceBEq, Nat.reduceLT, Nat.reduceAdd, Nat.reduceSub, Nat.reduceLeDiff, Int.reduceToNat, eq_self, ↓reduceIte, Bool.false_eq_true, decide_true, decide_false, List.take_length]; rfl) (by simp -implicitDefEqProofs only [go_sem, Nat.reduceBEq, Nat.reduceLT, Nat.reduceAdd, Nat.reduceSub, Nat.reduceLeDiff, Int.reduceToNat, eq_self, ↓reduceIte, Bool.false_eq_true, decide_true, decide_false, List.take_length]; rfl) rfl (by simp -implicitDefEqProofs only [go_sem, Nat.reduceBEq, Nat.reduceLT, Nat.reduceAdd, Nat.reduceSub, Nat.reduceLeDiff, Int.reduceToNat, eq_self, ↓reduceIte, Bool.false_eq_true, decide_true, decide_false, List.take_length]; exact h)
    | true =>
      simp -implicitDefEqProofs only [go_sem, Nat.reduceBEq, Nat.reduceLT, Nat.reduceAdd, Nat.reduceSub, Nat.reduceLeDiff, Int.reduceToNat, eq_self, ↓reduceIte, Bool.false_eq_true, decide_true, decide_false, List.take_length]
      refine dsplit (fun h0 => ?_) (fun h0 => ?_)
      · rw [if_pos ⟨rfl, by omega⟩] at h
        have ek : IntKind.i64.wrap ((n : Int) - 1) = ((n - 1 : Nat) : Int) := by rw [w64 (by omega)]; omega
        simp -implicitDefEqProofs only [go_sem, Nat.reduceBEq, Nat.reduceLT, Nat.reduceAdd, Nat.reduceSub, Nat.reduceLeDiff, Int.reduceToNat, eq_self, ↓reduceIte, Bool.false_eq_true, decide_true, decide_false, List.take_length, h0, ek]
        refine need_mk (by omega) fun _ => ?_
        simp -implicitDefEqProofs only [go_sem, Nat.reduceBEq, Nat.reduceLT, Nat.reduceAdd, Nat.reduceSub, Nat.reduceLeDiff, Int.reduceToNat, eq_self, ↓reduceIte, Bool.false_eq_true, decide_true, decide_false, List.take_length, h0, ek]
        have hR : (List.replicate (cap - n) (D.int IntKind.u8 0)).length = cap - n := List.length_replicate
        generalize List.replicate (cap - n) (D.int IntKind.u8 0) = R at hR ⊢
        have e1 : (List.drop (0 + (n - 1) * 1) (bytesD q ++ R)).getD 0 .any = .int .u8 ((q.getD (n - 1) 0).toNat : Nat) := by
          rw [← bytes_getD q (n - 1) (by omega), List.getD_eq_getElem?_getD, List.getElem?_drop, List.getElem?_append_left (by simp; omega), List.getD_eq_getElem?_getD]
          simp
        rw [if_pos (by simp; omega), if_pos (by simp; omega), e1]
        have e2 : IntKind.u8.wrap (255 - ((q.getD (n - 1) 0).toNat : Nat)) = ((255 - q.getD (n - 1) 0).toNat : Nat) := by
          have := (q.getD (n - 1) 0).toNat_lt
          rw [UInt8.toNat_sub_of_le _ _ (by rw [UInt8.le_iff_toNat_le]; have : (255 : UInt8).toNat = 255 := rfl; omega), wu8 (by omega)]
          have : (255 : UInt8).toNat = 255 := rfl
          omega
        simp -implicitDefEqProofs only [go_sem, Nat.reduceBEq, Nat.reduceLT, Nat.reduceAdd, Nat.reduceSub, Nat.reduceLeDiff, Int.reduceToNat, eq_self, ↓reduceIte, Bool.false_eq_true, decide_true, decide_false, List.take_length, h0, ek, e2]
        refine need_mk (by omega) fun _ => ?_
        simp -implicitDefEqProofs only [go_sem, Nat.reduceBEq, Nat.reduceLT, Nat.reduceAdd, Nat.reduceSub, Nat.reduceLeDiff, Int.reduceToNat, eq_self, ↓reduceIte, Bool.false_eq_true, decide_true, decide_false, List.take_length, h0, ek, e2]
        refine needH_mk (by simp; omega) fun _ => ?_
        rw [set_byte _ _ _ _ (by omega)]
        simp -implicitDefEqProofs only [go_sem, Nat.reduceBEq, Nat.reduceLT, Nat.reduceAdd, Nat.reduceSub, Nat.reduceLeDiff, Int.reduceToNat, eq_self, ↓reduceIte, Bool.false_eq_true, decide_true, decide_false, List.take_length, h0, ek]
        refine cv_back (q := q.set (n - 1) (255 - q.getD (n - 1) 0)) (rest := R) (by kernel_rfl) (by kernel_rfl) (by first | omega | (simp only [List.length_append, List.length_cons, List.length_nil, List.length_take, List.length_drop, List.length_map, List.length_set]; omega) | (simp only [List.length_append, List.length_cons, List.length_nil, List.length_take, List.length_drop, List.length_map, List.length_set] at *; omega)) (by first | omega | (simp only [List.length_append, List.length_cons, List.length_nil, List.length_take, List.length_drop, List.length_map, List.length_set]; omega) | (simp only [List.length_append, List.length_cons, List.length_nil, List.length_take, List.length_drop, List.length_map, List.length_set] at *; omega)) (by simp -implicitDefEqProofs only [go_sem, Nat.reduceBEq, Nat.reduceLT, Nat.reduceAdd, Nat.reduceSub, Nat.reduceLeDiff, Int.reduceToNat, eq_self, ↓reduceIte, Bool.false_eq_true, decide_true, decide_false, List.take_length]) ?_
        simp -implicitDefEqProofs only [go_sem, Nat.reduceBEq, Nat.reduceLT, Nat.reduceAdd, Nat.reduceSub, Nat.reduceLeDiff, Int.reduceToNat, eq_self, ↓reduceIte, Bool.false_eq_true, decide_true, decide_false, List.take_length]
        exact end2 (by simp -implicitDefEqProofs only [go_sem, Nat.reduceBEq, Nat.reduceLT, Nat.reduceAdd, Nat.reduceSub, Nat.reduceLeDiff, Int.reduceToNat, eq_self, ↓reduceIte, Bool.false_eq_true, decide_true, decide_false, List.take_length]; rfl) (by simp -implicitDefEqProofs only [go_sem, Nat.reduceBEq, Nat.reduceLT, Nat.reduceAdd, Nat.reduceSub, Nat.reduceLeDiff, Int.reduceToNat, eq_self, ↓reduceIte, Bool.false_eq_true, decide_true, decide_false, List.take_length]; rfl) rfl (by simp -implicitDefEqProofs only [go_sem, Nat.reduceBEq, Nat.reduceLT, Nat.reduceAdd, Nat.reduceSub, Nat.reduceLeDiff, Int.reduceToNat, eq_self, ↓reduceIte, Bool.false_eq_true, decide_true, decide_false, List.take_length]; exact h)
      · rw [if_neg (by omega)] at h
        simp -implicitDefEqProofs only [go_sem, Nat.reduceBEq, Nat.reduceLT, Nat.reduceAdd, Nat.reduceSub, Nat.reduceLeDiff, Int.reduceToNat, eq_self, ↓reduceIte, Bool.false_eq_true, decide_true, decide_false, List.take_length, h0]
        refine cv_back (q := q) (rest := List.replicate (cap - n) (D.int IntKind.u8 0)) (by kernel_rfl) (by kernel_rfl) (by first | omega | (simp only [List.length_append, List.length_cons, List.length_nil, List.length_take, List.length_drop, List.length_map, List.length_set]; omega) | (simp only [List.length_append, List.length_cons, List.length_nil, List.length_take, List.length_drop, List.length_map, List.length_set] at *; omega)) hln (by simp -implicitDefEqProofs only [go_sem, Nat.reduceBEq, Nat.reduceLT, Nat.reduceAdd, Nat.reduceSub, Nat.reduceLeDiff, Int.reduceToNat, eq_self, ↓reduceIte, Bool.false_eq_true, decide_true, decide_false, List.take_length]) ?_
        simp -implicitDefEqProofs only [go_sem, Nat.reduceBEq, Nat.reduceLT, Nat.reduceAdd, Nat.reduceSub, Nat.reduceLeDiff, Int.reduceToNat, eq_self, ↓reduceIte, Bool.false_eq_true, decide_true, decide_false, List.take_length]
        exact end2 (by simp -implicitDefEqProofs only [go_sem, Nat.reduceBEq, Nat.reduceLT, Nat.reduceAdd, Nat.reduceSub, Nat.reduceLeDiff, Int.reduceToNat, eq_self, ↓reduceIte, Bool.false_eq_true, decide_true, decide_false, List.take_length]; rfl) (by simp -implicitDefEqProofs only [go_sem, Nat.reduceBEq, Nat.reduceLT, Nat.reduceAdd, Nat.reduceSub, Nat.reduceLeDiff, Int.reduceToNat, eq_self, ↓reduceIte, Bool.false_eq_true, decide_true, decide_false, List.take_length]; rfl) rfl (by simp -implicitDefEqProofs only [go_sem, Nat.reduceBEq, Nat.reduceLT, Nat.reduceAdd, Nat.reduceSub, Nat.reduceLeDiff, Int.reduceToNat, eq_self, ↓reduceIte, Bool.false_eq_true, decide_true, decide_false, List.take_length]; exact h)

theorem c30 (hW : Good W0) (s : List UInt8) (h1 : s.length < 100000000)
    (h : K (.tup [logD (recoverS s).1.1 [] (recoverS s).1.2, int (recoverS s).2.1, .bool (recoverS s).2.2]) H) : CallWp Tryd.prog W0 30 [.str s] H K := by
  refine CallWp.fun hm F30 (Nat.le_of_ble_eq_true rfl) (Nat.le_of_ble_eq_true rfl) ?_
  unfold s30 h30
  simp -implicitDefEqProofs only [go_sem, Nat.reduceBEq, Nat.reduceLT, Nat.reduceAdd, Nat.reduceSub, Nat.reduceLeDiff, Int.reduceToNat, eq_self, ↓reduceIte, Bool.false_eq_true, decide_true, decide_false, List.take_length]
  unfold recoverS at h
  refine dsplit (fun hl => ?_) (fun hl => ?_)
  · rw [if_neg (by omega)] at h
    simp -implicitDefEqProofs only [go_sem, Nat.reduceBEq, Nat.reduceLT, Nat.reduceAdd, Nat.reduceSub, Nat.reduceLeDiff, Int.reduceToNat, eq_self, ↓reduceIte, Bool.false_eq_true, decide_true, decide_false, List.take_length, hl]
    exact endC3 (by simp -implicitDefEqProofs only [go_sem, Nat.reduceBEq, Nat.reduceLT, Nat.reduceAdd, Nat.reduceSub, Nat.reduceLeDiff, Int.reduceToNat, eq_self, ↓reduceIte, Bool.false_eq_true, decide_true, decide_false, List.take_length]; rfl) (by simp -implicitDefEqProofs only [go_sem, Nat.reduceBEq, Nat.reduceLT, Nat.reduceAdd, Nat.reduceSub, Nat.reduceLeDiff, Int.reduceToNat, eq_self, ↓reduceIte, Bool.false_eq_true, decide_true, decide_false, List.take_length]; rfl) (by simp -implicitDefEqProofs only [go_sem, Nat.reduceBEq, Nat.reduceLT, Nat.reduceAdd, Nat.reduceSub, Nat.reduceLeDiff, Int.reduceToNat, eq_self, ↓reduceIte, Bool.false_eq_true, decide_true, decide_false, List.take_length]; rfl) rfl (by simp -implicitDefEqProofs only [go_sem, Nat.reduceBEq, Nat.reduceLT, Nat.reduceAdd, Nat.reduceSub, Nat.reduceLeDiff, Int.reduceToNat, eq_self, ↓reduceIte, Bool.false_eq_true, decide_true, decide_false, List.take_length]; exact h)
  · rw [if_pos (by omega)] at h
    simp -implicitDefEqProofs only [go_sem, Nat.reduceBEq, Nat.reduceLT, Nat.reduceAdd, Nat.reduceSub, Nat.reduceLeDiff, Int.reduceToNat, eq_self, ↓reduceIte, Bool.false_eq_true, decide_true, decide_false, List.take_length, hl]
    refine c61 hW _ (by first | omega | (simp only [List.length_append, List.length_cons, List.length_nil] at *; omega)) ?_
    have hle := openS_le 60 0 s
    have hlast := openE_last 60 0 0 s
    have hlen := openE_len 60 0 0 s
    rw [Nat.zero_add] at hlast
    generalize openE 60 0 0 s = es at *
    generalize openS 60 0 s = q at *
    simp -implicitDefEqProofs only [go_sem, Nat.reduceBEq, Nat.reduceLT, Nat.reduceAdd, Nat.reduceSub, Nat.reduceLeDiff, Int.reduceToNat, eq_self, ↓reduceIte, Bool.false_eq_true, decide_true, decide_false, List.take_length, hl]
    have e0 : IntKind.i64.wrap (((es.length + 1 : Nat) : Int) - 1) = ((es.length : Nat) : Int) := by rw [w64 (by omega)]; omega
    have hget : (int ((0 : Nat) : Int) :: List.map (fun (n : Nat) => int (n : Int)) es).getD es.length D.any = int (q.2 : Nat) := by
      have : (intsD (0 :: es)).getD es.length D.any = int (q.2 : Nat) := by
        rw [getD_map _ _ _ _ (by simp), ← hlast, getD_lt' _ _ _ (by simp)]
      exact this
    simp -implicitDefEqProofs only [go_sem, Nat.reduceBEq, Nat.reduceLT, Nat.reduceAdd, Nat.reduceSub, Nat.reduceLeDiff, Int.reduceToNat, eq_self, ↓reduceIte, Bool.false_eq_true, decide_true, decide_false, List.take_length, hl, e0]
    rw [hget]
    refine need_mk (by first | omega | decide | rfl | trivial | (refine ⟨?_, ?_⟩ <;> first | omega | rfl | decide) | (refine ⟨?_, ?_, ?_⟩ <;> first | omega | rfl | decide)) fun _ => ?_
    simp -implicitDefEqProofs only [go_sem, Nat.reduceBEq, Nat.reduceLT, Nat.reduceAdd, Nat.reduceSub, Nat.reduceLeDiff, Int.reduceToNat, eq_self, ↓reduceIte, Bool.false_eq_true, decide_true, decide_false, List.take_length, hl]
    refine need_mk (by omega) fun _ => ?_
    simp -implicitDefEqProofs only [go_sem, Nat.reduceBEq, Nat.reduceLT, Nat.reduceAdd, Nat.reduceSub, Nat.reduceLeDiff, Int.reduceToNat, eq_self, ↓reduceIte, Bool.false_eq_true, decide_true, decide_false, List.take_length, hl, Nat.sub_zero]
    exact endC3 (by simp -implicitDefEqProofs only [go_sem, Nat.reduceBEq, Nat.reduceLT, Nat.reduceAdd, Nat.reduceSub, Nat.reduceLeDiff, Int.reduceToNat, eq_self, ↓reduceIte, Bool.false_eq_true, decide_true, decide_false, List.take_length]; rfl) (by simp -implicitDefEqProofs only [go_sem, Nat.reduceBEq, Nat.reduceLT, Nat.reduceAdd, Nat.reduceSub, Nat.reduceLeDiff, Int.reduceToNat, eq_self, ↓reduceIte, Bool.false_eq_true, decide_true, decide_false, List.take_length]; rfl) (by simp -implicitDefEqProofs only [go_sem, Nat.reduceBEq, Nat.reduceLT, Nat.reduceAdd, Nat.reduceSub, Nat.reduceLeDiff, Int.reduceToNat, eq_self, ↓reduceIte, Bool.false_eq_true, decide_true, decide_false, List.take_length]; rfl) rfl (by simp -implicitDefEqProofs only [go_sem, Nat.reduceBEq, Nat.reduceLT, Nat.reduceAdd, Nat.reduceSub, Nat.reduceLeDiff, Int.reduceToNat, eq_self, ↓reduceIte, Bool.false_eq_true, decide_true, decide_false, List.take_length]; exact h)
end Go.Proofs.YtgnebanjejmckaaDoor
