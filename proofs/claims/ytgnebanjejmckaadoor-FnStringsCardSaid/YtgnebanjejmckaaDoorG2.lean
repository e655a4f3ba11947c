/- The drawn inputs of the laws on logs. -/
import Derived.Test.YtgnebanjejmckaaDoorG1
set_option maxRecDepth 100000
set_option linter.unusedSimpArgs false
set_option linter.unusedVariables false
namespace Go.Proofs.YtgnebanjejmckaaDoor
open Go Dl
variable {W0 : World} {H : Heap} {K : D → Heap → Prop}

theorem c8 {code : List UInt8} (hcode : code.length < 1000000) (h : ∀ c r : List UInt8, c.length ≤ 20 → r.length ≤ 20 → K (recD c r) H) : CallWp Tryd.prog W0 8 [.lst .no (bytesD code)] H K := by
  refine CallWp.fun hm F8 (Nat.le_of_ble_eq_true rfl) (Nat.le_of_ble_eq_true rfl) ?_
  unfold s8 h8
  simp -implicitDefEqProofs only [go_sem, Nat.reduceBEq, Nat.reduceLT, Nat.reduceAdd, Nat.reduceSub, Nat.reduceLeDiff, Int.reduceToNat, eq_self, ↓reduceIte, Bool.false_eq_true, decide_true, decide_false, List.take_length]
  refine c48 (n := 0) hcode (by omega) (Cur.own (a := 0) (sd := 0) rfl (Nat.le_refl 0)) fun c r H1 hl1 hl2 hc1 hb1 => ?_
  obtain ⟨a, sd, ha, rfl⟩ := hb1.own hc1
  simp -implicitDefEqProofs only [go_sem, Nat.reduceBEq, Nat.reduceLT, Nat.reduceAdd, Nat.reduceSub, Nat.reduceLeDiff, Int.reduceToNat, eq_self, ↓reduceIte, Bool.false_eq_true, decide_true, decide_false, List.take_length]
  exact endC1 (by simp -implicitDefEqProofs only [go_sem, Nat.reduceBEq, Nat.reduceLT, Nat.reduceAdd, Nat.reduceSub, Nat.reduceLeDiff, Int.reduceToNat, eq_self, ↓reduceIte, Bool.false_eq_true, decide_true, decide_false, List.take_length]; rfl) rfl (by simp -implicitDefEqProofs only [go_sem, Nat.reduceBEq, Nat.reduceLT, Nat.reduceAdd, Nat.reduceSub, Nat.reduceLeDiff, Int.reduceToNat, eq_self, ↓reduceIte, Bool.false_eq_true, decide_true, decide_false, List.take_length]; exact h c r hl1 hl2)

theorem c9 {code : List UInt8} (hcode : code.length < 1000000) (h : ∀ (k : Int) (c r : List UInt8), c.length ≤ 20 → r.length ≤ 20 → K (.tup [int k, recD c r]) H) : CallWp Tryd.prog W0 9 [.lst .no (bytesD code)] H K := by
  refine CallWp.fun hm F9 (Nat.le_of_ble_eq_true rfl) (Nat.le_of_ble_eq_true rfl) ?_
  unfold s9 h9
  simp -implicitDefEqProofs only [go_sem, Nat.reduceBEq, Nat.reduceLT, Nat.reduceAdd, Nat.reduceSub, Nat.reduceLeDiff, Int.reduceToNat, eq_self, ↓reduceIte, Bool.false_eq_true, decide_true, decide_false, List.take_length]
  refine need_mk (by decide) fun _ => ?_
  simp -implicitDefEqProofs only [go_sem, Nat.reduceBEq, Nat.reduceLT, Nat.reduceAdd, Nat.reduceSub, Nat.reduceLeDiff, Int.reduceToNat, eq_self, ↓reduceIte, Bool.false_eq_true, decide_true, decide_false, List.take_length]
  refine c49D (n := 0) _ rfl (by decide) hcode (by omega) (Cur.own (a := 0) (sd := 0) rfl (Nat.le_refl 0)) fun k H1 hk hc1 hb1 => ?_
  obtain ⟨a, sd, ha, rfl⟩ := hb1.own hc1
  simp -implicitDefEqProofs only [go_sem, Nat.reduceBEq, Nat.reduceLT, Nat.reduceAdd, Nat.reduceSub, Nat.reduceLeDiff, Int.reduceToNat, eq_self, ↓reduceIte, Bool.false_eq_true, decide_true, decide_false, List.take_length]
  refine c48 hcode (by omega) hc1 fun c r H2 hl1 hl2 hc2 hb2 => ?_
  obtain ⟨a2, sd2, ha2, rfl⟩ := hb2.own hc2
  simp -implicitDefEqProofs only [go_sem, Nat.reduceBEq, Nat.reduceLT, Nat.reduceAdd, Nat.reduceSub, Nat.reduceLeDiff, Int.reduceToNat, eq_self, ↓reduceIte, Bool.false_eq_true, decide_true, decide_false, List.take_length]
  exact endCr2 (by simp -implicitDefEqProofs only [go_sem, Nat.reduceBEq, Nat.reduceLT, Nat.reduceAdd, Nat.reduceSub, Nat.reduceLeDiff, Int.reduceToNat, eq_self, ↓reduceIte, Bool.false_eq_true, decide_true, decide_false, List.take_length]; rfl) (by simp -implicitDefEqProofs only [go_sem, Nat.reduceBEq, Nat.reduceLT, Nat.reduceAdd, Nat.reduceSub, Nat.reduceLeDiff, Int.reduceToNat, eq_self, ↓reduceIte, Bool.false_eq_true, decide_true, decide_false, List.take_length]; rfl) rfl (by simp -implicitDefEqProofs only [go_sem, Nat.reduceBEq, Nat.reduceLT, Nat.reduceAdd, Nat.reduceSub, Nat.reduceLeDiff, Int.reduceToNat, eq_self, ↓reduceIte, Bool.false_eq_true, decide_true, decide_false, List.take_length]; exact h k c r hl1 hl2)

theorem c13 {code : List UInt8} (hcode : code.length < 1000000) (h : ∀ (d p : List UInt8) (cnt : Int), d.length ≤ 64000 → p.length ≤ 40000 → K (logD d p cnt) H) : CallWp Tryd.prog W0 13 [.lst .no (bytesD code)] H K := by
  refine CallWp.fun hm F13 (Nat.le_of_ble_eq_true rfl) (Nat.le_of_ble_eq_true rfl) ?_
  unfold s13 h13
  simp -implicitDefEqProofs only [go_sem, Nat.reduceBEq, Nat.reduceLT, Nat.reduceAdd, Nat.reduceSub, Nat.reduceLeDiff, Int.reduceToNat, eq_self, ↓reduceIte, Bool.false_eq_true, decide_true, decide_false, List.take_length]
  refine c55 (n := 0) hcode (by omega) (Cur.own (a := 0) (sd := 0) rfl (Nat.le_refl 0)) fun d p cnt H1 hl1 hl2 hc1 hb1 => ?_
  obtain ⟨a, sd, ha, rfl⟩ := hb1.own hc1
  simp -implicitDefEqProofs only [go_sem, Nat.reduceBEq, Nat.reduceLT, Nat.reduceAdd, Nat.reduceSub, Nat.reduceLeDiff, Int.reduceToNat, eq_self, ↓reduceIte, Bool.false_eq_true, decide_true, decide_false, List.take_length]
  exact endC1 (by simp -implicitDefEqProofs only [go_sem, Nat.reduceBEq, Nat.reduceLT, Nat.reduceAdd, Nat.reduceSub, Nat.reduceLeDiff, Int.reduceToNat, eq_self, ↓reduceIte, Bool.false_eq_true, decide_true, decide_false, List.take_length]; rfl) rfl (by simp -implicitDefEqProofs only [go_sem, Nat.reduceBEq, Nat.reduceLT, Nat.reduceAdd, Nat.reduceSub, Nat.reduceLeDiff, Int.reduceToNat, eq_self, ↓reduceIte, Bool.false_eq_true, decide_true, decide_false, List.take_length]; exact h d p cnt hl1 hl2)

theorem c14 {code : List UInt8} (hcode : code.length < 1000000) (h : ∀ (d p : List UInt8) (cnt : Int) (c r : List UInt8), d.length ≤ 64000 → p.length ≤ 40000 → c.length ≤ 20 → r.length ≤ 20 → K (.tup [logD d p cnt, recD c r]) H) : CallWp Tryd.prog W0 14 [.lst .no (bytesD code)] H K := by
  refine CallWp.fun hm F14 (Nat.le_of_ble_eq_true rfl) (Nat.le_of_ble_eq_true rfl) ?_
  unfold s14 h14
  simp -implicitDefEqProofs only [go_sem, Nat.reduceBEq, Nat.reduceLT, Nat.reduceAdd, Nat.reduceSub, Nat.reduceLeDiff, Int.reduceToNat, eq_self, ↓reduceIte, Bool.false_eq_true, decide_true, decide_false, List.take_length]
  refine c55 (n := 0) hcode (by omega) (Cur.own (a := 0) (sd := 0) rfl (Nat.le_refl 0)) fun d p cnt H1 hl1 hl2 hc1 hb1 => ?_
  obtain ⟨a, sd, ha, rfl⟩ := hb1.own hc1
  simp -implicitDefEqProofs only [go_sem, Nat.reduceBEq, Nat.reduceLT, Nat.reduceAdd, Nat.reduceSub, Nat.reduceLeDiff, Int.reduceToNat, eq_self, ↓reduceIte, Bool.false_eq_true, decide_true, decide_false, List.take_length]
  refine c56 (n := 120) 40 hcode (by omega) (Cur.own rfl (by omega)) fun o H2 hc2 hb2 => ?_
  obtain ⟨a2, sd2, ha2, rfl⟩ := hb2.own hc2
  simp -implicitDefEqProofs only [go_sem, Nat.reduceBEq, Nat.reduceLT, Nat.reduceAdd, Nat.reduceSub, Nat.reduceLeDiff, Int.reduceToNat, eq_self, ↓reduceIte, Bool.false_eq_true, decide_true, decide_false, List.take_length]
  cases o with
  | false =>
    simp -implicitDefEqProofs only [go_sem, Nat.reduceBEq, Nat.reduceLT, Nat.reduceAdd, Nat.reduceSub, Nat.reduceLeDiff, Int.reduceToNat, eq_self, ↓reduceIte, Bool.false_eq_true, decide_true, decide_false, List.take_length]
    rw [rt_br]
    refine ⟨?_, ?_⟩
    all_goals
      simp -implicitDefEqProofs only [go_sem, Nat.reduceBEq, Nat.reduceLT, Nat.reduceAdd, Nat.reduceSub, Nat.reduceLeDiff, Int.reduceToNat, eq_self, ↓reduceIte, Bool.false_eq_true, decide_true, decide_false, List.take_length]
      refine c48 (n := 122) hcode (by omega) (Cur.own rfl (by omega)) fun c r H2 hl3 hl4 hc2 hb2 => ?_
      obtain ⟨a3, sd3, ha3, rfl⟩ := hb2.own hc2
      simp -implicitDefEqProofs only [go_sem, Nat.reduceBEq, Nat.reduceLT, Nat.reduceAdd, Nat.reduceSub, Nat.reduceLeDiff, Int.reduceToNat, eq_self, ↓reduceIte, Bool.false_eq_true, decide_true, decide_false, List.take_length]
      exact endCC2 (by simp -implicitDefEqProofs only [go_sem, Nat.reduceBEq, Nat.reduceLT, Nat.reduceAdd, Nat.reduceSub, Nat.reduceLeDiff, Int.reduceToNat, eq_self, ↓reduceIte, Bool.false_eq_true, decide_true, decide_false, List.take_length]; rfl) (by simp -implicitDefEqProofs only [go_sem, Nat.reduceBEq, Nat.reduceLT, Nat.reduceAdd, Nat.reduceSub, Nat.reduceLeDiff, Int.reduceToNat, eq_self, ↓reduceIte, Bool.false_eq_true, decide_true, decide_false, List.take_length]; rfl) rfl (by simp -implicitDefEqProofs only [go_sem, Nat.reduceBEq, Nat.reduceLT, Nat.reduceAdd, Nat.reduceSub, Nat.reduceLeDiff, Int.reduceToNat, eq_self, ↓reduceIte, Bool.false_eq_true, decide_true, decide_false, List.take_length]; exact h d p cnt c r hl1 hl2 hl3 hl4)
  | true =>
    simp -implicitDefEqProofs only [go_sem, Nat.reduceBEq, Nat.reduceLT, Nat.reduceAdd, Nat.reduceSub, Nat.reduceLeDiff, Int.reduceToNat, eq_self, ↓reduceIte, Bool.false_eq_true, decide_true, decide_false, List.take_length]
    refine c57 (n := 122) 2 hcode (by omega) (Cur.own rfl (by omega)) fun k H3 hk hc3 hb3 => ?_
    obtain ⟨a3, sd3, ha3, rfl⟩ := hb3.own hc3
    simp -implicitDefEqProofs only [go_sem, Nat.reduceBEq, Nat.reduceLT, Nat.reduceAdd, Nat.reduceSub, Nat.reduceLeDiff, Int.reduceToNat, eq_self, ↓reduceIte, Bool.false_eq_true, decide_true, decide_false, List.take_length]
    rw [w64 (n := 59 + (k : Int)) (by omega)]
    refine s_loop (fun (k : Nat) => k) (fun k fr' H' => fr' 6 = int k ∧ k ≤ 61 ∧ ∃ (d p : List UInt8) (cnt : Int), LogAt d p ∧ H' = H ++ [[.str [], .str [], int 0], [.str [], .str []], curC code a3 sd3, [.str d, .str p, int cnt]])
      [2, 3, 4, 5] CallWp.monoC (by kernel_rfl) (59 + k) ⟨by simp -implicitDefEqProofs only [go_sem, Nat.reduceBEq, Nat.reduceLT, Nat.reduceAdd, Nat.reduceSub, Nat.reduceLeDiff, Int.reduceToNat, eq_self, ↓reduceIte, Bool.false_eq_true, decide_true, decide_false, List.take_length]; refine congrArg (D.int .i64) ?_; omega, by omega, [], [], 0, by simp [LogAt], rfl⟩ ?_
    rintro m g H' ⟨h6, hm6, d, p, cnt, hlog, rfl⟩
    simp -implicitDefEqProofs only [go_sem, Nat.reduceBEq, Nat.reduceLT, Nat.reduceAdd, Nat.reduceSub, Nat.reduceLeDiff, Int.reduceToNat, eq_self, ↓reduceIte, Bool.false_eq_true, decide_true, decide_false, List.take_length] at h6
    simp -implicitDefEqProofs only [go_sem, Nat.reduceBEq, Nat.reduceLT, Nat.reduceAdd, Nat.reduceSub, Nat.reduceLeDiff, Int.reduceToNat, eq_self, ↓reduceIte, Bool.false_eq_true, decide_true, decide_false, List.take_length, h6]
    have hlog' : d.length + p.length ≤ 32000 := hlog
    refine dsplit (fun h0 => ?_) (fun h0 => ?_)
    · simp -implicitDefEqProofs only [go_sem, Nat.reduceBEq, Nat.reduceLT, Nat.reduceAdd, Nat.reduceSub, Nat.reduceLeDiff, Int.reduceToNat, eq_self, ↓reduceIte, Bool.false_eq_true, decide_true, decide_false, List.take_length, h6]
      refine c16 d p cnt [120] [] (by omega) (by omega) (by decide) (by decide) ?_
      have hat := append_at (c := [120]) (r := []) (cnt := cnt) hlog
      generalize appendS d p cnt [120] [] = A at hat
      obtain ⟨⟨d1, p1, cnt1⟩, st⟩ := A
      simp -implicitDefEqProofs only [go_sem, Nat.reduceBEq, Nat.reduceLT, Nat.reduceAdd, Nat.reduceSub, Nat.reduceLeDiff, Int.reduceToNat, eq_self, ↓reduceIte, Bool.false_eq_true, decide_true, decide_false, List.take_length, h6]
      have hk1 : IntKind.i64.wrap ((m : Int) - 1) = ((m - 1 : Nat) : Int) := by rw [w64 (by omega)]; omega
      simp -implicitDefEqProofs only [go_sem, Nat.reduceBEq, Nat.reduceLT, Nat.reduceAdd, Nat.reduceSub, Nat.reduceLeDiff, Int.reduceToNat, eq_self, ↓reduceIte, Bool.false_eq_true, decide_true, decide_false, List.take_length, h6, hk1]
      exact ⟨m - 1, by dsimp only; omega, by simp -implicitDefEqProofs only [go_sem, Nat.reduceBEq, Nat.reduceLT, Nat.reduceAdd, Nat.reduceSub, Nat.reduceLeDiff, Int.reduceToNat, eq_self, ↓reduceIte, Bool.false_eq_true, decide_true, decide_false, List.take_length], by omega, d1, p1, cnt1, hat, rfl⟩
    · simp -implicitDefEqProofs only [go_sem, Nat.reduceBEq, Nat.reduceLT, Nat.reduceAdd, Nat.reduceSub, Nat.reduceLeDiff, Int.reduceToNat, eq_self, ↓reduceIte, Bool.false_eq_true, decide_true, decide_false, List.take_length, h6]
      rw [rt_br]
      refine ⟨?_, ?_⟩
      all_goals
        simp -implicitDefEqProofs only [go_sem, Nat.reduceBEq, Nat.reduceLT, Nat.reduceAdd, Nat.reduceSub, Nat.reduceLeDiff, Int.reduceToNat, eq_self, ↓reduceIte, Bool.false_eq_true, decide_true, decide_false, List.take_length]
        refine c48 (n := 124) hcode (by omega) (Cur.own rfl (by omega)) fun c r H2 hl3 hl4 hc2 hb2 => ?_
        obtain ⟨a3, sd3, ha3, rfl⟩ := hb2.own hc2
        simp -implicitDefEqProofs only [go_sem, Nat.reduceBEq, Nat.reduceLT, Nat.reduceAdd, Nat.reduceSub, Nat.reduceLeDiff, Int.reduceToNat, eq_self, ↓reduceIte, Bool.false_eq_true, decide_true, decide_false, List.take_length]
        exact endCC2 (by simp -implicitDefEqProofs only [go_sem, Nat.reduceBEq, Nat.reduceLT, Nat.reduceAdd, Nat.reduceSub, Nat.reduceLeDiff, Int.reduceToNat, eq_self, ↓reduceIte, Bool.false_eq_true, decide_true, decide_false, List.take_length]; rfl) (by simp -implicitDefEqProofs only [go_sem, Nat.reduceBEq, Nat.reduceLT, Nat.reduceAdd, Nat.reduceSub, Nat.reduceLeDiff, Int.reduceToNat, eq_self, ↓reduceIte, Bool.false_eq_true, decide_true, decide_false, List.take_length]; rfl) rfl (by simp -implicitDefEqProofs only [go_sem, Nat.reduceBEq, Nat.reduceLT, Nat.reduceAdd, Nat.reduceSub, Nat.reduceLeDiff, Int.reduceToNat, eq_self, ↓reduceIte, Bool.false_eq_true, decide_true, decide_false, List.take_length]; exact h d p cnt c r (by omega) (by omega) hl3 hl4)

theorem c7 {code : List UInt8} (h : K (.bool (decide (65536 < (code.length : Int)))) H) : CallWp Tryd.prog W0 7 [.lst .no (bytesD code)] H K := by
  refine CallWp.fun hm F7 (Nat.le_of_ble_eq_true rfl) (Nat.le_of_ble_eq_true rfl) ?_
  unfold s7 h7
  simp -implicitDefEqProofs only [go_sem, Nat.reduceBEq, Nat.reduceLT, Nat.reduceAdd, Nat.reduceSub, Nat.reduceLeDiff, Int.reduceToNat, eq_self, ↓reduceIte, Bool.false_eq_true, decide_true, decide_false, List.take_length]
  exact end1 (by simp -implicitDefEqProofs only [go_sem, Nat.reduceBEq, Nat.reduceLT, Nat.reduceAdd, Nat.reduceSub, Nat.reduceLeDiff, Int.reduceToNat, eq_self, ↓reduceIte, Bool.false_eq_true, decide_true, decide_false, List.take_length]; rfl) rfl (by simp -implicitDefEqProofs only [go_sem, Nat.reduceBEq, Nat.reduceLT, Nat.reduceAdd, Nat.reduceSub, Nat.reduceLeDiff, Int.reduceToNat, eq_self, ↓reduceIte, Bool.false_eq_true, decide_true, decide_false, List.take_length]; exact h)

theorem bytes_cells (l : List UInt8) : ∀ x ∈ bytesD l, x.cells.length = 1 ∧ ∀ d ∈ x.cells, d.sc = true ∧ d.np1 = true := by
  intro x hx
  obtain ⟨c, _, rfl⟩ := List.mem_map.1 hx
  exact ⟨rfl, fun d hd => by simp [D.cells] at hd; subst hd; exact ⟨rfl, rfl⟩⟩
theorem c10 {code : List UInt8} (n : Nat) (hn : n < 256) (hcode : code.length < 1000000) (h : ∀ c : List UInt8, c.length ≤ code.length + 1 → ∀ o, K (.lst o (bytesD c)) H) : CallWp Tryd.prog W0 10 [.lst .no (bytesD code), int n] H K := by
  refine CallWp.fun hm F10 (Nat.le_of_ble_eq_true rfl) (Nat.le_of_ble_eq_true rfl) ?_
  unfold s10 h10
  simp -implicitDefEqProofs only [go_sem, Nat.reduceBEq, Nat.reduceLT, Nat.reduceAdd, Nat.reduceSub, Nat.reduceLeDiff, Int.reduceToNat, eq_self, ↓reduceIte, Bool.false_eq_true, decide_true, decide_false, List.take_length]
  have fin : ∀ m : Nat, m < 256 → m ≤ code.length → ∀ o, K (.lst o (bytesD (code.drop m) ++ [.int .u8 (m : Int)])) H := fun m hm hml o => by
    have := h (code.drop m ++ [UInt8.ofNat m]) (by first | omega | (simp only [List.length_append, List.length_cons, List.length_nil, List.length_take, List.length_drop, List.length_map, List.length_set]; omega) | (simp only [List.length_append, List.length_cons, List.length_nil, List.length_take, List.length_drop, List.length_map, List.length_set] at *; omega)) o
    have e : (UInt8.ofNat m).toNat = m := by rw [UInt8.toNat_ofNat']; omega
    have e2 : bytesD (List.drop m code ++ [UInt8.ofNat m]) = bytesD (code.drop m) ++ [.int .u8 (m : Int)] := by
      simp only [bytesD, List.map_append, List.map_cons, List.map_nil, e]
    rw [e2] at this
    exact this
  have wu : ∀ m : Nat, m < 256 → IntKind.u8.wrap (m : Int) = m := fun m hm => wu8 (by omega)
  have et : ∀ m : Nat, ((bytesD code).drop m).take (code.length - m) = bytesD (code.drop m) := fun m => by
    rw [← List.map_drop, List.take_of_length_le (by simp)]
  refine dsplit (fun h1 => ?_) (fun h1 => ?_)
  · simp -implicitDefEqProofs only [go_sem, Nat.reduceBEq, Nat.reduceLT, Nat.reduceAdd, Nat.reduceSub, Nat.reduceLeDiff, Int.reduceToNat, eq_self, ↓reduceIte, Bool.false_eq_true, decide_true, decide_false, List.take_length, h1]
    refine need_mk (by decide) fun _ => ?_
    simp -implicitDefEqProofs only [go_sem, Nat.reduceBEq, Nat.reduceLT, Nat.reduceAdd, Nat.reduceSub, Nat.reduceLeDiff, Int.reduceToNat, eq_self, ↓reduceIte, Bool.false_eq_true, decide_true, decide_false, List.take_length]
    refine need_mk ⟨by omega, by omega, by omega, fun x hx => (bytes_cells _ x hx).1⟩ fun _ => ?_
    simp -implicitDefEqProofs only [go_sem, Nat.reduceBEq, Nat.reduceLT, Nat.reduceAdd, Nat.reduceSub, Nat.reduceLeDiff, Int.reduceToNat, eq_self, ↓reduceIte, Bool.false_eq_true, decide_true, decide_false, List.take_length, et]
    refine need_mk ⟨.inl trivial, fun x hx => (bytes_cells _ x hx).1, fun x hx => (bytes_cells _ x hx).2, by first | omega | (simp only [List.length_append, List.length_cons, List.length_nil, List.length_take, List.length_drop, List.length_map, List.length_set]; omega) | (simp only [List.length_append, List.length_cons, List.length_nil, List.length_take, List.length_drop, List.length_map, List.length_set] at *; omega)⟩ fun _ => ?_
    simp -implicitDefEqProofs only [go_sem, Nat.reduceBEq, Nat.reduceLT, Nat.reduceAdd, Nat.reduceSub, Nat.reduceLeDiff, Int.reduceToNat, eq_self, ↓reduceIte, Bool.false_eq_true, decide_true, decide_false, List.take_length, wu code.length (by omega)]
    refine need_mk (by decide) fun _ => ?_
    simp -implicitDefEqProofs only [go_sem, Nat.reduceBEq, Nat.reduceLT, Nat.reduceAdd, Nat.reduceSub, Nat.reduceLeDiff, Int.reduceToNat, eq_self, ↓reduceIte, Bool.false_eq_true, decide_true, decide_false, List.take_length]
    refine need_mk ⟨.inr trivial, fun x hx => ?_, fun x hx d hd => ?_, by first | omega | (simp only [List.length_append, List.length_cons, List.length_nil, List.length_take, List.length_drop, List.length_map, List.length_set]; omega) | (simp only [List.length_append, List.length_cons, List.length_nil, List.length_take, List.length_drop, List.length_map, List.length_set] at *; omega)⟩ fun _ => ?_
    · rcases List.mem_append.1 hx with hx | hx
      · exact (bytes_cells _ x hx).1
      · simp at hx; subst hx; rfl
    · simp at hx; subst hx; simp [D.cells] at hd; subst hd; exact ⟨rfl, rfl⟩
    simp -implicitDefEqProofs only [go_sem, Nat.reduceBEq, Nat.reduceLT, Nat.reduceAdd, Nat.reduceSub, Nat.reduceLeDiff, Int.reduceToNat, eq_self, ↓reduceIte, Bool.false_eq_true, decide_true, decide_false, List.take_length]
    exact end1 (by simp -implicitDefEqProofs only [go_sem, Nat.reduceBEq, Nat.reduceLT, Nat.reduceAdd, Nat.reduceSub, Nat.reduceLeDiff, Int.reduceToNat, eq_self, ↓reduceIte, Bool.false_eq_true, decide_true, decide_false, List.take_length]; rfl) rfl (by simp -implicitDefEqProofs only [go_sem, Nat.reduceBEq, Nat.reduceLT, Nat.reduceAdd, Nat.reduceSub, Nat.reduceLeDiff, Int.reduceToNat, eq_self, ↓reduceIte, Bool.false_eq_true, decide_true, decide_false, List.take_length]; exact fin _ (by omega) (Nat.le_refl _) _)
  · simp -implicitDefEqProofs only [go_sem, Nat.reduceBEq, Nat.reduceLT, Nat.reduceAdd, Nat.reduceSub, Nat.reduceLeDiff, Int.reduceToNat, eq_self, ↓reduceIte, Bool.false_eq_true, decide_true, decide_false, List.take_length, h1]
    refine need_mk (by decide) fun _ => ?_
    simp -implicitDefEqProofs only [go_sem, Nat.reduceBEq, Nat.reduceLT, Nat.reduceAdd, Nat.reduceSub, Nat.reduceLeDiff, Int.reduceToNat, eq_self, ↓reduceIte, Bool.false_eq_true, decide_true, decide_false, List.take_length]
    refine need_mk ⟨by omega, by omega, by omega, fun x hx => (bytes_cells _ x hx).1⟩ fun _ => ?_
    simp -implicitDefEqProofs only [go_sem, Nat.reduceBEq, Nat.reduceLT, Nat.reduceAdd, Nat.reduceSub, Nat.reduceLeDiff, Int.reduceToNat, eq_self, ↓reduceIte, Bool.false_eq_true, decide_true, decide_false, List.take_length, et]
    refine need_mk ⟨.inl trivial, fun x hx => (bytes_cells _ x hx).1, fun x hx => (bytes_cells _ x hx).2, by first | omega | (simp only [List.length_append, List.length_cons, List.length_nil, List.length_take, List.length_drop, List.length_map, List.length_set]; omega) | (simp only [List.length_append, List.length_cons, List.length_nil, List.length_take, List.length_drop, List.length_map, List.length_set] at *; omega)⟩ fun _ => ?_
    simp -implicitDefEqProofs only [go_sem, Nat.reduceBEq, Nat.reduceLT, Nat.reduceAdd, Nat.reduceSub, Nat.reduceLeDiff, Int.reduceToNat, eq_self, ↓reduceIte, Bool.false_eq_true, decide_true, decide_false, List.take_length, wu n hn]
    refine need_mk (by decide) fun _ => ?_
    simp -implicitDefEqProofs only [go_sem, Nat.reduceBEq, Nat.reduceLT, Nat.reduceAdd, Nat.reduceSub, Nat.reduceLeDiff, Int.reduceToNat, eq_self, ↓reduceIte, Bool.false_eq_true, decide_true, decide_false, List.take_length]
    refine need_mk ⟨.inr trivial, fun x hx => ?_, fun x hx d hd => ?_, by first | omega | (simp only [List.length_append, List.length_cons, List.length_nil, List.length_take, List.length_drop, List.length_map, List.length_set]; omega) | (simp only [List.length_append, List.length_cons, List.length_nil, List.length_take, List.length_drop, List.length_map, List.length_set] at *; omega)⟩ fun _ => ?_
    · rcases List.mem_append.1 hx with hx | hx
      · exact (bytes_cells _ x hx).1
      · simp at hx; subst hx; rfl
    · simp at hx; subst hx; simp [D.cells] at hd; subst hd; exact ⟨rfl, rfl⟩
    simp -implicitDefEqProofs only [go_sem, Nat.reduceBEq, Nat.reduceLT, Nat.reduceAdd, Nat.reduceSub, Nat.reduceLeDiff, Int.reduceToNat, eq_self, ↓reduceIte, Bool.false_eq_true, decide_true, decide_false, List.take_length]
    exact end1 (by simp -implicitDefEqProofs only [go_sem, Nat.reduceBEq, Nat.reduceLT, Nat.reduceAdd, Nat.reduceSub, Nat.reduceLeDiff, Int.reduceToNat, eq_self, ↓reduceIte, Bool.false_eq_true, decide_true, decide_false, List.take_length]; rfl) rfl (by simp -implicitDefEqProofs only [go_sem, Nat.reduceBEq, Nat.reduceLT, Nat.reduceAdd, Nat.reduceSub, Nat.reduceLeDiff, Int.reduceToNat, eq_self, ↓reduceIte, Bool.false_eq_true, decide_true, decide_false, List.take_length]; exact fin _ hn (by omega) _)
end Go.Proofs.YtgnebanjejmckaaDoor
