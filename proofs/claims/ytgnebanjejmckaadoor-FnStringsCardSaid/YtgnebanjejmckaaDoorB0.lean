/- The library's functions that the program calls. -/
import Derived.Test.YtgnebanjejmckaaDoorA1
import Derived.Test.YtgnebanjejmckaaDoorDu
import Derived.Test.YtgnebanjejmckaaDoorShelf
set_option maxRecDepth 100000
set_option linter.unusedSimpArgs false
set_option linter.unusedVariables false
namespace Go.Proofs.YtgnebanjejmckaaDoor
open Go Dl
variable {W0 : World} {H : Heap} {K : D → Heap → Prop}

/-- What the library's functions ask of the world in which the law begins. -/
structure Good (W0 : World) : Prop where
  cell : ∃ m, W0.cell? { block := 2, off := 0 } = some (Value.int IntKind.i64 m)
  tab : Lib.TabIs Tryd.prog W0 "internal/strconv.uint64pow10" IntKind.u64 Lib.pow10Tab

theorem c79 (hW : Good W0) (s t : List UInt8) (hs : s.length < 4294967281) (h : K (.bool (Lib.contains s t)) H) : CallWp Tryd.prog W0 79 [.str s, .str t] H K := by
  obtain ⟨m, hm⟩ := hW.cell
  refine CallWp.lib (r := .bool (Lib.contains s t)) ⟨_, Tryd.func79, by kernel_rfl, by kernel_rfl⟩ rfl (fun σ w vs hb hv => ?_) h
  rw [CV_str2 hv]
  refine (Tryd.strings_Contains ⟨s.toArray⟩ ⟨t.toArray⟩ m w hs (hb.cell hm)).mono ?_
  rintro e w' ⟨rfl, rfl⟩
  exact ⟨_, rfl, fun _ _ => .bool _, left_refl _⟩

theorem c83 (hW : Good W0) (s t : List UInt8) (hs : s.length < 4294967281) (h : K (.tup [.str (Lib.cut s t).1, .str (Lib.cut s t).2.1, .bool (Lib.cut s t).2.2]) H) : CallWp Tryd.prog W0 83 [.str s, .str t] H K := by
  obtain ⟨m, hm⟩ := hW.cell
  refine CallWp.lib (r := .tup [.str (Lib.cut s t).1, .str (Lib.cut s t).2.1, .bool (Lib.cut s t).2.2]) ⟨_, Tryd.func83, by kernel_rfl, by kernel_rfl⟩ rfl (fun σ w vs hb hv => ?_) h
  rw [CV_str2 hv]
  refine (Tryd.strings_Cut ⟨s.toArray⟩ ⟨t.toArray⟩ m w hs (hb.cell hm)).mono ?_
  rintro e w' ⟨rfl, n, rfl⟩
  refine ⟨_, rfl, fun _ _ => .tup _ _ rfl fun j hj => ?_, left_drew _ _⟩
  match j, hj with
  | 0, _ => exact V_str _
  | 1, _ => exact V_str _
  | 2, _ => exact .bool _

theorem c51 (hW : Good W0) (n : Int) (h0 : -9223372036854775808 ≤ n) (h1 : n ≤ 9223372036854775807) (h : K (.str (Lib.itoa n)) H) : CallWp Tryd.prog W0 51 [int n] H K := by
  refine CallWp.lib (r := .str (Lib.itoa n)) ⟨_, Tryd.func51, by kernel_rfl, by kernel_rfl⟩ rfl (fun σ w vs hb hv => ?_) h
  rw [CV_int1 hv]
  refine (Tryd.strconv_Itoa n h0 h1 w (hb.tab hW.tab)).mono ?_
  rintro e w' ⟨rfl, k, os, rfl⟩
  exact ⟨_, rfl, fun _ _ => V_str _, left_grow _ _ _⟩

theorem c51n (hW : Good W0) (n : Nat) (h1 : n < 1000000000) (h : K (.str (Lib.decDigits n)) H) : CallWp Tryd.prog W0 51 [int n] H K :=
  c51 hW n (by omega) (by omega) (by rw [Lib.itoa_nonneg]; exact h)
end Go.Proofs.YtgnebanjejmckaaDoor
