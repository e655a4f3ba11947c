/- The law FnStrings: its row and its card. -/
import Derived.Test.YtgnebanjejmckaaDoorR
import Derived.Deep.DeepWitnessRowRef
import Derived.Stop.LaidErr
import Derived.Test.YtgnebanjejmckaaDoorHFnStrings
set_option maxRecDepth 100000
set_option linter.unusedVariables false
namespace Go.Proofs.YtgnebanjejmckaaDoor
open Go Dl Go.ChangeShapes Go.WideShapes Go.RowKit Go.ChangeAt

theorem star : "*" ++ "errors.errorString" = "*errors.errorString" := by decide
theorem rowErr (u : TypeId) (h : Tryd.prog.typeName? 3 u = some "*errors.errorString") : u = 157 :=
  typeName_ptr_named (nm := "errors.errorString") (by rw [star]; kernel_rfl) (by kernel_rfl) (by decide) u (by rw [star]; exact h)
theorem gSyn : Tryd.prog.globalNamed "strconv.ErrSyntax" = some 0 := by kernel_rfl
theorem gRan : Tryd.prog.globalNamed "strconv.ErrRange" = some 1 := by kernel_rfl
theorem cell_of_sentinel {n nm : String} {text : List UInt8} {r : List (String × DataW Unit)} {W : World} {g : Nat} (h : laidMet Tryd.prog ((n, .iface nm (.ptr (.agg [.lit (.string text)]))) :: r) W) (hn : nm = "*errors.errorString")
    (hg : Tryd.prog.globalNamed n = some g) (ht : (Tryd.prog.globals[g]?).map (·.type) = some 103) : ∃ v, W.cell? ⟨g, 0, none⟩ = some v ∧ (v = .nilIface ∨ ∃ te pe, v = .iface te pe) := by
  subst hn
  obtain ⟨a, s, hv, _, _, _⟩ := laid_sentinel h hg ht Tryd.underlying103 rowErr Tryd.underlying157 Tryd.underlying159 rfl rfl Tryd.underlying9 (by kernel_rfl) (by kernel_rfl)
  have h0 := World.var?_cell hg hv 0
  exact ⟨.iface 157 (.pointer (some a)), by simpa using h0, .inr ⟨_, _, rfl⟩⟩
theorem good_of {W : World} (hs : W.ShapedOpen Tryd.prog) (hl : laidMet Tryd.prog Rows.fnStringsRow.laid W) : GoodE W :=
  ⟨⟨s1_3 W hs, Lib.tabIs_of_head (rest := _) gPow gPowType Tryd.underlying150 Tryd.underlying73 (by kernel_rfl) (by kernel_rfl) (laidMet_tail (laidMet_tail hl))⟩,
    cell_of_sentinel (laidMet_tail (laidMet_tail (laidMet_tail (laidMet_tail hl)))) rfl gSyn (by kernel_rfl),
    cell_of_sentinel (laidMet_tail (laidMet_tail (laidMet_tail hl))) rfl gRan (by kernel_rfl)⟩

theorem runs {W : World} (hg : GoodE W) {v : Value} {code : List UInt8} (hV : V (sig0 W) W v (.lst .no (code.map fun c => .int .u8 (c.toNat : Nat)))) (h1 : code.length < 2^63) :
    Calls Tryd.prog 6 #[v] W fun e W' => e = .returned (.bool true) ∧ Below W.heap.size W W' := by
  have h := c6 (W0 := W) (H := []) (K := fun r _ => r = .bool true) hg h1 rfl
  refine (h.2 (sig0 W) W #[v] (rel0 W) ⟨rfl, fun j hj => ?_⟩).mono ?_
  · match j, hj with
    | 0, _ => exact hV
  · rintro e w' ⟨u, r, H', σ', rfl, rfl, hu, _, hr, _⟩
    cases hu with
    | bool b => exact ⟨rfl, hr.base.os, hr.base.tape, hr.base.output, hr.base.size, hr.base.block⟩

theorem contract (H : Type) (enc : TypeId × Value → H) (W : World) (base : Nat) (args : Array Value) (ds gs : List (DataW H)) (before : List MemPlace)
    (hval : ∀ (j : Nat) t v, Tryd.f6.params[j]? = some t → args[j]? = some v → Value.okWide Tryd.prog W .any base t v)
    (hW : DataW.Whole enc Tryd.prog Tryd.f6.params.toList Rows.fnStringsSpec.vars false W args.toList ds gs before) (hL : laidMetH Tryd.prog Rows.fnStringsRow.laid W) (hS : W.ShapedOpen Tryd.prog) :
    Calls Tryd.prog 6 args W fun e W' => ∃ v, e = .returned v ∧ Rows.fnStringsSpec.post enc Tryd.prog Tryd.f6 false true false false W args v W' := by
  have hW' := hW
  obtain ⟨p, q, hA0, hV, rfl, hfz, hnd⟩ := hW
  have hA : DataW.TrodAll enc Tryd.prog W 0 (fun _ => true) true Tryd.f6.params.toList args.toList ds p := hA0
  rw [Tryd.params6] at hA hval
  obtain ⟨v0, vs0, d0, ds0, p0, q0, hargs, rfl, rfl, h0, r0⟩ := trodAll_cons hA
  obtain ⟨rfl, rfl, rfl⟩ := trodAll_nil r0
  obtain rfl : args = #[v0] := by cases args; simp_all
  obtain ⟨rfl, rfl⟩ := trodVars_none hV
  obtain ⟨l, hv0, b1⟩ := open_code (hval 0 22 v0 rfl rfl) h0
  clear hA0
  simp only [List.append_nil] at hW'
  have hlt : ∀ x ∈ p0, x.block < W.heap.size := fun x hx => by simpa using hW'.lt x hx
  refine (runs (good_of hS hL) hv0 b1).mono fun e W' ⟨he, hb⟩ => ?_
  subst he
  have stays : ∀ sp : Nat → Bool, (∀ x ∈ p0, sp x.block = true) → DataW.Trod enc Tryd.prog W' 0 sp true 22 v0 d0 p0 := fun sp hsp =>
    WideElems.Trod_stays (by kernel_rfl) (by kernel_rfl) (of_decide_eq_true (by kernel_rfl)) h0 (fun x hx => hb.same (hlt x hx)) hsp
  exact ⟨_, rfl, post_of_below (pa := p0) (pv := []) hW' (fun _ _ _ => trodAll_cons_mk (shut_bool Tryd.underlying4 _) trodAll_mk0)
    (fun sp hsp => by
      have := trodAll_cons_mk (stays sp (fun x hx => hsp x (by simpa using hx))) trodAll_mk0
      rw [Tryd.params6]
      rw [List.append_nil] at this
      exact this) (fun _ _ => rfl) (by simp)
    hb (ok_one (by kernel_rfl) rfl (okWide_bool_mk Tryd.underlying4 _))⟩

theorem own : ownKnob Tryd.prog.godebug = none := by kernel_rfl
/-- The cells that a list of numbers lays. -/
def tabCells : DataW Unit → Array Value
  | .agg ds => (ds.map fun d => match d with
      | .lit (.int k n) => Value.int k n
      | _ => undef).toArray
  | _ => #[]
def lay (cs : Array Value) : Obj → Obj
  | .cells _ t frozen => .cells cs t frozen
  | o => o
def errCell (b : Nat) : Array Value := #[.iface 157 (.pointer (some ⟨b, 0, none⟩))]
def errText (d : DataW Unit) : ByteArray := match d with
  | .iface _ (.ptr (.agg [.lit (.string l)])) => ⟨l.toArray⟩
  | _ => ⟨#[]⟩
noncomputable def laidBase (os : Os) : World :=
  World.holding Tryd.prog os ⟨#[.cells #[.string (errText Rows.laid_strconv_ErrSyntax)] 159 (0, 0), .cells #[.string (errText Rows.laid_strconv_ErrRange)] 159 (0, 0)], #[], []⟩
noncomputable def laidWorld (os : Os) : World :=
  { laidBase os with heap := (((((laidBase os).heap.modify 0 (lay (errCell 11))).modify 1 (lay (errCell 12))).modify 3 (lay (tabCells Rows.laid_internal_strconv_uint64pow10))).modify 4 (lay (tabCells Rows.laid_math_bits_deBruijn32tab))).modify 5 (lay (tabCells Rows.laid_math_bits_deBruijn64tab)) }
def arg0 : Value := .slice none 0 0
theorem laid_met (os : Os) : laidMet Tryd.prog Rows.fnStringsRow.laid ((laidWorld os).forCall (fun _ _ => 0) ⟨#[], #[arg0], []⟩).memory :=
  laidMet_of_run' 8 (by kernel_rfl) (by kernel_rfl)
theorem reads (os : Os) {H : Type} (enc : TypeId × Value → H) : ∃ ds places, DataW.whole enc Tryd.prog ((laidWorld os).forCall (fun _ _ => 0) ⟨#[], #[arg0], []⟩).memory Tryd.f6.params.toList Rows.fnStringsSpec.vars false #[arg0].toList 8 = some (ds, [], places) :=
  ⟨[.nil], [], by kernel_rfl⟩

theorem lifted (os : Os) (started : os.Started) (H : Type) (enc : TypeId × Value → H) (F : Stop.Interp) :
    ReturnsInHanded {} Tryd.checked os 6 .any ((OpenSpec.ofChange Rows.fnStringsSpec).preRow enc Tryd.prog Tryd.f6 Rows.fnStringsRow.domain false Rows.fnStringsRow.laid) (((OpenSpec.ofChange Rows.fnStringsSpec).at F).post enc Tryd.prog Tryd.f6 false true false false) := by
  obtain ⟨ds, places, hx⟩ := reads os enc
  refine returnsInHanded_of_row (C := Tryd.checked) (s := OpenSpec.ofChange Rows.fnStringsSpec) own started (by kernel_rfl) Tryd.func6
    (witness_row_atRef (enc := enc) (C := Tryd.checked) false (laidWorld os) #[arg0] rfl (by kernel_rfl) (by kernel_rfl) (by kernel_rfl)
      (OpenSpec.preRow_of_cond 8 hx (by kernel_rfl) (fun k hk => by cases hk) (by kernel_rfl) (laid_met os))) ?_
  intro W base args ds gs before hval hW _ _ _ hL hS _
  exact contract H enc W base args ds gs before hval hW hL hS

theorem said : Rows.FnStringsSaid :=
  OpenClaim.holds_of_cond 6 Tryd.f6 rfl rfl rfl rfl rfl rfl rfl ⟨rfl, rfl, rfl, rfl, rfl⟩ rfl rfl rfl rfl rfl (by kernel_rfl) Tryd.func6 (by kernel_rfl)
    (of_decide_eq_true (by kernel_rfl)) (by unfold Func.isWrapper; first | (rw [if_pos (by decide +kernel)]; kernel_rfl) | (rw [if_neg (by decide +kernel)]; exact ⟨rfl, rfl⟩))
    (fun os started H enc _ F => by rw [OpenClaim.pre_eq_preRow]; exact lifted os started H enc F)

theorem plain (f : FuncId) (fn : Func) (hf : Tryd.pinned.checked.prog.funcNamed "loop.example/g01203/laws.FnStrings" = some f) (hfn : Tryd.pinned.checked.prog.funcs[f]? = some fn) :
    true = Tryd.pinned.checked.prog.looks [] ∧ ∀ (j : Nat) t, fn.params[j]? = some t → Tryd.pinned.checked.prog.wantsStandIn t = false := by
  obtain rfl : f = 6 := Option.some.inj ((show Tryd.prog.funcNamed "loop.example/g01203/laws.FnStrings" = some 6 by kernel_rfl).symm.trans hf) |>.symm
  obtain rfl : fn = Tryd.f6 := (Option.some.inj (Tryd.func6.symm.trans hfn)).symm
  refine ⟨by kernel_rfl, fun j t ht => ?_⟩
  rw [Tryd.params6] at ht
  obtain rfl : t = 22 := by simpa using Array.mem_of_getElem? ht
  exact (show Tryd.prog.wantsStandIn 22 = false by kernel_rfl)

theorem card : Rows.FnStringsCardSaid :=
  Claim7.holds_tied_plain_at .later [] _ _ _ _ said (fun _ h => by cases h) (by kernel_rfl) (fun _ h => by cases h) fnStrings_row_tie rfl ⟨rfl, rfl⟩ (by kernel_rfl) rfl plain (by kernel_rfl)
#print axioms card
end Go.Proofs.YtgnebanjejmckaaDoor
