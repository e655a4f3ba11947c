/- What the operations yield, as rules for simp; the set of rules. -/
import Derived.Test.YtgnebanjejmckaaDoorDr
namespace Dl
open Go

/-- A condition, and what comes then. -/
def need (c : Prop) (k : D → Prop) (d : D) : Prop := c ∧ k d
theorem need_mk {c : Prop} {k : D → Prop} {d : D} (hc : c) (h : c → k d) : need c k d := ⟨hc, h hc⟩
theorem need_true {k : D → Prop} {d : D} : need True k d = k d := by simp [need]
theorem optK_if {c : Prop} [Decidable c] (d : D) (k : D → Prop) : optK (if c then some d else none) k = need c k d := by
  unfold optK need; split <;> simp_all
theorem optK_ifn {c : Prop} [Decidable c] (d : D) (k : D → Prop) : optK (if c then none else some d) k = need (¬ c) k d := by
  unfold optK need; split <;> simp_all

section
variable {P : Program} {c : Bool} {t : TypeId} {k : IntKind}
theorem i_add (a b : Int) : dBinT P c .add t (.int k a) (.int k b) = some (.int k (k.wrap (a + b))) := by simp [dBinT, dBin, dInt]
theorem i_sub (a b : Int) : dBinT P c .sub t (.int k a) (.int k b) = some (.int k (k.wrap (a - b))) := by simp [dBinT, dBin, dInt]
theorem i_mul (a b : Int) : dBinT P c .mul t (.int k a) (.int k b) = some (.int k (k.wrap (a * b))) := by simp [dBinT, dBin, dInt]
theorem i_quo (a b : Int) : dBinT P c .quo t (.int k a) (.int k b) = if b = 0 then none else some (.int k (k.wrap (a.tdiv b))) := by simp [dBinT, dBin, dInt]
theorem i_rem (a b : Int) : dBinT P c .rem t (.int k a) (.int k b) = if b = 0 then none else some (.int k (a.tmod b)) := by simp [dBinT, dBin, dInt]
theorem i_and (a b : Int) : dBinT P c .and t (.int k a) (.int k b) = some (.int k (k.wrap (BitVec.ofInt k.bits a &&& BitVec.ofInt k.bits b).toNat)) := by simp [dBinT, dBin, dInt]
theorem i_or (a b : Int) : dBinT P c .or t (.int k a) (.int k b) = some (.int k (k.wrap (BitVec.ofInt k.bits a ||| BitVec.ofInt k.bits b).toNat)) := by simp [dBinT, dBin, dInt]
theorem i_xor (a b : Int) : dBinT P c .xor t (.int k a) (.int k b) = some (.int k (k.wrap (BitVec.ofInt k.bits a ^^^ BitVec.ofInt k.bits b).toNat)) := by simp [dBinT, dBin, dInt]
theorem i_shl (k' : IntKind) (a b : Int) : dBinT P c .shl t (.int k a) (.int k' b) = if b < 0 then none else some (.int k (k.wrap (a * 2 ^ min b.toNat k.bits))) := by simp [dBinT, dBin]
theorem i_shr (k' : IntKind) (a b : Int) : dBinT P c .shr t (.int k a) (.int k' b) = if b < 0 then none else some (.int k (a.fdiv (2 ^ min b.toNat k.bits))) := by simp [dBinT, dBin]
theorem i_eql (a b : Int) : dBinT P c .eql t (.int k a) (.int k b) = some (.bool (decide (a = b))) := by simp [dBinT, dBin, dInt]
theorem i_neq (a b : Int) : dBinT P c .neq t (.int k a) (.int k b) = some (.bool (!decide (a = b))) := by simp [dBinT, dBin, dInt]
theorem i_lss (a b : Int) : dBinT P c .lss t (.int k a) (.int k b) = some (.bool (decide (a < b))) := by simp [dBinT, dBin, dInt]
theorem i_leq (a b : Int) : dBinT P c .leq t (.int k a) (.int k b) = some (.bool (decide (a ≤ b))) := by simp [dBinT, dBin, dInt]
theorem i_gtr (a b : Int) : dBinT P c .gtr t (.int k a) (.int k b) = some (.bool (decide (b < a))) := by simp [dBinT, dBin, dInt]
theorem i_geq (a b : Int) : dBinT P c .geq t (.int k a) (.int k b) = some (.bool (decide (b ≤ a))) := by simp [dBinT, dBin, dInt]
theorem st_add (a b : List UInt8) : dBinT P c .add t (.str a) (.str b) = if a.length + b.length ≤ 4611686018427387904 then some (.str (a ++ b)) else none := by simp [dBinT, dBin, dStr]
theorem st_eql (a b : List UInt8) : dBinT P c .eql t (.str a) (.str b) = some (.bool (decide (a = b))) := by simp [dBinT, dBin, dStr]
theorem st_neq (a b : List UInt8) : dBinT P c .neq t (.str a) (.str b) = some (.bool (!decide (a = b))) := by simp [dBinT, dBin, dStr]
theorem st_lss (a b : List UInt8) : dBinT P c .lss t (.str a) (.str b) = some (.bool (Op.bytesLess a b)) := by simp [dBinT, dBin, dStr]
theorem x_eql (x y : D) (h : (match x with | .int _ _ => false | .str _ => false | _ => true) = true) : dBinT P c .eql t x y = (eqD P c t x y).map .bool := by
  unfold dBinT; cases x <;> first | rfl | (simp at h)
theorem x_neq (x y : D) (h : (match x with | .int _ _ => false | .str _ => false | _ => true) = true) : dBinT P c .neq t x y = (eqD P c t x y).map fun b => .bool (!b) := by
  unfold dBinT; cases x <;> first | rfl | (simp at h)
theorem agg_eql (x : List D) (y : D) : dBinT P c .eql t (.agg x) y = (eqD P c t (.agg x) y).map .bool := rfl
theorem agg_neq (x : List D) (y : D) : dBinT P c .neq t (.agg x) y = (eqD P c t (.agg x) y).map fun b => .bool (!b) := rfl
theorem bo_eql (x : Bool) (y : D) : dBinT P c .eql t (.bool x) y = (eqD P c t (.bool x) y).map .bool := rfl
theorem bo_neq (x : Bool) (y : D) : dBinT P c .neq t (.bool x) y = (eqD P c t (.bool x) y).map fun b => .bool (!b) := rfl
theorem ifc_eql (y : D) : dBinT P c .eql t .ifc y = (eqD P c t .ifc y).map .bool := rfl
theorem ifc_neq (y : D) : dBinT P c .neq t .ifc y = (eqD P c t .ifc y).map fun b => .bool (!b) := rfl
theorem nili_eql (y : D) : dBinT P c .eql t .nili y = (eqD P c t .nili y).map .bool := rfl
theorem nili_neq (y : D) : dBinT P c .neq t .nili y = (eqD P c t .nili y).map fun b => .bool (!b) := rfl
theorem eq_bool (a b : Bool) (h : isBool P t = true) : eqD P c t (.bool a) (.bool b) = some (decide (a = b)) := by simp [eqD, h]
theorem u_not (b : Bool) : dUn .not (.bool b) = some (.bool (!b)) := rfl
theorem u_neg (n : Int) : dUn .neg (.int k n) = some (.int k (k.wrap (0 - n))) := rfl
theorem ext_tup (ds : List D) (i : Nat) : dExtract (.tup ds) i = if i < ds.length then some (ds.getD i .any).pl else none := rfl
theorem len_str (s : List UInt8) (h : isStr P t = true) : dLen P t (.str s) = some (.int .i64 (s.length : Nat)) := by simp [dLen, h]
theorem len_lst (o : Own) (xs : List D) : dLen P t (.lst o xs) = (slE P t).bind fun _ => some (.int .i64 (xs.length : Nat)) := by unfold dLen; simp only; cases slE P t <;> rfl
theorem len_ref (i off len cap : Nat) (e' : Nat) : dLen P t (.ref i off len cap e') = (slE P t).bind fun _ => some (.int .i64 (len : Nat)) := by unfold dLen; simp only; cases slE P t <;> rfl
theorem ix_str (s : List UInt8) (n : Int) (h : isStr P t = true) : dIndex P t (.str s) (.int k n) = if 0 ≤ n ∧ n < s.length then some (.int .u8 ((s.getD n.toNat 0).toNat : Nat)) else none := by simp [dIndex, h]
theorem ix_agg (cs : List D) (n : Int) : dIndex P t (.agg cs) (.int k n) = (arE P t).bind fun le => if 0 ≤ n ∧ n < le.1 then dPart P le.2 cs (n.toNat * P.cellsOf le.2) else none := by unfold dIndex; simp only; cases arE P t <;> rfl
def cvI (x y : Option IntKind) (n : Int) : Option D := match x, y with
  | some _, some k => some (.int k (k.wrap n))
  | _, _ => none
theorem cvI_some (a b : IntKind) (n : Int) : cvI (some a) (some b) n = some (.int b (b.wrap n)) := rfl
theorem cv_int (src dst : TypeId) (n : Int) {k' : IntKind} : dConv P src dst (.int k' n) = cvI (kindOf P src) (kindOf P dst) n := by
  unfold dConv cvI
  simp only
  generalize kindOf P dst = kd
  unfold kindOf
  cases P.underlying src with
  | none => cases kd <;> rfl
  | some u => cases u <;> cases kd <;> rfl
theorem cv_str (src dst : TypeId) (s : List UInt8) (h : isStr P src = true) (h' : isStr P dst = true) : dConv P src dst (.str s) = some (.str s) := by simp [dConv, h, h']
theorem cv_bytes (src dst : TypeId) (o : Own) (xs : List D) (h' : isStr P dst = true) : dConv P src dst (.lst o xs) = (slE P src).bind fun e => if kindOf P e = some .u8 then (xs.mapM byteD).map .str else none := by
  unfold dConv; simp only
  cases slE P src with
  | none => rfl
  | some e => simp [h']
theorem ia_lst (o : Own) (xs : List D) (n : Int) : dIndexAddr P t (.lst o xs) (.int k n) = (slE P t).bind fun e => if 0 ≤ n ∧ n < xs.length ∧ (xs.getD n.toNat .any).cells.length = P.cellsOf e ∧ known P e = true then some (.rptr (xs.getD n.toNat .any).cells) else none := by unfold dIndexAddr; simp only; cases slE P t <;> rfl
theorem ia_ref (b off len cap e' : Nat) (n : Int) : dIndexAddr P t (.ref b off len cap e') (.int k n) = (slE P t).bind fun e => if 0 ≤ n ∧ n < len ∧ e' = P.cellsOf e ∧ known P e = true then some (.ptr b (off + n.toNat * P.cellsOf e)) else none := by unfold dIndexAddr; simp only; cases slE P t <;> rfl
theorem ia_ptr (b off : Nat) (n : Int) : dIndexAddr P t (.ptr b off) (.int k n) = (arE P t).bind fun le => if 0 ≤ n ∧ n < le.1 ∧ known P le.2 = true then some (.ptr b (off + n.toNat * P.cellsOf le.2)) else none := by unfold dIndexAddr; simp only; cases arE P t <;> rfl
theorem ia_rptr (cs : List D) (n : Int) : dIndexAddr P t (.rptr cs) (.int k n) = (arE P t).bind fun le => if 0 ≤ n ∧ n < le.1 ∧ n.toNat * P.cellsOf le.2 ≤ cs.length ∧ known P le.2 = true then some (.rptr (cs.drop (n.toNat * P.cellsOf le.2))) else none := by unfold dIndexAddr; simp only; cases arE P t <;> rfl
theorem fa_ptr (b o : Nat) (f : Nat) : dFieldAddr P t (.ptr b o) f = (fieldOf P t f).bind fun x => if 0 < P.cellsOf x.2 then some (.ptr b (o + x.1)) else none := by unfold dFieldAddr; cases fieldOf P t f <;> rfl
theorem fa_rptr (cs : List D) (f : Nat) : dFieldAddr P t (.rptr cs) f = (fieldOf P t f).bind fun x => if 0 < P.cellsOf x.2 then (if x.1 ≤ cs.length then some (.rptr (cs.drop x.1)) else none) else none := by unfold dFieldAddr; cases fieldOf P t f <;> rfl
theorem fl_agg (cs : List D) (f : Nat) : dField P t (.agg cs) f = (fieldOf P t f).bind fun x => dPart P x.2 cs x.1 := by unfold dField; cases fieldOf P t f <;> rfl
theorem part_sc (cs : List D) (off : Nat) (h : aggB P t = false) (h' : known P t = true) : dPart P t cs off = if off < cs.length then some (cs.getD off .any).pl else none := by simp [dPart, h, h']
theorem part_agg (cs : List D) (off : Nat) (h : aggB P t = true) : dPart P t cs off = if off + P.cellsOf t ≤ cs.length then some (.agg ((cs.drop off).take (P.cellsOf t))) else none := by simp [dPart, h]
theorem cells_sc (cs : List D) (h : aggB P t = false) (h' : known P t = true) : dCells P t cs = if 0 < cs.length then some (cs.getD 0 .any).pl else none := by simp [dCells, h, h']
theorem cells_agg (cs : List D) (h : aggB P t = true) : dCells P t cs = if P.cellsOf t ≤ cs.length then some (.agg (cs.take (P.cellsOf t))) else none := by simp [dCells, h]
theorem ld_rptr (H : Heap) (cs : List D) : dLoad P H t (.rptr cs) = dCells P t cs := rfl
theorem ld_ptr (H : Heap) (b off : Nat) : dLoad P H t (.ptr b off) = if b < H.length ∧ off ≤ (hget H b).length then dCells P t ((hget H b).drop off) else none := rfl
theorem sl_str (s : List UInt8) (lo hi : Option D) (h0 : isStr P t = true) : dSlice P t (.str s) lo hi none = (bound lo 0).bind fun l => (bound hi s.length).bind fun h => if 0 ≤ l ∧ l ≤ h ∧ h ≤ s.length then some (.str ((s.drop l.toNat).take (h.toNat - l.toNat))) else none := by
  unfold dSlice; simp only
  cases bound lo 0 <;> cases bound hi s.length <;> simp [h0]
theorem sl_lst (o : Own) (xs : List D) (lo hi : Option D) : dSlice P t (.lst o xs) lo hi none = (slE P t).bind fun e => (bound lo 0).bind fun l => (bound hi xs.length).bind fun h => if 0 ≤ l ∧ l ≤ h ∧ h ≤ xs.length ∧ (∀ x ∈ xs, x.cells.length = P.cellsOf e) ∧ known P e = true then some (.lst .no ((xs.drop l.toNat).take (h.toNat - l.toNat))) else none := by
  unfold dSlice; simp only
  cases bound lo 0 <;> cases bound hi xs.length <;> cases slE P t <;> rfl
theorem sl_lst3 (o : Own) (xs : List D) (lo hi : Option D) (m : Int) {k : IntKind} : dSlice P t (.lst o xs) lo hi (some (.int k m)) = (slE P t).bind fun e => (bound lo 0).bind fun l => (bound hi xs.length).bind fun h => if hi.isSome = true ∧ 0 ≤ l ∧ l ≤ h ∧ m = h ∧ h ≤ xs.length ∧ (∀ x ∈ xs, x.cells.length = P.cellsOf e) ∧ known P e = true then some (.lst .exact ((xs.drop l.toNat).take (h.toNat - l.toNat))) else none := by
  unfold dSlice; simp only
  cases bound lo 0 <;> cases bound hi xs.length <;> cases slE P t <;> rfl
theorem sl_ptr (b off : Nat) (lo hi : Option D) : dSlice P t (.ptr b off) lo hi none = (arE P t).bind fun ne => (bound lo 0).bind fun l => (bound hi ne.1).bind fun h => if 0 ≤ l ∧ l ≤ h ∧ h ≤ ne.1 ∧ l < ne.1 ∧ known P ne.2 = true then some (.ref b (off + l.toNat * P.cellsOf ne.2) (h.toNat - l.toNat) (ne.1 - l.toNat) (P.cellsOf ne.2)) else none := by
  unfold dSlice; simp only
  cases bound lo 0 <;> cases arE P t with
  | none => rfl
  | some ne => obtain ⟨n, e⟩ := ne; simp only [Option.bind_some, Option.bind_none]; try (cases bound hi (n : Int) <;> rfl)
theorem sl_ref (b off len cap e' : Nat) (lo hi : Option D) : dSlice P t (.ref b off len cap e') lo hi none = (slE P t).bind fun e => (bound lo 0).bind fun l => (bound hi len).bind fun h => if 0 ≤ l ∧ l ≤ h ∧ h ≤ cap ∧ e' = P.cellsOf e ∧ known P e = true then some (.ref b (if cap = l.toNat then off else off + l.toNat * e') (h.toNat - l.toNat) (cap - l.toNat) e') else none := by
  unfold dSlice; simp only
  cases bound lo 0 <;> cases bound hi (len : Int) <;> cases slE P t <;> rfl
theorem bd_none (n : Int) : bound none n = some n := rfl
theorem bd_int (k : IntKind) (m n : Int) : bound (some (.int k m)) n = some m := rfl
theorem c_int (k : IntKind) (n : Int) : (D.int k n).cells = [.int k n] := rfl
theorem c_bool (b : Bool) : (D.bool b).cells = [.bool b] := rfl
theorem c_str (l : List UInt8) : (D.str l).cells = [.str l] := rfl
theorem c_agg (l : List D) : (D.agg l).cells = l := rfl
theorem c_lst (o : Own) (l : List D) : (D.lst o l).cells = [.lst o l] := rfl
theorem c_fn (f : FuncId) (cs : List D) : (D.fn f cs).cells = [.fn f cs] := rfl
theorem c_ref (a b cc cap e : Nat) : (D.ref a b cc cap e).cells = [.ref a b cc cap e] := rfl
theorem c_ptr (a b : Nat) : (D.ptr a b).cells = [.ptr a b] := rfl
theorem c_ifc : D.ifc.cells = [.ifc] := rfl
theorem c_nili : D.nili.cells = [.nili] := rfl
theorem c_nilf : D.nilf.cells = [.nilf] := rfl
theorem c_nilp : D.nilp.cells = [.nilp] := rfl
theorem el_int (k : IntKind) (n : Int) : (D.int k n).el = .int k n := rfl
theorem el_str (l : List UInt8) : (D.str l).el = .str l := rfl
theorem el_agg (l : List D) : (D.agg l).el = .agg (l.map D.pl) := rfl
theorem g0 {α : Type} (x : α) (xs : List α) (d : α) : (x :: xs).getD 0 d = x := rfl
theorem gs {α : Type} (x : α) (xs : List α) (n : Nat) (d : α) : (x :: xs).getD (n + 1) d = xs.getD n d := rfl
end

section
variable {P : Program} {hn : Hints} {C : Callee} {fr : Fr} {H : Heap} {K : Fr → Heap → Prop}
/-- An append onto a list, its elements known. -/
def apK (P : Program) (e : TypeId) (ys : List D) (x : D) (k : D → Prop) : Prop :=
  match x with
  | .lst o' xs => need ((0 < P.cellsOf e ∧ P.bytesOf e ≤ 4096 ∧ zeroOk P e = true) ∧ (o' = .exact ∨ o' = .tip e) ∧ (∀ x ∈ xs ++ ys, x.cells.length = P.cellsOf e) ∧ (∀ x ∈ ys, ∀ d ∈ x.cells, d.sc = true ∧ d.np1 = true) ∧ xs.length + ys.length ≤ 1073741824) k (.lst (.tip e) (xs ++ ys))
  | _ => False
theorem ap_lst (e : TypeId) (o' : Own) (xs ys : List D) (k : D → Prop) : apK P e ys (.lst o' xs) k = need ((0 < P.cellsOf e ∧ P.bytesOf e ≤ 4096 ∧ zeroOk P e = true) ∧ (o' = .exact ∨ o' = .tip e) ∧ (∀ x ∈ xs ++ ys, x.cells.length = P.cellsOf e) ∧ (∀ x ∈ ys, ∀ d ∈ x.cells, d.sc = true ∧ d.np1 = true) ∧ xs.length + ys.length ≤ 1073741824) k (.lst (.tip e) (xs ++ ys)) := rfl
/-- An append onto a box or into a new one. -/
def arK (P : Program) (e : TypeId) (ys : List D) (x : D) (H : Heap) (k : D → Heap → Prop) : Prop :=
  (0 < P.cellsOf e ∧ P.bytesOf e ≤ 4096 ∧ zeroOk P e = true) ∧ appR P e x ys H k
theorem ar_exact (e : TypeId) (xs ys : List D) (k : D → Heap → Prop) : arK P e ys (.lst .exact xs) H k = ((0 < P.cellsOf e ∧ P.bytesOf e ≤ 4096 ∧ zeroOk P e = true) ∧ ((∀ x ∈ xs ++ ys, x.cells.length = P.cellsOf e) ∧ (∀ x ∈ ys, ∀ d ∈ x.cells, d.sc = true ∧ d.np1 = true) ∧ xs.length + ys.length ≤ 1073741824) ∧
      (ys = [] → k (.lst .exact xs) H) ∧
      (ys ≠ [] → ∀ cap, xs.length + ys.length ≤ cap → cap ≤ 9223372036854775807 → k (.ref H.length 0 (xs.length + ys.length) cap (P.cellsOf e)) (H ++ [(xs ++ ys).flatMap D.cells ++ zeros P e (cap - (xs.length + ys.length))]))) := rfl
theorem drop_tmp (s : Nat) : dropOp fr (.tmp s) = fr.set s (fr s).dis := rfl
theorem drop_const (v : Value) : dropOp fr (.const v) = fr := rfl
def asE (o : Option TypeId) (k : TypeId → Prop) : Prop :=
  match o with
  | some e => k e
  | none => False
theorem asE_some (e : TypeId) (k : TypeId → Prop) : asE (some e) k = k e := rfl
def asY (o : Option (List D)) (k : List D → Prop) : Prop :=
  match o with
  | some ys => k ys
  | none => False
theorem asY_some (ys : List D) (k : List D → Prop) : asY (some ys) k = k ys := rfl
def apF (P : Program) (hn : Hints) (dst : Option Nat) (x : Operand) (fr : Fr) (H : Heap) (K : Fr → Heap → Prop) (e : TypeId) : List D → Prop := fun ys =>
  if dstIn dst hn.refs = true then arK P e ys (ev fr x) H (retK dst fr K) else apK P e ys (ev fr x) (putK dst (dropOp fr x) H K)
theorem apF_app (dst : Option Nat) (x : Operand) (e : TypeId) (ys : List D) : apF P hn dst x fr H K e ys = if dstIn dst hn.refs = true then arK P e ys (ev fr x) H (retK dst fr K) else apK P e ys (ev fr x) (putK dst (dropOp fr x) H K) := rfl
def apE (P : Program) (hn : Hints) (dst : Option Nat) (x y : Operand) (fr : Fr) (H : Heap) (K : Fr → Heap → Prop) : TypeId → Prop := fun e => asY (elsOf P H e (ev fr y)) (apF P hn dst x fr H K e)
theorem apE_app (dst : Option Nat) (x y : Operand) (e : TypeId) : apE P hn dst x y fr H K e = asY (elsOf P H e (ev fr y)) (apF P hn dst x fr H K e) := rfl
theorem els_lst (e : TypeId) (o : Own) (ys : List D) : elsOf P H e (.lst o ys) = some ys := rfl
theorem o_append (dst : Option Nat) (x y : Operand) (t : TypeId) :
    opWp P hn C ⟨dst, .call ⟨.builtin .append, ⟨[x, y]⟩, ⟨[t, t]⟩⟩, none⟩ fr H K = asE (slE P t) (apE P hn dst x y fr H K) := by
  simp only [opWp, asE, apE, asY, apF]
  cases slE P t with
  | none => rfl
  | some e =>
    simp only
    cases elsOf P H e (ev fr y) with
    | none => rfl
    | some ys =>
      simp only
      by_cases hd : dstIn dst hn.refs = true
      · rw [if_pos hd, if_pos hd]
        unfold arK
        exact propext ⟨fun h => ⟨h.1.2, h.2⟩, fun h => ⟨⟨trivial, h.1⟩, h.2⟩⟩
      · rw [if_neg hd, if_neg hd]
        cases ev fr x <;> first | rfl | skip
        rename_i o' xs
        simp only [apK, need]
        by_cases hall : (0 < P.cellsOf e ∧ P.bytesOf e ≤ 4096 ∧ zeroOk P e = true) ∧ (o' = .exact ∨ o' = .tip e) ∧ (∀ x ∈ xs ++ ys, x.cells.length = P.cellsOf e) ∧ (∀ x ∈ ys, ∀ d ∈ x.cells, d.sc = true ∧ d.np1 = true) ∧ xs.length + ys.length ≤ 1073741824
        · rw [if_pos ⟨trivial, hall.2.1, hall.2.2.1, hall.2.2.2.1, hall.1.1, hall.1.2.1, hall.2.2.2.2, hall.1.2.2⟩]
          exact propext ⟨fun h => ⟨hall, h⟩, fun h => h.2⟩
        · rw [if_neg fun hh => hall ⟨⟨hh.2.2.2.2.1, hh.2.2.2.2.2.1, hh.2.2.2.2.2.2.2⟩, hh.2.1, hh.2.2.1, hh.2.2.2.1, hh.2.2.2.2.2.2.1⟩]
          exact propext ⟨False.elim, fun h => hall h.1⟩
def ownDis : Own → Own
  | .tip _ => .no
  | o => o
theorem od_no : ownDis .no = .no := rfl
theorem od_exact : ownDis .exact = .exact := rfl
theorem od_tip (e : TypeId) : ownDis (.tip e) = .no := rfl
theorem d_lst (o : Own) (xs : List D) : (D.lst o xs).dis = .lst (ownDis o) xs := by cases o <;> rfl
def asgF (o : Own) (s : Nat) (xs : List D) (fr : Fr) : Fr :=
  match o with
  | .tip _ => fr.set s (.lst .no xs)
  | _ => fr
theorem g_lst (d s : Nat) (o : Own) (xs : List D) (h : (d == s) = false) : asgK d s fr H K (.lst o xs) = K ((asgF o s xs fr).set d (.lst o xs)) H := by
  have h' : ¬ d = s := by simpa using h
  cases o <;> simp [asgK, asgF, h']
theorem asgF_ne (o : Own) (s u : Nat) (xs : List D) (h : (u == s) = false) : asgF o s xs fr u = fr u := by
  have h' : ¬ u = s := by simpa using h
  cases o <;> simp [asgF, Fr.set, h']
theorem asgF_no (s : Nat) (xs : List D) : asgF .no s xs fr = fr := rfl
theorem asgF_exact (s : Nat) (xs : List D) : asgF .exact s xs fr = fr := rfl
/-- A condition, and what comes then, with the boxes. -/
def needH (c : Prop) (k : D → Heap → Prop) (d : D) (H : Heap) : Prop := c ∧ k d H
theorem needH_mk {c : Prop} {k : D → Heap → Prop} {d : D} {H : Heap} (hc : c) (h : c → k d H) : needH c k d H := ⟨hc, h hc⟩
theorem needH_true {k : D → Heap → Prop} {d : D} : needH True k d H = k d H := by simp [needH]
/-- One cell without pointers into boxes. -/
def scb (d : D) : Bool := d.sc && d.np1
theorem all_scb (l : List D) : (l.all scb = true) = (∀ d ∈ l, d.sc = true ∧ d.np1 = true) := by simp [List.all_eq_true, scb]
/-- One cell that may lie in a box. -/
def sbb (d : D) : Bool := d.sc && d.bx
theorem all_sbb (l : List D) : (l.all sbb = true) = (∀ d ∈ l, d.sc = true ∧ d.bx = true) := by simp [List.all_eq_true, sbb]
def bxK (n : Nat) (x : D) (H : Heap) (k : D → Heap → Prop) : Prop := needH (n = x.cells.length ∧ x.cells.all sbb = true) k (.ptr H.length 0) (H ++ [x.cells.map D.pl])
theorem o_box (dst : Option Nat) (t : TypeId) (x : Operand) : opWp P hn C ⟨dst, .box t x, none⟩ fr H K = bxK (P.cellsOf t) (ev fr x) H (retK dst fr K) := by
  have h : opWp P hn C ⟨dst, .box t x, none⟩ fr H K = (if P.cellsOf t = (ev fr x).cells.length ∧ (∀ d ∈ (ev fr x).cells, d.sc = true ∧ d.bx = true) then K (fr.put dst (.ptr H.length 0)) (H ++ [(ev fr x).cells.map D.pl]) else False) := rfl
  rw [h]; unfold bxK needH; rw [all_sbb]
  split <;> rename_i hc
  · exact propext ⟨fun h => ⟨hc, h⟩, fun h => h.2⟩
  · exact propext ⟨False.elim, fun h => hc h.1⟩
theorem bx_agg (n : Nat) (cs : List D) (k : D → Heap → Prop) : bxK n (.agg cs) H k = needH (n = cs.length ∧ cs.all sbb = true) k (.ptr H.length 0) (H ++ [cs.map D.pl]) := rfl
theorem bx_int (n : Nat) (i : IntKind) (m : Int) (k : D → Heap → Prop) : bxK n (.int i m) H k = needH (n = 1) k (.ptr H.length 0) (H ++ [[.int i m]]) := by simp [bxK, D.cells, sbb, D.sc, D.bx, D.ok1, D.pl]
theorem bx_bool (n : Nat) (b : Bool) (k : D → Heap → Prop) : bxK n (.bool b) H k = needH (n = 1) k (.ptr H.length 0) (H ++ [[.bool b]]) := by simp [bxK, D.cells, sbb, D.sc, D.bx, D.ok1, D.pl]
theorem bx_ref (n a b c cap e : Nat) (k : D → Heap → Prop) : bxK n (.ref a b c cap e) H k = needH (n = 1) k (.ptr H.length 0) (H ++ [[.ref a b c cap e]]) := by simp [bxK, D.cells, sbb, D.sc, D.bx, D.ok1, D.pl]
theorem bx_ptr (n a b : Nat) (k : D → Heap → Prop) : bxK n (.ptr a b) H k = needH (n = 1) k (.ptr H.length 0) (H ++ [[.ptr a b]]) := by simp [bxK, D.cells, sbb, D.sc, D.bx, D.ok1, D.pl]
theorem bx_fn (n : Nat) (f : FuncId) (k : D → Heap → Prop) : bxK n (.fn f []) H k = needH (n = 1) k (.ptr H.length 0) (H ++ [[.fn f []]]) := by simp [bxK, D.cells, sbb, D.sc, D.bx, D.ok1, D.pl]
theorem bx_str (n : Nat) (m : List UInt8) (k : D → Heap → Prop) : bxK n (.str m) H k = needH (n = 1) k (.ptr H.length 0) (H ++ [[.str m]]) := by simp [bxK, D.cells, sbb, D.sc, D.bx, D.ok1, D.pl]
theorem bx_lst (n : Nat) (o : Own) (m : List D) (k : D → Heap → Prop) : bxK n (.lst o m) H k = needH (n = 1) k (.ptr H.length 0) (H ++ [[.lst .no m]]) := by simp [bxK, D.cells, sbb, D.sc, D.bx, D.ok1, D.pl]
def alK (z : Option (List D)) (H : Heap) (k : D → Heap → Prop) : Prop :=
  match z with
  | some z => k (.ptr H.length 0) (H ++ [z])
  | none => False
theorem o_alloc (dst : Option Nat) (t : TypeId) : opWp P hn C ⟨dst, .alloc t, none⟩ fr H K = alK (zeroD P t) H (retK dst fr K) := by
  simp only [opWp]; unfold alK; cases zeroD P t <;> rfl
theorem al_some (z : List D) (k : D → Heap → Prop) : alK (some z) H k = k (.ptr H.length 0) (H ++ [z]) := rfl
def stK (P : Program) (t : TypeId) (a x : D) (H : Heap) (k : D → Heap → Prop) : Prop :=
  match a with
  | .ptr b off => needH (b < H.length ∧ x.cells.length = P.cellsOf t ∧ off + P.cellsOf t ≤ (hget H b).length ∧ x.cells.all sbb = true ∧ known P t = true) k .any (H.set b (setCells (hget H b) off (x.cells.map D.pl)))
  | _ => False
theorem o_store (dst : Option Nat) (t : TypeId) (a x : Operand) : opWp P hn C ⟨dst, .store t a x, none⟩ fr H K = stK P t (ev fr a) (ev fr x) H (retK dst fr K) := by
  simp only [opWp]; unfold stK
  cases ev fr a <;> try rfl
  rename_i b off
  simp only [needH, all_sbb]
  split <;> rename_i hc
  · exact propext ⟨fun h => ⟨hc, h⟩, fun h => h.2⟩
  · exact propext ⟨False.elim, fun h => hc h.1⟩
theorem st_ptr (t : TypeId) (b off : Nat) (x : D) (k : D → Heap → Prop) : stK P t (.ptr b off) x H k = needH (b < H.length ∧ x.cells.length = P.cellsOf t ∧ off + P.cellsOf t ≤ (hget H b).length ∧ x.cells.all sbb = true ∧ known P t = true) k .any (H.set b (setCells (hget H b) off (x.cells.map D.pl))) := rfl
theorem bu_def (t : TypeId) (parts : List (Nat × D)) : dBuild P t parts = (zeroD P t).bind fun z => match arE P t with
    | some ne => if known P ne.2 = true then (fillD (fun i => some (i * P.cellsOf ne.2, P.cellsOf ne.2)) z parts).map .agg else none
    | none => if fieldsKnown P t = true then (fillD (fun f => (fieldOf P t f).map fun x => (x.1, P.cellsOf x.2)) z parts).map .agg else none := by
  unfold dBuild
  cases zeroD P t with
  | none => rfl
  | some z => simp only [Option.bind_some]; cases arE P t <;> rfl
theorem fill_nil (place : Nat → Option (Nat × Nat)) (cells : List D) : fillD place cells [] = some cells := rfl
theorem fill_cons (place : Nat → Option (Nat × Nat)) (cells : List D) (i : Nat) (d : D) (rest : List (Nat × D)) : fillD place cells ((i, d) :: rest) = (place i).bind fun os => if d.cells.length = os.2 ∧ os.1 + os.2 ≤ cells.length ∧ d.cells.all D.sc = true then fillD place (cells.take os.1 ++ d.cells.map D.pl ++ cells.drop (os.1 + os.2)) rest else none := by
  rw [fillD]; cases place i with
  | none => rfl
  | some os => obtain ⟨a, b⟩ := os; rfl
def bsK (P : Program) (e : Option TypeId) (c : Prop) (ds : List D) (k : D → Prop) : Prop :=
  match e with
  | some e => need (c ∧ (ds.all fun x => x.cells.length == P.cellsOf e && x.cells.all scb) = true ∧ 0 < P.cellsOf e ∧ ds.length * P.cellsOf e ≤ 16777216 ∧ zeroOk P e = true) k (.lst .exact (ds.map D.el))
  | none => False
theorem bs_some (e : TypeId) (c : Prop) (ds : List D) (k : D → Prop) : bsK P (some e) c ds k = need (c ∧ (ds.all fun x => x.cells.length == P.cellsOf e && x.cells.all scb) = true ∧ 0 < P.cellsOf e ∧ ds.length * P.cellsOf e ≤ 16777216 ∧ zeroOk P e = true) k (.lst .exact (ds.map D.el)) := rfl
def bsR (P : Program) (e : Option TypeId) (c : Prop) (ds : List D) (H : Heap) (k : D → Heap → Prop) : Prop :=
  match e with
  | some e => needH (c ∧ (ds.all fun x => x.cells.length == P.cellsOf e && x.cells.all scb) = true ∧ 0 < P.cellsOf e ∧ ds.length * P.cellsOf e ≤ 16777216 ∧ zeroOk P e = true) k (.ref H.length 0 ds.length ds.length (P.cellsOf e)) (H ++ [ds.flatMap fun d => d.cells.map D.pl])
  | none => False
theorem o_bslice (d : Nat) (t : TypeId) (len : Nat) (parts : List (Nat × Operand)) : opWp P hn C ⟨some d, .buildSlice t len ⟨parts⟩, none⟩ fr H K =
    if hn.refs.contains d = true then bsR P (slE P t) (parts.map (·.1) = List.range len) (parts.map fun p => ev fr p.2) H (retK (some d) fr K)
    else bsK P (slE P t) (parts.map (·.1) = List.range len) (parts.map fun p => ev fr p.2) (putK (some d) fr H K) := by
  simp only [opWp, bsK, bsR, List.contains_eq_mem, decide_eq_true_eq]
  cases slE P t with
  | none => simp
  | some e =>
    simp only [need, needH, putK, retK, Fr.put_some]
    have e1 : (parts.map fun (p : Nat × Operand) => (ev fr p.2).el) = (parts.map fun p => ev fr p.2).map D.el := by rw [List.map_map]; rfl
    by_cases hall : parts.map (·.1) = List.range len ∧ ((parts.map fun p => ev fr p.2).all fun x => x.cells.length == P.cellsOf e && x.cells.all scb) = true ∧ 0 < P.cellsOf e ∧ (parts.map fun p => ev fr p.2).length * P.cellsOf e ≤ 16777216 ∧ zeroOk P e = true
    · have hl : (parts.map fun p => ev fr p.2).length = len := by
        have := congrArg List.length hall.1
        simpa using this
      have h2 : ∀ x ∈ parts.map (fun p => ev fr p.2), x.cells.length = P.cellsOf e ∧ ∀ d ∈ x.cells, d.sc = true ∧ d.np1 = true := fun x hx => by
        have := List.all_eq_true.1 hall.2.1 x hx
        rw [Bool.and_eq_true, all_scb] at this
        exact ⟨by simpa using this.1, this.2⟩
      rw [if_pos ⟨hall.1, h2, hall.2.2.1, by rw [← hl]; exact hall.2.2.2.1, hall.2.2.2.2⟩]
      by_cases hr : d ∈ hn.refs
      · rw [if_pos hr, if_pos hr, hl]
        exact propext ⟨fun h => ⟨⟨hall.1, hall.2.1, hall.2.2.1, by rw [← hl]; exact hall.2.2.2.1, hall.2.2.2.2⟩, h⟩, fun h => h.2⟩
      · rw [if_neg hr, if_neg hr, e1]
        exact propext ⟨fun h => ⟨hall, h⟩, fun h => h.2⟩
    · have hno : ¬ (parts.map (·.1) = List.range len ∧ (∀ x ∈ parts.map (fun p => ev fr p.2), x.cells.length = P.cellsOf e ∧ ∀ d ∈ x.cells, d.sc = true ∧ d.np1 = true) ∧ 0 < P.cellsOf e ∧ len * P.cellsOf e ≤ 16777216 ∧ zeroOk P e = true) := fun hh => by
        have hl : (parts.map fun p => ev fr p.2).length = len := by
          have := congrArg List.length hh.1
          simpa using this
        refine hall ⟨hh.1, List.all_eq_true.2 fun x hx => ?_, hh.2.2.1, by rw [hl]; exact hh.2.2.2.1, hh.2.2.2.2⟩
        have := hh.2.1 x hx
        rw [Bool.and_eq_true, all_scb]
        exact ⟨by simpa using this.1, this.2⟩
      rw [if_neg hno]
      by_cases hr : d ∈ hn.refs
      · rw [if_pos hr]; exact propext ⟨False.elim, fun h => hall h.1⟩
      · rw [if_neg hr]; exact propext ⟨False.elim, fun h => hall h.1⟩
def msR (P : Program) (e : Option TypeId) (x y : D) (H : Heap) (k : D → Heap → Prop) : Prop :=
  match e, x, y with
  | some e, .int .i64 n, .int .i64 m => match zeroD P e with
    | some z => needH (0 ≤ n ∧ n ≤ m ∧ m ≤ 1073741824 ∧ 0 < P.cellsOf e ∧ P.bytesOf e ≤ 4096 ∧ zeroOk P e = true ∧ (elD P e z).cells.length = P.cellsOf e) k (.ref H.length 0 n.toNat m.toNat (P.cellsOf e)) (H ++ [(List.replicate m.toNat z).flatten])
    | none => False
  | _, _, _ => False
def msK (P : Program) (e : Option TypeId) (x y : D) (k : D → Prop) : Prop :=
  match e, x, y with
  | some e, .int .i64 n, .int .i64 m => match zeroD P e with
    | some z => need (0 ≤ n ∧ n ≤ m ∧ m ≤ 1073741824 ∧ 0 < P.cellsOf e ∧ P.bytesOf e ≤ 4096 ∧ zeroOk P e = true ∧ (elD P e z).cells.length = P.cellsOf e) k (.lst (.tip e) (List.replicate n.toNat (elD P e z)))
    | none => False
  | _, _, _ => False
theorem msR_some (e : TypeId) (n m : Int) (z : List D) (k : D → Heap → Prop) (h : zeroD P e = some z) : msR P (some e) (.int .i64 n) (.int .i64 m) H k = needH (0 ≤ n ∧ n ≤ m ∧ m ≤ 1073741824 ∧ 0 < P.cellsOf e ∧ P.bytesOf e ≤ 4096 ∧ zeroOk P e = true ∧ (elD P e z).cells.length = P.cellsOf e) k (.ref H.length 0 n.toNat m.toNat (P.cellsOf e)) (H ++ [(List.replicate m.toNat z).flatten]) := by
  simp only [msR, h]
theorem msK_some (e : TypeId) (n m : Int) (z : List D) (k : D → Prop) (h : zeroD P e = some z) : msK P (some e) (.int .i64 n) (.int .i64 m) k = need (0 ≤ n ∧ n ≤ m ∧ m ≤ 1073741824 ∧ 0 < P.cellsOf e ∧ P.bytesOf e ≤ 4096 ∧ zeroOk P e = true ∧ (elD P e z).cells.length = P.cellsOf e) k (.lst (.tip e) (List.replicate n.toNat (elD P e z))) := by
  simp only [msK, h]
theorem o_mslice (d : Nat) (t : TypeId) (l c : Operand) : opWp P hn C ⟨some d, .makeSlice t l c, none⟩ fr H K =
    if hn.refs.contains d = true then msR P (slE P t) (ev fr l) (ev fr c) H (retK (some d) fr K) else msK P (slE P t) (ev fr l) (ev fr c) (putK (some d) fr H K) := by
  simp only [opWp, msR, msK, List.contains_eq_mem, decide_eq_true_eq]
  cases slE P t with
  | none => simp
  | some e =>
    cases ev fr l with
    | int k n =>
      cases ev fr c with
      | int k' m =>
        cases k <;> try (simp; done)
        cases k' <;> try (simp; done)
        simp only
        cases zeroD P e with
        | none => simp
        | some z =>
          simp only [needH, need, retK, putK, Fr.put_some]
          by_cases hd : d ∈ hn.refs
          · simp only [hd, if_true]
            apply propext
            constructor
            · intro h
              split at h
              · rename_i hc
                split at h
                · exact h.elim
                · rename_i hz
                  exact ⟨⟨hc.1, hc.2.1, hc.2.2.1, hc.2.2.2.1, hc.2.2.2.2.1, hc.2.2.2.2.2, Decidable.not_not.1 hz⟩, h⟩
              · exact h.elim
            · rintro ⟨⟨h1, h2, h3, h4, h5, h6, h7⟩, h⟩
              rw [if_pos ⟨h1, h2, h3, h4, h5, h6⟩, if_neg (by simpa using h7)]
              exact h
          · simp only [hd, if_false]
            apply propext
            constructor
            · intro h
              split at h
              · rename_i hc
                split at h
                · exact h.elim
                · rename_i hz
                  exact ⟨⟨hc.1, hc.2.1, hc.2.2.1, hc.2.2.2.1, hc.2.2.2.2.1, hc.2.2.2.2.2, Decidable.not_not.1 hz⟩, h⟩
              · exact h.elim
            · rintro ⟨⟨h1, h2, h3, h4, h5, h6, h7⟩, h⟩
              rw [if_pos ⟨h1, h2, h3, h4, h5, h6⟩, if_neg (by simpa using h7)]
              exact h
      | _ => cases k <;> simp
    | _ => simp
theorem o_mfunc (dst : Option Nat) (f : FuncId) (caps : List Operand) : opWp P hn C ⟨dst, .makeFunc (.func f) ⟨[]⟩ ⟨caps⟩, none⟩ fr H K = need ((caps.map (ev fr)).all D.sc = true) (putK dst fr H K) (.fn f (caps.map (ev fr))) := by
  have h : opWp P hn C ⟨dst, .makeFunc (.func f) ⟨[]⟩ ⟨caps⟩, none⟩ fr H K = (if (#[] : Array Operand) = #[] ∧ (∀ d ∈ caps.map (ev fr), D.sc d = true) then K (fr.put dst (.fn f (caps.map (ev fr)))) H else False) := rfl
  rw [h]; simp only [need, putK, List.all_eq_true]
  split <;> rename_i hc
  · exact propext ⟨fun h => ⟨hc.2, h⟩, fun h => h.2⟩
  · exact propext ⟨False.elim, fun h => hc ⟨by first | rfl | trivial, h.1⟩⟩

/-! Boxes of the call's own: behind those that were there. -/
variable (l : List (List D)) (i : Nat)
theorem H_len : (H ++ l).length = H.length + l.length := List.length_append
theorem H_app (x : List (List D)) : (H ++ l) ++ x = H ++ (l ++ x) := List.append_assoc _ _ _
theorem H_get : hget (H ++ l) (H.length + i) = l.getD i [] := by
  simp only [hget, List.getD_eq_getElem?_getD]
  rw [List.getElem?_append_right (by omega)]
  simp
theorem H_get0 : hget (H ++ l) H.length = l.getD 0 [] := H_get l 0
theorem H_set (x : List D) : (H ++ l).set (H.length + i) x = H ++ l.set i x := by
  rw [List.set_append_right _ _ (by omega)]; simp
theorem H_set0 (x : List D) : (H ++ l).set H.length x = H ++ l.set 0 x := H_set l 0 x
theorem H_lt (n : Nat) : (H.length + i < H.length + n) = (i < n) := by simp
theorem H_lt0 (n : Nat) : (H.length < H.length + n) = (0 < n) := by simp
theorem H_take : (H ++ l).take H.length = H := by simp
theorem H_take_self : H.take H.length = H := List.take_length
theorem set_def (cs : List D) (off : Nat) (ds : List D) : setCells cs off ds = cs.take off ++ (ds ++ cs.drop (off + ds.length)) := by simp [setCells]
theorem sb_int (k : IntKind) (n : Int) : scb (.int k n) = true := rfl
theorem sb_bool (b : Bool) : scb (.bool b) = true := rfl
theorem sb_str (s : List UInt8) : scb (.str s) = true := rfl
theorem sb_lst (o : Own) (xs : List D) : scb (.lst o xs) = true := rfl
theorem xb_int (k : IntKind) (n : Int) : sbb (.int k n) = true := rfl
theorem xb_bool (b : Bool) : sbb (.bool b) = true := rfl
theorem xb_str (s : List UInt8) : sbb (.str s) = true := rfl
theorem xb_lst (o : Own) (xs : List D) : sbb (.lst o xs) = true := rfl
theorem xb_ref (a b c cap e : Nat) : sbb (.ref a b c cap e) = true := rfl
theorem xb_ptr (a b : Nat) : sbb (.ptr a b) = true := rfl
theorem xb_fn (f : FuncId) : sbb (.fn f []) = true := rfl
theorem sc_int (k : IntKind) (n : Int) : (D.int k n).sc = true := rfl
theorem sc_bool (b : Bool) : (D.bool b).sc = true := rfl
theorem sc_str (s : List UInt8) : (D.str s).sc = true := rfl
theorem sc_lst (o : Own) (xs : List D) : (D.lst o xs).sc = true := rfl
theorem sc_ptr (a b : Nat) : (D.ptr a b).sc = true := rfl
theorem sc_ref (a b c cap e : Nat) : (D.ref a b c cap e).sc = true := rfl
theorem sc_fn (f : FuncId) (cs : List D) : (D.fn f cs).sc = true := rfl
end

attribute [go_sem ↓] s_regt k_rt rt_done rt_op s_skip s_reg s_regp s_seq s_exit s_ret s_block s_cond r_nil r_cons r_guard t_normal t_exit t_ret b_normal b_normal' b_exit_eq b_exit_ne b_ret
  o_move o_movec o_assign o_assignc o_pick o_bin o_un o_conv o_field o_index o_extract o_indexAddr o_fieldAddr o_load o_nilCheck o_slice o_build o_len o_call o_callf o_append o_clear o_box o_alloc o_store o_bslice o_mslice o_mfunc k_wp k_reg k_put k_ret k_ct k_cf k_gtt k_gtf k_gft k_gff k_pt k_pf k_call
attribute [go_sem] asB_bool asG_bool asG_und e_tmp e_const e_func v_int v_bool v_str v_nil v_nilp v_nili v_nilf f_set f_over f_fr0 Fr.put_some Fr.put_none
  g_int g_bool g_str g_agg g_lst asgF_ne asgF_no asgF_exact od_no od_exact od_tip g_ref g_ptr g_rptr g_nili g_ifc g_nilf g_fn d_int d_bool d_str d_agg d_tup d_lst d_ref d_ptr d_rptr d_nili d_ifc d_nilf d_fn
  p_int p_bool p_str p_agg p_tup p_lst p_ref p_ptr p_rptr p_nili p_ifc p_nilf p_nilp p_fn p_any nc_ptr nc_rptr nc_fn asF_fn optK_some optK_none optK_if optK_ifn need_true
  i_add i_sub i_mul i_quo i_rem i_and i_or i_xor i_shl i_shr i_eql i_neq i_lss i_leq i_gtr i_geq st_add st_eql st_neq st_lss agg_eql agg_neq bo_eql bo_neq ifc_eql ifc_neq nili_eql nili_neq eq_bool u_not u_neg ext_tup
  len_str len_lst len_ref ix_str ix_agg cv_int cvI_some cv_str cv_bytes ia_lst ia_ref ia_ptr ia_rptr fa_ptr fa_rptr fl_agg part_sc part_agg cells_sc cells_agg ld_rptr ld_ptr sl_str sl_lst sl_lst3 sl_ptr bd_none bd_int c_int c_bool c_str c_agg c_lst c_fn c_ref el_int el_str el_agg g0 gs ap_lst dI_some dI_none cl_nil asE_some asY_some apF_app apE_app els_lst sl_ref c_ptr c_ifc c_nili c_nilf c_nilp bx_bool bx_ref bx_ptr bx_fn xb_int xb_bool xb_str xb_lst xb_ref xb_ptr xb_fn drop_tmp drop_const needH_true bx_agg bx_int bx_str bx_lst al_some st_ptr bu_def fill_nil fill_cons bs_some H_len H_app H_get H_get0 H_set H_set0 H_lt H_lt0 H_take H_take_self set_def sb_int sb_bool sb_str sb_lst sc_int sc_bool sc_str sc_lst sc_ptr sc_ref sc_fn
  List.length_map List.all_cons List.all_nil List.take_zero List.take_succ_cons List.take_nil List.drop_zero List.drop_succ_cons List.drop_nil List.cons_append List.nil_append List.append_nil List.set_cons_zero List.set_cons_succ Option.bind_some and_true true_and
  List.contains_nil List.contains_cons Bool.false_and Bool.true_and Bool.and_false Bool.and_true Bool.or_false Bool.false_or Bool.true_or Bool.or_true Bool.not_true Bool.not_false Int.toNat_natCast List.map_cons List.map_nil Option.map_some Option.map_none List.length_cons List.length_nil
end Dl
