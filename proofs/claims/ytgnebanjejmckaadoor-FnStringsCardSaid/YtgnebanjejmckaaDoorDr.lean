/- Rules by which 'SC.wp' is stepped. -/
import Derived.Test.YtgnebanjejmckaaDoorDq
namespace Dl
open Go

section
variable {P : Program} {hn : Hints} {C : Callee} {fr : Fr} {H : Heap} {K : Fr → Heap → Prop} {Q : Ex} {W0 : World}

/-- 'clear', without the state. -/
def clK (P : Program) (e : Option TypeId) (x : D) (H : Heap) (k : D → Heap → Prop) : Prop :=
  match x, e with
  | .lst _ [], some _ => k (.tup []) H
  | .ref b off len _ e', some e => if e' = P.cellsOf e ∧ b < H.length ∧ off + len * P.cellsOf e ≤ (hget H b).length ∧ (zeroOk P e = true ∧ zeroSc P e = true ∧ 0 < P.cellsOf e) then
      k (.tup []) (H.set b (setCells (hget H b) off (zeros P e len))) else False
  | _, _ => False
theorem cl_nil (e : TypeId) (o : Own) (k : D → Heap → Prop) : clK P (some e) (.lst o []) H k = k (.tup []) H := rfl

/-! Continuations are partial applications: simp does not look into what is not yet reached. -/
def wpK (P : Program) (hn : Hints) (C : Callee) (b : SC) (Q : Ex) : Fr → Heap → Prop := fun fr H => b.wp P hn C fr H Q
def regK (P : Program) (hn : Hints) (C : Callee) (os : List SO) (K : Fr → Heap → Prop) : Fr → Heap → Prop := fun fr H => regWp P hn C os fr H K
def putK (dst : Option Nat) (fr : Fr) (H : Heap) (K : Fr → Heap → Prop) : D → Prop := fun d => K (fr.put dst d) H
def retK (dst : Option Nat) (fr : Fr) (K : Fr → Heap → Prop) : D → Heap → Prop := fun r H' => K (fr.put dst r) H'
def condK (P : Program) (hn : Hints) (C : Callee) (a b : SC) (fr : Fr) (H : Heap) (Q : Ex) : Bool → Prop := fun x => if x = true then a.wp P hn C fr H Q else b.wp P hn C fr H Q
def guardK (P : Program) (hn : Hints) (C : Callee) (dst : Option Nat) (op : Op) (b : Bool) (os : List SO) (fr : Fr) (H : Heap) (K : Fr → Heap → Prop) : Bool → Prop :=
  fun c => if c = b then opWp P hn C ⟨dst, op, none⟩ fr H (regK P hn C os K) else regWp P hn C os (fr.put dst (.tup [])) H K
def asG (x : D) (P : Program) (hn : Hints) (C : Callee) (dst : Option Nat) (op : Op) (b : Bool) (os : List SO) (fr : Fr) (H : Heap) (K : Fr → Heap → Prop) : Prop :=
  match gB x with
  | some (some c) => guardK P hn C dst op b os fr H K c
  | some none => regWp P hn C os (fr.put dst (.tup [])) H K
  | none => False
theorem asG_bool (c : Bool) (dst : Option Nat) (op : Op) (b : Bool) (os : List SO) : asG (.bool c) P hn C dst op b os fr H K = guardK P hn C dst op b os fr H K c := rfl
theorem asG_und (dst : Option Nat) (op : Op) (b : Bool) (os : List SO) : asG (.tup []) P hn C dst op b os fr H K = regWp P hn C os (fr.put dst (.tup [])) H K := rfl
def pickK (dst : Option Nat) (a b : Operand) (fr : Fr) (H : Heap) (K : Fr → Heap → Prop) : Bool → Prop := fun x => if x = true then K (fr.put dst (ev fr a).dis) H else K (fr.put dst (ev fr b).dis) H
theorem k_wp (b : SC) : wpK P hn C b Q fr H = b.wp P hn C fr H Q := rfl
theorem k_reg (os : List SO) : regK P hn C os K fr H = regWp P hn C os fr H K := rfl
theorem k_put (dst : Option Nat) (d : D) : putK dst fr H K d = K (fr.put dst d) H := rfl
theorem k_ret (dst : Option Nat) (d : D) (H' : Heap) : retK dst fr K d H' = K (fr.put dst d) H' := rfl
theorem k_ct (a b : SC) : condK P hn C a b fr H Q true = a.wp P hn C fr H Q := rfl
theorem k_cf (a b : SC) : condK P hn C a b fr H Q false = b.wp P hn C fr H Q := rfl
theorem k_gtt (dst : Option Nat) (op : Op) (os : List SO) : guardK P hn C dst op true os fr H K true = opWp P hn C ⟨dst, op, none⟩ fr H (regK P hn C os K) := rfl
theorem k_gtf (dst : Option Nat) (op : Op) (os : List SO) : guardK P hn C dst op true os fr H K false = regWp P hn C os (fr.put dst (.tup [])) H K := rfl
theorem k_gft (dst : Option Nat) (op : Op) (os : List SO) : guardK P hn C dst op false os fr H K true = regWp P hn C os (fr.put dst (.tup [])) H K := rfl
theorem k_gff (dst : Option Nat) (op : Op) (os : List SO) : guardK P hn C dst op false os fr H K false = opWp P hn C ⟨dst, op, none⟩ fr H (regK P hn C os K) := rfl
theorem k_pt (dst : Option Nat) (a b : Operand) : pickK dst a b fr H K true = K (fr.put dst (ev fr a).dis) H := rfl
theorem k_pf (dst : Option Nat) (a b : Operand) : pickK dst a b fr H K false = K (fr.put dst (ev fr b).dis) H := rfl
theorem bsplit {k : Bool → Prop} {b : Bool} (h1 : b = true → k true) (h2 : b = false → k false) : k b := by
  cases b
  · exact h2 rfl
  · exact h1 rfl
theorem dsplit {k : Bool → Prop} {c : Prop} [Decidable c] (h1 : c → k true) (h2 : ¬ c → k false) : k (decide c) := by
  by_cases h : c
  · rw [decide_eq_true h]; exact h1 h
  · rw [decide_eq_false h]; exact h2 h

theorem s_skip : SC.wp P hn C .skip fr H Q = Q .normal fr H := rfl
theorem s_reg (ops : List SO) : SC.wp P hn C (.reg ops) fr H Q = regWp P hn C ops fr H (Q .normal) := rfl
theorem s_regp (ops : List SO) : SC.wp P hn C (.regp ops) fr H Q = regWp P hn (Grow C) ops fr H (Q .normal) := rfl
theorem s_regt (t : RT) : SC.wp P hn C (.regt t) fr H Q = rtWp P hn C t fr H (Q .normal) := rfl
def rtK (P : Program) (hn : Hints) (C : Callee) (t : RT) (K : Fr → Heap → Prop) : Fr → Heap → Prop := fun fr H => rtWp P hn C t fr H K
theorem k_rt (t : RT) : rtK P hn C t K fr H = rtWp P hn C t fr H K := rfl
theorem rt_done : rtWp P hn C .done fr H K = K fr H := rfl
theorem rt_op (dst : Option Nat) (op : Op) (t : RT) : rtWp P hn C (.op ⟨dst, op, none⟩ t) fr H K = opWp P hn C ⟨dst, op, none⟩ fr H (rtK P hn C t K) := rfl
theorem rt_br (a b : RT) : rtWp P hn C (.br a b) fr H K = (rtWp P hn C a fr H K ∧ rtWp P hn C b fr H K) := rfl
theorem s_seq (a b : SC) : SC.wp P hn C (.seq a b) fr H Q = a.wp P hn C fr H (andThen (wpK P hn C b Q) Q) := rfl
theorem s_exit (i : Nat) : SC.wp P hn C (.exit i) fr H Q = Q (.exit i) fr H := rfl
theorem s_ret : SC.wp P hn C .ret fr H Q = Q .ret fr H := rfl
theorem s_block (i : Nat) (b : SC) : SC.wp P hn C (.block i b) fr H Q = b.wp P hn C fr H (inBlock i Q) := rfl
def asB : D → (Bool → Prop) → Prop
  | .bool b, k => k b
  | _, _ => False
theorem asB_bool (b : Bool) (k : Bool → Prop) : asB (.bool b) k = k b := rfl
theorem s_cond (c : Operand) (a b : SC) : SC.wp P hn C (.cond c a b) fr H Q = asB (ev fr c) (condK P hn C a b fr H Q) := by
  have h : SC.wp P hn C (.cond c a b) fr H Q = (match ev fr c with
    | .bool x => if x = true then a.wp P hn C fr H Q else b.wp P hn C fr H Q
    | _ => False) := by rw [SC.wp]; rfl
  rw [h]
  unfold asB condK
  cases ev fr c <;> rfl

theorem t_normal (k : Fr → Heap → Prop) (Q : Ex) : andThen k Q .normal = k := rfl
theorem t_exit (k : Fr → Heap → Prop) (Q : Ex) (i : Nat) : andThen k Q (.exit i) fr H = Q (.exit i) fr H := rfl
theorem t_ret (k : Fr → Heap → Prop) (Q : Ex) : andThen k Q .ret fr H = Q .ret fr H := rfl
theorem b_normal (i : Nat) (Q : Ex) : inBlock i Q .normal fr H = Q .normal fr H := rfl
theorem b_normal' (i : Nat) (Q : Ex) : inBlock i Q .normal = Q .normal := rfl
theorem b_exit_eq (i : Nat) (Q : Ex) : inBlock i Q (.exit i) fr H = Q .normal fr H := by simp [inBlock]
theorem b_exit_ne (i j : Nat) (Q : Ex) (h : (j == i) = false) : inBlock i Q (.exit j) fr H = Q (.exit j) fr H := by
  have : ¬ j = i := by simpa using h
  simp [inBlock, this]
theorem b_ret (i : Nat) (Q : Ex) : inBlock i Q .ret fr H = Q .ret fr H := rfl

theorem r_nil : regWp P hn C [] fr H K = K fr H := rfl
theorem r_cons (dst : Option Nat) (op : Op) (os : List SO) : regWp P hn C (⟨dst, op, none⟩ :: os) fr H K = opWp P hn C ⟨dst, op, none⟩ fr H (regK P hn C os K) := rfl
theorem r_guard (dst : Option Nat) (op : Op) (t : Nat) (b : Bool) (os : List SO) : regWp P hn C (⟨dst, op, some (t, b)⟩ :: os) fr H K =
    asG (fr t) P hn C dst op b os fr H K := by
  unfold asG guardK
  rw [regWp]
  unfold soWp
  simp only
  cases gB (fr t) with
  | none => rfl
  | some c =>
    cases c with
    | none => simp only; rw [if_neg (by simp)]
    | some c => simp only [Option.some.injEq]; rfl

theorem e_tmp (t : Nat) : ev fr (.tmp t) = fr t := rfl
theorem e_const (v : Value) : ev fr (.const v) = ofVal v := rfl
theorem e_func (f : FuncId) : ev fr (.func f) = .fn f [] := rfl
theorem v_int (k : IntKind) (n : Int) : ofVal (.int k n) = .int k n := rfl
theorem v_bool (b : Bool) : ofVal (.bool b) = .bool b := rfl
theorem v_str (l : List UInt8) : ofVal (.string ⟨⟨l⟩⟩) = .str l := rfl
theorem v_nil : ofVal (.slice none 0 0) = .lst .exact [] := rfl
theorem v_nilp : ofVal (.pointer none) = .nilp := rfl
theorem v_nili : ofVal .nilIface = .nili := rfl
theorem v_nilf : ofVal .nilFunc = .nilf := rfl

theorem f_same (t : Nat) (d : D) : (fr.set t d) t = d := by simp [Fr.set]
theorem f_set (t u : Nat) (d : D) : (fr.set t d) u = if (u == t) = true then d else fr u := by simp only [Fr.set, beq_iff_eq]
theorem f_fr0 (ds : List D) (t : Nat) : fr0 ds t = (ds.getD t .any).pl := rfl
theorem f_over (m : List Nat) (g : Fr) (t : Nat) : over m g fr t = if m.contains t = true then g t else fr t := by simp only [over, List.contains_eq_mem, decide_eq_true_eq]

theorem o_move (d s : Nat) : opWp P hn C ⟨some d, .move (.tmp s), none⟩ fr H K = if (hn.trs.contains d && !(d == s)) = true then K ((fr.set s (fr s).dis).set d (fr s)) H else K (fr.set d (fr s).dis) H := by
  simp only [opWp, List.contains_eq_mem, Bool.and_eq_true, decide_eq_true_eq, Bool.not_eq_true', beq_eq_false_iff_ne]
theorem o_movec (d : Nat) (v : Value) : opWp P hn C ⟨some d, .move (.const v), none⟩ fr H K = K (fr.set d (ofVal v)) H := rfl

def asgK (d s : Nat) (fr : Fr) (H : Heap) (K : Fr → Heap → Prop) (x : D) : Prop :=
  match x with
  | .lst (.tip e) xs => if (d == s) = false then K ((fr.set s (.lst .no xs)).set d (.lst (.tip e) xs)) H else False
  | v => K (fr.set d v) H
theorem o_assign (d s : Nat) : opWp P hn C ⟨some d, .assign (.tmp s), none⟩ fr H K = if (hn.cps.contains d) = true then K (fr.set d (fr s).dis) H else asgK d s fr H K (fr s) := by
  simp only [opWp, List.contains_eq_mem, decide_eq_true_eq]
  by_cases hc : d ∈ hn.cps
  · rw [if_pos hc, if_pos hc]
  · rw [if_neg hc, if_neg hc]
    unfold asgK
    cases fr s with
    | lst o xs => cases o <;> simp only [beq_eq_false_iff_ne]
    | _ => rfl
theorem o_assignc (d : Nat) (v : Value) : opWp P hn C ⟨some d, .assign (.const v), none⟩ fr H K = K (fr.set d (ofVal v)) H := rfl
theorem g_int (d s : Nat) (k : IntKind) (n : Int) : asgK d s fr H K (.int k n) = K (fr.set d (.int k n)) H := rfl
theorem g_bool (d s : Nat) (b : Bool) : asgK d s fr H K (.bool b) = K (fr.set d (.bool b)) H := rfl
theorem g_str (d s : Nat) (l : List UInt8) : asgK d s fr H K (.str l) = K (fr.set d (.str l)) H := rfl
theorem g_agg (d s : Nat) (l : List D) : asgK d s fr H K (.agg l) = K (fr.set d (.agg l)) H := rfl
theorem g_no (d s : Nat) (l : List D) : asgK d s fr H K (.lst .no l) = K (fr.set d (.lst .no l)) H := rfl
theorem g_exact (d s : Nat) (l : List D) : asgK d s fr H K (.lst .exact l) = K (fr.set d (.lst .exact l)) H := rfl
theorem g_tip (d s e : Nat) (l : List D) : asgK d s fr H K (.lst (.tip e) l) = if (d == s) = false then K ((fr.set s (.lst .no l)).set d (.lst (.tip e) l)) H else False := rfl
theorem g_ref (d s a b c cap e : Nat) : asgK d s fr H K (.ref a b c cap e) = K (fr.set d (.ref a b c cap e)) H := rfl
theorem g_ptr (d s a b : Nat) : asgK d s fr H K (.ptr a b) = K (fr.set d (.ptr a b)) H := rfl
theorem g_rptr (d s : Nat) (l : List D) : asgK d s fr H K (.rptr l) = K (fr.set d (.rptr l)) H := rfl
theorem g_nili (d s : Nat) : asgK d s fr H K .nili = K (fr.set d .nili) H := rfl
theorem g_ifc (d s : Nat) : asgK d s fr H K .ifc = K (fr.set d .ifc) H := rfl
theorem g_nilf (d s : Nat) : asgK d s fr H K .nilf = K (fr.set d .nilf) H := rfl
theorem g_fn (d s : Nat) (f : FuncId) (cs : List D) : asgK d s fr H K (.fn f cs) = K (fr.set d (.fn f cs)) H := rfl

theorem d_int (k : IntKind) (n : Int) : (D.int k n).dis = .int k n := rfl
theorem d_bool (b : Bool) : (D.bool b).dis = .bool b := rfl
theorem d_str (l : List UInt8) : (D.str l).dis = .str l := rfl
theorem d_agg (l : List D) : (D.agg l).dis = .agg l := rfl
theorem d_tup (l : List D) : (D.tup l).dis = .tup l := rfl
theorem d_no (l : List D) : (D.lst .no l).dis = .lst .no l := rfl
theorem d_exact (l : List D) : (D.lst .exact l).dis = .lst .exact l := rfl
theorem d_tip (e : Nat) (l : List D) : (D.lst (.tip e) l).dis = .lst .no l := rfl
theorem d_ref (a b c cap e : Nat) : (D.ref a b c cap e).dis = .ref a b c cap e := rfl
theorem d_ptr (a b : Nat) : (D.ptr a b).dis = .ptr a b := rfl
theorem d_rptr (l : List D) : (D.rptr l).dis = .rptr l := rfl
theorem d_nili : D.nili.dis = .nili := rfl
theorem d_ifc : D.ifc.dis = .ifc := rfl
theorem d_nilf : D.nilf.dis = .nilf := rfl
theorem d_fn (f : FuncId) (cs : List D) : (D.fn f cs).dis = .fn f cs := rfl
theorem p_int (k : IntKind) (n : Int) : (D.int k n).pl = .int k n := rfl
theorem p_bool (b : Bool) : (D.bool b).pl = .bool b := rfl
theorem p_str (l : List UInt8) : (D.str l).pl = .str l := rfl
theorem p_agg (l : List D) : (D.agg l).pl = .agg l := rfl
theorem p_tup (l : List D) : (D.tup l).pl = .tup l := rfl
theorem p_lst (o : Own) (l : List D) : (D.lst o l).pl = .lst .no l := rfl
theorem p_ref (a b c cap e : Nat) : (D.ref a b c cap e).pl = .ref a b c cap e := rfl
theorem p_ptr (a b : Nat) : (D.ptr a b).pl = .ptr a b := rfl
theorem p_rptr (l : List D) : (D.rptr l).pl = .rptr l := rfl
theorem p_nili : D.nili.pl = .nili := rfl
theorem p_ifc : D.ifc.pl = .ifc := rfl
theorem p_nilf : D.nilf.pl = .nilf := rfl
theorem p_nilp : D.nilp.pl = .nilp := rfl
theorem p_fn (f : FuncId) (cs : List D) : (D.fn f cs).pl = .fn f cs := rfl
theorem p_any : D.any.pl = .any := rfl

theorem o_pick (dst : Option Nat) (c a b : Operand) : opWp P hn C ⟨dst, .pick c a b, none⟩ fr H K = asB (ev fr c) (pickK dst a b fr H K) := by
  have h : opWp P hn C ⟨dst, .pick c a b, none⟩ fr H K = (match ev fr c with
    | .bool true => K (fr.put dst (ev fr a).dis) H
    | .bool false => K (fr.put dst (ev fr b).dis) H
    | _ => False) := rfl
  rw [h]
  unfold asB pickK
  cases ev fr c with
  | bool x => cases x <;> rfl
  | _ => rfl
theorem o_bin (dst : Option Nat) (op : BinOp) (t u : TypeId) (x y : Operand) : opWp P hn C ⟨dst, .binOp op t x y u, none⟩ fr H K = optK (dBinT P (Region.isConst y) op t (ev fr x) (ev fr y)) (putK dst fr H K) := rfl
theorem o_un (dst : Option Nat) (op : UnOp) (t : TypeId) (x : Operand) : opWp P hn C ⟨dst, .unOp op t x, none⟩ fr H K = optK (dUn op (ev fr x)) (putK dst fr H K) := rfl
theorem o_conv (dst : Option Nat) (s t : TypeId) (x : Operand) : opWp P hn C ⟨dst, .convert s t x, none⟩ fr H K = if dstIn dst hn.refs = true then cvR P s t (ev fr x) H (retK dst fr K) else optK (dConv P s t (ev fr x)) (putK dst fr H K) := rfl
theorem dI_some (d : Nat) (l : List Nat) : dstIn (some d) l = l.contains d := rfl
theorem dI_none (l : List Nat) : dstIn none l = false := rfl
theorem o_clear (dst : Option Nat) (t : TypeId) (x : Operand) : opWp P hn C ⟨dst, .call ⟨.builtin .clear, ⟨[x]⟩, ⟨[t]⟩⟩, none⟩ fr H K = clK P (slE P t) (ev fr x) H (retK dst fr K) := by
  simp only [opWp, clK, retK]
  cases ev fr x <;> cases slE P t <;> rfl
theorem o_field (dst : Option Nat) (t : TypeId) (x : Operand) (f : Nat) : opWp P hn C ⟨dst, .field t x f, none⟩ fr H K = optK (dField P t (ev fr x) f) (putK dst fr H K) := rfl
theorem o_index (dst : Option Nat) (t : TypeId) (x i : Operand) : opWp P hn C ⟨dst, .index t x i, none⟩ fr H K = optK (dIndex P t (ev fr x) (ev fr i)) (putK dst fr H K) := rfl
theorem o_extract (dst : Option Nat) (x : Operand) (i : Nat) : opWp P hn C ⟨dst, .extract x i, none⟩ fr H K = optK (dExtract (ev fr x) i) (putK dst fr H K) := rfl
theorem o_indexAddr (dst : Option Nat) (t : TypeId) (x i : Operand) : opWp P hn C ⟨dst, .indexAddr t x i, none⟩ fr H K = optK (dIndexAddr P t (ev fr x) (ev fr i)) (putK dst fr H K) := rfl
theorem o_fieldAddr (dst : Option Nat) (t : TypeId) (x : Operand) (f : Nat) : opWp P hn C ⟨dst, .fieldAddr t x f, none⟩ fr H K = optK (dFieldAddr P t (ev fr x) f) (putK dst fr H K) := rfl
theorem o_load (dst : Option Nat) (t : TypeId) (x : Operand) : opWp P hn C ⟨dst, .load t x, none⟩ fr H K = optK (dLoad P H t (ev fr x)) (putK dst fr H K) := rfl
def dNC : D → Option D
  | .ptr b off => some (.ptr b off)
  | .rptr cs => some (.rptr cs)
  | .fn f cs => some (.fn f cs)
  | _ => none
theorem o_nilCheck (dst : Option Nat) (x : Operand) : opWp P hn C ⟨dst, .nilCheck x, none⟩ fr H K = optK (dNC (ev fr x)) (putK dst fr H K) := by
  have h : opWp P hn C ⟨dst, .nilCheck x, none⟩ fr H K = (match ev fr x with
    | .ptr b off => K (fr.put dst (.ptr b off)) H
    | .rptr cs => K (fr.put dst (.rptr cs)) H
    | .fn f cs => K (fr.put dst (.fn f cs)) H
    | _ => False) := rfl
  rw [h]
  unfold dNC
  cases ev fr x <;> rfl
theorem nc_ptr (b off : Nat) : dNC (.ptr b off) = some (.ptr b off) := rfl
theorem nc_rptr (cs : List D) : dNC (.rptr cs) = some (.rptr cs) := rfl
theorem nc_fn (f : FuncId) (cs : List D) : dNC (.fn f cs) = some (.fn f cs) := rfl
theorem o_slice (dst : Option Nat) (t : TypeId) (x : Operand) (lo hi mx : Option Operand) : opWp P hn C ⟨dst, .slice t x lo hi mx, none⟩ fr H K = optK (dSlice P t (ev fr x) (lo.map (ev fr)) (hi.map (ev fr)) (mx.map (ev fr))) (putK dst fr H K) := rfl
theorem o_build (dst : Option Nat) (t : TypeId) (parts : List (Nat × Operand)) : opWp P hn C ⟨dst, .build t ⟨parts⟩, none⟩ fr H K = optK (dBuild P t (parts.map fun (i, x) => (i, ev fr x))) (putK dst fr H K) := rfl
theorem o_len (dst : Option Nat) (t : TypeId) (x : Operand) : opWp P hn C ⟨dst, .call ⟨.builtin .len, ⟨[x]⟩, ⟨[t]⟩⟩, none⟩ fr H K = optK (dLen P t (ev fr x)) (putK dst fr H K) := rfl

def asF : D → (FuncId → List D → Prop) → Prop
  | .fn g cs, k => k g cs
  | _, _ => False
theorem asF_fn (g : FuncId) (cs : List D) (k : FuncId → List D → Prop) : asF (.fn g cs) k = k g cs := rfl
def callK (C : Callee) (args : List Operand) (dst : Option Nat) (fr : Fr) (H : Heap) (K : Fr → Heap → Prop) : FuncId → List D → Prop := fun g cs => C g (args.map (fun x => (ev fr x).pl) ++ cs) H (retK dst fr K)
theorem k_call (args : List Operand) (dst : Option Nat) (g : FuncId) (cs : List D) : callK C args dst fr H K g cs = C g (args.map (fun x => (ev fr x).pl) ++ cs) H (retK dst fr K) := rfl
theorem o_call (dst : Option Nat) (f : Operand) (args : List Operand) (ts : Array TypeId) : opWp P hn C ⟨dst, .call ⟨.value f, ⟨args⟩, ts⟩, none⟩ fr H K =
    asF (ev fr f) (callK C args dst fr H K) := by
  have h : opWp P hn C ⟨dst, .call ⟨.value f, ⟨args⟩, ts⟩, none⟩ fr H K = (match ev fr f with
    | .fn g cs => C g (args.map (fun x => (ev fr x).pl) ++ cs) H fun r H' => K (fr.put dst r) H'
    | _ => False) := rfl
  rw [h]
  unfold asF
  cases ev fr f <;> rfl
theorem o_callf (dst : Option Nat) (f : FuncId) (args : List Operand) (ts : Array TypeId) : opWp P hn C ⟨dst, .call ⟨.value (.func f), ⟨args⟩, ts⟩, none⟩ fr H K =
    C f (args.map (fun x => (ev fr x).pl)) H (retK dst fr K) := by
  show C f (args.map (fun x => (ev fr x).pl) ++ []) H _ = C f (args.map (fun x => (ev fr x).pl)) H _
  rw [List.append_nil]
  rfl
theorem Grow_of {f : FuncId} {ds : List D} {K : D → Heap → Prop} (h : C f ds H fun r H' => K r H' ∧ H' = H) : Grow C f ds H K := h

end

end Dl
