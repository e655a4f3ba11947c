/- The operations that leave the world alone: what the machine gives is what the data give. -/
import Derived.Test.YtgnebanjejmckaaDoorDc
import Derived.ChangeKeysEq
import Derived.Laws.Slices
import Derived.Laws.Strings
import Derived.Laws.Strings2
import Derived.Laws.Strings3
import Derived.Laws.Concat
import Derived.Laws.Small
import Derived.WideLaws
namespace Dl
open Go

section
variable {P : Program} {σ : Sig} {w : World}

theorem V_ofScal (v : Value) : V σ w v (match v with
      | .int k n => .int k n
      | .bool b => .bool b
      | .string s => .str s.data.toList
      | .slice none 0 0 => .lst .no []
      | _ => .any) := by
  split
  · exact .int _ _
  · exact .bool _
  · exact .str _ _ rfl
  · exact .lnil _ _ _
  · exact .any _

theorem V_ofVal (v : Value) : V σ w v (ofVal v) := by
  unfold ofVal
  split
  · exact .int _ _
  · exact .bool _
  · exact .str _ _ rfl
  · exact .lnil _ _ _
  · exact .nilp
  · exact .nili
  · exact .nilf
  · rename_i cs
    refine .agg cs _ (by simp) fun j hj => ?_
    have hj' : j < cs.size := by simpa using hj
    have e1 : cs.getD j undef = cs[j] := by simp [hj']
    rw [e1, List.getD_eq_getElem?_getD, List.getElem?_map]
    simp only [Array.getElem?_toList, Array.getElem?_eq_getElem hj', Option.map_some, Option.getD_some]
    exact V_ofScal _
  · exact .any _

theorem own_ofVal (B : Nat) (v : Value) : OwnV P σ B w v (ofVal v) := by
  unfold ofVal
  split <;> first | exact .of_noOwn rfl | exact ⟨none, rfl⟩
theorem not_holds_ofVal (v u : Value) (g : Nat) : ¬ holds u (ofVal v) g := by
  rintro ⟨e, xs, off, len, cap, hd, _⟩
  unfold ofVal at hd
  split at hd <;> simp at hd

theorem St.evV {W0 : World} {σ0 : Sig} {w0 : World} {nt : Nat} {fr : Fr} {H : Heap} {a : Act} (h : St P W0 σ0 w0 nt σ fr H a w) (x : Operand) :
    V σ w (a.eval x) (ev fr x) := by
  cases x with
  | tmp t => exact h.slot t
  | const v => exact V_ofVal v
  | global g => exact .any _
  | func f => exact .fn f #[] [] rfl fun j hj => absurd hj (by simp)

/-! ### Whole numbers, strings -/

theorem bytes_toList (s : ByteArray) : s.toList = s.data.toList := ByteArray.toList_eq s

theorem run_dInt (op : BinOp) (t : TypeId) (k : IntKind) (a b : Int) (d : D) (h : dInt op k a b = some d) :
    ∃ r, (binOp op t (.int k a) (.int k b)).run P w = .ok r w ∧ V σ w r d ∧ noOwn d = true := by
  cases op <;> simp only [dInt, Option.some.injEq, reduceCtorEq] at h
  case add => subst h; exact ⟨.int k (k.wrap (a + b)), by simp [binOp, Op.intArith], .int _ _, rfl⟩
  case sub => subst h; exact ⟨.int k (k.wrap (a - b)), by simp [binOp, Op.intArith], .int _ _, rfl⟩
  case mul => subst h; exact ⟨.int k (k.wrap (a * b)), by simp [binOp, Op.intArith], .int _ _, rfl⟩
  case quo =>
    by_cases hb : b = 0
    · simp [hb] at h
    · simp only [hb, if_false, Option.some.injEq] at h
      subst h; exact ⟨.int k (k.wrap (a.tdiv b)), by simp [binOp, Op.intDiv, hb], .int _ _, rfl⟩
  case rem =>
    by_cases hb : b = 0
    · simp [hb] at h
    · simp only [hb, if_false, Option.some.injEq] at h
      subst h; exact ⟨.int k (a.tmod b), by simp [binOp, Op.intDiv, hb], .int _ _, rfl⟩
  case and => subst h; exact ⟨.int k (k.wrap (BitVec.ofInt k.bits a &&& BitVec.ofInt k.bits b).toNat), by simp only [binOp, Op.intBits, ne_eq, not_true_eq_false, if_false]; rfl, .int _ _, rfl⟩
  case or => subst h; exact ⟨.int k (k.wrap (BitVec.ofInt k.bits a ||| BitVec.ofInt k.bits b).toNat), by simp only [binOp, Op.intBits, ne_eq, not_true_eq_false, if_false]; rfl, .int _ _, rfl⟩
  case xor => subst h; exact ⟨.int k (k.wrap (BitVec.ofInt k.bits a ^^^ BitVec.ofInt k.bits b).toNat), by simp only [binOp, Op.intBits, ne_eq, not_true_eq_false, if_false]; rfl, .int _ _, rfl⟩
  case eql => subst h; exact ⟨.bool (a == b), by simp [binOp, Op.intCmp], by rw [show (a == b) = decide (a = b) from rfl]; exact .bool _, rfl⟩
  case neq => subst h; exact ⟨.bool (a != b), by simp [binOp, Op.intCmp], by rw [show (a != b) = !decide (a = b) from rfl]; exact .bool _, rfl⟩
  case lss => subst h; exact ⟨.bool (decide (a < b)), by simp [binOp, Op.intCmp], .bool _, rfl⟩
  case leq => subst h; exact ⟨.bool (decide (a ≤ b)), by simp [binOp, Op.intCmp], .bool _, rfl⟩
  case gtr => subst h; exact ⟨.bool (decide (a > b)), by simp [binOp, Op.intCmp], .bool _, rfl⟩
  case geq => subst h; exact ⟨.bool (decide (a ≥ b)), by simp [binOp, Op.intCmp], .bool _, rfl⟩

theorem run_dStr (op : BinOp) (t : TypeId) (a b : ByteArray) (d : D) (h : dStr op a.data.toList b.data.toList = some d) :
    ∃ r, (binOp op t (.string a) (.string b)).run P w = .ok r w ∧ V σ w r d ∧ noOwn d = true := by
  have hs (x : ByteArray) : x.data.toList.length = x.size := rfl
  cases op <;> simp only [dStr, Option.some.injEq, reduceCtorEq] at h
  case add =>
    rw [hs, hs] at h
    by_cases hb : a.size + b.size ≤ 4611686018427387904
    · rw [if_pos hb] at h
      cases h
      exact ⟨.string (a ++ b), by simp only [binOp]; exact run_string_add_sum w a b (by omega), .str _ _ (by simp), rfl⟩
    · rw [if_neg hb] at h; cases h
  case eql =>
    subst h
    exact ⟨.bool (a.toList == b.toList), by simp [binOp, Op.stringOp], by rw [bytes_toList, bytes_toList, show (a.data.toList == b.data.toList) = decide (a.data.toList = b.data.toList) by rw [Bool.eq_iff_iff]; simp]; exact .bool _, rfl⟩
  case neq =>
    subst h
    exact ⟨.bool (!(a.toList == b.toList)), by simp [binOp, Op.stringOp], by rw [bytes_toList, bytes_toList, show (a.data.toList == b.data.toList) = decide (a.data.toList = b.data.toList) by rw [Bool.eq_iff_iff]; simp]; exact .bool _, rfl⟩
  case lss =>
    subst h
    exact ⟨.bool (Op.bytesLess a.toList b.toList), by simp [binOp, Op.stringOp], by rw [bytes_toList, bytes_toList]; exact .bool _, rfl⟩

/-- The guard before '==' does nothing where one operand is no nil interface and no struct. -/
theorem run_eqGuard (op : BinOp) (t : TypeId) (X Y : Operand) (u v : Value) (hu : (∀ c, u ≠ .agg c) ∧ u ≠ .nilIface) : (eqGuard op t X Y u v).run P w = .ok () w := by
  cases u <;> first
    | exact absurd rfl (hu.1 _)
    | exact absurd rfl hu.2
    | simp only [eqGuard_at_bool, eqGuard_at_int, eqGuard_at_float, eqGuard_at_complex, eqGuard_at_string, eqGuard_at_pointer, eqGuard_at_slice, eqGuard_at_map, eqGuard_at_chan, eqGuard_at_func, eqGuard_at_nilFunc, eqGuard_at_iface, eqGuard_at_tuple, Sem.run_pure]

theorem run_dBin (op : BinOp) (t : TypeId) (u v : Value) (x y d : D) (hx : V σ w u x) (hy : V σ w v y) (h : dBin op x y = some d) :
    (∃ r, (binOp op t u v).run P w = .ok r w ∧ V σ w r d ∧ noOwn d = true) ∧ (∀ c, u ≠ .agg c) ∧ u ≠ .nilIface := by
  unfold dBin at h
  split at h
  · cases hx; cases hy
    rename_i k a k' b
    refine ⟨?_, by simp, by simp⟩
    split at h
    · by_cases hb : b < 0
      · simp [hb] at h
      · simp only [hb, if_false, Option.some.injEq] at h
        subst h
        exact ⟨.int k (k.wrap (a * 2 ^ min b.toNat k.bits)), by simp [binOp, Op.shift, hb], .int _ _, rfl⟩
    · by_cases hb : b < 0
      · simp [hb] at h
      · simp only [hb, if_false, Option.some.injEq] at h
        subst h
        exact ⟨.int k (a.fdiv (2 ^ min b.toNat k.bits)), by simp [binOp, Op.shift, hb], .int _ _, rfl⟩
    · by_cases hk : k = k'
      · subst hk
        simp only [if_true] at h
        exact run_dInt op t k a b d h
      · simp [hk] at h
  · cases hx; cases hy
    rename_i a ha b hb
    subst ha; subst hb
    exact ⟨run_dStr op t a b d h, by simp, by simp⟩
  · cases h

theorem run_dUn (op : UnOp) (u : Value) (x d : D) (hx : V σ w u x) (h : dUn op x = some d) : ∃ r, (Op.unary op u).run P w = .ok r w ∧ V σ w r d ∧ noOwn d = true := by
  unfold dUn at h
  split at h
  · cases hx; cases h
    exact ⟨_, rfl, .bool _, rfl⟩
  · cases hx; cases h
    exact ⟨_, by simp only [Op.unary, Op.intArith]; rfl, .int _ _, rfl⟩
  · cases h

end
end Dl
