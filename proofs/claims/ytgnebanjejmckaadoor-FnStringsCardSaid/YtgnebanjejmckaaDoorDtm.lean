/- What a piece of code may write, given the hints: finer than 'SC.mods'. -/
import Derived.Test.YtgnebanjejmckaaDoorDs
namespace Dl
open Go

def SO.modsH (hn : Hints) (o : SO) : List Nat :=
  o.dst.toList ++ match o.op with
    | .move (.tmp s) => match o.dst with
      | some d => if d ∈ hn.trs then [s] else []
      | none => []
    | .assign (.tmp s) => match o.dst with
      | some d => if d ∈ hn.cps then [] else [s]
      | none => []
    | .call { callee := .builtin .append, args, .. } => if dstIn o.dst hn.refs = true then [] else match args.toList with
      | .tmp s :: _ => [s]
      | _ => []
    | _ => []
def SC.modsH (hn : Hints) : SC → List Nat
  | .reg ops => ops.flatMap (SO.modsH hn)
  | .regd ops => ops.flatMap fun o => o.1.modsH hn
  | .regp ops => ops.flatMap (SO.modsH hn)
  | .regt t => t.ops.flatMap (SO.modsH hn)
  | .seq a b => a.modsH hn ++ b.modsH hn
  | .cond _ a b => a.modsH hn ++ b.modsH hn
  | .block _ b => b.modsH hn
  | .loop b => b.modsH hn
  | _ => []

section
variable {P : Program} {hn : Hints} {C : Callee} {fr : Fr} {H : Heap}

theorem opWp_modsH (hC : MonoC C) {o : SO} {K K' : Fr → Heap → Prop} (h : opWp P hn C o fr H K) (hk : ∀ fr' H', K fr' H' → (∀ t, t ∉ (o.modsH hn) → fr' t = fr t) → K' fr' H') : opWp P hn C o fr H K' := by
  have hput : ∀ (d : D) H', K (fr.put o.dst d) H' → K' (fr.put o.dst d) H' := fun d H' hh => hk _ _ hh fun t ht => put_out (fun hm => ht (by unfold SO.modsH; exact List.mem_append_left _ hm))
  have hsame : ∀ H', K fr H' → K' fr H' := fun H' hh => hk _ _ hh fun t _ => rfl
  have hset : ∀ d, o.dst = some d → ∀ (x : D) H', K (fr.set d x) H' → K' (fr.set d x) H' := fun d hd x H' hh => by
    have := hput x H'; rw [hd] at this; exact this hh
  have hset2 : ∀ d s, o.dst = some d → s ∈ (o.modsH hn) → ∀ (x y : D) H', K ((fr.set s y).set d x) H' → K' ((fr.set s y).set d x) H' := fun d s hd hs x y H' hh =>
    hk _ _ hh fun t ht => by
      have h1 : t ≠ s := fun e => ht (e ▸ hs)
      have h2 : t ≠ d := fun e => ht (by unfold SO.modsH; rw [e, hd]; simp)
      rw [set_out h2, set_out h1]
  unfold opWp at *
  split at h
  case h_1 s ho =>
    split at h
    · rename_i d hd
      split at h
      · rename_i hc
        have hs : s ∈ (o.modsH hn) := by unfold SO.modsH; rw [ho]; simp [hd, hc.1]
        rw [if_pos hc]; exact hset2 d s hd hs _ _ _ h
      · rename_i hc; rw [if_neg hc]; exact hset d hd _ _ h
    · exact hsame _ h
  case h_2 x hx ho =>
    cases x <;> first | exact absurd rfl (hx _) | exact hput _ _ h
  case h_3 s ho =>
    split at h
    · rename_i d hd
      by_cases hcp : d ∈ hn.cps
      · rw [if_pos hcp] at h ⊢; exact hset d hd _ _ h
      have hs : s ∈ (o.modsH hn) := by unfold SO.modsH; rw [ho]; simp [hd, hcp]
      rw [if_neg hcp] at h ⊢
      split at h
      · rename_i e xs hf
        split at h
        · rename_i hc; rw [if_pos hc]; exact hset2 d s hd hs _ _ _ h
        · exact h.elim
      · exact hset d hd _ _ h
    · exact hsame _ h
  case h_4 x hx ho =>
    cases x <;> first | exact absurd rfl (hx _) | exact hput _ _ h
  case h_5 c x y ho =>
    split at h
    · exact hput _ _ h
    · exact hput _ _ h
    · exact h.elim
  case h_8 s t x ho =>
    split at h
    · rename_i hdr; rw [if_pos hdr]; exact cvR_mono h fun d H' hh => hput d H' hh
    · rename_i hdr; rw [if_neg hdr]; exact optK_mono h (fun d => hput _ _)
  case h_15 x ho =>
    split at h
    · exact hput _ _ h
    · exact hput _ _ h
    · exact hput _ _ h
    · exact h.elim
  case h_18 f first caps ho =>
    split at h
    · rename_i hc; rw [if_pos hc]; exact hput _ _ h
    · exact h.elim
  case h_19 t x ho =>
    split at h
    · rename_i hc; rw [if_pos hc]; exact hput _ _ h
    · exact h.elim
  case h_20 t ho =>
    split at h
    · exact hput _ _ h
    · exact h.elim
  case h_21 t ad x ho =>
    split at h
    · split at h
      · rename_i hc; rw [if_pos hc]; exact hput _ _ h
      · exact h.elim
    · exact h.elim
  case h_22 c ho =>
    split at h
    · split at h
      · exact hC _ _ _ _ _ (fun r H' => hput _ _) h
      · exact h.elim
    · split at h
      · exact optK_mono h (fun d => hput _ _)
      · exact h.elim
    · split at h
      · split at h
        · split at h
          · rename_i hc; rw [if_pos hc]; exact hput _ _ h
          · exact h.elim
        · exact h.elim
      · exact h.elim
    · split at h
      · split at h
        · split at h
          · rename_i hc; rw [if_pos hc]; exact hput _ _ h
          · exact h.elim
        · exact h.elim
      · exact h.elim
    · rename_i hcal
      split at h
      · rename_i x y t t' hx ht
        split at h
        · split at h
          · split at h
            · rename_i hdr; rw [if_pos hdr]
              exact ⟨h.1, appR_mono h.2 fun d H' hh => hput d H' hh⟩
            rename_i hdr; rw [if_neg hdr]
            split at h
            · split at h
              rotate_left
              · exact h.elim
              rename_i hc; rw [if_pos hc]
              refine hk _ _ h fun t ht => ?_
              rw [put_out (fun hm => ht (by unfold SO.modsH; exact List.mem_append_left _ hm))]
              cases x with
              | tmp s =>
                have hs : s ∈ (o.modsH hn) := by
                  unfold SO.modsH
                  obtain ⟨cal, args, at_⟩ := c
                  simp only at hcal hx
                  subst hcal
                  rw [ho]; simp only [hx, if_neg hdr]; simp
                exact set_out (fun e => ht (e ▸ hs))
              | _ => rfl
            · exact h.elim
          · exact h.elim
        · exact h.elim
      · exact h.elim
    · split at h
      · split at h
        · exact hput _ _ h
        · split at h
          · rename_i hc; rw [if_pos hc]; exact hput _ _ h
          · exact h.elim
        · exact h.elim
      · exact h.elim
    · exact h.elim
  case h_23 t len parts ho =>
    split at h
    · split at h
      · rename_i hc; rw [if_pos hc]
        split at h
        · rename_i d hd
          split at h
          · rename_i hc; rw [if_pos hc]; exact hset d hd _ _ h
          · rename_i hc; rw [if_neg hc]; exact hset d hd _ _ h
        · exact h.elim
      · exact h.elim
    · exact h.elim
  case h_24 t l c ho =>
    split at h
    · rename_i d hd
      split at h
      · split at h
        · rename_i hc; rw [if_pos hc]
          split at h
          · split at h
            · exact h.elim
            · rename_i hc; rw [if_neg hc]
              split at h
              · rename_i hc; rw [if_pos hc]; exact hset d hd _ _ h
              · rename_i hc; rw [if_neg hc]; exact hset d hd _ _ h
          · exact h.elim
        · exact h.elim
      · exact h.elim
    · exact h.elim
  case h_25 => exact h.elim
  all_goals
    exact optK_mono h (fun d => hput _ _)

theorem soWp_modsH (hC : MonoC C) {o : SO} {K K' : Fr → Heap → Prop} (h : soWp P hn C o fr H K) (hk : ∀ fr' H', K fr' H' → (∀ t, t ∉ (o.modsH hn) → fr' t = fr t) → K' fr' H') : soWp P hn C o fr H K' := by
  unfold soWp at *
  split at h
  · exact opWp_modsH hC h hk
  · split at h
    · split at h
      · rename_i hc; rw [if_pos hc]; exact opWp_modsH hC h hk
      · rename_i hc; rw [if_neg hc]
        exact hk _ _ h fun t ht => put_out (fun hm => ht (by unfold SO.modsH; exact List.mem_append_left _ hm))
    · exact h.elim

theorem regWp_modsH (hC : MonoC C) : ∀ (os : List SO) {fr : Fr} {H : Heap} {K K' : Fr → Heap → Prop}, regWp P hn C os fr H K → (∀ fr' H', K fr' H' → (∀ t, t ∉ os.flatMap (SO.modsH hn) → fr' t = fr t) → K' fr' H') → regWp P hn C os fr H K'
  | [], _, _, _, _, h, hk => hk _ _ h fun t _ => rfl
  | o :: os, _, _, _, _, h, hk => soWp_modsH hC h fun fr1 H1 h1 e1 => regWp_modsH hC os h1 fun fr2 H2 h2 e2 => hk _ _ h2 fun t ht => by
      rw [List.flatMap_cons, List.mem_append, not_or] at ht
      rw [e2 t ht.2, e1 t ht.1]

theorem rtWp_modsH (hC : MonoC C) : ∀ (t : RT) {fr : Fr} {H : Heap} {K K' : Fr → Heap → Prop}, rtWp P hn C t fr H K → (∀ fr' H', K fr' H' → (∀ u, u ∉ t.ops.flatMap (SO.modsH hn) → fr' u = fr u) → K' fr' H') → rtWp P hn C t fr H K'
  | .done, _, _, _, _, h, hk => hk _ _ h fun t _ => rfl
  | .bad, _, _, _, _, h, _ => h
  | .op o t, _, _, _, _, h, hk => soWp_modsH hC h fun fr1 H1 h1 e1 => rtWp_modsH hC t h1 fun fr2 H2 h2 e2 => hk _ _ h2 fun u hu => by
      rw [RT.ops, List.flatMap_cons, List.mem_append, not_or] at hu
      rw [e2 u hu.2, e1 u hu.1]
  | .br a b, _, _, _, _, h, hk => ⟨rtWp_modsH hC a h.1 fun fr1 H1 h1 e1 => hk _ _ h1 fun u hu => by
      rw [RT.ops, List.flatMap_append, List.mem_append, not_or] at hu
      exact e1 u hu.1, rtWp_modsH hC b h.2 fun fr1 H1 h1 e1 => hk _ _ h1 fun u hu => by
      rw [RT.ops, List.flatMap_append, List.mem_append, not_or] at hu
      exact e1 u hu.2⟩

theorem dAny_modsH (hC : MonoC C) (ops : List (SO × List Nat)) : ∀ (n : Nat) (listed : List Bool) {fr : Fr} {H : Heap} {K K' : Fr → Heap → Prop}, dAny P hn C ops n listed fr H K →
    (∀ fr' H', K fr' H' → (∀ t, t ∉ ops.flatMap (fun o => o.1.modsH hn) → fr' t = fr t) → K' fr' H') → dAny P hn C ops n listed fr H K'
  | 0, _, _, _, _, _, h, hk => ⟨h.1, hk _ _ h.2 fun t _ => rfl⟩
  | n + 1, listed, _, _, _, _, h, hk => ⟨fun h0 => hk _ _ (h.1 h0) fun t _ => rfl, fun i hi => by
      obtain ⟨o, ho, hw⟩ := h.2 i hi
      refine ⟨o, ho, soWp_modsH hC hw fun fr1 H1 h1 e1 => dAny_modsH hC ops n _ h1 fun fr2 H2 h2 e2 => hk _ _ h2 fun t ht => ?_⟩
      rw [e2 t ht, e1 t fun hm => ht (List.mem_flatMap.2 ⟨o, List.mem_of_getElem? ho, hm⟩)]⟩

theorem wp_modsH (hC : MonoC C) (c : SC) : ∀ {fr : Fr} {H : Heap} {Q Q' : Ex}, c.wp P hn C fr H Q → (∀ e fr' H', Q e fr' H' → (∀ t, t ∉ c.modsH hn → fr' t = fr t) → Q' e fr' H') → c.wp P hn C fr H Q' := by
  induction c with
  | skip => exact fun h hk => hk _ _ _ h fun _ _ => rfl
  | reg ops => exact fun h hk => regWp_modsH hC ops h fun _ _ h1 e1 => hk _ _ _ h1 e1
  | regp ops => exact fun h hk => regWp_modsH (Grow_mono hC) ops h fun _ _ h1 e1 => hk _ _ _ h1 e1
  | regt t => exact fun h hk => rtWp_modsH hC t h fun _ _ h1 e1 => hk _ _ _ h1 e1
  | regd ops => exact fun h hk => dAny_modsH hC ops _ _ h fun _ _ h1 e1 => hk _ _ _ h1 e1
  | seq a b iha ihb =>
    intro fr H Q Q' h hk
    refine iha h fun e fr1 H1 h1 e1 => ?_
    have out1 : ∀ t, t ∉ a.modsH hn ++ b.modsH hn → fr1 t = fr t := fun t ht => e1 t fun hm => ht (List.mem_append_left _ hm)
    cases e with
    | normal =>
      refine ihb h1 fun e fr2 H2 h2 e2 => hk _ _ _ h2 fun t ht => ?_
      rw [e2 t fun hm => ht (List.mem_append_right _ hm), out1 t ht]
    | exit id => exact hk _ _ _ h1 out1
    | ret => exact hk _ _ _ h1 out1
    | goto l => exact h1
    | panic c => exact h1
    | outgrown => exact h1
  | cond c a b iha ihb =>
    intro fr H Q Q' h hk
    unfold SC.wp at h ⊢
    split at h
    · split at h
      · rename_i hc; rw [if_pos hc]
        exact iha h fun e fr1 H1 h1 e1 => hk _ _ _ h1 fun t ht => e1 t fun hm => ht (List.mem_append_left _ hm)
      · rename_i hc; rw [if_neg hc]
        exact ihb h fun e fr1 H1 h1 e1 => hk _ _ _ h1 fun t ht => e1 t fun hm => ht (List.mem_append_right _ hm)
    · exact h.elim
  | block id b ih =>
    intro fr H Q Q' h hk
    refine ih h fun e fr1 H1 h1 e1 => ?_
    cases e with
    | normal => exact hk _ _ _ h1 e1
    | exit i =>
      unfold inBlock at *
      simp only at h1 ⊢
      split at h1
      · rename_i hc; rw [if_pos hc]; exact hk _ _ _ h1 e1
      · rename_i hc; rw [if_neg hc]; exact hk _ _ _ h1 e1
    | ret => exact hk _ _ _ h1 e1
    | goto l => exact h1
    | panic c => exact h1
    | outgrown => exact h1
  | loop b ih =>
    intro fr H Q Q' h hk
    obtain ⟨I, n0, h0, hr⟩ := h
    refine ⟨fun n fr' H => I n fr' H ∧ ∀ t, t ∉ b.modsH hn → fr' t = fr t, n0, ⟨h0, fun _ _ => rfl⟩, fun n g H' hI => ih (hr n g H' hI.1) fun e fr1 H1 h1 e1 => ?_⟩
    have out1 : ∀ t, t ∉ b.modsH hn → fr1 t = fr t := fun t ht => by rw [e1 t ht, hI.2 t ht]
    cases e with
    | normal =>
      obtain ⟨n', hlt, hI'⟩ := h1
      exact ⟨n', hlt, hI', out1⟩
    | exit id => exact hk _ _ _ h1 out1
    | ret => exact hk _ _ _ h1 out1
    | goto l => exact h1
    | panic c => exact h1
    | outgrown => exact h1
  | exit id => exact fun h hk => hk _ _ _ h fun _ _ => rfl
  | ret => exact fun h hk => hk _ _ _ h fun _ _ => rfl
  | bad => exact fun h _ => h

end
end Dl
