/- Loops, ends of calls, and small facts. -/
import Derived.Test.YtgnebanjejmckaaDoorDtm
namespace Dl
open Go

theorem w64 {n : Int} (h : -9223372036854775808 ≤ n ∧ n ≤ 9223372036854775807) : IntKind.wrap .i64 n = n := by
  simp only [IntKind.wrap, IntKind.bits, IntKind.signed]
  simp
  split <;> omega
theorem wu8 {n : Int} (h : 0 ≤ n ∧ n < 256) : IntKind.wrap .u8 n = n := by
  simp only [IntKind.wrap, IntKind.bits, IntKind.signed]
  simp
  omega

section
variable {P : Program} {hn : Hints} {C : Callee} {fr : Fr} {H : Heap} {K : Fr → Heap → Prop} {Q : Ex} {W0 : World}

def loopK {α : Type} (μ : α → Nat) (I : α → Fr → Heap → Prop) (a : α) : Fr → Heap → Prop := fun fr H => ∃ a', μ a' < μ a ∧ I a' fr H

/-- Slots that a loop leaves alone, the others any. -/
def kept (ks : List Nat) (g fr : Fr) : Fr := fun t => if ks.contains t = true then fr t else g t
theorem f_kept (ks : List Nat) (g fr : Fr) (t : Nat) : kept ks g fr t = if ks.contains t = true then fr t else g t := rfl

theorem s_loop {α : Type} (μ : α → Nat) (I : α → Fr → Heap → Prop) (ks : List Nat) {b : SC} (hC : MonoC C) (hks : (ks.all fun t => !(b.modsH hn).contains t) = true) (a0 : α) (h0 : I a0 fr H)
    (hb : ∀ a g H', I a (kept ks g fr) H' → b.wp P hn C (kept ks g fr) H' (andThen (loopK μ I a) Q)) : SC.wp P hn C (.loop b) fr H Q := by
  refine ⟨fun n fr' H => (∃ a, μ a = n ∧ I a fr' H) ∧ ∀ t ∈ ks, fr' t = fr t, μ a0, ⟨⟨a0, rfl, h0⟩, fun _ _ => rfl⟩, ?_⟩
  rintro n g H' ⟨⟨a, rfl, hI⟩, hsame⟩
  have ek : over b.mods g fr = kept ks (over b.mods g fr) fr := by
    funext t
    simp only [kept]
    by_cases ht : ks.contains t = true
    · rw [if_pos ht]; exact hsame t (by simpa using ht)
    · rw [if_neg ht]
  rw [ek] at hI ⊢
  refine wp_modsH hC b (hb a _ H' hI) fun e fr' H'' hq hout => ?_
  cases e with
  | normal =>
    obtain ⟨a', h1, h2⟩ := hq
    refine ⟨μ a', h1, ⟨a', rfl, h2⟩, fun t ht => ?_⟩
    have hn : t ∉ b.modsH hn := by simpa using List.all_eq_true.1 hks t ht
    rw [hout t hn]
    simp only [kept]
    rw [if_pos (by simpa using ht)]
  | _ => exact hq

theorem k_end (e : Exit) (h : e = .ret ∨ e = .normal) (rs : List ResultVar) (H0 : Heap) (K : D → Heap → Prop) {ds : List D} (hr : resD P H fr rs = some ds) (hp : (retD ds).np = true) (hk : K (retD ds) (H.take H0.length)) : atEnd P H0 rs K e fr H := by
  rcases h with rfl | rfl <;> exact ⟨ds, ds, hr, fzs_self _ _ ds, hp, hk⟩

/-- One result, out of a slot. -/
theorem end1 {t : Nat} {H0 : Heap} {K : D → Heap → Prop} {d : D} (hd : fr t = d) (hp : d.np = true) (hk : K d (H.take H0.length)) : atEnd P H0 [.tmp t] K .ret fr H :=
  k_end .ret (.inl rfl) _ _ _ (ds := [d]) (by simp [resD, hd]) hp hk
theorem end2 {t u : Nat} {H0 : Heap} {K : D → Heap → Prop} {d d' : D} (hd : fr t = d) (hd' : fr u = d') (hp : (retD [d, d']).np = true) (hk : K (.tup [d.pl, d'.pl]) (H.take H0.length)) : atEnd P H0 [.tmp t, .tmp u] K .ret fr H :=
  k_end .ret (.inl rfl) _ _ _ (ds := [d, d']) (by simp [resD, hd, hd']) hp hk
theorem end3 {t u v : Nat} {H0 : Heap} {K : D → Heap → Prop} {d d' d'' : D} (hd : fr t = d) (hd' : fr u = d') (hd'' : fr v = d'') (hp : (retD [d, d', d'']).np = true) (hk : K (.tup [d.pl, d'.pl, d''.pl]) (H.take H0.length)) : atEnd P H0 [.tmp t, .tmp u, .tmp v] K .ret fr H :=
  k_end .ret (.inl rfl) _ _ _ (ds := [d, d', d'']) (by simp [resD, hd, hd', hd'']) hp hk
/-- Results out of boxes. -/
theorem endC1 {t ty : Nat} {H0 : Heap} {K : D → Heap → Prop} {d : D} (hd : dLoad P H ty (fr t) = some d) (hp : d.np = true) (hk : K d (H.take H0.length)) : atEnd P H0 [.cell t ty] K .ret fr H :=
  k_end .ret (.inl rfl) _ _ _ (ds := [d]) (by simp [resD, hd]) hp hk
theorem endC2 {t u ty : Nat} {H0 : Heap} {K : D → Heap → Prop} {d d' : D} (hd : dLoad P H ty (fr t) = some d) (hd' : fr u = d') (hp : (retD [d, d']).np = true) (hk : K (.tup [d.pl, d'.pl]) (H.take H0.length)) : atEnd P H0 [.cell t ty, .tmp u] K .ret fr H :=
  k_end .ret (.inl rfl) _ _ _ (ds := [d, d']) (by simp [resD, hd, hd']) hp hk
theorem endC3 {t u v ty : Nat} {H0 : Heap} {K : D → Heap → Prop} {d d' d'' : D} (hd : dLoad P H ty (fr t) = some d) (hd' : fr u = d') (hd'' : fr v = d'') (hp : (retD [d, d', d'']).np = true) (hk : K (.tup [d.pl, d'.pl, d''.pl]) (H.take H0.length)) : atEnd P H0 [.cell t ty, .tmp u, .tmp v] K .ret fr H :=
  k_end .ret (.inl rfl) _ _ _ (ds := [d, d', d'']) (by simp [resD, hd, hd', hd'']) hp hk
/-- A result that is seen as a list from now on. -/
theorem endZ {t : Nat} {H0 : Heap} {K : D → Heap → Prop} {b len e : Nat} {xs : List D} (hd : fr t = .ref b 0 len e) (hb : H0.length ≤ b) (he : 0 < e) (hl : xs.length = len) (hE : ∀ x ∈ xs, x.cells.length = e)
    (hH : hget H b = xs.flatMap D.cells) (hk : K (.lst .no xs) (H.take H0.length)) : atEnd P H0 [.tmp t] K .ret fr H :=
  ⟨[.ref b 0 len e], [.lst .no xs], by simp [resD, hd], ⟨.inr ⟨b, len, e, xs, rfl, hb, he, hl, hE, hH, rfl⟩, trivial⟩, rfl, hk⟩

theorem Grow_mk {f : FuncId} {ds : List D} {r : D} {K : D → Heap → Prop} (hc : ∀ K : D → Heap → Prop, K r H → CallWp P W0 f ds H K) (h : K r H) : Grow (CallWp P W0) f ds H K := hc _ ⟨h, rfl⟩
end

/-- The boxes that were there are as they were. -/
def Pre (H H' : Heap) : Prop := H.length ≤ H'.length ∧ H'.take H.length = H
theorem Pre.refl (H : Heap) : Pre H H := ⟨Nat.le_refl _, List.take_length⟩
theorem Pre.app {H H' : Heap} (h : Pre H H') (l : List (List D)) : Pre H (H' ++ l) := ⟨by rw [List.length_append]; have := h.1; omega, by rw [List.take_append_of_le_length h.1]; exact h.2⟩
theorem Pre.take {H H' : Heap} (h : Pre H H') (l : List (List D)) : (H' ++ l).take H.length = H := (h.app l).2

theorem getD_map {α : Type} {β : Type} (f : α → β) (l : List α) (i : Nat) (d : β) (h : i < l.length) : (l.map f).getD i d = f l[i] := by
  rw [List.getD_eq_getElem?_getD, List.getElem?_map, List.getElem?_eq_getElem h]; rfl
theorem getD_lt' {α : Type} (l : List α) (i : Nat) (d : α) (h : i < l.length) : l.getD i d = l[i] := by
  rw [List.getD_eq_getElem?_getD, List.getElem?_eq_getElem h]; rfl

attribute [go_sem] f_kept
end Dl
