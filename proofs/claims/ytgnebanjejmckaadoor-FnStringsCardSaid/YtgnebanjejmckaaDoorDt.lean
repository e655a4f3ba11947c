/- Loops, ends of calls, and small facts. -/
import Derived.Test.YtgnebanjejmckaaDoorDtm
namespace Dl
open Go

theorem w64 {n : Int} (h : -9223372036854775808 ≤ n ∧ n ≤ 9223372036854775807) : IntKind.wrap .i64 n = n := by
  simp only [IntKind.wrap, IntKind.bits, IntKind.signed]
  simp
  split <;> omega
theorem wu8 {n : Int} (h : 0 ≤ n ∧ n < 256) : IntKind.wrap .u8 n = n := by
  simp only [IntKind.wrap, IntKind.bits, IntKind.signed]
  simp
  omega

/-- The boxes that were there are as they were. -/
def Pre (H H' : Heap) : Prop := H.length ≤ H'.length ∧ H'.take H.length = H
theorem Pre.refl (H : Heap) : Pre H H := ⟨Nat.le_refl _, List.take_length⟩
theorem Pre.app {H H' : Heap} (h : Pre H H') (l : List (List D)) : Pre H (H' ++ l) := ⟨by rw [List.length_append]; have := h.1; omega, by rw [List.take_append_of_le_length h.1]; exact h.2⟩
theorem Pre.take {H H' : Heap} (h : Pre H H') (l : List (List D)) : (H' ++ l).take H.length = H := (h.app l).2

theorem Old.refl (H : Heap) : Old H H := fun _ _ => .inl rfl
theorem Old.app {H0 H : Heap} (h : Old H0 H) (hl : H0.length ≤ H.length) (l : List (List D)) : Old H0 (H ++ l) := fun i hi => by
  rw [hget_left H l i (by omega)]; exact h i hi
theorem Old.app1 (H : Heap) (l : List (List D)) : Old H (H ++ l) := (Old.refl H).app (Nat.le_refl _) l
theorem Old.take {H0 H : Heap} (h : H.take H0.length = H0) : Old H0 H := fun i hi => .inl (by
  have : hget (H.take H0.length) i = hget H0 i := by rw [h]
  rw [← this]
  simp only [hget, List.getD_eq_getElem?_getD, List.getElem?_take]; rw [if_pos hi])

theorem Pre.old {H H' : Heap} (h : Pre H H') : Old H H' := Old.take h.2

section
variable {P : Program} {hn : Hints} {C : Callee} {fr : Fr} {H : Heap} {K : Fr → Heap → Prop} {Q : Ex} {W0 : World}

def loopK {α : Type} (μ : α → Nat) (I : α → Fr → Heap → Prop) (a : α) : Fr → Heap → Prop := fun fr H => ∃ a', μ a' < μ a ∧ I a' fr H

/-- Slots that a loop leaves alone, the others any. -/
def kept (ks : List Nat) (g fr : Fr) : Fr := fun t => if ks.contains t = true then fr t else g t
theorem f_kept (ks : List Nat) (g fr : Fr) (t : Nat) : kept ks g fr t = if ks.contains t = true then fr t else g t := rfl

theorem s_loop {α : Type} (μ : α → Nat) (I : α → Fr → Heap → Prop) (ks : List Nat) {b : SC} (hC : MonoC C) (hks : (ks.all fun t => !(b.modsH hn).contains t) = true) (a0 : α) (h0 : I a0 fr H)
    (hb : ∀ a g H', I a (kept ks g fr) H' → b.wp P hn C (kept ks g fr) H' (andThen (loopK μ I a) Q)) : SC.wp P hn C (.loop b) fr H Q := by
  refine ⟨fun n fr' H => (∃ a, μ a = n ∧ I a fr' H) ∧ ∀ t ∈ ks, fr' t = fr t, μ a0, ⟨⟨a0, rfl, h0⟩, fun _ _ => rfl⟩, ?_⟩
  rintro n g H' ⟨⟨a, rfl, hI⟩, hsame⟩
  have ek : over b.mods g fr = kept ks (over b.mods g fr) fr := by
    funext t
    simp only [kept]
    by_cases ht : ks.contains t = true
    · rw [if_pos ht]; exact hsame t (by simpa using ht)
    · rw [if_neg ht]
  rw [ek] at hI ⊢
  refine wp_modsH hC b (hb a _ H' hI) fun e fr' H'' hq hout => ?_
  cases e with
  | normal =>
    obtain ⟨a', h1, h2⟩ := hq
    refine ⟨μ a', h1, ⟨a', rfl, h2⟩, fun t ht => ?_⟩
    have hn : t ∉ b.modsH hn := by simpa using List.all_eq_true.1 hks t ht
    rw [hout t hn]
    simp only [kept]
    rw [if_pos (by simpa using ht)]
  | _ => exact hq

theorem k_end (e : Exit) (h : e = .ret ∨ e = .normal) (rs : List ResultVar) (H0 : Heap) (K : D → Heap → Prop) {ds : List D} (ho : Old H0 H) (hr : resD P H fr rs = some ds) (hp : (retD ds).np = true) (hk : K (retD ds) (H.take H0.length)) : atEnd P H0 rs K e fr H := by
  have go : endW P H0 rs K fr H := ⟨ds, ds, [], hr, fzs_self _ _ _ ds, ho, ⟨List.nodup_nil, fun k hk => by cases hk⟩, D.okS_np hp, by rw [D.ren_np hp]; simpa using hk⟩
  rcases h with rfl | rfl <;> exact go

/-- One result, out of a slot. -/
theorem end1 {t : Nat} {H0 : Heap} {K : D → Heap → Prop} {d : D} (hd : fr t = d) (hp : d.np = true) (hk : K d (H.take H0.length)) (ho : Old H0 H := by first | exact Old.refl _ | exact Old.app1 _ _ | assumption | exact Old.take (by assumption) | exact Pre.old (by assumption) | exact Pre.old (Pre.app (by assumption) _) | exact (Old.take (by assumption)).app (by omega) _ | (simp only [List.append_assoc]; exact Old.app1 _ _)) : atEnd P H0 [.tmp t] K .ret fr H :=
  k_end .ret (.inl rfl) _ _ _ ho (ds := [d]) (by simp [resD, hd]) hp hk
theorem end2 {t u : Nat} {H0 : Heap} {K : D → Heap → Prop} {d d' : D} (hd : fr t = d) (hd' : fr u = d') (hp : (retD [d, d']).np = true) (hk : K (.tup [d.pl, d'.pl]) (H.take H0.length)) (ho : Old H0 H := by first | exact Old.refl _ | exact Old.app1 _ _ | assumption | exact Old.take (by assumption) | exact Pre.old (by assumption) | exact Pre.old (Pre.app (by assumption) _) | exact (Old.take (by assumption)).app (by omega) _ | (simp only [List.append_assoc]; exact Old.app1 _ _)) : atEnd P H0 [.tmp t, .tmp u] K .ret fr H :=
  k_end .ret (.inl rfl) _ _ _ ho (ds := [d, d']) (by simp [resD, hd, hd']) hp hk
theorem end3 {t u v : Nat} {H0 : Heap} {K : D → Heap → Prop} {d d' d'' : D} (hd : fr t = d) (hd' : fr u = d') (hd'' : fr v = d'') (hp : (retD [d, d', d'']).np = true) (hk : K (.tup [d.pl, d'.pl, d''.pl]) (H.take H0.length)) (ho : Old H0 H := by first | exact Old.refl _ | exact Old.app1 _ _ | assumption | exact Old.take (by assumption) | exact Pre.old (by assumption) | exact Pre.old (Pre.app (by assumption) _) | exact (Old.take (by assumption)).app (by omega) _ | (simp only [List.append_assoc]; exact Old.app1 _ _)) : atEnd P H0 [.tmp t, .tmp u, .tmp v] K .ret fr H :=
  k_end .ret (.inl rfl) _ _ _ ho (ds := [d, d', d'']) (by simp [resD, hd, hd', hd'']) hp hk
/-- Results out of boxes. -/
theorem endC1 {t ty : Nat} {H0 : Heap} {K : D → Heap → Prop} {d : D} (hd : dLoad P H ty (fr t) = some d) (hp : d.np = true) (hk : K d (H.take H0.length)) (ho : Old H0 H := by first | exact Old.refl _ | exact Old.app1 _ _ | assumption | exact Old.take (by assumption) | exact Pre.old (by assumption) | exact Pre.old (Pre.app (by assumption) _) | exact (Old.take (by assumption)).app (by omega) _ | (simp only [List.append_assoc]; exact Old.app1 _ _)) : atEnd P H0 [.cell t ty] K .ret fr H :=
  k_end .ret (.inl rfl) _ _ _ ho (ds := [d]) (by simp [resD, hd]) hp hk
theorem endC2 {t u ty : Nat} {H0 : Heap} {K : D → Heap → Prop} {d d' : D} (hd : dLoad P H ty (fr t) = some d) (hd' : fr u = d') (hp : (retD [d, d']).np = true) (hk : K (.tup [d.pl, d'.pl]) (H.take H0.length)) (ho : Old H0 H := by first | exact Old.refl _ | exact Old.app1 _ _ | assumption | exact Old.take (by assumption) | exact Pre.old (by assumption) | exact Pre.old (Pre.app (by assumption) _) | exact (Old.take (by assumption)).app (by omega) _ | (simp only [List.append_assoc]; exact Old.app1 _ _)) : atEnd P H0 [.cell t ty, .tmp u] K .ret fr H :=
  k_end .ret (.inl rfl) _ _ _ ho (ds := [d, d']) (by simp [resD, hd, hd']) hp hk
theorem endCr2 {t u ty : Nat} {H0 : Heap} {K : D → Heap → Prop} {d d' : D} (hd : fr t = d) (hd' : dLoad P H ty (fr u) = some d') (hp : (retD [d, d']).np = true) (hk : K (.tup [d.pl, d'.pl]) (H.take H0.length)) (ho : Old H0 H := by first | exact Old.refl _ | exact Old.app1 _ _ | assumption | exact Old.take (by assumption) | exact Pre.old (by assumption) | exact Pre.old (Pre.app (by assumption) _) | exact (Old.take (by assumption)).app (by omega) _ | (simp only [List.append_assoc]; exact Old.app1 _ _)) : atEnd P H0 [.tmp t, .cell u ty] K .ret fr H :=
  k_end .ret (.inl rfl) _ _ _ ho (ds := [d, d']) (by simp [resD, hd, hd']) hp hk
theorem endCC2 {t u ty tz : Nat} {H0 : Heap} {K : D → Heap → Prop} {d d' : D} (hd : dLoad P H ty (fr t) = some d) (hd' : dLoad P H tz (fr u) = some d') (hp : (retD [d, d']).np = true) (hk : K (.tup [d.pl, d'.pl]) (H.take H0.length)) (ho : Old H0 H := by first | exact Old.refl _ | exact Old.app1 _ _ | assumption | exact Old.take (by assumption) | exact Pre.old (by assumption) | exact Pre.old (Pre.app (by assumption) _) | exact (Old.take (by assumption)).app (by omega) _ | (simp only [List.append_assoc]; exact Old.app1 _ _)) : atEnd P H0 [.cell t ty, .cell u tz] K .ret fr H :=
  k_end .ret (.inl rfl) _ _ _ ho (ds := [d, d']) (by simp [resD, hd, hd']) hp hk
theorem endC3 {t u v ty : Nat} {H0 : Heap} {K : D → Heap → Prop} {d d' d'' : D} (hd : dLoad P H ty (fr t) = some d) (hd' : fr u = d') (hd'' : fr v = d'') (hp : (retD [d, d', d'']).np = true) (hk : K (.tup [d.pl, d'.pl, d''.pl]) (H.take H0.length)) (ho : Old H0 H := by first | exact Old.refl _ | exact Old.app1 _ _ | assumption | exact Old.take (by assumption) | exact Pre.old (by assumption) | exact Pre.old (Pre.app (by assumption) _) | exact (Old.take (by assumption)).app (by omega) _ | (simp only [List.append_assoc]; exact Old.app1 _ _)) : atEnd P H0 [.cell t ty, .tmp u, .tmp v] K .ret fr H :=
  k_end .ret (.inl rfl) _ _ _ ho (ds := [d, d', d'']) (by simp [resD, hd, hd', hd'']) hp hk
theorem endG {rs : List ResultVar} {H0 : Heap} {K : D → Heap → Prop} (ds ds' : List D) (ks : List Nat) (hr : resD P H fr rs = some ds) (hz : fzs H0.length ks H ds ds') (ho : Old H0 H) (hkp : Kept H0.length H ks) (hn : (retD ds').okS (seen H0.length ks) = true)
    (hk : K ((retD ds').ren (rnm H0.length ks)) (H.take H0.length ++ ks.map (hget H))) : atEnd P H0 rs K .ret fr H := ⟨ds, ds', ks, hr, hz, ho, hkp, hn, hk⟩
/-- A result that is seen as a list from now on. -/
theorem endZ {t : Nat} {H0 : Heap} {K : D → Heap → Prop} {b off len cap e : Nat} {xs : List D} (hd : fr t = .ref b off len cap e) (hb : H0.length ≤ b) (he : 0 < e) (hl : xs.length = len) (hE : ∀ x ∈ xs, x.cells.length = e ∧ ∀ d ∈ x.cells, d.np1 = true)
    (hle : off + len * e ≤ (hget H b).length) (hH : ((hget H b).drop off).take (len * e) = xs.flatMap D.cells) (hk : K (.lst .no xs) (H.take H0.length)) (ho : Old H0 H := by first | exact Old.refl _ | exact Old.app1 _ _ | assumption | exact Old.take (by assumption) | exact Pre.old (by assumption) | exact Pre.old (Pre.app (by assumption) _) | exact (Old.take (by assumption)).app (by omega) _ | (simp only [List.append_assoc]; exact Old.app1 _ _)) : atEnd P H0 [.tmp t] K .ret fr H :=
  endG [.ref b off len cap e] [.lst .no xs] [] (by simp [resD, hd]) ⟨.inl (.inr ⟨b, off, len, cap, e, xs, rfl, hb, by simp, he, hl, hE, hle, hH, rfl⟩), trivial⟩ ho ⟨List.nodup_nil, fun k hk => by cases hk⟩ rfl (by simpa [D.ren, D.ren1, retD] using hk)
/-- A result that is a box of the call's own, its caller's from now on. -/
theorem endR {t : Nat} {H0 : Heap} {K : D → Heap → Prop} {b off len cap e : Nat} (hd : fr t = .ref b off len cap e) (hb : H0.length ≤ b) (hb2 : b < H.length) (hc : ∀ d ∈ hget H b, d.ok1 (fun k => decide (k < H0.length)) = true)
    (hk : K (.ref H0.length off len cap e) (H.take H0.length ++ [hget H b])) (ho : Old H0 H := by first | exact Old.refl _ | exact Old.app1 _ _ | assumption | exact Old.take (by assumption) | exact Pre.old (by assumption) | exact Pre.old (Pre.app (by assumption) _) | exact (Old.take (by assumption)).app (by omega) _ | (simp only [List.append_assoc]; exact Old.app1 _ _)) : atEnd P H0 [.tmp t] K .ret fr H :=
  endG [.ref b off len cap e] [.ref b off len cap e] [b] (by simp [resD, hd]) (fzs_self _ _ _ _) ho ⟨by simp, fun k hk => by
    obtain rfl : k = b := by simpa using hk
    exact ⟨⟨hb, hb2⟩, hc⟩⟩ (by simp [retD, D.okS, D.ok1, seen]) (by
    have : rnm H0.length [b] b = H0.length := by simp [rnm, List.idxOf_cons]; omega
    simpa [retD, D.ren, D.ren1, this] using hk)
/-- A result that is a part of a box that was there. -/
theorem endO {t : Nat} {H0 : Heap} {K : D → Heap → Prop} {b off len cap e : Nat} (hd : fr t = .ref b off len cap e) (hb : b < H0.length)
    (hk : K (.ref b off len cap e) (H.take H0.length)) (ho : Old H0 H := by first | exact Old.refl _ | exact Old.app1 _ _ | assumption | exact Old.take (by assumption) | exact Pre.old (by assumption) | exact Pre.old (Pre.app (by assumption) _) | exact (Old.take (by assumption)).app (by omega) _ | (simp only [List.append_assoc]; exact Old.app1 _ _)) : atEnd P H0 [.tmp t] K .ret fr H :=
  endG [.ref b off len cap e] [.ref b off len cap e] [] (by simp [resD, hd]) (fzs_self _ _ _ _) ho ⟨List.nodup_nil, fun k hk => by cases hk⟩ (by simp [retD, D.okS, D.ok1, seen, hb]) (by
    have : rnm H0.length [] b = b := by simp [rnm, hb]
    simpa [retD, D.ren, D.ren1, this] using hk)

theorem Grow_mk {f : FuncId} {ds : List D} {r : D} {K : D → Heap → Prop} (hc : ∀ K : D → Heap → Prop, K r H → CallWp P W0 f ds H K) (h : K r H) : Grow (CallWp P W0) f ds H K := hc _ ⟨h, rfl⟩
end

theorem getD_map {α : Type} {β : Type} (f : α → β) (l : List α) (i : Nat) (d : β) (h : i < l.length) : (l.map f).getD i d = f l[i] := by
  rw [List.getD_eq_getElem?_getD, List.getElem?_map, List.getElem?_eq_getElem h]; rfl
theorem getD_lt' {α : Type} (l : List α) (i : Nat) (d : α) (h : i < l.length) : l.getD i d = l[i] := by
  rw [List.getD_eq_getElem?_getD, List.getElem?_eq_getElem h]; rfl

attribute [go_sem] f_kept
end Dl
