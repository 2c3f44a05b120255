/-
  Merging with a heap (plain laws): what comes out is sorted, and tells what the lists tell, one behind the other.
-/
import Derived.Test.YtmoflcoijmmpjaaGrAP
namespace Go.Proofs.Ytmoflcoijmmpjaa
set_option linter.unusedSimpArgs false
set_option linter.unusedVariables false
set_option linter.unusedSectionVars false
open Go Go.RowKit
abbrev Hd : Type := List Pr × Nat
def kyH (h : Hd) : List Int := match h.1 with | p :: _ => p.1 | [] => []
def ahd (a b : Hd) : Bool := ltK (kyH a) (kyH b) || (decide (kyH a = kyH b) && decide (a.2 < b.2))
def gH (H : List Hd) (i : Nat) : Hd := (H[i]?).getD ([], 0)
def lsH (H : List Hd) (n b c : Nat) : Nat := bif decide (c < n) && ahd (gH H c) (gH H b) then c else b
def swH (H : List Hd) (i j : Nat) : List Hd := (H.set i (gH H j)).set j (gH H i)
def l2H (H : List Hd) (n i : Nat) : Nat := lsH H n (lsH H n i (2 * i + 1)) (2 * i + 2)
def dnH : Nat → List Hd → Nat → Nat → List Hd
 | 0, H, _, _ => H
 | f + 1, H, n, i => bif decide (l2H H n i = i) then H else dnH f (swH H i (l2H H n i)) n (l2H H n i)
def ord (a b : Hd) : Prop := ahd b a = false
theorem ord_key {a b : Hd} (h : ord a b) : ltK (kyH b) (kyH a) = false ∧ (kyH a = kyH b → a.2 ≤ b.2) := by
 unfold ord ahd at h
 simp only [Bool.or_eq_false_iff, Bool.and_eq_false_iff, decide_eq_false_iff_not] at h
 refine ⟨h.1, fun e => ?_⟩
 rcases h.2 with h2 | h2
 ·exact absurd e.symm h2
 ·omega
theorem ord_of {a b : Hd} (h1 : ltK (kyH b) (kyH a) = false) (h2 : kyH a = kyH b → a.2 ≤ b.2) : ord a b := by
 unfold ord ahd
 simp only [h1, Bool.false_or, Bool.and_eq_false_iff, decide_eq_false_iff_not]
 by_cases e : kyH b = kyH a
 ·exact .inr (by have := h2 e.symm; omega)
 ·exact .inl e
theorem ord_refl (a : Hd) : ord a a := ord_of (ltK_irr _) fun _ => Nat.le_refl _
theorem ltK_ge {a b c : List Int} (h1 : ltK b a = false) (h2 : ltK c b = false) : ltK c a = false := by
 cases h : ltK c a with
 | false => rfl
 | true => rw [ltK_le (a := b) h2 h] at h1; cases h1
theorem ord_trans {a b c : Hd} (h1 : ord a b) (h2 : ord b c) : ord a c := by
 obtain ⟨p1, p2⟩ := ord_key h1
 obtain ⟨q1, q2⟩ := ord_key h2
 refine ord_of (ltK_ge p1 q1) fun e => ?_
 have e1 : kyH a = kyH b := by
  refine ltK_tot ?_ p1
  rw [e]; exact q1
 exact Nat.le_trans (p2 e1) (q2 (e1.symm.trans e))
theorem ord_ahd {a b : Hd} (h : ahd a b = true) : ord a b := by
 unfold ahd at h
 simp only [Bool.or_eq_true, Bool.and_eq_true, decide_eq_true_eq] at h
 rcases h with h | ⟨h1, h2⟩
 ·exact ord_of (ltK_asym h) fun e => by rw [e, ltK_irr] at h; cases h
 ·exact ord_of (by rw [h1]; exact ltK_irr _) fun _ => Nat.le_of_lt h2
theorem gH_set {H : List Hd} {i k : Nat} {x : Hd} (hi : i < H.length) : gH (H.set i x) k = if k = i then x else gH H k := by
 unfold gH
 rw [List.getElem?_set]
 by_cases e : i = k
 ·subst e; simp [hi]
 ·rw [if_neg e, if_neg (Ne.symm e)]
theorem swH_len (H : List Hd) (i j : Nat) : (swH H i j).length = H.length := by simp [swH]
theorem gH_sw {H : List Hd} {i j k : Nat} (hi : i < H.length) (hj : j < H.length) : gH (swH H i j) k = if k = j then gH H i else if k = i then gH H j else gH H k := by
 unfold swH
 rw [gH_set (by simpa using hj), gH_set hi]
theorem lsH_cases (H : List Hd) (n b c : Nat) : (lsH H n b c = b ∧ (c < n → ord (gH H b) (gH H c))) ∨ (lsH H n b c = c ∧ c < n ∧ ahd (gH H c) (gH H b) = true) := by
 unfold lsH
 by_cases h1 : c < n
 ·cases h2 : ahd (gH H c) (gH H b) with
  | true => exact .inr ⟨by simp [h1], h1, rfl⟩
  | false => exact .inl ⟨by simp, fun _ => h2⟩
 ·exact .inl ⟨by simp [h1], fun h => absurd h h1⟩
theorem l2H_cases (H : List Hd) (n i : Nat) : (l2H H n i = i ∧ ∀ c, c < n → (c = 2 * i + 1 ∨ c = 2 * i + 2) → ord (gH H i) (gH H c)) ∨
  (∃ m, l2H H n i = m ∧ m < n ∧ (m = 2 * i + 1 ∨ m = 2 * i + 2) ∧ ord (gH H m) (gH H i) ∧ ∀ c, c < n → (c = 2 * i + 1 ∨ c = 2 * i + 2) → ord (gH H m) (gH H c)) := by
 unfold l2H
 rcases lsH_cases H n i (2 * i + 1) with ⟨e1, h1⟩ | ⟨e1, h1, h1'⟩ <;> rw [e1]
 ·rcases lsH_cases H n i (2 * i + 2) with ⟨e2, h2⟩ | ⟨e2, h2, h2'⟩ <;> rw [e2]
  ·refine .inl ⟨rfl, fun c hc h => ?_⟩
   rcases h with rfl | rfl
   ·exact h1 hc
   ·exact h2 hc
  ·refine .inr ⟨_, rfl, h2, .inr rfl, ord_ahd h2', fun c hc h => ?_⟩
   rcases h with rfl | rfl
   ·exact ord_trans (ord_ahd h2') (h1 hc)
   ·exact ord_refl _
 ·rcases lsH_cases H n (2 * i + 1) (2 * i + 2) with ⟨e2, h2⟩ | ⟨e2, h2, h2'⟩ <;> rw [e2]
  ·refine .inr ⟨_, rfl, h1, .inl rfl, ord_ahd h1', fun c hc h => ?_⟩
   rcases h with rfl | rfl
   ·exact ord_refl _
   ·exact h2 hc
  ·refine .inr ⟨_, rfl, h2, .inr rfl, ord_trans (ord_ahd h2') (ord_ahd h1'), fun c hc h => ?_⟩
   rcases h with rfl | rfl
   ·exact ord_ahd h2'
   ·exact ord_refl _
def HpF (H : List Hd) (n j0 : Nat) : Prop := ∀ k, 0 < k → k < n → j0 ≤ (k - 1) / 2 → ord (gH H ((k - 1) / 2)) (gH H k)
structure HpX (H : List Hd) (n j0 i : Nat) : Prop where
 o : ∀ k, 0 < k → k < n → j0 ≤ (k - 1) / 2 → (k - 1) / 2 ≠ i → ord (gH H ((k - 1) / 2)) (gH H k)
 g : ∀ k, 0 < k → k < n → (k - 1) / 2 = i → 0 < i → j0 ≤ (i - 1) / 2 → ord (gH H ((i - 1) / 2)) (gH H k)
theorem dn_heap {n j0 : Nat} : ∀ (f : Nat) (H : List Hd) (i : Nat), n ≤ H.length → n - i ≤ f → j0 ≤ i → HpX H n j0 i → HpF (dnH f H n i) n j0
 | 0, H, i, hl, hf, hj, hX => fun k h1 h2 h3 => hX.o k h1 h2 h3 (by omega)
 | f + 1, H, i, hl, hf, hj, hX => by
   simp only [dnH]
   rcases l2H_cases H n i with ⟨e, h⟩ | ⟨m, e, hm, hc, h1, h2⟩
   ·rw [decide_eq_true e, cond_true]
    intro k k1 k2 k3
    by_cases hk : (k - 1) / 2 = i
    ·rw [hk]; exact h k k2 (by omega)
    ·exact hX.o k k1 k2 k3 hk
   ·rw [e, decide_eq_false (by omega), cond_false]
    have hi : i < H.length := by omega
    have hm2 : m < H.length := by omega
    have gs : ∀ k, gH (swH H i m) k = if k = m then gH H i else if k = i then gH H m else gH H k := fun k => gH_sw hi hm2
    refine dn_heap f _ m (by rw [swH_len]; exact hl) (by omega) (by omega) ⟨fun k k1 k2 k3 k4 => ?_, fun k k1 k2 k3 k4 k5 => ?_⟩
    ·rw [gs, gs, if_neg k4]
     by_cases e1 : (k - 1) / 2 = i
     ·rw [if_pos e1]
      by_cases e2 : k = m
      ·rw [if_pos e2]; exact h1
      ·rw [if_neg e2, if_neg (by omega)]
       exact h2 k k2 (by omega)
     ·rw [if_neg e1, if_neg (show k ≠ m by omega)]
      by_cases e2 : k = i
      ·rw [if_pos e2]
       subst e2
       exact hX.g m (by omega) hm (by omega) (by omega) k3
      ·rw [if_neg e2]; exact hX.o k k1 k2 k3 e1
    ·have e0 : (m - 1) / 2 = i := by omega
     rw [gs, gs, e0, if_neg (show i ≠ m by omega), if_pos rfl, if_neg (show k ≠ m by omega), if_neg (show k ≠ i by omega)]
     have := hX.o k k1 k2 (by omega) (by omega)
     rwa [k3] at this
theorem heap_min {H : List Hd} {n : Nat} (h : HpF H n 0) : ∀ k, k < n → ord (gH H 0) (gH H k) := by
 intro k
 induction k using Nat.strongRecOn with
 | _ k ih =>
  intro hk
  rcases Nat.eq_zero_or_pos k with rfl | h0
  ·exact ord_refl _
  ·exact ord_trans (ih ((k - 1) / 2) (by omega) (by omega)) (h k h0 hk (Nat.zero_le _))
structure SmH (H H' : List Hd) (n : Nat) : Prop where
 l : H'.length = H.length
 m : ∀ x, (∃ j, j < n ∧ gH H' j = x) → ∃ j, j < n ∧ gH H j = x
 m' : ∀ x, (∃ j, j < n ∧ gH H j = x) → ∃ j, j < n ∧ gH H' j = x
 i : (∀ a b, a < n → b < n → (gH H a).2 = (gH H b).2 → a = b) → ∀ a b, a < n → b < n → (gH H' a).2 = (gH H' b).2 → a = b
theorem SmH.refl (H : List Hd) (n : Nat) : SmH H H n := ⟨rfl, fun x h => h, fun x h => h, fun h => h⟩
theorem SmH.trans {A B C : List Hd} {n : Nat} (a : SmH A B n) (b : SmH B C n) : SmH A C n := ⟨b.l.trans a.l, fun x h => a.m x (b.m x h), fun x h => b.m' x (a.m' x h), fun h => b.i (a.i h)⟩
theorem sw_same {H : List Hd} {n i m : Nat} (hl : n ≤ H.length) (hi : i < n) (hm : m < n) : SmH H (swH H i m) n := by
 have gs : ∀ k, gH (swH H i m) k = if k = m then gH H i else if k = i then gH H m else gH H k := fun k => gH_sw (by omega) (by omega)
 refine ⟨swH_len H i m, fun x ⟨j, hj, e⟩ => ?_, fun x ⟨j, hj, e⟩ => ?_, fun h a b ha hb e => ?_⟩
 ·rw [gs] at e
  split at e
  ·exact ⟨i, hi, e⟩
  ·split at e
   ·exact ⟨m, hm, e⟩
   ·exact ⟨j, hj, e⟩
 ·by_cases e1 : j = i
  ·subst e1; exact ⟨m, hm, by rw [gs, if_pos rfl]; exact e⟩
  ·by_cases e2 : j = m
   ·subst e2
    refine ⟨i, hi, ?_⟩
    rw [gs]
    split
    ·rename_i e3; exact absurd e3.symm e1
    ·rw [if_pos rfl]; exact e
   ·exact ⟨j, hj, by rw [gs, if_neg e2, if_neg e1]; exact e⟩
 ·have key : ∀ k, k < n → ∃ k', k' < n ∧ gH (swH H i m) k = gH H k' ∧ (k' = if k = m then i else if k = i then m else k) := fun k hk => by
   refine ⟨if k = m then i else if k = i then m else k, ?_, ?_, rfl⟩
   ·split
    ·exact hi
    ·split
     ·exact hm
     ·exact hk
   ·rw [gs]
    split
    ·rfl
    ·split <;> rfl
  obtain ⟨a', a1, a2, a3⟩ := key a ha
  obtain ⟨b', b1, b2, b3⟩ := key b hb
  rw [a2, b2] at e
  have := h a' b' a1 b1 e
  split at a3 <;> split at b3 <;> (try split at a3) <;> (try split at b3) <;> omega
theorem dn_same {n : Nat} : ∀ (f : Nat) (H : List Hd) (i : Nat), n ≤ H.length → SmH H (dnH f H n i) n
 | 0, H, i, hl => SmH.refl H n
 | f + 1, H, i, hl => by
   simp only [dnH]
   rcases l2H_cases H n i with ⟨e, h⟩ | ⟨m, e, hm, hc, h1, h2⟩
   ·rw [decide_eq_true e, cond_true]; exact SmH.refl H n
   ·rw [e, decide_eq_false (by omega), cond_false]
    have s := sw_same (H := H) (n := n) (i := i) (m := m) hl (by omega) hm
    exact s.trans (dn_same f _ m (by rw [swH_len]; exact hl))
def hfH : Nat → List Hd → Nat → List Hd
 | 0, H, n => H
 | j + 1, H, n => hfH j (dnH n H n j) n
theorem hf_heap {n : Nat} : ∀ (j : Nat) (H : List Hd), n ≤ H.length → HpF H n j → HpF (hfH j H n) n 0 ∧ SmH H (hfH j H n) n
 | 0, H, hl, h => ⟨h, SmH.refl H n⟩
 | j + 1, H, hl, h => by
   have s := dn_same (n := n) n H j hl
   have h1 : HpF (dnH n H n j) n j := dn_heap n H j hl (by omega) (Nat.le_refl _) ⟨fun k k1 k2 k3 k4 => h k k1 k2 (by omega), fun k k1 k2 k3 k4 k5 => by omega⟩
   obtain ⟨g1, g2⟩ := hf_heap j _ (by rw [s.l]; exact hl) h1
   exact ⟨g1, s.trans g2⟩
theorem hf_top (H : List Hd) (n : Nat) : HpF H n (n / 2) := fun k k1 k2 k3 => by omega
def fnL (l : List Pr) (k : List Int) : Option Pr := l.find? fun p => decide (p.1 = k)
def fnd : List (List Pr) → List Int → Option Pr
 | [], _ => none
 | l :: L, k => match fnL l k with | some p => some p | none => fnd L k
def flt (drop : Bool) (o : Option Pr) : Option Pr := match o with
 | some p => bif drop && p.2.2 then none else some p
 | none => none
def gL (L : List (List Pr)) (i : Nat) : List Pr := (L[i]?).getD []
theorem fnL_none {l : List Pr} {k : List Int} (h : ∀ p ∈ l, p.1 ≠ k) : fnL l k = none := by
 unfold fnL
 rw [List.find?_eq_none]
 intro p hp
 simpa using h p hp
theorem fnL_asc : ∀ {l : List Pr} {p : Pr}, asc l = true → p ∈ l → fnL l p.1 = some p
 | [], p, _, hp => by cases hp
 | q :: l, p, ha, hp => by
   unfold fnL
   rcases List.mem_cons.1 hp with rfl | hp
   ·simp
   ·have h1 := asc_all ha p hp
    have h2 : q.1 ≠ p.1 := fun e => by rw [e, ltK_irr] at h1; cases h1
    rw [List.find?_cons_of_neg (by simpa using h2)]
    exact fnL_asc (asc_tail ha) hp
theorem fnL_mem {l : List Pr} {k : List Int} {p : Pr} (h : fnL l k = some p) : p ∈ l ∧ p.1 = k := by
 unfold fnL at h
 exact ⟨List.mem_of_find?_eq_some h, by simpa using List.find?_some h⟩
theorem fnL_app (l m : List Pr) (k : List Int) : fnL (l ++ m) k = match fnL l k with | some p => some p | none => fnL m k := by
 unfold fnL
 rw [List.find?_append]
 cases List.find? (fun p => decide (p.1 = k)) l <;> rfl
theorem fnd_none {k : List Int} : ∀ {L : List (List Pr)}, (∀ i p, p ∈ gL L i → p.1 ≠ k) → fnd L k = none
 | [], _ => rfl
 | l :: L, h => by
   simp only [fnd]
   rw [show fnL l k = none from fnL_none fun p hp => h 0 p hp]
   exact fnd_none fun i p hp => h (i + 1) p hp
theorem fnd_at {k : List Int} {p : Pr} : ∀ {L : List (List Pr)} {a : Nat}, fnL (gL L a) k = some p → (∀ i q, i < a → q ∈ gL L i → q.1 ≠ k) → fnd L k = some p
 | [], a, h, _ => by simp [gL, fnL] at h
 | l :: L, 0, h, _ => by
   simp only [fnd]
   rw [show fnL l k = some p from h]
 | l :: L, a + 1, h, h2 => by
   simp only [fnd]
   rw [show fnL l k = none from fnL_none fun q hq => h2 0 q (by omega) hq]
   exact fnd_at (a := a) h fun i q hi hq => h2 (i + 1) q (by omega) hq
theorem asc_suf : ∀ {a b : List Pr}, asc (a ++ b) = true → asc b = true
 | [], b, h => h
 | p :: a, b, h => asc_suf (a := a) (asc_tail h)
theorem asc_snoc : ∀ {l : List Pr} {p : Pr}, asc l = true → (∀ q ∈ l, ltK q.1 p.1 = true) → asc (l ++ [p]) = true
 | [], p, _, _ => rfl
 | [q], p, _, h => by
   have := h q (List.mem_cons_self ..)
   show asc [q, p] = true
   simp only [asc, Bool.and_true]
   exact this
 | q :: r :: l, p, ha, h => by
   have h1 := asc_head ha
   have := asc_snoc (asc_tail ha) fun x hx => h x (List.mem_cons_of_mem _ hx)
   show (!decide (cmpI q.1 r.1 ≥ 0) && asc ((r :: l) ++ [p])) = true
   rw [this, Bool.and_true]
   exact h1
structure MSt where
 H : List Hd
 n : Nat
 sm : Bool
 last : List Int
 out : List Pr
structure MInv (L : List (List Pr)) (drop : Bool) (s : MSt) : Prop where
 hl : s.n ≤ s.H.length
 hp : HpF s.H s.n 0
 inj : ∀ a b, a < s.n → b < s.n → (gH s.H a).2 = (gH s.H b).2 → a = b
 el : ∀ j, j < s.n → (gH s.H j).1 ≠ [] ∧ ∃ pre, gL L (gH s.H j).2 = pre ++ (gH s.H j).1
 cov : ∀ a q, q ∈ gL L a → (s.sm = true ∧ ltK s.last q.1 = false) ∨ ∃ j, j < s.n ∧ (gH s.H j).2 = a ∧ q ∈ (gH s.H j).1
 lo : s.sm = true → ∀ j, j < s.n → ∀ q ∈ (gH s.H j).1, ltK q.1 s.last = false
 oa : asc s.out = true
 ol : s.sm = true → ∀ p ∈ s.out, ltK s.last p.1 = false
 on : s.sm = false → s.out = []
 oc : s.sm = true → ∀ k, ltK s.last k = false → fnL s.out k = flt drop (fnd L k)
def popH (H : List Hd) (n : Nat) : List Hd × Nat := match gH H 0 with
 | (l, a) => bif (l.drop 1).isEmpty then ((H.set 0 (l.drop 1, a)).set 0 (gH (H.set 0 (l.drop 1, a)) (n - 1)), n - 1) else (H.set 0 (l.drop 1, a), n)
def fstP (H : List Hd) : Pr := ((gH H 0).1.head?).getD ([], [], false)
def newK (s : MSt) : Bool := !s.sm || !decide (s.last = (fstP s.H).1)
def stM (drop : Bool) (s : MSt) : MSt := match popH s.H s.n with
 | (H, n) => ⟨dnH n H n 0, n, true, (fstP s.H).1, bif newK s && (!drop || !(fstP s.H).2.2) then s.out ++ [fstP s.H] else s.out⟩
theorem pop_empty {H : List Hd} {n : Nat} (h : (gH H 0).1.drop 1 = []) (hl : n ≤ H.length) (hn : 0 < n) : (popH H n).2 = n - 1 ∧ (popH H n).1.length = H.length ∧ ∀ j, j < n - 1 → gH (popH H n).1 j = if j = 0 then gH H (n - 1) else gH H j := by
 unfold popH
 obtain ⟨⟨l, a⟩, e⟩ : ∃ x, gH H 0 = x := ⟨_, rfl⟩
 rw [e] at h ⊢
 simp only at h ⊢
 rw [h]
 simp only [List.isEmpty_nil, cond_true, List.length_set, true_and]
 intro j hj
 rw [gH_set (by simp; omega)]
 split
 ·rw [gH_set (by omega), if_neg (by omega)]
 ·rename_i h0; rw [gH_set (by omega), if_neg h0]
theorem pop_more {H : List Hd} {n : Nat} (h : (gH H 0).1.drop 1 ≠ []) (hl : n ≤ H.length) (hn : 0 < n) : (popH H n).2 = n ∧ (popH H n).1.length = H.length ∧ ∀ j, j < n → gH (popH H n).1 j = if j = 0 then ((gH H 0).1.drop 1, (gH H 0).2) else gH H j := by
 unfold popH
 obtain ⟨⟨l, a⟩, e⟩ : ∃ x, gH H 0 = x := ⟨_, rfl⟩
 rw [e] at h ⊢
 simp only at h ⊢
 have : (l.drop 1).isEmpty = false := by
  cases hh : l.drop 1 with
  | nil => exact absurd hh h
  | cons x y => rfl
 rw [this]
 simp only [cond_false, List.length_set, true_and]
 intro j hj
 rw [gH_set (by omega)]
structure PopIs (H : List Hd) (n : Nat) (H' : List Hd) (n' : Nat) : Prop where
 l : n' ≤ H'.length
 x : HpF H n 0 → HpX H' n' 0 0
 i : (∀ a b, a < n → b < n → (gH H a).2 = (gH H b).2 → a = b) → ∀ a b, a < n' → b < n' → (gH H' a).2 = (gH H' b).2 → a = b
 m : ∀ j, j < n' → (∃ k, 0 < k ∧ k < n ∧ gH H' j = gH H k) ∨ (gH H' j = ((gH H 0).1.drop 1, (gH H 0).2) ∧ (gH H 0).1.drop 1 ≠ [])
 m' : ∀ k, 0 < k → k < n → ∃ j, j < n' ∧ gH H' j = gH H k
 t : (gH H 0).1.drop 1 ≠ [] → ∃ j, j < n' ∧ gH H' j = ((gH H 0).1.drop 1, (gH H 0).2)
theorem pop_is {H : List Hd} {n : Nat} (hl : n ≤ H.length) (hn : 0 < n) : PopIs H n (popH H n).1 (popH H n).2 := by
 by_cases h : (gH H 0).1.drop 1 = []
 ·obtain ⟨h1, h2, h3⟩ := pop_empty h hl hn
  rw [h1]
  refine ⟨by omega, fun hp => ⟨fun k k1 k2 k3 k4 => ?_, fun k k1 k2 k3 k4 k5 => by omega⟩, fun hi a b ha hb e => ?_, fun j hj => ?_, fun k k1 k2 => ?_, fun h2 => absurd h h2⟩
  ·rw [h3 _ (by omega), h3 _ (by omega), if_neg k4, if_neg (by omega)]
   exact hp k k1 (by omega) (Nat.zero_le _)
  ·rw [h3 a ha, h3 b hb] at e
   split at e <;> split at e
   ·omega
   ·have := hi _ _ (by omega) (by omega) e; omega
   ·have := hi _ _ (by omega) (by omega) e; omega
   ·exact hi _ _ (by omega) (by omega) e
  ·rw [h3 j hj]
   split
   ·exact .inl ⟨n - 1, by omega, by omega, rfl⟩
   ·exact .inl ⟨j, by omega, by omega, rfl⟩
  ·by_cases e : k = n - 1
   ·exact ⟨0, by omega, by rw [h3 0 (by omega), if_pos rfl, e]⟩
   ·exact ⟨k, by omega, by rw [h3 k (by omega), if_neg (by omega)]⟩
 ·obtain ⟨h1, h2, h3⟩ := pop_more h hl hn
  rw [h1]
  refine ⟨by omega, fun hp => ⟨fun k k1 k2 k3 k4 => ?_, fun k k1 k2 k3 k4 k5 => by omega⟩, fun hi a b ha hb e => ?_, fun j hj => ?_, fun k k1 k2 => ?_, fun _ => ?_⟩
  ·rw [h3 _ (by omega), h3 _ (by omega), if_neg k4, if_neg (by omega)]
   exact hp k k1 (by omega) (Nat.zero_le _)
  ·rw [h3 a ha, h3 b hb] at e
   split at e <;> split at e
   ·omega
   ·have := hi 0 b hn hb e; omega
   ·have := hi a 0 ha hn e; omega
   ·exact hi _ _ ha hb e
  ·rw [h3 j hj]
   split
   ·exact .inr ⟨rfl, h⟩
   ·exact .inl ⟨j, by omega, by omega, rfl⟩
  ·exact ⟨k, k2, by rw [h3 k k2, if_neg (by omega)]⟩
  ·exact ⟨0, hn, by rw [h3 0 hn, if_pos rfl]⟩
theorem stM_inv {L : List (List Pr)} {drop : Bool} {s : MSt} (I : MInv L drop s) (hA : ∀ a, asc (gL L a) = true) (hn : 0 < s.n) : MInv L drop (stM drop s) := by
 obtain ⟨hne, pre0, hpre0⟩ := I.el 0 hn
 obtain ⟨p, rest, hl0⟩ := List.exists_cons_of_ne_nil hne
 obtain ⟨a0, ha0⟩ : ∃ a0, (gH s.H 0).2 = a0 := ⟨_, rfl⟩
 have hf : fstP s.H = p := by unfold fstP; rw [hl0]; rfl
 have hk0 : kyH (gH s.H 0) = p.1 := by unfold kyH; rw [hl0]
 have hr : (gH s.H 0).1.drop 1 = rest := by rw [hl0]; rfl
 rw [hl0, ha0] at hpre0
 have P := pop_is I.hl hn
 have Pm := P.m
 have Pm' := P.m'
 have Pt := P.t
 rw [hr, ha0] at Pm Pt
 have hmin := heap_min I.hp
 have asl : ∀ j, j < s.n → asc (gH s.H j).1 = true := fun j hj => by
  obtain ⟨_, pre, e⟩ := I.el j hj
  have := hA (gH s.H j).2
  rw [e] at this
  exact asc_suf this
 have hge : ∀ j, j < s.n → ∀ q ∈ (gH s.H j).1, ltK q.1 p.1 = false ∧ (q.1 = p.1 → a0 ≤ (gH s.H j).2) := fun j hj q hq => by
  obtain ⟨h1, _⟩ := I.el j hj
  obtain ⟨x, l, e⟩ := List.exists_cons_of_ne_nil h1
  have kx : kyH (gH s.H j) = x.1 := by unfold kyH; rw [e]
  obtain ⟨o1, o2⟩ := ord_key (hmin j hj)
  rw [hk0, kx] at o1 o2
  rw [ha0] at o2
  rw [e] at hq
  rcases List.mem_cons.1 hq with rfl | hq
  ·exact ⟨o1, fun e2 => o2 e2.symm⟩
  ·have h2 := asc_all (p := x) (by rw [← e]; exact asl j hj) q hq
   have h3 : ltK p.1 q.1 = true := ltK_le (a := p.1) (b := x.1) o1 h2
   exact ⟨ltK_asym h3, fun e2 => by rw [e2, ltK_irr] at h3; cases h3⟩
 have hpin : p ∈ gL L a0 := by rw [hpre0]; simp
 have hlast : s.sm = true → ltK p.1 s.last = false := fun hs => I.lo hs 0 hn p (by rw [hl0]; exact List.mem_cons_self ..)
 have hcov : ∀ a q, q ∈ gL L a → (s.sm = true ∧ ltK s.last q.1 = false) ∨ (ltK q.1 p.1 = false ∧ (q.1 = p.1 → a0 ≤ a)) := fun a q hq => by
  rcases I.cov a q hq with h | ⟨j, h1, h2, h3⟩
  ·exact .inl h
  ·have := hge j h1 q h3
   rw [h2] at this
   exact .inr this
 have sm' := dn_same (n := (popH s.H s.n).2) (popH s.H s.n).2 (popH s.H s.n).1 0 P.l
 obtain ⟨H', hH'⟩ : ∃ H', dnH (popH s.H s.n).2 (popH s.H s.n).1 (popH s.H s.n).2 0 = H' := ⟨_, rfl⟩
 rw [hH'] at sm'
 have hheap : HpF H' (popH s.H s.n).2 0 := by
  rw [← hH']
  exact dn_heap _ _ 0 P.l (by omega) (Nat.le_refl _) (P.x I.hp)
 have hst : stM drop s = ⟨H', (popH s.H s.n).2, true, p.1, bif newK s && (!drop || !p.2.2) then s.out ++ [p] else s.out⟩ := by
  unfold stM
  obtain ⟨H1, n1, e⟩ : ∃ H1 n1, popH s.H s.n = (H1, n1) := ⟨_, _, rfl⟩
  rw [e] at hH' ⊢
  simp only at hH' ⊢
  rw [hf, hH']
 have mem_ : ∀ j, j < (popH s.H s.n).2 → (∃ k, 0 < k ∧ k < s.n ∧ gH H' j = gH s.H k) ∨ (gH H' j = (rest, a0) ∧ rest ≠ []) := fun j hj => by
  obtain ⟨j', h1, h2⟩ := sm'.m _ ⟨j, hj, rfl⟩
  have := Pm j' h1
  rw [h2] at this
  exact this
 have mem' : ∀ k, 0 < k → k < s.n → ∃ j, j < (popH s.H s.n).2 ∧ gH H' j = gH s.H k := fun k k1 k2 => by
  obtain ⟨j, h1, h2⟩ := Pm' k k1 k2
  exact sm'.m' _ ⟨j, h1, h2⟩
 have memt : rest ≠ [] → ∃ j, j < (popH s.H s.n).2 ∧ gH H' j = (rest, a0) := fun h => by
  obtain ⟨j, h1, h2⟩ := Pt h
  exact sm'.m' _ ⟨j, h1, h2⟩
 have hnew : newK s = true → s.sm = true → ltK s.last p.1 = true := fun h1 h2 => by
  unfold newK at h1
  rw [h2, hf] at h1
  simp only [Bool.not_true, Bool.false_or, Bool.not_eq_true', decide_eq_false_iff_not] at h1
  cases h3 : ltK s.last p.1 with
  | true => rfl
  | false => exact absurd (ltK_tot h3 (hlast h2)) h1
 have hold : newK s = false → s.sm = true ∧ s.last = p.1 := fun h1 => by
  unfold newK at h1
  rw [hf] at h1
  simp only [Bool.or_eq_false_iff, Bool.not_eq_false', decide_eq_true_eq] at h1
  exact h1
 have hfnd : newK s = true → fnd L p.1 = some p := fun h1 => by
  refine fnd_at (a := a0) (fnL_asc (hA a0) hpin) fun i q hi hq e => ?_
  rcases hcov i q hq with ⟨h2, h3⟩ | ⟨h2, h3⟩
  ·have := hnew h1 h2
   rw [e, this] at h3
   cases h3
  ·have := h3 e; omega
 have hnone : ∀ k, ltK k p.1 = true → (s.sm = true → ltK s.last k = true) → fnd L k = none := fun k h1 h2 => fnd_none fun i q hq e => by
  rcases hcov i q hq with ⟨h3, h4⟩ | ⟨h3, _⟩
  ·rw [e, h2 h3] at h4; cases h4
  ·rw [e, h1] at h3; cases h3
 have outlt : newK s = true → ∀ q ∈ s.out, ltK q.1 p.1 = true := fun h1 q hq => by
  cases hs : s.sm with
  | false => rw [I.on hs] at hq; cases hq
  | true => exact ltK_le (b := s.last) (I.ol hs q hq) (hnew h1 hs)
 have outno : newK s = true → ∀ k, ltK k p.1 = true → (s.sm = true → ltK s.last k = true) → fnL s.out k = none := fun h1 k h2 h3 => fnL_none fun q hq e => by
  cases hs : s.sm with
  | false => rw [I.on hs] at hq; cases hq
  | true =>
   have h4 := I.ol hs q hq
   rw [e, h3 hs] at h4
   cases h4
 rw [hst]
 refine ⟨by simp only; rw [sm'.l]; exact P.l, hheap, sm'.i (P.i I.inj), fun j hj => ?_, fun a q hq => ?_, fun _ j hj q hq => ?_, ?_, fun _ q hq => ?_, (fun h => by cases h), fun _ k hk => ?_⟩
 ·simp only at hj ⊢
  rcases mem_ j hj with ⟨k, k1, k2, e⟩ | ⟨e, h⟩
  ·rw [e]; exact I.el k k2
  ·rw [e]; exact ⟨h, pre0 ++ [p], by rw [hpre0]; simp⟩
 ·simp only
  rcases I.cov a q hq with ⟨h1, h2⟩ | ⟨j, h1, h2, h3⟩
  ·refine .inl ⟨trivial, ?_⟩
   exact ltK_ge h2 (hlast h1)
  ·rcases Nat.eq_zero_or_pos j with rfl | hj0
   ·rw [hl0] at h3
    rcases List.mem_cons.1 h3 with rfl | h3
    ·exact .inl ⟨trivial, ltK_irr _⟩
    ·obtain ⟨j, g1, g2⟩ := memt (fun e => by rw [e] at h3; cases h3)
     exact .inr ⟨j, g1, by rw [g2, ← h2, ha0], by rw [g2]; exact h3⟩
   ·obtain ⟨j', g1, g2⟩ := mem' j hj0 h1
    exact .inr ⟨j', g1, by rw [g2, h2], by rw [g2]; exact h3⟩
 ·simp only at hj hq ⊢
  rcases mem_ j hj with ⟨k, k1, k2, e⟩ | ⟨e, h⟩
  ·rw [e] at hq; exact (hge k k2 q hq).1
  ·rw [e] at hq
   exact (hge 0 hn q (by rw [hl0]; exact List.mem_cons_of_mem _ hq)).1
 ·simp only
  cases h1 : newK s && (!drop || !p.2.2) with
  | false => exact I.oa
  | true =>
   simp only [Bool.and_eq_true] at h1
   exact asc_snoc I.oa (outlt h1.1)
 ·simp only at hq ⊢
  have old_ : ∀ q ∈ s.out, ltK p.1 q.1 = false := fun q hq => by
   cases hs : s.sm with
   | false => rw [I.on hs] at hq; cases hq
   | true => exact ltK_ge (I.ol hs q hq) (hlast hs)
  cases h1 : newK s && (!drop || !p.2.2) with
  | false => rw [h1] at hq; exact old_ q hq
  | true =>
   rw [h1] at hq
   rcases List.mem_append.1 hq with hq | hq
   ·exact old_ q hq
   ·simp only [List.mem_singleton] at hq
    subst hq
    exact ltK_irr _
 ·simp only at hk ⊢
  cases hN : newK s with
  | false =>
   obtain ⟨h1, h2⟩ := hold hN
   simp only [Bool.false_and, cond_false]
   exact I.oc h1 k (by rw [h2]; exact hk)
  | true =>
   by_cases e : k = p.1
   ·subst e
    rw [hfnd hN]
    have n0 : fnL s.out p.1 = none := fnL_none fun q hq e => by
     have := outlt hN q hq
     rw [e, ltK_irr] at this
     cases this
    simp only [flt]
    cases hd : drop && p.2.2 with
    | true =>
     have : (!drop || !p.2.2) = false := by
      simp only [Bool.and_eq_true] at hd
      simp [hd.1, hd.2]
     simp only [this, Bool.and_false, cond_false, cond_true, n0]
    | false =>
     have : (!drop || !p.2.2) = true := by
      simp only [Bool.and_eq_false_iff] at hd
      rcases hd with h | h <;> simp [h]
     simp only [this, Bool.and_true, cond_true, cond_false, fnL_app, n0]
     simp [fnL]
   ·have hlt : ltK k p.1 = true := by
     cases h : ltK k p.1 with
     | true => rfl
     | false => exact absurd (ltK_tot h hk) e
    have napp : fnL (bif (true && (!drop || !p.2.2)) then s.out ++ [p] else s.out) k = fnL s.out k := by
     cases true && (!drop || !p.2.2) with
     | false => rfl
     | true =>
      rw [cond_true, fnL_app]
      cases fnL s.out k with
      | some x => rfl
      | none =>
       simp only
       exact fnL_none fun q hq e2 => by
        simp only [List.mem_singleton] at hq
        subst hq
        exact e e2.symm
    rw [napp]
    by_cases hs : s.sm = true ∧ ltK s.last k = false
    ·exact I.oc hs.1 k hs.2
    ·have h3 : s.sm = true → ltK s.last k = true := fun h => by
      cases h4 : ltK s.last k with
      | true => rfl
      | false => exact absurd ⟨h, h4⟩ hs
     rw [outno hN k hlt h3, hnone k hlt h3]
     rfl
theorem inv_end {L : List (List Pr)} {drop : Bool} {s : MSt} (I : MInv L drop s) (hn : s.n = 0) : asc s.out = true ∧ ∀ k, fnL s.out k = flt drop (fnd L k) := by
 refine ⟨I.oa, fun k => ?_⟩
 have hcov : ∀ a q, q ∈ gL L a → s.sm = true ∧ ltK s.last q.1 = false := fun a q hq => by
  rcases I.cov a q hq with h | ⟨j, h, _⟩
  ·exact h
  ·omega
 by_cases hs : s.sm = true ∧ ltK s.last k = false
 ·exact I.oc hs.1 k hs.2
 ·have n1 : fnd L k = none := fnd_none fun i q hq e => by
   have := hcov i q hq
   rw [e] at this
   exact hs this
  have n2 : fnL s.out k = none := fnL_none fun q hq e => by
   cases h : s.sm with
   | false => rw [I.on h] at hq; cases hq
   | true =>
    have := I.ol h q hq
    rw [e] at this
    exact hs ⟨h, this⟩
  rw [n1, n2]
  rfl
def hdsF : Nat → List (List Pr) → List Hd
 | _, [] => []
 | i, l :: L => bif l.isEmpty then hdsF (i + 1) L else (l, i) :: hdsF (i + 1) L
theorem hdsF_mem : ∀ {L : List (List Pr)} {i : Nat} {x : Hd}, x ∈ hdsF i L → x.1 ≠ [] ∧ i ≤ x.2 ∧ gL L (x.2 - i) = x.1
 | [], i, x, h => by cases h
 | l :: L, i, x, h => by
   simp only [hdsF] at h
   have more : x ∈ hdsF (i + 1) L → x.1 ≠ [] ∧ i ≤ x.2 ∧ gL (l :: L) (x.2 - i) = x.1 := fun h => by
    obtain ⟨h1, h2, h3⟩ := hdsF_mem h
    refine ⟨h1, by omega, ?_⟩
    rw [show x.2 - i = x.2 - (i + 1) + 1 by omega]
    exact h3
   cases hl : l.isEmpty with
   | true => rw [hl] at h; exact more h
   | false =>
    rw [hl] at h
    rcases List.mem_cons.1 h with rfl | h
    ·refine ⟨fun e => ?_, Nat.le_refl _, by simp [gL]⟩
     simp only at e
     rw [e] at hl; cases hl
    ·exact more h
theorem hdsF_has : ∀ {L : List (List Pr)} {i a : Nat} {q : Pr}, q ∈ gL L a → (gL L a, i + a) ∈ hdsF i L
 | [], i, a, q, h => by simp [gL] at h
 | l :: L, i, 0, q, h => by
   have h : q ∈ l := h
   simp only [hdsF]
   cases hl : l.isEmpty with
   | true => rw [List.isEmpty_iff.1 hl] at h; cases h
   | false => exact List.mem_cons_self ..
 | l :: L, i, a + 1, q, h => by
   have ih := hdsF_has (L := L) (i := i + 1) (a := a) (q := q) h
   rw [show i + (a + 1) = i + 1 + a by omega]
   simp only [hdsF]
   cases l.isEmpty with
   | true => exact ih
   | false => exact List.mem_cons_of_mem _ ih
theorem hdsF_nd : ∀ {L : List (List Pr)} {i : Nat}, (hdsF i L).Pairwise fun a b => a.2 < b.2
 | [], i => List.Pairwise.nil
 | l :: L, i => by
   simp only [hdsF]
   cases l.isEmpty with
   | true => exact hdsF_nd
   | false =>
    refine List.Pairwise.cons (fun x hx => ?_) hdsF_nd
    have := (hdsF_mem hx).2.1
    simp only
    omega
theorem hdsF_len : ∀ (L : List (List Pr)) (i : Nat), (hdsF i L).length ≤ L.length
 | [], i => by simp [hdsF]
 | l :: L, i => by
   simp only [hdsF]
   have := hdsF_len L (i + 1)
   cases l.isEmpty <;> simp only [cond_true, cond_false, List.length_cons] <;> omega
def mgS0 (L : List (List Pr)) : MSt := ⟨hfH ((hdsF 0 L).length / 2) (hdsF 0 L) (hdsF 0 L).length, (hdsF 0 L).length, false, [], []⟩
theorem gH_mem {H : List Hd} {j : Nat} (h : j < H.length) : gH H j ∈ H := by
 unfold gH
 rw [List.getElem?_eq_getElem h]
 exact List.getElem_mem h
theorem mgS0_inv (L : List (List Pr)) (drop : Bool) : MInv L drop (mgS0 L) := by
 obtain ⟨H, hH⟩ : ∃ H, hdsF 0 L = H := ⟨_, rfl⟩
 obtain ⟨g1, g2⟩ := hf_heap (n := H.length) (H.length / 2) H (Nat.le_refl _) (hf_top H _)
 unfold mgS0
 rw [hH]
 have mem_ : ∀ j, j < H.length → gH (hfH (H.length / 2) H H.length) j ∈ H := fun j hj => by
  obtain ⟨j', h1, h2⟩ := g2.m _ ⟨j, hj, rfl⟩
  rw [← h2]
  exact gH_mem h1
 have nd : H.Pairwise fun a b => a.2 < b.2 := by rw [← hH]; exact hdsF_nd
 refine ⟨by simp only; rw [g2.l]; exact Nat.le_refl _, g1, g2.i fun a b ha hb e => ?_, fun j hj => ?_, fun a q hq => ?_, fun h => (by cases h), rfl, fun h => (by cases h), fun _ => rfl, fun h => (by cases h)⟩
 ·unfold gH at e
  rw [List.getElem?_eq_getElem ha, List.getElem?_eq_getElem hb] at e
  simp only [Option.getD_some] at e
  rcases Nat.lt_trichotomy a b with h | h | h
  ·have := List.pairwise_iff_getElem.1 nd a b ha hb h; omega
  ·exact h
  ·have := List.pairwise_iff_getElem.1 nd b a hb ha h; omega
 ·have h := mem_ j hj
  rw [← hH] at h
  obtain ⟨h1, _, h3⟩ := hdsF_mem h
  rw [hH] at h1 h3
  exact ⟨h1, [], by simpa using h3⟩
 ·have h := hdsF_has (i := 0) hq
  rw [hH, Nat.zero_add] at h
  obtain ⟨j, hj, e⟩ := List.mem_iff_getElem.1 h
  have e2 : gH H j = (gL L a, a) := by unfold gH; rw [List.getElem?_eq_getElem hj, e]; rfl
  obtain ⟨j', k1, k2⟩ := g2.m' _ ⟨j, hj, e2⟩
  exact .inr ⟨j', k1, by simp only; rw [k2], by simp only; rw [k2]; exact hq⟩
def lfM : Nat → List Hd → Nat
 | 0, _ => 0
 | n + 1, H => lfM n H + (gH H n).1.length
def runM (drop : Bool) : Nat → MSt → MSt
 | 0, s => s
 | f + 1, s => bif decide (s.n = 0) then s else runM drop f (stM drop s)
theorem lf_far {n : Nat} : ∀ {H : List Hd} {i : Nat} {x : Hd}, n ≤ i → lfM n (H.set i x) = lfM n H := by
 induction n with
 | zero => intros; rfl
 | succ n ih =>
  intro H i x h
  simp only [lfM]
  rw [ih (by omega)]
  congr 2
  unfold gH
  rw [List.getElem?_set_ne (by omega)]
theorem lf_set : ∀ {n : Nat} {H : List Hd} {i : Nat} {x : Hd}, i < n → i < H.length → lfM n (H.set i x) + (gH H i).1.length = lfM n H + x.1.length
 | 0, H, i, x, h, _ => by omega
 | n + 1, H, i, x, h, hl => by
   simp only [lfM]
   by_cases e : i = n
   ·subst e
    rw [lf_far (Nat.le_refl _), gH_set hl, if_pos rfl]
    omega
   ·have := lf_set (n := n) (x := x) (show i < n by omega) hl
    rw [gH_set hl, if_neg (by omega)]
    omega
theorem lf_sw {n : Nat} {H : List Hd} {i m : Nat} (hi : i < n) (hm : m < n) (hl : n ≤ H.length) : lfM n (swH H i m) = lfM n H := by
 unfold swH
 have h1 := lf_set (H := H) (x := gH H m) hi (by omega)
 have h2 := lf_set (H := H.set i (gH H m)) (x := gH H i) hm (by simp; omega)
 rw [gH_set (by omega)] at h2
 split at h2 <;> omega
theorem lf_dn {n : Nat} : ∀ (f : Nat) (H : List Hd) (i : Nat), n ≤ H.length → lfM n (dnH f H n i) = lfM n H
 | 0, H, i, hl => rfl
 | f + 1, H, i, hl => by
   simp only [dnH]
   rcases l2H_cases H n i with ⟨e, h⟩ | ⟨m, e, hm, hc, h1, h2⟩
   ·rw [decide_eq_true e, cond_true]
   ·rw [e, decide_eq_false (by omega), cond_false, lf_dn f _ m (by rw [swH_len]; exact hl), lf_sw (by omega) hm hl]
theorem lf_pop {H : List Hd} {n : Nat} (hl : n ≤ H.length) (hn : 0 < n) (hne : (gH H 0).1 ≠ []) : lfM (popH H n).2 (popH H n).1 + 1 = lfM n H := by
 obtain ⟨p, rest, e⟩ := List.exists_cons_of_ne_nil hne
 have h1 := lf_set (n := n) (H := H) (i := 0) (x := ((gH H 0).1.drop 1, (gH H 0).2)) hn (by omega)
 rw [e] at h1
 simp only [List.drop_succ_cons, List.drop_zero, List.length_cons] at h1
 by_cases h : (gH H 0).1.drop 1 = []
 ·have hpop : popH H n = ((H.set 0 ((gH H 0).1.drop 1, (gH H 0).2)).set 0 (gH (H.set 0 ((gH H 0).1.drop 1, (gH H 0).2)) (n - 1)), n - 1) := by
   unfold popH
   obtain ⟨⟨l, a⟩, e2⟩ : ∃ x, gH H 0 = x := ⟨_, rfl⟩
   rw [e2] at h ⊢
   simp only at h ⊢
   rw [h]
   rfl
  rw [hpop]
  simp only
  rw [e] at h ⊢
  simp only [List.drop_succ_cons, List.drop_zero] at h ⊢
  subst h
  obtain ⟨H1, hH1⟩ : ∃ H1, H.set 0 ([], (gH H 0).2) = H1 := ⟨_, rfl⟩
  rw [hH1] at h1 ⊢
  have g0 : gH H1 0 = ([], (gH H 0).2) := by rw [← hH1, gH_set (by omega), if_pos rfl]
  have l1 : H1.length = H.length := by rw [← hH1]; simp
  obtain ⟨m, rfl⟩ : ∃ m, n = m + 1 := ⟨n - 1, by omega⟩
  simp only [Nat.add_sub_cancel] at *
  rcases Nat.eq_zero_or_pos m with rfl | hm
  ·simp only [lfM, g0, List.length_nil] at h1 ⊢
   omega
  ·have h2 := lf_set (n := m) (H := H1) (i := 0) (x := gH H1 m) hm (by omega)
   rw [g0] at h2
   simp only [List.length_nil] at h2
   simp only [lfM] at h1 ⊢
   omega
 ·have hpop : popH H n = (H.set 0 ((gH H 0).1.drop 1, (gH H 0).2), n) := by
   unfold popH
   obtain ⟨⟨l, a⟩, e2⟩ : ∃ x, gH H 0 = x := ⟨_, rfl⟩
   rw [e2] at h ⊢
   simp only at h ⊢
   have : (l.drop 1).isEmpty = false := by
    cases hh : l.drop 1 with
    | nil => exact absurd hh h
    | cons x y => rfl
   rw [this]
   rfl
  rw [hpop]
  simp only
  rw [e]
  simp only [List.drop_succ_cons, List.drop_zero]
  omega
theorem lf_st {drop : Bool} {s : MSt} (hl : s.n ≤ s.H.length) (hn : 0 < s.n) (hne : (gH s.H 0).1 ≠ []) : lfM (stM drop s).n (stM drop s).H + 1 = lfM s.n s.H := by
 have h := lf_pop hl hn hne
 have P := (pop_is hl hn).l
 unfold stM
 obtain ⟨H1, n1, e⟩ : ∃ H1 n1, popH s.H s.n = (H1, n1) := ⟨_, _, rfl⟩
 rw [e] at h P ⊢
 simp only at h P ⊢
 rw [lf_dn n1 H1 0 P]
 exact h
theorem run_end {L : List (List Pr)} {drop : Bool} (hA : ∀ a, asc (gL L a) = true) : ∀ (f : Nat) (s : MSt), MInv L drop s → lfM s.n s.H ≤ f → MInv L drop (runM drop f s) ∧ (runM drop f s).n = 0
 | 0, s, I, hf => by
   refine ⟨I, ?_⟩
   rcases Nat.eq_zero_or_pos s.n with h | h
   ·exact h
   ·exfalso
    have h1 := (I.el 0 h).1
    have h2 := lf_pop I.hl h h1
    omega
 | f + 1, s, I, hf => by
   simp only [runM]
   by_cases h : s.n = 0
   ·rw [decide_eq_true h, cond_true]; exact ⟨I, h⟩
   ·rw [decide_eq_false h, cond_false]
    have := lf_st (drop := drop) I.hl (by omega) (I.el 0 (by omega)).1
    exact run_end hA f _ (stM_inv I hA (by omega)) (by omega)
def mgOut (drop : Bool) (L : List (List Pr)) : List Pr := (runM drop (lfM (mgS0 L).n (mgS0 L).H) (mgS0 L)).out
theorem mgOut_is {L : List (List Pr)} (drop : Bool) (hA : ∀ a, asc (gL L a) = true) : asc (mgOut drop L) = true ∧ ∀ k, fnL (mgOut drop L) k = flt drop (fnd L k) := by
 obtain ⟨h1, h2⟩ := run_end hA _ _ (mgS0_inv L drop) (Nat.le_refl _)
 exact inv_end h1 h2
theorem asc_ext : ∀ {a b : List Pr}, asc a = true → asc b = true → (∀ k, fnL a k = fnL b k) → a = b
 | [], [], _, _, _ => rfl
 | [], q :: b, _, _, h => by
   have := h q.1
   simp [fnL] at this
 | p :: a, [], _, _, h => by
   have := h p.1
   simp [fnL] at this
 | p :: a, q :: b, ha, hb, h => by
   have h1 := h p.1
   rw [fnL_asc ha (List.mem_cons_self ..)] at h1
   have h2 := h q.1
   rw [fnL_asc hb (List.mem_cons_self ..)] at h2
   obtain ⟨m1, _⟩ := fnL_mem h1.symm
   obtain ⟨m2, _⟩ := fnL_mem h2
   have e : p = q := by
    rcases List.mem_cons.1 m1 with e | m1
    ·exact e
    ·rcases List.mem_cons.1 m2 with e | m2
     ·exact e.symm
     ·have k1 := asc_all hb p m1
      have k2 := asc_all ha q m2
      rw [ltK_asym k1] at k2
      cases k2
   subst e
   rw [asc_ext (asc_tail ha) (asc_tail hb) fun k => ?_]
   have h3 := h k
   by_cases e : p.1 = k
   ·subst e
    rw [fnL_none fun q hq e2 => ?_, fnL_none fun q hq e2 => ?_]
    ·have := asc_all hb q hq; rw [e2, ltK_irr] at this; cases this
    ·have := asc_all ha q hq; rw [e2, ltK_irr] at this; cases this
   ·unfold fnL at h3 ⊢
    rwa [List.find?_cons_of_neg (by simpa using e), List.find?_cons_of_neg (by simpa using e)] at h3
theorem dw_tri {P : Program} {f : FuncId} {h h' : Hp} {nx nx' m n sz : Nat} {d : List Nat} {z vs0 : List Value} {ds ds' : List DV} {v : Value} (hl : lk h m = some ⟨.dw sz z ds, []⟩) (hv0 : ∀ σ, renL σ vs0 = some vs0) (hv : ∀ σ, renV σ v = some v)
  (T : Tri P f (.slice (some ⟨0, 0, none⟩) n (capBig + 0) :: vs0) [(0, ⟨.dw sz z ds, []⟩)] 1 (v, h', nx', d)) (hl' : lk h' 0 = some ⟨.dw sz z ds', []⟩) :
  Tri P f (.slice (some ⟨m, 0, none⟩) n (capBig + m) :: vs0) h nx (v, setH h m ⟨.dw sz z ds', []⟩, nx, [m]) := by
 refine ⟨tidy_set hl, fun hB W σ w args' hR hfr ha => ?_⟩
 have hown : (⟨.dw sz z ds, []⟩ : Rw).own := fun e => by cases e
 obtain ⟨b, s, vs, hb, hvs, q0, rfl, hge, q3, us, t, rest, c, hc, hw, hlen, hcm, hrz, hds⟩ := hR.row m _ hl
 subst q3
 obtain ⟨x1, l1, e1, e2, rfl⟩ := renL_cons ha
 rw [hv0 σ] at e2
 cases e2
 have h3 : cpR σ (capBig + m) = some c := by rw [cpR_big]; exact hc
 rcases renV_slice e1 with ⟨p, c', hb', hcp, rfl, hnn⟩ | ⟨hnn, _, _, _⟩
 case inr => exact (hR.shr.1 m _ hl hown hnn).elim
 rw [hb] at hb'
 cases hb'
 rw [h3] at hcp
 cases hcp
 have hnc := renV_len hR.wf e1
 obtain ⟨σ0, hσ0⟩ : ∃ σ0 : Sg, σ0 = ⟨fun k => if k = 0 then some (b, 0) else none, fun k => if k = 0 then some c else none, fun _ => some ([], []), fun _ => none, true⟩ := ⟨_, rfl⟩
 have s0 : σ0.b 0 = some (b, 0) := by subst hσ0; rfl
 have c0 : σ0.c 0 = some c := by subst hσ0; rfl
 have sn : ∀ k, k ≠ 0 → σ0.b k = none ∧ σ0.c k = none := fun k hk => by subst hσ0; simp [hk]
 have shn : ∀ k, sh σ0 k = [] := fun k => by subst hσ0; rfl
 have exn : ∀ k, ex σ0 k = [] := fun k => by subst hσ0; rfl
 have cl0 : ∀ k r, lk [(0, (⟨.dw sz z ds, []⟩ : Rw))] k = some r → k = 0 ∧ r = ⟨.dw sz z ds, []⟩ := fun k r hk => by
  rw [lk_cons] at hk
  split at hk
  ·rename_i e; cases hk; exact ⟨e.symm, rfl⟩
  ·cases hk
 have hR0 : Rl W σ0 [(0, ⟨.dw sz z ds, []⟩)] w := by
  refine ⟨⟨hR.ext, fun k r hk => ?_, fun k j r1 r2 p q hk hj _ _ _ _ _ => ?_⟩, by subst hσ0; rfl, fun k r hk ho => (by subst hσ0; intro e; cases e), fun k r x hk hx => (by rw [shn] at hx; cases hx), fun k r x hk hx => (by rw [exn] at hx; cases hx)⟩
  ·obtain ⟨rfl, rfl⟩ := cl0 k r hk
   exact ⟨b, 0, [], s0, rfl, shn 0, rfl, hge, rfl, us, t, rest, c, c0, hw, hlen, hcm, hrz, hds⟩
  ·rw [(cl0 k r1 hk).1, (cl0 j r2 hj).1]
 have ha0 : renL σ0 (.slice (some ⟨0, 0, none⟩) n (capBig + 0) :: vs0) = some (.slice (some ⟨b, 0 + 0, none⟩) n c :: vs0) := by
  simp only [renL]
  rw [renV_slice_mk (o := 0) (l := n) s0 (by rw [cpR_big]; exact c0) (by subst hσ0; intro e; cases e) (.inr hnc), hv0 σ0]
 have hB0 : Bd [(0, (⟨.dw sz z ds, []⟩ : Rw))] 1 := fun k hk => by rw [lk_cons, if_neg (by omega)]; rfl
 refine (T.2 hB0 W σ0 w _ hR0 (fun k h1 _ => sn k (by omega)) ha0).mono ?_
 rintro e w' ⟨σ', v', S, hv', rfl⟩
 simp only at S hv'
 rw [hv σ'] at hv'
 cases hv'
 have s0' := S.le.1 _ _ s0
 have c0' := S.le.2.1 _ _ c0
 obtain ⟨b2, s2, vs2, q1, q2, g0, g1, g2, g3, us2, t2, rest2, c2, g4, g5, g6, g7, g8, g9⟩ := S.rl.row _ _ hl'
 rw [s0'] at q1
 cases q1
 rw [c0'] at g4
 cases g4
 have keep : ∀ b', b' < w.heap.size → b' ≠ b → w'.heap[b']? = w.heap[b']? := fun b' h1 h2 => S.fr b' h1 (fun k r1 p1 hk1 _ hp1 => by
  obtain ⟨rfl, _⟩ := cl0 k r1 hk1
  rw [s0] at hp1
  cases hp1
  exact Ne.symm h2) fun k r1 _ hx => by rw [exn] at hx; cases hx
 have hd : ∀ k s, lk (setH h m ⟨.dw sz z ds', []⟩) k = some s → (k = m ∧ s = ⟨.dw sz z ds', []⟩) ∨ (lk h k = some s ∧ k ≠ m) := fun k s e => by
  rw [lk_setH] at e
  split at e
  ·rename_i hm; cases e; exact .inl ⟨hm.symm, rfl⟩
  ·rename_i hne; exact .inr ⟨e, Ne.symm hne⟩
 have conv : ∀ k s, lk (setH h m ⟨.dw sz z ds', []⟩) k = some s → s.own → ∃ s', lk h k = some s' ∧ s'.own := fun k s e hs => by
  rcases hd k s e with ⟨rfl, _⟩ | ⟨e, _⟩
  ·exact ⟨_, hl, hown⟩
  ·exact ⟨s, e, hs⟩
 refine ⟨σ, v, Stp0.up ⟨Sg.le.refl σ, fun _ _ => ⟨rfl, rfl⟩, ⟨S.rl.ext, fun k s e => ?_, fun k j s t p q a b hs ht c d e => ?_⟩,
  S.size, fun b' hb' hno _ => keep b' hb' fun e => hno m _ (b, 0) hl hown hb e.symm, fun k s q e hs hq => ?_⟩ hR.shr hR.wf (setH_shr hR.shr hl hown), hv σ, rfl⟩
 ·rcases hd k s e with ⟨rfl, rfl⟩ | ⟨e, hne⟩
  ·exact ⟨b, 0, [], hb, rfl, q0, rfl, hge, rfl, us2, t2, rest2, c, hc, g5, g6, g7, g8, g9⟩
  ·exact hR.keepV hl hown hb e hne (Sg.le.refl σ) keep
 ·obtain ⟨s', a', hs'⟩ := conv k s a hs
  obtain ⟨t', b', ht'⟩ := conv j t b ht
  exact hR.inj k j s' t' p q a' b' hs' ht' c d e
 ·obtain ⟨s', a', hs'⟩ := conv k s e hs
  exact .inr ⟨k, s', q, a', hs', hq, rfl⟩
abbrev WSpec := Nat → List DV → List Value → Option (List DV × List Prop)
def WOk (P : Program) (f0 : FuncId) (sz : Nat) (z : List Value) (G : WSpec) : Prop := ∀ n ds vs0 ds' ob, G n ds vs0 = some (ds', ob) → Alls ob → (∀ σ, renL σ vs0 = some vs0) ∧ ∃ h' nx' d, Tri P f0 (.slice (some ⟨0, 0, none⟩) n (capBig + 0) :: vs0) [(0, ⟨.dw sz z ds, []⟩)] 1 (.tuple ⟨[]⟩, h', nx', d) ∧ lk h' 0 = some ⟨.dw sz z ds', []⟩
def mkW (f0 : FuncId) (sz : Nat) (z : List Value) (G : WSpec) : TFun := fun f args h nx tp => bif Nat.beq f f0 then some (match args with
 | .slice (some ⟨m, 0, none⟩) n c :: vs0 => (match lk h m with
  | some ⟨.dw sz' z' ds, []⟩ => bif Nat.beq sz' sz && beqZL z' z then (match G n ds vs0 with
   | some (ds', ob) => .ok ((.tuple ⟨[]⟩, setH h m ⟨.dw sz z ds', []⟩, nx, [m]), tp, (c = capBig + m) :: ob)
   | none => .no) else .no
  | _ => .no)
 | _ => .no) else none
theorem mkW_ok {P : Program} {f0 : FuncId} {sz : Nat} {z : List Value} {G : WSpec} (H : WOk P f0 sz z G) : TOneZ P (mkW f0 sz z G) := fun f args h nx tp out tp' ob e ho => by
 unfold mkW at e
 rcases bif_or e with ⟨hf, e1⟩ | ⟨_, e1⟩
 case inr => cases e1
 clear e
 obtain rfl := Nat.eq_of_beq_eq_true hf
 have e := Option.some.inj e1
 clear e1
 split at e
 case h_2 => cases e
 rename_i m n c vs0
 split at e
 case h_2 => cases e
 rename_i sz' z' ds hl
 obtain ⟨hg, e⟩ := bif_ok e
 simp only [Bool.and_eq_true] at hg
 obtain ⟨hg1, hg2⟩ := hg
 obtain rfl := Nat.eq_of_beq_eq_true hg1
 obtain rfl := beqZL_ok hg2
 split at e
 case h_2 => cases e
 rename_i ds' ob' hG
 simp only [Res.ok.injEq, pI] at e
 obtain ⟨rfl, rfl, rfl⟩ := e
 obtain ⟨rfl, ho⟩ := ho
 obtain ⟨hv0, h', nx', d, T, hl'⟩ := H _ _ _ _ _ hG ho
 exact dw_tri hl hv0 (fun σ => rfl) T hl'
end Go.Proofs.Ytmoflcoijmmpjaa
