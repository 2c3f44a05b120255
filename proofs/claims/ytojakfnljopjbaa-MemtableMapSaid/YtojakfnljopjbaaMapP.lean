/-
  Chapter 12: a table is a plain map (plain laws).
-/
import Derived.Test.YtojakfnljopjbaaPtP
namespace Go.Proofs.Ytojakfnljopjbaa
set_option linter.unusedSimpArgs false
set_option linter.unusedVariables false
set_option linter.unusedSectionVars false
open Go Go.RowKit
/-- What is laid of a pair: a mark has no value. -/
def clP (p : Pr) : Pr := bif p.2.2 then (p.1, [], true) else (p.1, p.2.1, false)
def okL (ts : List Pr) (p : Pr) : Bool := okK p && (hitP ts p.1 || !decide (64 ≤ ts.length))
abbrev MSt : Type := List Pr × List Pr
def stP (s : MSt) (p : Pr) : MSt := (layP s.1 (clP p), bif okL s.1 (clP p) then s.2 ++ [clP p] else s.2)
def stepL (k : List Int) (o : Option Pr) (p : Pr) : Option Pr := bif decide (p.1 = k) then some p else o
/-- The last one of a key. -/
def lastL (ls : List Pr) (k : List Int) : Option Pr := ls.foldl (stepL k) none
def fndT (ts : List Pr) (k : List Int) : Option Pr := bif hitP ts k then some (atP ts k) else none
theorem uniq_key {ts : List Pr} (ha : asc ts = true) : ∀ p ∈ ts, ∀ q ∈ ts, p.1 = q.1 → p = q := by
  induction ts with
  | nil => intro p hp; cases hp
  | cons x ts ih =>
    have h1 := asc_all ha
    intro p hp q hq e
    rcases List.mem_cons.1 hp with hp1 | hp1 <;> rcases List.mem_cons.1 hq with hq1 | hq1
    · rw [hp1, hq1]
    · subst hp1; have := h1 q hq1; rw [e, ltK_irr] at this; cases this
    · subst hq1; have := h1 p hp1; rw [← e, ltK_irr] at this; cases this
    · exact ih (asc_tail ha) p hp1 q hq1 e
theorem fnd_iff {ts : List Pr} {k : List Int} (ha : asc ts = true) (q : Pr) : fndT ts k = some q ↔ q ∈ ts ∧ q.1 = k := by
  unfold fndT
  constructor
  · intro h
    cases hh : hitP ts k with
    | false => rw [hh] at h; cases h
    | true =>
      rw [hh] at h
      obtain ⟨g1, g2, g3⟩ := atP_hit hh
      cases h
      exact ⟨List.mem_of_getElem? g1, g2⟩
  · rintro ⟨h1, h2⟩
    have hh : hitP ts k = true := (hit_iff ha).2 ⟨q, h1, h2⟩
    obtain ⟨g1, g2, g3⟩ := atP_hit hh
    rw [hh]
    show some _ = _
    rw [uniq_key ha _ (List.mem_of_getElem? g1) q h1 (g2.trans h2.symm)]
theorem mem_ins {ts : List Pr} {p q : Pr} : q ∈ insP ts p ↔ q = p ∨ q ∈ ts := by
  unfold insP
  have : q ∈ ts ↔ q ∈ ts.take (lbP ts p.1) ∨ q ∈ ts.drop (lbP ts p.1) := by
    rw [← List.mem_append, List.take_append_drop]
  rw [List.mem_append, List.mem_cons, this]
  constructor
  · rintro (h | h | h)
    · exact .inr (.inl h)
    · exact .inl h
    · exact .inr (.inr h)
  · rintro (h | h | h)
    · exact .inr (.inl h)
    · exact .inl h
    · exact .inr (.inr h)
theorem mem_set {ts : List Pr} {p q : Pr} (ha : asc ts = true) (hh : hitP ts p.1 = true) : q ∈ setP ts p ↔ q = p ∨ (q ∈ ts ∧ q.1 ≠ p.1) := by
  obtain ⟨e1, e2, e3⟩ := atP_hit hh
  have hd : ts.drop (lbP ts p.1) = atP ts p.1 :: ts.drop (lbP ts p.1 + 1) := by
    rw [List.drop_eq_getElem_cons e3]
    congr 1
    have := List.getElem?_eq_getElem e3
    rw [e1] at this
    exact (Option.some.inj this).symm
  have hpw := asc_pw.1 ha
  have hs : ts.take (lbP ts p.1) ++ ts.drop (lbP ts p.1) = ts := List.take_append_drop _ _
  rw [hd] at hs
  rw [← hs] at hpw
  obtain ⟨s1, s2, s3⟩ := List.pairwise_append.1 hpw
  obtain ⟨s4, s5⟩ := List.pairwise_cons.1 s2
  have hm : q ∈ ts ↔ q ∈ ts.take (lbP ts p.1) ∨ q = atP ts p.1 ∨ q ∈ ts.drop (lbP ts p.1 + 1) := by
    have : q ∈ ts ↔ q ∈ ts.take (lbP ts p.1) ++ atP ts p.1 :: ts.drop (lbP ts p.1 + 1) := by rw [hs]
    rw [this, List.mem_append, List.mem_cons]
  unfold setP
  rw [List.mem_append, List.mem_cons, hm]
  constructor
  · rintro (h | h | h)
    · refine .inr ⟨.inl h, fun e => ?_⟩
      have := s3 q h _ (List.mem_cons_self ..)
      rw [e2, e, ltK_irr] at this; cases this
    · exact .inl h
    · refine .inr ⟨.inr (.inr h), fun e => ?_⟩
      have := s4 q h
      rw [e2, e, ltK_irr] at this; cases this
  · rintro (h | ⟨h | h | h, hne⟩)
    · exact .inr (.inl h)
    · exact .inl h
    · subst h; exact absurd e2 hne
    · exact .inr (.inr h)
theorem opt_ext {a b : Option Pr} (h : ∀ q, a = some q ↔ b = some q) : a = b := by
  cases a with
  | none =>
    cases b with
    | none => rfl
    | some q => have := (h q).2 rfl; cases this
  | some q => exact ((h q).1 rfl).symm
theorem fnd_ins {ts : List Pr} {p : Pr} {k : List Int} (h1 : asc ts = true) (h2 : asc (insP ts p) = true) : fndT (insP ts p) k = stepL k (fndT ts k) p := by
  refine opt_ext fun q => ?_
  rw [fnd_iff h2, mem_ins]
  unfold stepL
  by_cases hk : p.1 = k
  · rw [decide_eq_true hk]
    simp only [cond_true, Option.some.injEq]
    constructor
    · rintro ⟨h, e⟩
      exact (uniq_key h2 p (mem_ins.2 (.inl rfl)) q (mem_ins.2 h) (hk.trans e.symm))
    · rintro rfl; exact ⟨.inl rfl, hk⟩
  · rw [decide_eq_false hk]
    simp only [cond_false]
    rw [fnd_iff h1]
    constructor
    · rintro ⟨rfl | h, e⟩
      · exact absurd e hk
      · exact ⟨h, e⟩
    · rintro ⟨h, e⟩; exact ⟨.inr h, e⟩
theorem fnd_set {ts : List Pr} {p : Pr} {k : List Int} (h1 : asc ts = true) (h2 : asc (setP ts p) = true) (hh : hitP ts p.1 = true) : fndT (setP ts p) k = stepL k (fndT ts k) p := by
  refine opt_ext fun q => ?_
  rw [fnd_iff h2, mem_set h1 hh]
  unfold stepL
  by_cases hk : p.1 = k
  · rw [decide_eq_true hk]
    simp only [cond_true, Option.some.injEq]
    constructor
    · rintro ⟨h | ⟨_, hne⟩, e⟩
      · exact h.symm
      · exact absurd (e.trans hk.symm) hne
    · rintro rfl; exact ⟨.inl rfl, hk⟩
  · rw [decide_eq_false hk]
    simp only [cond_false]
    rw [fnd_iff h1]
    constructor
    · rintro ⟨rfl | ⟨h, _⟩, e⟩
      · exact absurd e hk
      · exact ⟨h, e⟩
    · rintro ⟨h, e⟩; exact ⟨.inr ⟨h, fun e2 => hk (e2.symm.trans e)⟩, e⟩
/-- What holds of a table and of what was laid. -/
structure Mi (s : MSt) : Prop where
  T : Ti s.1
  o : ∀ p ∈ s.2, PrOk p
  k : ∀ p ∈ s.2, PkOk p
  e : s.1 = [] ↔ s.2 = []
  l : s.1.length ≤ s.2.length
  f : ∀ k, fndT s.1 k = lastL s.2 k
theorem Mi.nil : Mi ([], []) := ⟨Ti.nil, fun p h => (by cases h), fun p h => (by cases h), ⟨fun _ => rfl, fun _ => rfl⟩, Nat.le_refl _, fun k => rfl⟩
theorem clP_ok {p : Pr} (h : PrOk p) : PrOk (clP p) := by
  unfold clP
  cases p.2.2 with
  | true => exact ⟨h.1, fun x hx => by cases hx⟩
  | false => exact h
theorem Mi.step {s : MSt} {p : Pr} (h : Mi s) (hp : PrOk p) : Mi (stP s p) := by
  obtain ⟨ts, ls⟩ := s
  have hc := clP_ok hp
  unfold stP
  simp only
  generalize clP p = q at hc ⊢
  have same : okL ts q = false → layP ts q = ts := fun e => by
    unfold layP
    unfold okL at e
    cases h1 : okK q with
    | false => rfl
    | true =>
      rw [h1, Bool.true_and, Bool.or_eq_false_iff] at e
      have e2 : decide (64 ≤ ts.length) = true := by simpa using e.2
      rw [e.1, e2]; rfl
  cases hk : okL ts q with
  | false => rw [same hk]; exact h
  | true =>
    simp only [cond_true]
    have hT2 := h.T.lay hc
    unfold okL at hk
    rw [Bool.and_eq_true] at hk
    obtain ⟨k1, k2⟩ := hk
    obtain ⟨a1, a2, a3⟩ := okK_iff.1 k1
    have hne : layP ts q ≠ [] ∧ (layP ts q).length ≤ ts.length + 1 ∧ ∀ k, fndT (layP ts q) k = stepL k (fndT ts k) q := by
      cases hh : hitP ts q.1 with
      | true =>
        have e : layP ts q = setP ts q := by unfold layP; rw [k1, hh]; rfl
        rw [e] at hT2 ⊢
        refine ⟨by unfold setP; simp, ?_, fun k => fnd_set h.T.a hT2.a hh⟩
        unfold setP
        rw [List.length_append, List.length_cons, List.length_take, List.length_drop]; omega
      | false =>
        rw [hh, Bool.false_or] at k2
        have hm : decide (64 ≤ ts.length) = false := by simpa using k2
        have e : layP ts q = insP ts q := by unfold layP; rw [k1, hh, hm]; rfl
        rw [e] at hT2 ⊢
        refine ⟨by unfold insP; simp, ?_, fun k => fnd_ins h.T.a hT2.a⟩
        unfold insP
        rw [List.length_append, List.length_cons, List.length_take, List.length_drop]; omega
    refine ⟨hT2, fun x hx => ?_, fun x hx => ?_, ⟨fun e => absurd e hne.1, fun e => absurd e (by simp)⟩, ?_, fun k => ?_⟩
    · rcases List.mem_append.1 hx with hx | hx
      · exact h.o x hx
      · rw [List.mem_singleton.1 hx]; exact hc
    · rcases List.mem_append.1 hx with hx | hx
      · exact h.k x hx
      · rw [List.mem_singleton.1 hx]; exact ⟨a1, by omega, by omega⟩
    · have h1 := hne.2.1
      have h2 := h.l
      simp only at h2 ⊢
      rw [List.length_append, List.length_singleton]
      omega
    · show fndT (layP ts q) k = lastL (ls ++ [q]) k
      rw [hne.2.2 k, show fndT ts k = lastL ls k from h.f k]
      unfold lastL
      rw [List.foldl_append]
      rfl
theorem Mi.fold : ∀ {ps : List Pr} {s : MSt}, (∀ p ∈ ps, PrOk p) → Mi s → Mi (ps.foldl stP s)
  | [], s, _, h => h
  | p :: ps, s, ho, h => Mi.fold (ps := ps) (s := stP s p) (fun q hq => ho q (List.mem_cons_of_mem _ hq)) (h.step (ho p (List.mem_cons_self ..)))
theorem last_some : ∀ {ls : List Pr} {p : Pr} {o : Option Pr}, p ∈ ls → ls.foldl (stepL p.1) o ≠ none
  | q :: ls, p, o, hp => by
      have keep : ∀ (l : List Pr) (o : Option Pr), o ≠ none → l.foldl (stepL p.1) o ≠ none := by
        intro l
        induction l with
        | nil => intro o h; exact h
        | cons x l ih =>
          intro o h
          refine ih _ ?_
          unfold stepL
          cases decide (x.1 = p.1) with
          | true => simp
          | false => exact h
      rcases List.mem_cons.1 hp with rfl | hp
      · refine keep ls _ ?_
        unfold stepL
        simp
      · exact last_some (ls := ls) (o := stepL p.1 o q) hp
theorem Mi.hit {s : MSt} (h : Mi s) {p : Pr} (hp : p ∈ s.2) : hitP s.1 p.1 = true := by
  have h1 := h.f p.1
  cases hh : hitP s.1 p.1 with
  | true => rfl
  | false =>
    unfold fndT at h1
    rw [hh] at h1
    exact absurd h1.symm (last_some hp)
end Go.Proofs.Ytojakfnljopjbaa
