/-
  Chapter 12: tables as sorted lists: what a call of Put makes of them (plain laws).
-/
import Derived.Test.YtojakfnljopjbaaTbS
import Derived.Test.YtojakfnljopjbaaInsD
namespace Go.Proofs.Ytojakfnljopjbaa
set_option linter.unusedSimpArgs false
set_option linter.unusedVariables false
set_option linter.unusedSectionVars false
open Go Go.RowKit
theorem asc_pw : ∀ {ps : List Pr}, asc ps = true ↔ ps.Pairwise (fun p q => ltK p.1 q.1 = true)
  | [] => by simp [asc]
  | p :: ps => by
      constructor
      · intro h
        exact List.pairwise_cons.2 ⟨asc_all h, asc_pw.1 (asc_tail h)⟩
      · intro h
        obtain ⟨h1, h2⟩ := List.pairwise_cons.1 h
        have h3 := asc_pw.2 h2
        cases ps with
        | nil => rfl
        | cons q l =>
          show (ltK p.1 q.1 && asc (q :: l)) = true
          rw [h1 q (List.mem_cons_self ..), h3]
          rfl
def insP (ts : List Pr) (p : Pr) : List Pr := ts.take (lbP ts p.1) ++ p :: ts.drop (lbP ts p.1)
def setP (ts : List Pr) (p : Pr) : List Pr := ts.take (lbP ts p.1) ++ p :: ts.drop (lbP ts p.1 + 1)
def okK (p : Pr) : Bool := decide (1 ≤ p.1.length) && (decide (p.1.length ≤ 32) && decide (p.2.1.length ≤ 128))
/-- A pair is laid. -/
def layP (ts : List Pr) (p : Pr) : List Pr := bif okK p then (bif hitP ts p.1 then setP ts p else bif decide (64 ≤ ts.length) then ts else insP ts p) else ts
structure Ti (ts : List Pr) : Prop where
  a : asc ts = true
  o : ∀ p ∈ ts, PrOk p
  k : ∀ p ∈ ts, PkOk p
  m : ts.length ≤ 64
theorem Ti.nil : Ti [] := ⟨rfl, fun p h => (by cases h), fun p h => (by cases h), by simp⟩
theorem lb_ge {ps : List Pr} {k : List Int} (ha : asc ps = true) : ∀ p ∈ ps.drop (lbP ps k), ltK p.1 k = false := fun p hp => by
  obtain ⟨i, hi, e⟩ := List.mem_iff_getElem.1 hp
  rw [List.length_drop] at hi
  have : ps[lbP ps k + i]? = some p := by rw [← e, List.getElem_drop]; exact List.getElem?_eq_getElem (by omega)
  cases h : ltK p.1 k with
  | false => rfl
  | true => have := (lb_at ha this).1 h; omega
theorem okK_iff {p : Pr} : okK p = true ↔ 1 ≤ p.1.length ∧ p.1.length ≤ 32 ∧ p.2.1.length ≤ 128 := by unfold okK; simp
theorem Ti.ins {ts : List Pr} {p : Pr} (h : Ti ts) (hp : PrOk p) (hk : okK p = true) (hh : hitP ts p.1 = false) (hm : ts.length < 64) : Ti (insP ts p) := by
  have hle := lb_le ts p.1
  obtain ⟨k1, k2, k3⟩ := okK_iff.1 hk
  have hmem : ∀ q, q ∈ insP ts p → q = p ∨ q ∈ ts := fun q hq => by
    unfold insP at hq
    rcases List.mem_append.1 hq with hq | hq
    · exact .inr (List.mem_of_mem_take hq)
    · rcases List.mem_cons.1 hq with rfl | hq
      · exact .inl rfl
      · exact .inr (List.mem_of_mem_drop hq)
  refine ⟨?_, fun q hq => ?_, fun q hq => ?_, ?_⟩
  · rw [asc_pw]
    unfold insP
    have hpw := asc_pw.1 h.a
    have hsplit : (ts.take (lbP ts p.1) ++ ts.drop (lbP ts p.1)).Pairwise (fun p q => ltK p.1 q.1 = true) := by rw [List.take_append_drop]; exact hpw
    obtain ⟨s1, s2, s3⟩ := List.pairwise_append.1 hsplit
    refine List.pairwise_append.2 ⟨s1, List.pairwise_cons.2 ⟨fun q hq => ?_, s2⟩, fun a ha b hb => ?_⟩
    · have g1 := lb_ge h.a q hq
      cases g2 : ltK p.1 q.1 with
      | true => rfl
      | false =>
        have := ltK_tot g1 g2
        have : hitP ts p.1 = true := (hit_iff h.a).2 ⟨q, List.mem_of_mem_drop hq, this⟩
        rw [hh] at this; cases this
    · rcases List.mem_cons.1 hb with rfl | hb
      · exact lb_drop h.a a ha
      · exact s3 a ha b hb
  · rcases hmem q hq with rfl | hq
    · exact hp
    · exact h.o q hq
  · rcases hmem q hq with rfl | hq
    · exact ⟨k1, by omega, by omega⟩
    · exact h.k q hq
  · unfold insP
    rw [List.length_append, List.length_cons, List.length_take, List.length_drop]
    omega
theorem Ti.set {ts : List Pr} {p : Pr} (h : Ti ts) (hp : PrOk p) (hk : okK p = true) (hh : hitP ts p.1 = true) : Ti (setP ts p) := by
  obtain ⟨e1, e2, e3⟩ := atP_hit hh
  obtain ⟨k1, k2, k3⟩ := okK_iff.1 hk
  have hmem : ∀ q, q ∈ setP ts p → q = p ∨ q ∈ ts := fun q hq => by
    unfold setP at hq
    rcases List.mem_append.1 hq with hq | hq
    · exact .inr (List.mem_of_mem_take hq)
    · rcases List.mem_cons.1 hq with rfl | hq
      · exact .inl rfl
      · exact .inr (List.mem_of_mem_drop hq)
  have hd : ts.drop (lbP ts p.1) = atP ts p.1 :: ts.drop (lbP ts p.1 + 1) := by
    rw [List.drop_eq_getElem_cons e3]
    congr 1
    have := List.getElem?_eq_getElem e3
    rw [e1] at this
    exact (Option.some.inj this).symm
  refine ⟨?_, fun q hq => ?_, fun q hq => ?_, ?_⟩
  · rw [asc_pw]
    unfold setP
    have hsplit : (ts.take (lbP ts p.1) ++ ts.drop (lbP ts p.1)).Pairwise (fun p q => ltK p.1 q.1 = true) := by rw [List.take_append_drop]; exact asc_pw.1 h.a
    rw [hd] at hsplit
    obtain ⟨s1, s2, s3⟩ := List.pairwise_append.1 hsplit
    obtain ⟨s4, s5⟩ := List.pairwise_cons.1 s2
    refine List.pairwise_append.2 ⟨s1, List.pairwise_cons.2 ⟨fun q hq => ?_, s5⟩, fun a ha b hb => ?_⟩
    · have := s4 q hq; rw [e2] at this; exact this
    · rcases List.mem_cons.1 hb with rfl | hb
      · exact lb_drop h.a a ha
      · exact s3 a ha b (List.mem_cons_of_mem _ hb)
  · rcases hmem q hq with rfl | hq
    · exact hp
    · exact h.o q hq
  · rcases hmem q hq with rfl | hq
    · exact ⟨k1, by omega, by omega⟩
    · exact h.k q hq
  · have := h.m
    unfold setP
    rw [List.length_append, List.length_cons, List.length_take, List.length_drop]
    omega
theorem Ti.lay {ts : List Pr} {p : Pr} (h : Ti ts) (hp : PrOk p) : Ti (layP ts p) := by
  unfold layP
  cases hk : okK p with
  | false => exact h
  | true =>
    simp only [cond_true]
    cases hh : hitP ts p.1 with
    | true => exact h.set hp hk hh
    | false =>
      simp only [cond_false]
      by_cases hm : 64 ≤ ts.length
      · rw [decide_eq_true hm]; exact h
      · rw [decide_eq_false hm]; exact h.ins hp hk hh (by omega)
/-! ### the rows -/
theorem cpD_app (a b : List Pr) : cpD (a ++ b) = cpD a ++ cpD b := by simp [cpD]
theorem cpD_len (ts : List Pr) : (cpD ts).length = ts.length * 3 := (cpD_prs ts).len
theorem cpD_take (ts : List Pr) (i : Nat) : (cpD ts).take (i * 3) = cpD (ts.take i) := by
  have e := cpD_app (ts.take i) (ts.drop i)
  rw [List.take_append_drop] at e
  rw [e]
  by_cases h : i ≤ ts.length
  · rw [List.take_left' (by rw [cpD_len, List.length_take]; omega)]
  · rw [List.drop_of_length_le (by omega)]
    simp only [cpD, List.flatMap_nil, List.append_nil]
    have := cpD_len (ts.take i)
    rw [List.length_take] at this
    exact List.take_of_length_le (by show (cpD (ts.take i)).length ≤ _; rw [this]; omega)
theorem cpD_drop (ts : List Pr) (i : Nat) : (cpD ts).drop (i * 3) = cpD (ts.drop i) := by
  have e := cpD_app (ts.take i) (ts.drop i)
  rw [List.take_append_drop] at e
  rw [e]
  by_cases h : i ≤ ts.length
  · rw [List.drop_left' (by rw [cpD_len, List.length_take]; omega)]
  · have h0 : ts.drop i = [] := List.drop_of_length_le (by omega)
    rw [h0]
    simp only [cpD, List.flatMap_nil, List.append_nil]
    exact List.drop_of_length_le (by show (cpD (ts.take i)).length ≤ _; rw [cpD_len, List.length_take]; omega)
theorem cpD_cons (p : Pr) (ts : List Pr) : cpD (p :: ts) = prD none none p ++ cpD ts := rfl
theorem insD_cpD (ts : List Pr) (p : Pr) : insD (cpD ts) (lbP ts p.1) (prD none none p) = cpD (insP ts p) := by
  unfold insD insP
  rw [cpD_take, cpD_drop, cpD_app, cpD_cons]
theorem setD_cpD (ts : List Pr) (p : Pr) : setD (cpD ts) (lbP ts p.1 * 3) (prD none none p) = cpD (setP ts p) := by
  unfold setD setP
  have : lbP ts p.1 * 3 + (prD none none p).length = (lbP ts p.1 + 1) * 3 := by simp [prD]; omega
  rw [cpD_take, this, cpD_drop, cpD_app, cpD_cons]
theorem prsOf_cp (ts : List Pr) : prsOf (cpD ts) = ts := prsOf_of (cpD_prs ts)
theorem Ti.tb {ts : List Pr} (h : Ti ts) : TbOk (cpD ts) ts.length := ⟨by rw [prsOf_cp]; exact cpD_prs ts, by rw [prsOf_cp]; exact h.o, by rw [prsOf_cp], by have := h.m; omega, by rw [prsOf_cp]; exact h.a⟩
theorem Ti.tk {ts : List Pr} (h : Ti ts) : TbK (cpD ts) ts.length := ⟨h.tb, by rw [prsOf_cp]; exact h.k⟩
theorem prD_one (p : Pr) : ∀ d ∈ prD none none p, DVone d := fun d hd => by
  simp only [prD, List.mem_cons, List.not_mem_nil, or_false] at hd
  rcases hd with rfl | rfl | rfl
  · trivial
  · trivial
  · rfl
theorem cpD_one : ∀ (ts : List Pr), ∀ d ∈ cpD ts, DVone d
  | [], d, hd => by cases hd
  | p :: ts, d, hd => by
      rw [cpD_cons] at hd
      rcases List.mem_append.1 hd with hd | hd
      · exact prD_one p d hd
      · exact cpD_one ts d hd
end Go.Proofs.Ytojakfnljopjbaa
