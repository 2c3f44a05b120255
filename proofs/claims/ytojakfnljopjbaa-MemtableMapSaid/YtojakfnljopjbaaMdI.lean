/-
  Chapter 12: lists of pairs, opened.
-/
import Derived.Test.YtojakfnljopjbaaMdQ
namespace Go.Proofs.Ytojakfnljopjbaa
set_option linter.unusedSimpArgs false
set_option linter.unusedVariables false
set_option linter.unusedSectionVars false
open Go Go.RowKit
theorem bys_of : ∀ {rows : List (List DV)}, (∀ r, r ∈ rows → ShsOk [.i .u8] r) → ∃ l : List Int, rows.flatten = byD l ∧ l.length = rows.length ∧ ∀ x ∈ l, 0 ≤ x ∧ x < 256
  | [], _ => ⟨[], rfl, rfl, fun x hx => by cases hx⟩
  | r :: rows, h => by
      obtain ⟨l, h1, h2, h3⟩ := bys_of (rows := rows) fun x hx => h x (List.mem_cons_of_mem _ hx)
      have hr := h r (List.mem_cons_self ..)
      simp only [ShsOk, ShOk] at hr
      obtain ⟨d, ds', rfl, ⟨z, rfl, hw⟩, rfl⟩ := hr
      refine ⟨z :: l, by rw [List.flatten_cons, h1]; rfl, by simp [h2], fun x hx => ?_⟩
      rcases List.mem_cons.1 hx with rfl | hx
      · simp [Lit.wf, IntKind.min, IntKind.max, IntKind.signed, IntKind.bits] at hw
        omega
      · exact h3 x hx
theorem sl_of {d : DV} (h : ShOk (.sl [.i .u8]) d) : ∃ (c : Option Nat) (l : List Int), d = .sl l.length c (byD l) ∧ ∀ x ∈ l, 0 ≤ x ∧ x < 256 := by
  simp only [ShOk] at h
  obtain ⟨len, cap, rows, rfl, _, _, hl, hr⟩ := h
  obtain ⟨l, h1, h2, h3⟩ := bys_of hr
  exact ⟨some cap, l, by rw [h1, h2, hl], h3⟩
theorem prs_of : ∀ {rows : List (List DV)}, (∀ r, r ∈ rows → ShsOk [.sl [.i .u8], .sl [.i .u8], .b] r) → ∃ ps : List Pr, Prs rows.flatten ps ∧ ps.length = rows.length ∧ ∀ p ∈ ps, PrOk p
  | [], _ => ⟨[], rfl, rfl, fun x hx => by cases hx⟩
  | r :: rows, h => by
      obtain ⟨ps, h1, h2, h3⟩ := prs_of (rows := rows) fun x hx => h x (List.mem_cons_of_mem _ hx)
      have hr := h r (List.mem_cons_self ..)
      simp only [ShsOk] at hr
      obtain ⟨d1, _, rfl, g1, d2, _, rfl, g2, d3, _, rfl, g3, rfl⟩ := hr
      obtain ⟨c1, k, rfl, hk⟩ := sl_of g1
      obtain ⟨c2, v, rfl, hv⟩ := sl_of g2
      simp only [ShOk] at g3
      obtain ⟨b, rfl⟩ := g3
      refine ⟨(k, v, b) :: ps, ⟨c1, c2, rows.flatten, rfl, h1⟩, by simp [h2], fun p hp => ?_⟩
      rcases List.mem_cons.1 hp with rfl | hp
      · exact ⟨hk, hv⟩
      · exact h3 p hp
end Go.Proofs.Ytojakfnljopjbaa
