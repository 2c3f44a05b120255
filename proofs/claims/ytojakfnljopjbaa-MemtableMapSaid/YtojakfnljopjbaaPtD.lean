/-
  Chapter 12: the statement MemtableParts, at any arguments.
-/
import Derived.Test.YtojakfnljopjbaaPtC
import Derived.Test.YtojakfnljopjbaaMdI
namespace Go.Proofs.Ytojakfnljopjbaa
set_option linter.unusedSimpArgs false
set_option linter.unusedVariables false
set_option linter.unusedSectionVars false
open Go Go.RowKit
/-! ### what is between -/
theorem ltK_nil (k : List Int) : ltK k [] = false := by cases k <;> rfl
theorem btw_all (ps : List Pr) : btw ps [] [] = ps := by
  have h0 : lbP ps [] = 0 := by cases ps with | nil => rfl | cons p l => simp [lbP, ltK_nil]
  unfold btw tkP
  rw [h0, List.drop_zero]
  have : ∀ l : List Pr, l.takeWhile (upP []) = l := by
    intro l
    induction l with
    | nil => rfl
    | cons p l ih => rw [List.takeWhile_cons, if_pos (show upP [] p = true from rfl), ih]
  exact this ps
theorem Ti.fold : ∀ {ps ts : List Pr}, (∀ p ∈ ps, PrOk p) → Ti ts → Ti (ps.foldl (fun t p => layP t (puP p)) ts)
  | [], ts, _, h => h
  | p :: ps, ts, ho, h => Ti.fold (ps := ps) (ts := layP ts (puP p)) (fun q hq => ho q (List.mem_cons_of_mem _ hq)) (h.lay (ho p (List.mem_cons_self ..)))
/-! ### lists of bytes, opened -/
theorem open_by {W : World} {v : Value} {rows : List (List DV)} {cap : Nat} (hA : DA.at W v (.dl rows.flatten rows.length cap)) (hr : ∀ r, r ∈ rows → ShsOk [.i .u8] r) : ∃ l : List Int, DA.at W v (.sl (byV l) l.length cap) ∧ l.length = rows.length ∧ ∀ x ∈ l, 0 ≤ x ∧ x < 256 := by
  obtain ⟨l, h1, h2, h3⟩ := bys_of hr
  refine ⟨l, ?_, h2, h3⟩
  obtain ⟨g1, g2⟩ := hA
  rw [h1, ← h2] at g2
  refine ⟨fun e => ?_, ?_⟩
  · have := g1 e
    rw [h1] at this
    have e2 : l = [] := by
      unfold byD at this
      exact List.map_eq_nil_iff.1 this
    rw [e2]; rfl
  · rw [byV_fl]; exact g2
theorem pos_of {X : List Pr} (h : X.isEmpty = false) : 0 < X.length := by cases X with | nil => cases h | cons => simp
theorem emp_of {X : List Pr} (h : X.isEmpty = true) : X = [] := List.isEmpty_iff.1 h
end Go.Proofs.Ytojakfnljopjbaa
