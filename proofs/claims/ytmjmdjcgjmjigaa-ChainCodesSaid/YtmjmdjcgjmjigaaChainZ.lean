/-
  What chains and codes are, one behind the other: plain laws.
-/
import Derived.Test.YtmjmdjcgjmjigaaChainW
namespace Go.Proofs.Ytmjmdjcgjmjigaa
set_option linter.unusedSimpArgs false
set_option linter.unusedVariables false
set_option linter.unusedSectionVars false
open Go.ChangeShapes Go.WideShapes Go.ChangeAt Go.RowKit
/-- The chains from 'at' on cover the rest. -/
def Tiles (bs : List Bool) : Nat → List Spn → Prop
  | a, [] => a = bs.length
  | a, x :: rest => x.1 = a ∧ a < x.2.1 ∧ x.2.1 ≤ bs.length ∧ (∀ i, a ≤ i → i < x.2.1 → bs.getD i false = (decide (i + 1 < x.2.1) || x.2.2)) ∧ Tiles bs x.2.1 rest
theorem tiles_from (bs : List Bool) : ∀ (m f i : Nat), i + m = bs.length → f ≤ i → (0 < m ∨ f = i) → (∀ j, f ≤ j → j < i → bs.getD j false = true) → Tiles bs f (spansFrom f i (bs.drop i))
  | 0, f, i, hm, hf, hmf, hb => by
      rw [List.drop_eq_nil_of_le (by omega)]
      simp only [spansFrom, Tiles]
      omega
  | m + 1, f, i, hm, hf, hmf, hb => by
      by_cases h : bs.getD i false = true ∧ i + 1 < bs.length
      · rw [spansFrom_skip f i bs h.2 h.1]
        refine tiles_from bs m f (i + 1) (by omega) (by omega) (by omega) fun j h1 h2 => ?_
        by_cases hj : j = i
        · rw [hj]; exact h.1
        · exact hb j h1 (by omega)
      · have hc : bs.getD i false = false ∨ i + 1 = bs.length := by
          by_cases hbi : bs.getD i false = true
          · right
            have : ¬ (i + 1 < bs.length) := fun hh => h ⟨hbi, hh⟩
            omega
          · left; simpa using hbi
        rw [spansFrom_cut f i bs (by omega) hc]
        refine ⟨rfl, by simp only; omega, by simp only; omega, fun j h1 h2 => ?_, tiles_from bs m (i + 1) (i + 1) (by omega) (by omega) (by omega) fun j h1 h2 => by omega⟩
        simp only at h2 ⊢
        by_cases hj : j = i
        · subst hj; simp
        · rw [hb j h1 (by omega)]
          have : decide (j + 1 < i + 1) = true := by simp; omega
          rw [this]; rfl
theorem tiles_of (bs : List Bool) : Tiles bs 0 (spansOf bs) := by
  have := tiles_from bs bs.length 0 0 (by omega) (by omega) (by omega) (fun j _ h => by omega)
  simpa [spansOf] using this
theorem findF_neg (own : List Int) : ∀ (d i : Nat), (findF own i d).1 < 0 → ∀ j, i ≤ j → j < i + d → own.getD j 0 = 0
  | 0, i, h, j, h1, h2 => by omega
  | d + 1, i, h, j, h1, h2 => by
      unfold findF at h
      split at h
      · rename_i h0
        by_cases hj : j = i
        · rw [hj]; exact h0
        · exact findF_neg own d (i + 1) h j (by omega) (by omega)
      · simp only at h; omega
theorem findF_pos (own : List Int) : ∀ (d i : Nat), 0 ≤ (findF own i d).1 → (findF own i d).2 ≠ 0
  | 0, i, h => by simp [findF] at h
  | d + 1, i, h => by
      unfold findF at h ⊢
      split
      · rename_i h0
        rw [if_pos h0] at h
        exact findF_pos own d (i + 1) h
      · rename_i h0
        exact h0
/-- A chain's failure, in short: none, or at a place with a code that is not 0; an open chain failed at its end, with 2. -/
theorem failedV_neg (own : List Int) (f t : Nat) (o : Bool) (ht : 0 < t) (h : (failedV own (f, t, o)).1 < 0) : o = false ∧ ∀ j, f ≤ j → j < t → own.getD j 0 = 0 := by
  unfold failedV at h
  cases o
  · refine ⟨rfl, fun j h1 h2 => findF_neg own (t - f) f (by simpa using h) j h1 (by omega)⟩
  · simp at h; omega
theorem failedV_pos (own : List Int) (f t : Nat) (o : Bool) (h : 0 ≤ (failedV own (f, t, o)).1) : (failedV own (f, t, o)).2 ≠ 0 := by
  unfold failedV at h ⊢
  cases o
  · simp only [Bool.false_eq_true, if_false] at h ⊢
    exact findF_pos own (t - f) f h
  · simp
theorem failedV_open (own : List Int) (f t : Nat) : failedV own (f, t, true) = ((t : Int) - 1, 2) := rfl
theorem chunk_getD (own : List Int) (f t : Nat) (o : Bool) (i : Nat) (h1 : f ≤ i) (h2 : i < t) (rest : List Int) : (chunkV own (f, t, o) ++ rest).getD (i - f) 0 = codeAt (failedV own (f, t, o)).1 (failedV own (f, t, o)).2 (i : Int) := by
  have hl : i - f < (chunkV own (f, t, o)).length := by rw [chunkV_len]; simp only; omega
  simp only [List.getD, List.getElem?_append_left hl, List.getElem?_eq_getElem hl, Option.getD_some]
  simp only [chunkV, List.getElem_map, List.getElem_range]
  rw [show f + (i - f) = i by omega]
theorem getD_drop' (l : List Int) (a i : Nat) (h : a ≤ i) : l.getD i 0 = (l.drop a).getD (i - a) 0 := by
  simp only [List.getD, List.getElem?_drop]
  rw [show a + (i - a) = i by omega]
end Go.Proofs.Ytmjmdjcgjmjigaa
