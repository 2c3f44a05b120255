/-
  Chapter 14: parts of a list (plain laws).
-/
import Derived.Test.YtmoflcoijmmpjaaCtD
namespace Go.Proofs.Ytmoflcoijmmpjaa
set_option linter.unusedSimpArgs false
set_option linter.unusedVariables false
set_option linter.unusedSectionVars false
open Go Go.RowKit
theorem finJ_ge (n M : Nat) (hM : 0 < M) : ∀ (r j : Nat), n ≤ j * M + r → n ≤ finJ n M r j * M
  | 0, j, h => by rw [finJ]; omega
  | r + 1, j, h => by
      rw [finJ]
      by_cases hlt : j * M < n
      · rw [decide_eq_true hlt]
        have sm : (j + 1) * M = j * M + M := Nat.succ_mul j M
        exact finJ_ge n M hM r (j + 1) (by omega)
      · rw [decide_eq_false hlt]
        simp only [cond_false]
        omega
theorem finJ_lt (n M : Nat) : ∀ (r j : Nat), (∀ t, t < j → t * M < n) → ∀ t, t < finJ n M r j → t * M < n
  | 0, j, h, t, ht => h t (by rw [finJ] at ht; exact ht)
  | r + 1, j, h, t, ht => by
      rw [finJ] at ht
      by_cases hlt : j * M < n
      · rw [decide_eq_true hlt] at ht
        refine finJ_lt n M r (j + 1) (fun s hs => ?_) t ht
        rcases Nat.lt_or_ge s j with h1 | h1
        · exact h s h1
        · obtain rfl : s = j := by omega
          exact hlt
      · rw [decide_eq_false hlt] at ht
        exact h t ht
/-- The parts ahead of the j-th one, one behind the other. -/
theorem parts_take (ps : List Pr) (M j : Nat) : ps.take (j * M) ++ ptP ps M j = ps.take ((j + 1) * M) := by
  unfold ptP
  rw [Nat.succ_mul, List.take_add]
theorem parts_all {ps : List Pr} {M J : Nat} (h : ps.length ≤ J * M) : ps.take (J * M) = ps := List.take_of_length_le h
theorem part_len {ps : List Pr} {M t : Nat} (h : t * M < ps.length) (hM : 0 < M) : 0 < (ptP ps M t).length ∧ (ptP ps M t).length ≤ M ∧ ((t + 1) * M ≤ ps.length → (ptP ps M t).length = M) := by
  have sm : (t + 1) * M = t * M + M := Nat.succ_mul t M
  have : (ptP ps M t).length = min M (ps.length - t * M) := by unfold ptP; rw [List.length_take, List.length_drop]
  omega
theorem osD_at (ps : List Pr) (M : Nat) : ∀ (J t : Nat), t < J → (osD ps M J)[t]? = some (ptD (ptP ps M t))
  | 0, t, h => by omega
  | J + 1, t, h => by
      rw [osD]
      rcases Nat.lt_or_ge t J with h1 | h1
      · rw [List.getElem?_append_left (by rw [osD_len]; exact h1)]
        exact osD_at ps M J t h1
      · obtain rfl : t = J := by omega
        rw [List.getElem?_append_right (by rw [osD_len]; omega), osD_len, Nat.sub_self]
        rfl
end Go.Proofs.Ytmoflcoijmmpjaa
