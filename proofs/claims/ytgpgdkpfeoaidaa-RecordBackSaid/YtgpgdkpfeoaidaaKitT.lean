/-
  Tails: code from a sequence on, known by a law; arguments that are lists, nil or not.
-/
import Derived.Test.YtgpgdkpfeoaidaaKitS
namespace Go.Proofs.Ytgpgdkpfeoaidaa
set_option linter.unusedSimpArgs false
set_option linter.unusedVariables false
set_option linter.unusedSectionVars false
open Go Go.RowKit

/-! ### arguments that are lists -/
/-- A list, nil or not: its length, its capacity, its cells. -/
structure Sa where
  b : Bool
  n : Nat
  c : Nat
  xs : List Value
def saV (k : Nat) (a : Sa) : Value := bif a.b then .slice (some ⟨k, 0, none⟩) a.n a.c else .slice none 0 0
def saH (k : Nat) (a : Sa) (h : Hp) : Hp := bif a.b then (k, ⟨.old, a.xs⟩) :: h else h
structure SaOk (R : List Value → Prop) (size most : Nat) (a : Sa) : Prop where
  r : R a.xs
  l : a.xs.length = a.n * size
  c : a.n ≤ a.c ∧ a.c ≤ 9223372036854775807
  m : a.n ≤ most
  z : a.b = false → a.n = 0 ∧ a.c = 0 ∧ a.xs = []
theorem SaOk.nil {R : List Value → Prop} {size most : Nat} (h : R []) : SaOk R size most ⟨false, 0, 0, []⟩ := ⟨h, by simp, ⟨Nat.le_refl 0, Nat.zero_le _⟩, Nat.zero_le _, fun _ => ⟨rfl, rfl, rfl⟩⟩
theorem sgf_old {lo N k : Nat} {ρ : Nat → Nat} (h : k < lo) : (sgf lo N ρ).b k = some (k, 0) := by unfold sgf fnN; simp only; rw [blt_of h]; rfl
/-! ### a tail's law -/
end Go.Proofs.Ytgpgdkpfeoaidaa
