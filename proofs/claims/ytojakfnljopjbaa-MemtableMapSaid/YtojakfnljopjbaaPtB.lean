/-
  Chapter 12: the statement MemtableParts: its loop.
-/
import Derived.Test.YtojakfnljopjbaaPtA
import Derived.Test.YtojakfnljopjbaaPtP
namespace Go.Proofs.Ytojakfnljopjbaa
set_option linter.unusedSimpArgs false
set_option linter.unusedVariables false
set_option linter.unusedSectionVars false
open Go Go.RowKit
theorem ptT0_one : TOneZ Try.prog ptT0 := orTz_ok bsT_one insT9_one
theorem sh2_row {lo N : Nat} {ρ : Nat → Nat} {h0 h1 : Hp} {n m : Nat} {v v1 : Value} {b : Bool} (hn : fnN lo N ρ n = some m) (hl : lk h1 m = some ⟨.shut, [.bool b, v1]⟩) (hv : renV (sgf lo N ρ) v = some v1) : RbRow lo N ρ h0 h1 n ⟨.shut, [.bool b, v]⟩ := ⟨m, _, hn, hl, rfl, rfl, .inl (renL_mk rfl (renL_mk hv rfl))⟩
theorem ol_row {lo N : Nat} {ρ : Nat → Nat} {h0 h1 : Hp} {n m : Nat} {cs : List Value} (hn : fnN lo N ρ n = some m) (hl : lk h1 m = some ⟨.old, cs⟩) (hf : ∀ τ, renL τ cs = some cs) : RbRow lo N ρ h0 h1 n ⟨.old, cs⟩ := ⟨m, _, hn, hl, rfl, rfl, .inl (hf _)⟩
/-- The pair that Put lays. -/
def puP (p : Pr) : Pr := (p.1, p.2.1, false)
end Go.Proofs.Ytojakfnljopjbaa
