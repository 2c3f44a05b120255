/-
  The statements' kit on lists of bytes: OverBytes writes over a list, all of it; from then on the list is forgotten.
-/
import Derived.Test.YtmoflcoijmmpjaaKitB
namespace Go.Proofs.Ytmoflcoijmmpjaa
set_option linter.unusedSimpArgs false
set_option linter.unusedVariables false
set_option linter.unusedSectionVars false
open Go Go.RowKit

theorem Byts.get {cs : List Value} (h : Byts cs) {i : Nat} (hi : i < cs.length) : cs[i]? = some (.int .u8 (intAt cs i)) ∧ 0 ≤ intAt cs i ∧ intAt cs i < 256 := by
  have hl : (intsOf cs).length = cs.length := by simp [intsOf]
  have hi' : i < (intsOf cs).length := by omega
  have e : cs[i]? = some (.int .u8 (intsOf cs)[i]) := by
    conv => lhs; rw [h.1]
    rw [List.getElem?_map, List.getElem?_eq_getElem hi']
    rfl
  have ei : intAt cs i = (intsOf cs)[i] := by unfold intAt; rw [e]
  rw [ei]
  exact ⟨e, h.2 _ (List.getElem_mem _)⟩
theorem Byts.set {cs : List Value} (h : Byts cs) (i : Nat) {n : Int} (hn : 0 ≤ n ∧ n < 256) : Byts (cs.set i (.int .u8 n)) := by
  have e : intsOf (cs.set i (.int .u8 n)) = (intsOf cs).set i n := by unfold intsOf; rw [List.map_set]
  refine ⟨?_, fun x hx => ?_⟩
  · rw [e, List.map_set, ← h.1]
  · rw [e] at hx
    rcases List.mem_or_eq_of_mem_set hx with hx | rfl
    · exact h.2 x hx
    · exact hn
end Go.Proofs.Ytmoflcoijmmpjaa
