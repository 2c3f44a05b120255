/-
  Lists of numbers; rows under new names; contracts of functions of one list, of two.
-/
import Derived.Test.YtmoflcoijmmpjaaKitO
namespace Go.Proofs.Ytmoflcoijmmpjaa
set_option linter.unusedSimpArgs false
set_option linter.unusedVariables false
set_option linter.unusedSectionVars false
open Go Go.RowKit

def Ints (k : IntKind) (xs : List Value) : Prop := xs = (intsOf xs).map (Value.int k)
theorem Ints.get {k : IntKind} {xs : List Value} (h : Ints k xs) {i : Nat} (hi : i < xs.length) : xs[i]? = some (.int k (intAt xs i)) := by
  have hl : (intsOf xs).length = xs.length := by simp [intsOf]
  have hi' : i < (intsOf xs).length := by omega
  have e : xs[i]? = some (.int k (intsOf xs)[i]) := by
    conv => lhs; rw [h]
    rw [List.getElem?_map, List.getElem?_eq_getElem hi']
    rfl
  have ei : intAt xs i = (intsOf xs)[i] := by unfold intAt; rw [e]
  rw [ei]; exact e
theorem Ints.fl {k : IntKind} {xs : List Value} (h : Ints k xs) : Fl xs := by rw [h]; exact Fl.ints _ _
theorem Ints.of {k : IntKind} {l : List Int} : Ints k (l.map (Value.int k)) := by unfold Ints; rw [intsOf_map]
theorem intsOf_take (l : List Value) (n : Nat) : intsOf (l.take n) = (intsOf l).take n := by unfold intsOf; rw [List.map_take]
theorem intsOf_drop (l : List Value) (n : Nat) : intsOf (l.drop n) = (intsOf l).drop n := by unfold intsOf; rw [List.map_drop]
theorem Byts.take {l : List Value} (h : Byts l) (n : Nat) : Byts (l.take n) := by
  refine ⟨?_, fun x hx => h.2 x ?_⟩
  · rw [intsOf_take, List.map_take, ← h.1]
  · rw [intsOf_take] at hx; exact List.mem_of_mem_take hx
theorem Byts.drop {l : List Value} (h : Byts l) (n : Nat) : Byts (l.drop n) := by
  refine ⟨?_, fun x hx => h.2 x ?_⟩
  · rw [intsOf_drop, List.map_drop, ← h.1]
  · rw [intsOf_drop] at hx; exact List.mem_of_mem_drop hx
theorem rb_rec {lo N : Nat} {ρ : Nat → Nat} {h0 h1 : Hp} {n m : Nat} {kd : Kd} (hn : fnN lo N ρ n = some m) (hl : lk h1 m = some ⟨kd, []⟩) (hk : recKd (sgf lo N ρ) kd) : RbRow lo N ρ h0 h1 n ⟨kd, []⟩ :=
  ⟨m, _, hn, hl, rfl, hk, .inl rfl⟩
end Go.Proofs.Ytmoflcoijmmpjaa
