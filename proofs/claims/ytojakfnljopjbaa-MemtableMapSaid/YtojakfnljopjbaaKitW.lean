/-
  Further tools: runs as far as their value goes; contracts with a new slice inside a value.
-/
import Derived.Test.YtojakfnljopjbaaKitX
namespace Go.Proofs.Ytojakfnljopjbaa
set_option linter.unusedSimpArgs false
set_option linter.unusedVariables false
set_option linter.unusedSectionVars false
open Go Go.RowKit

def prjV : Res (Out × Tape × List Prop) → Res (Value × Tape × List Prop)
  | .ok ((v, _, _, _), tp, ob) => .ok (v, tp, ob)
  | .ask b => .ask b
  | .no => .no
theorem run_val {V : Tv} (hX : XOkZ V Try.prog) (hT : TOkZ V Try.prog) (hL : LOkZ V Try.prog) {k : Nat} {f : FuncId} {args : List Value} {h : Hp} {nx : Nat} {tp tp' : Tape} {v : Value} {ob : List Prop} (e : prjV (runZ V Try.prog k f args h nx tp) = .ok (v, tp', ob)) (ho : Alls ob) (hf : Nat.blt f yBig = true) : ∃ h' nx' d, Tri Try.prog f args h nx (v, h', nx', d) := by
  unfold prjV at e
  split at e
  · rename_i v0 h0 nx0 d0 tp0 ob0 hr
    simp only [Res.ok.injEq, Prod.mk.injEq] at e
    obtain ⟨rfl, rfl, rfl⟩ := e
    exact ⟨_, _, _, run_tri hX hT hL hr ho hf⟩
  · cases e
  · cases e
end Go.Proofs.Ytojakfnljopjbaa
