/-
  The machine that runs in the kernel, part V: how it is used. Externs of math/bits; a closed run.
-/
import Derived.Test.YtikfkmglcnchoaaVmU
import Derived.Laws.Externs
import Derived.Laws.Bits64
namespace Go.Proofs.Ytikfkmglcnchoaa
set_option linter.unusedSimpArgs false
set_option linter.unusedVariables false
set_option linter.unusedSectionVars false
open Go Go.RowKit

def noX : FuncId → List Value → Option Value := fun _ _ => none
def noT : FuncId → List Value → Hp → Nat → Option Out := fun _ _ _ _ => none
theorem noX_ok {P : Program} {T : FuncId → List Value → Hp → Nat → Option Out} : XOk ⟨P, noX, T⟩ := fun f args v h => by cases h
theorem noT_ok {P : Program} {X : FuncId → List Value → Option Value} : TOk ⟨P, X, noT⟩ := fun f args h nx out e => by cases e

/-- What no name is in. -/
def sg0 : Sg := ⟨fun _ => none, fun _ => none⟩
theorem rl0 (W : World) : Rl W sg0 [] W := ⟨Ext.refl W, fun n r e => by simp [lk] at e, fun n m r s p q e => by simp [lk] at e⟩
/-- The value that a run hands back. -/
def valF (E : Env) (k : Nat) (f : FuncId) (args : List Value) : Option Value := match runF E k f args [] 0 with | some (v, _) => some v | none => none
theorem closed {E : Env} (hX : XOk E) (hT : TOk E) (hm : E.P.follows .mixedOrders = true) (k : Nat) (f : FuncId) (args : List Value) (v : Value) (ha : renL sg0 args = some args) (h : valF E k f args = some v) (hv : ∀ σ, renV σ v = some v) (W : World) :
    Calls E.P f args.toArray W fun e w' => e = .returned v ∧ Ext W w' := by
  unfold valF at h
  split at h
  · rename_i v' r hr
    cases h
    obtain ⟨h', nx', d⟩ := r
    have T := runF_ok hX hT hm k f args [] 0 _ hr
    refine (T.2 (fun n _ => rfl) W sg0 W args (rl0 W) (fun n _ _ => ⟨rfl, rfl⟩) ha).mono fun e w' ⟨σ', u, S, hu, he⟩ => ?_
    rw [hv σ'] at hu
    cases hu
    exact ⟨he, S.rl.ext⟩
  · cases h
end Go.Proofs.Ytikfkmglcnchoaa
