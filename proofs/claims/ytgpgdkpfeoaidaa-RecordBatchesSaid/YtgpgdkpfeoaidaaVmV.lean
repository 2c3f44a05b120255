/-
  The machine that runs in the kernel, part V: how it is used. Externs of math/bits; a closed run.
-/
import Derived.Test.YtgpgdkpfeoaidaaVmU
import Derived.Laws.Externs
import Derived.Laws.Bits64
namespace Go.Proofs.Ytgpgdkpfeoaidaa
set_option linter.unusedSimpArgs false
set_option linter.unusedVariables false
set_option linter.unusedSectionVars false
open Go Go.RowKit

def noX : FuncId → List Value → Hp → Option Value := fun _ _ _ => none
def noT : FuncId → List Value → Hp → Nat → Option Out := fun _ _ _ _ => none
theorem noX_ok {P : Program} {T : FuncId → List Value → Hp → Nat → Option Out} : XOk ⟨P, noX, T⟩ := fun f args hp v h => by cases h
/-- Only new memory: names stand for what they stood for. -/
theorem Stp.ext {W : World} {σ : Sg} {h : Hp} {w w' : World} (hR : Rl W σ h w) (hx : Ext w w') (lo : Nat) : Stp W lo lo σ h w σ h w' :=
  ⟨Sg.le.refl σ, fun _ _ => ⟨rfl, rfl⟩, ⟨hR.ext.trans hx, fun n r hl => (hR.row n r hl).keep (Sg.le.refl _) fun _ p hb => Below.block hx p.1 (hR.lt hl hb), hR.inj⟩, hx.size, fun b hb _ => Below.block hx b hb, fun n r p hl ho hb => .inr ⟨n, r, p, hl, ho, hb, rfl⟩⟩
/-- A call that is known to hand back a value without an address, and to leave older memory as it was. -/
theorem tri_quiet {P : Program} {f : FuncId} {args : List Value} {h : Hp} {nx : Nat} {v : Value} (ha : ∀ σ args', renL σ args = some args' → args' = args) (hv : ∀ σ, renV σ v = some v) (hC : ∀ w, Calls P f args.toArray w fun e w' => e = .returned v ∧ Ext w w') : Tri P f args h nx (v, h, nx, []) := by
  refine ⟨Tidy.refl _ _, fun _ W σ w args' hR _ hr => ?_⟩
  obtain rfl := ha σ args' hr
  exact (hC w).mono fun e w' ⟨he, hx⟩ => ⟨σ, v, Stp.ext hR hx nx, hv σ, he⟩
end Go.Proofs.Ytgpgdkpfeoaidaa
