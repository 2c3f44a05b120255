/-
  The machine that runs in the kernel, part V: how it is used. Externs of math/bits; a closed run.
-/
import Derived.Test.YtmoflcoijmmpjaaVmU
import Derived.Laws.Externs
import Derived.Laws.Bits64
namespace Go.Proofs.Ytmoflcoijmmpjaa
set_option linter.unusedSimpArgs false
set_option linter.unusedVariables false
set_option linter.unusedSectionVars false
open Go Go.RowKit

def noX : FuncId → List Value → Hp → Option Value := fun _ _ _ => none
def noT : FuncId → List Value → Hp → Nat → Option Out := fun _ _ _ _ => none
theorem noX_ok {P : Program} {T : FuncId → List Value → Hp → Nat → Option Out} : XOk ⟨P, noX, T⟩ := fun f args hp v h => by cases h
theorem noT_ok {P : Program} {X : FuncId → List Value → Hp → Option Value} : TOk ⟨P, X, noT⟩ := fun f args h nx out e => by cases e

theorem Stp.ext {W : World} {σ : Sg} {h : Hp} {w w' : World} (hR : Rl W σ h w) (hx : Ext w w') (lo : Nat) : Stp W lo lo σ h w σ h w' :=
  Stp0.up ⟨Sg.le.refl σ, fun _ _ => ⟨rfl, rfl⟩, ⟨hR.ext.trans hx, fun n r hl => hR.keepA hl (Sg.le.refl _) fun b hb => Below.block hx b hb, hR.inj⟩, hx.size, fun b hb _ => Below.block hx b hb, fun n r p hl ho hb => .inr ⟨n, r, p, hl, ho, hb, rfl⟩⟩ hR.shr hR.wf (hR.shr.sub fun n r hl => ⟨r, hl, fun h => h⟩)
theorem tri_quiet {P : Program} {f : FuncId} {args : List Value} {h : Hp} {nx : Nat} {v : Value} (ha : ∀ σ args', renL σ args = some args' → args' = args) (hv : ∀ σ, renV σ v = some v) (hC : ∀ w, Calls P f args.toArray w fun e w' => e = .returned v ∧ Ext w w') : Tri P f args h nx (v, h, nx, []) := by
  refine ⟨Tidy.refl _ _, fun _ W σ w args' hR _ hr => ?_⟩
  obtain rfl := ha σ args' hr
  exact (hC w).mono fun e w' ⟨he, hx⟩ => ⟨σ, v, Stp.ext hR hx nx, hv σ, he⟩
def XOne (P : Program) (g : FuncId → List Value → Hp → Option Value) : Prop := ∀ f args h v, g f args h = some v → ∀ W σ w args', Rl W σ h w → renL σ args = some args' → renV σ v = some v ∧ (callFunc f args'.toArray).run P w = .ok (.value v) w
def sg0 : Sg := ⟨fun _ => none, fun _ => none, fun _ => none, fun _ => none, true⟩
theorem rl0 (W : World) : Rl W sg0 [] W := ⟨⟨Ext.refl W, fun n r e => by simp [lk] at e, fun n m r s p q e => by simp [lk] at e⟩, rfl, fun n r e => by simp [lk] at e, fun n r k e => by simp [lk] at e⟩
def valF (E : Env) (k : Nat) (f : FuncId) (args : List Value) : Option Value := bif Nat.ble yBig f then none else match runF E k f args [] 0 with | some (v, _) => some v | none => none
theorem closed {E : Env} (hX : XOk E) (hT : TOk E) (hm : E.P.follows .mixedOrders = true) (k : Nat) (f : FuncId) (args : List Value) (v : Value) (ha : renL sg0 args = some args) (h : valF E k f args = some v) (hv : ∀ σ, renV σ v = some v) (W : World) :
    Calls E.P f args.toArray W fun e w' => e = .returned v ∧ Ext W w' := by
  unfold valF at h
  rcases bif_or h with ⟨_, h⟩ | ⟨hb, h⟩
  · cases h
  have hlt : f < yBig := by
    rcases Nat.lt_or_ge f yBig with h1 | h1
    · exact h1
    · rw [Nat.ble_eq_true_of_le h1] at hb; cases hb
  split at h
  · rename_i v' r hr
    cases h
    obtain ⟨h', nx', d⟩ := r
    have T := (runF_ok hX hT hm k).fn f args [] 0 _ hr hlt
    refine (T.2 (fun n _ => rfl) W sg0 W args (rl0 W) (fun n _ _ => ⟨rfl, rfl⟩) ha).mono fun e w' ⟨σ', u, S, hu, he⟩ => ?_
    rw [hv σ'] at hu
    cases hu
    exact ⟨he, S.rl.ext⟩
  · cases h
end Go.Proofs.Ytmoflcoijmmpjaa
