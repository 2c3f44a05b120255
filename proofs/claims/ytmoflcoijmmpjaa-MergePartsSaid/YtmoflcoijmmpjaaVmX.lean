/-
  The machine that runs in the kernel, part X: runs at arguments that bear one slice of older memory which is never read.
-/
import Derived.Test.YtmoflcoijmmpjaaVmW
namespace Go.Proofs.Ytmoflcoijmmpjaa
set_option linter.unusedSimpArgs false
set_option linter.unusedVariables false
set_option linter.unusedSectionVars false
open Go Go.RowKit

def valN (E : Env) (k : Nat) (f : FuncId) (args : List Value) (nx : Nat) : Option Value := bif Nat.ble yBig f then none else match runF E k f args [] nx with | some (v, _) => some v | none => none
theorem closedN {E : Env} (hX : XOk E) (hT : TOk E) (hm : E.P.follows .mixedOrders = true) (k : Nat) (f : FuncId) (args args' : List Value) (nx : Nat) (σ : Sg) (hσ : ∀ n, nx ≤ n → σ.b n = none ∧ σ.c n = none) (v : Value) (ha : renL σ args = some args') (h : valN E k f args nx = some v) (hv : ∀ σ, renV σ v = some v) (W : World) :
    Calls E.P f args'.toArray W fun e w' => e = .returned v ∧ Ext W w' := by
  unfold valN at h
  rcases bif_or h with ⟨_, h⟩ | ⟨hb, h⟩
  · cases h
  have hlt : f < yBig := by
    rcases Nat.lt_or_ge f yBig with h1 | h1
    · exact h1
    · rw [Nat.ble_eq_true_of_le h1] at hb; cases hb
  split at h
  · rename_i v' r hr
    cases h
    obtain ⟨h', nx', d⟩ := r
    have T := (runF_ok hX hT hm k).fn f args [] nx _ hr hlt
    have R0 : Rl W σ [] W := ⟨⟨Ext.refl W, fun n r e => by simp [lk] at e, fun n m r s p q e => by simp [lk] at e⟩, fun n r e => by simp [lk] at e, fun n r k e => by simp [lk] at e⟩
    refine (T.2 (fun n _ => rfl) W σ W args' R0 (fun n h1 _ => hσ n h1) ha).mono fun e w' ⟨σ', u, S, hu, he⟩ => ?_
    rw [hv σ'] at hu
    cases hu
    exact ⟨he, S.rl.ext⟩
  · cases h
/-- One name: a place in older memory, and a capacity. -/
def sg1 (B o c : Nat) : Sg := ⟨fun n => match n with | 0 => some (B, o) | _ + 1 => none, fun n => match n with | 0 => some c | _ + 1 => none, fun _ => some [], fun _ => none⟩
theorem sg1_new (B o c : Nat) : ∀ n, 1 ≤ n → (sg1 B o c).b n = none ∧ (sg1 B o c).c n = none
  | 0, h => by omega
  | n + 1, _ => ⟨rfl, rfl⟩
theorem sg1_slice (B o c l : Nat) (s : Option Nat) : renV (sg1 B o c) (.slice (some ⟨0, 0, s⟩) l capBig) = some (.slice (some ⟨B, o, s⟩) l c) := by
  simp [renV, slR, adR, cpR, sg1]
end Go.Proofs.Ytmoflcoijmmpjaa
