/-
  Externs of chapter 1 and strings.Repeat, for the machine that runs in the kernel. Conditions: none.
-/
import Derived.Test.YtpiapipmhlpmjaaVmV
import Derived.Test.YtpiapipmhlpmjaaU128Rep
namespace Go.Proofs.Ytpiapipmhlpmjaa
set_option linter.unusedSimpArgs false
set_option linter.unusedVariables false
open Go Go.RowKit
def xK : FuncId → List Value → Hp → Option Value := orX (add64V 41) (sub64V 43)
theorem xK_ok {T : FuncId → List Value → Hp → Nat → Option Out} : XOk ⟨Try.prog, xK, T⟩ :=
  orX_one (add64_one fun x y c w => run_callFunc_extern Try.func41 (by kernel_rfl) (by kernel_rfl) (by kernel_rfl) (e := add64Entry) (by kernel_rfl) _ w)
    (sub64_one fun x y c w => run_callFunc_extern Try.func43 (by kernel_rfl) (by kernel_rfl) (by kernel_rfl) (e := sub64Entry) (by kernel_rfl) _ w)
def tRep : FuncId → List Value → Hp → Nat → Option Out := fun f args h nx => bif Nat.beq f 40 then (match args with
  | [.string s, .int .i64 c] => bif decide (2 ≤ c ∧ c ≤ 9223372036854775807 ∧ s.data.toList.length * c.toNat ≤ 140737488355328 ∧ 0 < s.data.toList.length) then some (.string ⟨(Lib.repeatL s.data.toList c.toNat).toArray⟩, h, nx, []) else none
  | _ => none) else none
theorem tRep_ok {X : FuncId → List Value → Hp → Option Value} : TOk ⟨Try.prog, X, tRep⟩ := by
  intro f args h nx out e
  simp only [tRep] at e
  obtain ⟨hf, e1⟩ := bif_of e
  clear e
  obtain rfl := Nat.eq_of_beq_eq_true hf
  split at e1
  · rename_i s c
    by_cases hb : 2 ≤ c ∧ c ≤ 9223372036854775807 ∧ s.data.toList.length * c.toNat ≤ 140737488355328 ∧ 0 < s.data.toList.length
    · simp only [hb, and_self, decide_true, cond_true, Option.some.injEq] at e1
      subst e1
      refine tri_quiet (fun σ args' hr => ?_) (fun σ => rfl) fun w => ?_
      · simp only [renL, renV, Option.some.injEq] at hr; exact hr.symm
      · have hsz : s.size = s.data.toList.length := by simp
        have hc : (c.toNat : Int) = c := Int.toNat_of_nonneg (by omega)
        have := Try.strings_Repeat_main s c.toNat w (by omega) (by omega) (by rw [hsz]; exact hb.2.2.1) (by rw [hsz]; exact hb.2.2.2)
        rw [hc] at this
        exact this
    · simp only [hb, decide_false, cond_false] at e1; cases e1
  · cases e1
end Go.Proofs.Ytpiapipmhlpmjaa
