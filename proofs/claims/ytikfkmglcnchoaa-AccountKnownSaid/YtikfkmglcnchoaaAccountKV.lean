/-
  The chapter's examples, run in the kernel: AccountKnown answers true. Conditions: none.
-/
import Derived.Test.YtikfkmglcnchoaaVmV
import Derived.Test.YtikfkmglcnchoaaProg
import Derived.Laws.Bits128
namespace Go.Proofs.Ytikfkmglcnchoaa
set_option linter.unusedSimpArgs false
set_option linter.unusedVariables false
open Go Go.RowKit
def xAdd (f0 : FuncId) : FuncId → List Value → Option Value := fun f args => bif Nat.beq f f0 then (match args with
  | [.int .u64 x, .int .u64 y, .int .u64 c] => bif decide (0 ≤ x ∧ 0 ≤ y ∧ 0 ≤ c ∧ c ≤ 1) then some (.tuple #[.int .u64 ((x + y + c) % 18446744073709551616), .int .u64 ((x + y + c) / 18446744073709551616)]) else none
  | _ => none) else none
theorem add64_run (x y c : Int) (hx : 0 ≤ x) (hy : 0 ≤ y) (hc0 : 0 ≤ c) (hc : c ≤ 1) (w : World) :
    (callFunc 28 #[.int .u64 x, .int .u64 y, .int .u64 c]).run Try.prog w = .ok (.value (.tuple #[.int .u64 ((x + y + c) % 18446744073709551616), .int .u64 ((x + y + c) / 18446744073709551616)])) w := by
  rw [run_callFunc_extern Try.func28 (by kernel_rfl) (by kernel_rfl) (by kernel_rfl) (e := add64Entry) (by kernel_rfl), run_add64 x y c hx hy hc0 hc]
  rfl
theorem xAdd_ok {T : FuncId → List Value → Hp → Nat → Option Out} : XOk ⟨Try.prog, xAdd 28, T⟩ := by
  intro f args v h σ args' w ha
  simp only [xAdd] at h
  obtain ⟨hf, h1⟩ := bif_of h
  clear h
  obtain rfl := Nat.eq_of_beq_eq_true hf
  split at h1
  · rename_i x y c
    by_cases hb : 0 ≤ x ∧ 0 ≤ y ∧ 0 ≤ c ∧ c ≤ 1
    · simp only [hb, and_self, decide_true, cond_true, Option.some.injEq] at h1
      subst h1
      simp only [renL, renV, Option.some.injEq] at ha
      subst ha
      exact ⟨rfl, add64_run x y c hb.1 hb.2.1 hb.2.2.1 hb.2.2.2 w⟩
    · simp only [hb, decide_false, cond_false] at h1; cases h1
  · cases h1
set_option maxRecDepth 1000000 in
theorem known_val : valF ⟨Try.prog, xAdd 28, noT⟩ 20 4 [] = some (.bool true) := by kernel_rfl
theorem known_any (W : World) : Calls Try.prog 4 #[] W fun e w' => e = .returned (.bool true) ∧ Ext W w' :=
  closed (E := ⟨Try.prog, xAdd 28, noT⟩) xAdd_ok noT_ok (by kernel_rfl) 20 _ [] _ rfl known_val (fun _ => rfl) W
end Go.Proofs.Ytikfkmglcnchoaa
