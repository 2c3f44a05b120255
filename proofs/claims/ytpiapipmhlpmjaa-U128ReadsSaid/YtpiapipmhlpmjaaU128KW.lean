/-
  The chapter's examples, run in the kernel: U128Known answers true. Conditions: none.
-/
import Derived.Test.YtpiapipmhlpmjaaU128KV
namespace Go.Proofs.Ytpiapipmhlpmjaa
open Go Go.RowKit
set_option maxRecDepth 1000000 in
theorem known_val : valF ⟨Try.prog, xK, tRep⟩ 20 7 [] = some (.bool true) := by kernel_rfl
theorem known_any (W : World) : Calls Try.prog 7 #[] W fun e w' => e = .returned (.bool true) ∧ Ext W w' :=
  closed (E := ⟨Try.prog, xK, tRep⟩) xK_ok tRep_ok (by kernel_rfl) 20 _ [] _ rfl known_val (fun _ => rfl) W
set_option maxRecDepth 1000000 in
theorem awake_val : valF ⟨Try.prog, xK, tRep⟩ 20 13 [] = some (.bool true) := by kernel_rfl
theorem awake_any (W : World) : Calls Try.prog 13 #[] W fun e w' => e = .returned (.bool true) ∧ Ext W w' :=
  closed (E := ⟨Try.prog, xK, tRep⟩) xK_ok tRep_ok (by kernel_rfl) 20 _ [] _ rfl awake_val (fun _ => rfl) W
end Go.Proofs.Ytpiapipmhlpmjaa
