/-
  NetworkNone: run in the kernel at any message. Conditions: none.
-/
import Derived.Test.YtcahhoemlmbnaaaVmX
import Derived.Test.YtcahhoemlmbnaaaProg
namespace Go.Proofs.Ytcahhoemlmbnaaa
set_option linter.unusedSimpArgs false
set_option linter.unusedVariables false
open Go Go.RowKit
set_option maxRecDepth 1000000 in
theorem none_val0 (a b c d e f g h i k l m n p q r : Int) (ln cp : Nat) : valN ⟨Try.prog, noX, noT⟩ 30 7 [.agg #[.int .i64 a, .int .i64 b, .int .i64 c, .int .i64 d, .int .i64 e, .int .i64 f, .int .i64 g, .int .i64 h, .int .i64 i, .int .u64 k, .int .u64 l, .int .i64 m, .int .i64 n, .int .u64 p, .int .i64 q, .int .i64 r, .slice none ln cp]] 1 = some (.bool true) := by kernel_rfl
set_option maxRecDepth 1000000 in
theorem none_val1 (a b c d e f g h i k l m n p q r : Int) (ln : Nat) (s : Option Nat) : valN ⟨Try.prog, noX, noT⟩ 30 7 [.agg #[.int .i64 a, .int .i64 b, .int .i64 c, .int .i64 d, .int .i64 e, .int .i64 f, .int .i64 g, .int .i64 h, .int .i64 i, .int .u64 k, .int .u64 l, .int .i64 m, .int .i64 n, .int .u64 p, .int .i64 q, .int .i64 r, .slice (some ⟨0, 0, s⟩) ln capBig]] 1 = some (.bool true) := by kernel_rfl
theorem none_any0 (a b c d e f g h i k l m n p q r : Int) (ln cp : Nat) (W : World) : Calls Try.prog 7 #[.agg #[.int .i64 a, .int .i64 b, .int .i64 c, .int .i64 d, .int .i64 e, .int .i64 f, .int .i64 g, .int .i64 h, .int .i64 i, .int .u64 k, .int .u64 l, .int .i64 m, .int .i64 n, .int .u64 p, .int .i64 q, .int .i64 r, .slice none ln cp]] W fun e w' => e = .returned (.bool true) ∧ Ext W w' :=
  closedN (E := ⟨Try.prog, noX, noT⟩) noX_ok noT_ok (by kernel_rfl) 30 _ _ _ 1 (sg1 0 0 0) (sg1_new 0 0 0) _ rfl (none_val0 a b c d e f g h i k l m n p q r ln cp) (fun _ => rfl) W
theorem none_any1 (a b c d e f g h i k l m n p q r : Int) (B o ln cp : Nat) (s : Option Nat) (W : World) : Calls Try.prog 7 #[.agg #[.int .i64 a, .int .i64 b, .int .i64 c, .int .i64 d, .int .i64 e, .int .i64 f, .int .i64 g, .int .i64 h, .int .i64 i, .int .u64 k, .int .u64 l, .int .i64 m, .int .i64 n, .int .u64 p, .int .i64 q, .int .i64 r, .slice (some ⟨B, o, s⟩) ln cp]] W fun e w' => e = .returned (.bool true) ∧ Ext W w' :=
  closedN (E := ⟨Try.prog, noX, noT⟩) noX_ok noT_ok (by kernel_rfl) 30 _ _ [.agg #[.int .i64 a, .int .i64 b, .int .i64 c, .int .i64 d, .int .i64 e, .int .i64 f, .int .i64 g, .int .i64 h, .int .i64 i, .int .u64 k, .int .u64 l, .int .i64 m, .int .i64 n, .int .u64 p, .int .i64 q, .int .i64 r, .slice (some ⟨B, o, s⟩) ln cp]] 1 (sg1 B o cp) (sg1_new B o cp) _
    (by simp [renL, renV, renA, adR, cpR, sg1]) (none_val1 a b c d e f g h i k l m n p q r ln s) (fun _ => rfl) W
end Go.Proofs.Ytcahhoemlmbnaaa
