/-
  Chapter 14: the statement MergeParts: the rounds of its loop.
-/
import Derived.Test.YtmoflcoijmmpjaaCtE
namespace Go.Proofs.Ytmoflcoijmmpjaa
set_option linter.unusedSimpArgs false
set_option linter.unusedVariables false
set_option linter.unusedSectionVars false
open Go Go.RowKit
def mvTab : FuncId → List Nat := fun f => bif Nat.beq f 8 then [35, 44, 48, 55, 59] else []
def mvSy : FuncId → Nat → Option Nat := lsSy 8 [(40, 0), (41, 33), (65, 0), (66, 33), (67, 46), (52, 0), (37, 0)]
def mvV (L : LFun) (T : TFun) : Tv := ⟨T, cmpY, L, mvTab, mvSy, fun _ => [], fun _ => 0⟩
def alV (k : Nat) : Value := .slice (some ⟨420, 0, none⟩) k (capBig + 420)
def mvS (n c M J i : Nat) (al : Value) : List (Nat × Value) := [(0, .slice (some ⟨0, 0, none⟩) n c), (1, .int .i64 (M : Int)), (5, .bool true), (6, ouV J), (8, al), (9, iV i)]
def mvH (n c M J : Nat) (os ds : List DV) : Hp := [(80, ⟨.dp 1 zSl os, []⟩), (4, ⟨.shut, [.int .i64 (M : Int)]⟩), (3, ⟨.shut, [.slice (some ⟨0, 0, none⟩) n c]⟩), (2, ⟨.shut, [ouV J]⟩), (0, ⟨.sd ds, []⟩)]
theorem mv_nf (inr : Bool) (n c M J i : Nat) (os ds xs : List DV) : prjP [0, 1, 5, 6, 8, 9] 421 (codeZ (mvV noL noTz) Try.prog (runZ (mvV noL noTz) Try.prog 12) 8 inr 100000 (bodyIn Try.prog 8 9) (SL 74 (mvS n c M J i nlV)) ( mvH n c M J os ds) 421 [true, false, false, true, false]) =
  Res.ok ((Xt.normal, 74, [(0, Value.slice (some (Addr.mk 0 0 none)) n c), (1, Value.int IntKind.i64 (↑M : Int)), (5, Value.bool true), (6, Value.slice (some (Addr.mk 80 0 none)) J (capBig + 80)), (8, Value.slice (some
 (Addr.mk 424 0 none)) (dLen os (i + 0)) (capBig + 424)), (9, Value.int IntKind.i64 (↑(i + 1) : Int))], [(424, Rw.mk (Kd.dp 3 [Value.slice none 0 0, Value.slice none 0 0, Value.bool false] (List.take (dLen os (i + 0) * 3)
 (List.drop 0 (dSub os (i + 0))))) []), (422, Rw.mk (Kd.sd (dSub os (i + 0))) []), (421, Rw.mk (Kd.sd (dSub os (i + 0))) []), (80, Rw.mk (Kd.dp 1 [Value.slice none 0 0] os) []), (4, Rw.mk Kd.shut [Value.int IntKind.i64 (↑M
 : Int)]), (3, Rw.mk Kd.shut [Value.slice (some (Addr.mk 0 0 none)) n c]), (2, Rw.mk Kd.shut [Value.slice (some (Addr.mk 80 0 none)) J (capBig + 80)]), (0, Rw.mk (Kd.sd ds) [])], 425, [], []), [], [decide ((↑i : Int) < (↑J
 : Int)) = true, (0 : Int) ≤ (↑i : Int) ∧ (↑i : Int) < (↑J : Int), ShOb Try.prog 27 true true os i 421, decide ((↑(dLen os (i + 0)) : Int) < (1 : Int)) = false, decide ((↑(dLen os (i + 0)) : Int) > (↑M : Int)) = false, rg
 IntKind.i64 (↑(i + 1) : Int), decide ((↑(i + 1) : Int) < (↑J : Int)) = true, decide ((↑(dLen os (i + 0)) : Int) < (↑M : Int)) = false, (0 : Int) ≤ (↑i : Int) ∧ (↑i : Int) < (↑J : Int), ShOb Try.prog 27 true true os i 422,
 0 < dLen os (i + 0) ∧ dLen os (i + 0) * 56 ≤ 140737488355328 ∧ dLen os (i + 0) ≤ 9223372036854775807, 0 + dLen os (i + 0) * 3 ≤ List.length (dSub os (i + 0)), DVones (List.take (dLen os (i + 0) * 3) (List.drop 0 (dSub os
 (i + 0)))), rg IntKind.i64 (↑(i + 1) : Int)]) := by kernel_rfl
theorem mv_nl (inr : Bool) (n c M J i : Nat) (os ds xs : List DV) : prjP [0, 1, 5, 6, 8, 9] 421 (codeZ (mvV noL noTz) Try.prog (runZ (mvV noL noTz) Try.prog 12) 8 inr 100000 (bodyIn Try.prog 8 9) (SL 74 (mvS n c M J i nlV)) ( mvH n c M J os ds) 421 [true, false, false, false]) =
  Res.ok ((Xt.normal, 74, [(0, Value.slice (some (Addr.mk 0 0 none)) n c), (1, Value.int IntKind.i64 (↑M : Int)), (5, Value.bool true), (6, Value.slice (some (Addr.mk 80 0 none)) J (capBig + 80)), (8, Value.slice (some
 (Addr.mk 424 0 none)) (dLen os (i + 0)) (capBig + 424)), (9, Value.int IntKind.i64 (↑(i + 1) : Int))], [(424, Rw.mk (Kd.dp 3 [Value.slice none 0 0, Value.slice none 0 0, Value.bool false] (List.take (dLen os (i + 0) * 3)
 (List.drop 0 (dSub os (i + 0))))) []), (422, Rw.mk (Kd.sd (dSub os (i + 0))) []), (421, Rw.mk (Kd.sd (dSub os (i + 0))) []), (80, Rw.mk (Kd.dp 1 [Value.slice none 0 0] os) []), (4, Rw.mk Kd.shut [Value.int IntKind.i64 (↑M
 : Int)]), (3, Rw.mk Kd.shut [Value.slice (some (Addr.mk 0 0 none)) n c]), (2, Rw.mk Kd.shut [Value.slice (some (Addr.mk 80 0 none)) J (capBig + 80)]), (0, Rw.mk (Kd.sd ds) [])], 425, [], []), [], [decide ((↑i : Int) < (↑J
 : Int)) = true, (0 : Int) ≤ (↑i : Int) ∧ (↑i : Int) < (↑J : Int), ShOb Try.prog 27 true true os i 421, decide ((↑(dLen os (i + 0)) : Int) < (1 : Int)) = false, decide ((↑(dLen os (i + 0)) : Int) > (↑M : Int)) = false, rg
 IntKind.i64 (↑(i + 1) : Int), decide ((↑(i + 1) : Int) < (↑J : Int)) = false, (0 : Int) ≤ (↑i : Int) ∧ (↑i : Int) < (↑J : Int), ShOb Try.prog 27 true true os i 422, 0 < dLen os (i + 0) ∧ dLen os (i + 0) * 56 ≤
 140737488355328 ∧ dLen os (i + 0) ≤ 9223372036854775807, 0 + dLen os (i + 0) * 3 ≤ List.length (dSub os (i + 0)), DVones (List.take (dLen os (i + 0) * 3) (List.drop 0 (dSub os (i + 0)))), rg IntKind.i64 (↑(i + 1) : Int)]) := by kernel_rfl
theorem mv_rf (inr : Bool) (n c M J i k : Nat) (os ds xs : List DV) : prjP [0, 1, 5, 6, 8, 9] 421 (codeZ (mvV noL noTz) Try.prog (runZ (mvV noL noTz) Try.prog 12) 8 inr 100000 (bodyIn Try.prog 8 9) (SL 74 (mvS n c M J i (alV k))) ((420, ⟨.dp 3 zPr xs, []⟩) :: mvH n c M J os ds) 421 [true, false, false, true, false]) =
  Res.ok ((Xt.normal, 74, [(0, Value.slice (some (Addr.mk 0 0 none)) n c), (1, Value.int IntKind.i64 (↑M : Int)), (5, Value.bool true), (6, Value.slice (some (Addr.mk 80 0 none)) J (capBig + 80)), (8, Value.slice (some
 (Addr.mk 424 0 none)) (k + dLen os (i + 0)) (capBig + 424)), (9, Value.int IntKind.i64 (↑(i + 1) : Int))], [(424, Rw.mk (Kd.dp 3 [Value.slice none 0 0, Value.slice none 0 0, Value.bool false] (xs ++ List.take (dLen os (i
 + 0) * 3) (List.drop 0 (dSub os (i + 0))))) []), (422, Rw.mk (Kd.sd (dSub os (i + 0))) []), (421, Rw.mk (Kd.sd (dSub os (i + 0))) []), (80, Rw.mk (Kd.dp 1 [Value.slice none 0 0] os) []), (4, Rw.mk Kd.shut [Value.int
 IntKind.i64 (↑M : Int)]), (3, Rw.mk Kd.shut [Value.slice (some (Addr.mk 0 0 none)) n c]), (2, Rw.mk Kd.shut [Value.slice (some (Addr.mk 80 0 none)) J (capBig + 80)]), (0, Rw.mk (Kd.sd ds) [])], 425, [420], []), [],
 [decide ((↑i : Int) < (↑J : Int)) = true, (0 : Int) ≤ (↑i : Int) ∧ (↑i : Int) < (↑J : Int), ShOb Try.prog 27 true true os i 421, decide ((↑(dLen os (i + 0)) : Int) < (1 : Int)) = false, decide ((↑(dLen os (i + 0)) : Int)
 > (↑M : Int)) = false, rg IntKind.i64 (↑(i + 1) : Int), decide ((↑(i + 1) : Int) < (↑J : Int)) = true, decide ((↑(dLen os (i + 0)) : Int) < (↑M : Int)) = false, (0 : Int) ≤ (↑i : Int) ∧ (↑i : Int) < (↑J : Int), ShOb
 Try.prog 27 true true os i 422, capBig + 420 = capBig + 420 ∧ List.length xs = k * 3, (k + dLen os (i + 0)) * 56 ≤ 140737488355328 ∧ k + dLen os (i + 0) ≤ 9223372036854775807, 0 + dLen os (i + 0) * 3 ≤ List.length (dSub
 os (i + 0)), DVones (List.take (dLen os (i + 0) * 3) (List.drop 0 (dSub os (i + 0)))), rg IntKind.i64 (↑(i + 1) : Int)]) := by kernel_rfl
theorem mv_rl (inr : Bool) (n c M J i k : Nat) (os ds xs : List DV) : prjP [0, 1, 5, 6, 8, 9] 421 (codeZ (mvV noL noTz) Try.prog (runZ (mvV noL noTz) Try.prog 12) 8 inr 100000 (bodyIn Try.prog 8 9) (SL 74 (mvS n c M J i (alV k))) ((420, ⟨.dp 3 zPr xs, []⟩) :: mvH n c M J os ds) 421 [true, false, false, false]) =
  Res.ok ((Xt.normal, 74, [(0, Value.slice (some (Addr.mk 0 0 none)) n c), (1, Value.int IntKind.i64 (↑M : Int)), (5, Value.bool true), (6, Value.slice (some (Addr.mk 80 0 none)) J (capBig + 80)), (8, Value.slice (some
 (Addr.mk 424 0 none)) (k + dLen os (i + 0)) (capBig + 424)), (9, Value.int IntKind.i64 (↑(i + 1) : Int))], [(424, Rw.mk (Kd.dp 3 [Value.slice none 0 0, Value.slice none 0 0, Value.bool false] (xs ++ List.take (dLen os (i
 + 0) * 3) (List.drop 0 (dSub os (i + 0))))) []), (422, Rw.mk (Kd.sd (dSub os (i + 0))) []), (421, Rw.mk (Kd.sd (dSub os (i + 0))) []), (80, Rw.mk (Kd.dp 1 [Value.slice none 0 0] os) []), (4, Rw.mk Kd.shut [Value.int
 IntKind.i64 (↑M : Int)]), (3, Rw.mk Kd.shut [Value.slice (some (Addr.mk 0 0 none)) n c]), (2, Rw.mk Kd.shut [Value.slice (some (Addr.mk 80 0 none)) J (capBig + 80)]), (0, Rw.mk (Kd.sd ds) [])], 425, [420], []), [],
 [decide ((↑i : Int) < (↑J : Int)) = true, (0 : Int) ≤ (↑i : Int) ∧ (↑i : Int) < (↑J : Int), ShOb Try.prog 27 true true os i 421, decide ((↑(dLen os (i + 0)) : Int) < (1 : Int)) = false, decide ((↑(dLen os (i + 0)) : Int)
 > (↑M : Int)) = false, rg IntKind.i64 (↑(i + 1) : Int), decide ((↑(i + 1) : Int) < (↑J : Int)) = false, (0 : Int) ≤ (↑i : Int) ∧ (↑i : Int) < (↑J : Int), ShOb Try.prog 27 true true os i 422, capBig + 420 = capBig + 420 ∧
 List.length xs = k * 3, (k + dLen os (i + 0)) * 56 ≤ 140737488355328 ∧ k + dLen os (i + 0) ≤ 9223372036854775807, 0 + dLen os (i + 0) * 3 ≤ List.length (dSub os (i + 0)), DVones (List.take (dLen os (i + 0) * 3) (List.drop
 0 (dSub os (i + 0)))), rg IntKind.i64 (↑(i + 1) : Int)]) := by kernel_rfl
theorem mv_end (inr : Bool) (n c M J i k : Nat) (os ds xs : List DV) : prjP [0, 5, 8] 421 (codeZ (mvV noL noTz) Try.prog (runZ (mvV noL noTz) Try.prog 12) 8 inr 100000 (bodyIn Try.prog 8 9) (SL 74 (mvS n c M J i (alV k))) ((420, ⟨.dp 3 zPr xs, []⟩) :: mvH n c M J os ds) 421 [false]) =
  Res.ok ((Xt.exit 0, 74, [(0, Value.slice (some (Addr.mk 0 0 none)) n c), (5, Value.bool true), (8, Value.slice (some (Addr.mk 420 0 none)) k (capBig + 420))], [(420, Rw.mk (Kd.dp 3 [Value.slice none 0 0, Value.slice none
 0 0, Value.bool false] xs) []), (80, Rw.mk (Kd.dp 1 [Value.slice none 0 0] os) []), (4, Rw.mk Kd.shut [Value.int IntKind.i64 (↑M : Int)]), (3, Rw.mk Kd.shut [Value.slice (some (Addr.mk 0 0 none)) n c]), (2, Rw.mk Kd.shut
 [Value.slice (some (Addr.mk 80 0 none)) J (capBig + 80)]), (0, Rw.mk (Kd.sd ds) [])], 421, [], []), [], [decide ((↑i : Int) < (↑J : Int)) = false]) := by kernel_rfl
end Go.Proofs.Ytmoflcoijmmpjaa
