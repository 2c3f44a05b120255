/-
  Chapter 14: lists of pairs that are gone through: large ones, equal ones, as contracts (as TbL, TbM of chapter 12).
-/
import Derived.Test.YtmoflcoijmmpjaaPrA
namespace Go.Proofs.Ytmoflcoijmmpjaa
set_option linter.unusedSimpArgs false
set_option linter.unusedVariables false
set_option linter.unusedSectionVars false
open Go Go.RowKit
def pxTab : FuncId → List Nat := fun f => bif Nat.beq f 22 then [9, 13, 22, 30] else bif Nat.beq f 16 then [10, 14] else bif Nat.beq f 29 then [9] else bif Nat.beq f 17 then [22] else []
def pxSy : FuncId → Nat → Option Nat := orSy (lsSy 22 [(18, 0), (20, 32), (26, 0), (28, 32), (15, 0), (13, 0)]) (orSy (lsSy 16 [(19, 0), (20, 32), (23, 0), (24, 32), (16, 0)]) (lsSy 29 [(6, 0), (8, 0), (9, 0)]))
def pxV (L : LFun) (T : TFun) : Tv := ⟨T, cmpY, L, pxTab, pxSy, fun _ => [], fun _ => 0⟩
def saA (n : Nat) : Value := .slice (some ⟨0, 0, none⟩) n (capBig + 0)
def sbA (n : Nat) : Value := .slice (some ⟨2, 0, none⟩) n (capBig + 2)
def pxH (ds es : List DV) : Hp := [(0, ⟨.sw ds, []⟩), (2, ⟨.sw es, []⟩)]
theorem py_lp_go (inr : Bool) (n i : Nat) (ds es : List DV) : prjP [0, 5] 10 (codeZ (pxV noL noTz) Try.prog (runZ (pxV noL noTz) Try.prog 9) 22 inr 100000 (bodyIn Try.prog 22 4) (SL 32 [(0, saA n), (5, iV i)]) ([(0, ⟨.sw ds, []⟩)]) 10 [true, false, false]) =
  Res.ok ((Xt.normal, 32, [(0, Value.slice (some (Addr.mk 0 0 none)) n 18446744073709551616), (5, Value.int IntKind.i64 (↑(i + 1) : Int))], [(0, Rw.mk (Kd.sw ds) [])], 12, [], []), [], [decide ((↑i : Int) < (↑n : Int)) =
 true, (0 : Int) ≤ (↑i : Int) ∧ (↑i : Int) < (↑n : Int), ShOb Try.prog 23 false true ds (i * 3 + 0) 10, decide ((↑(dLen ds (i * 3 + 0 + 0)) : Int) > (200 : Int)) = false, (0 : Int) ≤ (↑i : Int) ∧ (↑i : Int) < (↑n : Int),
 ShOb Try.prog 23 false true ds (i * 3 + 1) 11, decide ((↑(dLen ds (i * 3 + 1 + 0)) : Int) > (200 : Int)) = false, rg IntKind.i64 (↑(i + 1) : Int)]) := by kernel_rfl
theorem py_lp_a (inr : Bool) (n i : Nat) (ds es : List DV) : prjP [4] 10 (codeZ (pxV noL noTz) Try.prog (runZ (pxV noL noTz) Try.prog 9) 22 inr 100000 (bodyIn Try.prog 22 4) (SL 32 [(0, saA n), (5, iV i)]) ([(0, ⟨.sw ds, []⟩)]) 10 [true, true]) =
  Res.ok ((Xt.ret, 32, [(4, Value.bool true)], [(0, Rw.mk (Kd.sw ds) [])], 11, [], []), [], [decide ((↑i : Int) < (↑n : Int)) = true, (0 : Int) ≤ (↑i : Int) ∧ (↑i : Int) < (↑n : Int), ShOb Try.prog 23 false true ds (i * 3 +
 0) 10, decide ((↑(dLen ds (i * 3 + 0 + 0)) : Int) > (200 : Int)) = true]) := by kernel_rfl
theorem py_lp_b (inr : Bool) (n i : Nat) (ds es : List DV) : prjP [4] 10 (codeZ (pxV noL noTz) Try.prog (runZ (pxV noL noTz) Try.prog 9) 22 inr 100000 (bodyIn Try.prog 22 4) (SL 32 [(0, saA n), (5, iV i)]) ([(0, ⟨.sw ds, []⟩)]) 10 [true, false, true]) =
  Res.ok ((Xt.ret, 32, [(4, Value.bool true)], [(0, Rw.mk (Kd.sw ds) [])], 12, [], []), [], [decide ((↑i : Int) < (↑n : Int)) = true, (0 : Int) ≤ (↑i : Int) ∧ (↑i : Int) < (↑n : Int), ShOb Try.prog 23 false true ds (i * 3 +
 0) 10, decide ((↑(dLen ds (i * 3 + 0 + 0)) : Int) > (200 : Int)) = false, (0 : Int) ≤ (↑i : Int) ∧ (↑i : Int) < (↑n : Int), ShOb Try.prog 23 false true ds (i * 3 + 1) 11, decide ((↑(dLen ds (i * 3 + 1 + 0)) : Int) > (200
 : Int)) = true]) := by kernel_rfl
theorem py_lp_end (inr : Bool) (n i : Nat) (ds es : List DV) : prjP [] 10 (codeZ (pxV noL noTz) Try.prog (runZ (pxV noL noTz) Try.prog 9) 22 inr 100000 (bodyIn Try.prog 22 4) (SL 32 [(0, saA n), (5, iV i)]) ([(0, ⟨.sw ds, []⟩)]) 10 [false]) =
  Res.ok ((Xt.exit 0, 32, [], [(0, Rw.mk (Kd.sw ds) [])], 10, [], []), [], [decide ((↑i : Int) < (↑n : Int)) = false]) := by kernel_rfl
theorem py_sp_go (inr : Bool) (n i : Nat) (ds es : List DV) : prjP [0, 1, 5] 10 (codeZ (pxV noL noTz) Try.prog (runZ (pxV noL noTz) Try.prog 9) 16 inr 100000 (bodyIn Try.prog 16 4) (SL 27 [(0, saA n), (1, sbA n), (5, iV i)]) (pxH ds es) 10 [true, true, true, true]) =
  Res.ok ((Xt.normal, 27, [(0, Value.slice (some (Addr.mk 0 0 none)) n 18446744073709551616), (1, Value.slice (some (Addr.mk 2 0 none)) n (capBig + 2)), (5, Value.int IntKind.i64 (↑(i + 1) : Int))], [(0, Rw.mk (Kd.sw ds)
 []), (2, Rw.mk (Kd.sw es) [])], 16, [], []), [], [decide ((↑i : Int) < (↑n : Int)) = true, (0 : Int) ≤ (↑i : Int) ∧ (↑i : Int) < (↑n : Int), ShOb Try.prog 32 false true ds (i * 3) 10, (0 : Int) ≤ (↑i : Int) ∧ (↑i : Int) <
 (↑n : Int), ShOb Try.prog 32 false true es (i * 3) 12, dLen ds (i * 3 + 0) ≤ List.length (dVals ds (i * 3 + 0)), List.take (dLen ds (i * 3 + 0)) (dVals ds (i * 3 + 0)) = List.map (Value.int IntKind.u8) (intsOf (List.take
 (dLen ds (i * 3 + 0)) (dVals ds (i * 3 + 0)))), dLen es (i * 3 + 0) ≤ List.length (dVals es (i * 3 + 0)), List.take (dLen es (i * 3 + 0)) (dVals es (i * 3 + 0)) = List.map (Value.int IntKind.u8) (intsOf (List.take (dLen
 es (i * 3 + 0)) (dVals es (i * 3 + 0)))), strEq (strOfI (intsOf (List.take (dLen ds (i * 3 + 0)) (dVals ds (i * 3 + 0))))) (strOfI (intsOf (List.take (dLen es (i * 3 + 0)) (dVals es (i * 3 + 0))))) = true, dLen ds (i * 3
 + 1) ≤ List.length (dVals ds (i * 3 + 1)), List.take (dLen ds (i * 3 + 1)) (dVals ds (i * 3 + 1)) = List.map (Value.int IntKind.u8) (intsOf (List.take (dLen ds (i * 3 + 1)) (dVals ds (i * 3 + 1)))), dLen es (i * 3 + 1) ≤
 List.length (dVals es (i * 3 + 1)), List.take (dLen es (i * 3 + 1)) (dVals es (i * 3 + 1)) = List.map (Value.int IntKind.u8) (intsOf (List.take (dLen es (i * 3 + 1)) (dVals es (i * 3 + 1)))), strEq (strOfI (intsOf
 (List.take (dLen ds (i * 3 + 1)) (dVals ds (i * 3 + 1))))) (strOfI (intsOf (List.take (dLen es (i * 3 + 1)) (dVals es (i * 3 + 1))))) = true, (dBool ds (i * 3 + 2) == dBool es (i * 3 + 2)) = true, rg IntKind.i64 (↑(i + 1)
 : Int)]) := by kernel_rfl
theorem py_sp_end (inr : Bool) (n i : Nat) (ds es : List DV) : prjP [] 10 (codeZ (pxV noL noTz) Try.prog (runZ (pxV noL noTz) Try.prog 9) 16 inr 100000 (bodyIn Try.prog 16 4) (SL 27 [(0, saA n), (1, sbA n), (5, iV i)]) (pxH ds es) 10 [false]) =
  Res.ok ((Xt.exit 0, 27, [], [(0, Rw.mk (Kd.sw ds) []), (2, Rw.mk (Kd.sw es) [])], 10, [], []), [], [decide ((↑i : Int) < (↑n : Int)) = false]) := by kernel_rfl
end Go.Proofs.Ytmoflcoijmmpjaa
