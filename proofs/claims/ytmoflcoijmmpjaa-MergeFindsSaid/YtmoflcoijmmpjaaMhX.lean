/-
  Chapter 14: merge.heap.down: runs of its rounds.
-/
import Derived.Test.YtmoflcoijmmpjaaMgX
import Derived.Test.YtmoflcoijmmpjaaDwT
namespace Go.Proofs.Ytmoflcoijmmpjaa
set_option linter.unusedSimpArgs false
set_option linter.unusedVariables false
set_option linter.unusedSectionVars false
open Go Go.RowKit
def hdD (H : List Hd) : List DV := H.flatMap fun h => [.sl h.1.length none (cpD h.1), .fl (.int .i64 (h.2 : Int))]
def zHd : List Value := [.slice none 0 0, .int .i64 0]
def haA (n : Nat) : Value := .slice (some ⟨0, 0, none⟩) n (capBig + 0)
def mdwTab : FuncId → List Nat := fun f => bif Nat.beq f 32 then [14, 19, 35] else bif Nat.beq f 42 then [18, 21, 27] else []
def mdwSy : FuncId → Nat → Option Nat := orSy (lsSy 32 [(8, 0), (9, 0), (12, 0), (13, 0), (14, 0), (19, 0), (22, 0), (25, 0), (26, 37), (29, 0), (30, 37), (35, 0), (42, 0), (43, 37), (46, 0), (47, 37), (48, 0), (100048, 52), (49, 0), (100049, 52)]) (lsSy 42 [(8, 0), (10, 36), (13, 0), (15, 36), (18, 0), (21, 0), (27, 0)])
def mdwV (L : LFun) (T : TFun) : Tv := ⟨T, cmpY, L, mdwTab, mdwSy, fun _ => [], fun _ => 0⟩
theorem dw_z (inr : Bool) (n i : Nat) (ds : List DV) : prjP [] 1 (codeZ (mdwV noL noTz) Try.prog (runZ (mdwV noL noTz) Try.prog 12) 32 inr 100000 (bodyIn Try.prog 32 0) (SL 51 [(0, haA n), (1, iV i)]) [(0, ⟨.dw 2 zHd ds, []⟩)] 1
 [true, false, true])
 =
  (let a1 := (↑(2 * i + 1) : Int); Res.ok ((Xt.ret, 51, [], [(0, Rw.mk (Kd.dw 2 [Value.slice none 0 0, Value.int IntKind.i64 (0 : Int)] ds) [])], 1, [], []), [], [rg IntKind.i64 (↑(2 * i) : Int), rg IntKind.i64 a1, rg IntKind.i64
 (↑(2 * i) : Int), rg IntKind.i64 (↑(2 * i + 2) : Int), decide (a1 ≤ (↑(2 * i + 2) : Int)) = true, decide (a1 < (↑n : Int)) = false, ((↑i : Int) == (↑i : Int)) = true])) := by
 kernel_rfl
theorem dw_ol (inr : Bool) (n i : Nat) (ds : List DV) : prjP [0, 1] 1 (codeZ (mdwV noL noTz) Try.prog (runZ (mdwV noL noTz) Try.prog 12) 32 inr 100000 (bodyIn Try.prog 32 0) (SL 51 [(0, haA n), (1, iV i)]) [(0, ⟨.dw 2 zHd ds,
 []⟩)] 1 [true, true, true, true, false, false])
 =
  (let a9 := (↑i : Int); let a8 := (↑(2 * i + 2) : Int); let a7 := (↑(2 * i + 1 + 1) : Int); let a6 := (2 * i + 1); let a4 := (↑a6 : Int); let a3 := (dSub ds (i * 2 + 0)); let a1 := (a6 * 2 + 0); let a5 := (dSub ds a1); let a2 :=
 (setD ds (i * 2) [DV.sl (dLen ds a1) none a5, DV.fl (Value.int IntKind.i64 (dInt ds (a6 * 2 + 1)))]); Res.ok ((Xt.normal, 51, [(0, Value.slice (some (Addr.mk 0 0 none)) n 18446744073709551616), (1, Value.int IntKind.i64 a4)], [(0,
 Rw.mk (Kd.dw 2 [Value.slice none 0 0, Value.int IntKind.i64 (0 : Int)] (setD a2 (a6 * 2) [DV.sl (dLen ds (i * 2 + 0)) none a3, DV.fl (Value.int IntKind.i64 (dInt ds (i * 2 + 1)))])) []), (1, Rw.mk (Kd.sw a5) []), (2, Rw.mk (Kd.sw
 a3) []), (7, Rw.mk (Kd.sw a5) []), (8, Rw.mk (Kd.sw a3) [])], 9, [0, 0], []), [], ((fun (q0 q1 q2 q3 : Prop) => [q0, rg IntKind.i64 a4, q0, q1, decide (a4 ≤ a8) = true, decide (a4 < (↑n : Int)) = true, q2, ShOb Try.prog 56 true
 true ds (a6 * 2) 1, q3, ShOb Try.prog 56 true true ds (i * 2) 2, (0 : Int) ≤ (0 : Int) ∧ (0 : Int) < (↑(dLen ds a1) : Int), ShOb Try.prog 23 false true a5 0 5, (0 : Int) ≤ (0 : Int) ∧ (0 : Int) < (↑(dLen ds (i * 2 + 0)) : Int),
 ShOb Try.prog 23 false true a3 0 6, BytI (dLen a5 0) (dVals a5 0), BytI (dLen a3 0) (dVals a3 0), decide (cmpI (intsOf (dVals a5 0)) (intsOf (dVals a3 0)) < (0 : Int)) = true, rg IntKind.i64 a7, q0, q1, decide (a7 ≤ a8) = true,
 decide (a7 < (↑n : Int)) = false, (a4 == a9) = false, q2, ShOb Try.prog 56 true true ds (a6 * 2) 7, q3, ShOb Try.prog 56 true true ds (i * 2) 8, q3, i * 2 + 2 ≤ List.length ds, dLen ds (ixO 0 (Int.toNat (adI (mlI (2 : Int) a9) (1
 : Int))) 2 + 0) = 0 → dSub ds a1 = [], q2, a6 * 2 + 2 ≤ List.length a2, dLen ds (ixO 0 (Int.toNat a9) 2 + 0) = 0 → dSub ds (i * 2 + 0) = []]) (rg IntKind.i64 (↑(2 * i) : Int)) (rg IntKind.i64 a8) ((0 : Int) ≤ a4 ∧ a4 < (↑n : Int))
 ((0 : Int) ≤ a9 ∧ a9 < (↑n : Int))))) := by
 kernel_rfl
theorem dw_oa (inr : Bool) (n i : Nat) (ds : List DV) : prjP [0, 1] 1 (codeZ (mdwV noL noTz) Try.prog (runZ (mdwV noL noTz) Try.prog 12) 32 inr 100000 (bodyIn Try.prog 32 0) (SL 51 [(0, haA n), (1, iV i)]) [(0, ⟨.dw 2 zHd ds,
 []⟩)] 1 [true, true, false, true, true, true, false, false])
 =
  (let a8 := (↑i : Int); let a7 := (↑(2 * i + 2) : Int); let a6 := (↑(2 * i + 1 + 1) : Int); let a3 := (dSub ds (i * 2 + 0)); let a2 := (2 * i + 1); let a9 := (a2 * 2 + 0); let a5 := (↑a2 : Int); let a1 := (dSub ds a9); let a4 :=
 (setD ds (i * 2) [DV.sl (dLen ds a9) none a1, DV.fl (Value.int IntKind.i64 (dInt ds (a2 * 2 + 1)))]); Res.ok ((Xt.normal, 51, [(0, Value.slice (some (Addr.mk 0 0 none)) n 18446744073709551616), (1, Value.int IntKind.i64 a5)], [(0,
 Rw.mk (Kd.dw 2 [Value.slice none 0 0, Value.int IntKind.i64 (0 : Int)] (setD a4 (a2 * 2) [DV.sl (dLen ds (i * 2 + 0)) none a3, DV.fl (Value.int IntKind.i64 (dInt ds (i * 2 + 1)))])) []), (1, Rw.mk (Kd.sw a1) []), (2, Rw.mk (Kd.sw
 a3) []), (7, Rw.mk (Kd.sw a1) []), (8, Rw.mk (Kd.sw a3) [])], 9, [0, 0], []), [], ((fun (q0 q1 q2 q3 : Prop) => [q0, rg IntKind.i64 a5, q0, q1, decide (a5 ≤ a7) = true, decide (a5 < (↑n : Int)) = true, q2, ShOb Try.prog 56 true
 true ds (a2 * 2) 1, q3, ShOb Try.prog 56 true true ds (i * 2) 2, (0 : Int) ≤ (0 : Int) ∧ (0 : Int) < (↑(dLen ds a9) : Int), ShOb Try.prog 23 false true a1 0 5, (0 : Int) ≤ (0 : Int) ∧ (0 : Int) < (↑(dLen ds (i * 2 + 0)) : Int),
 ShOb Try.prog 23 false true a3 0 6, BytI (dLen a1 0) (dVals a1 0), BytI (dLen a3 0) (dVals a3 0), decide (cmpI (intsOf (dVals a1 0)) (intsOf (dVals a3 0)) < (0 : Int)) = false, (cmpI (intsOf (dVals a1 0)) (intsOf (dVals a3 0)) ==
 (0 : Int)) = true, decide (dInt ds (a2 * 2 + 1) < dInt ds (i * 2 + 1)) = true, rg IntKind.i64 a6, q0, q1, decide (a6 ≤ a7) = true, decide (a6 < (↑n : Int)) = false, (a5 == a8) = false, q2, ShOb Try.prog 56 true true ds (a2 * 2) 7,
 q3, ShOb Try.prog 56 true true ds (i * 2) 8, q3, i * 2 + 2 ≤ List.length ds, dLen ds (ixO 0 (Int.toNat (adI (mlI (2 : Int) a8) (1 : Int))) 2 + 0) = 0 → dSub ds a9 = [], q2, a2 * 2 + 2 ≤ List.length a4, dLen ds (ixO 0 (Int.toNat
 a8) 2 + 0) = 0 → dSub ds (i * 2 + 0) = []]) (rg IntKind.i64 (↑(2 * i) : Int)) (rg IntKind.i64 a7) ((0 : Int) ≤ a5 ∧ a5 < (↑n : Int)) ((0 : Int) ≤ a8 ∧ a8 < (↑n : Int))))) := by
 kernel_rfl
theorem dw_ob (inr : Bool) (n i : Nat) (ds : List DV) : prjP [] 1 (codeZ (mdwV noL noTz) Try.prog (runZ (mdwV noL noTz) Try.prog 12) 32 inr 100000 (bodyIn Try.prog 32 0) (SL 51 [(0, haA n), (1, iV i)]) [(0, ⟨.dw 2 zHd ds, []⟩)] 1
 [true, true, false, true, false, true, false, true])
 =
  (let a6 := (2 * i + 1); let a5 := (↑(2 * i + 1 + 1) : Int); let a4 := (↑(2 * i + 2) : Int); let a3 := (↑a6 : Int); let a2 := (dSub ds (i * 2 + 0)); let a1 := (dSub ds (a6 * 2 + 0)); Res.ok ((Xt.ret, 51, [], [(0, Rw.mk (Kd.dw 2
 [Value.slice none 0 0, Value.int IntKind.i64 (0 : Int)] ds) []), (1, Rw.mk (Kd.sw a1) []), (2, Rw.mk (Kd.sw a2) [])], 7, [], []), [], [rg IntKind.i64 (↑(2 * i) : Int), rg IntKind.i64 a3, rg IntKind.i64 (↑(2 * i) : Int), rg
 IntKind.i64 a4, decide (a3 ≤ a4) = true, decide (a3 < (↑n : Int)) = true, (0 : Int) ≤ a3 ∧ a3 < (↑n : Int), ShOb Try.prog 56 true true ds (a6 * 2) 1, (0 : Int) ≤ (↑i : Int) ∧ (↑i : Int) < (↑n : Int), ShOb Try.prog 56 true true ds
 (i * 2) 2, (0 : Int) ≤ (0 : Int) ∧ (0 : Int) < (↑(dLen ds (a6 * 2 + 0)) : Int), ShOb Try.prog 23 false true a1 0 5, (0 : Int) ≤ (0 : Int) ∧ (0 : Int) < (↑(dLen ds (i * 2 + 0)) : Int), ShOb Try.prog 23 false true a2 0 6, BytI (dLen
 a1 0) (dVals a1 0), BytI (dLen a2 0) (dVals a2 0), decide (cmpI (intsOf (dVals a1 0)) (intsOf (dVals a2 0)) < (0 : Int)) = false, (cmpI (intsOf (dVals a1 0)) (intsOf (dVals a2 0)) == (0 : Int)) = true, decide (dInt ds (a6 * 2 + 1)
 < dInt ds (i * 2 + 1)) = false, rg IntKind.i64 a5, rg IntKind.i64 (↑(2 * i) : Int), rg IntKind.i64 a4, decide (a5 ≤ a4) = true, decide (a5 < (↑n : Int)) = false, ((↑i : Int) == (↑i : Int)) = true])) := by
 kernel_rfl
theorem dw_og (inr : Bool) (n i : Nat) (ds : List DV) : prjP [] 1 (codeZ (mdwV noL noTz) Try.prog (runZ (mdwV noL noTz) Try.prog 12) 32 inr 100000 (bodyIn Try.prog 32 0) (SL 51 [(0, haA n), (1, iV i)]) [(0, ⟨.dw 2 zHd ds, []⟩)] 1
 [true, true, false, false, true, false, true])
 =
  (let a5 := (↑(2 * i + 1 + 1) : Int); let a4 := (↑(2 * i + 2) : Int); let a3 := (↑(2 * i + 1) : Int); let a2 := (dSub ds (i * 2 + 0)); let a1 := (dSub ds ((2 * i + 1) * 2 + 0)); Res.ok ((Xt.ret, 51, [], [(0, Rw.mk (Kd.dw 2
 [Value.slice none 0 0, Value.int IntKind.i64 (0 : Int)] ds) []), (1, Rw.mk (Kd.sw a1) []), (2, Rw.mk (Kd.sw a2) [])], 7, [], []), [], [rg IntKind.i64 (↑(2 * i) : Int), rg IntKind.i64 a3, rg IntKind.i64 (↑(2 * i) : Int), rg
 IntKind.i64 a4, decide (a3 ≤ a4) = true, decide (a3 < (↑n : Int)) = true, (0 : Int) ≤ a3 ∧ a3 < (↑n : Int), ShOb Try.prog 56 true true ds ((2 * i + 1) * 2) 1, (0 : Int) ≤ (↑i : Int) ∧ (↑i : Int) < (↑n : Int), ShOb Try.prog 56 true
 true ds (i * 2) 2, (0 : Int) ≤ (0 : Int) ∧ (0 : Int) < (↑(dLen ds ((2 * i + 1) * 2 + 0)) : Int), ShOb Try.prog 23 false true a1 0 5, (0 : Int) ≤ (0 : Int) ∧ (0 : Int) < (↑(dLen ds (i * 2 + 0)) : Int), ShOb Try.prog 23 false true
 a2 0 6, BytI (dLen a1 0) (dVals a1 0), BytI (dLen a2 0) (dVals a2 0), decide (cmpI (intsOf (dVals a1 0)) (intsOf (dVals a2 0)) < (0 : Int)) = false, (cmpI (intsOf (dVals a1 0)) (intsOf (dVals a2 0)) == (0 : Int)) = false, rg
 IntKind.i64 a5, rg IntKind.i64 (↑(2 * i) : Int), rg IntKind.i64 a4, decide (a5 ≤ a4) = true, decide (a5 < (↑n : Int)) = false, ((↑i : Int) == (↑i : Int)) = true])) := by
 kernel_rfl
theorem dw_tll (inr : Bool) (n i : Nat) (ds : List DV) : prjP [0, 1] 1 (codeZ (mdwV noL noTz) Try.prog (runZ (mdwV noL noTz) Try.prog 12) 32 inr 100000 (bodyIn Try.prog 32 0) (SL 51 [(0, haA n), (1, iV i)]) [(0, ⟨.dw 2 zHd ds,
 []⟩)] 1 [true, true, true, true, true, true, false, false])
 =
  (let a11 := (↑i : Int); let a10 := (↑n : Int); let a9 := (2 * i + 1); let a7 := (↑(2 * i + 2) : Int); let a6 := (↑a9 : Int); let a4 := (dSub ds (i * 2 + 0)); let a2 := (dSub ds (a9 * 2 + 0)); let a1 := (2 * i + 1 + 1); let a12
 := (a1 * 2 + 0); let a8 := (↑a1 : Int); let a3 := (dSub ds a12); let a5 := (setD ds (i * 2) [DV.sl (dLen ds a12) none a3, DV.fl (Value.int IntKind.i64 (dInt ds (a1 * 2 + 1)))]); Res.ok ((Xt.normal, 51, [(0, Value.slice (some
 (Addr.mk 0 0 none)) n 18446744073709551616), (1, Value.int IntKind.i64 a8)], [(0, Rw.mk (Kd.dw 2 [Value.slice none 0 0, Value.int IntKind.i64 (0 : Int)] (setD a5 (a1 * 2) [DV.sl (dLen ds (i * 2 + 0)) none a4, DV.fl (Value.int
 IntKind.i64 (dInt ds (i * 2 + 1)))])) []), (1, Rw.mk (Kd.sw a2) []), (2, Rw.mk (Kd.sw a4) []), (7, Rw.mk (Kd.sw a3) []), (8, Rw.mk (Kd.sw a2) []), (13, Rw.mk (Kd.sw a3) []), (14, Rw.mk (Kd.sw a4) [])], 15, [0, 0], []), [], ((fun
 (q0 q1 q2 q3 q4 q5 q6 : Prop) => [q0, rg IntKind.i64 a6, q0, q1, decide (a6 ≤ a7) = true, decide (a6 < a10) = true, q2, ShOb Try.prog 56 true true ds (a9 * 2) 1, q3, ShOb Try.prog 56 true true ds (i * 2) 2, q4, ShOb Try.prog 23
 false true a2 0 5, (0 : Int) ≤ (0 : Int) ∧ (0 : Int) < (↑(dLen ds (i * 2 + 0)) : Int), ShOb Try.prog 23 false true a4 0 6, q5, BytI (dLen a4 0) (dVals a4 0), decide (cmpI (intsOf (dVals a2 0)) (intsOf (dVals a4 0)) < (0 : Int)) =
 true, rg IntKind.i64 a8, q0, q1, decide (a8 ≤ a7) = true, decide (a8 < a10) = true, q6, ShOb Try.prog 56 true true ds (a1 * 2) 7, q2, ShOb Try.prog 56 true true ds (a9 * 2) 8, (0 : Int) ≤ (0 : Int) ∧ (0 : Int) < (↑(dLen ds a12) :
 Int), ShOb Try.prog 23 false true a3 0 11, q4, ShOb Try.prog 23 false true a2 0 12, BytI (dLen a3 0) (dVals a3 0), q5, decide (cmpI (intsOf (dVals a3 0)) (intsOf (dVals a2 0)) < (0 : Int)) = true, rg IntKind.i64 (↑(2 * i + 1 + 1 +
 1) : Int), q0, q1, decide ((↑(2 * i + 1 + 1 + 1) : Int) ≤ a7) = false, (a8 == a11) = false, q6, ShOb Try.prog 56 true true ds (a1 * 2) 13, q3, ShOb Try.prog 56 true true ds (i * 2) 14, q3, i * 2 + 2 ≤ List.length ds, dLen ds (ixO
 0 (Int.toNat (adI (adI (mlI (2 : Int) a11) (1 : Int)) (1 : Int))) 2 + 0) = 0 → dSub ds a12 = [], q6, a1 * 2 + 2 ≤ List.length a5, dLen ds (ixO 0 (Int.toNat a11) 2 + 0) = 0 → dSub ds (i * 2 + 0) = []]) (rg IntKind.i64 (↑(2 * i) :
 Int)) (rg IntKind.i64 a7) ((0 : Int) ≤ a6 ∧ a6 < a10) ((0 : Int) ≤ a11 ∧ a11 < a10) ((0 : Int) ≤ (0 : Int) ∧ (0 : Int) < (↑(dLen ds (a9 * 2 + 0)) : Int)) (BytI (dLen a2 0) (dVals a2 0)) ((0 : Int) ≤ a8 ∧ a8 < a10)))) := by
 kernel_rfl
theorem dw_tla (inr : Bool) (n i : Nat) (ds : List DV) : prjP [0, 1] 1 (codeZ (mdwV noL noTz) Try.prog (runZ (mdwV noL noTz) Try.prog 12) 32 inr 100000 (bodyIn Try.prog 32 0) (SL 51 [(0, haA n), (1, iV i)]) [(0, ⟨.dw 2 zHd ds,
 []⟩)] 1 [true, true, true, true, true, false, true, true, false, false])
 =
  (let a12 := (↑i : Int); let a11 := (↑n : Int); let a7 := (↑(2 * i + 2) : Int); let a6 := (2 * i + 1); let a10 := (↑a6 : Int); let a4 := (dSub ds (i * 2 + 0)); let a2 := (dSub ds (a6 * 2 + 0)); let a9 := (intsOf (dVals a2 0));
 let a1 := (2 * i + 1 + 1); let a13 := (a1 * 2 + 0); let a8 := (↑a1 : Int); let a3 := (dSub ds a13); let a5 := (setD ds (i * 2) [DV.sl (dLen ds a13) none a3, DV.fl (Value.int IntKind.i64 (dInt ds (a1 * 2 + 1)))]); Res.ok
 ((Xt.normal, 51, [(0, Value.slice (some (Addr.mk 0 0 none)) n 18446744073709551616), (1, Value.int IntKind.i64 a8)], [(0, Rw.mk (Kd.dw 2 [Value.slice none 0 0, Value.int IntKind.i64 (0 : Int)] (setD a5 (a1 * 2) [DV.sl (dLen ds (i
 * 2 + 0)) none a4, DV.fl (Value.int IntKind.i64 (dInt ds (i * 2 + 1)))])) []), (1, Rw.mk (Kd.sw a2) []), (2, Rw.mk (Kd.sw a4) []), (7, Rw.mk (Kd.sw a3) []), (8, Rw.mk (Kd.sw a2) []), (13, Rw.mk (Kd.sw a3) []), (14, Rw.mk (Kd.sw
 a4) [])], 15, [0, 0], []), [], ((fun (q0 q1 q2 q3 q4 q5 q6 : Prop) => [q0, rg IntKind.i64 a10, q0, q1, decide (a10 ≤ a7) = true, decide (a10 < a11) = true, q2, ShOb Try.prog 56 true true ds (a6 * 2) 1, q3, ShOb Try.prog 56 true
 true ds (i * 2) 2, q4, ShOb Try.prog 23 false true a2 0 5, (0 : Int) ≤ (0 : Int) ∧ (0 : Int) < (↑(dLen ds (i * 2 + 0)) : Int), ShOb Try.prog 23 false true a4 0 6, q5, BytI (dLen a4 0) (dVals a4 0), decide (cmpI a9 (intsOf (dVals
 a4 0)) < (0 : Int)) = true, rg IntKind.i64 a8, q0, q1, decide (a8 ≤ a7) = true, decide (a8 < a11) = true, q6, ShOb Try.prog 56 true true ds (a1 * 2) 7, q2, ShOb Try.prog 56 true true ds (a6 * 2) 8, (0 : Int) ≤ (0 : Int) ∧ (0 :
 Int) < (↑(dLen ds a13) : Int), ShOb Try.prog 23 false true a3 0 11, q4, ShOb Try.prog 23 false true a2 0 12, BytI (dLen a3 0) (dVals a3 0), q5, decide (cmpI (intsOf (dVals a3 0)) a9 < (0 : Int)) = false, (cmpI (intsOf (dVals a3
 0)) a9 == (0 : Int)) = true, decide (dInt ds (a1 * 2 + 1) < dInt ds (a6 * 2 + 1)) = true, rg IntKind.i64 (↑(2 * i + 1 + 1 + 1) : Int), q0, q1, decide ((↑(2 * i + 1 + 1 + 1) : Int) ≤ a7) = false, (a8 == a12) = false, q6, ShOb
 Try.prog 56 true true ds (a1 * 2) 13, q3, ShOb Try.prog 56 true true ds (i * 2) 14, q3, i * 2 + 2 ≤ List.length ds, dLen ds (ixO 0 (Int.toNat (adI (adI (mlI (2 : Int) a12) (1 : Int)) (1 : Int))) 2 + 0) = 0 → dSub ds a13 = [], q6,
 a1 * 2 + 2 ≤ List.length a5, dLen ds (ixO 0 (Int.toNat a12) 2 + 0) = 0 → dSub ds (i * 2 + 0) = []]) (rg IntKind.i64 (↑(2 * i) : Int)) (rg IntKind.i64 a7) ((0 : Int) ≤ a10 ∧ a10 < a11) ((0 : Int) ≤ a12 ∧ a12 < a11) ((0 : Int) ≤ (0
 : Int) ∧ (0 : Int) < (↑(dLen ds (a6 * 2 + 0)) : Int)) (BytI (dLen a2 0) (dVals a2 0)) ((0 : Int) ≤ a8 ∧ a8 < a11)))) := by
 kernel_rfl
theorem dw_tlb (inr : Bool) (n i : Nat) (ds : List DV) : prjP [0, 1] 1 (codeZ (mdwV noL noTz) Try.prog (runZ (mdwV noL noTz) Try.prog 12) 32 inr 100000 (bodyIn Try.prog 32 0) (SL 51 [(0, haA n), (1, iV i)]) [(0, ⟨.dw 2 zHd ds,
 []⟩)] 1 [true, true, true, true, true, false, true, false, false, false])
 =
  (let a12 := (↑i : Int); let a11 := (↑n : Int); let a7 := (↑(2 * i + 2) : Int); let a6 := (2 * i + 1 + 1); let a10 := (↑a6 : Int); let a4 := (dSub ds (i * 2 + 0)); let a3 := (2 * i + 1); let a13 := (a3 * 2 + 0); let a8 := (↑a3 :
 Int); let a2 := (dSub ds (a6 * 2 + 0)); let a1 := (dSub ds a13); let a9 := (intsOf (dVals a1 0)); let a5 := (setD ds (i * 2) [DV.sl (dLen ds a13) none a1, DV.fl (Value.int IntKind.i64 (dInt ds (a3 * 2 + 1)))]); Res.ok ((Xt.normal,
 51, [(0, Value.slice (some (Addr.mk 0 0 none)) n 18446744073709551616), (1, Value.int IntKind.i64 a8)], [(0, Rw.mk (Kd.dw 2 [Value.slice none 0 0, Value.int IntKind.i64 (0 : Int)] (setD a5 (a3 * 2) [DV.sl (dLen ds (i * 2 + 0))
 none a4, DV.fl (Value.int IntKind.i64 (dInt ds (i * 2 + 1)))])) []), (1, Rw.mk (Kd.sw a1) []), (2, Rw.mk (Kd.sw a4) []), (7, Rw.mk (Kd.sw a2) []), (8, Rw.mk (Kd.sw a1) []), (13, Rw.mk (Kd.sw a1) []), (14, Rw.mk (Kd.sw a4) [])],
 15, [0, 0], []), [], ((fun (q0 q1 q2 q3 q4 q5 : Prop) => [q0, rg IntKind.i64 a8, q0, q1, decide (a8 ≤ a7) = true, decide (a8 < a11) = true, q2, ShOb Try.prog 56 true true ds (a3 * 2) 1, q3, ShOb Try.prog 56 true true ds (i * 2) 2,
 q4, ShOb Try.prog 23 false true a1 0 5, (0 : Int) ≤ (0 : Int) ∧ (0 : Int) < (↑(dLen ds (i * 2 + 0)) : Int), ShOb Try.prog 23 false true a4 0 6, q5, BytI (dLen a4 0) (dVals a4 0), decide (cmpI a9 (intsOf (dVals a4 0)) < (0 : Int))
 = true, rg IntKind.i64 a10, q0, q1, decide (a10 ≤ a7) = true, decide (a10 < a11) = true, (0 : Int) ≤ a10 ∧ a10 < a11, ShOb Try.prog 56 true true ds (a6 * 2) 7, q2, ShOb Try.prog 56 true true ds (a3 * 2) 8, (0 : Int) ≤ (0 : Int) ∧
 (0 : Int) < (↑(dLen ds (a6 * 2 + 0)) : Int), ShOb Try.prog 23 false true a2 0 11, q4, ShOb Try.prog 23 false true a1 0 12, BytI (dLen a2 0) (dVals a2 0), q5, decide (cmpI (intsOf (dVals a2 0)) a9 < (0 : Int)) = false, (cmpI
 (intsOf (dVals a2 0)) a9 == (0 : Int)) = true, decide (dInt ds (a6 * 2 + 1) < dInt ds (a3 * 2 + 1)) = false, rg IntKind.i64 (↑(2 * i + 1 + 1 + 1) : Int), q0, q1, decide ((↑(2 * i + 1 + 1 + 1) : Int) ≤ a7) = false, (a8 == a12) =
 false, q2, ShOb Try.prog 56 true true ds (a3 * 2) 13, q3, ShOb Try.prog 56 true true ds (i * 2) 14, q3, i * 2 + 2 ≤ List.length ds, dLen ds (ixO 0 (Int.toNat (adI (mlI (2 : Int) a12) (1 : Int))) 2 + 0) = 0 → dSub ds a13 = [], q2,
 a3 * 2 + 2 ≤ List.length a5, dLen ds (ixO 0 (Int.toNat a12) 2 + 0) = 0 → dSub ds (i * 2 + 0) = []]) (rg IntKind.i64 (↑(2 * i) : Int)) (rg IntKind.i64 a7) ((0 : Int) ≤ a8 ∧ a8 < a11) ((0 : Int) ≤ a12 ∧ a12 < a11) ((0 : Int) ≤ (0 :
 Int) ∧ (0 : Int) < (↑(dLen ds a13) : Int)) (BytI (dLen a1 0) (dVals a1 0))))) := by
 kernel_rfl
theorem dw_tlg (inr : Bool) (n i : Nat) (ds : List DV) : prjP [0, 1] 1 (codeZ (mdwV noL noTz) Try.prog (runZ (mdwV noL noTz) Try.prog 12) 32 inr 100000 (bodyIn Try.prog 32 0) (SL 51 [(0, haA n), (1, iV i)]) [(0, ⟨.dw 2 zHd ds,
 []⟩)] 1 [true, true, true, true, true, false, false, false, false])
 =
  (let a12 := (↑i : Int); let a11 := (↑n : Int); let a7 := (↑(2 * i + 2) : Int); let a6 := (2 * i + 1 + 1); let a10 := (↑a6 : Int); let a4 := (dSub ds (i * 2 + 0)); let a3 := (2 * i + 1); let a13 := (a3 * 2 + 0); let a8 := (↑a3 :
 Int); let a2 := (dSub ds (a6 * 2 + 0)); let a1 := (dSub ds a13); let a9 := (intsOf (dVals a1 0)); let a5 := (setD ds (i * 2) [DV.sl (dLen ds a13) none a1, DV.fl (Value.int IntKind.i64 (dInt ds (a3 * 2 + 1)))]); Res.ok ((Xt.normal,
 51, [(0, Value.slice (some (Addr.mk 0 0 none)) n 18446744073709551616), (1, Value.int IntKind.i64 a8)], [(0, Rw.mk (Kd.dw 2 [Value.slice none 0 0, Value.int IntKind.i64 (0 : Int)] (setD a5 (a3 * 2) [DV.sl (dLen ds (i * 2 + 0))
 none a4, DV.fl (Value.int IntKind.i64 (dInt ds (i * 2 + 1)))])) []), (1, Rw.mk (Kd.sw a1) []), (2, Rw.mk (Kd.sw a4) []), (7, Rw.mk (Kd.sw a2) []), (8, Rw.mk (Kd.sw a1) []), (13, Rw.mk (Kd.sw a1) []), (14, Rw.mk (Kd.sw a4) [])],
 15, [0, 0], []), [], ((fun (q0 q1 q2 q3 q4 q5 : Prop) => [q0, rg IntKind.i64 a8, q0, q1, decide (a8 ≤ a7) = true, decide (a8 < a11) = true, q2, ShOb Try.prog 56 true true ds (a3 * 2) 1, q3, ShOb Try.prog 56 true true ds (i * 2) 2,
 q4, ShOb Try.prog 23 false true a1 0 5, (0 : Int) ≤ (0 : Int) ∧ (0 : Int) < (↑(dLen ds (i * 2 + 0)) : Int), ShOb Try.prog 23 false true a4 0 6, q5, BytI (dLen a4 0) (dVals a4 0), decide (cmpI a9 (intsOf (dVals a4 0)) < (0 : Int))
 = true, rg IntKind.i64 a10, q0, q1, decide (a10 ≤ a7) = true, decide (a10 < a11) = true, (0 : Int) ≤ a10 ∧ a10 < a11, ShOb Try.prog 56 true true ds (a6 * 2) 7, q2, ShOb Try.prog 56 true true ds (a3 * 2) 8, (0 : Int) ≤ (0 : Int) ∧
 (0 : Int) < (↑(dLen ds (a6 * 2 + 0)) : Int), ShOb Try.prog 23 false true a2 0 11, q4, ShOb Try.prog 23 false true a1 0 12, BytI (dLen a2 0) (dVals a2 0), q5, decide (cmpI (intsOf (dVals a2 0)) a9 < (0 : Int)) = false, (cmpI
 (intsOf (dVals a2 0)) a9 == (0 : Int)) = false, rg IntKind.i64 (↑(2 * i + 1 + 1 + 1) : Int), q0, q1, decide ((↑(2 * i + 1 + 1 + 1) : Int) ≤ a7) = false, (a8 == a12) = false, q2, ShOb Try.prog 56 true true ds (a3 * 2) 13, q3, ShOb
 Try.prog 56 true true ds (i * 2) 14, q3, i * 2 + 2 ≤ List.length ds, dLen ds (ixO 0 (Int.toNat (adI (mlI (2 : Int) a12) (1 : Int))) 2 + 0) = 0 → dSub ds a13 = [], q2, a3 * 2 + 2 ≤ List.length a5, dLen ds (ixO 0 (Int.toNat a12) 2 +
 0) = 0 → dSub ds (i * 2 + 0) = []]) (rg IntKind.i64 (↑(2 * i) : Int)) (rg IntKind.i64 a7) ((0 : Int) ≤ a8 ∧ a8 < a11) ((0 : Int) ≤ a12 ∧ a12 < a11) ((0 : Int) ≤ (0 : Int) ∧ (0 : Int) < (↑(dLen ds a13) : Int)) (BytI (dLen a1 0)
 (dVals a1 0))))) := by
 kernel_rfl
theorem dw_tal (inr : Bool) (n i : Nat) (ds : List DV) : prjP [0, 1] 1 (codeZ (mdwV noL noTz) Try.prog (runZ (mdwV noL noTz) Try.prog 12) 32 inr 100000 (bodyIn Try.prog 32 0) (SL 51 [(0, haA n), (1, iV i)]) [(0, ⟨.dw 2 zHd ds,
 []⟩)] 1 [true, true, false, true, true, true, true, true, false, false])
 =
  (let a12 := (↑i : Int); let a11 := (↑n : Int); let a7 := (↑(2 * i + 2) : Int); let a6 := (2 * i + 1); let a10 := (↑a6 : Int); let a4 := (dSub ds (i * 2 + 0)); let a2 := (dSub ds (a6 * 2 + 0)); let a9 := (intsOf (dVals a2 0));
 let a1 := (2 * i + 1 + 1); let a13 := (a1 * 2 + 0); let a8 := (↑a1 : Int); let a3 := (dSub ds a13); let a5 := (setD ds (i * 2) [DV.sl (dLen ds a13) none a3, DV.fl (Value.int IntKind.i64 (dInt ds (a1 * 2 + 1)))]); Res.ok
 ((Xt.normal, 51, [(0, Value.slice (some (Addr.mk 0 0 none)) n 18446744073709551616), (1, Value.int IntKind.i64 a8)], [(0, Rw.mk (Kd.dw 2 [Value.slice none 0 0, Value.int IntKind.i64 (0 : Int)] (setD a5 (a1 * 2) [DV.sl (dLen ds (i
 * 2 + 0)) none a4, DV.fl (Value.int IntKind.i64 (dInt ds (i * 2 + 1)))])) []), (1, Rw.mk (Kd.sw a2) []), (2, Rw.mk (Kd.sw a4) []), (7, Rw.mk (Kd.sw a3) []), (8, Rw.mk (Kd.sw a2) []), (13, Rw.mk (Kd.sw a3) []), (14, Rw.mk (Kd.sw
 a4) [])], 15, [0, 0], []), [], ((fun (q0 q1 q2 q3 q4 q5 q6 : Prop) => [q0, rg IntKind.i64 a10, q0, q1, decide (a10 ≤ a7) = true, decide (a10 < a11) = true, q2, ShOb Try.prog 56 true true ds (a6 * 2) 1, q3, ShOb Try.prog 56 true
 true ds (i * 2) 2, q4, ShOb Try.prog 23 false true a2 0 5, (0 : Int) ≤ (0 : Int) ∧ (0 : Int) < (↑(dLen ds (i * 2 + 0)) : Int), ShOb Try.prog 23 false true a4 0 6, q5, BytI (dLen a4 0) (dVals a4 0), decide (cmpI a9 (intsOf (dVals
 a4 0)) < (0 : Int)) = false, (cmpI a9 (intsOf (dVals a4 0)) == (0 : Int)) = true, decide (dInt ds (a6 * 2 + 1) < dInt ds (i * 2 + 1)) = true, rg IntKind.i64 a8, q0, q1, decide (a8 ≤ a7) = true, decide (a8 < a11) = true, q6, ShOb
 Try.prog 56 true true ds (a1 * 2) 7, q2, ShOb Try.prog 56 true true ds (a6 * 2) 8, (0 : Int) ≤ (0 : Int) ∧ (0 : Int) < (↑(dLen ds a13) : Int), ShOb Try.prog 23 false true a3 0 11, q4, ShOb Try.prog 23 false true a2 0 12, BytI
 (dLen a3 0) (dVals a3 0), q5, decide (cmpI (intsOf (dVals a3 0)) a9 < (0 : Int)) = true, rg IntKind.i64 (↑(2 * i + 1 + 1 + 1) : Int), q0, q1, decide ((↑(2 * i + 1 + 1 + 1) : Int) ≤ a7) = false, (a8 == a12) = false, q6, ShOb
 Try.prog 56 true true ds (a1 * 2) 13, q3, ShOb Try.prog 56 true true ds (i * 2) 14, q3, i * 2 + 2 ≤ List.length ds, dLen ds (ixO 0 (Int.toNat (adI (adI (mlI (2 : Int) a12) (1 : Int)) (1 : Int))) 2 + 0) = 0 → dSub ds a13 = [], q6,
 a1 * 2 + 2 ≤ List.length a5, dLen ds (ixO 0 (Int.toNat a12) 2 + 0) = 0 → dSub ds (i * 2 + 0) = []]) (rg IntKind.i64 (↑(2 * i) : Int)) (rg IntKind.i64 a7) ((0 : Int) ≤ a10 ∧ a10 < a11) ((0 : Int) ≤ a12 ∧ a12 < a11) ((0 : Int) ≤ (0
 : Int) ∧ (0 : Int) < (↑(dLen ds (a6 * 2 + 0)) : Int)) (BytI (dLen a2 0) (dVals a2 0)) ((0 : Int) ≤ a8 ∧ a8 < a11)))) := by
 kernel_rfl
theorem dw_taa (inr : Bool) (n i : Nat) (ds : List DV) : prjP [0, 1] 1 (codeZ (mdwV noL noTz) Try.prog (runZ (mdwV noL noTz) Try.prog 12) 32 inr 100000 (bodyIn Try.prog 32 0) (SL 51 [(0, haA n), (1, iV i)]) [(0, ⟨.dw 2 zHd ds,
 []⟩)] 1 [true, true, false, true, true, true, true, false, true, true, false, false])
 =
  (let a12 := (↑i : Int); let a11 := (↑n : Int); let a8 := (↑(2 * i + 2) : Int); let a6 := (2 * i + 1); let a10 := (↑a6 : Int); let a4 := (dSub ds (i * 2 + 0)); let a2 := (dSub ds (a6 * 2 + 0)); let a7 := (intsOf (dVals a2 0));
 let a1 := (2 * i + 1 + 1); let a13 := (a1 * 2 + 0); let a9 := (↑a1 : Int); let a3 := (dSub ds a13); let a5 := (setD ds (i * 2) [DV.sl (dLen ds a13) none a3, DV.fl (Value.int IntKind.i64 (dInt ds (a1 * 2 + 1)))]); Res.ok
 ((Xt.normal, 51, [(0, Value.slice (some (Addr.mk 0 0 none)) n 18446744073709551616), (1, Value.int IntKind.i64 a9)], [(0, Rw.mk (Kd.dw 2 [Value.slice none 0 0, Value.int IntKind.i64 (0 : Int)] (setD a5 (a1 * 2) [DV.sl (dLen ds (i
 * 2 + 0)) none a4, DV.fl (Value.int IntKind.i64 (dInt ds (i * 2 + 1)))])) []), (1, Rw.mk (Kd.sw a2) []), (2, Rw.mk (Kd.sw a4) []), (7, Rw.mk (Kd.sw a3) []), (8, Rw.mk (Kd.sw a2) []), (13, Rw.mk (Kd.sw a3) []), (14, Rw.mk (Kd.sw
 a4) [])], 15, [0, 0], []), [], ((fun (q0 q1 q2 q3 q4 q5 q6 : Prop) => [q0, rg IntKind.i64 a10, q0, q1, decide (a10 ≤ a8) = true, decide (a10 < a11) = true, q2, ShOb Try.prog 56 true true ds (a6 * 2) 1, q3, ShOb Try.prog 56 true
 true ds (i * 2) 2, q4, ShOb Try.prog 23 false true a2 0 5, (0 : Int) ≤ (0 : Int) ∧ (0 : Int) < (↑(dLen ds (i * 2 + 0)) : Int), ShOb Try.prog 23 false true a4 0 6, q5, BytI (dLen a4 0) (dVals a4 0), decide (cmpI a7 (intsOf (dVals
 a4 0)) < (0 : Int)) = false, (cmpI a7 (intsOf (dVals a4 0)) == (0 : Int)) = true, decide (dInt ds (a6 * 2 + 1) < dInt ds (i * 2 + 1)) = true, rg IntKind.i64 a9, q0, q1, decide (a9 ≤ a8) = true, decide (a9 < a11) = true, q6, ShOb
 Try.prog 56 true true ds (a1 * 2) 7, q2, ShOb Try.prog 56 true true ds (a6 * 2) 8, (0 : Int) ≤ (0 : Int) ∧ (0 : Int) < (↑(dLen ds a13) : Int), ShOb Try.prog 23 false true a3 0 11, q4, ShOb Try.prog 23 false true a2 0 12, BytI
 (dLen a3 0) (dVals a3 0), q5, decide (cmpI (intsOf (dVals a3 0)) a7 < (0 : Int)) = false, (cmpI (intsOf (dVals a3 0)) a7 == (0 : Int)) = true, decide (dInt ds (a1 * 2 + 1) < dInt ds (a6 * 2 + 1)) = true, rg IntKind.i64 (↑(2 * i +
 1 + 1 + 1) : Int), q0, q1, decide ((↑(2 * i + 1 + 1 + 1) : Int) ≤ a8) = false, (a9 == a12) = false, q6, ShOb Try.prog 56 true true ds (a1 * 2) 13, q3, ShOb Try.prog 56 true true ds (i * 2) 14, q3, i * 2 + 2 ≤ List.length ds, dLen
 ds (ixO 0 (Int.toNat (adI (adI (mlI (2 : Int) a12) (1 : Int)) (1 : Int))) 2 + 0) = 0 → dSub ds a13 = [], q6, a1 * 2 + 2 ≤ List.length a5, dLen ds (ixO 0 (Int.toNat a12) 2 + 0) = 0 → dSub ds (i * 2 + 0) = []]) (rg IntKind.i64 (↑(2
 * i) : Int)) (rg IntKind.i64 a8) ((0 : Int) ≤ a10 ∧ a10 < a11) ((0 : Int) ≤ a12 ∧ a12 < a11) ((0 : Int) ≤ (0 : Int) ∧ (0 : Int) < (↑(dLen ds (a6 * 2 + 0)) : Int)) (BytI (dLen a2 0) (dVals a2 0)) ((0 : Int) ≤ a9 ∧ a9 < a11)))) :=
 by
 kernel_rfl
theorem dw_tab (inr : Bool) (n i : Nat) (ds : List DV) : prjP [0, 1] 1 (codeZ (mdwV noL noTz) Try.prog (runZ (mdwV noL noTz) Try.prog 12) 32 inr 100000 (bodyIn Try.prog 32 0) (SL 51 [(0, haA n), (1, iV i)]) [(0, ⟨.dw 2 zHd ds,
 []⟩)] 1 [true, true, false, true, true, true, true, false, true, false, false, false])
 =
  (let a12 := (↑i : Int); let a11 := (↑n : Int); let a8 := (↑(2 * i + 2) : Int); let a6 := (2 * i + 1 + 1); let a10 := (↑a6 : Int); let a4 := (dSub ds (i * 2 + 0)); let a3 := (dSub ds (a6 * 2 + 0)); let a2 := (2 * i + 1); let a13
 := (a2 * 2 + 0); let a9 := (↑a2 : Int); let a1 := (dSub ds a13); let a7 := (intsOf (dVals a1 0)); let a5 := (setD ds (i * 2) [DV.sl (dLen ds a13) none a1, DV.fl (Value.int IntKind.i64 (dInt ds (a2 * 2 + 1)))]); Res.ok ((Xt.normal,
 51, [(0, Value.slice (some (Addr.mk 0 0 none)) n 18446744073709551616), (1, Value.int IntKind.i64 a9)], [(0, Rw.mk (Kd.dw 2 [Value.slice none 0 0, Value.int IntKind.i64 (0 : Int)] (setD a5 (a2 * 2) [DV.sl (dLen ds (i * 2 + 0))
 none a4, DV.fl (Value.int IntKind.i64 (dInt ds (i * 2 + 1)))])) []), (1, Rw.mk (Kd.sw a1) []), (2, Rw.mk (Kd.sw a4) []), (7, Rw.mk (Kd.sw a3) []), (8, Rw.mk (Kd.sw a1) []), (13, Rw.mk (Kd.sw a1) []), (14, Rw.mk (Kd.sw a4) [])],
 15, [0, 0], []), [], ((fun (q0 q1 q2 q3 q4 q5 : Prop) => [q0, rg IntKind.i64 a9, q0, q1, decide (a9 ≤ a8) = true, decide (a9 < a11) = true, q2, ShOb Try.prog 56 true true ds (a2 * 2) 1, q3, ShOb Try.prog 56 true true ds (i * 2) 2,
 q4, ShOb Try.prog 23 false true a1 0 5, (0 : Int) ≤ (0 : Int) ∧ (0 : Int) < (↑(dLen ds (i * 2 + 0)) : Int), ShOb Try.prog 23 false true a4 0 6, q5, BytI (dLen a4 0) (dVals a4 0), decide (cmpI a7 (intsOf (dVals a4 0)) < (0 : Int))
 = false, (cmpI a7 (intsOf (dVals a4 0)) == (0 : Int)) = true, decide (dInt ds (a2 * 2 + 1) < dInt ds (i * 2 + 1)) = true, rg IntKind.i64 a10, q0, q1, decide (a10 ≤ a8) = true, decide (a10 < a11) = true, (0 : Int) ≤ a10 ∧ a10 <
 a11, ShOb Try.prog 56 true true ds (a6 * 2) 7, q2, ShOb Try.prog 56 true true ds (a2 * 2) 8, (0 : Int) ≤ (0 : Int) ∧ (0 : Int) < (↑(dLen ds (a6 * 2 + 0)) : Int), ShOb Try.prog 23 false true a3 0 11, q4, ShOb Try.prog 23 false true
 a1 0 12, BytI (dLen a3 0) (dVals a3 0), q5, decide (cmpI (intsOf (dVals a3 0)) a7 < (0 : Int)) = false, (cmpI (intsOf (dVals a3 0)) a7 == (0 : Int)) = true, decide (dInt ds (a6 * 2 + 1) < dInt ds (a2 * 2 + 1)) = false, rg
 IntKind.i64 (↑(2 * i + 1 + 1 + 1) : Int), q0, q1, decide ((↑(2 * i + 1 + 1 + 1) : Int) ≤ a8) = false, (a9 == a12) = false, q2, ShOb Try.prog 56 true true ds (a2 * 2) 13, q3, ShOb Try.prog 56 true true ds (i * 2) 14, q3, i * 2 + 2
 ≤ List.length ds, dLen ds (ixO 0 (Int.toNat (adI (mlI (2 : Int) a12) (1 : Int))) 2 + 0) = 0 → dSub ds a13 = [], q2, a2 * 2 + 2 ≤ List.length a5, dLen ds (ixO 0 (Int.toNat a12) 2 + 0) = 0 → dSub ds (i * 2 + 0) = []]) (rg
 IntKind.i64 (↑(2 * i) : Int)) (rg IntKind.i64 a8) ((0 : Int) ≤ a9 ∧ a9 < a11) ((0 : Int) ≤ a12 ∧ a12 < a11) ((0 : Int) ≤ (0 : Int) ∧ (0 : Int) < (↑(dLen ds a13) : Int)) (BytI (dLen a1 0) (dVals a1 0))))) := by
 kernel_rfl
theorem dw_tag (inr : Bool) (n i : Nat) (ds : List DV) : prjP [0, 1] 1 (codeZ (mdwV noL noTz) Try.prog (runZ (mdwV noL noTz) Try.prog 12) 32 inr 100000 (bodyIn Try.prog 32 0) (SL 51 [(0, haA n), (1, iV i)]) [(0, ⟨.dw 2 zHd ds,
 []⟩)] 1 [true, true, false, true, true, true, true, false, false, false, false])
 =
  (let a12 := (↑i : Int); let a11 := (↑n : Int); let a8 := (↑(2 * i + 2) : Int); let a6 := (2 * i + 1 + 1); let a10 := (↑a6 : Int); let a4 := (dSub ds (i * 2 + 0)); let a3 := (2 * i + 1); let a13 := (a3 * 2 + 0); let a9 := (↑a3 :
 Int); let a2 := (dSub ds (a6 * 2 + 0)); let a1 := (dSub ds a13); let a7 := (intsOf (dVals a1 0)); let a5 := (setD ds (i * 2) [DV.sl (dLen ds a13) none a1, DV.fl (Value.int IntKind.i64 (dInt ds (a3 * 2 + 1)))]); Res.ok ((Xt.normal,
 51, [(0, Value.slice (some (Addr.mk 0 0 none)) n 18446744073709551616), (1, Value.int IntKind.i64 a9)], [(0, Rw.mk (Kd.dw 2 [Value.slice none 0 0, Value.int IntKind.i64 (0 : Int)] (setD a5 (a3 * 2) [DV.sl (dLen ds (i * 2 + 0))
 none a4, DV.fl (Value.int IntKind.i64 (dInt ds (i * 2 + 1)))])) []), (1, Rw.mk (Kd.sw a1) []), (2, Rw.mk (Kd.sw a4) []), (7, Rw.mk (Kd.sw a2) []), (8, Rw.mk (Kd.sw a1) []), (13, Rw.mk (Kd.sw a1) []), (14, Rw.mk (Kd.sw a4) [])],
 15, [0, 0], []), [], ((fun (q0 q1 q2 q3 q4 q5 : Prop) => [q0, rg IntKind.i64 a9, q0, q1, decide (a9 ≤ a8) = true, decide (a9 < a11) = true, q2, ShOb Try.prog 56 true true ds (a3 * 2) 1, q3, ShOb Try.prog 56 true true ds (i * 2) 2,
 q4, ShOb Try.prog 23 false true a1 0 5, (0 : Int) ≤ (0 : Int) ∧ (0 : Int) < (↑(dLen ds (i * 2 + 0)) : Int), ShOb Try.prog 23 false true a4 0 6, q5, BytI (dLen a4 0) (dVals a4 0), decide (cmpI a7 (intsOf (dVals a4 0)) < (0 : Int))
 = false, (cmpI a7 (intsOf (dVals a4 0)) == (0 : Int)) = true, decide (dInt ds (a3 * 2 + 1) < dInt ds (i * 2 + 1)) = true, rg IntKind.i64 a10, q0, q1, decide (a10 ≤ a8) = true, decide (a10 < a11) = true, (0 : Int) ≤ a10 ∧ a10 <
 a11, ShOb Try.prog 56 true true ds (a6 * 2) 7, q2, ShOb Try.prog 56 true true ds (a3 * 2) 8, (0 : Int) ≤ (0 : Int) ∧ (0 : Int) < (↑(dLen ds (a6 * 2 + 0)) : Int), ShOb Try.prog 23 false true a2 0 11, q4, ShOb Try.prog 23 false true
 a1 0 12, BytI (dLen a2 0) (dVals a2 0), q5, decide (cmpI (intsOf (dVals a2 0)) a7 < (0 : Int)) = false, (cmpI (intsOf (dVals a2 0)) a7 == (0 : Int)) = false, rg IntKind.i64 (↑(2 * i + 1 + 1 + 1) : Int), q0, q1, decide ((↑(2 * i +
 1 + 1 + 1) : Int) ≤ a8) = false, (a9 == a12) = false, q2, ShOb Try.prog 56 true true ds (a3 * 2) 13, q3, ShOb Try.prog 56 true true ds (i * 2) 14, q3, i * 2 + 2 ≤ List.length ds, dLen ds (ixO 0 (Int.toNat (adI (mlI (2 : Int) a12)
 (1 : Int))) 2 + 0) = 0 → dSub ds a13 = [], q2, a3 * 2 + 2 ≤ List.length a5, dLen ds (ixO 0 (Int.toNat a12) 2 + 0) = 0 → dSub ds (i * 2 + 0) = []]) (rg IntKind.i64 (↑(2 * i) : Int)) (rg IntKind.i64 a8) ((0 : Int) ≤ a9 ∧ a9 < a11)
 ((0 : Int) ≤ a12 ∧ a12 < a11) ((0 : Int) ≤ (0 : Int) ∧ (0 : Int) < (↑(dLen ds a13) : Int)) (BytI (dLen a1 0) (dVals a1 0))))) := by
 kernel_rfl
theorem dw_tbl (inr : Bool) (n i : Nat) (ds : List DV) : prjP [0, 1] 1 (codeZ (mdwV noL noTz) Try.prog (runZ (mdwV noL noTz) Try.prog 12) 32 inr 100000 (bodyIn Try.prog 32 0) (SL 51 [(0, haA n), (1, iV i)]) [(0, ⟨.dw 2 zHd ds,
 []⟩)] 1 [true, true, false, true, false, true, true, true, false, false])
 =
  (let a12 := (↑i : Int); let a11 := (↑n : Int); let a10 := (2 * i + 1); let a7 := (↑(2 * i + 2) : Int); let a6 := (↑a10 : Int); let a3 := (dSub ds (a10 * 2 + 0)); let a2 := (dSub ds (i * 2 + 0)); let a9 := (intsOf (dVals a2 0));
 let a1 := (2 * i + 1 + 1); let a13 := (a1 * 2 + 0); let a8 := (↑a1 : Int); let a4 := (dSub ds a13); let a5 := (setD ds (i * 2) [DV.sl (dLen ds a13) none a4, DV.fl (Value.int IntKind.i64 (dInt ds (a1 * 2 + 1)))]); Res.ok
 ((Xt.normal, 51, [(0, Value.slice (some (Addr.mk 0 0 none)) n 18446744073709551616), (1, Value.int IntKind.i64 a8)], [(0, Rw.mk (Kd.dw 2 [Value.slice none 0 0, Value.int IntKind.i64 (0 : Int)] (setD a5 (a1 * 2) [DV.sl (dLen ds (i
 * 2 + 0)) none a2, DV.fl (Value.int IntKind.i64 (dInt ds (i * 2 + 1)))])) []), (1, Rw.mk (Kd.sw a3) []), (2, Rw.mk (Kd.sw a2) []), (7, Rw.mk (Kd.sw a4) []), (8, Rw.mk (Kd.sw a2) []), (13, Rw.mk (Kd.sw a4) []), (14, Rw.mk (Kd.sw
 a2) [])], 15, [0, 0], []), [], ((fun (q0 q1 q2 q3 q4 q5 : Prop) => [q0, rg IntKind.i64 a6, q0, q1, decide (a6 ≤ a7) = true, decide (a6 < a11) = true, (0 : Int) ≤ a6 ∧ a6 < a11, ShOb Try.prog 56 true true ds (a10 * 2) 1, q2, ShOb
 Try.prog 56 true true ds (i * 2) 2, (0 : Int) ≤ (0 : Int) ∧ (0 : Int) < (↑(dLen ds (a10 * 2 + 0)) : Int), ShOb Try.prog 23 false true a3 0 5, q3, ShOb Try.prog 23 false true a2 0 6, BytI (dLen a3 0) (dVals a3 0), q4, decide (cmpI
 (intsOf (dVals a3 0)) a9 < (0 : Int)) = false, (cmpI (intsOf (dVals a3 0)) a9 == (0 : Int)) = true, decide (dInt ds (a10 * 2 + 1) < dInt ds (i * 2 + 1)) = false, rg IntKind.i64 a8, q0, q1, decide (a8 ≤ a7) = true, decide (a8 <
 a11) = true, q5, ShOb Try.prog 56 true true ds (a1 * 2) 7, q2, ShOb Try.prog 56 true true ds (i * 2) 8, (0 : Int) ≤ (0 : Int) ∧ (0 : Int) < (↑(dLen ds a13) : Int), ShOb Try.prog 23 false true a4 0 11, q3, ShOb Try.prog 23 false
 true a2 0 12, BytI (dLen a4 0) (dVals a4 0), q4, decide (cmpI (intsOf (dVals a4 0)) a9 < (0 : Int)) = true, rg IntKind.i64 (↑(2 * i + 1 + 1 + 1) : Int), q0, q1, decide ((↑(2 * i + 1 + 1 + 1) : Int) ≤ a7) = false, (a8 == a12) =
 false, q5, ShOb Try.prog 56 true true ds (a1 * 2) 13, q2, ShOb Try.prog 56 true true ds (i * 2) 14, q2, i * 2 + 2 ≤ List.length ds, dLen ds (ixO 0 (Int.toNat (adI (adI (mlI (2 : Int) a12) (1 : Int)) (1 : Int))) 2 + 0) = 0 → dSub
 ds a13 = [], q5, a1 * 2 + 2 ≤ List.length a5, dLen ds (ixO 0 (Int.toNat a12) 2 + 0) = 0 → dSub ds (i * 2 + 0) = []]) (rg IntKind.i64 (↑(2 * i) : Int)) (rg IntKind.i64 a7) ((0 : Int) ≤ a12 ∧ a12 < a11) ((0 : Int) ≤ (0 : Int) ∧ (0 :
 Int) < (↑(dLen ds (i * 2 + 0)) : Int)) (BytI (dLen a2 0) (dVals a2 0)) ((0 : Int) ≤ a8 ∧ a8 < a11)))) := by
 kernel_rfl
theorem dw_tba (inr : Bool) (n i : Nat) (ds : List DV) : prjP [0, 1] 1 (codeZ (mdwV noL noTz) Try.prog (runZ (mdwV noL noTz) Try.prog 12) 32 inr 100000 (bodyIn Try.prog 32 0) (SL 51 [(0, haA n), (1, iV i)]) [(0, ⟨.dw 2 zHd ds,
 []⟩)] 1 [true, true, false, true, false, true, true, false, true, true, false, false])
 =
  (let a12 := (↑i : Int); let a11 := (↑n : Int); let a10 := (2 * i + 1); let a8 := (↑(2 * i + 2) : Int); let a6 := (↑a10 : Int); let a4 := (dSub ds (a10 * 2 + 0)); let a2 := (dSub ds (i * 2 + 0)); let a7 := (intsOf (dVals a2 0));
 let a1 := (2 * i + 1 + 1); let a13 := (a1 * 2 + 0); let a9 := (↑a1 : Int); let a3 := (dSub ds a13); let a5 := (setD ds (i * 2) [DV.sl (dLen ds a13) none a3, DV.fl (Value.int IntKind.i64 (dInt ds (a1 * 2 + 1)))]); Res.ok
 ((Xt.normal, 51, [(0, Value.slice (some (Addr.mk 0 0 none)) n 18446744073709551616), (1, Value.int IntKind.i64 a9)], [(0, Rw.mk (Kd.dw 2 [Value.slice none 0 0, Value.int IntKind.i64 (0 : Int)] (setD a5 (a1 * 2) [DV.sl (dLen ds (i
 * 2 + 0)) none a2, DV.fl (Value.int IntKind.i64 (dInt ds (i * 2 + 1)))])) []), (1, Rw.mk (Kd.sw a4) []), (2, Rw.mk (Kd.sw a2) []), (7, Rw.mk (Kd.sw a3) []), (8, Rw.mk (Kd.sw a2) []), (13, Rw.mk (Kd.sw a3) []), (14, Rw.mk (Kd.sw
 a2) [])], 15, [0, 0], []), [], ((fun (q0 q1 q2 q3 q4 q5 : Prop) => [q0, rg IntKind.i64 a6, q0, q1, decide (a6 ≤ a8) = true, decide (a6 < a11) = true, (0 : Int) ≤ a6 ∧ a6 < a11, ShOb Try.prog 56 true true ds (a10 * 2) 1, q2, ShOb
 Try.prog 56 true true ds (i * 2) 2, (0 : Int) ≤ (0 : Int) ∧ (0 : Int) < (↑(dLen ds (a10 * 2 + 0)) : Int), ShOb Try.prog 23 false true a4 0 5, q3, ShOb Try.prog 23 false true a2 0 6, BytI (dLen a4 0) (dVals a4 0), q4, decide (cmpI
 (intsOf (dVals a4 0)) a7 < (0 : Int)) = false, (cmpI (intsOf (dVals a4 0)) a7 == (0 : Int)) = true, decide (dInt ds (a10 * 2 + 1) < dInt ds (i * 2 + 1)) = false, rg IntKind.i64 a9, q0, q1, decide (a9 ≤ a8) = true, decide (a9 <
 a11) = true, q5, ShOb Try.prog 56 true true ds (a1 * 2) 7, q2, ShOb Try.prog 56 true true ds (i * 2) 8, (0 : Int) ≤ (0 : Int) ∧ (0 : Int) < (↑(dLen ds a13) : Int), ShOb Try.prog 23 false true a3 0 11, q3, ShOb Try.prog 23 false
 true a2 0 12, BytI (dLen a3 0) (dVals a3 0), q4, decide (cmpI (intsOf (dVals a3 0)) a7 < (0 : Int)) = false, (cmpI (intsOf (dVals a3 0)) a7 == (0 : Int)) = true, decide (dInt ds (a1 * 2 + 1) < dInt ds (i * 2 + 1)) = true, rg
 IntKind.i64 (↑(2 * i + 1 + 1 + 1) : Int), q0, q1, decide ((↑(2 * i + 1 + 1 + 1) : Int) ≤ a8) = false, (a9 == a12) = false, q5, ShOb Try.prog 56 true true ds (a1 * 2) 13, q2, ShOb Try.prog 56 true true ds (i * 2) 14, q2, i * 2 + 2
 ≤ List.length ds, dLen ds (ixO 0 (Int.toNat (adI (adI (mlI (2 : Int) a12) (1 : Int)) (1 : Int))) 2 + 0) = 0 → dSub ds a13 = [], q5, a1 * 2 + 2 ≤ List.length a5, dLen ds (ixO 0 (Int.toNat a12) 2 + 0) = 0 → dSub ds (i * 2 + 0) =
 []]) (rg IntKind.i64 (↑(2 * i) : Int)) (rg IntKind.i64 a8) ((0 : Int) ≤ a12 ∧ a12 < a11) ((0 : Int) ≤ (0 : Int) ∧ (0 : Int) < (↑(dLen ds (i * 2 + 0)) : Int)) (BytI (dLen a2 0) (dVals a2 0)) ((0 : Int) ≤ a9 ∧ a9 < a11)))) := by
 kernel_rfl
theorem dw_tbb (inr : Bool) (n i : Nat) (ds : List DV) : prjP [] 1 (codeZ (mdwV noL noTz) Try.prog (runZ (mdwV noL noTz) Try.prog 12) 32 inr 100000 (bodyIn Try.prog 32 0) (SL 51 [(0, haA n), (1, iV i)]) [(0, ⟨.dw 2 zHd ds, []⟩)] 1
 [true, true, false, true, false, true, true, false, true, false, false, true])
 =
  (let a10 := (↑n : Int); let a8 := (2 * i + 1); let a7 := (↑(2 * i + 2) : Int); let a5 := (↑a8 : Int); let a4 := (2 * i + 1 + 1); let a9 := (↑a4 : Int); let a3 := (dSub ds (a8 * 2 + 0)); let a2 := (dSub ds (a4 * 2 + 0)); let a1
 := (dSub ds (i * 2 + 0)); let a6 := (intsOf (dVals a1 0)); Res.ok ((Xt.ret, 51, [], [(0, Rw.mk (Kd.dw 2 [Value.slice none 0 0, Value.int IntKind.i64 (0 : Int)] ds) []), (1, Rw.mk (Kd.sw a3) []), (2, Rw.mk (Kd.sw a1) []), (7, Rw.mk
 (Kd.sw a2) []), (8, Rw.mk (Kd.sw a1) [])], 13, [], []), [], ((fun (q0 q1 q2 q3 q4 : Prop) => [q0, rg IntKind.i64 a5, q0, q1, decide (a5 ≤ a7) = true, decide (a5 < a10) = true, (0 : Int) ≤ a5 ∧ a5 < a10, ShOb Try.prog 56 true true
 ds (a8 * 2) 1, q2, ShOb Try.prog 56 true true ds (i * 2) 2, (0 : Int) ≤ (0 : Int) ∧ (0 : Int) < (↑(dLen ds (a8 * 2 + 0)) : Int), ShOb Try.prog 23 false true a3 0 5, q3, ShOb Try.prog 23 false true a1 0 6, BytI (dLen a3 0) (dVals
 a3 0), q4, decide (cmpI (intsOf (dVals a3 0)) a6 < (0 : Int)) = false, (cmpI (intsOf (dVals a3 0)) a6 == (0 : Int)) = true, decide (dInt ds (a8 * 2 + 1) < dInt ds (i * 2 + 1)) = false, rg IntKind.i64 a9, q0, q1, decide (a9 ≤ a7) =
 true, decide (a9 < a10) = true, (0 : Int) ≤ a9 ∧ a9 < a10, ShOb Try.prog 56 true true ds (a4 * 2) 7, q2, ShOb Try.prog 56 true true ds (i * 2) 8, (0 : Int) ≤ (0 : Int) ∧ (0 : Int) < (↑(dLen ds (a4 * 2 + 0)) : Int), ShOb Try.prog
 23 false true a2 0 11, q3, ShOb Try.prog 23 false true a1 0 12, BytI (dLen a2 0) (dVals a2 0), q4, decide (cmpI (intsOf (dVals a2 0)) a6 < (0 : Int)) = false, (cmpI (intsOf (dVals a2 0)) a6 == (0 : Int)) = true, decide (dInt ds
 (a4 * 2 + 1) < dInt ds (i * 2 + 1)) = false, rg IntKind.i64 (↑(2 * i + 1 + 1 + 1) : Int), q0, q1, decide ((↑(2 * i + 1 + 1 + 1) : Int) ≤ a7) = false, ((↑i : Int) == (↑i : Int)) = true]) (rg IntKind.i64 (↑(2 * i) : Int)) (rg
 IntKind.i64 a7) ((0 : Int) ≤ (↑i : Int) ∧ (↑i : Int) < a10) ((0 : Int) ≤ (0 : Int) ∧ (0 : Int) < (↑(dLen ds (i * 2 + 0)) : Int)) (BytI (dLen a1 0) (dVals a1 0))))) := by
 kernel_rfl
theorem dw_tbg (inr : Bool) (n i : Nat) (ds : List DV) : prjP [] 1 (codeZ (mdwV noL noTz) Try.prog (runZ (mdwV noL noTz) Try.prog 12) 32 inr 100000 (bodyIn Try.prog 32 0) (SL 51 [(0, haA n), (1, iV i)]) [(0, ⟨.dw 2 zHd ds, []⟩)] 1
 [true, true, false, true, false, true, true, false, false, false, true])
 =
  (let a10 := (↑n : Int); let a8 := (2 * i + 1); let a7 := (↑(2 * i + 2) : Int); let a5 := (↑a8 : Int); let a4 := (2 * i + 1 + 1); let a9 := (↑a4 : Int); let a3 := (dSub ds (a8 * 2 + 0)); let a2 := (dSub ds (a4 * 2 + 0)); let a1
 := (dSub ds (i * 2 + 0)); let a6 := (intsOf (dVals a1 0)); Res.ok ((Xt.ret, 51, [], [(0, Rw.mk (Kd.dw 2 [Value.slice none 0 0, Value.int IntKind.i64 (0 : Int)] ds) []), (1, Rw.mk (Kd.sw a3) []), (2, Rw.mk (Kd.sw a1) []), (7, Rw.mk
 (Kd.sw a2) []), (8, Rw.mk (Kd.sw a1) [])], 13, [], []), [], ((fun (q0 q1 q2 q3 q4 : Prop) => [q0, rg IntKind.i64 a5, q0, q1, decide (a5 ≤ a7) = true, decide (a5 < a10) = true, (0 : Int) ≤ a5 ∧ a5 < a10, ShOb Try.prog 56 true true
 ds (a8 * 2) 1, q2, ShOb Try.prog 56 true true ds (i * 2) 2, (0 : Int) ≤ (0 : Int) ∧ (0 : Int) < (↑(dLen ds (a8 * 2 + 0)) : Int), ShOb Try.prog 23 false true a3 0 5, q3, ShOb Try.prog 23 false true a1 0 6, BytI (dLen a3 0) (dVals
 a3 0), q4, decide (cmpI (intsOf (dVals a3 0)) a6 < (0 : Int)) = false, (cmpI (intsOf (dVals a3 0)) a6 == (0 : Int)) = true, decide (dInt ds (a8 * 2 + 1) < dInt ds (i * 2 + 1)) = false, rg IntKind.i64 a9, q0, q1, decide (a9 ≤ a7) =
 true, decide (a9 < a10) = true, (0 : Int) ≤ a9 ∧ a9 < a10, ShOb Try.prog 56 true true ds (a4 * 2) 7, q2, ShOb Try.prog 56 true true ds (i * 2) 8, (0 : Int) ≤ (0 : Int) ∧ (0 : Int) < (↑(dLen ds (a4 * 2 + 0)) : Int), ShOb Try.prog
 23 false true a2 0 11, q3, ShOb Try.prog 23 false true a1 0 12, BytI (dLen a2 0) (dVals a2 0), q4, decide (cmpI (intsOf (dVals a2 0)) a6 < (0 : Int)) = false, (cmpI (intsOf (dVals a2 0)) a6 == (0 : Int)) = false, rg IntKind.i64
 (↑(2 * i + 1 + 1 + 1) : Int), q0, q1, decide ((↑(2 * i + 1 + 1 + 1) : Int) ≤ a7) = false, ((↑i : Int) == (↑i : Int)) = true]) (rg IntKind.i64 (↑(2 * i) : Int)) (rg IntKind.i64 a7) ((0 : Int) ≤ (↑i : Int) ∧ (↑i : Int) < a10) ((0 :
 Int) ≤ (0 : Int) ∧ (0 : Int) < (↑(dLen ds (i * 2 + 0)) : Int)) (BytI (dLen a1 0) (dVals a1 0))))) := by
 kernel_rfl
theorem dw_tgl (inr : Bool) (n i : Nat) (ds : List DV) : prjP [0, 1] 1 (codeZ (mdwV noL noTz) Try.prog (runZ (mdwV noL noTz) Try.prog 12) 32 inr 100000 (bodyIn Try.prog 32 0) (SL 51 [(0, haA n), (1, iV i)]) [(0, ⟨.dw 2 zHd ds,
 []⟩)] 1 [true, true, false, false, true, true, true, false, false])
 =
  (let a11 := (↑i : Int); let a10 := (↑n : Int); let a7 := (↑(2 * i + 2) : Int); let a6 := (↑(2 * i + 1) : Int); let a3 := (dSub ds ((2 * i + 1) * 2 + 0)); let a2 := (dSub ds (i * 2 + 0)); let a9 := (intsOf (dVals a2 0)); let a1
 := (2 * i + 1 + 1); let a12 := (a1 * 2 + 0); let a8 := (↑a1 : Int); let a4 := (dSub ds a12); let a5 := (setD ds (i * 2) [DV.sl (dLen ds a12) none a4, DV.fl (Value.int IntKind.i64 (dInt ds (a1 * 2 + 1)))]); Res.ok ((Xt.normal, 51,
 [(0, Value.slice (some (Addr.mk 0 0 none)) n 18446744073709551616), (1, Value.int IntKind.i64 a8)], [(0, Rw.mk (Kd.dw 2 [Value.slice none 0 0, Value.int IntKind.i64 (0 : Int)] (setD a5 (a1 * 2) [DV.sl (dLen ds (i * 2 + 0)) none
 a2, DV.fl (Value.int IntKind.i64 (dInt ds (i * 2 + 1)))])) []), (1, Rw.mk (Kd.sw a3) []), (2, Rw.mk (Kd.sw a2) []), (7, Rw.mk (Kd.sw a4) []), (8, Rw.mk (Kd.sw a2) []), (13, Rw.mk (Kd.sw a4) []), (14, Rw.mk (Kd.sw a2) [])], 15, [0,
 0], []), [], ((fun (q0 q1 q2 q3 q4 q5 : Prop) => [q0, rg IntKind.i64 a6, q0, q1, decide (a6 ≤ a7) = true, decide (a6 < a10) = true, (0 : Int) ≤ a6 ∧ a6 < a10, ShOb Try.prog 56 true true ds ((2 * i + 1) * 2) 1, q2, ShOb Try.prog 56
 true true ds (i * 2) 2, (0 : Int) ≤ (0 : Int) ∧ (0 : Int) < (↑(dLen ds ((2 * i + 1) * 2 + 0)) : Int), ShOb Try.prog 23 false true a3 0 5, q3, ShOb Try.prog 23 false true a2 0 6, BytI (dLen a3 0) (dVals a3 0), q4, decide (cmpI
 (intsOf (dVals a3 0)) a9 < (0 : Int)) = false, (cmpI (intsOf (dVals a3 0)) a9 == (0 : Int)) = false, rg IntKind.i64 a8, q0, q1, decide (a8 ≤ a7) = true, decide (a8 < a10) = true, q5, ShOb Try.prog 56 true true ds (a1 * 2) 7, q2,
 ShOb Try.prog 56 true true ds (i * 2) 8, (0 : Int) ≤ (0 : Int) ∧ (0 : Int) < (↑(dLen ds a12) : Int), ShOb Try.prog 23 false true a4 0 11, q3, ShOb Try.prog 23 false true a2 0 12, BytI (dLen a4 0) (dVals a4 0), q4, decide (cmpI
 (intsOf (dVals a4 0)) a9 < (0 : Int)) = true, rg IntKind.i64 (↑(2 * i + 1 + 1 + 1) : Int), q0, q1, decide ((↑(2 * i + 1 + 1 + 1) : Int) ≤ a7) = false, (a8 == a11) = false, q5, ShOb Try.prog 56 true true ds (a1 * 2) 13, q2, ShOb
 Try.prog 56 true true ds (i * 2) 14, q2, i * 2 + 2 ≤ List.length ds, dLen ds (ixO 0 (Int.toNat (adI (adI (mlI (2 : Int) a11) (1 : Int)) (1 : Int))) 2 + 0) = 0 → dSub ds a12 = [], q5, a1 * 2 + 2 ≤ List.length a5, dLen ds (ixO 0
 (Int.toNat a11) 2 + 0) = 0 → dSub ds (i * 2 + 0) = []]) (rg IntKind.i64 (↑(2 * i) : Int)) (rg IntKind.i64 a7) ((0 : Int) ≤ a11 ∧ a11 < a10) ((0 : Int) ≤ (0 : Int) ∧ (0 : Int) < (↑(dLen ds (i * 2 + 0)) : Int)) (BytI (dLen a2 0)
 (dVals a2 0)) ((0 : Int) ≤ a8 ∧ a8 < a10)))) := by
 kernel_rfl
theorem dw_tga (inr : Bool) (n i : Nat) (ds : List DV) : prjP [0, 1] 1 (codeZ (mdwV noL noTz) Try.prog (runZ (mdwV noL noTz) Try.prog 12) 32 inr 100000 (bodyIn Try.prog 32 0) (SL 51 [(0, haA n), (1, iV i)]) [(0, ⟨.dw 2 zHd ds,
 []⟩)] 1 [true, true, false, false, true, true, false, true, true, false, false])
 =
  (let a11 := (↑i : Int); let a10 := (↑n : Int); let a8 := (↑(2 * i + 2) : Int); let a6 := (↑(2 * i + 1) : Int); let a4 := (dSub ds ((2 * i + 1) * 2 + 0)); let a2 := (dSub ds (i * 2 + 0)); let a7 := (intsOf (dVals a2 0)); let a1
 := (2 * i + 1 + 1); let a12 := (a1 * 2 + 0); let a9 := (↑a1 : Int); let a3 := (dSub ds a12); let a5 := (setD ds (i * 2) [DV.sl (dLen ds a12) none a3, DV.fl (Value.int IntKind.i64 (dInt ds (a1 * 2 + 1)))]); Res.ok ((Xt.normal, 51,
 [(0, Value.slice (some (Addr.mk 0 0 none)) n 18446744073709551616), (1, Value.int IntKind.i64 a9)], [(0, Rw.mk (Kd.dw 2 [Value.slice none 0 0, Value.int IntKind.i64 (0 : Int)] (setD a5 (a1 * 2) [DV.sl (dLen ds (i * 2 + 0)) none
 a2, DV.fl (Value.int IntKind.i64 (dInt ds (i * 2 + 1)))])) []), (1, Rw.mk (Kd.sw a4) []), (2, Rw.mk (Kd.sw a2) []), (7, Rw.mk (Kd.sw a3) []), (8, Rw.mk (Kd.sw a2) []), (13, Rw.mk (Kd.sw a3) []), (14, Rw.mk (Kd.sw a2) [])], 15, [0,
 0], []), [], ((fun (q0 q1 q2 q3 q4 q5 : Prop) => [q0, rg IntKind.i64 a6, q0, q1, decide (a6 ≤ a8) = true, decide (a6 < a10) = true, (0 : Int) ≤ a6 ∧ a6 < a10, ShOb Try.prog 56 true true ds ((2 * i + 1) * 2) 1, q2, ShOb Try.prog 56
 true true ds (i * 2) 2, (0 : Int) ≤ (0 : Int) ∧ (0 : Int) < (↑(dLen ds ((2 * i + 1) * 2 + 0)) : Int), ShOb Try.prog 23 false true a4 0 5, q3, ShOb Try.prog 23 false true a2 0 6, BytI (dLen a4 0) (dVals a4 0), q4, decide (cmpI
 (intsOf (dVals a4 0)) a7 < (0 : Int)) = false, (cmpI (intsOf (dVals a4 0)) a7 == (0 : Int)) = false, rg IntKind.i64 a9, q0, q1, decide (a9 ≤ a8) = true, decide (a9 < a10) = true, q5, ShOb Try.prog 56 true true ds (a1 * 2) 7, q2,
 ShOb Try.prog 56 true true ds (i * 2) 8, (0 : Int) ≤ (0 : Int) ∧ (0 : Int) < (↑(dLen ds a12) : Int), ShOb Try.prog 23 false true a3 0 11, q3, ShOb Try.prog 23 false true a2 0 12, BytI (dLen a3 0) (dVals a3 0), q4, decide (cmpI
 (intsOf (dVals a3 0)) a7 < (0 : Int)) = false, (cmpI (intsOf (dVals a3 0)) a7 == (0 : Int)) = true, decide (dInt ds (a1 * 2 + 1) < dInt ds (i * 2 + 1)) = true, rg IntKind.i64 (↑(2 * i + 1 + 1 + 1) : Int), q0, q1, decide ((↑(2 * i
 + 1 + 1 + 1) : Int) ≤ a8) = false, (a9 == a11) = false, q5, ShOb Try.prog 56 true true ds (a1 * 2) 13, q2, ShOb Try.prog 56 true true ds (i * 2) 14, q2, i * 2 + 2 ≤ List.length ds, dLen ds (ixO 0 (Int.toNat (adI (adI (mlI (2 :
 Int) a11) (1 : Int)) (1 : Int))) 2 + 0) = 0 → dSub ds a12 = [], q5, a1 * 2 + 2 ≤ List.length a5, dLen ds (ixO 0 (Int.toNat a11) 2 + 0) = 0 → dSub ds (i * 2 + 0) = []]) (rg IntKind.i64 (↑(2 * i) : Int)) (rg IntKind.i64 a8) ((0 :
 Int) ≤ a11 ∧ a11 < a10) ((0 : Int) ≤ (0 : Int) ∧ (0 : Int) < (↑(dLen ds (i * 2 + 0)) : Int)) (BytI (dLen a2 0) (dVals a2 0)) ((0 : Int) ≤ a9 ∧ a9 < a10)))) := by
 kernel_rfl
theorem dw_tgb (inr : Bool) (n i : Nat) (ds : List DV) : prjP [] 1 (codeZ (mdwV noL noTz) Try.prog (runZ (mdwV noL noTz) Try.prog 12) 32 inr 100000 (bodyIn Try.prog 32 0) (SL 51 [(0, haA n), (1, iV i)]) [(0, ⟨.dw 2 zHd ds, []⟩)] 1
 [true, true, false, false, true, true, false, true, false, false, true])
 =
  (let a9 := (↑n : Int); let a7 := (↑(2 * i + 2) : Int); let a5 := (↑(2 * i + 1) : Int); let a4 := (2 * i + 1 + 1); let a8 := (↑a4 : Int); let a3 := (dSub ds ((2 * i + 1) * 2 + 0)); let a2 := (dSub ds (a4 * 2 + 0)); let a1 :=
 (dSub ds (i * 2 + 0)); let a6 := (intsOf (dVals a1 0)); Res.ok ((Xt.ret, 51, [], [(0, Rw.mk (Kd.dw 2 [Value.slice none 0 0, Value.int IntKind.i64 (0 : Int)] ds) []), (1, Rw.mk (Kd.sw a3) []), (2, Rw.mk (Kd.sw a1) []), (7, Rw.mk
 (Kd.sw a2) []), (8, Rw.mk (Kd.sw a1) [])], 13, [], []), [], ((fun (q0 q1 q2 q3 q4 : Prop) => [q0, rg IntKind.i64 a5, q0, q1, decide (a5 ≤ a7) = true, decide (a5 < a9) = true, (0 : Int) ≤ a5 ∧ a5 < a9, ShOb Try.prog 56 true true ds
 ((2 * i + 1) * 2) 1, q2, ShOb Try.prog 56 true true ds (i * 2) 2, (0 : Int) ≤ (0 : Int) ∧ (0 : Int) < (↑(dLen ds ((2 * i + 1) * 2 + 0)) : Int), ShOb Try.prog 23 false true a3 0 5, q3, ShOb Try.prog 23 false true a1 0 6, BytI (dLen
 a3 0) (dVals a3 0), q4, decide (cmpI (intsOf (dVals a3 0)) a6 < (0 : Int)) = false, (cmpI (intsOf (dVals a3 0)) a6 == (0 : Int)) = false, rg IntKind.i64 a8, q0, q1, decide (a8 ≤ a7) = true, decide (a8 < a9) = true, (0 : Int) ≤ a8
 ∧ a8 < a9, ShOb Try.prog 56 true true ds (a4 * 2) 7, q2, ShOb Try.prog 56 true true ds (i * 2) 8, (0 : Int) ≤ (0 : Int) ∧ (0 : Int) < (↑(dLen ds (a4 * 2 + 0)) : Int), ShOb Try.prog 23 false true a2 0 11, q3, ShOb Try.prog 23 false
 true a1 0 12, BytI (dLen a2 0) (dVals a2 0), q4, decide (cmpI (intsOf (dVals a2 0)) a6 < (0 : Int)) = false, (cmpI (intsOf (dVals a2 0)) a6 == (0 : Int)) = true, decide (dInt ds (a4 * 2 + 1) < dInt ds (i * 2 + 1)) = false, rg
 IntKind.i64 (↑(2 * i + 1 + 1 + 1) : Int), q0, q1, decide ((↑(2 * i + 1 + 1 + 1) : Int) ≤ a7) = false, ((↑i : Int) == (↑i : Int)) = true]) (rg IntKind.i64 (↑(2 * i) : Int)) (rg IntKind.i64 a7) ((0 : Int) ≤ (↑i : Int) ∧ (↑i : Int) <
 a9) ((0 : Int) ≤ (0 : Int) ∧ (0 : Int) < (↑(dLen ds (i * 2 + 0)) : Int)) (BytI (dLen a1 0) (dVals a1 0))))) := by
 kernel_rfl
theorem dw_tgg (inr : Bool) (n i : Nat) (ds : List DV) : prjP [] 1 (codeZ (mdwV noL noTz) Try.prog (runZ (mdwV noL noTz) Try.prog 12) 32 inr 100000 (bodyIn Try.prog 32 0) (SL 51 [(0, haA n), (1, iV i)]) [(0, ⟨.dw 2 zHd ds, []⟩)] 1
 [true, true, false, false, true, true, false, false, false, true])
 =
  (let a9 := (↑n : Int); let a7 := (↑(2 * i + 2) : Int); let a5 := (↑(2 * i + 1) : Int); let a4 := (2 * i + 1 + 1); let a8 := (↑a4 : Int); let a3 := (dSub ds ((2 * i + 1) * 2 + 0)); let a2 := (dSub ds (a4 * 2 + 0)); let a1 :=
 (dSub ds (i * 2 + 0)); let a6 := (intsOf (dVals a1 0)); Res.ok ((Xt.ret, 51, [], [(0, Rw.mk (Kd.dw 2 [Value.slice none 0 0, Value.int IntKind.i64 (0 : Int)] ds) []), (1, Rw.mk (Kd.sw a3) []), (2, Rw.mk (Kd.sw a1) []), (7, Rw.mk
 (Kd.sw a2) []), (8, Rw.mk (Kd.sw a1) [])], 13, [], []), [], ((fun (q0 q1 q2 q3 q4 : Prop) => [q0, rg IntKind.i64 a5, q0, q1, decide (a5 ≤ a7) = true, decide (a5 < a9) = true, (0 : Int) ≤ a5 ∧ a5 < a9, ShOb Try.prog 56 true true ds
 ((2 * i + 1) * 2) 1, q2, ShOb Try.prog 56 true true ds (i * 2) 2, (0 : Int) ≤ (0 : Int) ∧ (0 : Int) < (↑(dLen ds ((2 * i + 1) * 2 + 0)) : Int), ShOb Try.prog 23 false true a3 0 5, q3, ShOb Try.prog 23 false true a1 0 6, BytI (dLen
 a3 0) (dVals a3 0), q4, decide (cmpI (intsOf (dVals a3 0)) a6 < (0 : Int)) = false, (cmpI (intsOf (dVals a3 0)) a6 == (0 : Int)) = false, rg IntKind.i64 a8, q0, q1, decide (a8 ≤ a7) = true, decide (a8 < a9) = true, (0 : Int) ≤ a8
 ∧ a8 < a9, ShOb Try.prog 56 true true ds (a4 * 2) 7, q2, ShOb Try.prog 56 true true ds (i * 2) 8, (0 : Int) ≤ (0 : Int) ∧ (0 : Int) < (↑(dLen ds (a4 * 2 + 0)) : Int), ShOb Try.prog 23 false true a2 0 11, q3, ShOb Try.prog 23 false
 true a1 0 12, BytI (dLen a2 0) (dVals a2 0), q4, decide (cmpI (intsOf (dVals a2 0)) a6 < (0 : Int)) = false, (cmpI (intsOf (dVals a2 0)) a6 == (0 : Int)) = false, rg IntKind.i64 (↑(2 * i + 1 + 1 + 1) : Int), q0, q1, decide ((↑(2 *
 i + 1 + 1 + 1) : Int) ≤ a7) = false, ((↑i : Int) == (↑i : Int)) = true]) (rg IntKind.i64 (↑(2 * i) : Int)) (rg IntKind.i64 a7) ((0 : Int) ≤ (↑i : Int) ∧ (↑i : Int) < a9) ((0 : Int) ≤ (0 : Int) ∧ (0 : Int) < (↑(dLen ds (i * 2 + 0))
 : Int)) (BytI (dLen a1 0) (dVals a1 0))))) := by
 kernel_rfl
end Go.Proofs.Ytmoflcoijmmpjaa
/-
  Chapter 14: merge.heap.down: its loop's law, its contract.
-/
namespace Go.Proofs.Ytmoflcoijmmpjaa
set_option linter.unusedSimpArgs false
set_option linter.unusedVariables false
set_option linter.unusedSectionVars false
open Go Go.RowKit
theorem dwX {L : LFun} {T : TFun} : XOkZ (mdwV L T) Try.prog := XOneZ.ok cmpY_ok rfl
theorem dwT {L : LFun} : TOkZ (mdwV L noTz) Try.prog := noTz_okV rfl
theorem dwL {T : TFun} : LOkZ (mdwV noL T) Try.prog := noL_okV rfl
theorem dw_row {lo N : Nat} {ρ : Nat → Nat} {h0 h1 : Hp} {n m sz : Nat} {z : List Value} {ds : List DV} (hn : fnN lo N ρ n = some m) (hl : lk h1 m = some ⟨.dw sz z ds, []⟩) : RbRow lo N ρ h0 h1 n ⟨.dw sz z ds, []⟩ := rb_rec hn hl trivial
theorem dw_eq {Y X : List DV} (h : Y = X) : some (Rw.mk (.dw 2 zHd Y) []) = some (Rw.mk (.dw 2 zHd X) []) := by rw [h]
theorem obHd (ds : List DV) (o nx : Nat) : ShOb Try.prog 56 true true ds o nx = Alls [DSl ds (o + 0) (dLen ds (o + 0)) none (dSub ds (o + 0)), ds[o + 1]? = some (.fl (.int .i64 (dInt ds (o + 1))))] := by kernel_rfl
theorem setD_len {ds es : List DV} {o : Nat} (h : o + es.length ≤ ds.length) : (setD ds o es).length = ds.length := by
  simp only [setD, List.length_append, List.length_take, List.length_drop]; omega
theorem hdD_len (H : List Hd) : (hdD H).length = H.length * 2 := by
  induction H with
  | nil => rfl
  | cons x H ih => simp only [hdD, List.flatMap_cons, List.length_append, List.length_cons, List.length_nil] at ih ⊢; rw [ih]; omega
theorem hdD_cons (x : Hd) (H : List Hd) : hdD (x :: H) = .sl x.1.length none (cpD x.1) :: .fl (.int .i64 (x.2 : Int)) :: hdD H := rfl
theorem hdD_at : ∀ {H : List Hd} {c : Nat} {x : Hd}, H[c]? = some x → (hdD H)[c * 2]? = some (.sl x.1.length none (cpD x.1)) ∧ (hdD H)[c * 2 + 1]? = some (.fl (.int .i64 (x.2 : Int)))
  | [], c, x, h => by simp at h
  | y :: H, 0, x, h => by
      simp only [List.getElem?_cons_zero, Option.some.injEq] at h
      subst h
      exact ⟨rfl, rfl⟩
  | y :: H, c + 1, x, h => by
      obtain ⟨h1, h2⟩ := hdD_at (H := H) (c := c) (by simpa using h)
      rw [hdD_cons, show (c + 1) * 2 = c * 2 + 1 + 1 by omega]
      exact ⟨by simpa using h1, by simpa using h2⟩
theorem hdD_set : ∀ {H : List Hd} {i : Nat} (x : Hd), i < H.length → setD (hdD H) (i * 2) [.sl x.1.length none (cpD x.1), .fl (.int .i64 (x.2 : Int))] = hdD (H.set i x)
  | [], i, x, h => by simp at h
  | y :: H, 0, x, h => by simp [setD, hdD_cons]
  | y :: H, i + 1, x, h => by
      have ih := hdD_set (H := H) (i := i) x (by simpa using h)
      rw [List.set_cons_succ, hdD_cons, hdD_cons, ← ih, show (i + 1) * 2 = i * 2 + 1 + 1 by omega]
      simp only [setD, List.take_succ_cons, List.cons_append, List.length_cons, List.length_nil]
      rw [show i * 2 + 1 + 1 + (0 + 1 + 1) = i * 2 + (0 + 1 + 1) + 1 + 1 by omega, List.drop_succ_cons, List.drop_succ_cons]
structure HdOk (x : Hd) : Prop where
  ne : x.1 ≠ []
  O : ∀ p ∈ x.1, PrOk p
  l : x.1.length ≤ 9000000
  a : x.2 ≤ 9000000
structure HdAt (ds : List DV) (c : Nat) (x : Hd) (k : List Int) : Prop where
  n : dLen ds (c * 2) = x.1.length
  s : dSub ds (c * 2) = cpD x.1
  a : dInt ds (c * 2 + 1) = (x.2 : Int)
  o : ∀ nx, ShOb Try.prog 56 true true ds (c * 2) nx
  pos : 0 < x.1.length
  k0 : dLen (cpD x.1) 0 = k.length
  kv : dVals (cpD x.1) 0 = byV k
  ko : ∀ nx, ShOb Try.prog 23 false true (cpD x.1) 0 nx
  y : BytI k.length (byV k)
theorem hd_at {H : List Hd} {c : Nat} (hc : c < H.length) (h : HdOk (gH H c)) : HdAt (hdD H) c (gH H c) (kyH (gH H c)) := by
  obtain ⟨x, hx⟩ : ∃ x, gH H c = x := ⟨_, rfl⟩
  have hg : H[c]? = some x := by
    rw [← hx]
    unfold gH
    rw [List.getElem?_eq_getElem hc]
    rfl
  rw [hx] at h ⊢
  obtain ⟨g1, g2⟩ := hdD_at hg
  obtain ⟨p, r, e⟩ := List.exists_cons_of_ne_nil h.ne
  have F := (cpD_prs x.1).facts (i := 0) (p := p) (by rw [e]; rfl)
  have hk : kyH x = p.1 := by unfold kyH; rw [e]
  have e1 : dLen (hdD H) (c * 2) = x.1.length := by unfold dLen; rw [g1]
  have e2 : dSub (hdD H) (c * 2) = cpD x.1 := by unfold dSub; rw [g1]
  have e3 : dInt (hdD H) (c * 2 + 1) = (x.2 : Int) := by unfold dInt; rw [g2]
  have f1 := F.l0
  have f2 := F.v0
  have f3 := F.o27
  rw [Nat.zero_mul] at f1 f2 f3
  refine ⟨e1, e2, e3, fun nx => ?_, by rw [e]; simp, by rw [hk]; exact f1, by rw [hk]; exact f2, f3, by rw [hk]; exact byV_bytI (h.O p (by rw [e]; exact List.mem_cons_self ..)).1⟩
  rw [obHd]
  simp only [Nat.add_zero]
  exact ⟨⟨none, by rw [e1, e2]; exact g1, .inl rfl⟩, by rw [e3]; exact g2, trivial⟩
theorem ahd_cases (x y : Hd) : (cmpI (kyH x) (kyH y) < 0 ∧ ahd x y = true) ∨ (¬ cmpI (kyH x) (kyH y) < 0 ∧ cmpI (kyH x) (kyH y) = 0 ∧ x.2 < y.2 ∧ ahd x y = true) ∨ (¬ cmpI (kyH x) (kyH y) < 0 ∧ cmpI (kyH x) (kyH y) = 0 ∧ ¬ x.2 < y.2 ∧ ahd x y = false) ∨ (¬ cmpI (kyH x) (kyH y) < 0 ∧ ¬ cmpI (kyH x) (kyH y) = 0 ∧ ahd x y = false) := by
  unfold ahd
  rw [ltK_cmp]
  by_cases h1 : cmpI (kyH x) (kyH y) < 0
  · exact .inl ⟨h1, by simp [h1]⟩
  · by_cases h2 : cmpI (kyH x) (kyH y) = 0
    · have h3 := (cmpI_zero _ _).1 h2
      by_cases h4 : x.2 < y.2
      · exact .inr (.inl ⟨h1, h2, h4, by simp [h3, h4]⟩)
      · exact .inr (.inr (.inl ⟨h1, h2, h4, by simp [h1, h4]⟩))
    · have h3 : ¬ kyH x = kyH y := fun e => h2 ((cmpI_zero _ _).2 e)
      exact .inr (.inr (.inr ⟨h1, h2, by simp [h1, h3]⟩))
theorem dn_stop {H : List Hd} {n i : Nat} (h : l2H H n i = i) : ∀ f, dnH f H n i = H
  | 0 => rfl
  | f + 1 => by simp only [dnH, h, decide_true, cond_true]
theorem sw_ok {H : List Hd} {n i m : Nat} (hl : n ≤ H.length) (hi : i < n) (hm : m < n) (h : ∀ j, j < n → HdOk (gH H j)) : ∀ j, j < n → HdOk (gH (swH H i m) j) := fun j hj => by
  rw [gH_sw (by omega) (by omega)]
  split
  · exact h i hi
  · split
    · exact h m hm
    · exact h j hj
set_option maxHeartbeats 2000000 in
theorem dn_loop {inr : Bool} {h0 : Hp} {n : Nat} (hn : n ≤ 100) : ∀ (f : Nat) (H : List Hd) (i : Nat), n ≤ H.length → n - i ≤ f → i ≤ 200 → (∀ j, j < n → HdOk (gH H j)) →
    LRuns inr Try.prog (bodyIn Try.prog 32 0) 1 40 h0 51 [(0, haA n), (1, iV i)] [(0, ⟨.dw 2 zHd (hdD H), []⟩)] 1 (.ret, [], [(0, ⟨.dw 2 zHd (hdD (dnH f H n i)), []⟩)])
  | f, H, i, hl, hf, hi2, hO => by
      by_cases h1 : 2 * i + 1 < n
      case neg =>
        have e : l2H H n i = i := by simp [l2H, lsH, h1, show ¬ 2 * i + 2 < n by omega]
        rw [dn_stop e]
        refine LRuns.exit (code_runsP dwX dwL (runZ_ok dwX dwT dwL mixed 12) mixed (dw_z inr n i (hdD H)) ?_) (by intro e; cases e) rfl (by omega) (by omega) (fun n => n) ?_ ?_ rfl
        · simp only [Alls, rg, decide_eq_true_eq, decide_eq_false_iff_not, beq_iff_eq]
          repeat' (with_reducible apply And.intro)
          all_goals first | omega | (with_reducible exact trivial)
        · trivial
        · exact ⟨dw_row (m := 0) rfl rfl, trivial⟩
      have c2e : 2 * i + 1 + 1 = 2 * i + 2 := by omega
      have hlD := hdD_len H
      have A0 := hd_at (H := H) (c := i) (by omega) (hO i (by omega))
      have A1 := hd_at (H := H) (c := 2 * i + 1) (by omega) (hO _ h1)
      have p0 := A0.pos
      have p1 := A1.pos
      obtain ⟨f, rfl⟩ : ∃ g, f = g + 1 := ⟨f - 1, by omega⟩
      by_cases h2 : 2 * i + 2 < n
      case neg =>
        have A2 := A1
        rcases ahd_cases (gH H (2 * i + 1)) (gH H i) with ⟨s1, q⟩ | ⟨s1, s2, s3, q⟩ | ⟨s1, s2, s3, q⟩ | ⟨s1, s2, q⟩
        ·
          have e : l2H H n i = 2 * i + 1 := by simp [l2H, lsH, h1, h2, q]
          have ed : dnH (f + 1) H n i = dnH f (swH H i (2 * i + 1)) n (2 * i + 1) := by simp only [dnH, e, decide_eq_false (show ¬ 2 * i + 1 = i by omega), cond_false]
          rw [ed]
          have nx := dn_loop (inr := inr) (h0 := h0) hn f (swH H i (2 * i + 1)) (2 * i + 1) (by rw [swH_len]; exact hl) (by omega) (by omega) (sw_ok hl (by omega) (by omega) hO)
          refine LRuns.step (code_runsP dwX dwL (runZ_ok dwX dwT dwL mixed 12) mixed (dw_ol inr n i (hdD H)) ?_) rfl (by omega) (by omega) (fun n => n) ?_ ?_ rfl nx
          ·
            simp only [Alls, rg, decide_eq_true_eq, decide_eq_false_iff_not, beq_iff_eq, beq_eq_false_iff_ne, Nat.add_zero, byV_ints, c2e, A0.n, A0.s, A0.a, A1.n, A1.s, A1.a, A0.k0, A0.kv, A1.k0, A1.kv]
            repeat' (with_reducible apply And.intro)
            all_goals first | omega | (with_reducible assumption) | exact A0.o _ | exact A0.ko _ | exact A1.o _ | exact A1.ko _ | exact A2.o _ | exact A2.ko _ | (with_reducible exact trivial) | exact A0.y | exact A1.y | exact A2.y | (with_reducible rfl) | exact fun e => absurd (A0.n.symm.trans e) (by omega) | exact fun e => absurd (A1.n.symm.trans e) (by omega) | exact fun e => absurd (A2.n.symm.trans e) (by omega) | (rw [setD_len (by simp only [List.length_cons, List.length_nil]; omega)]; omega) | skip
          · exact ⟨rfl, rb_slg rfl rfl, rfl, rfl, trivial⟩
          · refine ⟨dw_row (m := 0) rfl (dw_eq ?_), trivial⟩
            simp only [Nat.add_zero, c2e, A0.n, A0.s, A0.a, A1.n, A1.s, A1.a]
            rw [hdD_set _ (by omega), hdD_set _ (by rw [List.length_set]; omega)]
            rfl
        ·
          have e : l2H H n i = 2 * i + 1 := by simp [l2H, lsH, h1, h2, q]
          have ed : dnH (f + 1) H n i = dnH f (swH H i (2 * i + 1)) n (2 * i + 1) := by simp only [dnH, e, decide_eq_false (show ¬ 2 * i + 1 = i by omega), cond_false]
          rw [ed]
          have nx := dn_loop (inr := inr) (h0 := h0) hn f (swH H i (2 * i + 1)) (2 * i + 1) (by rw [swH_len]; exact hl) (by omega) (by omega) (sw_ok hl (by omega) (by omega) hO)
          refine LRuns.step (code_runsP dwX dwL (runZ_ok dwX dwT dwL mixed 12) mixed (dw_oa inr n i (hdD H)) ?_) rfl (by omega) (by omega) (fun n => n) ?_ ?_ rfl nx
          ·
            simp only [Alls, rg, decide_eq_true_eq, decide_eq_false_iff_not, beq_iff_eq, beq_eq_false_iff_ne, Nat.add_zero, byV_ints, c2e, A0.n, A0.s, A0.a, A1.n, A1.s, A1.a, A0.k0, A0.kv, A1.k0, A1.kv]
            repeat' (with_reducible apply And.intro)
            all_goals first | omega | (with_reducible assumption) | exact A0.o _ | exact A0.ko _ | exact A1.o _ | exact A1.ko _ | exact A2.o _ | exact A2.ko _ | (with_reducible exact trivial) | exact A0.y | exact A1.y | exact A2.y | (with_reducible rfl) | exact fun e => absurd (A0.n.symm.trans e) (by omega) | exact fun e => absurd (A1.n.symm.trans e) (by omega) | exact fun e => absurd (A2.n.symm.trans e) (by omega) | (rw [setD_len (by simp only [List.length_cons, List.length_nil]; omega)]; omega) | skip
          · exact ⟨rfl, rb_slg rfl rfl, rfl, rfl, trivial⟩
          · refine ⟨dw_row (m := 0) rfl (dw_eq ?_), trivial⟩
            simp only [Nat.add_zero, c2e, A0.n, A0.s, A0.a, A1.n, A1.s, A1.a]
            rw [hdD_set _ (by omega), hdD_set _ (by rw [List.length_set]; omega)]
            rfl
        ·
          have e : l2H H n i = i := by simp [l2H, lsH, h1, h2, q]
          rw [dn_stop e]
          refine LRuns.exit (code_runsP dwX dwL (runZ_ok dwX dwT dwL mixed 12) mixed (dw_ob inr n i (hdD H)) ?_) (by intro e; cases e) rfl (by omega) (by omega) (fun n => n) ?_ ?_ rfl
          ·
            simp only [Alls, rg, decide_eq_true_eq, decide_eq_false_iff_not, beq_iff_eq, beq_eq_false_iff_ne, Nat.add_zero, byV_ints, c2e, A0.n, A0.s, A0.a, A1.n, A1.s, A1.a, A0.k0, A0.kv, A1.k0, A1.kv]
            repeat' (with_reducible apply And.intro)
            all_goals first | omega | (with_reducible assumption) | exact A0.o _ | exact A0.ko _ | exact A1.o _ | exact A1.ko _ | exact A2.o _ | exact A2.ko _ | (with_reducible exact trivial) | exact A0.y | exact A1.y | exact A2.y | (with_reducible rfl) | exact fun e => absurd (A0.n.symm.trans e) (by omega) | exact fun e => absurd (A1.n.symm.trans e) (by omega) | exact fun e => absurd (A2.n.symm.trans e) (by omega) | (rw [setD_len (by simp only [List.length_cons, List.length_nil]; omega)]; omega) | skip
          · trivial
          · exact ⟨dw_row (m := 0) rfl rfl, trivial⟩
        ·
          have e : l2H H n i = i := by simp [l2H, lsH, h1, h2, q]
          rw [dn_stop e]
          refine LRuns.exit (code_runsP dwX dwL (runZ_ok dwX dwT dwL mixed 12) mixed (dw_og inr n i (hdD H)) ?_) (by intro e; cases e) rfl (by omega) (by omega) (fun n => n) ?_ ?_ rfl
          ·
            simp only [Alls, rg, decide_eq_true_eq, decide_eq_false_iff_not, beq_iff_eq, beq_eq_false_iff_ne, Nat.add_zero, byV_ints, c2e, A0.n, A0.s, A0.a, A1.n, A1.s, A1.a, A0.k0, A0.kv, A1.k0, A1.kv]
            repeat' (with_reducible apply And.intro)
            all_goals first | omega | (with_reducible assumption) | exact A0.o _ | exact A0.ko _ | exact A1.o _ | exact A1.ko _ | exact A2.o _ | exact A2.ko _ | (with_reducible exact trivial) | exact A0.y | exact A1.y | exact A2.y | (with_reducible rfl) | exact fun e => absurd (A0.n.symm.trans e) (by omega) | exact fun e => absurd (A1.n.symm.trans e) (by omega) | exact fun e => absurd (A2.n.symm.trans e) (by omega) | (rw [setD_len (by simp only [List.length_cons, List.length_nil]; omega)]; omega) | skip
          · trivial
          · exact ⟨dw_row (m := 0) rfl rfl, trivial⟩
      have A2 := hd_at (H := H) (c := 2 * i + 2) (by omega) (hO _ h2)
      have p2 := A2.pos
      rcases ahd_cases (gH H (2 * i + 1)) (gH H i) with ⟨s1, q⟩ | ⟨s1, s2, s3, q⟩ | ⟨s1, s2, s3, q⟩ | ⟨s1, s2, q⟩
      · rcases ahd_cases (gH H (2 * i + 2)) (gH H (2 * i + 1)) with ⟨t1, r⟩ | ⟨t1, t2, t3, r⟩ | ⟨t1, t2, t3, r⟩ | ⟨t1, t2, r⟩
        ·
          have e : l2H H n i = 2 * i + 2 := by simp [l2H, lsH, h1, h2, q, r]
          have ed : dnH (f + 1) H n i = dnH f (swH H i (2 * i + 2)) n (2 * i + 2) := by simp only [dnH, e, decide_eq_false (show ¬ 2 * i + 2 = i by omega), cond_false]
          rw [ed]
          have nx := dn_loop (inr := inr) (h0 := h0) hn f (swH H i (2 * i + 2)) (2 * i + 2) (by rw [swH_len]; exact hl) (by omega) (by omega) (sw_ok hl (by omega) (by omega) hO)
          refine LRuns.step (code_runsP dwX dwL (runZ_ok dwX dwT dwL mixed 12) mixed (dw_tll inr n i (hdD H)) ?_) rfl (by omega) (by omega) (fun n => n) ?_ ?_ rfl nx
          ·
            simp only [Alls, rg, decide_eq_true_eq, decide_eq_false_iff_not, beq_iff_eq, beq_eq_false_iff_ne, Nat.add_zero, byV_ints, c2e, A0.n, A0.s, A0.a, A1.n, A1.s, A1.a, A2.n, A2.s, A2.a, A0.k0, A0.kv, A1.k0, A1.kv, A2.k0, A2.kv]
            repeat' (with_reducible apply And.intro)
            all_goals first | omega | (with_reducible assumption) | exact A0.o _ | exact A0.ko _ | exact A1.o _ | exact A1.ko _ | exact A2.o _ | exact A2.ko _ | (with_reducible exact trivial) | exact A0.y | exact A1.y | exact A2.y | (with_reducible rfl) | exact fun e => absurd (A0.n.symm.trans e) (by omega) | exact fun e => absurd (A1.n.symm.trans e) (by omega) | exact fun e => absurd (A2.n.symm.trans e) (by omega) | (rw [setD_len (by simp only [List.length_cons, List.length_nil]; omega)]; omega) | skip
          · exact ⟨rfl, rb_slg rfl rfl, rfl, rfl, trivial⟩
          · refine ⟨dw_row (m := 0) rfl (dw_eq ?_), trivial⟩
            simp only [Nat.add_zero, c2e, A0.n, A0.s, A0.a, A1.n, A1.s, A1.a, A2.n, A2.s, A2.a]
            rw [hdD_set _ (by omega), hdD_set _ (by rw [List.length_set]; omega)]
            rfl
        ·
          have e : l2H H n i = 2 * i + 2 := by simp [l2H, lsH, h1, h2, q, r]
          have ed : dnH (f + 1) H n i = dnH f (swH H i (2 * i + 2)) n (2 * i + 2) := by simp only [dnH, e, decide_eq_false (show ¬ 2 * i + 2 = i by omega), cond_false]
          rw [ed]
          have nx := dn_loop (inr := inr) (h0 := h0) hn f (swH H i (2 * i + 2)) (2 * i + 2) (by rw [swH_len]; exact hl) (by omega) (by omega) (sw_ok hl (by omega) (by omega) hO)
          refine LRuns.step (code_runsP dwX dwL (runZ_ok dwX dwT dwL mixed 12) mixed (dw_tla inr n i (hdD H)) ?_) rfl (by omega) (by omega) (fun n => n) ?_ ?_ rfl nx
          ·
            simp only [Alls, rg, decide_eq_true_eq, decide_eq_false_iff_not, beq_iff_eq, beq_eq_false_iff_ne, Nat.add_zero, byV_ints, c2e, A0.n, A0.s, A0.a, A1.n, A1.s, A1.a, A2.n, A2.s, A2.a, A0.k0, A0.kv, A1.k0, A1.kv, A2.k0, A2.kv]
            repeat' (with_reducible apply And.intro)
            all_goals first | omega | (with_reducible assumption) | exact A0.o _ | exact A0.ko _ | exact A1.o _ | exact A1.ko _ | exact A2.o _ | exact A2.ko _ | (with_reducible exact trivial) | exact A0.y | exact A1.y | exact A2.y | (with_reducible rfl) | exact fun e => absurd (A0.n.symm.trans e) (by omega) | exact fun e => absurd (A1.n.symm.trans e) (by omega) | exact fun e => absurd (A2.n.symm.trans e) (by omega) | (rw [setD_len (by simp only [List.length_cons, List.length_nil]; omega)]; omega) | skip
          · exact ⟨rfl, rb_slg rfl rfl, rfl, rfl, trivial⟩
          · refine ⟨dw_row (m := 0) rfl (dw_eq ?_), trivial⟩
            simp only [Nat.add_zero, c2e, A0.n, A0.s, A0.a, A1.n, A1.s, A1.a, A2.n, A2.s, A2.a]
            rw [hdD_set _ (by omega), hdD_set _ (by rw [List.length_set]; omega)]
            rfl
        ·
          have e : l2H H n i = 2 * i + 1 := by simp [l2H, lsH, h1, h2, q, r]
          have ed : dnH (f + 1) H n i = dnH f (swH H i (2 * i + 1)) n (2 * i + 1) := by simp only [dnH, e, decide_eq_false (show ¬ 2 * i + 1 = i by omega), cond_false]
          rw [ed]
          have nx := dn_loop (inr := inr) (h0 := h0) hn f (swH H i (2 * i + 1)) (2 * i + 1) (by rw [swH_len]; exact hl) (by omega) (by omega) (sw_ok hl (by omega) (by omega) hO)
          refine LRuns.step (code_runsP dwX dwL (runZ_ok dwX dwT dwL mixed 12) mixed (dw_tlb inr n i (hdD H)) ?_) rfl (by omega) (by omega) (fun n => n) ?_ ?_ rfl nx
          ·
            simp only [Alls, rg, decide_eq_true_eq, decide_eq_false_iff_not, beq_iff_eq, beq_eq_false_iff_ne, Nat.add_zero, byV_ints, c2e, A0.n, A0.s, A0.a, A1.n, A1.s, A1.a, A2.n, A2.s, A2.a, A0.k0, A0.kv, A1.k0, A1.kv, A2.k0, A2.kv]
            repeat' (with_reducible apply And.intro)
            all_goals first | omega | (with_reducible assumption) | exact A0.o _ | exact A0.ko _ | exact A1.o _ | exact A1.ko _ | exact A2.o _ | exact A2.ko _ | (with_reducible exact trivial) | exact A0.y | exact A1.y | exact A2.y | (with_reducible rfl) | exact fun e => absurd (A0.n.symm.trans e) (by omega) | exact fun e => absurd (A1.n.symm.trans e) (by omega) | exact fun e => absurd (A2.n.symm.trans e) (by omega) | (rw [setD_len (by simp only [List.length_cons, List.length_nil]; omega)]; omega) | skip
          · exact ⟨rfl, rb_slg rfl rfl, rfl, rfl, trivial⟩
          · refine ⟨dw_row (m := 0) rfl (dw_eq ?_), trivial⟩
            simp only [Nat.add_zero, c2e, A0.n, A0.s, A0.a, A1.n, A1.s, A1.a, A2.n, A2.s, A2.a]
            rw [hdD_set _ (by omega), hdD_set _ (by rw [List.length_set]; omega)]
            rfl
        ·
          have e : l2H H n i = 2 * i + 1 := by simp [l2H, lsH, h1, h2, q, r]
          have ed : dnH (f + 1) H n i = dnH f (swH H i (2 * i + 1)) n (2 * i + 1) := by simp only [dnH, e, decide_eq_false (show ¬ 2 * i + 1 = i by omega), cond_false]
          rw [ed]
          have nx := dn_loop (inr := inr) (h0 := h0) hn f (swH H i (2 * i + 1)) (2 * i + 1) (by rw [swH_len]; exact hl) (by omega) (by omega) (sw_ok hl (by omega) (by omega) hO)
          refine LRuns.step (code_runsP dwX dwL (runZ_ok dwX dwT dwL mixed 12) mixed (dw_tlg inr n i (hdD H)) ?_) rfl (by omega) (by omega) (fun n => n) ?_ ?_ rfl nx
          ·
            simp only [Alls, rg, decide_eq_true_eq, decide_eq_false_iff_not, beq_iff_eq, beq_eq_false_iff_ne, Nat.add_zero, byV_ints, c2e, A0.n, A0.s, A0.a, A1.n, A1.s, A1.a, A2.n, A2.s, A2.a, A0.k0, A0.kv, A1.k0, A1.kv, A2.k0, A2.kv]
            repeat' (with_reducible apply And.intro)
            all_goals first | omega | (with_reducible assumption) | exact A0.o _ | exact A0.ko _ | exact A1.o _ | exact A1.ko _ | exact A2.o _ | exact A2.ko _ | (with_reducible exact trivial) | exact A0.y | exact A1.y | exact A2.y | (with_reducible rfl) | exact fun e => absurd (A0.n.symm.trans e) (by omega) | exact fun e => absurd (A1.n.symm.trans e) (by omega) | exact fun e => absurd (A2.n.symm.trans e) (by omega) | (rw [setD_len (by simp only [List.length_cons, List.length_nil]; omega)]; omega) | skip
          · exact ⟨rfl, rb_slg rfl rfl, rfl, rfl, trivial⟩
          · refine ⟨dw_row (m := 0) rfl (dw_eq ?_), trivial⟩
            simp only [Nat.add_zero, c2e, A0.n, A0.s, A0.a, A1.n, A1.s, A1.a, A2.n, A2.s, A2.a]
            rw [hdD_set _ (by omega), hdD_set _ (by rw [List.length_set]; omega)]
            rfl
      · rcases ahd_cases (gH H (2 * i + 2)) (gH H (2 * i + 1)) with ⟨t1, r⟩ | ⟨t1, t2, t3, r⟩ | ⟨t1, t2, t3, r⟩ | ⟨t1, t2, r⟩
        ·
          have e : l2H H n i = 2 * i + 2 := by simp [l2H, lsH, h1, h2, q, r]
          have ed : dnH (f + 1) H n i = dnH f (swH H i (2 * i + 2)) n (2 * i + 2) := by simp only [dnH, e, decide_eq_false (show ¬ 2 * i + 2 = i by omega), cond_false]
          rw [ed]
          have nx := dn_loop (inr := inr) (h0 := h0) hn f (swH H i (2 * i + 2)) (2 * i + 2) (by rw [swH_len]; exact hl) (by omega) (by omega) (sw_ok hl (by omega) (by omega) hO)
          refine LRuns.step (code_runsP dwX dwL (runZ_ok dwX dwT dwL mixed 12) mixed (dw_tal inr n i (hdD H)) ?_) rfl (by omega) (by omega) (fun n => n) ?_ ?_ rfl nx
          ·
            simp only [Alls, rg, decide_eq_true_eq, decide_eq_false_iff_not, beq_iff_eq, beq_eq_false_iff_ne, Nat.add_zero, byV_ints, c2e, A0.n, A0.s, A0.a, A1.n, A1.s, A1.a, A2.n, A2.s, A2.a, A0.k0, A0.kv, A1.k0, A1.kv, A2.k0, A2.kv]
            repeat' (with_reducible apply And.intro)
            all_goals first | omega | (with_reducible assumption) | exact A0.o _ | exact A0.ko _ | exact A1.o _ | exact A1.ko _ | exact A2.o _ | exact A2.ko _ | (with_reducible exact trivial) | exact A0.y | exact A1.y | exact A2.y | (with_reducible rfl) | exact fun e => absurd (A0.n.symm.trans e) (by omega) | exact fun e => absurd (A1.n.symm.trans e) (by omega) | exact fun e => absurd (A2.n.symm.trans e) (by omega) | (rw [setD_len (by simp only [List.length_cons, List.length_nil]; omega)]; omega) | skip
          · exact ⟨rfl, rb_slg rfl rfl, rfl, rfl, trivial⟩
          · refine ⟨dw_row (m := 0) rfl (dw_eq ?_), trivial⟩
            simp only [Nat.add_zero, c2e, A0.n, A0.s, A0.a, A1.n, A1.s, A1.a, A2.n, A2.s, A2.a]
            rw [hdD_set _ (by omega), hdD_set _ (by rw [List.length_set]; omega)]
            rfl
        ·
          have e : l2H H n i = 2 * i + 2 := by simp [l2H, lsH, h1, h2, q, r]
          have ed : dnH (f + 1) H n i = dnH f (swH H i (2 * i + 2)) n (2 * i + 2) := by simp only [dnH, e, decide_eq_false (show ¬ 2 * i + 2 = i by omega), cond_false]
          rw [ed]
          have nx := dn_loop (inr := inr) (h0 := h0) hn f (swH H i (2 * i + 2)) (2 * i + 2) (by rw [swH_len]; exact hl) (by omega) (by omega) (sw_ok hl (by omega) (by omega) hO)
          refine LRuns.step (code_runsP dwX dwL (runZ_ok dwX dwT dwL mixed 12) mixed (dw_taa inr n i (hdD H)) ?_) rfl (by omega) (by omega) (fun n => n) ?_ ?_ rfl nx
          ·
            simp only [Alls, rg, decide_eq_true_eq, decide_eq_false_iff_not, beq_iff_eq, beq_eq_false_iff_ne, Nat.add_zero, byV_ints, c2e, A0.n, A0.s, A0.a, A1.n, A1.s, A1.a, A2.n, A2.s, A2.a, A0.k0, A0.kv, A1.k0, A1.kv, A2.k0, A2.kv]
            repeat' (with_reducible apply And.intro)
            all_goals first | omega | (with_reducible assumption) | exact A0.o _ | exact A0.ko _ | exact A1.o _ | exact A1.ko _ | exact A2.o _ | exact A2.ko _ | (with_reducible exact trivial) | exact A0.y | exact A1.y | exact A2.y | (with_reducible rfl) | exact fun e => absurd (A0.n.symm.trans e) (by omega) | exact fun e => absurd (A1.n.symm.trans e) (by omega) | exact fun e => absurd (A2.n.symm.trans e) (by omega) | (rw [setD_len (by simp only [List.length_cons, List.length_nil]; omega)]; omega) | skip
          · exact ⟨rfl, rb_slg rfl rfl, rfl, rfl, trivial⟩
          · refine ⟨dw_row (m := 0) rfl (dw_eq ?_), trivial⟩
            simp only [Nat.add_zero, c2e, A0.n, A0.s, A0.a, A1.n, A1.s, A1.a, A2.n, A2.s, A2.a]
            rw [hdD_set _ (by omega), hdD_set _ (by rw [List.length_set]; omega)]
            rfl
        ·
          have e : l2H H n i = 2 * i + 1 := by simp [l2H, lsH, h1, h2, q, r]
          have ed : dnH (f + 1) H n i = dnH f (swH H i (2 * i + 1)) n (2 * i + 1) := by simp only [dnH, e, decide_eq_false (show ¬ 2 * i + 1 = i by omega), cond_false]
          rw [ed]
          have nx := dn_loop (inr := inr) (h0 := h0) hn f (swH H i (2 * i + 1)) (2 * i + 1) (by rw [swH_len]; exact hl) (by omega) (by omega) (sw_ok hl (by omega) (by omega) hO)
          refine LRuns.step (code_runsP dwX dwL (runZ_ok dwX dwT dwL mixed 12) mixed (dw_tab inr n i (hdD H)) ?_) rfl (by omega) (by omega) (fun n => n) ?_ ?_ rfl nx
          ·
            simp only [Alls, rg, decide_eq_true_eq, decide_eq_false_iff_not, beq_iff_eq, beq_eq_false_iff_ne, Nat.add_zero, byV_ints, c2e, A0.n, A0.s, A0.a, A1.n, A1.s, A1.a, A2.n, A2.s, A2.a, A0.k0, A0.kv, A1.k0, A1.kv, A2.k0, A2.kv]
            repeat' (with_reducible apply And.intro)
            all_goals first | omega | (with_reducible assumption) | exact A0.o _ | exact A0.ko _ | exact A1.o _ | exact A1.ko _ | exact A2.o _ | exact A2.ko _ | (with_reducible exact trivial) | exact A0.y | exact A1.y | exact A2.y | (with_reducible rfl) | exact fun e => absurd (A0.n.symm.trans e) (by omega) | exact fun e => absurd (A1.n.symm.trans e) (by omega) | exact fun e => absurd (A2.n.symm.trans e) (by omega) | (rw [setD_len (by simp only [List.length_cons, List.length_nil]; omega)]; omega) | skip
          · exact ⟨rfl, rb_slg rfl rfl, rfl, rfl, trivial⟩
          · refine ⟨dw_row (m := 0) rfl (dw_eq ?_), trivial⟩
            simp only [Nat.add_zero, c2e, A0.n, A0.s, A0.a, A1.n, A1.s, A1.a, A2.n, A2.s, A2.a]
            rw [hdD_set _ (by omega), hdD_set _ (by rw [List.length_set]; omega)]
            rfl
        ·
          have e : l2H H n i = 2 * i + 1 := by simp [l2H, lsH, h1, h2, q, r]
          have ed : dnH (f + 1) H n i = dnH f (swH H i (2 * i + 1)) n (2 * i + 1) := by simp only [dnH, e, decide_eq_false (show ¬ 2 * i + 1 = i by omega), cond_false]
          rw [ed]
          have nx := dn_loop (inr := inr) (h0 := h0) hn f (swH H i (2 * i + 1)) (2 * i + 1) (by rw [swH_len]; exact hl) (by omega) (by omega) (sw_ok hl (by omega) (by omega) hO)
          refine LRuns.step (code_runsP dwX dwL (runZ_ok dwX dwT dwL mixed 12) mixed (dw_tag inr n i (hdD H)) ?_) rfl (by omega) (by omega) (fun n => n) ?_ ?_ rfl nx
          ·
            simp only [Alls, rg, decide_eq_true_eq, decide_eq_false_iff_not, beq_iff_eq, beq_eq_false_iff_ne, Nat.add_zero, byV_ints, c2e, A0.n, A0.s, A0.a, A1.n, A1.s, A1.a, A2.n, A2.s, A2.a, A0.k0, A0.kv, A1.k0, A1.kv, A2.k0, A2.kv]
            repeat' (with_reducible apply And.intro)
            all_goals first | omega | (with_reducible assumption) | exact A0.o _ | exact A0.ko _ | exact A1.o _ | exact A1.ko _ | exact A2.o _ | exact A2.ko _ | (with_reducible exact trivial) | exact A0.y | exact A1.y | exact A2.y | (with_reducible rfl) | exact fun e => absurd (A0.n.symm.trans e) (by omega) | exact fun e => absurd (A1.n.symm.trans e) (by omega) | exact fun e => absurd (A2.n.symm.trans e) (by omega) | (rw [setD_len (by simp only [List.length_cons, List.length_nil]; omega)]; omega) | skip
          · exact ⟨rfl, rb_slg rfl rfl, rfl, rfl, trivial⟩
          · refine ⟨dw_row (m := 0) rfl (dw_eq ?_), trivial⟩
            simp only [Nat.add_zero, c2e, A0.n, A0.s, A0.a, A1.n, A1.s, A1.a, A2.n, A2.s, A2.a]
            rw [hdD_set _ (by omega), hdD_set _ (by rw [List.length_set]; omega)]
            rfl
      · rcases ahd_cases (gH H (2 * i + 2)) (gH H (i)) with ⟨t1, r⟩ | ⟨t1, t2, t3, r⟩ | ⟨t1, t2, t3, r⟩ | ⟨t1, t2, r⟩
        ·
          have e : l2H H n i = 2 * i + 2 := by simp [l2H, lsH, h1, h2, q, r]
          have ed : dnH (f + 1) H n i = dnH f (swH H i (2 * i + 2)) n (2 * i + 2) := by simp only [dnH, e, decide_eq_false (show ¬ 2 * i + 2 = i by omega), cond_false]
          rw [ed]
          have nx := dn_loop (inr := inr) (h0 := h0) hn f (swH H i (2 * i + 2)) (2 * i + 2) (by rw [swH_len]; exact hl) (by omega) (by omega) (sw_ok hl (by omega) (by omega) hO)
          refine LRuns.step (code_runsP dwX dwL (runZ_ok dwX dwT dwL mixed 12) mixed (dw_tbl inr n i (hdD H)) ?_) rfl (by omega) (by omega) (fun n => n) ?_ ?_ rfl nx
          ·
            simp only [Alls, rg, decide_eq_true_eq, decide_eq_false_iff_not, beq_iff_eq, beq_eq_false_iff_ne, Nat.add_zero, byV_ints, c2e, A0.n, A0.s, A0.a, A1.n, A1.s, A1.a, A2.n, A2.s, A2.a, A0.k0, A0.kv, A1.k0, A1.kv, A2.k0, A2.kv]
            repeat' (with_reducible apply And.intro)
            all_goals first | omega | (with_reducible assumption) | exact A0.o _ | exact A0.ko _ | exact A1.o _ | exact A1.ko _ | exact A2.o _ | exact A2.ko _ | (with_reducible exact trivial) | exact A0.y | exact A1.y | exact A2.y | (with_reducible rfl) | exact fun e => absurd (A0.n.symm.trans e) (by omega) | exact fun e => absurd (A1.n.symm.trans e) (by omega) | exact fun e => absurd (A2.n.symm.trans e) (by omega) | (rw [setD_len (by simp only [List.length_cons, List.length_nil]; omega)]; omega) | skip
          · exact ⟨rfl, rb_slg rfl rfl, rfl, rfl, trivial⟩
          · refine ⟨dw_row (m := 0) rfl (dw_eq ?_), trivial⟩
            simp only [Nat.add_zero, c2e, A0.n, A0.s, A0.a, A1.n, A1.s, A1.a, A2.n, A2.s, A2.a]
            rw [hdD_set _ (by omega), hdD_set _ (by rw [List.length_set]; omega)]
            rfl
        ·
          have e : l2H H n i = 2 * i + 2 := by simp [l2H, lsH, h1, h2, q, r]
          have ed : dnH (f + 1) H n i = dnH f (swH H i (2 * i + 2)) n (2 * i + 2) := by simp only [dnH, e, decide_eq_false (show ¬ 2 * i + 2 = i by omega), cond_false]
          rw [ed]
          have nx := dn_loop (inr := inr) (h0 := h0) hn f (swH H i (2 * i + 2)) (2 * i + 2) (by rw [swH_len]; exact hl) (by omega) (by omega) (sw_ok hl (by omega) (by omega) hO)
          refine LRuns.step (code_runsP dwX dwL (runZ_ok dwX dwT dwL mixed 12) mixed (dw_tba inr n i (hdD H)) ?_) rfl (by omega) (by omega) (fun n => n) ?_ ?_ rfl nx
          ·
            simp only [Alls, rg, decide_eq_true_eq, decide_eq_false_iff_not, beq_iff_eq, beq_eq_false_iff_ne, Nat.add_zero, byV_ints, c2e, A0.n, A0.s, A0.a, A1.n, A1.s, A1.a, A2.n, A2.s, A2.a, A0.k0, A0.kv, A1.k0, A1.kv, A2.k0, A2.kv]
            repeat' (with_reducible apply And.intro)
            all_goals first | omega | (with_reducible assumption) | exact A0.o _ | exact A0.ko _ | exact A1.o _ | exact A1.ko _ | exact A2.o _ | exact A2.ko _ | (with_reducible exact trivial) | exact A0.y | exact A1.y | exact A2.y | (with_reducible rfl) | exact fun e => absurd (A0.n.symm.trans e) (by omega) | exact fun e => absurd (A1.n.symm.trans e) (by omega) | exact fun e => absurd (A2.n.symm.trans e) (by omega) | (rw [setD_len (by simp only [List.length_cons, List.length_nil]; omega)]; omega) | skip
          · exact ⟨rfl, rb_slg rfl rfl, rfl, rfl, trivial⟩
          · refine ⟨dw_row (m := 0) rfl (dw_eq ?_), trivial⟩
            simp only [Nat.add_zero, c2e, A0.n, A0.s, A0.a, A1.n, A1.s, A1.a, A2.n, A2.s, A2.a]
            rw [hdD_set _ (by omega), hdD_set _ (by rw [List.length_set]; omega)]
            rfl
        ·
          have e : l2H H n i = i := by simp [l2H, lsH, h1, h2, q, r]
          rw [dn_stop e]
          refine LRuns.exit (code_runsP dwX dwL (runZ_ok dwX dwT dwL mixed 12) mixed (dw_tbb inr n i (hdD H)) ?_) (by intro e; cases e) rfl (by omega) (by omega) (fun n => n) ?_ ?_ rfl
          ·
            simp only [Alls, rg, decide_eq_true_eq, decide_eq_false_iff_not, beq_iff_eq, beq_eq_false_iff_ne, Nat.add_zero, byV_ints, c2e, A0.n, A0.s, A0.a, A1.n, A1.s, A1.a, A2.n, A2.s, A2.a, A0.k0, A0.kv, A1.k0, A1.kv, A2.k0, A2.kv]
            repeat' (with_reducible apply And.intro)
            all_goals first | omega | (with_reducible assumption) | exact A0.o _ | exact A0.ko _ | exact A1.o _ | exact A1.ko _ | exact A2.o _ | exact A2.ko _ | (with_reducible exact trivial) | exact A0.y | exact A1.y | exact A2.y | (with_reducible rfl) | exact fun e => absurd (A0.n.symm.trans e) (by omega) | exact fun e => absurd (A1.n.symm.trans e) (by omega) | exact fun e => absurd (A2.n.symm.trans e) (by omega) | (rw [setD_len (by simp only [List.length_cons, List.length_nil]; omega)]; omega) | skip
          · trivial
          · exact ⟨dw_row (m := 0) rfl rfl, trivial⟩
        ·
          have e : l2H H n i = i := by simp [l2H, lsH, h1, h2, q, r]
          rw [dn_stop e]
          refine LRuns.exit (code_runsP dwX dwL (runZ_ok dwX dwT dwL mixed 12) mixed (dw_tbg inr n i (hdD H)) ?_) (by intro e; cases e) rfl (by omega) (by omega) (fun n => n) ?_ ?_ rfl
          ·
            simp only [Alls, rg, decide_eq_true_eq, decide_eq_false_iff_not, beq_iff_eq, beq_eq_false_iff_ne, Nat.add_zero, byV_ints, c2e, A0.n, A0.s, A0.a, A1.n, A1.s, A1.a, A2.n, A2.s, A2.a, A0.k0, A0.kv, A1.k0, A1.kv, A2.k0, A2.kv]
            repeat' (with_reducible apply And.intro)
            all_goals first | omega | (with_reducible assumption) | exact A0.o _ | exact A0.ko _ | exact A1.o _ | exact A1.ko _ | exact A2.o _ | exact A2.ko _ | (with_reducible exact trivial) | exact A0.y | exact A1.y | exact A2.y | (with_reducible rfl) | exact fun e => absurd (A0.n.symm.trans e) (by omega) | exact fun e => absurd (A1.n.symm.trans e) (by omega) | exact fun e => absurd (A2.n.symm.trans e) (by omega) | (rw [setD_len (by simp only [List.length_cons, List.length_nil]; omega)]; omega) | skip
          · trivial
          · exact ⟨dw_row (m := 0) rfl rfl, trivial⟩
      · rcases ahd_cases (gH H (2 * i + 2)) (gH H (i)) with ⟨t1, r⟩ | ⟨t1, t2, t3, r⟩ | ⟨t1, t2, t3, r⟩ | ⟨t1, t2, r⟩
        ·
          have e : l2H H n i = 2 * i + 2 := by simp [l2H, lsH, h1, h2, q, r]
          have ed : dnH (f + 1) H n i = dnH f (swH H i (2 * i + 2)) n (2 * i + 2) := by simp only [dnH, e, decide_eq_false (show ¬ 2 * i + 2 = i by omega), cond_false]
          rw [ed]
          have nx := dn_loop (inr := inr) (h0 := h0) hn f (swH H i (2 * i + 2)) (2 * i + 2) (by rw [swH_len]; exact hl) (by omega) (by omega) (sw_ok hl (by omega) (by omega) hO)
          refine LRuns.step (code_runsP dwX dwL (runZ_ok dwX dwT dwL mixed 12) mixed (dw_tgl inr n i (hdD H)) ?_) rfl (by omega) (by omega) (fun n => n) ?_ ?_ rfl nx
          ·
            simp only [Alls, rg, decide_eq_true_eq, decide_eq_false_iff_not, beq_iff_eq, beq_eq_false_iff_ne, Nat.add_zero, byV_ints, c2e, A0.n, A0.s, A0.a, A1.n, A1.s, A1.a, A2.n, A2.s, A2.a, A0.k0, A0.kv, A1.k0, A1.kv, A2.k0, A2.kv]
            repeat' (with_reducible apply And.intro)
            all_goals first | omega | (with_reducible assumption) | exact A0.o _ | exact A0.ko _ | exact A1.o _ | exact A1.ko _ | exact A2.o _ | exact A2.ko _ | (with_reducible exact trivial) | exact A0.y | exact A1.y | exact A2.y | (with_reducible rfl) | exact fun e => absurd (A0.n.symm.trans e) (by omega) | exact fun e => absurd (A1.n.symm.trans e) (by omega) | exact fun e => absurd (A2.n.symm.trans e) (by omega) | (rw [setD_len (by simp only [List.length_cons, List.length_nil]; omega)]; omega) | skip
          · exact ⟨rfl, rb_slg rfl rfl, rfl, rfl, trivial⟩
          · refine ⟨dw_row (m := 0) rfl (dw_eq ?_), trivial⟩
            simp only [Nat.add_zero, c2e, A0.n, A0.s, A0.a, A1.n, A1.s, A1.a, A2.n, A2.s, A2.a]
            rw [hdD_set _ (by omega), hdD_set _ (by rw [List.length_set]; omega)]
            rfl
        ·
          have e : l2H H n i = 2 * i + 2 := by simp [l2H, lsH, h1, h2, q, r]
          have ed : dnH (f + 1) H n i = dnH f (swH H i (2 * i + 2)) n (2 * i + 2) := by simp only [dnH, e, decide_eq_false (show ¬ 2 * i + 2 = i by omega), cond_false]
          rw [ed]
          have nx := dn_loop (inr := inr) (h0 := h0) hn f (swH H i (2 * i + 2)) (2 * i + 2) (by rw [swH_len]; exact hl) (by omega) (by omega) (sw_ok hl (by omega) (by omega) hO)
          refine LRuns.step (code_runsP dwX dwL (runZ_ok dwX dwT dwL mixed 12) mixed (dw_tga inr n i (hdD H)) ?_) rfl (by omega) (by omega) (fun n => n) ?_ ?_ rfl nx
          ·
            simp only [Alls, rg, decide_eq_true_eq, decide_eq_false_iff_not, beq_iff_eq, beq_eq_false_iff_ne, Nat.add_zero, byV_ints, c2e, A0.n, A0.s, A0.a, A1.n, A1.s, A1.a, A2.n, A2.s, A2.a, A0.k0, A0.kv, A1.k0, A1.kv, A2.k0, A2.kv]
            repeat' (with_reducible apply And.intro)
            all_goals first | omega | (with_reducible assumption) | exact A0.o _ | exact A0.ko _ | exact A1.o _ | exact A1.ko _ | exact A2.o _ | exact A2.ko _ | (with_reducible exact trivial) | exact A0.y | exact A1.y | exact A2.y | (with_reducible rfl) | exact fun e => absurd (A0.n.symm.trans e) (by omega) | exact fun e => absurd (A1.n.symm.trans e) (by omega) | exact fun e => absurd (A2.n.symm.trans e) (by omega) | (rw [setD_len (by simp only [List.length_cons, List.length_nil]; omega)]; omega) | skip
          · exact ⟨rfl, rb_slg rfl rfl, rfl, rfl, trivial⟩
          · refine ⟨dw_row (m := 0) rfl (dw_eq ?_), trivial⟩
            simp only [Nat.add_zero, c2e, A0.n, A0.s, A0.a, A1.n, A1.s, A1.a, A2.n, A2.s, A2.a]
            rw [hdD_set _ (by omega), hdD_set _ (by rw [List.length_set]; omega)]
            rfl
        ·
          have e : l2H H n i = i := by simp [l2H, lsH, h1, h2, q, r]
          rw [dn_stop e]
          refine LRuns.exit (code_runsP dwX dwL (runZ_ok dwX dwT dwL mixed 12) mixed (dw_tgb inr n i (hdD H)) ?_) (by intro e; cases e) rfl (by omega) (by omega) (fun n => n) ?_ ?_ rfl
          ·
            simp only [Alls, rg, decide_eq_true_eq, decide_eq_false_iff_not, beq_iff_eq, beq_eq_false_iff_ne, Nat.add_zero, byV_ints, c2e, A0.n, A0.s, A0.a, A1.n, A1.s, A1.a, A2.n, A2.s, A2.a, A0.k0, A0.kv, A1.k0, A1.kv, A2.k0, A2.kv]
            repeat' (with_reducible apply And.intro)
            all_goals first | omega | (with_reducible assumption) | exact A0.o _ | exact A0.ko _ | exact A1.o _ | exact A1.ko _ | exact A2.o _ | exact A2.ko _ | (with_reducible exact trivial) | exact A0.y | exact A1.y | exact A2.y | (with_reducible rfl) | exact fun e => absurd (A0.n.symm.trans e) (by omega) | exact fun e => absurd (A1.n.symm.trans e) (by omega) | exact fun e => absurd (A2.n.symm.trans e) (by omega) | (rw [setD_len (by simp only [List.length_cons, List.length_nil]; omega)]; omega) | skip
          · trivial
          · exact ⟨dw_row (m := 0) rfl rfl, trivial⟩
        ·
          have e : l2H H n i = i := by simp [l2H, lsH, h1, h2, q, r]
          rw [dn_stop e]
          refine LRuns.exit (code_runsP dwX dwL (runZ_ok dwX dwT dwL mixed 12) mixed (dw_tgg inr n i (hdD H)) ?_) (by intro e; cases e) rfl (by omega) (by omega) (fun n => n) ?_ ?_ rfl
          ·
            simp only [Alls, rg, decide_eq_true_eq, decide_eq_false_iff_not, beq_iff_eq, beq_eq_false_iff_ne, Nat.add_zero, byV_ints, c2e, A0.n, A0.s, A0.a, A1.n, A1.s, A1.a, A2.n, A2.s, A2.a, A0.k0, A0.kv, A1.k0, A1.kv, A2.k0, A2.kv]
            repeat' (with_reducible apply And.intro)
            all_goals first | omega | (with_reducible assumption) | exact A0.o _ | exact A0.ko _ | exact A1.o _ | exact A1.ko _ | exact A2.o _ | exact A2.ko _ | (with_reducible exact trivial) | exact A0.y | exact A1.y | exact A2.y | (with_reducible rfl) | exact fun e => absurd (A0.n.symm.trans e) (by omega) | exact fun e => absurd (A1.n.symm.trans e) (by omega) | exact fun e => absurd (A2.n.symm.trans e) (by omega) | (rw [setD_len (by simp only [List.length_cons, List.length_nil]; omega)]; omega) | skip
          · trivial
          · exact ⟨dw_row (m := 0) rfl rfl, trivial⟩
end Go.Proofs.Ytmoflcoijmmpjaa
