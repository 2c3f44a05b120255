/-
  Chapter 14: exchequerref14.least: runs of its inner loop's rounds.
-/
import Derived.Test.YtmoflcoijmmpjaaGrAY
import Derived.Test.YtmoflcoijmmpjaaGrAQ
namespace Go.Proofs.Ytmoflcoijmmpjaa
set_option linter.unusedSimpArgs false
set_option linter.unusedVariables false
set_option linter.unusedSectionVars false
open Go Go.RowKit
def leTab : FuncId → List Nat := fun f => bif Nat.beq f 36 then [16, 25] else bif Nat.beq f 43 then [9] else []
def leSy : FuncId → Nat → Option Nat := orSy (lsSy 36 [(16, 0), (18, 0), (22, 0), (23, 37), (25, 0), (27, 0), (30, 0), (31, 37), (33, 0), (34, 0), (35, 36)]) (lsSy 43 [(6, 0), (8, 0), (9, 0)])
def leV (L : LFun) : Tv := ⟨noTz, cmpY, L, leTab, leSy, fun _ => [], fun _ => 0⟩
def leH (ds : List DV) (bs : List Value) : Hp := [(0, ⟨.sw ds, []⟩), (2, ⟨.ow, bs⟩)]
theorem le_TNt (inr : Bool) (n m i k q : Nat) (ds : List DV) (bs xs : List Value) : prjP [0, 1, 2, 8, 9, 10, 11] 100 (codeZ (leV noL) Try.prog (runZ (leV noL) Try.prog 9) 36 inr 100000 (bodyIn Try.prog 36 7) (SL 54 [(0, llA n),
 (1, kyV m), (2, .bool true), (8, nlV), (9, .bool false), (10, iV i), (11, iV k)]) (leH ds bs) 100 [true])
 =
  (let a2 := (↑i : Int); let a1 := (dSub ds (i + 0)); Res.ok ((Xt.normal, 54, [(0, Value.slice (some (Addr.mk 0 0 none)) n 18446744073709551616), (1, Value.slice (some (Addr.mk 2 0 none)) m (capBig + 2)), (2, Value.bool true), (8, Value.slice (some (Addr.mk 102 0 none)) (dLen a1 (k * 3 + 0 + 0)) (capBig + 102)), (9, Value.bool true), (10, Value.int IntKind.i64 a2), (11, Value.int IntKind.i64 (↑(k + 1) : Int))], [(102, Rw.mk Kd.ow (dVals a1 (k * 3 + 0 + 0))), (101, Rw.mk (Kd.sw a1) []), (100, Rw.mk (Kd.sw a1) []), (0, Rw.mk (Kd.sw ds) []), (2, Rw.mk Kd.ow bs)], 103, [], []), [], [(0 : Int) ≤ a2 ∧ a2 < (↑n : Int), ShOb Try.prog 27 true true ds i 100, decide ((↑k : Int) < (↑(dLen ds (i + 0)) : Int)) = true, (0 : Int) ≤ a2 ∧ a2 < (↑n : Int), ShOb Try.prog 27 true true ds i 101, (0 : Int) ≤ (↑k : Int) ∧ (↑k : Int) < (↑(dLen ds (i + 0)) : Int), ShOb Try.prog 23 false true a1 (k * 3 + 0) 102, rg IntKind.i64 (↑(k + 1) : Int)])) := by kernel_rfl
theorem le_TNe (inr : Bool) (n m i k q : Nat) (ds : List DV) (bs xs : List Value) : prjP [0, 1, 2, 8, 9, 10] 100 (codeZ (leV noL) Try.prog (runZ (leV noL) Try.prog 9) 36 inr 100000 (bodyIn Try.prog 36 7) (SL 54 [(0, llA n), (1, kyV m), (2, .bool true), (8, nlV), (9, .bool false), (10, iV i), (11, iV k)]) (leH ds bs) 100 [false]) =
 Res.ok ((Xt.exit 2, 54, [(0, Value.slice (some (Addr.mk 0 0 none)) n 18446744073709551616), (1, Value.slice (some (Addr.mk 2 0 none)) m (capBig + 2)), (2, Value.bool true), (8, Value.slice none 0 0), (9, Value.bool false), (10, Value.int IntKind.i64 (↑i : Int))], [(100, Rw.mk (Kd.sw (dSub ds (i + 0))) []), (0, Rw.mk (Kd.sw ds) []), (2, Rw.mk Kd.ow bs)], 101, [], []), [], [(0 : Int) ≤ (↑i : Int) ∧ (↑i : Int) < (↑n : Int), ShOb Try.prog 27 true true ds i 100, decide ((↑k : Int) < (↑(dLen ds (i + 0)) : Int)) = false]) := by kernel_rfl
theorem le_TSt (inr : Bool) (n m i k q : Nat) (ds : List DV) (bs xs : List Value) : prjP [0, 1, 2, 8, 9, 10, 11] 100 (codeZ (leV noL) Try.prog (runZ (leV noL) Try.prog 9) 36 inr 100000 (bodyIn Try.prog 36 7) (SL 54 [(0, llA n),
 (1, kyV m), (2, .bool true), (8, slN 80 q), (9, .bool true), (10, iV i), (11, iV k)]) ((80, ⟨.ow, xs⟩) :: leH ds bs) 100 [true, true])
 =
  (let a5 := (↑i : Int); let a2 := (k * 3 + 0 + 0); let a1 := (dSub ds (i + 0)); let a4 := (dVals a1 a2); let a3 := (intsOf (List.take (dLen a1 a2) a4)); Res.ok ((Xt.normal, 54, [(0, Value.slice (some (Addr.mk 0 0 none)) n 18446744073709551616), (1, Value.slice (some (Addr.mk 2 0 none)) m (capBig + 2)), (2, Value.bool true), (8, Value.slice (some (Addr.mk 102 0 none)) (dLen a1 a2) (capBig + 102)), (9, Value.bool true), (10, Value.int IntKind.i64 a5), (11, Value.int IntKind.i64 (↑(k + 1) : Int))], [(102, Rw.mk Kd.ow a4), (101, Rw.mk (Kd.sw a1) []), (100, Rw.mk (Kd.sw a1) []), (80, Rw.mk Kd.ow xs), (0, Rw.mk (Kd.sw ds) []), (2, Rw.mk Kd.ow bs)], 103, [], []), [], [(0 : Int) ≤ a5 ∧ a5 < (↑n : Int), ShOb Try.prog 27 true true ds i 100, decide ((↑k : Int) < (↑(dLen ds (i + 0)) : Int)) = true, (0 : Int) ≤ a5 ∧ a5 < (↑n : Int), ShOb Try.prog 27 true true ds i 101, (0 : Int) ≤ (↑k : Int) ∧ (↑k :
 Int) < (↑(dLen ds (i + 0)) : Int), ShOb Try.prog 23 false true a1 (k * 3 + 0) 102, dLen a1 a2 ≤ List.length a4, List.take (dLen a1 a2) a4 = List.map (Value.int IntKind.u8) a3, q ≤ List.length xs, List.take q xs = List.map (Value.int IntKind.u8) (intsOf (List.take q xs)), Op.bytesLess (List.map (fun n => UInt8.ofNat (Int.toNat n)) a3) (List.map (fun n => UInt8.ofNat (Int.toNat n)) (intsOf (List.take q xs))) = true, rg IntKind.i64 (↑(k + 1) :
 Int)])) := by kernel_rfl
theorem le_TSn (inr : Bool) (n m i k q : Nat) (ds : List DV) (bs xs : List Value) : prjP [0, 1, 2, 8, 9, 10, 11] 100 (codeZ (leV noL) Try.prog (runZ (leV noL) Try.prog 9) 36 inr 100000 (bodyIn Try.prog 36 7) (SL 54 [(0, llA n),
 (1, kyV m), (2, .bool true), (8, slN 80 q), (9, .bool true), (10, iV i), (11, iV k)]) ((80, ⟨.ow, xs⟩) :: leH ds bs) 100 [true, false])
 =
  (let a5 := (↑i : Int); let a2 := (k * 3 + 0 + 0); let a1 := (dSub ds (i + 0)); let a4 := (dVals a1 a2); let a3 := (intsOf (List.take (dLen a1 a2) a4)); Res.ok ((Xt.normal, 54, [(0, Value.slice (some (Addr.mk 0 0 none)) n 18446744073709551616), (1, Value.slice (some (Addr.mk 2 0 none)) m (capBig + 2)), (2, Value.bool true), (8, Value.slice (some (Addr.mk 80 0 none)) q (capBig + 80)), (9, Value.bool true), (10, Value.int IntKind.i64 a5), (11, Value.int IntKind.i64 (↑(k + 1) : Int))], [(102, Rw.mk Kd.ow a4), (101, Rw.mk (Kd.sw a1) []), (100, Rw.mk (Kd.sw a1) []), (80, Rw.mk Kd.ow xs), (0, Rw.mk (Kd.sw ds) []), (2, Rw.mk Kd.ow bs)], 103, [], []), [], [(0 : Int) ≤ a5 ∧ a5 < (↑n : Int), ShOb Try.prog 27 true true ds i 100, decide ((↑k : Int) < (↑(dLen ds (i + 0)) : Int)) = true, (0 : Int) ≤ a5 ∧ a5 < (↑n : Int), ShOb Try.prog 27 true true ds i 101, (0 : Int) ≤ (↑k : Int) ∧ (↑k : Int) < (↑(dLen
 ds (i + 0)) : Int), ShOb Try.prog 23 false true a1 (k * 3 + 0) 102, dLen a1 a2 ≤ List.length a4, List.take (dLen a1 a2) a4 = List.map (Value.int IntKind.u8) a3, q ≤ List.length xs, List.take q xs = List.map (Value.int IntKind.u8) (intsOf (List.take q xs)), Op.bytesLess (List.map (fun n => UInt8.ofNat (Int.toNat n)) a3) (List.map (fun n => UInt8.ofNat (Int.toNat n)) (intsOf (List.take q xs))) = false, rg IntKind.i64 (↑(k + 1) :
 Int)])) := by kernel_rfl
theorem le_TSe (inr : Bool) (n m i k q : Nat) (ds : List DV) (bs xs : List Value) : prjP [0, 1, 2, 8, 9, 10] 100 (codeZ (leV noL) Try.prog (runZ (leV noL) Try.prog 9) 36 inr 100000 (bodyIn Try.prog 36 7) (SL 54 [(0, llA n), (1, kyV m), (2, .bool true), (8, slN 80 q), (9, .bool true), (10, iV i), (11, iV k)]) ((80, ⟨.ow, xs⟩) :: leH ds bs) 100 [false]) =
 Res.ok ((Xt.exit 2, 54, [(0, Value.slice (some (Addr.mk 0 0 none)) n 18446744073709551616), (1, Value.slice (some (Addr.mk 2 0 none)) m (capBig + 2)), (2, Value.bool true), (8, Value.slice (some (Addr.mk 80 0 none)) q (capBig + 80)), (9, Value.bool true), (10, Value.int IntKind.i64 (↑i : Int))], [(100, Rw.mk (Kd.sw (dSub ds (i + 0))) []), (80, Rw.mk Kd.ow xs), (0, Rw.mk (Kd.sw ds) []), (2, Rw.mk Kd.ow bs)], 101, [], []), [], [(0 : Int) ≤ (↑i : Int) ∧ (↑i : Int) < (↑n : Int), ShOb Try.prog 27 true true ds i 100, decide ((↑k : Int) < (↑(dLen ds (i + 0)) : Int)) = false]) := by kernel_rfl
theorem le_FNt (inr : Bool) (n m i k q : Nat) (ds : List DV) (bs xs : List Value) : prjP [0, 1, 2, 8, 9, 10, 11] 100 (codeZ (leV noL) Try.prog (runZ (leV noL) Try.prog 9) 36 inr 100000 (bodyIn Try.prog 36 7) (SL 54 [(0, llA n),
 (1, kyV m), (2, .bool false), (8, nlV), (9, .bool false), (10, iV i), (11, iV k)]) (leH ds bs) 100 [true, true])
 =
  (let a5 := (↑i : Int); let a2 := (k * 3 + 0 + 0); let a1 := (dSub ds (i + 0)); let a4 := (dVals a1 a2); let a3 := (intsOf (List.take (dLen a1 a2) a4)); Res.ok ((Xt.normal, 54, [(0, Value.slice (some (Addr.mk 0 0 none)) n 18446744073709551616), (1, Value.slice (some (Addr.mk 2 0 none)) m (capBig + 2)), (2, Value.bool false), (8, Value.slice (some (Addr.mk 102 0 none)) (dLen a1 a2) (capBig + 102)), (9, Value.bool true), (10, Value.int IntKind.i64 a5), (11, Value.int IntKind.i64 (↑(k + 1) : Int))], [(102, Rw.mk Kd.ow a4), (101, Rw.mk (Kd.sw a1) []), (100, Rw.mk (Kd.sw a1) []), (0, Rw.mk (Kd.sw ds) []), (2, Rw.mk Kd.ow bs)], 103, [], []), [], [(0 : Int) ≤ a5 ∧ a5 < (↑n : Int), ShOb Try.prog 27 true true ds i 100, decide ((↑k : Int) < (↑(dLen ds (i + 0)) : Int)) = true, (0 : Int) ≤ a5 ∧ a5 < (↑n : Int), ShOb Try.prog 27 true true ds i 101, (0 : Int) ≤ (↑k : Int) ∧ (↑k : Int) < (↑(dLen ds (i +
 0)) : Int), ShOb Try.prog 23 false true a1 (k * 3 + 0) 102, m ≤ List.length bs, List.take m bs = List.map (Value.int IntKind.u8) (intsOf (List.take m bs)), dLen a1 a2 ≤ List.length a4, List.take (dLen a1 a2) a4 = List.map (Value.int IntKind.u8) a3, Op.bytesLess (List.map (fun n => UInt8.ofNat (Int.toNat n)) (intsOf (List.take m bs))) (List.map (fun n => UInt8.ofNat (Int.toNat n)) a3) = true, rg IntKind.i64 (↑(k + 1) :
 Int)])) := by kernel_rfl
theorem le_FNn (inr : Bool) (n m i k q : Nat) (ds : List DV) (bs xs : List Value) : prjP [0, 1, 2, 8, 9, 10, 11] 100 (codeZ (leV noL) Try.prog (runZ (leV noL) Try.prog 9) 36 inr 100000 (bodyIn Try.prog 36 7) (SL 54 [(0, llA n),
 (1, kyV m), (2, .bool false), (8, nlV), (9, .bool false), (10, iV i), (11, iV k)]) (leH ds bs) 100 [true, false])
 =
  (let a5 := (↑i : Int); let a2 := (k * 3 + 0 + 0); let a1 := (dSub ds (i + 0)); let a4 := (dVals a1 a2); let a3 := (intsOf (List.take (dLen a1 a2) a4)); Res.ok ((Xt.normal, 54, [(0, Value.slice (some (Addr.mk 0 0 none)) n 18446744073709551616), (1, Value.slice (some (Addr.mk 2 0 none)) m (capBig + 2)), (2, Value.bool false), (8, Value.slice none 0 0), (9, Value.bool false), (10, Value.int IntKind.i64 a5), (11, Value.int IntKind.i64 (↑(k + 1) : Int))], [(102, Rw.mk Kd.ow a4), (101, Rw.mk (Kd.sw a1) []), (100, Rw.mk (Kd.sw a1) []), (0, Rw.mk (Kd.sw ds) []), (2, Rw.mk Kd.ow bs)], 103, [], []), [], [(0 : Int) ≤ a5 ∧ a5 < (↑n : Int), ShOb Try.prog 27 true true ds i 100, decide ((↑k : Int) < (↑(dLen ds (i + 0)) : Int)) = true, (0 : Int) ≤ a5 ∧ a5 < (↑n : Int), ShOb Try.prog 27 true true ds i 101, (0 : Int) ≤ (↑k : Int) ∧ (↑k : Int) < (↑(dLen ds (i + 0)) : Int), ShOb Try.prog 23 false true a1 (k
 * 3 + 0) 102, m ≤ List.length bs, List.take m bs = List.map (Value.int IntKind.u8) (intsOf (List.take m bs)), dLen a1 a2 ≤ List.length a4, List.take (dLen a1 a2) a4 = List.map (Value.int IntKind.u8) a3, Op.bytesLess (List.map (fun n => UInt8.ofNat (Int.toNat n)) (intsOf (List.take m bs))) (List.map (fun n => UInt8.ofNat (Int.toNat n)) a3) = false, rg IntKind.i64 (↑(k + 1) :
 Int)])) := by kernel_rfl
theorem le_FNe (inr : Bool) (n m i k q : Nat) (ds : List DV) (bs xs : List Value) : prjP [0, 1, 2, 8, 9, 10] 100 (codeZ (leV noL) Try.prog (runZ (leV noL) Try.prog 9) 36 inr 100000 (bodyIn Try.prog 36 7) (SL 54 [(0, llA n), (1, kyV m), (2, .bool false), (8, nlV), (9, .bool false), (10, iV i), (11, iV k)]) (leH ds bs) 100 [false]) =
 Res.ok ((Xt.exit 2, 54, [(0, Value.slice (some (Addr.mk 0 0 none)) n 18446744073709551616), (1, Value.slice (some (Addr.mk 2 0 none)) m (capBig + 2)), (2, Value.bool false), (8, Value.slice none 0 0), (9, Value.bool false), (10, Value.int IntKind.i64 (↑i : Int))], [(100, Rw.mk (Kd.sw (dSub ds (i + 0))) []), (0, Rw.mk (Kd.sw ds) []), (2, Rw.mk Kd.ow bs)], 101, [], []), [], [(0 : Int) ≤ (↑i : Int) ∧ (↑i : Int) < (↑n : Int), ShOb Try.prog 27 true true ds i 100, decide ((↑k : Int) < (↑(dLen ds (i + 0)) : Int)) = false]) := by kernel_rfl
theorem le_FSt (inr : Bool) (n m i k q : Nat) (ds : List DV) (bs xs : List Value) : prjP [0, 1, 2, 8, 9, 10, 11] 100 (codeZ (leV noL) Try.prog (runZ (leV noL) Try.prog 9) 36 inr 100000 (bodyIn Try.prog 36 7) (SL 54 [(0, llA n),
 (1, kyV m), (2, .bool false), (8, slN 80 q), (9, .bool true), (10, iV i), (11, iV k)]) ((80, ⟨.ow, xs⟩) :: leH ds bs) 100 [true, true, true])
 =
  (let a5 := (Value.int IntKind.u8); let a3 := (k * 3 + 0 + 0); let a2 := (dSub ds (i + 0)); let a6 := (dVals a2 a3); let a1 := (intsOf (List.take (dLen a2 a3) a6)); let a4 := (List.map (fun n => UInt8.ofNat (Int.toNat n)) a1); Res.ok ((Xt.normal, 54, [(0, Value.slice (some (Addr.mk 0 0 none)) n 18446744073709551616), (1, Value.slice (some (Addr.mk 2 0 none)) m (capBig + 2)), (2, Value.bool false), (8, Value.slice (some (Addr.mk 102 0 none)) (dLen a2 a3) (capBig + 102)), (9, Value.bool true), (10, Value.int IntKind.i64 (↑i : Int)), (11, Value.int IntKind.i64 (↑(k + 1) : Int))], [(102, Rw.mk Kd.ow a6), (101, Rw.mk (Kd.sw a2) []), (100, Rw.mk (Kd.sw a2) []), (80, Rw.mk Kd.ow xs), (0, Rw.mk (Kd.sw ds) []), (2, Rw.mk Kd.ow bs)], 103, [], []), [], ((fun (q0 q1 q2 : Prop) => [q0, ShOb Try.prog 27 true true ds i 100, decide ((↑k : Int) < (↑(dLen ds (i + 0)) : Int)) = true, q0, ShOb Try.prog 27
 true true ds i 101, (0 : Int) ≤ (↑k : Int) ∧ (↑k : Int) < (↑(dLen ds (i + 0)) : Int), ShOb Try.prog 23 false true a2 (k * 3 + 0) 102, m ≤ List.length bs, List.take m bs = List.map a5 (intsOf (List.take m bs)), q1, q2, Op.bytesLess (List.map (fun n => UInt8.ofNat (Int.toNat n)) (intsOf (List.take m bs))) a4 = true, q1, q2, q ≤ List.length xs, List.take q xs = List.map a5 (intsOf (List.take q xs)), Op.bytesLess a4 (List.map (fun n => UInt8.ofNat (Int.toNat n)) (intsOf (List.take q xs))) = true, rg IntKind.i64 (↑(k + 1) : Int)]) ((0 : Int) ≤ (↑i : Int) ∧ (↑i : Int) < (↑n : Int)) (dLen a2 a3 ≤ List.length a6) (List.take (dLen a2 a3) a6 = List.map a5
 a1)))) := by kernel_rfl
theorem le_FSm (inr : Bool) (n m i k q : Nat) (ds : List DV) (bs xs : List Value) : prjP [0, 1, 2, 8, 9, 10, 11] 100 (codeZ (leV noL) Try.prog (runZ (leV noL) Try.prog 9) 36 inr 100000 (bodyIn Try.prog 36 7) (SL 54 [(0, llA n),
 (1, kyV m), (2, .bool false), (8, slN 80 q), (9, .bool true), (10, iV i), (11, iV k)]) ((80, ⟨.ow, xs⟩) :: leH ds bs) 100 [true, true, false])
 =
  (let a5 := (Value.int IntKind.u8); let a3 := (k * 3 + 0 + 0); let a2 := (dSub ds (i + 0)); let a6 := (dVals a2 a3); let a1 := (intsOf (List.take (dLen a2 a3) a6)); let a4 := (List.map (fun n => UInt8.ofNat (Int.toNat n)) a1); Res.ok ((Xt.normal, 54, [(0, Value.slice (some (Addr.mk 0 0 none)) n 18446744073709551616), (1, Value.slice (some (Addr.mk 2 0 none)) m (capBig + 2)), (2, Value.bool false), (8, Value.slice (some (Addr.mk 80 0 none)) q (capBig + 80)), (9, Value.bool true), (10, Value.int IntKind.i64 (↑i : Int)), (11, Value.int IntKind.i64 (↑(k + 1) : Int))], [(102, Rw.mk Kd.ow a6), (101, Rw.mk (Kd.sw a2) []), (100, Rw.mk (Kd.sw a2) []), (80, Rw.mk Kd.ow xs), (0, Rw.mk (Kd.sw ds) []), (2, Rw.mk Kd.ow bs)], 103, [], []), [], ((fun (q0 q1 q2 : Prop) => [q0, ShOb Try.prog 27 true true ds i 100, decide ((↑k : Int) < (↑(dLen ds (i + 0)) : Int)) = true, q0, ShOb Try.prog 27 true true ds i
 101, (0 : Int) ≤ (↑k : Int) ∧ (↑k : Int) < (↑(dLen ds (i + 0)) : Int), ShOb Try.prog 23 false true a2 (k * 3 + 0) 102, m ≤ List.length bs, List.take m bs = List.map a5 (intsOf (List.take m bs)), q1, q2, Op.bytesLess (List.map (fun n => UInt8.ofNat (Int.toNat n)) (intsOf (List.take m bs))) a4 = true, q1, q2, q ≤ List.length xs, List.take q xs = List.map a5 (intsOf (List.take q xs)), Op.bytesLess a4 (List.map (fun n => UInt8.ofNat (Int.toNat n)) (intsOf (List.take q xs))) = false, rg IntKind.i64 (↑(k + 1) : Int)]) ((0 : Int) ≤ (↑i : Int) ∧ (↑i : Int) < (↑n : Int)) (dLen a2 a3 ≤ List.length a6) (List.take (dLen a2 a3) a6 = List.map a5
 a1)))) := by kernel_rfl
theorem le_FSn (inr : Bool) (n m i k q : Nat) (ds : List DV) (bs xs : List Value) : prjP [0, 1, 2, 8, 9, 10, 11] 100 (codeZ (leV noL) Try.prog (runZ (leV noL) Try.prog 9) 36 inr 100000 (bodyIn Try.prog 36 7) (SL 54 [(0, llA n),
 (1, kyV m), (2, .bool false), (8, slN 80 q), (9, .bool true), (10, iV i), (11, iV k)]) ((80, ⟨.ow, xs⟩) :: leH ds bs) 100 [true, false])
 =
  (let a5 := (↑i : Int); let a2 := (k * 3 + 0 + 0); let a1 := (dSub ds (i + 0)); let a4 := (dVals a1 a2); let a3 := (intsOf (List.take (dLen a1 a2) a4)); Res.ok ((Xt.normal, 54, [(0, Value.slice (some (Addr.mk 0 0 none)) n 18446744073709551616), (1, Value.slice (some (Addr.mk 2 0 none)) m (capBig + 2)), (2, Value.bool false), (8, Value.slice (some (Addr.mk 80 0 none)) q (capBig + 80)), (9, Value.bool true), (10, Value.int IntKind.i64 a5), (11, Value.int IntKind.i64 (↑(k + 1) : Int))], [(102, Rw.mk Kd.ow a4), (101, Rw.mk (Kd.sw a1) []), (100, Rw.mk (Kd.sw a1) []), (80, Rw.mk Kd.ow xs), (0, Rw.mk (Kd.sw ds) []), (2, Rw.mk Kd.ow bs)], 103, [], []), [], [(0 : Int) ≤ a5 ∧ a5 < (↑n : Int), ShOb Try.prog 27 true true ds i 100, decide ((↑k : Int) < (↑(dLen ds (i + 0)) : Int)) = true, (0 : Int) ≤ a5 ∧ a5 < (↑n : Int), ShOb Try.prog 27 true true ds i 101, (0 : Int) ≤ (↑k : Int) ∧ (↑k : Int) <
 (↑(dLen ds (i + 0)) : Int), ShOb Try.prog 23 false true a1 (k * 3 + 0) 102, m ≤ List.length bs, List.take m bs = List.map (Value.int IntKind.u8) (intsOf (List.take m bs)), dLen a1 a2 ≤ List.length a4, List.take (dLen a1 a2) a4 = List.map (Value.int IntKind.u8) a3, Op.bytesLess (List.map (fun n => UInt8.ofNat (Int.toNat n)) (intsOf (List.take m bs))) (List.map (fun n => UInt8.ofNat (Int.toNat n)) a3) = false, rg IntKind.i64 (↑(k + 1) :
 Int)])) := by kernel_rfl
theorem le_FSe (inr : Bool) (n m i k q : Nat) (ds : List DV) (bs xs : List Value) : prjP [0, 1, 2, 8, 9, 10] 100 (codeZ (leV noL) Try.prog (runZ (leV noL) Try.prog 9) 36 inr 100000 (bodyIn Try.prog 36 7) (SL 54 [(0, llA n), (1, kyV m), (2, .bool false), (8, slN 80 q), (9, .bool true), (10, iV i), (11, iV k)]) ((80, ⟨.ow, xs⟩) :: leH ds bs) 100 [false]) =
 Res.ok ((Xt.exit 2, 54, [(0, Value.slice (some (Addr.mk 0 0 none)) n 18446744073709551616), (1, Value.slice (some (Addr.mk 2 0 none)) m (capBig + 2)), (2, Value.bool false), (8, Value.slice (some (Addr.mk 80 0 none)) q (capBig + 80)), (9, Value.bool true), (10, Value.int IntKind.i64 (↑i : Int))], [(100, Rw.mk (Kd.sw (dSub ds (i + 0))) []), (80, Rw.mk Kd.ow xs), (0, Rw.mk (Kd.sw ds) []), (2, Rw.mk Kd.ow bs)], 101, [], []), [], [(0 : Int) ≤ (↑i : Int) ∧ (↑i : Int) < (↑n : Int), ShOb Try.prog 27 true true ds i 100, decide ((↑k : Int) < (↑(dLen ds (i + 0)) : Int)) = false]) := by kernel_rfl
theorem stM_len (dr : Bool) (s : MSt) : (stM dr s).out.length ≤ s.out.length + 1 := by
 unfold stM
 obtain ⟨H1, n1, e⟩ : ∃ H1 n1, popH s.H s.n = (H1, n1) := ⟨_, _, rfl⟩
 rw [e]
 simp only
 cases newK s && (!dr || !(fstP s.H).2.2) with
 | true => simp
 | false => simp
theorem runM_len (dr : Bool) : ∀ (f : Nat) (s : MSt), (runM dr f s).out.length ≤ s.out.length + f
 | 0, s => Nat.le_refl _
 | f + 1, s => by
   simp only [runM]
   cases decide (s.n = 0) with
   | true => simp only [cond_true]; omega
   | false =>
    have h1 := runM_len dr f (stM dr s)
    have h2 := stM_len dr s
    simp only [cond_false]
    omega
theorem lfM_leR : ∀ {n : Nat} {H : List Hd} {B : Nat}, (∀ j, j < n → (gH H j).1.length ≤ B) → lfM n H ≤ n * B
 | 0, H, B, h => by simp [lfM]
 | n + 1, H, B, h => by
   have h1 := lfM_leR (n := n) (H := H) (B := B) fun j hj => h j (by omega)
   have h2 := h n (by omega)
   simp only [lfM, Nat.succ_mul]
   omega
theorem gL_memR {L : List (List Pr)} {i : Nat} (h : gL L i ≠ []) : gL L i ∈ L := by
 unfold gL at h ⊢
 cases he : L[i]? with
 | none => rw [he] at h; exact absurd rfl h
 | some x => exact List.mem_of_getElem? he
theorem mgOut_len {dr : Bool} {L : List (List Pr)} {B : Nat} (hB : ∀ l ∈ L, l.length ≤ B) : (mgOut dr L).length ≤ L.length * B := by
 have h1 := runM_len dr (lfM (mgS0 L).n (mgS0 L).H) (mgS0 L)
 have S := (hf_heap (n := (hdsF 0 L).length) ((hdsF 0 L).length / 2) (hdsF 0 L) (Nat.le_refl _) (hf_top _ _)).2
 have h2 : lfM (mgS0 L).n (mgS0 L).H ≤ (hdsF 0 L).length * B := lfM_leR fun j hj => by
  obtain ⟨k, k1, k2⟩ := S.m _ ⟨j, hj, rfl⟩
  show (gH (hfH ((hdsF 0 L).length / 2) (hdsF 0 L) (hdsF 0 L).length) j).1.length ≤ B
  rw [← k2]
  obtain ⟨g1, g2, g3⟩ := hdsF_mem (gH_mem k1)
  rw [← g3]
  exact hB _ (gL_memR (by rw [g3]; exact g1))
 have h3 := Nat.mul_le_mul_right B (hdsF_len L 0)
 have h4 : (mgS0 L).out.length = 0 := rfl
 unfold mgOut
 omega
theorem fnd_mem : ∀ {L : List (List Pr)} {k : List Int} {p : Pr}, fnd L k = some p → ∃ l ∈ L, p ∈ l ∧ p.1 = k
 | [], k, p, h => by cases h
 | l :: L, k, p, h => by
   simp only [fnd] at h
   cases hl : fnL l k with
   | some q =>
    rw [hl] at h
    cases h
    exact ⟨l, List.mem_cons_self .., fnL_mem hl⟩
   | none =>
    rw [hl] at h
    obtain ⟨x, h1, h2⟩ := fnd_mem h
    exact ⟨x, List.mem_cons_of_mem _ h1, h2⟩
theorem flt_some {dr : Bool} {o : Option Pr} {p : Pr} (h : flt dr o = some p) : o = some p := by
 cases o with
 | none => cases h
 | some q =>
  simp only [flt] at h
  cases hq : dr && q.2.2 <;> simp [hq] at h
  rw [h]
theorem asc_gL {L : List (List Pr)} (h : L.all asc = true) : ∀ a, asc (gL L a) = true := fun a => by
 unfold gL
 cases he : L[a]? with
 | none => rfl
 | some x => exact List.all_eq_true.1 h x (List.mem_of_getElem? he)
theorem mgOut_mem {dr : Bool} {L : List (List Pr)} (hA : L.all asc = true) {p : Pr} (hp : p ∈ mgOut dr L) : ∃ l ∈ L, p ∈ l := by
 obtain ⟨h1, h2⟩ := mgOut_is (L := L) dr (asc_gL hA)
 have h3 := h2 p.1
 rw [fnL_asc h1 hp] at h3
 obtain ⟨l, g1, g2, _⟩ := fnd_mem (flt_some h3.symm)
 exact ⟨l, g1, g2⟩
theorem mgOut_asc {dr : Bool} {L : List (List Pr)} (hA : L.all asc = true) : asc (mgOut dr L) = true := (mgOut_is dr (asc_gL hA)).1
theorem mgOut_fn {dr : Bool} {L : List (List Pr)} (hA : L.all asc = true) (k : List Int) : fnL (mgOut dr L) k = flt dr (fnd L k) := (mgOut_is dr (asc_gL hA)).2 k
def bhK (b : Option (List Int)) (k : List Int) : Bool := match b with | none => true | some x => ltK x k
def lsS (b o : Option (List Int)) (k : List Int) : Option (List Int) := bif bhK b k && (match o with | none => true | some y => ltK k y) then some k else o
def lsK (b : Option (List Int)) (K : List (List Int)) (o : Option (List Int)) : Option (List Int) := K.foldl (lsS b) o
structure LsI (b : Option (List Int)) (K : List (List Int)) (o : Option (List Int)) : Prop where
 s : ∀ k, o = some k → k ∈ K ∧ bhK b k = true ∧ ∀ k' ∈ K, bhK b k' = true → ltK k' k = false
 n : o = none → ∀ k' ∈ K, bhK b k' = false
theorem lsK_inv (b : Option (List Int)) : ∀ (K2 K1 : List (List Int)) (o : Option (List Int)), LsI b K1 o → LsI b (K1 ++ K2) (lsK b K2 o)
 | [], K1, o, h => by rw [List.append_nil]; exact h
 | k :: K2, K1, o, h => by
   have e : K1 ++ k :: K2 = (K1 ++ [k]) ++ K2 := by simp
   rw [e]
   refine lsK_inv b K2 (K1 ++ [k]) (lsS b o k) ?_
   unfold lsS
   cases hb : bhK b k with
   | false =>
    simp only [Bool.false_and, cond_false]
    refine ⟨fun y hy => ?_, fun hn k' hk' => ?_⟩
    ·obtain ⟨h1, h2, h3⟩ := h.s y hy
     refine ⟨List.mem_append_left _ h1, h2, fun k' hk' hb' => ?_⟩
     rcases List.mem_append.1 hk' with h4 | h4
     ·exact h3 k' h4 hb'
     ·simp only [List.mem_singleton] at h4
      subst h4
      rw [hb] at hb'; cases hb'
    ·rcases List.mem_append.1 hk' with h4 | h4
     ·exact h.n hn k' h4
     ·simp only [List.mem_singleton] at h4
      subst h4; exact hb
   | true =>
    simp only [Bool.true_and]
    cases ho : o with
    | none =>
     simp only [cond_true]
     refine ⟨fun y hy => ?_, fun hn => by cases hn⟩
     cases hy
     refine ⟨by simp, hb, fun k' hk' hb' => ?_⟩
     rcases List.mem_append.1 hk' with h4 | h4
     ·rw [h.n ho k' h4] at hb'; cases hb'
     ·simp only [List.mem_singleton] at h4
      subst h4; exact ltK_irr _
    | some y =>
     obtain ⟨h1, h2, h3⟩ := h.s y ho
     show LsI b (K1 ++ [k]) (bif ltK k y then some k else some y)
     cases hl : ltK k y with
     | true =>
      simp only [cond_true]
      refine ⟨fun z hz => ?_, fun hn => by cases hn⟩
      cases hz
      refine ⟨by simp, hb, fun k' hk' hb' => ?_⟩
      rcases List.mem_append.1 hk' with h4 | h4
      ·cases hh : ltK k' k with
       | false => rfl
       | true => have := ltK_trans hh hl; rw [h3 k' h4 hb'] at this; cases this
      ·simp only [List.mem_singleton] at h4
       subst h4; exact ltK_irr _
     | false =>
      simp only [cond_false]
      refine ⟨fun z hz => ?_, fun hn => by cases hn⟩
      cases hz
      refine ⟨List.mem_append_left _ h1, h2, fun k' hk' hb' => ?_⟩
      rcases List.mem_append.1 hk' with h4 | h4
      ·exact h3 k' h4 hb'
      ·simp only [List.mem_singleton] at h4
       subst h4; exact hl
theorem lsK_is (b : Option (List Int)) (K : List (List Int)) : LsI b K (lsK b K none) := by
 have := lsK_inv b K [] none ⟨(fun k h => by cases h), (fun _ k' h => by cases h)⟩
 simpa using this
def ksL (L : List (List Pr)) : List (List Int) := L.flatMap fun l => l.map (·.1)
theorem ksL_fnd : ∀ {L : List (List Pr)} {k : List Int}, k ∈ ksL L ↔ ∃ p, fnd L k = some p
 | [], k => by simp [ksL, fnd]
 | l :: L, k => by
   have ih := ksL_fnd (L := L) (k := k)
   have e : ksL (l :: L) = l.map (·.1) ++ ksL L := by simp [ksL]
   rw [e, List.mem_append]
   simp only [fnd]
   cases hf : fnL l k with
   | some p =>
    simp only [oI, exists_eq', iff_true]
    obtain ⟨h1, h2⟩ := fnL_mem hf
    exact .inl (List.mem_map.2 ⟨p, h1, h2⟩)
   | none =>
    simp only
    rw [← ih]
    constructor
    ·rintro (h | h)
     ·obtain ⟨p, h1, h2⟩ := List.mem_map.1 h
      unfold fnL at hf
      have := List.find?_eq_none.1 hf p h1
      simp at this
      exact absurd h2 this
     ·exact h
    ·exact .inr
def rfM (drop : Bool) (L : List (List Pr)) : Nat → Option (List Int) → List Pr → List Pr
 | 0, _, out => out
 | _ + 1, none, out => out
 | f + 1, some k, out => rfM drop L f (lsK (some k) (ksL L) none) (match fnd L k with | some p => bif !drop || !p.2.2 then out ++ [p] else out | none => out)
structure RfI (drop : Bool) (L : List (List Pr)) (b : Option (List Int)) (out : List Pr) : Prop where
 a : asc out = true
 m : ∀ p ∈ out, bhK b p.1 = false
 f : ∀ k, bhK b k = false → fnL out k = flt drop (fnd L k)
theorem bh_next {b : Option (List Int)} {k k' : List Int} (hk : bhK b k = true) (h : bhK (some k) k' = true) : bhK b k' = true := by
 cases b with
 | none => rfl
 | some x => exact ltK_trans hk h
theorem rk_step {drop : Bool} {L : List (List Pr)} {b : Option (List Int)} {out : List Pr} {k : List Int} (I : RfI drop L b out) (hk : lsK b (ksL L) none = some k) :
  RfI drop L (some k) (match fnd L k with | some p => bif !drop || !p.2.2 then out ++ [p] else out | none => out) := by
 obtain ⟨h1, h2, h3⟩ := (lsK_is b (ksL L)).s k hk
 obtain ⟨p, hp⟩ := ksL_fnd.1 h1
 obtain ⟨_, _, _, hpk⟩ := fnd_mem hp
 have hlt : ∀ q ∈ out, ltK q.1 p.1 = true := fun q hq => by
  have hq0 := I.m q hq
  rw [hpk]
  cases b with
  | none => cases hq0
  | some x =>
   have hxq : ltK x q.1 = false := hq0
   have hxk : ltK x k = true := h2
   exact ltK_le hxq hxk
 have low : ∀ k', bhK (some k) k' = false → k' = k ∨ bhK b k' = false ∨ fnd L k' = none := fun k' h => by
  have hkk : ltK k k' = false := h
  cases hb : bhK b k' with
  | false => exact .inr (.inl rfl)
  | true =>
   cases hf : fnd L k' with
   | none => exact .inr (.inr rfl)
   | some q =>
    have := h3 k' (ksL_fnd.2 ⟨q, hf⟩) hb
    exact .inl (ltK_tot this hkk)
 have hno : fnL out k = none := fnL_none fun q hq e => by
  have := hlt q hq
  rw [e, hpk, ltK_irr] at this
  cases this
 have old : ∀ k', bhK b k' = true → fnL out k' = none := fun k' hb => fnL_none fun q hq e => by
  have := I.m q hq
  rw [e, hb] at this
  cases this
 rw [hp]
 show RfI drop L (some k) (bif !drop || !p.2.2 then out ++ [p] else out)
 cases hd : !drop || !p.2.2 with
 | true =>
  rw [cond_true]
  have e : flt drop (some p) = some p := by
   have : (drop && p.2.2) = false := by cases drop <;> cases hh : p.2.2 <;> simp_all
   simp only [flt, this, cond_false]
  refine ⟨asc_snoc I.a hlt, fun q hq => ?_, fun k' h => ?_⟩
  ·rcases List.mem_append.1 hq with hq | hq
   ·have := hlt q hq
    rw [hpk] at this
    exact ltK_asym this
   ·simp only [List.mem_singleton] at hq
    subst hq
    show ltK k q.1 = false
    rw [hpk]; exact ltK_irr k
  ·rw [fnL_app]
   by_cases hkk : k' = k
   ·subst hkk
    rw [hno, hp, e]
    simp [fnL, hpk]
   ·have h0 : fnL [p] k' = none := by
     have : ¬ p.1 = k' := fun e => hkk (by rw [← e, hpk])
     simp [fnL, this]
    rcases low k' h with h4 | h4 | h4
    ·exact absurd h4 hkk
    ·rw [I.f k' h4, h0]
     cases flt drop (fnd L k') <;> rfl
    ·rw [h4, h0]
     cases hb : bhK b k' with
     | false => rw [I.f k' hb, h4]; rfl
     | true => rw [old k' hb]; rfl
 | false =>
  have e : flt drop (some p) = none := by
   have : (drop && p.2.2) = true := by cases drop <;> cases hh : p.2.2 <;> simp_all
   simp only [flt, this, cond_true]
  rw [cond_false]
  refine ⟨I.a, fun q hq => ?_, fun k' h => ?_⟩
  ·have := hlt q hq
   rw [hpk] at this
   exact ltK_asym this
  ·by_cases hkk : k' = k
   ·subst hkk
    rw [hno, hp, e]
   ·rcases low k' h with h4 | h4 | h4
    ·exact absurd h4 hkk
    ·exact I.f k' h4
    ·cases hb : bhK b k' with
     | false => exact I.f k' hb
     | true => rw [old k' hb, h4]; rfl
theorem rk_end {drop : Bool} {L : List (List Pr)} {b : Option (List Int)} {out : List Pr} (I : RfI drop L b out) (hk : lsK b (ksL L) none = none) : ∀ k, fnL out k = flt drop (fnd L k) := fun k => by
 cases hb : bhK b k with
 | false => exact I.f k hb
 | true =>
  have hf : fnd L k = none := by
   cases hf : fnd L k with
   | none => rfl
   | some q => have := (lsK_is b (ksL L)).n hk k (ksL_fnd.2 ⟨q, hf⟩); rw [hb] at this; cases this
  rw [hf]
  refine fnL_none fun q hq e => ?_
  have := I.m q hq
  rw [e, hb] at this
  cases this
def lfK (b : Option (List Int)) (K : List (List Int)) : Nat := (K.filter (bhK b)).length
theorem lfK_less {b : Option (List Int)} {K : List (List Int)} {k : List Int} (h1 : k ∈ K) (h2 : bhK b k = true) : lfK (some k) K < lfK b K := by
 unfold lfK
 have sub : ∀ x, bhK (some k) x = true → bhK b x = true := fun x hx => bh_next h2 hx
 have nk : bhK (some k) k = false := ltK_irr k
 have hb := h2
 clear h2
 revert h1
 induction K with
 | nil => intro h; cases h
 | cons x K ih =>
  intro h
  have mono : ∀ K : List (List Int), (K.filter (bhK (some k))).length ≤ (K.filter (bhK b)).length := fun K => by
   induction K with
   | nil => exact Nat.le_refl _
   | cons y K ih =>
    simp only [List.filter_cons]
    cases hy : bhK (some k) y with
    | true =>
     rw [sub y hy]
     simp only [if_true, List.length_cons]
     omega
    | false => cases bhK b y <;> simp only [Bool.false_eq_true, if_false, if_true, List.length_cons] <;> omega
  simp only [List.filter_cons]
  rcases List.mem_cons.1 h with e | h
  ·rw [← e, nk, hb]
   have := mono K
   simp only [Bool.false_eq_true, if_false, if_true, List.length_cons]
   omega
  ·have h4 := ih h
   cases hy : bhK (some k) x with
   | true =>
    rw [sub x hy]
    simp only [if_true, List.length_cons]
    omega
   | false => cases bhK b x <;> simp only [Bool.false_eq_true, if_false, if_true, List.length_cons] <;> omega
theorem rk_run {drop : Bool} {L : List (List Pr)} : ∀ (f : Nat) (b : Option (List Int)) (out : List Pr), RfI drop L b out → lfK b (ksL L) ≤ f → asc (rfM drop L f (lsK b (ksL L) none) out) = true ∧ ∀ k, fnL (rfM drop L f (lsK b (ksL L) none) out) k = flt drop (fnd L k)
 | 0, b, out, I, hf => by
   refine ⟨I.a, rk_end I ?_⟩
   cases hk : lsK b (ksL L) none with
   | none => rfl
   | some k =>
    obtain ⟨h1, h2, _⟩ := (lsK_is b (ksL L)).s k hk
    have := lfK_less h1 h2
    omega
 | f + 1, b, out, I, hf => by
   cases hk : lsK b (ksL L) none with
   | none => exact ⟨I.a, rk_end I hk⟩
   | some k =>
    obtain ⟨h1, h2, _⟩ := (lsK_is b (ksL L)).s k hk
    have := lfK_less h1 h2
    exact rk_run f (some k) _ (rk_step I hk) (by omega)
theorem rk_is {drop : Bool} {L : List (List Pr)} (hA : L.all asc = true) (f : Nat) (hf : lfK none (ksL L) ≤ f) : rfM drop L f (lsK none (ksL L) none) [] = mgOut drop L := by
 obtain ⟨h1, h2⟩ := rk_run (drop := drop) (L := L) f none [] ⟨rfl, (fun p hp => by cases hp), (fun k h => by cases h)⟩ hf
 exact asc_ext h1 (mgOut_asc hA) fun k => (h2 k).trans (mgOut_fn hA k).symm
theorem leX {L : LFun} : XOkZ (leV L) Try.prog := XOneZ.ok cmpY_ok rfl
theorem leT {L : LFun} : TOkZ (leV L) Try.prog := noTz_okV rfl
theorem leL : LOkZ (leV noL) Try.prog := noL_okV rfl
def bhv (f : Bool) (B : List Int) : Option (List Int) := bif f then none else some B
def oV (A : Nat) (w : Option (List Int)) : Value := match w with | none => nlV | some y => slN A y.length
def leW (A : Nat) (w : Option (List Int)) (ds : List DV) (bs : List Value) : Hp := match w with | none => leH ds bs | some y => (A, ⟨.ow, byV y⟩) :: leH ds bs
def leS (A n m i k : Nat) (f : Bool) (w : Option (List Int)) : List (Nat × Value) := [(0, llA n), (1, kyV m), (2, .bool f), (8, oV A w), (9, .bool w.isSome), (10, iV i), (11, iV k)]
def leQ (A n m i : Nat) (f : Bool) (w : Option (List Int)) : List (Nat × Value) := [(0, llA n), (1, kyV m), (2, .bool f), (8, oV A w), (9, .bool w.isSome), (10, iV i)]
def KyB (w : Option (List Int)) : Prop := ∀ y, w = some y → ∀ x ∈ y, 0 ≤ x ∧ x < 256
set_option maxHeartbeats 4000000 in
theorem le_inner {inr : Bool} {h0 : Hp} {L : List (List Pr)} {bs : List Value} {B : List Int} {n m i : Nat} {f : Bool} {l : List Pr} (hB : FdK bs m B) (hL : FdLL L n) (hx : L[i]? = some l) : ∀ (r k : Nat) (w : Option (List Int)), KyB w → k + r = l.length →
  LRuns inr Try.prog (bodyIn Try.prog 36 7) 60 200 h0 54 (leS 80 n m i k f w) (leW 80 w (llD L) bs) 100 (.exit 2, leQ 80 n m i f (lsK (bhv f B) ((l.drop k).map (·.1)) w), leW 80 (lsK (bhv f B) ((l.drop k).map (·.1)) w) (llD L) bs)
 | 0, k, w, hw, hr => by
   obtain ⟨rfl, rfl, bB⟩ := hB
   have hl := hL.l
   have hn9 := hL.n9
   have hi : i < L.length := (List.getElem?_eq_some_iff.1 hx).1
   have A := ll_at hx
   rw [List.drop_of_length_le (by omega)]
   cases f with
   | false =>
    cases w with
    | none =>
     refine LRuns.exit (code_runsP leX leL (runZ_ok leX leT leL mixed 9) mixed (le_FNe inr n B.length i k 0 (llD L) (byV B) []) ?_) (by intro e; cases e) rfl (by omega) (by omega) (fun n => n) ?_ ?_ rfl
     ·simp only [Alls, rg, decide_eq_true_eq, decide_eq_false_iff_not, Nat.add_zero, A.n, A.s]
      repeat' (with_reducible apply And.intro)
      all_goals first | omega | exact A.o _ | (with_reducible exact trivial)
     ·exact ⟨rfl, rb_slg rfl rfl, rfl, rb_slg rfl rfl, rfl, rfl, rfl, rfl, rfl, rfl, rfl, rfl, trivial⟩
     ·exact ⟨sw_row (m := 0) rfl rfl, ow_row (m := 2) rfl rfl (byV_ren _), trivial⟩
    | some y =>
     refine LRuns.exit (code_runsP leX leL (runZ_ok leX leT leL mixed 9) mixed (le_FSe inr n B.length i k y.length (llD L) (byV B) (byV y)) ?_) (by intro e; cases e) rfl (by omega) (by omega) (fun n => n) ?_ ?_ rfl
     ·simp only [Alls, rg, decide_eq_true_eq, decide_eq_false_iff_not, Nat.add_zero, A.n, A.s]
      repeat' (with_reducible apply And.intro)
      all_goals first | omega | exact A.o _ | (with_reducible exact trivial)
     ·exact ⟨rfl, rb_slg rfl rfl, rfl, rb_slg rfl rfl, rfl, rfl, rfl, rb_slg rfl rfl, rfl, rfl, rfl, rfl, trivial⟩
     ·exact ⟨ow_row (m := 80) rfl rfl (byV_ren _), sw_row (m := 0) rfl rfl, ow_row (m := 2) rfl rfl (byV_ren _), trivial⟩
   | true =>
    cases w with
    | none =>
     refine LRuns.exit (code_runsP leX leL (runZ_ok leX leT leL mixed 9) mixed (le_TNe inr n B.length i k 0 (llD L) (byV B) []) ?_) (by intro e; cases e) rfl (by omega) (by omega) (fun n => n) ?_ ?_ rfl
     ·simp only [Alls, rg, decide_eq_true_eq, decide_eq_false_iff_not, Nat.add_zero, A.n, A.s]
      repeat' (with_reducible apply And.intro)
      all_goals first | omega | exact A.o _ | (with_reducible exact trivial)
     ·exact ⟨rfl, rb_slg rfl rfl, rfl, rb_slg rfl rfl, rfl, rfl, rfl, rfl, rfl, rfl, rfl, rfl, trivial⟩
     ·exact ⟨sw_row (m := 0) rfl rfl, ow_row (m := 2) rfl rfl (byV_ren _), trivial⟩
    | some y =>
     refine LRuns.exit (code_runsP leX leL (runZ_ok leX leT leL mixed 9) mixed (le_TSe inr n B.length i k y.length (llD L) (byV B) (byV y)) ?_) (by intro e; cases e) rfl (by omega) (by omega) (fun n => n) ?_ ?_ rfl
     ·simp only [Alls, rg, decide_eq_true_eq, decide_eq_false_iff_not, Nat.add_zero, A.n, A.s]
      repeat' (with_reducible apply And.intro)
      all_goals first | omega | exact A.o _ | (with_reducible exact trivial)
     ·exact ⟨rfl, rb_slg rfl rfl, rfl, rb_slg rfl rfl, rfl, rfl, rfl, rb_slg rfl rfl, rfl, rfl, rfl, rfl, trivial⟩
     ·exact ⟨ow_row (m := 80) rfl rfl (byV_ren _), sw_row (m := 0) rfl rfl, ow_row (m := 2) rfl rfl (byV_ren _), trivial⟩
 | r + 1, k, w, hw, hr => by
   have hl := hL.l
   have hn9 := hL.n9
   have hi : i < L.length := (List.getElem?_eq_some_iff.1 hx).1
   have A := ll_at hx
   have fl := hL.L l (List.mem_of_getElem? hx)
   have l9 := fl.l9
   have hj : k < l.length := by omega
   obtain ⟨p, hp⟩ : ∃ p, l[k] = p := ⟨_, rfl⟩
   have F := (cpD_prs l).facts (i := k) (p := p) (by rw [← hp]; exact List.getElem?_eq_getElem hj)
   have hm : p ∈ l := by rw [← hp]; exact List.getElem_mem hj
   have hd : (l.drop k).map (·.1) = p.1 :: (l.drop (k + 1)).map (·.1) := by rw [List.drop_eq_getElem_cons hj, hp]; rfl
   have f0 := F.l0
   have v0 := F.v0
   have bp := (fl.O p hm).1
   have hBB := hB
   obtain ⟨rfl, rfl, bB⟩ := hB
   have cb0 := cmp_less B p.1 bB bp
   have kp : KyB (some p.1) := fun y e => by cases e; exact bp
   rw [hd]
   show LRuns _ _ _ _ _ _ _ _ _ _ (.exit 2, leQ 80 n B.length i f (lsK (bhv f B) ((l.drop (k + 1)).map (·.1)) (lsS (bhv f B) w p.1)), leW 80 (lsK (bhv f B) ((l.drop (k + 1)).map (·.1)) (lsS (bhv f B) w p.1)) (llD L) (byV B))
   cases f with
   | false =>
    cases w with
    | none =>
     cases hb : ltK B p.1 with
     | true =>
      have hS : lsS (bhv false B) none p.1 = some p.1 := by show (bif ltK B p.1 && true then some p.1 else none) = _; rw [hb]; rfl
      have cb := cb0.trans hb
      have cy := cb
      rw [show lsS (bhv false B) none p.1 = (some p.1) from hS]
      refine LRuns.step (code_runsP leX leL (runZ_ok leX leT leL mixed 9) mixed (le_FNt inr n B.length i k 0 (llD L) (byV B) []) ?_) rfl (by omega) (by omega) (fun n => bif Nat.beq n 80 then 102 else n) ?_ ?_ rfl (le_inner (f := false) hBB hL hx r (k + 1) (some p.1) kp (by omega))
      ·
       simp only [Alls, rg, decide_eq_true_eq, decide_eq_false_iff_not, Nat.add_zero, Nat.zero_add, Nat.mul_one, ixO_eq, Int.toNat_natCast, A.n, A.s, f0, v0, tk_by, byV_ints, byV_len]
       repeat' (with_reducible apply And.intro)
       all_goals first | omega | (with_reducible assumption) | exact A.o _ | exact F.o27 _ | exact F.o29 _ | (with_reducible exact trivial) | (with_reducible rfl) | exact byV_eq _ | exact cb | exact cy | skip
      ·refine ⟨rfl, rb_slg rfl rfl, rfl, rb_slg rfl rfl, rfl, rfl, rfl, ?_, rfl, rfl, rfl, rfl, rfl, rfl, trivial⟩
       simp only [Nat.add_zero, A.n, A.s, f0]
       exact rb_slg rfl rfl
      ·refine ⟨ow_row (m := 102) rfl (ow_eq ?_) (byV_ren _), sw_row (m := 0) rfl rfl, ow_row (m := 2) rfl rfl (byV_ren _), trivial⟩
       simp only [Nat.add_zero, A.n, A.s, v0]
     | false =>
      have hS : lsS (bhv false B) none p.1 = none := by show (bif ltK B p.1 && true then some p.1 else none) = _; rw [hb]; rfl
      have cb := cb0.trans hb
      have cy := cb
      rw [show lsS (bhv false B) none p.1 = none from hS]
      refine LRuns.step (code_runsP leX leL (runZ_ok leX leT leL mixed 9) mixed (le_FNn inr n B.length i k 0 (llD L) (byV B) []) ?_) rfl (by omega) (by omega) (fun n => n) ?_ ?_ rfl (le_inner (f := false) hBB hL hx r (k + 1) none hw (by omega))
      ·
       simp only [Alls, rg, decide_eq_true_eq, decide_eq_false_iff_not, Nat.add_zero, Nat.zero_add, Nat.mul_one, ixO_eq, Int.toNat_natCast, A.n, A.s, f0, v0, tk_by, byV_ints, byV_len]
       repeat' (with_reducible apply And.intro)
       all_goals first | omega | (with_reducible assumption) | exact A.o _ | exact F.o27 _ | exact F.o29 _ | (with_reducible exact trivial) | (with_reducible rfl) | exact byV_eq _ | exact cb | exact cy | skip
      ·exact ⟨rfl, rb_slg rfl rfl, rfl, rb_slg rfl rfl, rfl, rfl, rfl, rfl, rfl, rfl, rfl, rfl, rfl, rfl, trivial⟩
      ·exact ⟨sw_row (m := 0) rfl rfl, ow_row (m := 2) rfl rfl (byV_ren _), trivial⟩
    | some y =>
     have cy0 := cmp_less p.1 y bp (hw y rfl)
     cases hb : ltK B p.1 with
     | false =>
      have hS : lsS (bhv false B) (some y) p.1 = some y := by show (bif ltK B p.1 && ltK p.1 y then some p.1 else some y) = _; rw [hb]; rfl
      have cb := cb0.trans hb
      have cy := cb
      rw [show lsS (bhv false B) (some y) p.1 = (some y) from hS]
      refine LRuns.step (code_runsP leX leL (runZ_ok leX leT leL mixed 9) mixed (le_FSn inr n B.length i k y.length (llD L) (byV B) (byV y)) ?_) rfl (by omega) (by omega) (fun n => n) ?_ ?_ rfl (le_inner (f := false) hBB hL hx r (k + 1) (some y) hw (by omega))
      ·
       simp only [Alls, rg, decide_eq_true_eq, decide_eq_false_iff_not, Nat.add_zero, Nat.zero_add, Nat.mul_one, ixO_eq, Int.toNat_natCast, A.n, A.s, f0, v0, tk_by, byV_ints, byV_len]
       repeat' (with_reducible apply And.intro)
       all_goals first | omega | (with_reducible assumption) | exact A.o _ | exact F.o27 _ | exact F.o29 _ | (with_reducible exact trivial) | (with_reducible rfl) | exact byV_eq _ | exact cb | exact cy | skip
      ·exact ⟨rfl, rb_slg rfl rfl, rfl, rb_slg rfl rfl, rfl, rfl, rfl, rb_slg rfl rfl, rfl, rfl, rfl, rfl, rfl, rfl, trivial⟩
      ·exact ⟨ow_row (m := 80) rfl rfl (byV_ren _), sw_row (m := 0) rfl rfl, ow_row (m := 2) rfl rfl (byV_ren _), trivial⟩
     | true =>
      have cb := cb0.trans hb
      cases hy : ltK p.1 y with
      | true =>
       have hS : lsS (bhv false B) (some y) p.1 = some p.1 := by show (bif ltK B p.1 && ltK p.1 y then some p.1 else some y) = _; rw [hb, hy]; rfl
       have cy := cy0.trans hy
       rw [show lsS (bhv false B) (some y) p.1 = (some p.1) from hS]
       refine LRuns.step (code_runsP leX leL (runZ_ok leX leT leL mixed 9) mixed (le_FSt inr n B.length i k y.length (llD L) (byV B) (byV y)) ?_) rfl (by omega) (by omega) (fun n => bif Nat.beq n 80 then 102 else n) ?_ ?_ rfl (le_inner (f := false) hBB hL hx r (k + 1) (some p.1) kp (by omega))
       ·
        simp only [Alls, rg, decide_eq_true_eq, decide_eq_false_iff_not, Nat.add_zero, Nat.zero_add, Nat.mul_one, ixO_eq, Int.toNat_natCast, A.n, A.s, f0, v0, tk_by, byV_ints, byV_len]
        repeat' (with_reducible apply And.intro)
        all_goals first | omega | (with_reducible assumption) | exact A.o _ | exact F.o27 _ | exact F.o29 _ | (with_reducible exact trivial) | (with_reducible rfl) | exact byV_eq _ | exact cb | exact cy | skip
       ·refine ⟨rfl, rb_slg rfl rfl, rfl, rb_slg rfl rfl, rfl, rfl, rfl, ?_, rfl, rfl, rfl, rfl, rfl, rfl, trivial⟩
        simp only [Nat.add_zero, A.n, A.s, f0]
        exact rb_slg rfl rfl
       ·refine ⟨ow_row (m := 102) rfl (ow_eq ?_) (byV_ren _), sw_row (m := 0) rfl rfl, ow_row (m := 2) rfl rfl (byV_ren _), trivial⟩
        simp only [Nat.add_zero, A.n, A.s, v0]
      | false =>
       have hS : lsS (bhv false B) (some y) p.1 = some y := by show (bif ltK B p.1 && ltK p.1 y then some p.1 else some y) = _; rw [hb, hy]; rfl
       have cy := cy0.trans hy
       rw [show lsS (bhv false B) (some y) p.1 = (some y) from hS]
       refine LRuns.step (code_runsP leX leL (runZ_ok leX leT leL mixed 9) mixed (le_FSm inr n B.length i k y.length (llD L) (byV B) (byV y)) ?_) rfl (by omega) (by omega) (fun n => n) ?_ ?_ rfl (le_inner (f := false) hBB hL hx r (k + 1) (some y) hw (by omega))
       ·
        simp only [Alls, rg, decide_eq_true_eq, decide_eq_false_iff_not, Nat.add_zero, Nat.zero_add, Nat.mul_one, ixO_eq, Int.toNat_natCast, A.n, A.s, f0, v0, tk_by, byV_ints, byV_len]
        repeat' (with_reducible apply And.intro)
        all_goals first | omega | (with_reducible assumption) | exact A.o _ | exact F.o27 _ | exact F.o29 _ | (with_reducible exact trivial) | (with_reducible rfl) | exact byV_eq _ | exact cb | exact cy | skip
       ·exact ⟨rfl, rb_slg rfl rfl, rfl, rb_slg rfl rfl, rfl, rfl, rfl, rb_slg rfl rfl, rfl, rfl, rfl, rfl, rfl, rfl, trivial⟩
       ·exact ⟨ow_row (m := 80) rfl rfl (byV_ren _), sw_row (m := 0) rfl rfl, ow_row (m := 2) rfl rfl (byV_ren _), trivial⟩
   | true =>
    cases w with
    | none =>
     have hS : lsS (bhv true B) none p.1 = some p.1 := rfl
     have cb := cb0
     have cy := cb0
     rw [show lsS (bhv true B) none p.1 = (some p.1) from hS]
     refine LRuns.step (code_runsP leX leL (runZ_ok leX leT leL mixed 9) mixed (le_TNt inr n B.length i k 0 (llD L) (byV B) []) ?_) rfl (by omega) (by omega) (fun n => bif Nat.beq n 80 then 102 else n) ?_ ?_ rfl (le_inner (f := true) hBB hL hx r (k + 1) (some p.1) kp (by omega))
     ·
      simp only [Alls, rg, decide_eq_true_eq, decide_eq_false_iff_not, Nat.add_zero, Nat.zero_add, Nat.mul_one, ixO_eq, Int.toNat_natCast, A.n, A.s, f0, v0, tk_by, byV_ints, byV_len]
      repeat' (with_reducible apply And.intro)
      all_goals first | omega | (with_reducible assumption) | exact A.o _ | exact F.o27 _ | exact F.o29 _ | (with_reducible exact trivial) | (with_reducible rfl) | exact byV_eq _ | exact cb | exact cy | skip
     ·refine ⟨rfl, rb_slg rfl rfl, rfl, rb_slg rfl rfl, rfl, rfl, rfl, ?_, rfl, rfl, rfl, rfl, rfl, rfl, trivial⟩
      simp only [Nat.add_zero, A.n, A.s, f0]
      exact rb_slg rfl rfl
     ·refine ⟨ow_row (m := 102) rfl (ow_eq ?_) (byV_ren _), sw_row (m := 0) rfl rfl, ow_row (m := 2) rfl rfl (byV_ren _), trivial⟩
      simp only [Nat.add_zero, A.n, A.s, v0]
    | some y =>
     have cy0 := cmp_less p.1 y bp (hw y rfl)
     cases hy : ltK p.1 y with
     | true =>
      have hS : lsS (bhv true B) (some y) p.1 = some p.1 := by show (bif true && ltK p.1 y then some p.1 else some y) = _; rw [hy]; rfl
      have cy := cy0.trans hy
      have cb := cy
      rw [show lsS (bhv true B) (some y) p.1 = (some p.1) from hS]
      refine LRuns.step (code_runsP leX leL (runZ_ok leX leT leL mixed 9) mixed (le_TSt inr n B.length i k y.length (llD L) (byV B) (byV y)) ?_) rfl (by omega) (by omega) (fun n => bif Nat.beq n 80 then 102 else n) ?_ ?_ rfl (le_inner (f := true) hBB hL hx r (k + 1) (some p.1) kp (by omega))
      ·
       simp only [Alls, rg, decide_eq_true_eq, decide_eq_false_iff_not, Nat.add_zero, Nat.zero_add, Nat.mul_one, ixO_eq, Int.toNat_natCast, A.n, A.s, f0, v0, tk_by, byV_ints, byV_len]
       repeat' (with_reducible apply And.intro)
       all_goals first | omega | (with_reducible assumption) | exact A.o _ | exact F.o27 _ | exact F.o29 _ | (with_reducible exact trivial) | (with_reducible rfl) | exact byV_eq _ | exact cb | exact cy | skip
      ·refine ⟨rfl, rb_slg rfl rfl, rfl, rb_slg rfl rfl, rfl, rfl, rfl, ?_, rfl, rfl, rfl, rfl, rfl, rfl, trivial⟩
       simp only [Nat.add_zero, A.n, A.s, f0]
       exact rb_slg rfl rfl
      ·refine ⟨ow_row (m := 102) rfl (ow_eq ?_) (byV_ren _), sw_row (m := 0) rfl rfl, ow_row (m := 2) rfl rfl (byV_ren _), trivial⟩
       simp only [Nat.add_zero, A.n, A.s, v0]
     | false =>
      have hS : lsS (bhv true B) (some y) p.1 = some y := by show (bif true && ltK p.1 y then some p.1 else some y) = _; rw [hy]; rfl
      have cy := cy0.trans hy
      have cb := cy
      rw [show lsS (bhv true B) (some y) p.1 = (some y) from hS]
      refine LRuns.step (code_runsP leX leL (runZ_ok leX leT leL mixed 9) mixed (le_TSn inr n B.length i k y.length (llD L) (byV B) (byV y)) ?_) rfl (by omega) (by omega) (fun n => n) ?_ ?_ rfl (le_inner (f := true) hBB hL hx r (k + 1) (some y) hw (by omega))
      ·
       simp only [Alls, rg, decide_eq_true_eq, decide_eq_false_iff_not, Nat.add_zero, Nat.zero_add, Nat.mul_one, ixO_eq, Int.toNat_natCast, A.n, A.s, f0, v0, tk_by, byV_ints, byV_len]
       repeat' (with_reducible apply And.intro)
       all_goals first | omega | (with_reducible assumption) | exact A.o _ | exact F.o27 _ | exact F.o29 _ | (with_reducible exact trivial) | (with_reducible rfl) | exact byV_eq _ | exact cb | exact cy | skip
      ·exact ⟨rfl, rb_slg rfl rfl, rfl, rb_slg rfl rfl, rfl, rfl, rfl, rb_slg rfl rfl, rfl, rfl, rfl, rfl, rfl, rfl, trivial⟩
      ·exact ⟨ow_row (m := 80) rfl rfl (byV_ren _), sw_row (m := 0) rfl rfl, ow_row (m := 2) rfl rfl (byV_ren _), trivial⟩
end Go.Proofs.Ytmoflcoijmmpjaa
