/-
  Chapter 12: the document's Between: rounds.
-/
import Derived.Test.YtojakfnljopjbaaGrAW
import Derived.Test.YtojakfnljopjbaaGrAU
import Derived.Test.YtojakfnljopjbaaGrAQ
namespace Go.Proofs.Ytojakfnljopjbaa
set_option linter.unusedSimpArgs false
set_option linter.unusedVariables false
set_option linter.unusedSectionVars false
open Go Go.RowKit
def rbTab : FuncId → List Nat := fun f => bif Nat.beq f 43 then [12, 26] else bif Nat.beq f 34 then [9] else []
def rbSy : FuncId → Nat → Option Nat := orSy (lsSy 43 [(12, 0), (14, 0), (17, 0), (19, 32), (26, 0), (30, 0), (32, 32), (40, 0), (41, 32), (43, 44)]) (lsSy 34 [(6, 0), (8, 0), (9, 0)])
def rbV (L : LFun) (T : TFun) : Tv := ⟨T, cmpY, L, rbTab, rbSy, fun _ => [], fun _ => 0⟩
def rbH (ds : List DV) (k1 k2 : List Value) : Hp := [(0, ⟨.dp 3 zPr ds, []⟩), (1, ⟨.old, k1⟩), (2, ⟨.old, k2⟩)]
def rbK (k m c : Nat) : Value := .slice (some ⟨k, 0, none⟩) m c
def rbS (n m1 c1 m2 c2 i : Nat) (out : Value) : List (Nat × Value) := [(0, .slice (some ⟨0, 0, none⟩) n (B0 + 0)), (1, rbK 1 m1 c1), (2, rbK 2 m2 c2), (7, out), (8, iV i)]
theorem rb_s1 (inr : Bool) (n m1 c1 m2 c2 i : Nat) (ds : List DV) (k1 k2 : List Value) : prjP [0, 1, 2, 7, 8] 81 (Bk (rbV noL noTz) Try.prog (runZ (rbV noL noTz) Try.prog 9) 43 inr 100000 (B6 Try.prog 43 3) (SL 45 (rbS n m1
 c1 m2 c2 i btN)) ( rbH ds k1 k2) 81 [true, true])
 =
  (let a1 := (i * 3 + 0 + 0); let a2 := (B1 (List.take (dLen ds a1) (B4 ds a1))); Res.ok ((Xt.normal, 45, [(0, Value.slice (some (Addr.mk 0 0 none)) n 18446744073709551616), (1, Value.slice (some (Addr.mk 1 0 none)) m1 c1), (2, Value.slice (some (Addr.mk 2 0 none)) m2 c2), (7, Value.slice none 0 0), (8, Value.int IntKind.i64 (↑(i + 1) : Int))], [(0, Rw.mk (Kd.dp 3 [Value.slice none 0 0, Value.slice none 0 0, Value.bool false] ds) []), (1, Rw.mk Kd.old k1), (2, Rw.mk Kd.old k2)], 82, [], []), [], [decide ((↑i : Int) < (↑n : Int)) = true, (0 : Int) ≤ (↑i : Int) ∧ (↑i : Int) < (↑n : Int), ShOb Try.prog 27 false true ds (i * 3 + 0) 81, dLen ds a1 ≤ List.length (B4 ds a1), List.take (dLen ds a1) (B4 ds a1) = List.map (Value.int IntKind.u8) a2, m1 ≤ List.length k1, List.take m1 k1 = List.map (Value.int IntKind.u8) (B1 (List.take m1 k1)), Op.bytesLess (List.map (fun n =>
 UInt8.ofNat (Int.toNat n)) a2) (List.map (fun n => UInt8.ofNat (Int.toNat n)) (B1 (List.take m1 k1))) = true, rg IntKind.i64 (↑(i + 1) :
 Int)])) := by kernel_rfl
theorem rb_s2 (inr : Bool) (n m1 c1 m2 c2 i : Nat) (ds : List DV) (k1 k2 : List Value) : prjP [0, 1, 2, 7, 8] 81 (Bk (rbV noL noTz) Try.prog (runZ (rbV noL noTz) Try.prog 9) 43 inr 100000 (B6 Try.prog 43 3) (SL 45 (rbS n m1
 c1 m2 c2 i btN)) ( rbH ds k1 k2) 81 [true, false, false, false])
 =
  (let a4 := (Value.int IntKind.u8); let a2 := (i * 3 + 0 + 0); let a1 := (B1 (List.take (dLen ds a2) (B4 ds a2))); let a3 := (List.map (fun n => UInt8.ofNat (Int.toNat n)) a1); Res.ok ((Xt.normal, 45, [(0, Value.slice (some (Addr.mk 0 0 none)) n 18446744073709551616), (1, Value.slice (some (Addr.mk 1 0 none)) m1 c1), (2, Value.slice (some (Addr.mk 2 0 none)) m2 c2), (7, Value.slice none 0 0), (8, Value.int IntKind.i64 (↑(i + 1) : Int))], [(0, Rw.mk (Kd.dp 3 [Value.slice none 0 0, Value.slice none 0 0, Value.bool false] ds) []), (1, Rw.mk Kd.old k1), (2, Rw.mk Kd.old k2)], 83, [], []), [], ((fun (q0 q1 q2 : Prop) => [decide ((↑i : Int) < (↑n : Int)) = true, q0, ShOb Try.prog 27 false true ds (i * 3 + 0) 81, q1, q2, m1 ≤ List.length k1, List.take m1 k1 = List.map a4 (B1 (List.take m1 k1)), Op.bytesLess a3 (List.map (fun n => UInt8.ofNat (Int.toNat n)) (B1 (List.take m1 k1)))
 = false, ((↑m2 : Int) == (0 : Int)) = false, q0, ShOb Try.prog 27 false true ds (i * 3 + 0) 82, q1, q2, m2 ≤ List.length k2, List.take m2 k2 = List.map a4 (B1 (List.take m2 k2)), Op.bytesLess a3 (List.map (fun n => UInt8.ofNat (Int.toNat n)) (B1 (List.take m2 k2))) = false, rg IntKind.i64 (↑(i + 1) : Int)]) ((0 : Int) ≤ (↑i : Int) ∧ (↑i : Int) < (↑n : Int)) (dLen ds a2 ≤ List.length (B4 ds a2)) (List.take (dLen ds a2) (B4 ds a2) = List.map a4
 a1)))) := by kernel_rfl
theorem rb_t1 (inr : Bool) (n m1 c1 m2 c2 i : Nat) (ds : List DV) (k1 k2 : List Value) : prjP [0, 1, 2, 7, 8] 81 (Bk (rbV noL noTz) Try.prog (runZ (rbV noL noTz) Try.prog 9) 43 inr 100000 (B6 Try.prog 43 3) (SL 45 (rbS n m1
 c1 m2 c2 i btN)) ( rbH ds k1 k2) 81 [true, false, true])
 =
  (let a6 := (B4 ds (i * 3 + 1)); let a5 := (i * 3 + 0); let a4 := (↑i : Int); let a2 := [Value.slice none 0 0, Value.slice none 0 0, Value.bool false]; let a1 := (i * 3 + 0 + 0); let a3 := (B1 (List.take (dLen ds a1) (B4 ds a1))); Res.ok ((Xt.normal, 45, [(0, Value.slice (some (Addr.mk 0 0 none)) n 18446744073709551616), (1, Value.slice (some (Addr.mk 1 0 none)) m1 c1), (2, Value.slice (some (Addr.mk 2 0 none)) m2 c2), (7, Value.slice (some (Addr.mk 86 0 none)) 1 (B0 + 86)), (8, Value.int IntKind.i64 (↑(i + 1) : Int))], [(86, Rw.mk (Kd.dp 3 a2 [DV.sl (dLen ds a5) none (List.map DV.fl (B4 ds a5)), DV.sl (dLen ds (i * 3 + 1)) none (List.map DV.fl a6), DV.fl (Value.bool (Dx ds (i * 3 + 2)))]) []), (0, Rw.mk (Kd.dp 3 a2 ds) []), (1, Rw.mk Kd.old k1), (2, Rw.mk Kd.old k2)], 87, [], []), [], [decide (a4 < (↑n : Int)) = true, (0 : Int) ≤ a4 ∧ a4 < (↑n : Int), ShOb Try.prog 27
 false true ds a5 81, dLen ds a1 ≤ List.length (B4 ds a1), List.take (dLen ds a1) (B4 ds a1) = List.map (Value.int IntKind.u8) a3, m1 ≤ List.length k1, List.take m1 k1 = List.map (Value.int IntKind.u8) (B1 (List.take m1 k1)), Op.bytesLess (List.map (fun n => UInt8.ofNat (Int.toNat n)) a3) (List.map (fun n => UInt8.ofNat (Int.toNat n)) (B1 (List.take m1 k1))) = false, ((↑m2 : Int) == (0 : Int)) = true, (0 : Int) ≤ a4 ∧ a4 < (↑n : Int), ShOb Try.prog 29 false true ds (i * 3) 82, 56 ≤ 140737488355328, (∀ (τ : Sg), renL τ (B4 ds a5) = some (B4 ds a5)) ∧ (dLen ds (ixO 0 (Int.toNat a4) 3 + 0) = 0 → B4 ds a5 = []), (∀ (τ : Sg), renL τ a6 = some a6) ∧ (dLen ds (ixO 0 (Int.toNat a4) 3 + (0 + 1)) = 0 → B4 ds (i * 3 + 1) = []), 3 ≤ 3, true = true, rg IntKind.i64 (↑(i + 1) :
 Int)])) := by kernel_rfl
theorem rb_t2 (inr : Bool) (n m1 c1 m2 c2 i : Nat) (ds : List DV) (k1 k2 : List Value) : prjP [0, 1, 2, 7, 8] 81 (Bk (rbV noL noTz) Try.prog (runZ (rbV noL noTz) Try.prog 9) 43 inr 100000 (B6 Try.prog 43 3) (SL 45 (rbS n m1
 c1 m2 c2 i btN)) ( rbH ds k1 k2) 81 [true, false, false, true])
 =
  (let a8 := (↑i : Int); let a7 := (Value.int IntKind.u8); let a6 := (B4 ds (i * 3 + 1)); let a4 := (i * 3 + 0); let a3 := [Value.slice none 0 0, Value.slice none 0 0, Value.bool false]; let a2 := (i * 3 + 0 + 0); let a1 := (B1 (List.take (dLen ds a2) (B4 ds a2))); let a5 := (List.map (fun n => UInt8.ofNat (Int.toNat n)) a1); Res.ok ((Xt.normal, 45, [(0, Value.slice (some (Addr.mk 0 0 none)) n 18446744073709551616), (1, Value.slice (some (Addr.mk 1 0 none)) m1 c1), (2, Value.slice (some (Addr.mk 2 0 none)) m2 c2), (7, Value.slice (some (Addr.mk 87 0 none)) 1 (B0 + 87)), (8, Value.int IntKind.i64 (↑(i + 1) : Int))], [(87, Rw.mk (Kd.dp 3 a3 [DV.sl (dLen ds a4) none (List.map DV.fl (B4 ds a4)), DV.sl (dLen ds (i * 3 + 1)) none (List.map DV.fl a6), DV.fl (Value.bool (Dx ds (i * 3 + 2)))]) []), (0, Rw.mk (Kd.dp 3 a3 ds) []), (1, Rw.mk Kd.old k1), (2, Rw.mk Kd.old k2)], 88,
 [], []), [], ((fun (q0 q1 q2 : Prop) => [decide (a8 < (↑n : Int)) = true, q0, ShOb Try.prog 27 false true ds a4 81, q1, q2, m1 ≤ List.length k1, List.take m1 k1 = List.map a7 (B1 (List.take m1 k1)), Op.bytesLess a5 (List.map (fun n => UInt8.ofNat (Int.toNat n)) (B1 (List.take m1 k1))) = false, ((↑m2 : Int) == (0 : Int)) = false, q0, ShOb Try.prog 27 false true ds a4 82, q1, q2, m2 ≤ List.length k2, List.take m2 k2 = List.map a7 (B1 (List.take m2 k2)), Op.bytesLess a5 (List.map (fun n => UInt8.ofNat (Int.toNat n)) (B1 (List.take m2 k2))) = true, q0, ShOb Try.prog 29 false true ds (i * 3) 83, 56 ≤ 140737488355328, (∀ (τ : Sg), renL τ (B4 ds a4) = some (B4 ds a4)) ∧ (dLen ds (ixO 0 (Int.toNat a8) 3 + 0) = 0 → B4 ds a4 = []), (∀ (τ : Sg), renL τ a6 = some a6) ∧ (dLen ds (ixO 0 (Int.toNat a8) 3 + (0 + 1)) = 0 → B4 ds (i * 3 + 1) = []), 3 ≤ 3, true = true, rg
 IntKind.i64 (↑(i + 1) : Int)]) ((0 : Int) ≤ a8 ∧ a8 < (↑n : Int)) (dLen ds a2 ≤ List.length (B4 ds a2)) (List.take (dLen ds a2) (B4 ds a2) = List.map a7
 a1)))) := by kernel_rfl
theorem rb_x (inr : Bool) (n m1 c1 m2 c2 i : Nat) (ds : List DV) (k1 k2 : List Value) : prjP [0, 1, 2, 7, 8] 81 (Bk (rbV noL noTz) Try.prog (runZ (rbV noL noTz) Try.prog 9) 43 inr 100000 (B6 Try.prog 43 3) (SL 45 (rbS n m1 c1 m2 c2 i btN)) ( rbH ds k1 k2) 81 [false]) =
 Res.ok ((Xt.exit 0, 45, [(0, Value.slice (some (Addr.mk 0 0 none)) n 18446744073709551616), (1, Value.slice (some (Addr.mk 1 0 none)) m1 c1), (2, Value.slice (some (Addr.mk 2 0 none)) m2 c2), (7, Value.slice none 0 0), (8, Value.int IntKind.i64 (↑i : Int))], [(0, Rw.mk (Kd.dp 3 [Value.slice none 0 0, Value.slice none 0 0, Value.bool false] ds) []), (1, Rw.mk Kd.old k1), (2, Rw.mk Kd.old k2)], 81, [], []), [], [decide ((↑i : Int) < (↑n : Int)) = false]) := by kernel_rfl
theorem rb_ms1 (inr : Bool) (n m1 c1 m2 c2 i : Nat) (ds : List DV) (k1 k2 : List Value) (x : Nat) (es : List DV) : prjP [0, 1, 2, 7, 8] 81 (Bk (rbV noL noTz) Try.prog (runZ (rbV noL noTz) Try.prog 9) 43 inr 100000 (B6
 Try.prog 43 3) (SL 45 (rbS n m1 c1 m2 c2 i (dpV x))) ((80, ⟨.dp 3 zPr es, []⟩) :: rbH ds k1 k2) 81 [true, true])
 =
  (let a2 := [Value.slice none 0 0, Value.slice none 0 0, Value.bool false]; let a1 := (i * 3 + 0 + 0); let a3 := (B1 (List.take (dLen ds a1) (B4 ds a1))); Res.ok ((Xt.normal, 45, [(0, Value.slice (some (Addr.mk 0 0 none)) n 18446744073709551616), (1, Value.slice (some (Addr.mk 1 0 none)) m1 c1), (2, Value.slice (some (Addr.mk 2 0 none)) m2 c2), (7, Value.slice (some (Addr.mk 80 0 none)) x (B0 + 80)), (8, Value.int IntKind.i64 (↑(i + 1) : Int))], [(80, Rw.mk (Kd.dp 3 a2 es) []), (0, Rw.mk (Kd.dp 3 a2 ds) []), (1, Rw.mk Kd.old k1), (2, Rw.mk Kd.old k2)], 82, [], []), [], [decide ((↑i : Int) < (↑n : Int)) = true, (0 : Int) ≤ (↑i : Int) ∧ (↑i : Int) < (↑n : Int), ShOb Try.prog 27 false true ds (i * 3 + 0) 81, dLen ds a1 ≤ List.length (B4 ds a1), List.take (dLen ds a1) (B4 ds a1) = List.map (Value.int IntKind.u8) a3, m1 ≤ List.length k1, List.take m1 k1 = List.map (Value.int
 IntKind.u8) (B1 (List.take m1 k1)), Op.bytesLess (List.map (fun n => UInt8.ofNat (Int.toNat n)) a3) (List.map (fun n => UInt8.ofNat (Int.toNat n)) (B1 (List.take m1 k1))) = true, rg IntKind.i64 (↑(i + 1) :
 Int)])) := by kernel_rfl
theorem rb_ms2 (inr : Bool) (n m1 c1 m2 c2 i : Nat) (ds : List DV) (k1 k2 : List Value) (x : Nat) (es : List DV) : prjP [0, 1, 2, 7, 8] 81 (Bk (rbV noL noTz) Try.prog (runZ (rbV noL noTz) Try.prog 9) 43 inr 100000 (B6
 Try.prog 43 3) (SL 45 (rbS n m1 c1 m2 c2 i (dpV x))) ((80, ⟨.dp 3 zPr es, []⟩) :: rbH ds k1 k2) 81 [true, false, false, false])
 =
  (let a5 := (Value.int IntKind.u8); let a3 := [Value.slice none 0 0, Value.slice none 0 0, Value.bool false]; let a2 := (i * 3 + 0 + 0); let a1 := (B1 (List.take (dLen ds a2) (B4 ds a2))); let a4 := (List.map (fun n => UInt8.ofNat (Int.toNat n)) a1); Res.ok ((Xt.normal, 45, [(0, Value.slice (some (Addr.mk 0 0 none)) n 18446744073709551616), (1, Value.slice (some (Addr.mk 1 0 none)) m1 c1), (2, Value.slice (some (Addr.mk 2 0 none)) m2 c2), (7, Value.slice (some (Addr.mk 80 0 none)) x (B0 + 80)), (8, Value.int IntKind.i64 (↑(i + 1) : Int))], [(80, Rw.mk (Kd.dp 3 a3 es) []), (0, Rw.mk (Kd.dp 3 a3 ds) []), (1, Rw.mk Kd.old k1), (2, Rw.mk Kd.old k2)], 83, [], []), [], ((fun (q0 q1 q2 : Prop) => [decide ((↑i : Int) < (↑n : Int)) = true, q0, ShOb Try.prog 27 false true ds (i * 3 + 0) 81, q1, q2, m1 ≤ List.length k1, List.take m1 k1 = List.map a5 (B1 (List.take m1 k1)),
 Op.bytesLess a4 (List.map (fun n => UInt8.ofNat (Int.toNat n)) (B1 (List.take m1 k1))) = false, ((↑m2 : Int) == (0 : Int)) = false, q0, ShOb Try.prog 27 false true ds (i * 3 + 0) 82, q1, q2, m2 ≤ List.length k2, List.take m2 k2 = List.map a5 (B1 (List.take m2 k2)), Op.bytesLess a4 (List.map (fun n => UInt8.ofNat (Int.toNat n)) (B1 (List.take m2 k2))) = false, rg IntKind.i64 (↑(i + 1) : Int)]) ((0 : Int) ≤ (↑i : Int) ∧ (↑i : Int) < (↑n : Int)) (dLen ds a2 ≤ List.length (B4 ds a2)) (List.take (dLen ds a2) (B4 ds a2) = List.map a5
 a1)))) := by kernel_rfl
theorem rb_mt1 (inr : Bool) (n m1 c1 m2 c2 i : Nat) (ds : List DV) (k1 k2 : List Value) (x : Nat) (es : List DV) : prjP [0, 1, 2, 7, 8] 81 (Bk (rbV noL noTz) Try.prog (runZ (rbV noL noTz) Try.prog 9) 43 inr 100000 (B6
 Try.prog 43 3) (SL 45 (rbS n m1 c1 m2 c2 i (dpV x))) ((80, ⟨.dp 3 zPr es, []⟩) :: rbH ds k1 k2) 81 [true, false, true])
 =
  (let a6 := (B4 ds (i * 3 + 1)); let a5 := (i * 3 + 0); let a4 := (↑i : Int); let a2 := [Value.slice none 0 0, Value.slice none 0 0, Value.bool false]; let a1 := (i * 3 + 0 + 0); let a3 := (B1 (List.take (dLen ds a1) (B4 ds a1))); Res.ok ((Xt.normal, 45, [(0, Value.slice (some (Addr.mk 0 0 none)) n 18446744073709551616), (1, Value.slice (some (Addr.mk 1 0 none)) m1 c1), (2, Value.slice (some (Addr.mk 2 0 none)) m2 c2), (7, Value.slice (some (Addr.mk 86 0 none)) (x + 1) (B0 + 86)), (8, Value.int IntKind.i64 (↑(i + 1) : Int))], [(86, Rw.mk (Kd.dp 3 a2 (es ++ [DV.sl (dLen ds a5) none (List.map DV.fl (B4 ds a5)), DV.sl (dLen ds (i * 3 + 1)) none (List.map DV.fl a6), DV.fl (Value.bool (Dx ds (i * 3 + 2)))])) []), (0, Rw.mk (Kd.dp 3 a2 ds) []), (1, Rw.mk Kd.old k1), (2, Rw.mk Kd.old k2)], 87, [80], []), [], [decide (a4 < (↑n : Int)) = true, (0 : Int) ≤ a4 ∧ a4 < (↑n : Int),
 ShOb Try.prog 27 false true ds a5 81, dLen ds a1 ≤ List.length (B4 ds a1), List.take (dLen ds a1) (B4 ds a1) = List.map (Value.int IntKind.u8) a3, m1 ≤ List.length k1, List.take m1 k1 = List.map (Value.int IntKind.u8) (B1 (List.take m1 k1)), Op.bytesLess (List.map (fun n => UInt8.ofNat (Int.toNat n)) a3) (List.map (fun n => UInt8.ofNat (Int.toNat n)) (B1 (List.take m1 k1))) = false, ((↑m2 : Int) == (0 : Int)) = true, (0 : Int) ≤ a4 ∧ a4 < (↑n : Int), ShOb Try.prog 29 false true ds (i * 3) 82, B0 + 80 = B0 + 80 ∧ List.length es = x * 3, (x + 1) * 56 ≤ 140737488355328 ∧ x + 1 ≤ 9223372036854775807, (∀ (τ : Sg), renL τ (B4 ds a5) = some (B4 ds a5)) ∧ (dLen ds (ixO 0 (Int.toNat a4) 3 + 0) = 0 → B4 ds a5 = []), (∀ (τ : Sg), renL τ a6 = some a6) ∧ (dLen ds (ixO 0 (Int.toNat a4) 3 + (0 + 1)) = 0 → B4 ds (i * 3 + 1) = []), 3 ≤ 3, true = true, rg IntKind.i64 (↑(i
 + 1) :
 Int)])) := by kernel_rfl
theorem rb_mt2 (inr : Bool) (n m1 c1 m2 c2 i : Nat) (ds : List DV) (k1 k2 : List Value) (x : Nat) (es : List DV) : prjP [0, 1, 2, 7, 8] 81 (Bk (rbV noL noTz) Try.prog (runZ (rbV noL noTz) Try.prog 9) 43 inr 100000 (B6
 Try.prog 43 3) (SL 45 (rbS n m1 c1 m2 c2 i (dpV x))) ((80, ⟨.dp 3 zPr es, []⟩) :: rbH ds k1 k2) 81 [true, false, false, true])
 =
  (let a8 := (↑i : Int); let a7 := (Value.int IntKind.u8); let a6 := (B4 ds (i * 3 + 1)); let a4 := (i * 3 + 0); let a3 := [Value.slice none 0 0, Value.slice none 0 0, Value.bool false]; let a2 := (i * 3 + 0 + 0); let a1 := (B1 (List.take (dLen ds a2) (B4 ds a2))); let a5 := (List.map (fun n => UInt8.ofNat (Int.toNat n)) a1); Res.ok ((Xt.normal, 45, [(0, Value.slice (some (Addr.mk 0 0 none)) n 18446744073709551616), (1, Value.slice (some (Addr.mk 1 0 none)) m1 c1), (2, Value.slice (some (Addr.mk 2 0 none)) m2 c2), (7, Value.slice (some (Addr.mk 87 0 none)) (x + 1) (B0 + 87)), (8, Value.int IntKind.i64 (↑(i + 1) : Int))], [(87, Rw.mk (Kd.dp 3 a3 (es ++ [DV.sl (dLen ds a4) none (List.map DV.fl (B4 ds a4)), DV.sl (dLen ds (i * 3 + 1)) none (List.map DV.fl a6), DV.fl (Value.bool (Dx ds (i * 3 + 2)))])) []), (0, Rw.mk (Kd.dp 3 a3 ds) []), (1, Rw.mk Kd.old k1), (2, Rw.mk
 Kd.old k2)], 88, [80], []), [], ((fun (q0 q1 q2 : Prop) => [decide (a8 < (↑n : Int)) = true, q0, ShOb Try.prog 27 false true ds a4 81, q1, q2, m1 ≤ List.length k1, List.take m1 k1 = List.map a7 (B1 (List.take m1 k1)), Op.bytesLess a5 (List.map (fun n => UInt8.ofNat (Int.toNat n)) (B1 (List.take m1 k1))) = false, ((↑m2 : Int) == (0 : Int)) = false, q0, ShOb Try.prog 27 false true ds a4 82, q1, q2, m2 ≤ List.length k2, List.take m2 k2 = List.map a7 (B1 (List.take m2 k2)), Op.bytesLess a5 (List.map (fun n => UInt8.ofNat (Int.toNat n)) (B1 (List.take m2 k2))) = true, q0, ShOb Try.prog 29 false true ds (i * 3) 83, B0 + 80 = B0 + 80 ∧ List.length es = x * 3, (x + 1) * 56 ≤ 140737488355328 ∧ x + 1 ≤ 9223372036854775807, (∀ (τ : Sg), renL τ (B4 ds a4) = some (B4 ds a4)) ∧ (dLen ds (ixO 0 (Int.toNat a8) 3 + 0) = 0 → B4 ds a4 = []), (∀ (τ : Sg), renL τ a6 = some
 a6) ∧ (dLen ds (ixO 0 (Int.toNat a8) 3 + (0 + 1)) = 0 → B4 ds (i * 3 + 1) = []), 3 ≤ 3, true = true, rg IntKind.i64 (↑(i + 1) : Int)]) ((0 : Int) ≤ a8 ∧ a8 < (↑n : Int)) (dLen ds a2 ≤ List.length (B4 ds a2)) (List.take (dLen ds a2) (B4 ds a2) = List.map a7
 a1)))) := by kernel_rfl
theorem rb_mx (inr : Bool) (n m1 c1 m2 c2 i : Nat) (ds : List DV) (k1 k2 : List Value) (x : Nat) (es : List DV) : prjP [0, 1, 2, 7, 8] 81 (Bk (rbV noL noTz) Try.prog (runZ (rbV noL noTz) Try.prog 9) 43 inr 100000 (B6
 Try.prog 43 3) (SL 45 (rbS n m1 c1 m2 c2 i (dpV x))) ((80, ⟨.dp 3 zPr es, []⟩) :: rbH ds k1 k2) 81 [false])
 =
  (let a1 := [Value.slice none 0 0, Value.slice none 0 0, Value.bool false]; Res.ok ((Xt.exit 0, 45, [(0, Value.slice (some (Addr.mk 0 0 none)) n 18446744073709551616), (1, Value.slice (some (Addr.mk 1 0 none)) m1 c1), (2, Value.slice (some (Addr.mk 2 0 none)) m2 c2), (7, Value.slice (some (Addr.mk 80 0 none)) x (B0 + 80)), (8, Value.int IntKind.i64 (↑i : Int))], [(80, Rw.mk (Kd.dp 3 a1 es) []), (0, Rw.mk (Kd.dp 3 a1 ds) []), (1, Rw.mk Kd.old k1), (2, Rw.mk Kd.old k2)], 81, [], []), [], [decide ((↑i : Int) < (↑n : Int)) = false])) := by kernel_rfl
def pxTab : FuncId → List Nat := fun f => bif Nat.beq f 9 then [9, 13, 22, 30] else bif Nat.beq f 13 then [7, 22] else bif Nat.beq f 15 then [10, 14] else bif Nat.beq f 31 then [9] else bif Nat.beq f 20 then [22] else []
def pxSy : FuncId → Nat → Option Nat := orSy (lsSy 9 [(18, 0), (20, 32), (26, 0), (28, 32), (15, 0), (13, 0)]) (orSy (lsSy 13 [(12, 0), (13, 0), (15, 32), (18, 0), (20, 32), (9, 0)]) (orSy (lsSy 15 [(19, 0), (20, 32), (23, 0), (24, 32), (16, 0)]) (lsSy 31 [(6, 0), (8, 0), (9, 0)])))
def pxV (L : LFun) (T : TFun) : Tv := ⟨T, cmpY, L, pxTab, pxSy, fun _ => [], fun _ => 0⟩
def saA (n : Nat) : Value := .slice (some ⟨0, 0, none⟩) n (B0 + 0)
def sbA (n : Nat) : Value := .slice (some ⟨2, 0, none⟩) n (B0 + 2)
def pxH (ds es : List DV) : Hp := [(0, ⟨.sw ds, []⟩), (2, ⟨.sw es, []⟩)]
theorem px_lp_go (inr : Bool) (n i : Nat) (ds es : List DV) : prjP [0, 5] 10 (Bk (pxV noL noTz) Try.prog (runZ (pxV noL noTz) Try.prog 9) 9 inr 100000 (B6 Try.prog 9 4) (SL 32 [(0, saA n), (5, iV i)]) ([(0, ⟨.sw ds, []⟩)])
 10 [true, false, false])
 =
  (let a1 := (↑i : Int); Res.ok ((Xt.normal, 32, [(0, Value.slice (some (Addr.mk 0 0 none)) n 18446744073709551616), (5, Value.int IntKind.i64 (↑(i + 1) : Int))], [(0, Rw.mk (Kd.sw ds) [])], 12, [], []), [], [decide (a1 < (↑n : Int)) = true, (0 : Int) ≤ a1 ∧ a1 < (↑n : Int), ShOb Try.prog 27 false true ds (i * 3 + 0) 10, decide ((↑(dLen ds (i * 3 + 0 + 0)) : Int) > (200 : Int)) = false, (0 : Int) ≤ a1 ∧ a1 < (↑n : Int), ShOb Try.prog 27 false true ds (i * 3 + 1) 11, decide ((↑(dLen ds (i * 3 + 1 + 0)) : Int) > (200 : Int)) = false, rg IntKind.i64 (↑(i + 1) : Int)])) := by kernel_rfl
theorem px_lp_a (inr : Bool) (n i : Nat) (ds es : List DV) : prjP [4] 10 (Bk (pxV noL noTz) Try.prog (runZ (pxV noL noTz) Try.prog 9) 9 inr 100000 (B6 Try.prog 9 4) (SL 32 [(0, saA n), (5, iV i)]) ([(0, ⟨.sw ds, []⟩)]) 10 [true, true]) =
 Res.ok ((Xt.ret, 32, [(4, Value.bool true)], [(0, Rw.mk (Kd.sw ds) [])], 11, [], []), [], [decide ((↑i : Int) < (↑n : Int)) = true, (0 : Int) ≤ (↑i : Int) ∧ (↑i : Int) < (↑n : Int), ShOb Try.prog 27 false true ds (i * 3 + 0) 10, decide ((↑(dLen ds (i * 3 + 0 + 0)) : Int) > (200 : Int)) = true]) := by kernel_rfl
theorem px_lp_b (inr : Bool) (n i : Nat) (ds es : List DV) : prjP [4] 10 (Bk (pxV noL noTz) Try.prog (runZ (pxV noL noTz) Try.prog 9) 9 inr 100000 (B6 Try.prog 9 4) (SL 32 [(0, saA n), (5, iV i)]) ([(0, ⟨.sw ds, []⟩)]) 10
 [true, false, true])
 =
  (let a1 := (↑i : Int); Res.ok ((Xt.ret, 32, [(4, Value.bool true)], [(0, Rw.mk (Kd.sw ds) [])], 12, [], []), [], [decide (a1 < (↑n : Int)) = true, (0 : Int) ≤ a1 ∧ a1 < (↑n : Int), ShOb Try.prog 27 false true ds (i * 3 + 0) 10, decide ((↑(dLen ds (i * 3 + 0 + 0)) : Int) > (200 : Int)) = false, (0 : Int) ≤ a1 ∧ a1 < (↑n : Int), ShOb Try.prog 27 false true ds (i * 3 + 1) 11, decide ((↑(dLen ds (i * 3 + 1 + 0)) : Int) > (200 : Int)) = true])) := by kernel_rfl
theorem px_lp_end (inr : Bool) (n i : Nat) (ds es : List DV) : prjP [] 10 (Bk (pxV noL noTz) Try.prog (runZ (pxV noL noTz) Try.prog 9) 9 inr 100000 (B6 Try.prog 9 4) (SL 32 [(0, saA n), (5, iV i)]) ([(0, ⟨.sw ds, []⟩)]) 10 [false]) =
 Res.ok ((Xt.exit 0, 32, [], [(0, Rw.mk (Kd.sw ds) [])], 10, [], []), [], [decide ((↑i : Int) < (↑n : Int)) = false]) := by kernel_rfl
theorem px_so_go (inr : Bool) (n i : Nat) (ds es : List DV) : prjP [0, 3] 10 (Bk (pxV noL noTz) Try.prog (runZ (pxV noL noTz) Try.prog 9) 13 inr 100000 (B6 Try.prog 13 2) (SL 23 [(0, saA n), (3, iV (i + 1))]) ([(0, ⟨.sw ds,
 []⟩)]) 10 [true, false])
 =
  (let a3 := ((i + 1) * 3 + 0 + 0); let a1 := (↑(i + 1) : Int); let a2 := (Int.toNat (a1 - (1 : Int)) * 3 + 0 + 0); Res.ok ((Xt.normal, 23, [(0, Value.slice (some (Addr.mk 0 0 none)) n 18446744073709551616), (3, Value.int IntKind.i64 (↑(i + 1 + 1) : Int))], [(0, Rw.mk (Kd.sw ds) [])], 12, [], []), [], [decide (a1 < (↑n : Int)) = true, rg IntKind.i64 (a1 - (1 : Int)), (0 : Int) ≤ a1 - (1 : Int) ∧ a1 - (1 : Int) < (↑n : Int), ShOb Try.prog 27 false true ds (Int.toNat (a1 - (1 : Int)) * 3 + 0) 10, (0 : Int) ≤ a1 ∧ a1 < (↑n : Int), ShOb Try.prog 27 false true ds ((i + 1) * 3 + 0) 11, BytI (dLen ds a2) (B4 ds a2), BytI (dLen ds a3) (B4 ds a3), decide (cmpI (B1 (B4 ds a2)) (B1 (B4 ds a3)) ≥ (0 : Int)) = false, rg IntKind.i64 (↑(i + 1 + 1) : Int)])) := by kernel_rfl
theorem px_so_end (inr : Bool) (n i : Nat) (ds es : List DV) : prjP [] 10 (Bk (pxV noL noTz) Try.prog (runZ (pxV noL noTz) Try.prog 9) 13 inr 100000 (B6 Try.prog 13 2) (SL 23 [(0, saA n), (3, iV i)]) ([(0, ⟨.sw ds, []⟩)]) 10 [false]) =
 Res.ok ((Xt.exit 0, 23, [], [(0, Rw.mk (Kd.sw ds) [])], 10, [], []), [], [decide ((↑i : Int) < (↑n : Int)) = false]) := by kernel_rfl
theorem px_sp_go (inr : Bool) (n i : Nat) (ds es : List DV) : prjP [0, 1, 5] 10 (Bk (pxV noL noTz) Try.prog (runZ (pxV noL noTz) Try.prog 9) 15 inr 100000 (B6 Try.prog 15 4) (SL 27 [(0, saA n), (1, sbA n), (5, iV i)]) (pxH
 ds es) 10 [true, true, true, true])
 =
  (let a8 := (↑i : Int); let a3 := (Value.int IntKind.u8); let a2 := (i * 3 + 1); let a7 := (B1 (List.take (dLen es a2) (B4 es a2))); let a6 := (B1 (List.take (dLen ds a2) (B4 ds a2))); let a1 := (i * 3 + 0); let a5 := (B1 (List.take (dLen es a1) (B4 es a1))); let a4 := (B1 (List.take (dLen ds a1) (B4 ds a1))); Res.ok ((Xt.normal, 27, [(0, Value.slice (some (Addr.mk 0 0 none)) n 18446744073709551616), (1, Value.slice (some (Addr.mk 2 0 none)) n (B0 + 2)), (5, Value.int IntKind.i64 (↑(i + 1) : Int))], [(0, Rw.mk (Kd.sw ds) []), (2, Rw.mk (Kd.sw es) [])], 16, [], []), [], [decide (a8 < (↑n : Int)) = true, (0 : Int) ≤ a8 ∧ a8 < (↑n : Int), ShOb Try.prog 29 false true ds (i * 3) 10, (0 : Int) ≤ a8 ∧ a8 < (↑n : Int), ShOb Try.prog 29 false true es (i * 3) 12, dLen ds a1 ≤ List.length (B4 ds a1), List.take (dLen ds a1) (B4 ds a1) = List.map a3 a4, dLen es a1
 ≤ List.length (B4 es a1), List.take (dLen es a1) (B4 es a1) = List.map a3 a5, Cp (C5 a4) (C5 a5) = true, dLen ds a2 ≤ List.length (B4 ds a2), List.take (dLen ds a2) (B4 ds a2) = List.map a3 a6, dLen es a2 ≤ List.length (B4 es a2), List.take (dLen es a2) (B4 es a2) = List.map a3 a7, Cp (C5 a6) (C5 a7) = true, (Dx ds (i * 3 + 2) == Dx es (i * 3 + 2)) = true, rg IntKind.i64 (↑(i + 1) :
 Int)])) := by kernel_rfl
theorem px_sp_end (inr : Bool) (n i : Nat) (ds es : List DV) : prjP [] 10 (Bk (pxV noL noTz) Try.prog (runZ (pxV noL noTz) Try.prog 9) 15 inr 100000 (B6 Try.prog 15 4) (SL 27 [(0, saA n), (1, sbA n), (5, iV i)]) (pxH ds es) 10 [false]) =
 Res.ok ((Xt.exit 0, 27, [], [(0, Rw.mk (Kd.sw ds) []), (2, Rw.mk (Kd.sw es) [])], 10, [], []), [], [decide ((↑i : Int) < (↑n : Int)) = false]) := by kernel_rfl
theorem pxX {L : LFun} {T : TFun} : XOkZ (pxV L T) Try.prog := XOneZ.ok Ei rfl
theorem pxT {L : LFun} : TOkZ (pxV L noTz) Try.prog := D4 rfl
theorem pxL {T : TFun} : LOkZ (pxV noL T) Try.prog := C9 rfl
theorem px_lp {inr : Bool} {h0 : Hp} {ds : List DV} {ps : List Pr} {n : Nat} (hP : Prs ds ps) (hn : ps.length = n) (hn9 : n ≤ 1000) : ∀ (r i : Nat), i + r = n →
  LRuns inr Try.prog (B6 Try.prog 9 4) 4 40 h0 32 [(0, saA n), (5, iV i)] [(0, ⟨.sw ds, []⟩)] 10
   (bif (ps.drop i).any big then (.ret, [(4, .bool true)], [(0, ⟨.sw ds, []⟩)]) else (.exit 0, [], [(0, ⟨.sw ds, []⟩)]))
 | 0, i, hr => by
   rw [List.drop_of_length_le (by omega)]
   refine LRuns.exit (Bb pxX pxL (Bh pxX pxT pxL mixed 9) mixed (px_lp_end inr n i ds []) ?_) (by intro e; cases e) rfl (by omega) (by omega) (fun n => n) ?_ ?_ rfl
   ·simp only [Alls, decide_eq_false_iff_not]
    exact ⟨by omega, trivial⟩
   ·trivial
   ·exact ⟨Cg rfl rfl, trivial⟩
 | r + 1, i, hr => by
   have hi : i < ps.length := by omega
   have F := hP.facts (List.getElem?_eq_getElem hi)
   obtain ⟨p, hp⟩ : ∃ p, ps[i] = p := ⟨_, rfl⟩
   rw [hp] at F
   have hd : ps.drop i = p :: ps.drop (i + 1) := by rw [List.drop_eq_getElem_cons hi, hp]
   have f0 := F.l0
   have f1 := F.l1
   have o1 := F.o27 10
   have o2 := F.o27' 11
   rw [hd, List.any_cons]
   by_cases h1 : 200 < p.1.length
   ·have e : big p = true := by simp [big, h1]
    rw [e, Bool.true_or]
    refine LRuns.exit (Bb pxX pxL (Bh pxX pxT pxL mixed 9) mixed (px_lp_a inr n i ds []) ?_) (by intro e; cases e) rfl (by omega) (by omega) (fun n => n) ?_ ?_ rfl
    ·
     simp only [Alls, rg, decide_eq_true_eq, decide_eq_false_iff_not, Nat.add_zero]
     repeat' (with_reducible apply And.intro)
     all_goals first | omega | (with_reducible assumption) | (with_reducible exact trivial) | (with_reducible rfl) | exact rfl
    ·exact ⟨rfl, rfl, trivial⟩
    ·exact ⟨Cg rfl rfl, trivial⟩
   by_cases h2 : 200 < p.2.1.length
   ·have e : big p = true := by simp [big, h2]
    rw [e, Bool.true_or]
    refine LRuns.exit (Bb pxX pxL (Bh pxX pxT pxL mixed 9) mixed (px_lp_b inr n i ds []) ?_) (by intro e; cases e) rfl (by omega) (by omega) (fun n => n) ?_ ?_ rfl
    ·
     simp only [Alls, rg, decide_eq_true_eq, decide_eq_false_iff_not, Nat.add_zero]
     repeat' (with_reducible apply And.intro)
     all_goals first | omega | (with_reducible assumption) | (with_reducible exact trivial) | (with_reducible rfl) | exact rfl
    ·exact ⟨rfl, rfl, trivial⟩
    ·exact ⟨Cg rfl rfl, trivial⟩
   ·have e : big p = false := by simp [big, h1, h2]
    rw [e, Bool.false_or]
    refine LRuns.step (Bb pxX pxL (Bh pxX pxT pxL mixed 9) mixed (px_lp_go inr n i ds []) ?_) rfl (by omega) (by omega) (fun n => n) ?_ ?_ rfl (px_lp hP hn hn9 r (i + 1) (by omega))
    ·
     simp only [Alls, rg, decide_eq_true_eq, decide_eq_false_iff_not, Nat.add_zero]
     repeat' (with_reducible apply And.intro)
     all_goals first | omega | (with_reducible assumption) | (with_reducible exact trivial) | (with_reducible rfl) | exact rfl
    ·exact ⟨rfl, Bj rfl rfl, rfl, rfl, trivial⟩
    ·exact ⟨Cg rfl rfl, trivial⟩
theorem px_so {inr : Bool} {h0 : Hp} {ds : List DV} {n : Nat} (hT : TbOk ds n) : ∀ (r i : Nat), i + r = n →
  LRuns inr Try.prog (B6 Try.prog 13 2) 2 40 h0 23 [(0, saA n), (3, iV (i + 1))] [(0, ⟨.sw ds, []⟩)] 10 (.exit 0, [], [(0, ⟨.sw ds, []⟩)])
 | r, i, hr => by
   by_cases he : i + 1 < n
   ·have hm := hT.m
    have hi : i < (B2 ds).length := by rw [hT.l]; omega
    have hi2 : i + 1 < (B2 ds).length := by rw [hT.l]; omega
    have F := hT.P.facts (List.getElem?_eq_getElem hi)
    have G := hT.P.facts (List.getElem?_eq_getElem hi2)
    obtain ⟨p, hp⟩ : ∃ p, (B2 ds)[i] = p := ⟨_, rfl⟩
    obtain ⟨q, hq⟩ : ∃ q, (B2 ds)[i + 1] = q := ⟨_, rfl⟩
    rw [hp] at F
    rw [hq] at G
    have bp := (hT.O p (by rw [← hp]; exact List.getElem_mem hi)).1
    have bq := (hT.O q (by rw [← hq]; exact List.getElem_mem hi2)).1
    have hlt : ltK p.1 q.1 = true := by
     have hd : (B2 ds).drop i = p :: q :: (B2 ds).drop (i + 1 + 1) := by rw [List.drop_eq_getElem_cons hi, List.drop_eq_getElem_cons hi2, hp, hq]
     have ha : ∀ (n : Nat) (l : List Pr), asc l = true → asc (l.drop n) = true := by
      intro n
      induction n with
      | zero => intro l h; simpa using h
      | succ n ih =>
       intro l h
       cases l with
       | nil => rfl
       | cons x l => exact ih l (Hc h)
     have := ha i _ hT.a
     rw [hd] at this
     exact asc_head this
    rw [ltK_cmp, decide_eq_true_eq] at hlt
    have en : Int.toNat (((i + 1 : Nat) : Int) - 1) = i := by omega
    have f0 := F.l0
    have v0 := F.v0
    have f0' := G.l0
    have v0' := G.v0
    have o1 := F.o27 10
    have o2 := G.o27 11
    have y1 := Ep bp
    have y2 := Ep bq
    have i0 := C1 p.1
    have i1 := C1 q.1
    cases r with
    | zero => omega
    | succ r =>
     refine LRuns.step (Bb pxX pxL (Bh pxX pxT pxL mixed 9) mixed (px_so_go inr n i ds []) ?_) rfl (by omega) (by omega) (fun n => n) ?_ ?_ rfl (px_so hT r (i + 1) (by omega))
     ·
      simp only [Alls, rg, decide_eq_true_eq, decide_eq_false_iff_not, Nat.add_zero, en, f0, v0, f0', v0', i0, i1]
      repeat' (with_reducible apply And.intro)
      all_goals first | omega | (with_reducible assumption) | (with_reducible exact trivial) | (with_reducible rfl) | exact rfl
     ·exact ⟨rfl, Bj rfl rfl, rfl, rfl, trivial⟩
     ·exact ⟨Cg rfl rfl, trivial⟩
   ·refine LRuns.exit (Bb pxX pxL (Bh pxX pxT pxL mixed 9) mixed (px_so_end inr n (i + 1) ds []) ?_) (by intro e; cases e) rfl (by omega) (by omega) (fun n => n) ?_ ?_ rfl
    ·simp only [Alls, decide_eq_false_iff_not]
     exact ⟨by omega, trivial⟩
    ·trivial
    ·exact ⟨Cg rfl rfl, trivial⟩
theorem px_sp {inr : Bool} {h0 : Hp} {ds es : List DV} {ps : List Pr} {n : Nat} (hP : Prs ds ps) (hE : Prs es ps) (hn : ps.length = n) (hn9 : n ≤ 1000) : ∀ (r i : Nat), i + r = n →
  LRuns inr Try.prog (B6 Try.prog 15 4) 4 40 h0 27 [(0, saA n), (1, sbA n), (5, iV i)] (pxH ds es) 10 (.exit 0, [], pxH ds es)
 | 0, i, hr => by
   refine LRuns.exit (Bb pxX pxL (Bh pxX pxT pxL mixed 9) mixed (px_sp_end inr n i ds es) ?_) (by intro e; cases e) rfl (by omega) (by omega) (fun n => n) ?_ ?_ rfl
   ·simp only [Alls, decide_eq_false_iff_not]
    exact ⟨by omega, trivial⟩
   ·trivial
   ·exact ⟨Cg (m := 0) rfl rfl, Cg (m := 2) rfl rfl, trivial⟩
 | r + 1, i, hr => by
   have hi : i < ps.length := by omega
   have G := hP.facts (List.getElem?_eq_getElem hi)
   have F := hE.facts (List.getElem?_eq_getElem hi)
   obtain ⟨p, hp⟩ : ∃ p, ps[i] = p := ⟨_, rfl⟩
   rw [hp] at F G
   have f0 := F.l0
   have f1 := F.l1
   have v0 := F.v0
   have v1 := F.v1
   have f0' := G.l0
   have f1' := G.l1
   have v0' := G.v0
   have v1' := G.v1
   have g1 := F.g
   have g2 := G.g
   have o1 := G.o29 10
   have o2 := F.o29 12
   have hl0 := Bz p.1
   have hl1 := Bz p.2.1
   have t0 : List.take p.1.length (byV p.1) = byV p.1 := List.take_of_length_le (by omega)
   have t1 : List.take p.2.1.length (byV p.2.1) = byV p.2.1 := List.take_of_length_le (by omega)
   have i0 := C1 p.1
   have i1 := C1 p.2.1
   have se : ∀ s : ByteArray, Cp s s = true := fun s => by unfold Cp; exact beq_self_eq_true _
   refine LRuns.step (Bb pxX pxL (Bh pxX pxT pxL mixed 9) mixed (px_sp_go inr n i ds es) ?_) rfl (by omega) (by omega) (fun n => n) ?_ ?_ rfl (px_sp hP hE hn hn9 r (i + 1) (by omega))
   ·
    simp only [Alls, rg, decide_eq_true_eq, decide_eq_false_iff_not, Nat.add_zero, f0, f1, v0, v1, f0', f1', v0', v1', t0, t1, i0, i1, g1, g2, se, beq_self_eq_true]
    repeat' (with_reducible apply And.intro)
    all_goals first | omega | (with_reducible assumption) | (with_reducible exact trivial) | (with_reducible rfl) | exact rfl
   ·exact ⟨rfl, Bj rfl rfl, rfl, Bj rfl rfl, rfl, rfl, trivial⟩
   ·exact ⟨Cg (m := 0) rfl rfl, Cg (m := 2) rfl rfl, trivial⟩
structure LpOk (ds : List DV) (n : Nat) : Prop where
 P : Prs ds (B2 ds)
 l : (B2 ds).length = n
def px1 (live : List (Nat × Value)) (h : Hp) : Option (Nat × List DV) := match live, lk h 0 with | (_, .slice _ n _) :: _, some ⟨.sw ds, _⟩ => some (n, ds) | _, _ => none
def px2 (live : List (Nat × Value)) (h : Hp) : Option (Nat × List DV × List DV) := match live, lk h 0, lk h 2 with | (_, .slice _ n _) :: _, some ⟨.sw ds, _⟩, some ⟨.sw es, _⟩ => some (n, ds, es) | _, _, _ => none
def pxlpSp : I9 := Jw px1 (fun a => ([(0, saA a.1), (5, iV 0)], [(0, ⟨.sw a.2, []⟩)], 4)) (fun a tp => match tp with
 | b :: tp' => some ((bif b then .ret else .exit 0, bif b then [(4, .bool true)] else [], [(0, ⟨.sw a.2, []⟩)], 40, []), tp', [LpOk a.2 a.1 ∧ a.1 ≤ 1000 ∧ (B2 a.2).any big = b])
 | [] => none)
def pxsoSp : I9 := Jw px1 (fun a => ([(0, saA a.1), (3, iV 1)], [(0, ⟨.sw a.2, []⟩)], 2)) (fun a tp => some ((.exit 0, [], [(0, ⟨.sw a.2, []⟩)], 40, []), tp, [TbOk a.2 a.1]))
structure SpOk (ds es : List DV) (n : Nat) : Prop where
 P : Prs ds (B2 ds)
 E : Prs es (B2 ds)
 l : (B2 ds).length = n
 m : n ≤ 1000
def pxspSp : I9 := Jw px2 (fun a => ([(0, saA a.1), (1, sbA a.1), (5, iV 0)], pxH a.2.1 a.2.2, 4)) (fun a tp => some ((.exit 0, [], pxH a.2.1 a.2.2, 40, []), tp, [SpOk a.2.1 a.2.2 a.1]))
def pxLo (P : Program) : LFun := orL (mkL 9 4 32 [0, 5] (B6 P 9 4) pxlpSp) (orL (mkL 13 2 23 [0, 3] (B6 P 13 2) pxsoSp) (mkL 15 4 27 [0, 1, 5] (B6 P 15 4) pxspSp))
theorem px_clL (n : Nat) (ds : List DV) : prjV (runZ (pxV (pxLo Try.prog) noTz) Try.prog 9 9 [saA n, .int .i64 100] [(0, ⟨.sw ds, []⟩)] 4 [true]) =
 Res.ok (Value.bool true, [], [decide ((↑n : Int) > (100 : Int)) = true]) := by kernel_rfl
theorem px_cl1 (n : Nat) (ds : List DV) : prjV (runZ (pxV (pxLo Try.prog) noTz) Try.prog 9 9 [saA n, .int .i64 100] [(0, ⟨.sw ds, []⟩)] 4 [false, true]) =
 (let a2 := (5, Value.int IntKind.i64 (0 : Int)); let a1 := (0, Value.slice (some (Addr.mk 0 0 none)) n 18446744073709551616); Res.ok (Value.bool true, [], [decide ((↑n : Int) > (100 : Int)) = false, B6 Try.prog (9 : FuncId) 4 = B6 Try.prog (9 : FuncId) 4, [a1, a2] = [a1, a2], [(0, Rw.mk (Kd.sw ds) [])] = [(0, Rw.mk (Kd.sw ds) [])], 4 = 4, LpOk ds n ∧ n ≤ 1000 ∧ List.any (B2 ds) big = true])) := by kernel_rfl
theorem px_cl0 (n : Nat) (ds : List DV) : prjV (runZ (pxV (pxLo Try.prog) noTz) Try.prog 9 9 [saA n, .int .i64 100] [(0, ⟨.sw ds, []⟩)] 4 [false, false]) =
 (let a2 := (5, Value.int IntKind.i64 (0 : Int)); let a1 := (0, Value.slice (some (Addr.mk 0 0 none)) n 18446744073709551616); Res.ok (Value.bool false, [], [decide ((↑n : Int) > (100 : Int)) = false, B6 Try.prog (9 : FuncId) 4 = B6 Try.prog (9 : FuncId) 4, [a1, a2] = [a1, a2], [(0, Rw.mk (Kd.sw ds) [])] = [(0, Rw.mk (Kd.sw ds) [])], 4 = 4, LpOk ds n ∧ n ≤ 1000 ∧ List.any (B2 ds) big = false])) := by kernel_rfl
theorem px_cs (n : Nat) (ds : List DV) : prjV (runZ (pxV (pxLo Try.prog) noTz) Try.prog 9 13 [saA n] [(0, ⟨.sw ds, []⟩)] 2 []) =
 (let a2 := (3, Value.int IntKind.i64 (1 : Int)); let a1 := (0, Value.slice (some (Addr.mk 0 0 none)) n 18446744073709551616); Res.ok (Value.bool true, [], [B6 Try.prog (13 : FuncId) 2 = B6 Try.prog (13 : FuncId) 2, [a1, a2] = [a1, a2], [(0, Rw.mk (Kd.sw ds) [])] = [(0, Rw.mk (Kd.sw ds) [])], 2 = 2, TbOk ds n])) := by kernel_rfl
theorem px_cp (n : Nat) (ds es : List DV) : prjV (runZ (pxV (pxLo Try.prog) noTz) Try.prog 9 15 [saA n, sbA n] (pxH ds es) 4 [false]) =
 (let a3 := (5, Value.int IntKind.i64 (0 : Int)); let a2 := (1, Value.slice (some (Addr.mk 2 0 none)) n (B0 + 2)); let a1 := (0, Value.slice (some (Addr.mk 0 0 none)) n 18446744073709551616); Res.ok (Value.bool true, [], [((↑n : Int) != (↑n : Int)) = false, B6 Try.prog (15 : FuncId) 4 = B6 Try.prog (15 : FuncId) 4, [a1, a2, a3] = [a1, a2, a3], pxH ds es = pxH ds es, 4 = 4, SpOk ds es n])) := by kernel_rfl
theorem pxlp_ok : LSOk Try.prog 32 [0, 5] (B6 Try.prog 9 4) pxlpSp := by
 refine Eo fun a tp xt l2 h2 nx2 d tp' ob hs ho inr ts hn hg => ?_
 obtain ⟨n, ds⟩ := a
 simp only at hs hg
 split at hs
 case h_2 => cases hs
 rename_i b _
 simp only [oI, pI] at hs
 obtain ⟨⟨rfl, rfl, rfl, rfl, rfl⟩, rfl, rfl⟩ := hs
 obtain ⟨⟨h, hm, hb⟩, _⟩ := ho
 have key := px_lp (inr := inr) (h0 := [(0, ⟨.sw ds, []⟩)]) h.P h.l hm n 0 (by omega)
 rw [List.drop_zero, hb] at key
 cases b with
 | true =>
  refine LRuns.enter (N := 10) (l2 := [(0, saA n), (5, iV 0)]) hn hg (by omega) (by omega) (fun n => n) ?_ ?_ rfl key ?_
  ·exact ⟨rfl, Bj rfl rfl, rfl, rfl, trivial⟩
  ·exact ⟨Cg rfl rfl, trivial⟩
  ·exact H0 (by omega) (fun m hm hd => rfl) rfl
 | false =>
  refine LRuns.enter (N := 10) (l2 := [(0, saA n), (5, iV 0)]) hn hg (by omega) (by omega) (fun n => n) ?_ ?_ rfl key ?_
  ·exact ⟨rfl, Bj rfl rfl, rfl, rfl, trivial⟩
  ·exact ⟨Cg rfl rfl, trivial⟩
  ·exact H0 (by omega) (fun m hm hd => rfl) rfl
theorem pxso_ok : LSOk Try.prog 23 [0, 3] (B6 Try.prog 13 2) pxsoSp := by
 refine Eo fun a tp xt l2 h2 nx2 d tp' ob hs ho inr ts hn hg => ?_
 obtain ⟨n, ds⟩ := a
 simp only at hs hg
 simp only [oI, pI] at hs
 obtain ⟨⟨rfl, rfl, rfl, rfl, rfl⟩, rfl, rfl⟩ := hs
 obtain ⟨h, _⟩ := ho
 have key := px_so (inr := inr) (h0 := [(0, ⟨.sw ds, []⟩)]) h n 0 (by omega)
 refine LRuns.enter (N := 10) (l2 := [(0, saA n), (3, iV 1)]) hn hg (by omega) (by omega) (fun n => n) ?_ ?_ rfl key ?_
 ·exact ⟨rfl, Bj rfl rfl, rfl, rfl, trivial⟩
 ·exact ⟨Cg rfl rfl, trivial⟩
 ·exact H0 (by omega) (fun m hm hd => rfl) rfl
theorem pxsp_ok : LSOk Try.prog 27 [0, 1, 5] (B6 Try.prog 15 4) pxspSp := by
 refine Eo fun a tp xt l2 h2 nx2 d tp' ob hs ho inr ts hn hg => ?_
 obtain ⟨n, ds, es⟩ := a
 simp only at hs hg
 simp only [oI, pI] at hs
 obtain ⟨⟨rfl, rfl, rfl, rfl, rfl⟩, rfl, rfl⟩ := hs
 obtain ⟨h, _⟩ := ho
 have key := px_sp (inr := inr) (h0 := pxH ds es) h.P h.E h.l h.m n 0 (by omega)
 refine LRuns.enter (N := 10) (l2 := [(0, saA n), (1, sbA n), (5, iV 0)]) hn hg (by omega) (by omega) (fun n => n) ?_ ?_ rfl key ?_
 ·exact ⟨rfl, Bj rfl rfl, rfl, Bj rfl rfl, rfl, rfl, trivial⟩
 ·exact ⟨Cg (m := 0) rfl rfl, Cg (m := 2) rfl rfl, trivial⟩
 ·exact H0 (by omega) (fun m hm hd => rfl) rfl
theorem pxLo_ok : LOne Try.prog (pxLo Try.prog) := orL_ok (Hm pxlp_ok) (orL_ok (Hm pxso_ok) (Hm pxsp_ok))
theorem px_run {f : FuncId} {args : List Value} {h : Hp} {nx : Nat} {tp tp' : Tape} {v : Value} {ob : List Prop} (e : prjV (runZ (pxV (pxLo Try.prog) noTz) Try.prog 9 f args h nx tp) = .ok (v, tp', ob)) (ho : Alls ob) (hf : Nat.blt f yBig = true) : ∃ h' nx' d, Tri Try.prog f args h nx (v, h', nx', d) := Ia pxX pxT (Lz rfl pxLo_ok) e ho hf
def gLp : Hs := fun aL tp => match aL, tp with
 | [.dl ds n, .fl (.int .i64 100)], b :: tp' => some (⟨fun _ => .bool b, []⟩, tp', [LpOk ds n ∧ (decide ((n : Int) > 100) || (B2 ds).any big) = b])
 | _, _ => none
theorem lp_gok : GOkD Try.prog 9 gLp := by
 intro aL tp gr tp' ob hG ho cs hc
 unfold gLp at hG
 split at hG
 case h_2 => cases hG
 rename_i ds n b tp2
 simp only [oI, pI] at hG
 obtain ⟨rfl, rfl, rfl⟩ := hG
 obtain ⟨⟨h1, h2⟩, _⟩ := ho
 have fin : ∀ {v : Bool}, (∃ h' nx' d, Tri Try.prog 9 [saA n, .int .i64 100] [(0, ⟨.sw ds, []⟩)] 4 (.bool v, h', nx', d)) → v = b → ∃ v0 h0' nx0' d0 g, Tri Try.prog 9 (dvV [.dl ds n, .fl (.int .i64 100)] cs 0) (dvH [.dl ds n, .fl (.int .i64 100)] cs 0) (2 * 2) (v0, h0', nx0', d0) ∧ GrD ⟨fun _ => .bool b, []⟩ v0 h0' g := fun ⟨h', nx', d, T⟩ e => by
  subst e
  exact ⟨_, h', nx', d, fun n => n, T, GrD.flat fun σ => rfl⟩
 by_cases h : (n : Int) > 100
 ·exact fin (px_run (px_clL n ds) ⟨decide_eq_true h, trivial⟩ rfl) (by rw [← h2, decide_eq_true h]; rfl)
 ·rw [decide_eq_false h, Bool.false_or] at h2
  cases hb : (B2 ds).any big with
  | true => exact fin (px_run (px_cl1 n ds) ⟨decide_eq_false h, rfl, rfl, rfl, rfl, ⟨h1, by omega, hb⟩, trivial⟩ rfl) (by rw [← h2, hb])
  | false => exact fin (px_run (px_cl0 n ds) ⟨decide_eq_false h, rfl, rfl, rfl, rfl, ⟨h1, by omega, hb⟩, trivial⟩ rfl) (by rw [← h2, hb])
def gSo : Hs := fun aL tp => match aL with
 | [.dl ds n] => some (⟨fun _ => .bool true, []⟩, tp, [TbOk ds n])
 | _ => none
theorem so_gok : GOkD Try.prog 13 gSo := by
 intro aL tp gr tp' ob hG ho cs hc
 unfold gSo at hG
 split at hG
 case h_2 => cases hG
 rename_i ds n
 simp only [oI, pI] at hG
 obtain ⟨rfl, rfl, rfl⟩ := hG
 obtain ⟨h', nx', d, T⟩ := px_run (px_cs n ds) ⟨rfl, rfl, rfl, rfl, ho.1, trivial⟩ rfl
 exact ⟨_, h', nx', d, fun n => n, T, GrD.flat fun σ => rfl⟩
def gSp : Hs := fun aL tp => match aL with
 | [.dl ds n, .dl es m] => some (⟨fun _ => .bool true, []⟩, tp, [SpOk ds es n ∧ m = n])
 | _ => none
theorem sp_gok : GOkD Try.prog 15 gSp := by
 intro aL tp gr tp' ob hG ho cs hc
 unfold gSp at hG
 split at hG
 case h_2 => cases hG
 rename_i ds n es m
 simp only [oI, pI] at hG
 obtain ⟨rfl, rfl, rfl⟩ := hG
 obtain ⟨⟨h1, rfl⟩, _⟩ := ho
 obtain ⟨h', nx', d, T⟩ := px_run (px_cp m ds es) ⟨by simp, rfl, rfl, rfl, rfl, h1, trivial⟩ rfl
 exact ⟨_, h', nx', d, fun n => n, T, GrD.flat fun σ => rfl⟩
def pxTs : TFun := orTz (mkD 9 [.d, .f] gLp) (orTz (mkD 13 [.d] gSo) (mkD 15 [.d, .d] gSp))
theorem pxTs_one : Cv Try.prog pxTs := C4 (J6 lp_gok) (C4 (J6 so_gok) (J6 sp_gok))
theorem renL_fix {σ : Sg} : ∀ {l : List Value}, (∀ x ∈ l, renV σ x = some x) → renL σ l = some l
 | [], _ => rfl
 | x :: l, h => by simp only [renL]; rw [h x (by simp), renL_fix fun y hy => h y (by simp [hy])]
theorem Id {σ : Sg} : ∀ {a b r : List Value}, renL σ (a ++ b) = some r → ∃ p q, renL σ a = some p ∧ renL σ b = some q ∧ r = p ++ q
 | [], b, r, h => ⟨[], r, rfl, h, rfl⟩
 | x :: a, b, r, h => by
   obtain ⟨y, l, h1, h2, rfl⟩ := B9 h
   obtain ⟨p, q, h3, h4, rfl⟩ := Id h2
   exact ⟨y :: p, q, by simp only [renL]; rw [h1, h3], h4, rfl⟩
section
variable {W : World} {lo hi : Nat} {σ σ' : Sg} {h h1 h' : Hp} {w w' : World}
theorem Rl.shutRow (hR : Rl W σ h w) {m sz : Nat} {z cs : List Value} (hl : lk h m = some ⟨.room sz z, cs⟩) (hz : ∀ x ∈ z, noAd x = true) :
  ∃ b c vs rest t, σ.b m = some (b, 0) ∧ σ.c m = some c ∧ renL σ cs = some vs ∧ w.heap[b]? = some (.cells (vs ++ rest).toArray t (0, 0)) ∧ (vs ++ rest).length = c * sz ∧ c ≤ maxLen ∧ (∀ x ∈ rest, x ∈ z) ∧ Rl W σ (setH h m ⟨.shut, cs ++ rest⟩) w := by
 obtain ⟨b, s, vs, hb, hv, h1, h2, t, rest, c, hc, e, h3, h4, h5⟩ := hR.row _ _ hl
 subst h1
 refine ⟨b, c, vs, rest, t, hb, hc, hv, e, h3, h4, h5, ⟨hR.ext, fun n r hn => ?_, fun n k r s p q hn hk hr hs hp hq e => ?_⟩, hR.wf, hR.shr.of (Nat.le_refl _) (fun n r p hn hr hp => ?_) (J0 hR.shr hl fun e => by cases e)⟩
 ·rw [Bo] at hn
  split at hn
  ·rename_i e1
   subst e1
   cases hn
   exact ⟨b, 0, vs ++ rest, hb, C7 hv (renL_fix fun x hx => Cs σ (hz x (h5 x hx))), rfl, h2, t, e⟩
  ·exact hR.row n r hn
 ·have conv : ∀ n r, lk (setH h m ⟨.shut, cs ++ rest⟩) n = some r → r.own → ∃ r', lk h n = some r' ∧ r'.own := fun n r e ho => by
   rw [Bo] at e
   split at e
   ·rename_i e1; subst e1; exact ⟨_, hl, fun e => by cases e⟩
   ·exact ⟨r, e, ho⟩
  obtain ⟨r', a1, a2⟩ := conv n r hn hr
  obtain ⟨s', b1, b2⟩ := conv k s hk hs
  exact hR.inj n k r' s' p q a1 b1 a2 b2 hp hq e
 ·rw [Bo] at hn
  split at hn
  ·rename_i e1; subst e1; exact .inr ⟨_, _, p, hl, (fun e => by cases e), hp, rfl⟩
  ·exact .inr ⟨n, r, p, hn, hr, hp, rfl⟩
theorem Stp.pre (S : Stp W lo hi σ h1 w σ' h' w') (hc : ∀ n r, lk h1 n = some r → r.own → ∃ r', lk h n = some r' ∧ r'.own) (hc2 : ∀ n r, lk h1 n = some r → ∃ r', lk h n = some r') : Stp W lo hi σ h w σ' h' w' :=
 ⟨S.le, S.only, S.rl, S.size, fun b hb hno hnx => S.fr b hb (fun n r p hl ho hp => by
  obtain ⟨r', h2, h3⟩ := hc n r hl ho
  exact hno n r' p h2 h3 hp) fun n r hl => by
  obtain ⟨r', h2⟩ := hc2 n r hl
  exact hnx n r' h2, fun n r p hl ho hp => by
  rcases S.src n r p hl ho hp with h4 | ⟨m, s, q, h5, h6, h7, h8⟩
  ·exact .inl h4
  ·obtain ⟨r', h2, h3⟩ := hc m s h5 h6
   exact .inr ⟨m, r', q, h2, h3, h7, h8⟩, fun n r k hl hk => by
  rcases S.ssrc n r k hl hk with h4 | ⟨m, s, q, h5, h6, h7, h8⟩ | ⟨m, s, h5, h6⟩
  ·exact .inl h4
  ·obtain ⟨r', h2, h3⟩ := hc m s h5 h6
   exact .inr (.inl ⟨m, r', q, h2, h3, h7, h8⟩)
  ·obtain ⟨r', h2⟩ := hc2 m s h5
   exact .inr (.inr ⟨m, r', h2, h6⟩), fun n r k hl hk => by
  rcases S.xsrc n r k hl hk with h4 | ⟨m, s, q, h5, h6, h7, h8⟩ | ⟨m, s, h5, h6⟩
  ·exact .inl h4
  ·obtain ⟨r', h2, h3⟩ := hc m s h5 h6
   exact .inr (.inl ⟨m, r', q, h2, h3, h7, h8⟩)
  ·obtain ⟨r', h2⟩ := hc2 m s h5
   exact .inr (.inr ⟨m, r', h2, h6⟩)⟩
theorem Stp.regrow (S : Stp W lo hi σ h w σ' h' w') {NX : Nat} (h1 : lo ≤ NX) (h2 : hi ≤ NX) (hf : Fresh σ lo (NX + 1)) {k b c sz : Nat} {r : Rw} {z cs vs rest : List Value} {t : TypeId} (hl : lk h' k = some r) (ho : r.own) (hb : σ'.b k = some (b, 0))
  (hv : renL σ' cs = some vs) (hw : w'.heap[b]? = some (.cells (vs ++ rest).toArray t (0, 0))) (hlen : (vs ++ rest).length = c * sz) (hz : ∀ x ∈ rest, x ∈ z) (hc : c ≤ maxLen) :
  Stp W lo (NX + 1) σ h w (σ'.bindc NX (b, 0) c) ((NX, ⟨.room sz z, cs⟩) :: delH h' k) w' := by
 have hN : σ'.b NX = none ∧ σ'.c NX = none := by
  obtain ⟨e1, e2⟩ := S.only NX (.inr h2)
  obtain ⟨e3, e4⟩ := hf NX h1 (by omega)
  exact ⟨e1.trans e3, e2.trans e4⟩
 have hle : σ'.le (σ'.bindc NX (b, 0) c) := Sg.le_bindc hN
 have hne : ∀ n r, lk h' n = some r → n ≠ NX := fun n r hl e => by
  subst e
  obtain ⟨b', s', vs', hb', _⟩ := S.rl.row _ _ hl
  rw [hN.1] at hb'
  cases hb'
 have hbs : ∀ n, n ≠ NX → (σ'.bindc NX (b, 0) c).b n = σ'.b n := fun n hn => by simp only [Sg.bindc]; rw [if_neg hn]
 have hbN : (σ'.bindc NX (b, 0) c).b NX = some (b, 0) := by simp [Sg.bindc]
 have cls : ∀ n s, lk ((NX, ⟨.room sz z, cs⟩) :: delH h' k) n = some s → (n = NX ∧ s = ⟨.room sz z, cs⟩) ∨ (n ≠ NX ∧ n ≠ k ∧ lk h' n = some s) := fun n s e => by
  rw [B3] at e
  split at e
  ·rename_i e1; cases e; exact .inl ⟨e1.symm, rfl⟩
  ·rename_i e1
   rw [Bf] at e
   split at e
   ·cases e
   ·rename_i e2; exact .inr ⟨Ne.symm e1, Ne.symm e2, e⟩
 have hfs : ∀ n, n ≠ NX → (σ'.bindc NX (b, 0) c).f n = σ'.f n := fun n hn => by simp only [Sg.bindc]; rw [if_neg hn]
 have hfN : (σ'.bindc NX (b, 0) c).f NX = some ([], []) := by simp [Sg.bindc]
 have hup : Up σ' h' (σ'.bindc NX (b, 0) c) ((NX, ⟨.room sz z, cs⟩) :: delH h' k) := fun n s hn => by
  rcases cls n s hn with ⟨rfl, rfl⟩ | ⟨e1, e2, e3⟩
  ·unfold sh ex; rw [hfN]; exact ⟨fun _ e => (by cases e), fun k hk => (by cases hk), fun k hk => (by cases hk)⟩
  ·unfold sh ex; rw [hfs n e1]; exact ⟨fun ho => S.rl.shr.1 n s e3 ho, fun k hk => ⟨n, s, e3, hk⟩, fun k hk => ⟨s, e3, hk⟩⟩
 have hsrc : SrcO σ' h' w' (σ'.bindc NX (b, 0) c) ((NX, ⟨.room sz z, cs⟩) :: delH h' k) := fun n s p hn hs hp => by
  rcases cls n s hn with ⟨rfl, rfl⟩ | ⟨e1, e2, e3⟩
  ·exact .inr ⟨k, r, (b, 0), hl, ho, hb, by rw [hbN] at hp; cases hp; rfl⟩
  ·exact .inr ⟨n, s, p, e3, hs, by rw [hbs n e1] at hp; exact hp, rfl⟩
 refine ⟨S.le.trans hle, fun n hn => ?_, ⟨⟨S.rl.ext, fun n s hn => ?_, fun n m r1 r2 p q hn hm hr hs hp hq e => ?_⟩, S.rl.wf, S.rl.shr.of (Nat.le_refl _) hsrc hup⟩, S.size, S.fr, fun n s p hn hs hp => ?_, fun n s kk hn hk => ?_, fun n s kk hn hk => ?_⟩
 ·have e0 : n ≠ NX := by omega
  simp only [Sg.bindc]
  rw [if_neg e0, if_neg e0]
  exact S.only n (by omega)
 ·rcases cls n s hn with ⟨rfl, rfl⟩ | ⟨e1, e2, e3⟩
  ·exact ⟨b, 0, vs, hbN, Cf hle _ _ hv, rfl, (S.rl.ge hl ho hb).1, t, rest, c, by simp [Sg.bindc], hw, hlen, hc, hz⟩
  ·exact S.rl.keepA e3 hle fun _ _ => rfl
 ·rcases cls n r1 hn with ⟨rfl, rfl⟩ | ⟨e1, e2, e3⟩ <;> rcases cls m r2 hm with ⟨e4, e5⟩ | ⟨e4, e5, e6⟩
  ·exact e4.symm
  ·rw [hbN] at hp
   cases hp
   rw [hbs m e4] at hq
   exact absurd (S.rl.inj k m r r2 (b, 0) q hl e6 ho hs hb hq e) (Ne.symm e5)
  ·subst e4
   rw [hbN] at hq
   cases hq
   rw [hbs n e1] at hp
   exact absurd (S.rl.inj n k r1 r p (b, 0) e3 hl hr ho hp hb e) e2
  ·rw [hbs n e1] at hp
   rw [hbs m e4] at hq
   exact S.rl.inj n m r1 r2 p q e3 e6 hr hs hp hq e
 ·rcases cls n s hn with ⟨rfl, rfl⟩ | ⟨e1, e2, e3⟩
  ·rw [hbN] at hp
   cases hp
   exact S.src k r (b, 0) hl ho hb
  ·rw [hbs n e1] at hp
   exact S.src n s p e3 hs hp
 ·obtain ⟨m, s', h3, h4⟩ := (hup n s hn).2.1 kk hk
  exact S.ssrc m s' kk h3 h4
 ·obtain ⟨s', h3, h4⟩ := (hup n s hn).2.2 kk hk
  exact S.xsrc n s' kk h3 h4
end
theorem Ih : maxLen < B0 := by unfold maxLen B0; omega
theorem ins_tri {P : Program} {f : FuncId} {h : Hp} {nx m n sz K : Nat} {z cs cs' vs0 : List Value} (hK : 0 < K) (hl : lk h m = some ⟨.room sz z, cs⟩) (hsz : 0 < sz) (hcs : cs.length = n * sz) (hz : ∀ x ∈ z, noAd x = true)
  (R1 : ∀ k rest, n + 1 + k ≤ maxLen → rest.length = (k + 1) * sz → (∀ x ∈ rest, x ∈ z) → ∃ h1 hi d rest', Tri P f (.slice (some ⟨m, 0, none⟩) n (n + 1 + k) :: vs0) (setH h m ⟨.shut, cs ++ rest⟩) nx (.slice (some ⟨m, 0, none⟩) (n + 1) (n + 1 + k), h1, hi, d) ∧ hi ≤ nx + K ∧ lk h1 m = some ⟨.shut, cs' ++ rest'⟩ ∧ (cs' ++ rest').length = (n + 1 + k) * sz ∧ (∀ x ∈ rest', x ∈ z) ∧ ∀ j ∈ d, j = m)
  (R2 : ∃ h2 hi d, Tri P f (.slice (some ⟨m, 0, none⟩) n n :: vs0) (setH h m ⟨.shut, cs⟩) nx (.slice (some ⟨nx, 0, none⟩) (n + 1) (B0 + nx), h2, hi, d) ∧ hi ≤ nx + K ∧ lk h2 nx = some ⟨.room sz z, cs'⟩ ∧ ∀ j ∈ d, j = m) :
  Tri P f (.slice (some ⟨m, 0, none⟩) n (B0 + m) :: vs0) h nx (.slice (some ⟨nx + K, 0, none⟩) (n + 1) (B0 + (nx + K)), (nx + K, ⟨.room sz z, cs'⟩) :: delH h m, nx + K + 1, [m]) := by
 refine ⟨⟨by simp only; omega, fun j hj hd => ?_, fun hb j hj => ?_⟩, fun hB W σ w args' hR hfr ha => ?_⟩
 ·simp only at hj hd ⊢
  rw [B3, if_neg (by omega), Bf, if_neg (fun e => hd (by simp [e]))]
 ·simp only at hj ⊢
  rw [B3, if_neg (by omega), Bf]
  split
  ·rfl
  ·exact hb j (by omega)
 simp only at hfr ⊢
 have hm : m < nx := by
  rcases Nat.lt_or_ge m nx with h0 | h0
  ·exact h0
  ·rw [hB m h0] at hl; cases hl
 obtain ⟨b, c, vs, rest, t, hb, hc, hv, hw, hlen, hcm, hrz, hR'⟩ := hR.shutRow hl hz
 have hvl := Bn hv
 rw [List.length_append] at hlen
 have hcn : n ≤ c := by
  have : n * sz ≤ c * sz := by omega
  exact Nat.le_of_mul_le_mul_right this hsz
 obtain ⟨x1, l1, e1, e2, rfl⟩ := B9 ha
 have hnn : σ.f m ≠ none := hR.shr.1 m _ hl fun e => by cases e
 have hx1 : x1 = .slice (some ⟨b, 0, none⟩) n c := by
  have h3 : cpR σ (B0 + m) = some c := by unfold cpR; rw [if_neg (by omega), Nat.add_sub_cancel_left]; exact hc
  have := B5 (l := n) (o := 0) hb h3 hnn (.inr hcn)
  rw [this] at e1
  simpa using e1.symm
 have ha' : renL σ (.slice (some ⟨m, 0, none⟩) n c :: vs0) = some (x1 :: l1) := by
  have h3 : cpR σ c = some c := by unfold cpR; rw [if_pos (Nat.lt_of_le_of_lt hcm Ih)]
  have := B5 (l := n) (o := 0) hb h3 hnn (.inr hcn)
  simp only [renL]
  rw [this, e2, hx1]
 have own_ : ∀ (r' : Rw), r'.own → ∀ n r, lk (setH h m r') n = some r → r.own → ∃ r', lk h n = some r' ∧ r'.own := fun r' hr' n r e ho => by
  rw [Bo] at e
  split at e
  ·rename_i e1; subst e1; exact ⟨_, hl, fun e => by cases e⟩
  ·exact ⟨r, e, ho⟩
 have any_ : ∀ (r' : Rw) n r, lk (setH h m r') n = some r → ∃ r', lk h n = some r' := fun r' n r e => by
  rw [Bo] at e
  split at e
  ·rename_i e1; subst e1; exact ⟨_, hl⟩
  ·exact ⟨r, e⟩
 have hBs : ∀ r', Bd (setH h m r') nx := fun r' j hj => by rw [Bo, if_neg (by omega)]; exact hB j hj
 have fin : ∀ {h2 : Hp} {hi : Nat} {d : List Nat} {r' : Rw} {k : Nat}, Tidy (setH h m r') nx h2 hi d → (∀ j ∈ d, j = m) → (k = m ∨ k = nx) → ∀ n r, lk ((nx + K, ⟨.room sz z, cs'⟩) :: delH h m) n = some r → lk ((nx + K, (⟨.room sz z, cs'⟩ : Rw)) :: delH h2 k) n = some r := by
  intro h2 hi d r' k hT hd hk n r hn
  rw [B3] at hn ⊢
  split
  ·rename_i e; rw [if_pos e] at hn; exact hn
  ·rename_i e
   rw [if_neg e, Bf] at hn
   split at hn
   ·cases hn
   ·rename_i e3
    have hnx : n < nx := by
     rcases Nat.lt_or_ge n nx with h0 | h0
     ·exact h0
     ·rw [hB n h0] at hn; cases hn
    rw [Bf, if_neg (by rcases hk with rfl | rfl <;> omega), hT.2.1 n hnx (fun e => e3 (hd n e).symm), Bo, if_neg e3]
    exact hn
 rcases Nat.eq_or_lt_of_le hcn with rfl | hlt
 ·obtain ⟨h2, hi, d, hT, hhi, hl2, hd⟩ := R2
  have hr0 : rest = [] := List.eq_nil_of_length_eq_zero (by omega)
  subst hr0
  rw [List.append_nil] at hR'
  refine (hT.2 (hBs _) W σ w _ hR' (hfr.low (by simp only; omega)) ha').mono ?_
  rintro e w' ⟨σ', v', S, hv', rfl⟩
  obtain ⟨b2, c2, vs2, rest2, t2, q1, q2, q3, q4, q5, q6, q7, _⟩ := S.rl.shutRow hl2 hz
  simp only at S hv' hhi
  have S2 := ((S.pre (own_ _ (fun e => by cases e)) (any_ _)).regrow (NX := nx + K) (by omega) hhi hfr hl2 (fun e => by cases e) q1 q3 q4 q5 q7 q6).less (fin hT.1 hd (.inr rfl))
  refine ⟨_, v', S2, ?_, rfl⟩
  have h3 : cpR σ' (B0 + nx) = some c2 := by unfold cpR; rw [if_neg (by omega), Nat.add_sub_cancel_left]; exact q2
  have hle : n + 1 ≤ c2 := by
   rcases B7 hv' with ⟨p, c', _, hc', rfl, _⟩ | ⟨_, h0, _⟩
   ·rw [h3] at hc'; cases hc'; exact Bx S.rl.wf hv'
   ·omega
  rw [B5 (o := 0) q1 h3 (S.rl.shr.1 _ _ hl2 fun e => by cases e) (.inr hle)] at hv'
  have h4 : cpR (σ'.bindc (nx + K) (b2, 0) c2) (B0 + (nx + K)) = some c2 := by unfold cpR; rw [if_neg (by omega), Nat.add_sub_cancel_left]; simp [Sg.bindc]
  rw [B5 (o := 0) (p := (b2, 0)) (by simp [Sg.bindc]) h4 (by simp [Sg.bindc]) (.inr hle)]
  exact hv'
 ·obtain ⟨k, rfl⟩ : ∃ k, c = n + 1 + k := ⟨c - (n + 1), by omega⟩
  have hrl : rest.length = (k + 1) * sz := by
   have h1 : (n + 1 + k) * sz = n * sz + (k + 1) * sz := by rw [← Nat.add_mul]; congr 1; omega
   omega
  obtain ⟨h1, hi, d, rest', hT, hhi, hl1, hlen1, hz1, hd⟩ := R1 k rest hcm hrl hrz
  refine (hT.2 (hBs _) W σ w _ hR' (hfr.low (by simp only; omega)) ha').mono ?_
  rintro e w' ⟨σ', v', S, hv', rfl⟩
  simp only at S hv' hhi
  obtain ⟨b2, s2, vs2, q1, q2, q3, q4, t2, q5⟩ := S.rl.row _ _ hl1
  subst q3
  obtain ⟨va, vb, q6, q7, rfl⟩ := Id q2
  rw [renL_fix fun x hx => Cs σ' (hz x (hz1 x hx))] at q7
  cases q7
  have hla := Bn q6
  have S2 := ((S.pre (own_ _ (fun e => by cases e)) (any_ _)).regrow (NX := nx + K) (c := n + 1 + k) (sz := sz) (by omega) hhi hfr hl1 (fun e => by cases e) q1 q6 q5 (by rw [List.length_append, hla, ← List.length_append]; exact hlen1) hz1 hcm).less (fin hT.1 hd (.inl rfl))
  refine ⟨_, v', S2, ?_, rfl⟩
  have h3 : cpR σ' (n + 1 + k) = some (n + 1 + k) := by unfold cpR; rw [if_pos (Nat.lt_of_le_of_lt hcm Ih)]
  rw [B5 (o := 0) q1 h3 (S.rl.shr.1 _ _ hl1 fun e => by cases e) (.inr (by omega))] at hv'
  have h4 : cpR (σ'.bindc (nx + K) (b2, 0) (n + 1 + k)) (B0 + (nx + K)) = some (n + 1 + k) := by unfold cpR; rw [if_neg (by omega), Nat.add_sub_cancel_left]; simp [Sg.bindc]
  rw [B5 (o := 0) (p := (b2, 0)) (by simp [Sg.bindc]) h4 (by simp [Sg.bindc]) (.inr (by omega))]
  exact hv'
end Go.Proofs.Ytojakfnljopjbaa
