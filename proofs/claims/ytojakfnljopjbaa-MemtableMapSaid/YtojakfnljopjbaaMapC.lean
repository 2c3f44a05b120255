/-
  Chapter 12: the statement MemtableMap: the rounds of its second loop.
-/
import Derived.Test.YtojakfnljopjbaaMapB
namespace Go.Proofs.Ytojakfnljopjbaa
set_option linter.unusedSimpArgs false
set_option linter.unusedVariables false
set_option linter.unusedSectionVars false
open Go Go.RowKit
def mqTab : FuncId → List Nat := fun f => bif Nat.beq f 8 then [62] else bif Nat.beq f 31 then [9] else []
def mqSy : FuncId → Nat → Option Nat := orSy (lsSy 8 [(67, 0), (69, 32), (74, 0), (75, 32), (80, 0), (82, 32), (64, 0)]) (lsSy 31 [(6, 0), (8, 0), (9, 0)])
def mqV (L : LFun) (T : TFun) : Tv := ⟨T, cmpY, L, mqTab, mqSy, fun _ => [], fun _ => 0⟩
def mqS (m1 c1 i x : Nat) (b : Bool) : List (Nat × Value) := [(1, .slice (some ⟨1, 0, none⟩) m1 c1), (5, .bool true), (6, .pointer (some ⟨2, 0, none⟩)), (7, laV x), (11, .pointer (some ⟨200, 0, none⟩)), (12, .bool b), (13, iV i)]
def mqN (k : Nat) (es ls ds : List DV) (k1 : List Value) : Hp := (200, ⟨.shut, zPr⟩) :: mpW k es ls ds k1
def mqL (q : Pr) : List Value := [.slice (some ⟨201, 0, none⟩) q.1.length (capBig + 201), .slice (some ⟨202, 0, none⟩) q.2.1.length (capBig + 202), .bool q.2.2]
def mqY (q : Pr) (k : Nat) (es ls ds : List DV) (k1 : List Value) : Hp := (201, ⟨.old, byV q.1⟩) :: (202, ⟨.old, byV q.2.1⟩) :: (200, ⟨.shut, mqL q⟩) :: mpW k es ls ds k1
theorem mq_nn (inr : Bool) (m1 c1 i k x : Nat) (es ls ds : List DV) (k1 : List Value) : prjP [1, 5, 6, 7, 11, 12, 13] 300 (codeZ (mqV noL getT) Try.prog (runZ (mqV noL getT) Try.prog 12) 8 inr 100000 (bodyIn Try.prog 8 19) (SL 128 (mqS m1 c1 i x false)) (mqN k es ls ds k1) 300 [true, false, true]) =
  Res.ok ((Xt.normal, 128, [(1, Value.slice (some (Addr.mk 1 0 none)) m1 c1), (5, Value.bool true), (6, Value.pointer (some (Addr.mk 2 0 none))), (7, Value.slice (some (Addr.mk 81 0 none)) x (capBig + 81)), (11,
 Value.pointer (some (Addr.mk 200 0 none))), (12, Value.bool false), (13, Value.int IntKind.i64 (↑(i + 1) : Int))], [(200, Rw.mk Kd.shut [Value.slice none 0 0, Value.slice none 0 0, Value.bool false]), (80, Rw.mk (Kd.dp 3
 [Value.slice none 0 0, Value.slice none 0 0, Value.bool false] es) []), (81, Rw.mk (Kd.dp 3 [Value.slice none 0 0, Value.slice none 0 0, Value.bool false] ls) []), (2, Rw.mk Kd.shut [Value.bool true, Value.slice (some
 (Addr.mk 80 0 none)) k (capBig + 80)]), (0, Rw.mk (Kd.sd ds) []), (1, Rw.mk Kd.old k1)], 305, [304], []), [], [decide ((↑i : Int) < (↑x : Int)) = true, (0 : Int) ≤ (↑i : Int) ∧ (↑i : Int) < (↑x : Int), ShOb Try.prog 27
 false true ls (i * 3 + 0) 300, dLen ls (i * 3 + 0 + 0) ≤ List.length (dVals ls (i * 3 + 0 + 0)), List.take (dLen ls (i * 3 + 0 + 0)) (dVals ls (i * 3 + 0 + 0)) = List.map (Value.int IntKind.u8) (intsOf (List.take (dLen ls
 (i * 3 + 0 + 0)) (dVals ls (i * 3 + 0 + 0)))), m1 ≤ List.length k1, List.take m1 k1 = List.map (Value.int IntKind.u8) (intsOf (List.take m1 k1)), strEq (strOfI (intsOf (List.take (dLen ls (i * 3 + 0 + 0)) (dVals ls (i * 3
 + 0 + 0))))) (strOfI (intsOf (List.take m1 k1))) = false, (0 : Int) ≤ (↑i : Int) ∧ (↑i : Int) < (↑x : Int), ShOb Try.prog 27 false true ls (i * 3 + 0) 301, capBig + 80 = capBig + 80 ∧ List.length es = k * 3 ∧ 0 < 3, (∀ (τ
 : Sg), renL τ (dVals ls (i * 3 + 0 + 0)) = some (dVals ls (i * 3 + 0 + 0))) ∧ (dLen ls (ixO 0 (Int.toNat (↑i : Int)) 3 + 0 + 0) = 0 → dVals ls (i * 3 + 0 + 0) = []), TbK es k ∧ BytI (dLen ls (i * 3 + 0 + 0)) (dVals ls (i
 * 3 + 0 + 0)) ∧ hitP (prsOf es) (intsOf (dVals ls (i * 3 + 0 + 0))) = true, rg IntKind.i64 (↑(i + 1) : Int)]) := by kernel_rfl
theorem mq_ny (inr : Bool) (m1 c1 i k x : Nat) (es ls ds : List DV) (k1 : List Value) : prjZ [1, 5, 6, 7, 11, 12, 13] (codeZ (mqV noL getT) Try.prog (runZ (mqV noL getT) Try.prog 12) 8 inr 100000 (bodyIn Try.prog 8 19) (SL 128 (mqS m1 c1 i x false)) (mqN k es ls ds k1) 300 [true, true, true]) =
  Res.ok ((Xt.normal, 128, [(1, Value.slice (some (Addr.mk 1 0 none)) m1 c1), (5, Value.bool true), (6, Value.pointer (some (Addr.mk 2 0 none))), (7, Value.slice (some (Addr.mk 81 0 none)) x (capBig + 81)), (11,
 Value.pointer (some (Addr.mk 200 0 none))), (12, Value.bool true), (13, Value.int IntKind.i64 (↑(i + 1) : Int))], [(306, Rw.mk Kd.shut [Value.slice (some (Addr.mk 304 0 none)) (List.length (Prod.fst (atP (prsOf es)
 (intsOf (dVals ls (i * 3 + 0 + 0)))))) (capBig + 304), Value.slice (some (Addr.mk 305 0 none)) (List.length (Prod.fst (Prod.snd (atP (prsOf es) (intsOf (dVals ls (i * 3 + 0 + 0))))))) (capBig + 305), Value.bool (Prod.snd
 (Prod.snd (atP (prsOf es) (intsOf (dVals ls (i * 3 + 0 + 0))))))]), (305, Rw.mk Kd.of (byV (Prod.fst (Prod.snd (atP (prsOf es) (intsOf (dVals ls (i * 3 + 0 + 0)))))))), (304, Rw.mk Kd.of (byV (Prod.fst (atP (prsOf es)
 (intsOf (dVals ls (i * 3 + 0 + 0))))))), (303, Rw.mk Kd.old (dVals ls (i * 3 + 0 + 0))), (302, Rw.mk Kd.old (dVals ls (i * 3 + 1))), (301, Rw.mk Kd.old (dVals ls (i * 3 + 0))), (300, Rw.mk Kd.old (dVals ls (i * 3 + 0 +
 0))), (200, Rw.mk Kd.shut [Value.slice (some (Addr.mk 301 0 none)) (dLen ls (i * 3 + 0)) (capBig + 301), Value.slice (some (Addr.mk 302 0 none)) (dLen ls (i * 3 + 1)) (capBig + 302), Value.bool (dBool ls (i * 3 + 2))]),
 (80, Rw.mk (Kd.dp 3 [Value.slice none 0 0, Value.slice none 0 0, Value.bool false] es) []), (81, Rw.mk (Kd.dp 3 [Value.slice none 0 0, Value.slice none 0 0, Value.bool false] ls) []), (2, Rw.mk Kd.shut [Value.bool true,
 Value.slice (some (Addr.mk 80 0 none)) k (capBig + 80)]), (0, Rw.mk (Kd.sd ds) []), (1, Rw.mk Kd.old k1)], 307, [306, 200], []), [], [decide ((↑i : Int) < (↑x : Int)) = true, (0 : Int) ≤ (↑i : Int) ∧ (↑i : Int) < (↑x :
 Int), ShOb Try.prog 27 false true ls (i * 3 + 0) 300, dLen ls (i * 3 + 0 + 0) ≤ List.length (dVals ls (i * 3 + 0 + 0)), List.take (dLen ls (i * 3 + 0 + 0)) (dVals ls (i * 3 + 0 + 0)) = List.map (Value.int IntKind.u8)
 (intsOf (List.take (dLen ls (i * 3 + 0 + 0)) (dVals ls (i * 3 + 0 + 0)))), m1 ≤ List.length k1, List.take m1 k1 = List.map (Value.int IntKind.u8) (intsOf (List.take m1 k1)), strEq (strOfI (intsOf (List.take (dLen ls (i *
 3 + 0 + 0)) (dVals ls (i * 3 + 0 + 0))))) (strOfI (intsOf (List.take m1 k1))) = true, (0 : Int) ≤ (↑i : Int) ∧ (↑i : Int) < (↑x : Int), ShOb Try.prog 29 false true ls (i * 3) 301, (0 : Int) ≤ (↑i : Int) ∧ (↑i : Int) < (↑x
 : Int), ShOb Try.prog 27 false true ls (i * 3 + 0) 303, capBig + 80 = capBig + 80 ∧ List.length es = k * 3 ∧ 0 < 3, (∀ (τ : Sg), renL τ (dVals ls (i * 3 + 0 + 0)) = some (dVals ls (i * 3 + 0 + 0))) ∧ (dLen ls (ixO 0
 (Int.toNat (↑i : Int)) 3 + 0 + 0) = 0 → dVals ls (i * 3 + 0 + 0) = []), TbK es k ∧ BytI (dLen ls (i * 3 + 0 + 0)) (dVals ls (i * 3 + 0 + 0)) ∧ hitP (prsOf es) (intsOf (dVals ls (i * 3 + 0 + 0))) = true, rg IntKind.i64
 (↑(i + 1) : Int)]) := by kernel_rfl
theorem mq_nend (inr : Bool) (m1 c1 i k x : Nat) (es ls ds : List DV) (k1 : List Value) : prjP [1, 5, 6, 7, 11, 12] 300 (codeZ (mqV noL getT) Try.prog (runZ (mqV noL getT) Try.prog 12) 8 inr 100000 (bodyIn Try.prog 8 19) (SL 128 (mqS m1 c1 i x false)) (mqN k es ls ds k1) 300 [false]) =
  Res.ok ((Xt.exit 2, 128, [(1, Value.slice (some (Addr.mk 1 0 none)) m1 c1), (5, Value.bool true), (6, Value.pointer (some (Addr.mk 2 0 none))), (7, Value.slice (some (Addr.mk 81 0 none)) x (capBig + 81)), (11,
 Value.pointer (some (Addr.mk 200 0 none))), (12, Value.bool false)], [(200, Rw.mk Kd.shut [Value.slice none 0 0, Value.slice none 0 0, Value.bool false]), (80, Rw.mk (Kd.dp 3 [Value.slice none 0 0, Value.slice none 0 0,
 Value.bool false] es) []), (81, Rw.mk (Kd.dp 3 [Value.slice none 0 0, Value.slice none 0 0, Value.bool false] ls) []), (2, Rw.mk Kd.shut [Value.bool true, Value.slice (some (Addr.mk 80 0 none)) k (capBig + 80)]), (0,
 Rw.mk (Kd.sd ds) []), (1, Rw.mk Kd.old k1)], 300, [], []), [], [decide ((↑i : Int) < (↑x : Int)) = false]) := by kernel_rfl
theorem mq_yn (inr : Bool) (m1 c1 i k x : Nat) (q : Pr) (es ls ds : List DV) (k1 : List Value) : prjP [1, 5, 6, 7, 11, 12, 13] 300 (codeZ (mqV noL getT) Try.prog (runZ (mqV noL getT) Try.prog 12) 8 inr 100000 (bodyIn Try.prog 8 19) (SL 128 (mqS m1 c1 i x true)) (mqY q k es ls ds k1) 300 [true, false, true]) =
  Res.ok ((Xt.normal, 128, [(1, Value.slice (some (Addr.mk 1 0 none)) m1 c1), (5, Value.bool true), (6, Value.pointer (some (Addr.mk 2 0 none))), (7, Value.slice (some (Addr.mk 81 0 none)) x (capBig + 81)), (11,
 Value.pointer (some (Addr.mk 200 0 none))), (12, Value.bool true), (13, Value.int IntKind.i64 (↑(i + 1) : Int))], [(201, Rw.mk Kd.old (byV (Prod.fst q))), (202, Rw.mk Kd.old (byV (Prod.fst (Prod.snd q)))), (200, Rw.mk
 Kd.shut [Value.slice (some (Addr.mk 201 0 none)) (List.length (Prod.fst q)) (capBig + 201), Value.slice (some (Addr.mk 202 0 none)) (List.length (Prod.fst (Prod.snd q))) (capBig + 202), Value.bool (Prod.snd (Prod.snd
 q))]), (80, Rw.mk (Kd.dp 3 [Value.slice none 0 0, Value.slice none 0 0, Value.bool false] es) []), (81, Rw.mk (Kd.dp 3 [Value.slice none 0 0, Value.slice none 0 0, Value.bool false] ls) []), (2, Rw.mk Kd.shut [Value.bool
 true, Value.slice (some (Addr.mk 80 0 none)) k (capBig + 80)]), (0, Rw.mk (Kd.sd ds) []), (1, Rw.mk Kd.old k1)], 305, [304], []), [], [decide ((↑i : Int) < (↑x : Int)) = true, (0 : Int) ≤ (↑i : Int) ∧ (↑i : Int) < (↑x :
 Int), ShOb Try.prog 27 false true ls (i * 3 + 0) 300, dLen ls (i * 3 + 0 + 0) ≤ List.length (dVals ls (i * 3 + 0 + 0)), List.take (dLen ls (i * 3 + 0 + 0)) (dVals ls (i * 3 + 0 + 0)) = List.map (Value.int IntKind.u8)
 (intsOf (List.take (dLen ls (i * 3 + 0 + 0)) (dVals ls (i * 3 + 0 + 0)))), m1 ≤ List.length k1, List.take m1 k1 = List.map (Value.int IntKind.u8) (intsOf (List.take m1 k1)), strEq (strOfI (intsOf (List.take (dLen ls (i *
 3 + 0 + 0)) (dVals ls (i * 3 + 0 + 0))))) (strOfI (intsOf (List.take m1 k1))) = false, (0 : Int) ≤ (↑i : Int) ∧ (↑i : Int) < (↑x : Int), ShOb Try.prog 27 false true ls (i * 3 + 0) 301, capBig + 80 = capBig + 80 ∧
 List.length es = k * 3 ∧ 0 < 3, (∀ (τ : Sg), renL τ (dVals ls (i * 3 + 0 + 0)) = some (dVals ls (i * 3 + 0 + 0))) ∧ (dLen ls (ixO 0 (Int.toNat (↑i : Int)) 3 + 0 + 0) = 0 → dVals ls (i * 3 + 0 + 0) = []), TbK es k ∧ BytI
 (dLen ls (i * 3 + 0 + 0)) (dVals ls (i * 3 + 0 + 0)) ∧ hitP (prsOf es) (intsOf (dVals ls (i * 3 + 0 + 0))) = true, rg IntKind.i64 (↑(i + 1) : Int)]) := by kernel_rfl
theorem mq_yy (inr : Bool) (m1 c1 i k x : Nat) (q : Pr) (es ls ds : List DV) (k1 : List Value) : prjZ [1, 5, 6, 7, 11, 12, 13] (codeZ (mqV noL getT) Try.prog (runZ (mqV noL getT) Try.prog 12) 8 inr 100000 (bodyIn Try.prog 8 19) (SL 128 (mqS m1 c1 i x true)) (mqY q k es ls ds k1) 300 [true, true, true]) =
  Res.ok ((Xt.normal, 128, [(1, Value.slice (some (Addr.mk 1 0 none)) m1 c1), (5, Value.bool true), (6, Value.pointer (some (Addr.mk 2 0 none))), (7, Value.slice (some (Addr.mk 81 0 none)) x (capBig + 81)), (11,
 Value.pointer (some (Addr.mk 200 0 none))), (12, Value.bool true), (13, Value.int IntKind.i64 (↑(i + 1) : Int))], [(306, Rw.mk Kd.shut [Value.slice (some (Addr.mk 304 0 none)) (List.length (Prod.fst (atP (prsOf es)
 (intsOf (dVals ls (i * 3 + 0 + 0)))))) (capBig + 304), Value.slice (some (Addr.mk 305 0 none)) (List.length (Prod.fst (Prod.snd (atP (prsOf es) (intsOf (dVals ls (i * 3 + 0 + 0))))))) (capBig + 305), Value.bool (Prod.snd
 (Prod.snd (atP (prsOf es) (intsOf (dVals ls (i * 3 + 0 + 0))))))]), (305, Rw.mk Kd.of (byV (Prod.fst (Prod.snd (atP (prsOf es) (intsOf (dVals ls (i * 3 + 0 + 0)))))))), (304, Rw.mk Kd.of (byV (Prod.fst (atP (prsOf es)
 (intsOf (dVals ls (i * 3 + 0 + 0))))))), (303, Rw.mk Kd.old (dVals ls (i * 3 + 0 + 0))), (302, Rw.mk Kd.old (dVals ls (i * 3 + 1))), (301, Rw.mk Kd.old (dVals ls (i * 3 + 0))), (300, Rw.mk Kd.old (dVals ls (i * 3 + 0 +
 0))), (201, Rw.mk Kd.old (byV (Prod.fst q))), (202, Rw.mk Kd.old (byV (Prod.fst (Prod.snd q)))), (200, Rw.mk Kd.shut [Value.slice (some (Addr.mk 301 0 none)) (dLen ls (i * 3 + 0)) (capBig + 301), Value.slice (some
 (Addr.mk 302 0 none)) (dLen ls (i * 3 + 1)) (capBig + 302), Value.bool (dBool ls (i * 3 + 2))]), (80, Rw.mk (Kd.dp 3 [Value.slice none 0 0, Value.slice none 0 0, Value.bool false] es) []), (81, Rw.mk (Kd.dp 3 [Value.slice
 none 0 0, Value.slice none 0 0, Value.bool false] ls) []), (2, Rw.mk Kd.shut [Value.bool true, Value.slice (some (Addr.mk 80 0 none)) k (capBig + 80)]), (0, Rw.mk (Kd.sd ds) []), (1, Rw.mk Kd.old k1)], 307, [306, 200],
 []), [], [decide ((↑i : Int) < (↑x : Int)) = true, (0 : Int) ≤ (↑i : Int) ∧ (↑i : Int) < (↑x : Int), ShOb Try.prog 27 false true ls (i * 3 + 0) 300, dLen ls (i * 3 + 0 + 0) ≤ List.length (dVals ls (i * 3 + 0 + 0)),
 List.take (dLen ls (i * 3 + 0 + 0)) (dVals ls (i * 3 + 0 + 0)) = List.map (Value.int IntKind.u8) (intsOf (List.take (dLen ls (i * 3 + 0 + 0)) (dVals ls (i * 3 + 0 + 0)))), m1 ≤ List.length k1, List.take m1 k1 = List.map
 (Value.int IntKind.u8) (intsOf (List.take m1 k1)), strEq (strOfI (intsOf (List.take (dLen ls (i * 3 + 0 + 0)) (dVals ls (i * 3 + 0 + 0))))) (strOfI (intsOf (List.take m1 k1))) = true, (0 : Int) ≤ (↑i : Int) ∧ (↑i : Int) <
 (↑x : Int), ShOb Try.prog 29 false true ls (i * 3) 301, (0 : Int) ≤ (↑i : Int) ∧ (↑i : Int) < (↑x : Int), ShOb Try.prog 27 false true ls (i * 3 + 0) 303, capBig + 80 = capBig + 80 ∧ List.length es = k * 3 ∧ 0 < 3, (∀ (τ :
 Sg), renL τ (dVals ls (i * 3 + 0 + 0)) = some (dVals ls (i * 3 + 0 + 0))) ∧ (dLen ls (ixO 0 (Int.toNat (↑i : Int)) 3 + 0 + 0) = 0 → dVals ls (i * 3 + 0 + 0) = []), TbK es k ∧ BytI (dLen ls (i * 3 + 0 + 0)) (dVals ls (i *
 3 + 0 + 0)) ∧ hitP (prsOf es) (intsOf (dVals ls (i * 3 + 0 + 0))) = true, rg IntKind.i64 (↑(i + 1) : Int)]) := by kernel_rfl
theorem mq_yend (inr : Bool) (m1 c1 i k x : Nat) (q : Pr) (es ls ds : List DV) (k1 : List Value) : prjP [1, 5, 6, 7, 11, 12] 300 (codeZ (mqV noL getT) Try.prog (runZ (mqV noL getT) Try.prog 12) 8 inr 100000 (bodyIn Try.prog 8 19) (SL 128 (mqS m1 c1 i x true)) (mqY q k es ls ds k1) 300 [false]) =
  Res.ok ((Xt.exit 2, 128, [(1, Value.slice (some (Addr.mk 1 0 none)) m1 c1), (5, Value.bool true), (6, Value.pointer (some (Addr.mk 2 0 none))), (7, Value.slice (some (Addr.mk 81 0 none)) x (capBig + 81)), (11,
 Value.pointer (some (Addr.mk 200 0 none))), (12, Value.bool true)], [(201, Rw.mk Kd.old (byV (Prod.fst q))), (202, Rw.mk Kd.old (byV (Prod.fst (Prod.snd q)))), (200, Rw.mk Kd.shut [Value.slice (some (Addr.mk 201 0 none))
 (List.length (Prod.fst q)) (capBig + 201), Value.slice (some (Addr.mk 202 0 none)) (List.length (Prod.fst (Prod.snd q))) (capBig + 202), Value.bool (Prod.snd (Prod.snd q))]), (80, Rw.mk (Kd.dp 3 [Value.slice none 0 0,
 Value.slice none 0 0, Value.bool false] es) []), (81, Rw.mk (Kd.dp 3 [Value.slice none 0 0, Value.slice none 0 0, Value.bool false] ls) []), (2, Rw.mk Kd.shut [Value.bool true, Value.slice (some (Addr.mk 80 0 none)) k
 (capBig + 80)]), (0, Rw.mk (Kd.sd ds) []), (1, Rw.mk Kd.old k1)], 300, [], []), [], [decide ((↑i : Int) < (↑x : Int)) = false]) := by kernel_rfl
end Go.Proofs.Ytojakfnljopjbaa
