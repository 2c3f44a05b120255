/-
  Chapter 12: the statement MemtableScript: the rounds of its loop (runs).
-/
import Derived.Test.YtojakfnljopjbaaGrBE
import Derived.Test.YtojakfnljopjbaaGrAS
namespace Go.Proofs.Ytojakfnljopjbaa
set_option linter.unusedSimpArgs false
set_option linter.unusedVariables false
set_option linter.unusedSectionVars false
open Go Go.RowKit
def scTab : FuncId → List Nat := fun f => bif Nat.beq f 6 then [15, 19, 32, 41, 49, 95] else []
def scSy : FuncId → Nat → Option Nat := lsSy 6 [(19, 0), (32, 0), (34, 0), (37, 0), (39, 32), (41, 0), (45, 0), (47, 32), (49, 0), (61, 0), (62, 30), (95, 0)]
noncomputable def scT : TFun := orTz actT (orTz allT (orTz pxTs overT4))
noncomputable def scV (L : LFun) (T : TFun) : Tv := ⟨T, cmpY, L, scTab, scSy, fun _ => [], fun _ => 0⟩
def scS (n c i : Nat) : List (Nat × Value) := [(0, .slice (some ⟨0, 0, none⟩) n c), (3, .pointer (some ⟨80, 0, none⟩)), (4, iV i)]
def scP : Rw := ⟨.shut, [.pointer (some ⟨81, 0, none⟩), .pointer (some ⟨82, 0, none⟩)]⟩
def scN (ax : List DV) : Hp := [(80, scP), (81, ⟨.shut, [.bool true, .slice none 0 0]⟩), (82, ⟨.shut, [.slice none 0 0]⟩), (0, ⟨.sd ax, []⟩)]
def scE (ax : List DV) : Hp := [(80, scP), (81, ⟨.shut, [.bool true, .slice none 0 0]⟩), (82, ⟨.shut, [.slice (some ⟨84, 0, none⟩) 0 (B0 + 84)]⟩), (84, ⟨.dp 3 zPr [], []⟩), (0, ⟨.sd ax, []⟩)]
def scR (ax : List DV) (k : Nat) (es rs : List DV) : Hp := [(80, scP), (81, ⟨.shut, [.bool true, .slice (some ⟨83, 0, none⟩) k (B0 + 83)]⟩), (82, ⟨.shut, [.slice (some ⟨84, 0, none⟩) k (B0 + 84)]⟩), (83, ⟨.dp 3 zPr es, []⟩), (84, ⟨.dp 3 zPr rs, []⟩), (0, ⟨.sd ax, []⟩)]
theorem sc_Nx (inr : Bool) (n c i k : Nat) (ax es rs : List DV) : prjP [] 100 (Bk (scV noL scT) Try.prog (runZ (scV noL scT) Try.prog 14) 6 inr 100000 (B6 Try.prog 6 5) (SL 98 (scS n c i)) (scN ax) 100 [false]) =
 Res.ok ((Xt.exit 0, 98, [], [(80, Rw.mk Kd.shut [Value.pointer (some (Addr.mk 81 0 none)), Value.pointer (some (Addr.mk 82 0 none))]), (81, Rw.mk Kd.shut [Value.bool true, Value.slice none 0 0]), (82, Rw.mk Kd.shut [Value.slice none 0 0]), (0, Rw.mk (Kd.sd ax) [])], 100, [], []), [], [decide ((↑i : Int) < (↑n : Int)) = false]) := by kernel_rfl
theorem sc_Nb1 (inr : Bool) (n c i k : Nat) (ax es rs : List DV) : prjP [2] 100 (Bk (scV noL scT) Try.prog (runZ (scV noL scT) Try.prog 14) 6 inr 100000 (B6 Try.prog 6 5) (SL 98 (scS n c i)) (scN ax) 100 [true, true]) =
 Res.ok ((Xt.ret, 98, [(2, Value.bool true)], [(80, Rw.mk Kd.shut [Value.pointer (some (Addr.mk 81 0 none)), Value.pointer (some (Addr.mk 82 0 none))]), (81, Rw.mk Kd.shut [Value.bool true, Value.slice none 0 0]), (82, Rw.mk Kd.shut [Value.slice none 0 0]), (0, Rw.mk (Kd.sd ax) [])], 101, [], []), [], [decide ((↑i : Int) < (↑n : Int)) = true, (0 : Int) ≤ (↑i : Int) ∧ (↑i : Int) < (↑n : Int), ShOb Try.prog 27 false true ax (i * 4 + 2) 100, decide ((↑(dLen ax (i * 4 + 2 + 0)) : Int) > (300 : Int)) = true]) := by kernel_rfl
theorem sc_Nb2 (inr : Bool) (n c i k : Nat) (ax es rs : List DV) : prjP [2] 100 (Bk (scV noL scT) Try.prog (runZ (scV noL scT) Try.prog 14) 6 inr 100000 (B6 Try.prog 6 5) (SL 98 (scS n c i)) (scN ax) 100 [true, false, true]) =
 (let a1 := (↑i : Int); Res.ok ((Xt.ret, 98, [(2, Value.bool true)], [(80, Rw.mk Kd.shut [Value.pointer (some (Addr.mk 81 0 none)), Value.pointer (some (Addr.mk 82 0 none))]), (81, Rw.mk Kd.shut [Value.bool true, Value.slice none 0 0]), (82, Rw.mk Kd.shut [Value.slice none 0 0]), (0, Rw.mk (Kd.sd ax) [])], 102, [], []), [], [decide (a1 < (↑n : Int)) = true, (0 : Int) ≤ a1 ∧ a1 < (↑n : Int), ShOb Try.prog 27 false true ax (i * 4 + 2) 100, decide ((↑(dLen ax (i * 4 + 2 + 0)) : Int) > (300 : Int)) = false, (0 : Int) ≤ a1 ∧ a1 < (↑n : Int), ShOb Try.prog 27 false true ax (i * 4 + 3) 101, decide ((↑(dLen ax (i * 4 + 3 + 0)) : Int) > (300 : Int)) = true])) := by kernel_rfl
theorem sc_Ns (inr : Bool) (n c i k : Nat) (ax es rs : List DV) : prjP [0, 3, 4] 100 (Bk (scV noL scT) Try.prog (runZ (scV noL scT) Try.prog 14) 6 inr 100000 (B6 Try.prog 6 5) (SL 98 (scS n c i)) (scN ax) 100 [true, false,
 false, true, false, false, true, false])
 =
  (let a3 := (i * 4 + 3); let a2 := (i * 4 + 2); let a1 := (↑i : Int); Res.ok ((Xt.normal, 98, [(0, Value.slice (some (Addr.mk 0 0 none)) n c), (3, Value.pointer (some (Addr.mk 80 0 none))), (4, Value.int IntKind.i64 (↑(i + 1) : Int))], [(80, Rw.mk Kd.shut [Value.pointer (some (Addr.mk 81 0 none)), Value.pointer (some (Addr.mk 82 0 none))]), (81, Rw.mk Kd.shut [Value.bool true, Value.slice none 0 0]), (82, Rw.mk Kd.shut [Value.slice none 0 0]), (0, Rw.mk (Kd.sd ax) [])], 104, [80, 81, 82], []), [], [decide (a1 < (↑n : Int)) = true, (0 : Int) ≤ a1 ∧ a1 < (↑n : Int), ShOb Try.prog 27 false true ax a2 100, decide ((↑(dLen ax (i * 4 + 2 + 0)) : Int) > (300 : Int)) = false, (0 : Int) ≤ a1 ∧ a1 < (↑n : Int), ShOb Try.prog 27 false true ax a3 101, decide ((↑(dLen ax (i * 4 + 3 + 0)) : Int) > (300 : Int)) = false, TbK [] 0 ∧ BytI 0 [] ∧ BytI 0 [] ∧ true = true, (0 : Int) ≤ a1 ∧ a1 < (↑n : Int),
 ShOb Try.prog 52 false false ax (i * 4) 102, AcOkN (dInt ax (i * 4 + 0), dInt ax (i * 4 + 1), LyArg.mk false false (dLen ax a2) (bif false then B0 + 102 else dCap ax a2) (dLen ax a3) (bif false then B0 + 103 else dCap ax a3) 0 0 [] [] (B4 ax a2) (B4 ax a3)) ∧ dInt ax (i * 4 + 0) ≠ (4 : Int) ∧ acCh (dInt ax (i * 4 + 0)) (dInt ax (i * 4 + 1)) [] (B4 ax a2) (B4 ax a3) = false, TbK [] 0 ∧ BytI 0 [] ∧ BytI 0 [] ∧ true = true, SpOk [] [] 0 ∧ 0 = 0, false = false, rg IntKind.i64 (↑(i + 1) :
 Int)])) := by kernel_rfl
theorem sc_Nn (inr : Bool) (n c i k : Nat) (ax es rs : List DV) : prjP [0, 3, 4] 100 (Bk (scV noL scT) Try.prog (runZ (scV noL scT) Try.prog 14) 6 inr 100000 (B6 Try.prog 6 5) (SL 98 (scS n c i)) (scN ax) 100 [true, false,
 false, true, false, true, false, false])
 =
  (let a7 := (i * 4 + 3); let a6 := (i * 4 + 2); let a5 := (↑i : Int); let a3 := [Value.slice none 0 0, Value.slice none 0 0, Value.bool false]; let a1 := (acQ (dInt ax (i * 4 + 0)) (dInt ax (i * 4 + 1)) [] (B4 ax a6) (B4 ax a7)); let a4 := (List.length a1); let a2 := (btw (B2 (cpD a1)) (B1 []) (B1 [])); Res.ok ((Xt.normal, 98, [(0, Value.slice (some (Addr.mk 0 0 none)) n c), (3, Value.pointer (some (Addr.mk 80 0 none))), (4, Value.int IntKind.i64 (↑(i + 1) : Int))], [(80, Rw.mk Kd.shut [Value.pointer (some (Addr.mk 81 0 none)), Value.pointer (some (Addr.mk 82 0 none))]), (81, Rw.mk Kd.shut [Value.bool true, Value.slice (some (Addr.mk 104 0 none)) a4 (B0 + 104)]), (82, Rw.mk Kd.shut [Value.slice (some (Addr.mk 105 0 none)) a4 (B0 + 105)]), (0, Rw.mk (Kd.sd ax) []), (105, Rw.mk (Kd.dp 3 a3 (cpD a1)) []), (104, Rw.mk (Kd.dp 3 a3 (cpD a1)) []), (106, Rw.mk (Kd.dx 1 3
 a3 (cpD a2)) [])], 107, [80, 81, 82], []), [], [decide (a5 < (↑n : Int)) = true, (0 : Int) ≤ a5 ∧ a5 < (↑n : Int), ShOb Try.prog 27 false true ax a6 100, decide ((↑(dLen ax (i * 4 + 2 + 0)) : Int) > (300 : Int)) = false, (0 : Int) ≤ a5 ∧ a5 < (↑n : Int), ShOb Try.prog 27 false true ax a7 101, decide ((↑(dLen ax (i * 4 + 3 + 0)) : Int) > (300 : Int)) = false, TbK [] 0 ∧ BytI 0 [] ∧ BytI 0 [] ∧ true = true, (0 : Int) ≤ a5 ∧ a5 < (↑n : Int), ShOb Try.prog 52 false false ax (i * 4) 102, AcOkN (dInt ax (i * 4 + 0), dInt ax (i * 4 + 1), LyArg.mk false false (dLen ax a6) (bif false then B0 + 102 else dCap ax a6) (dLen ax a7) (bif false then B0 + 103 else dCap ax a7) 0 0 [] [] (B4 ax a6) (B4 ax a7)) ∧ dInt ax (i * 4 + 0) ≠ (4 : Int) ∧ acCh (dInt ax (i * 4 + 0)) (dInt ax (i * 4 + 1)) [] (B4 ax a6) (B4 ax a7) = true, B0 + 104 = B0 + 104 ∧ List.length (cpD a1) =
 List.length a1 * 3 ∧ 0 < 3, TbK (cpD a1) a4 ∧ BytI 0 [] ∧ BytI 0 [] ∧ List.isEmpty a2 = false, List.length a2 = 0 → cpD a2 = [], List.length a1 = 0 → cpD a1 = [], SpOk (cpD a2) (cpD a1) (List.length a2) ∧ List.length a1 = List.length a2, ((↑a4 : Int) != (↑a4 : Int)) = false, rg IntKind.i64 (↑(i + 1) :
 Int)])) := by kernel_rfl
theorem sc_Nc (inr : Bool) (n c i k : Nat) (ax es rs : List DV) : prjZ [0, 3, 4] (Bk (scV noL scT) Try.prog (runZ (scV noL scT) Try.prog 14) 6 inr 100000 (B6 Try.prog 6 5) (SL 98 (scS n c i)) (scN ax) 100 [true, false,
 false, true, true, true, false])
 =
  (let a1 := (↑i : Int); Res.ok ((Xt.normal, 98, [(0, Value.slice (some (Addr.mk 0 0 none)) n c), (3, Value.pointer (some (Addr.mk 80 0 none))), (4, Value.int IntKind.i64 (↑(i + 1) : Int))], [(101, Rw.mk Kd.old (B4 ax (i * 4 + 3 + 0))), (100, Rw.mk Kd.old (B4 ax (i * 4 + 2 + 0))), (80, Rw.mk Kd.shut [Value.pointer (some (Addr.mk 104 0 none)), Value.pointer (some (Addr.mk 105 0 none))]), (0, Rw.mk (Kd.sd ax) []), (106, Rw.mk (Kd.dp 3 [Value.slice none 0 0, Value.slice none 0 0, Value.bool false] []) []), (105, Rw.mk Kd.shut [Value.slice (some (Addr.mk 106 0 none)) 0 (B0 + 106)]), (104, Rw.mk Kd.shut [Value.bool true, Value.slice none 0 0])], 107, [80, 81, 82], []), [], [decide (a1 < (↑n : Int)) = true, (0 : Int) ≤ a1 ∧ a1 < (↑n : Int), ShOb Try.prog 27 false true ax (i * 4 + 2) 100, decide ((↑(dLen ax (i * 4 + 2 + 0)) : Int) > (300 : Int)) = false, (0 : Int) ≤ a1 ∧ a1 < (↑n :
 Int), ShOb Try.prog 27 false true ax (i * 4 + 3) 101, decide ((↑(dLen ax (i * 4 + 3 + 0)) : Int) > (300 : Int)) = false, TbK [] 0 ∧ BytI 0 [] ∧ BytI 0 [] ∧ true = true, (0 : Int) ≤ a1 ∧ a1 < (↑n : Int), ShOb Try.prog 52 false false ax (i * 4) 102, AcOkN (dInt ax (i * 4 + 0), dInt ax (i * 4 + 1), LyArg.mk false false (dLen ax (i * 4 + 2)) (bif false then B0 + 102 else dCap ax (i * 4 + 2)) (dLen ax (i * 4 + 3)) (bif false then B0 + 103 else dCap ax (i * 4 + 3)) 0 0 [] [] (B4 ax (i * 4 + 2)) (B4 ax (i * 4 + 3))) ∧ dInt ax (i * 4 + 0) = (4 : Int), TbK [] 0 ∧ BytI 0 [] ∧ BytI 0 [] ∧ true = true, 0 = 0 → ([] : List DV) = [], SpOk [] [] 0 ∧ 0 = 0, false = false, rg IntKind.i64 (↑(i + 1) :
 Int)])) := by kernel_rfl
theorem sc_Ex (inr : Bool) (n c i k : Nat) (ax es rs : List DV) : prjP [] 100 (Bk (scV noL scT) Try.prog (runZ (scV noL scT) Try.prog 14) 6 inr 100000 (B6 Try.prog 6 5) (SL 98 (scS n c i)) (scE ax) 100 [false]) =
 Res.ok ((Xt.exit 0, 98, [], [(80, Rw.mk Kd.shut [Value.pointer (some (Addr.mk 81 0 none)), Value.pointer (some (Addr.mk 82 0 none))]), (81, Rw.mk Kd.shut [Value.bool true, Value.slice none 0 0]), (82, Rw.mk Kd.shut [Value.slice (some (Addr.mk 84 0 none)) 0 (B0 + 84)]), (84, Rw.mk (Kd.dp 3 [Value.slice none 0 0, Value.slice none 0 0, Value.bool false] []) []), (0, Rw.mk (Kd.sd ax) [])], 100, [], []), [], [decide ((↑i : Int) < (↑n : Int)) = false]) := by kernel_rfl
theorem sc_Eb1 (inr : Bool) (n c i k : Nat) (ax es rs : List DV) : prjP [2] 100 (Bk (scV noL scT) Try.prog (runZ (scV noL scT) Try.prog 14) 6 inr 100000 (B6 Try.prog 6 5) (SL 98 (scS n c i)) (scE ax) 100 [true, true]) =
 Res.ok ((Xt.ret, 98, [(2, Value.bool true)], [(80, Rw.mk Kd.shut [Value.pointer (some (Addr.mk 81 0 none)), Value.pointer (some (Addr.mk 82 0 none))]), (81, Rw.mk Kd.shut [Value.bool true, Value.slice none 0 0]), (82, Rw.mk Kd.shut [Value.slice (some (Addr.mk 84 0 none)) 0 (B0 + 84)]), (84, Rw.mk (Kd.dp 3 [Value.slice none 0 0, Value.slice none 0 0, Value.bool false] []) []), (0, Rw.mk (Kd.sd ax) [])], 101, [], []), [], [decide ((↑i : Int) < (↑n : Int)) = true, (0 : Int) ≤ (↑i : Int) ∧ (↑i : Int) < (↑n : Int), ShOb Try.prog 27 false true ax (i * 4 + 2) 100, decide ((↑(dLen ax (i * 4 + 2 + 0)) : Int) > (300 : Int)) = true]) := by kernel_rfl
theorem sc_Eb2 (inr : Bool) (n c i k : Nat) (ax es rs : List DV) : prjP [2] 100 (Bk (scV noL scT) Try.prog (runZ (scV noL scT) Try.prog 14) 6 inr 100000 (B6 Try.prog 6 5) (SL 98 (scS n c i)) (scE ax) 100 [true, false, true]) =
 (let a1 := (↑i : Int); Res.ok ((Xt.ret, 98, [(2, Value.bool true)], [(80, Rw.mk Kd.shut [Value.pointer (some (Addr.mk 81 0 none)), Value.pointer (some (Addr.mk 82 0 none))]), (81, Rw.mk Kd.shut [Value.bool true, Value.slice none 0 0]), (82, Rw.mk Kd.shut [Value.slice (some (Addr.mk 84 0 none)) 0 (B0 + 84)]), (84, Rw.mk (Kd.dp 3 [Value.slice none 0 0, Value.slice none 0 0, Value.bool false] []) []), (0, Rw.mk (Kd.sd ax) [])], 102, [], []), [], [decide (a1 < (↑n : Int)) = true, (0 : Int) ≤ a1 ∧ a1 < (↑n : Int), ShOb Try.prog 27 false true ax (i * 4 + 2) 100, decide ((↑(dLen ax (i * 4 + 2 + 0)) : Int) > (300 : Int)) = false, (0 : Int) ≤ a1 ∧ a1 < (↑n : Int), ShOb Try.prog 27 false true ax (i * 4 + 3) 101, decide ((↑(dLen ax (i * 4 + 3 + 0)) : Int) > (300 : Int)) = true])) := by kernel_rfl
theorem sc_Es (inr : Bool) (n c i k : Nat) (ax es rs : List DV) : prjP [0, 3, 4] 100 (Bk (scV noL scT) Try.prog (runZ (scV noL scT) Try.prog 14) 6 inr 100000 (B6 Try.prog 6 5) (SL 98 (scS n c i)) (scE ax) 100 [true, false,
 false, true, false, false, true, false])
 =
  (let a3 := (i * 4 + 3); let a2 := (i * 4 + 2); let a1 := (↑i : Int); Res.ok ((Xt.normal, 98, [(0, Value.slice (some (Addr.mk 0 0 none)) n c), (3, Value.pointer (some (Addr.mk 80 0 none))), (4, Value.int IntKind.i64 (↑(i + 1) : Int))], [(80, Rw.mk Kd.shut [Value.pointer (some (Addr.mk 81 0 none)), Value.pointer (some (Addr.mk 82 0 none))]), (81, Rw.mk Kd.shut [Value.bool true, Value.slice none 0 0]), (82, Rw.mk Kd.shut [Value.slice (some (Addr.mk 84 0 none)) 0 (B0 + 84)]), (84, Rw.mk (Kd.dp 3 [Value.slice none 0 0, Value.slice none 0 0, Value.bool false] []) []), (0, Rw.mk (Kd.sd ax) [])], 104, [80, 81, 82, 84], []), [], [decide (a1 < (↑n : Int)) = true, (0 : Int) ≤ a1 ∧ a1 < (↑n : Int), ShOb Try.prog 27 false true ax a2 100, decide ((↑(dLen ax (i * 4 + 2 + 0)) : Int) > (300 : Int)) = false, (0 : Int) ≤ a1 ∧ a1 < (↑n : Int), ShOb Try.prog 27 false true ax a3 101, decide ((↑(dLen ax (i
 * 4 + 3 + 0)) : Int) > (300 : Int)) = false, TbK [] 0 ∧ BytI 0 [] ∧ BytI 0 [] ∧ true = true, (0 : Int) ≤ a1 ∧ a1 < (↑n : Int), ShOb Try.prog 52 false false ax (i * 4) 102, AcOkE (dInt ax (i * 4 + 0), dInt ax (i * 4 + 1), LyArg.mk false false (dLen ax a2) (bif false then B0 + 102 else dCap ax a2) (dLen ax a3) (bif false then B0 + 103 else dCap ax a3) 0 0 [] [] (B4 ax a2) (B4 ax a3)) ∧ dInt ax (i * 4 + 0) ≠ (4 : Int) ∧ acCh (dInt ax (i * 4 + 0)) (dInt ax (i * 4 + 1)) [] (B4 ax a2) (B4 ax a3) = false, TbK [] 0 ∧ BytI 0 [] ∧ BytI 0 [] ∧ true = true, 0 = 0 → ([] : List DV) = [], SpOk [] [] 0 ∧ 0 = 0, false = false, rg IntKind.i64 (↑(i + 1) :
 Int)])) := by kernel_rfl
theorem sc_En (inr : Bool) (n c i k : Nat) (ax es rs : List DV) : prjP [0, 3, 4] 100 (Bk (scV noL scT) Try.prog (runZ (scV noL scT) Try.prog 14) 6 inr 100000 (B6 Try.prog 6 5) (SL 98 (scS n c i)) (scE ax) 100 [true, false,
 false, true, false, true, false, false])
 =
  (let a7 := (i * 4 + 3); let a6 := (i * 4 + 2); let a5 := (↑i : Int); let a3 := [Value.slice none 0 0, Value.slice none 0 0, Value.bool false]; let a1 := (acQ (dInt ax (i * 4 + 0)) (dInt ax (i * 4 + 1)) [] (B4 ax a6) (B4 ax a7)); let a4 := (List.length a1); let a2 := (btw (B2 (cpD a1)) (B1 []) (B1 [])); Res.ok ((Xt.normal, 98, [(0, Value.slice (some (Addr.mk 0 0 none)) n c), (3, Value.pointer (some (Addr.mk 80 0 none))), (4, Value.int IntKind.i64 (↑(i + 1) : Int))], [(80, Rw.mk Kd.shut [Value.pointer (some (Addr.mk 81 0 none)), Value.pointer (some (Addr.mk 82 0 none))]), (81, Rw.mk Kd.shut [Value.bool true, Value.slice (some (Addr.mk 104 0 none)) a4 (B0 + 104)]), (82, Rw.mk Kd.shut [Value.slice (some (Addr.mk 105 0 none)) a4 (B0 + 105)]), (0, Rw.mk (Kd.sd ax) []), (105, Rw.mk (Kd.dp 3 a3 (cpD a1)) []), (104, Rw.mk (Kd.dp 3 a3 (cpD a1)) []), (106, Rw.mk (Kd.dx 1 3
 a3 (cpD a2)) [])], 107, [80, 81, 82, 84], []), [], [decide (a5 < (↑n : Int)) = true, (0 : Int) ≤ a5 ∧ a5 < (↑n : Int), ShOb Try.prog 27 false true ax a6 100, decide ((↑(dLen ax (i * 4 + 2 + 0)) : Int) > (300 : Int)) = false, (0 : Int) ≤ a5 ∧ a5 < (↑n : Int), ShOb Try.prog 27 false true ax a7 101, decide ((↑(dLen ax (i * 4 + 3 + 0)) : Int) > (300 : Int)) = false, TbK [] 0 ∧ BytI 0 [] ∧ BytI 0 [] ∧ true = true, (0 : Int) ≤ a5 ∧ a5 < (↑n : Int), ShOb Try.prog 52 false false ax (i * 4) 102, AcOkE (dInt ax (i * 4 + 0), dInt ax (i * 4 + 1), LyArg.mk false false (dLen ax a6) (bif false then B0 + 102 else dCap ax a6) (dLen ax a7) (bif false then B0 + 103 else dCap ax a7) 0 0 [] [] (B4 ax a6) (B4 ax a7)) ∧ dInt ax (i * 4 + 0) ≠ (4 : Int) ∧ acCh (dInt ax (i * 4 + 0)) (dInt ax (i * 4 + 1)) [] (B4 ax a6) (B4 ax a7) = true, B0 + 104 = B0 + 104 ∧ List.length (cpD a1) =
 List.length a1 * 3 ∧ 0 < 3, TbK (cpD a1) a4 ∧ BytI 0 [] ∧ BytI 0 [] ∧ List.isEmpty a2 = false, List.length a2 = 0 → cpD a2 = [], List.length a1 = 0 → cpD a1 = [], SpOk (cpD a2) (cpD a1) (List.length a2) ∧ List.length a1 = List.length a2, ((↑a4 : Int) != (↑a4 : Int)) = false, rg IntKind.i64 (↑(i + 1) :
 Int)])) := by kernel_rfl
theorem sc_Ec (inr : Bool) (n c i k : Nat) (ax es rs : List DV) : prjZ [0, 3, 4] (Bk (scV noL scT) Try.prog (runZ (scV noL scT) Try.prog 14) 6 inr 100000 (B6 Try.prog 6 5) (SL 98 (scS n c i)) (scE ax) 100 [true, false,
 false, true, true, true, false])
 =
  (let a1 := (↑i : Int); Res.ok ((Xt.normal, 98, [(0, Value.slice (some (Addr.mk 0 0 none)) n c), (3, Value.pointer (some (Addr.mk 80 0 none))), (4, Value.int IntKind.i64 (↑(i + 1) : Int))], [(101, Rw.mk Kd.old (B4 ax (i * 4 + 3 + 0))), (100, Rw.mk Kd.old (B4 ax (i * 4 + 2 + 0))), (80, Rw.mk Kd.shut [Value.pointer (some (Addr.mk 104 0 none)), Value.pointer (some (Addr.mk 105 0 none))]), (0, Rw.mk (Kd.sd ax) []), (106, Rw.mk (Kd.dp 3 [Value.slice none 0 0, Value.slice none 0 0, Value.bool false] []) []), (105, Rw.mk Kd.shut [Value.slice (some (Addr.mk 106 0 none)) 0 (B0 + 106)]), (104, Rw.mk Kd.shut [Value.bool true, Value.slice none 0 0])], 107, [80, 81, 82, 84], []), [], [decide (a1 < (↑n : Int)) = true, (0 : Int) ≤ a1 ∧ a1 < (↑n : Int), ShOb Try.prog 27 false true ax (i * 4 + 2) 100, decide ((↑(dLen ax (i * 4 + 2 + 0)) : Int) > (300 : Int)) = false, (0 : Int) ≤ a1 ∧ a1 < (↑n :
 Int), ShOb Try.prog 27 false true ax (i * 4 + 3) 101, decide ((↑(dLen ax (i * 4 + 3 + 0)) : Int) > (300 : Int)) = false, TbK [] 0 ∧ BytI 0 [] ∧ BytI 0 [] ∧ true = true, (0 : Int) ≤ a1 ∧ a1 < (↑n : Int), ShOb Try.prog 52 false false ax (i * 4) 102, AcOkE (dInt ax (i * 4 + 0), dInt ax (i * 4 + 1), LyArg.mk false false (dLen ax (i * 4 + 2)) (bif false then B0 + 102 else dCap ax (i * 4 + 2)) (dLen ax (i * 4 + 3)) (bif false then B0 + 103 else dCap ax (i * 4 + 3)) 0 0 [] [] (B4 ax (i * 4 + 2)) (B4 ax (i * 4 + 3))) ∧ dInt ax (i * 4 + 0) = (4 : Int), TbK [] 0 ∧ BytI 0 [] ∧ BytI 0 [] ∧ true = true, 0 = 0 → ([] : List DV) = [], SpOk [] [] 0 ∧ 0 = 0, false = false, rg IntKind.i64 (↑(i + 1) :
 Int)])) := by kernel_rfl
theorem sc_Rx (inr : Bool) (n c i k : Nat) (ax es rs : List DV) : prjP [] 100 (Bk (scV noL scT) Try.prog (runZ (scV noL scT) Try.prog 14) 6 inr 100000 (B6 Try.prog 6 5) (SL 98 (scS n c i)) (scR ax k es rs) 100 [false]) =
 (let a1 := [Value.slice none 0 0, Value.slice none 0 0, Value.bool false]; Res.ok ((Xt.exit 0, 98, [], [(80, Rw.mk Kd.shut [Value.pointer (some (Addr.mk 81 0 none)), Value.pointer (some (Addr.mk 82 0 none))]), (81, Rw.mk Kd.shut [Value.bool true, Value.slice (some (Addr.mk 83 0 none)) k (B0 + 83)]), (82, Rw.mk Kd.shut [Value.slice (some (Addr.mk 84 0 none)) k (B0 + 84)]), (83, Rw.mk (Kd.dp 3 a1 es) []), (84, Rw.mk (Kd.dp 3 a1 rs) []), (0, Rw.mk (Kd.sd ax) [])], 100, [], []), [], [decide ((↑i : Int) < (↑n : Int)) = false])) := by kernel_rfl
theorem sc_Rb1 (inr : Bool) (n c i k : Nat) (ax es rs : List DV) : prjP [2] 100 (Bk (scV noL scT) Try.prog (runZ (scV noL scT) Try.prog 14) 6 inr 100000 (B6 Try.prog 6 5) (SL 98 (scS n c i)) (scR ax k es rs) 100 [true, true]) =
 (let a1 := [Value.slice none 0 0, Value.slice none 0 0, Value.bool false]; Res.ok ((Xt.ret, 98, [(2, Value.bool true)], [(80, Rw.mk Kd.shut [Value.pointer (some (Addr.mk 81 0 none)), Value.pointer (some (Addr.mk 82 0 none))]), (81, Rw.mk Kd.shut [Value.bool true, Value.slice (some (Addr.mk 83 0 none)) k (B0 + 83)]), (82, Rw.mk Kd.shut [Value.slice (some (Addr.mk 84 0 none)) k (B0 + 84)]), (83, Rw.mk (Kd.dp 3 a1 es) []), (84, Rw.mk (Kd.dp 3 a1 rs) []), (0, Rw.mk (Kd.sd ax) [])], 101, [], []), [], [decide ((↑i : Int) < (↑n : Int)) = true, (0 : Int) ≤ (↑i : Int) ∧ (↑i : Int) < (↑n : Int), ShOb Try.prog 27 false true ax (i * 4 + 2) 100, decide ((↑(dLen ax (i * 4 + 2 + 0)) : Int) > (300 : Int)) = true])) := by kernel_rfl
theorem sc_Rb2 (inr : Bool) (n c i k : Nat) (ax es rs : List DV) : prjP [2] 100 (Bk (scV noL scT) Try.prog (runZ (scV noL scT) Try.prog 14) 6 inr 100000 (B6 Try.prog 6 5) (SL 98 (scS n c i)) (scR ax k es rs) 100 [true, false, true]) =
 (let a2 := (↑i : Int); let a1 := [Value.slice none 0 0, Value.slice none 0 0, Value.bool false]; Res.ok ((Xt.ret, 98, [(2, Value.bool true)], [(80, Rw.mk Kd.shut [Value.pointer (some (Addr.mk 81 0 none)), Value.pointer (some (Addr.mk 82 0 none))]), (81, Rw.mk Kd.shut [Value.bool true, Value.slice (some (Addr.mk 83 0 none)) k (B0 + 83)]), (82, Rw.mk Kd.shut [Value.slice (some (Addr.mk 84 0 none)) k (B0 + 84)]), (83, Rw.mk (Kd.dp 3 a1 es) []), (84, Rw.mk (Kd.dp 3 a1 rs) []), (0, Rw.mk (Kd.sd ax) [])], 102, [], []), [], [decide (a2 < (↑n : Int)) = true, (0 : Int) ≤ a2 ∧ a2 < (↑n : Int), ShOb Try.prog 27 false true ax (i * 4 + 2) 100, decide ((↑(dLen ax (i * 4 + 2 + 0)) : Int) > (300 : Int)) = false, (0 : Int) ≤ a2 ∧ a2 < (↑n : Int), ShOb Try.prog 27 false true ax (i * 4 + 3) 101, decide ((↑(dLen ax (i * 4 + 3 + 0)) : Int) > (300 : Int)) = true])) := by kernel_rfl
theorem sc_Rs (inr : Bool) (n c i k : Nat) (ax es rs : List DV) : prjP [0, 3, 4] 100 (Bk (scV noL scT) Try.prog (runZ (scV noL scT) Try.prog 14) 6 inr 100000 (B6 Try.prog 6 5) (SL 98 (scS n c i)) (scR ax k es rs) 100 [true,
 false, false, false, false, false, false, false])
 =
  (let a4 := (i * 4 + 3); let a3 := (i * 4 + 2); let a2 := [Value.slice none 0 0, Value.slice none 0 0, Value.bool false]; let a1 := (btw (B2 es) (B1 []) (B1 [])); Res.ok ((Xt.normal, 98, [(0, Value.slice (some (Addr.mk 0 0 none)) n c), (3, Value.pointer (some (Addr.mk 80 0 none))), (4, Value.int IntKind.i64 (↑(i + 1) : Int))], [(80, Rw.mk Kd.shut [Value.pointer (some (Addr.mk 81 0 none)), Value.pointer (some (Addr.mk 82 0 none))]), (81, Rw.mk Kd.shut [Value.bool true, Value.slice (some (Addr.mk 83 0 none)) k (B0 + 83)]), (82, Rw.mk Kd.shut [Value.slice (some (Addr.mk 84 0 none)) k (B0 + 84)]), (83, Rw.mk (Kd.dp 3 a2 es) []), (84, Rw.mk (Kd.dp 3 a2 rs) []), (0, Rw.mk (Kd.sd ax) []), (105, Rw.mk (Kd.dx 1 3 a2 (cpD a1)) [])], 106, [80, 81, 82, 83, 84, 102], []), [], ((fun (q0 q1 q2 : Prop) => [decide ((↑i : Int) < (↑n : Int)) = true, q0, ShOb Try.prog 27 false true ax a3
 100, decide ((↑(dLen ax (i * 4 + 2 + 0)) : Int) > (300 : Int)) = false, q0, ShOb Try.prog 27 false true ax a4 101, decide ((↑(dLen ax (i * 4 + 3 + 0)) : Int) > (300 : Int)) = false, q1, q2, List.length (cpD a1) = List.length a1 * 3, Ed (cpD a1), q0, ShOb Try.prog 52 false false ax (i * 4) 103, AcOkR (dInt ax (i * 4 + 0), dInt ax (i * 4 + 1), LyArg.mk false false (dLen ax a3) (bif false then B0 + 103 else dCap ax a3) (dLen ax a4) (bif false then B0 + 104 else dCap ax a4) k k es rs (B4 ax a3) (B4 ax a4)) ∧ dInt ax (i * 4 + 0) ≠ (4 : Int) ∧ acCh (dInt ax (i * 4 + 0)) (dInt ax (i * 4 + 1)) (B2 es) (B4 ax a3) (B4 ax a4) = false, q1, q2, List.length a1 = 0 → cpD a1 = [], k = 0 → rs = [], SpOk (cpD a1) rs (List.length a1) ∧ k = List.length a1, ((↑k : Int) != (↑k : Int)) = false, rg IntKind.i64 (↑(i + 1) : Int)]) ((0 : Int) ≤ (↑i : Int) ∧ (↑i : Int) < (↑n : Int))
 (B0 + 83 = B0 + 83 ∧ List.length es = k * 3 ∧ 0 < 3) (TbK es k ∧ BytI 0 [] ∧ BytI 0 [] ∧ List.isEmpty a1 =
 false)))) := by kernel_rfl
theorem sc_Rn (inr : Bool) (n c i k : Nat) (ax es rs : List DV) : prjP [0, 3, 4] 100 (Bk (scV noL scT) Try.prog (runZ (scV noL scT) Try.prog 14) 6 inr 100000 (B6 Try.prog 6 5) (SL 98 (scS n c i)) (scR ax k es rs) 100 [true,
 false, false, false, false, true, false, false])
 =
  (let a8 := (i * 4 + 3); let a7 := (i * 4 + 2); let a6 := (↑i : Int); let a4 := (btw (B2 es) (B1 []) (B1 [])); let a3 := [Value.slice none 0 0, Value.slice none 0 0, Value.bool false]; let a1 := (acQ (dInt ax (i * 4 + 0)) (dInt ax (i * 4 + 1)) (B2 es) (B4 ax a7) (B4 ax a8)); let a5 := (List.length a1); let a2 := (btw (B2 (cpD a1)) (B1 []) (B1 [])); Res.ok ((Xt.normal, 98, [(0, Value.slice (some (Addr.mk 0 0 none)) n c), (3, Value.pointer (some (Addr.mk 80 0 none))), (4, Value.int IntKind.i64 (↑(i + 1) : Int))], [(80, Rw.mk Kd.shut [Value.pointer (some (Addr.mk 81 0 none)), Value.pointer (some (Addr.mk 82 0 none))]), (81, Rw.mk Kd.shut [Value.bool true, Value.slice (some (Addr.mk 105 0 none)) a5 (B0 + 105)]), (82, Rw.mk Kd.shut [Value.slice (some (Addr.mk 106 0 none)) a5 (B0 + 106)]), (0, Rw.mk (Kd.sd ax) []), (106, Rw.mk (Kd.dp 3 a3 (cpD a1)) []),
 (105, Rw.mk (Kd.dp 3 a3 (cpD a1)) []), (107, Rw.mk (Kd.dx 1 3 a3 (cpD a2)) [])], 108, [80, 81, 82, 83, 84, 102], []), [], [decide (a6 < (↑n : Int)) = true, (0 : Int) ≤ a6 ∧ a6 < (↑n : Int), ShOb Try.prog 27 false true ax a7 100, decide ((↑(dLen ax (i * 4 + 2 + 0)) : Int) > (300 : Int)) = false, (0 : Int) ≤ a6 ∧ a6 < (↑n : Int), ShOb Try.prog 27 false true ax a8 101, decide ((↑(dLen ax (i * 4 + 3 + 0)) : Int) > (300 : Int)) = false, B0 + 83 = B0 + 83 ∧ List.length es = k * 3 ∧ 0 < 3, TbK es k ∧ BytI 0 [] ∧ BytI 0 [] ∧ List.isEmpty a4 = false, List.length (cpD a4) = List.length a4 * 3, Ed (cpD a4), (0 : Int) ≤ a6 ∧ a6 < (↑n : Int), ShOb Try.prog 52 false false ax (i * 4) 103, AcOkR (dInt ax (i * 4 + 0), dInt ax (i * 4 + 1), LyArg.mk false false (dLen ax a7) (bif false then B0 + 103 else dCap ax a7) (dLen ax a8) (bif false then B0 + 104 else dCap ax a8) k k es rs (B4
 ax a7) (B4 ax a8)) ∧ dInt ax (i * 4 + 0) ≠ (4 : Int) ∧ acCh (dInt ax (i * 4 + 0)) (dInt ax (i * 4 + 1)) (B2 es) (B4 ax a7) (B4 ax a8) = true, B0 + 105 = B0 + 105 ∧ List.length (cpD a1) = List.length a1 * 3 ∧ 0 < 3, TbK (cpD a1) a5 ∧ BytI 0 [] ∧ BytI 0 [] ∧ List.isEmpty a2 = false, List.length a2 = 0 → cpD a2 = [], List.length a1 = 0 → cpD a1 = [], SpOk (cpD a2) (cpD a1) (List.length a2) ∧ List.length a1 = List.length a2, ((↑a5 : Int) != (↑a5 : Int)) = false, rg IntKind.i64 (↑(i + 1) :
 Int)])) := by kernel_rfl
theorem sc_Rc (inr : Bool) (n c i k : Nat) (ax es rs : List DV) : prjZ [0, 3, 4] (Bk (scV noL scT) Try.prog (runZ (scV noL scT) Try.prog 14) 6 inr 100000 (B6 Try.prog 6 5) (SL 98 (scS n c i)) (scR ax k es rs) 100 [true,
 false, false, false, true, false, false])
 =
  (let a3 := (↑i : Int); let a2 := [Value.slice none 0 0, Value.slice none 0 0, Value.bool false]; let a1 := (btw (B2 es) (B1 []) (B1 [])); Res.ok ((Xt.normal, 98, [(0, Value.slice (some (Addr.mk 0 0 none)) n c), (3, Value.pointer (some (Addr.mk 80 0 none))), (4, Value.int IntKind.i64 (↑(i + 1) : Int))], [(101, Rw.mk Kd.old (B4 ax (i * 4 + 3 + 0))), (100, Rw.mk Kd.old (B4 ax (i * 4 + 2 + 0))), (80, Rw.mk Kd.shut [Value.pointer (some (Addr.mk 105 0 none)), Value.pointer (some (Addr.mk 106 0 none))]), (0, Rw.mk (Kd.sd ax) []), (108, Rw.mk (Kd.dp 3 a2 es) []), (107, Rw.mk (Kd.dp 3 a2 es) []), (106, Rw.mk Kd.shut [Value.slice (some (Addr.mk 108 0 none)) k (B0 + 108)]), (105, Rw.mk Kd.shut [Value.bool true, Value.slice (some (Addr.mk 107 0 none)) k (B0 + 107)]), (109, Rw.mk (Kd.dx 1 3 a2 (cpD a1)) [])], 110, [80, 81, 82, 83, 84, 102], []), [], [decide (a3 < (↑n : Int))
 = true, (0 : Int) ≤ a3 ∧ a3 < (↑n : Int), ShOb Try.prog 27 false true ax (i * 4 + 2) 100, decide ((↑(dLen ax (i * 4 + 2 + 0)) : Int) > (300 : Int)) = false, (0 : Int) ≤ a3 ∧ a3 < (↑n : Int), ShOb Try.prog 27 false true ax (i * 4 + 3) 101, decide ((↑(dLen ax (i * 4 + 3 + 0)) : Int) > (300 : Int)) = false, B0 + 83 = B0 + 83 ∧ List.length es = k * 3 ∧ 0 < 3, TbK es k ∧ BytI 0 [] ∧ BytI 0 [] ∧ List.isEmpty a1 = false, List.length (cpD a1) = List.length a1 * 3, Ed (cpD a1), (0 : Int) ≤ a3 ∧ a3 < (↑n : Int), ShOb Try.prog 52 false false ax (i * 4) 103, AcOkR (dInt ax (i * 4 + 0), dInt ax (i * 4 + 1), LyArg.mk false false (dLen ax (i * 4 + 2)) (bif false then B0 + 103 else dCap ax (i * 4 + 2)) (dLen ax (i * 4 + 3)) (bif false then B0 + 104 else dCap ax (i * 4 + 3)) k k es rs (B4 ax (i * 4 + 2)) (B4 ax (i * 4 + 3))) ∧ dInt ax (i * 4 + 0) = (4 : Int), B0 + 107 =
 B0 + 107 ∧ List.length es = k * 3 ∧ 0 < 3, TbK es k ∧ BytI 0 [] ∧ BytI 0 [] ∧ List.isEmpty a1 = false, List.length a1 = 0 → cpD a1 = [], k = 0 → es = [], SpOk (cpD a1) es (List.length a1) ∧ k = List.length a1, ((↑k : Int) != (↑k : Int)) = false, rg IntKind.i64 (↑(i + 1) :
 Int)])) := by kernel_rfl
structure ActAt (ax : List DV) (i : Nat) : Prop where
 o1 : ∀ nx, ShOb Try.prog 27 false true ax (i * 4 + 2) nx
 o2 : ∀ nx, ShOb Try.prog 27 false true ax (i * 4 + 3) nx
 o3 : ∀ nx, ShOb Try.prog 52 false false ax (i * 4) nx
 k : BytI (dLen ax (i * 4 + 2)) (B4 ax (i * 4 + 2))
 v : BytI (dLen ax (i * 4 + 3)) (B4 ax (i * 4 + 3))
 c1 : dLen ax (i * 4 + 2) ≤ dCap ax (i * 4 + 2) ∧ dCap ax (i * 4 + 2) ≤ 9223372036854775807
 c2 : dLen ax (i * 4 + 3) ≤ dCap ax (i * 4 + 3) ∧ dCap ax (i * 4 + 3) ≤ 9223372036854775807
structure AcAll (ax : List DV) (n c : Nat) : Prop where
 a : ∀ i, i < n → ActAt ax i
 n : n ≤ 1000
 c : c ≤ 9223372036854775807
def bigA (ax : List DV) (i : Nat) : Bool := decide (300 < dLen ax (i * 4 + 2)) || decide (300 < dLen ax (i * 4 + 3))
def anyB (ax : List DV) : Nat → Nat → Bool
 | _, 0 => false
 | i, r + 1 => bigA ax i || anyB ax (i + 1) r
def scXt (b : Bool) : Xt := bif b then .ret else .exit 0
def scLv (b : Bool) : List (Nat × Value) := bif b then [(2, .bool true)] else []
def scO (ax : List DV) : Hp := [(0, ⟨.sd ax, []⟩)]
theorem scX {L : LFun} {T : TFun} : XOkZ (scV L T) Try.prog := XOneZ.ok Ei rfl
theorem scTv {L : LFun} : TOkZ (scV L scT) Try.prog := Ly rfl (C4 actT_one (C4 allT_one (C4 pxTs_one over4_one)))
theorem scL0 {T : TFun} : LOkZ (scV noL T) Try.prog := C9 rfl
theorem Eg {lo N : Nat} {ρ : Nat → Nat} {h0 h1 : Hp} {n m a b x y : Nat} (hn : fnN lo N ρ n = some m) (hl : lk h1 m = some ⟨.shut, [.pointer (some ⟨x, 0, none⟩), .pointer (some ⟨y, 0, none⟩)]⟩) (ha : renV (sgf lo N ρ) (.pointer (some ⟨a, 0, none⟩)) = some (.pointer (some ⟨x, 0, none⟩))) (hb : renV (sgf lo N ρ) (.pointer (some ⟨b, 0, none⟩)) = some (.pointer (some ⟨y, 0, none⟩))) : He lo N ρ h0 h1 n ⟨.shut, [.pointer (some ⟨a, 0, none⟩), .pointer (some ⟨b, 0, none⟩)]⟩ := ⟨m, _, hn, hl, rfl, rfl, .inl (Bi ha (Bi hb rfl))⟩
theorem Ee {lo N : Nat} {ρ : Nat → Nat} {h0 h1 : Hp} {n m : Nat} {v v1 : Value} (hn : fnN lo N ρ n = some m) (hl : lk h1 m = some ⟨.shut, [.bool true, v1]⟩) (hv : renV (sgf lo N ρ) v = some v1) : He lo N ρ h0 h1 n ⟨.shut, [.bool true, v]⟩ := ⟨m, _, hn, hl, rfl, rfl, .inl (Bi rfl (Bi hv rfl))⟩
theorem Ef {lo N : Nat} {ρ : Nat → Nat} {h0 h1 : Hp} {n m : Nat} {v v1 : Value} (hn : fnN lo N ρ n = some m) (hl : lk h1 m = some ⟨.shut, [v1]⟩) (hv : renV (sgf lo N ρ) v = some v1) : He lo N ρ h0 h1 n ⟨.shut, [v]⟩ := ⟨m, _, hn, hl, rfl, rfl, .inl (Bi hv rfl)⟩
def mp5 (a b c d e : Nat) : Nat → Nat := fun n => bif Nat.beq n 80 then a else bif Nat.beq n 81 then b else bif Nat.beq n 82 then c else bif Nat.beq n 83 then d else bif Nat.beq n 84 then e else n
structure ScAt (inr : Bool) (h0 : Hp) (ax : List DV) (n c i r : Nat) : Prop where
 N : LRuns inr Try.prog (B6 Try.prog 6 5) 4 300 h0 98 (scS n c i) (scN ax) 100 (scXt (anyB ax i r), scLv (anyB ax i r), scO ax)
 E : LRuns inr Try.prog (B6 Try.prog 6 5) 4 300 h0 98 (scS n c i) (scE ax) 100 (scXt (anyB ax i r), scLv (anyB ax i r), scO ax)
 R : ∀ ts, Ti ts → ts.isEmpty = false → LRuns inr Try.prog (B6 Try.prog 6 5) 4 300 h0 98 (scS n c i) (scR ax ts.length (cpD ts) (cpD ts)) 100 (scXt (anyB ax i r), scLv (anyB ax i r), scO ax)
theorem sc_loop {inr : Bool} {h0 : Hp} {ax : List DV} {n c : Nat} (hA : AcAll ax n c) : ∀ (r i : Nat), i + r = n → ScAt inr h0 ax n c i r
 | 0, i, hr => by
  have hT2 := Ti.nil
  refine ⟨?_, ?_, fun ts hT hz => ?_⟩
  ·refine LRuns.exit (Bb scX scL0 (Bh scX scTv scL0 mixed 14) mixed (sc_Nx inr n c i 0 ax [] []) ?_) (by intro e; cases e) rfl (by omega) (by omega) (fun n => n) ?_ ?_ rfl
   ·simp only [Alls, decide_eq_false_iff_not]
    exact ⟨by omega, trivial⟩
   ·trivial
   ·exact ⟨Cx (m := 0) rfl rfl, trivial⟩
  ·refine LRuns.exit (Bb scX scL0 (Bh scX scTv scL0 mixed 14) mixed (sc_Ex inr n c i 0 ax [] []) ?_) (by intro e; cases e) rfl (by omega) (by omega) (fun n => n) ?_ ?_ rfl
   ·simp only [Alls, decide_eq_false_iff_not]
    exact ⟨by omega, trivial⟩
   ·trivial
   ·exact ⟨Cx (m := 0) rfl rfl, trivial⟩
  ·refine LRuns.exit (Bb scX scL0 (Bh scX scTv scL0 mixed 14) mixed (sc_Rx inr n c i ts.length ax (cpD ts) (cpD ts)) ?_) (by intro e; cases e) rfl (by omega) (by omega) (fun n => n) ?_ ?_ rfl
   ·simp only [Alls, decide_eq_false_iff_not]
    exact ⟨by omega, trivial⟩
   ·trivial
   ·exact ⟨Cx (m := 0) rfl rfl, trivial⟩
 | r + 1, i, hr => by
  have hm9 := hA.n
  have hi : i < n := by omega
  have hcc : c < B0 := by have := hA.c; unfold B0; omega
  obtain ⟨o1, o2, o3, ak, av, ac1, ac2⟩ := hA.a i hi
  have e0 : B1 ([] : List Value) = [] := rfl
  have eA := btw_all
  have nx := sc_loop (inr := inr) (h0 := h0) hA r (i + 1) (by omega)
  have hT2 := Ti.nil
  have hT := Ti.nil
  by_cases hb1 : 300 < dLen ax (i * 4 + 2)
  ·have eX : anyB ax i (r + 1) = true := by show (bigA ax i || _) = true; unfold bigA; rw [decide_eq_true hb1]; rfl
   refine ⟨?_, ?_, fun ts hT hz => ?_⟩ <;> rw [eX]
   ·refine LRuns.exit (Bb scX scL0 (Bh scX scTv scL0 mixed 14) mixed (sc_Nb1 inr n c i 0 ax [] []) ?_) (by intro e; cases e) rfl (by omega) (by omega) (fun n => n) ⟨rfl, rfl, trivial⟩ ⟨Cx (m := 0) rfl rfl, trivial⟩ rfl
    simp only [Alls, rg, cond_true, cond_false, decide_eq_true_eq, decide_eq_false_iff_not, Nat.add_zero, e0, eA, Bc, bne_self_eq_false, C0, decide_eq_true_eq]
    repeat' (with_reducible apply And.intro)
    all_goals first | omega | (with_reducible assumption) | (with_reducible exact trivial) | (with_reducible rfl) | exact o1 _ | exact o2 _ | exact o3 _ | exact Ti.nil.tk | exact hT.tk | exact hT2.tk | exact Cb | exact ⟨I⟩ | exact Bm (W := []) (by show 0 ≤ 1000; omega) | exact Bm (Nat.le_trans hT.m (by omega)) | exact Bm (Nat.le_trans hT2.m (by omega)) | exact C8 | exact C2 _ | exact ⟨E7 lyS0 I hT, rfl, by rw [Bc]; exact hz⟩ | exact (fun h => h) | exact (fun _ => rfl) | rfl | skip
   ·refine LRuns.exit (Bb scX scL0 (Bh scX scTv scL0 mixed 14) mixed (sc_Eb1 inr n c i 0 ax [] []) ?_) (by intro e; cases e) rfl (by omega) (by omega) (fun n => n) ⟨rfl, rfl, trivial⟩ ⟨Cx (m := 0) rfl rfl, trivial⟩ rfl
    simp only [Alls, rg, cond_true, cond_false, decide_eq_true_eq, decide_eq_false_iff_not, Nat.add_zero, e0, eA, Bc, bne_self_eq_false, C0, decide_eq_true_eq]
    repeat' (with_reducible apply And.intro)
    all_goals first | omega | (with_reducible assumption) | (with_reducible exact trivial) | (with_reducible rfl) | exact o1 _ | exact o2 _ | exact o3 _ | exact Ti.nil.tk | exact hT.tk | exact hT2.tk | exact Cb | exact ⟨I⟩ | exact Bm (W := []) (by show 0 ≤ 1000; omega) | exact Bm (Nat.le_trans hT.m (by omega)) | exact Bm (Nat.le_trans hT2.m (by omega)) | exact C8 | exact C2 _ | exact ⟨E7 lyS0 I hT, rfl, by rw [Bc]; exact hz⟩ | exact (fun h => h) | exact (fun _ => rfl) | rfl | skip
   ·refine LRuns.exit (Bb scX scL0 (Bh scX scTv scL0 mixed 14) mixed (sc_Rb1 inr n c i ts.length ax (cpD ts) (cpD ts)) ?_) (by intro e; cases e) rfl (by omega) (by omega) (fun n => n) ⟨rfl, rfl, trivial⟩ ⟨Cx (m := 0) rfl rfl, trivial⟩ rfl
    simp only [Alls, rg, cond_true, cond_false, decide_eq_true_eq, decide_eq_false_iff_not, Nat.add_zero, e0, eA, Bc, bne_self_eq_false, C0, decide_eq_true_eq]
    repeat' (with_reducible apply And.intro)
    all_goals first | omega | (with_reducible assumption) | (with_reducible exact trivial) | (with_reducible rfl) | exact o1 _ | exact o2 _ | exact o3 _ | exact Ti.nil.tk | exact hT.tk | exact hT2.tk | exact Cb | exact ⟨I⟩ | exact Bm (W := []) (by show 0 ≤ 1000; omega) | exact Bm (Nat.le_trans hT.m (by omega)) | exact Bm (Nat.le_trans hT2.m (by omega)) | exact C8 | exact C2 _ | exact ⟨E7 lyS0 I hT, rfl, by rw [Bc]; exact hz⟩ | exact (fun h => h) | exact (fun _ => rfl) | rfl | skip
  by_cases hb2 : 300 < dLen ax (i * 4 + 3)
  ·have eX : anyB ax i (r + 1) = true := by show (bigA ax i || _) = true; unfold bigA; rw [decide_eq_true hb2, Bool.or_true]; rfl
   refine ⟨?_, ?_, fun ts hT hz => ?_⟩ <;> rw [eX]
   ·refine LRuns.exit (Bb scX scL0 (Bh scX scTv scL0 mixed 14) mixed (sc_Nb2 inr n c i 0 ax [] []) ?_) (by intro e; cases e) rfl (by omega) (by omega) (fun n => n) ⟨rfl, rfl, trivial⟩ ⟨Cx (m := 0) rfl rfl, trivial⟩ rfl
    simp only [Alls, rg, cond_true, cond_false, decide_eq_true_eq, decide_eq_false_iff_not, Nat.add_zero, e0, eA, Bc, bne_self_eq_false, C0, decide_eq_true_eq]
    repeat' (with_reducible apply And.intro)
    all_goals first | omega | (with_reducible assumption) | (with_reducible exact trivial) | (with_reducible rfl) | exact o1 _ | exact o2 _ | exact o3 _ | exact Ti.nil.tk | exact hT.tk | exact hT2.tk | exact Cb | exact ⟨I⟩ | exact Bm (W := []) (by show 0 ≤ 1000; omega) | exact Bm (Nat.le_trans hT.m (by omega)) | exact Bm (Nat.le_trans hT2.m (by omega)) | exact C8 | exact C2 _ | exact ⟨E7 lyS0 I hT, rfl, by rw [Bc]; exact hz⟩ | exact (fun h => h) | exact (fun _ => rfl) | rfl | skip
   ·refine LRuns.exit (Bb scX scL0 (Bh scX scTv scL0 mixed 14) mixed (sc_Eb2 inr n c i 0 ax [] []) ?_) (by intro e; cases e) rfl (by omega) (by omega) (fun n => n) ⟨rfl, rfl, trivial⟩ ⟨Cx (m := 0) rfl rfl, trivial⟩ rfl
    simp only [Alls, rg, cond_true, cond_false, decide_eq_true_eq, decide_eq_false_iff_not, Nat.add_zero, e0, eA, Bc, bne_self_eq_false, C0, decide_eq_true_eq]
    repeat' (with_reducible apply And.intro)
    all_goals first | omega | (with_reducible assumption) | (with_reducible exact trivial) | (with_reducible rfl) | exact o1 _ | exact o2 _ | exact o3 _ | exact Ti.nil.tk | exact hT.tk | exact hT2.tk | exact Cb | exact ⟨I⟩ | exact Bm (W := []) (by show 0 ≤ 1000; omega) | exact Bm (Nat.le_trans hT.m (by omega)) | exact Bm (Nat.le_trans hT2.m (by omega)) | exact C8 | exact C2 _ | exact ⟨E7 lyS0 I hT, rfl, by rw [Bc]; exact hz⟩ | exact (fun h => h) | exact (fun _ => rfl) | rfl | skip
   ·refine LRuns.exit (Bb scX scL0 (Bh scX scTv scL0 mixed 14) mixed (sc_Rb2 inr n c i ts.length ax (cpD ts) (cpD ts)) ?_) (by intro e; cases e) rfl (by omega) (by omega) (fun n => n) ⟨rfl, rfl, trivial⟩ ⟨Cx (m := 0) rfl rfl, trivial⟩ rfl
    simp only [Alls, rg, cond_true, cond_false, decide_eq_true_eq, decide_eq_false_iff_not, Nat.add_zero, e0, eA, Bc, bne_self_eq_false, C0, decide_eq_true_eq]
    repeat' (with_reducible apply And.intro)
    all_goals first | omega | (with_reducible assumption) | (with_reducible exact trivial) | (with_reducible rfl) | exact o1 _ | exact o2 _ | exact o3 _ | exact Ti.nil.tk | exact hT.tk | exact hT2.tk | exact Cb | exact ⟨I⟩ | exact Bm (W := []) (by show 0 ≤ 1000; omega) | exact Bm (Nat.le_trans hT.m (by omega)) | exact Bm (Nat.le_trans hT2.m (by omega)) | exact C8 | exact C2 _ | exact ⟨E7 lyS0 I hT, rfl, by rw [Bc]; exact hz⟩ | exact (fun h => h) | exact (fun _ => rfl) | rfl | skip
  have eX : anyB ax i (r + 1) = anyB ax (i + 1) r := by show (bigA ax i || _) = _; unfold bigA; rw [decide_eq_false hb1, decide_eq_false hb2]; rfl
  have I : LyI (dLen ax (i * 4 + 2)) (dCap ax (i * 4 + 2)) (dLen ax (i * 4 + 3)) (dCap ax (i * 4 + 3)) (B4 ax (i * 4 + 2)) (B4 ax (i * 4 + 3)) := ⟨ak, av, by omega, by omega, ac1, ac2⟩
  refine ⟨?_, ?_, fun ts hT hz => ?_⟩ <;> rw [eX]
  ·by_cases h4 : dInt ax (i * 4 + 0) = 4
   ·
    refine LRuns.step (H7 scX scL0 (Bh scX scTv scL0 mixed 14) mixed (sc_Nc inr n c i 0 ax [] []) ?_) rfl (by omega) (by omega) (mp5 80 104 105 83 106) ?_ ?_ rfl nx.E
    ·
     simp only [Alls, rg, cond_true, cond_false, decide_eq_true_eq, decide_eq_false_iff_not, Nat.add_zero, e0, eA, Bc, bne_self_eq_false, C0, decide_eq_true_eq]
     repeat' (with_reducible apply And.intro)
     all_goals first | omega | (with_reducible assumption) | (with_reducible exact trivial) | (with_reducible rfl) | exact o1 _ | exact o2 _ | exact o3 _ | exact Ti.nil.tk | exact hT.tk | exact hT2.tk | exact Cb | exact ⟨I⟩ | exact Bm (W := []) (by show 0 ≤ 1000; omega) | exact Bm (Nat.le_trans hT.m (by omega)) | exact Bm (Nat.le_trans hT2.m (by omega)) | exact C8 | exact C2 _ | exact ⟨E7 lyS0 I hT, rfl, by rw [Bc]; exact hz⟩ | exact (fun h => h) | exact (fun _ => rfl) | rfl | skip
    ·exact ⟨rfl, Bt rfl hcc, rfl, Bp rfl, rfl, rfl, trivial⟩
    ·exact ⟨Eg (m := 80) rfl rfl (Bp rfl) (Bp rfl), Ee (m := 104) rfl rfl rfl, Ef (m := 105) rfl rfl (Bj rfl rfl), Ch (m := 106) rfl rfl, Cx (m := 0) rfl rfl, trivial⟩
   ·cases hc : acCh (dInt ax (i * 4 + 0)) (dInt ax (i * 4 + 1)) [] (B4 ax (i * 4 + 2)) (B4 ax (i * 4 + 3)) with
    | true =>
     have hT2 : Ti (acQ (dInt ax (i * 4 + 0)) (dInt ax (i * 4 + 1)) [] (B4 ax (i * 4 + 2)) (B4 ax (i * 4 + 3))) := acQ_ti I Ti.nil
     have hz2 : (acQ (dInt ax (i * 4 + 0)) (dInt ax (i * 4 + 1)) [] (B4 ax (i * 4 + 2)) (B4 ax (i * 4 + 3))).isEmpty = false := acQ_ne hc
     refine LRuns.step (Bb scX scL0 (Bh scX scTv scL0 mixed 14) mixed (sc_Nn inr n c i 0 ax [] []) ?_) rfl (by omega) (by omega) (mp5 80 81 82 104 105) ?_ ?_ rfl (nx.R (acQ (dInt ax (i * 4 + 0)) (dInt ax (i * 4 + 1)) [] (B4 ax (i * 4 + 2)) (B4 ax (i * 4 + 3))) hT2 hz2)
     ·
      simp only [Alls, rg, cond_true, cond_false, decide_eq_true_eq, decide_eq_false_iff_not, Nat.add_zero, e0, eA, Bc, bne_self_eq_false, C0, hz2]
      repeat' (with_reducible apply And.intro)
      all_goals first | omega | (with_reducible assumption) | (with_reducible exact trivial) | (with_reducible rfl) | exact o1 _ | exact o2 _ | exact o3 _ | exact Ti.nil.tk | exact hT.tk | exact hT2.tk | exact Cb | exact ⟨I⟩ | exact Bm (W := []) (by show 0 ≤ 1000; omega) | exact Bm (Nat.le_trans hT.m (by omega)) | exact Bm (Nat.le_trans hT2.m (by omega)) | exact C8 | exact C2 _ | exact ⟨E7 lyS0 I hT, rfl, by rw [Bc]; exact hz⟩ | exact (fun h => h) | exact (fun _ => rfl) | rfl | skip
     ·exact ⟨rfl, Bt rfl hcc, rfl, Bp rfl, rfl, rfl, trivial⟩
     ·exact ⟨Eg (m := 80) rfl rfl (Bp rfl) (Bp rfl), Ee (m := 81) rfl rfl (Bj rfl rfl), Ef (m := 82) rfl rfl (Bj rfl rfl), Ch (m := 104) rfl rfl, Ch (m := 105) rfl rfl, Cx (m := 0) rfl rfl, trivial⟩
    | false =>
     refine LRuns.step (Bb scX scL0 (Bh scX scTv scL0 mixed 14) mixed (sc_Ns inr n c i 0 ax [] []) ?_) rfl (by omega) (by omega) (mp5 80 81 82 83 84) ?_ ?_ rfl nx.N
     ·
      simp only [Alls, rg, cond_true, cond_false, decide_eq_true_eq, decide_eq_false_iff_not, Nat.add_zero, e0, eA, Bc, bne_self_eq_false, C0, hc]
      repeat' (with_reducible apply And.intro)
      all_goals first | omega | (with_reducible assumption) | (with_reducible exact trivial) | (with_reducible rfl) | exact o1 _ | exact o2 _ | exact o3 _ | exact Ti.nil.tk | exact hT.tk | exact hT2.tk | exact Cb | exact ⟨I⟩ | exact Bm (W := []) (by show 0 ≤ 1000; omega) | exact Bm (Nat.le_trans hT.m (by omega)) | exact Bm (Nat.le_trans hT2.m (by omega)) | exact C8 | exact C2 _ | exact ⟨E7 lyS0 I hT, rfl, by rw [Bc]; exact hz⟩ | exact (fun h => h) | exact (fun _ => rfl) | rfl | skip
     ·exact ⟨rfl, Bt rfl hcc, rfl, Bp rfl, rfl, rfl, trivial⟩
     ·exact ⟨Eg (m := 80) rfl rfl (Bp rfl) (Bp rfl), Ee (m := 81) rfl rfl rfl, Ef (m := 82) rfl rfl rfl, Cx (m := 0) rfl rfl, trivial⟩
  ·by_cases h4 : dInt ax (i * 4 + 0) = 4
   ·
    refine LRuns.step (H7 scX scL0 (Bh scX scTv scL0 mixed 14) mixed (sc_Ec inr n c i 0 ax [] []) ?_) rfl (by omega) (by omega) (mp5 80 104 105 83 106) ?_ ?_ rfl nx.E
    ·
     simp only [Alls, rg, cond_true, cond_false, decide_eq_true_eq, decide_eq_false_iff_not, Nat.add_zero, e0, eA, Bc, bne_self_eq_false, C0, decide_eq_true_eq]
     repeat' (with_reducible apply And.intro)
     all_goals first | omega | (with_reducible assumption) | (with_reducible exact trivial) | (with_reducible rfl) | exact o1 _ | exact o2 _ | exact o3 _ | exact Ti.nil.tk | exact hT.tk | exact hT2.tk | exact Cb | exact ⟨I⟩ | exact Bm (W := []) (by show 0 ≤ 1000; omega) | exact Bm (Nat.le_trans hT.m (by omega)) | exact Bm (Nat.le_trans hT2.m (by omega)) | exact C8 | exact C2 _ | exact ⟨E7 lyS0 I hT, rfl, by rw [Bc]; exact hz⟩ | exact (fun h => h) | exact (fun _ => rfl) | rfl | skip
    ·exact ⟨rfl, Bt rfl hcc, rfl, Bp rfl, rfl, rfl, trivial⟩
    ·exact ⟨Eg (m := 80) rfl rfl (Bp rfl) (Bp rfl), Ee (m := 104) rfl rfl rfl, Ef (m := 105) rfl rfl (Bj rfl rfl), Ch (m := 106) rfl rfl, Cx (m := 0) rfl rfl, trivial⟩
   ·cases hc : acCh (dInt ax (i * 4 + 0)) (dInt ax (i * 4 + 1)) [] (B4 ax (i * 4 + 2)) (B4 ax (i * 4 + 3)) with
    | true =>
     have hT2 : Ti (acQ (dInt ax (i * 4 + 0)) (dInt ax (i * 4 + 1)) [] (B4 ax (i * 4 + 2)) (B4 ax (i * 4 + 3))) := acQ_ti I Ti.nil
     have hz2 : (acQ (dInt ax (i * 4 + 0)) (dInt ax (i * 4 + 1)) [] (B4 ax (i * 4 + 2)) (B4 ax (i * 4 + 3))).isEmpty = false := acQ_ne hc
     refine LRuns.step (Bb scX scL0 (Bh scX scTv scL0 mixed 14) mixed (sc_En inr n c i 0 ax [] []) ?_) rfl (by omega) (by omega) (mp5 80 81 82 104 105) ?_ ?_ rfl (nx.R (acQ (dInt ax (i * 4 + 0)) (dInt ax (i * 4 + 1)) [] (B4 ax (i * 4 + 2)) (B4 ax (i * 4 + 3))) hT2 hz2)
     ·
      simp only [Alls, rg, cond_true, cond_false, decide_eq_true_eq, decide_eq_false_iff_not, Nat.add_zero, e0, eA, Bc, bne_self_eq_false, C0, hz2]
      repeat' (with_reducible apply And.intro)
      all_goals first | omega | (with_reducible assumption) | (with_reducible exact trivial) | (with_reducible rfl) | exact o1 _ | exact o2 _ | exact o3 _ | exact Ti.nil.tk | exact hT.tk | exact hT2.tk | exact Cb | exact ⟨I⟩ | exact Bm (W := []) (by show 0 ≤ 1000; omega) | exact Bm (Nat.le_trans hT.m (by omega)) | exact Bm (Nat.le_trans hT2.m (by omega)) | exact C8 | exact C2 _ | exact ⟨E7 lyS0 I hT, rfl, by rw [Bc]; exact hz⟩ | exact (fun h => h) | exact (fun _ => rfl) | rfl | skip
     ·exact ⟨rfl, Bt rfl hcc, rfl, Bp rfl, rfl, rfl, trivial⟩
     ·exact ⟨Eg (m := 80) rfl rfl (Bp rfl) (Bp rfl), Ee (m := 81) rfl rfl (Bj rfl rfl), Ef (m := 82) rfl rfl (Bj rfl rfl), Ch (m := 104) rfl rfl, Ch (m := 105) rfl rfl, Cx (m := 0) rfl rfl, trivial⟩
    | false =>
     refine LRuns.step (Bb scX scL0 (Bh scX scTv scL0 mixed 14) mixed (sc_Es inr n c i 0 ax [] []) ?_) rfl (by omega) (by omega) (mp5 80 81 82 83 84) ?_ ?_ rfl nx.E
     ·
      simp only [Alls, rg, cond_true, cond_false, decide_eq_true_eq, decide_eq_false_iff_not, Nat.add_zero, e0, eA, Bc, bne_self_eq_false, C0, hc]
      repeat' (with_reducible apply And.intro)
      all_goals first | omega | (with_reducible assumption) | (with_reducible exact trivial) | (with_reducible rfl) | exact o1 _ | exact o2 _ | exact o3 _ | exact Ti.nil.tk | exact hT.tk | exact hT2.tk | exact Cb | exact ⟨I⟩ | exact Bm (W := []) (by show 0 ≤ 1000; omega) | exact Bm (Nat.le_trans hT.m (by omega)) | exact Bm (Nat.le_trans hT2.m (by omega)) | exact C8 | exact C2 _ | exact ⟨E7 lyS0 I hT, rfl, by rw [Bc]; exact hz⟩ | exact (fun h => h) | exact (fun _ => rfl) | rfl | skip
     ·exact ⟨rfl, Bt rfl hcc, rfl, Bp rfl, rfl, rfl, trivial⟩
     ·exact ⟨Eg (m := 80) rfl rfl (Bp rfl) (Bp rfl), Ee (m := 81) rfl rfl rfl, Ef (m := 82) rfl rfl (Bj rfl rfl), Ch (m := 84) rfl rfl, Cx (m := 0) rfl rfl, trivial⟩
  ·by_cases h4 : dInt ax (i * 4 + 0) = 4
   ·
    refine LRuns.step (H7 scX scL0 (Bh scX scTv scL0 mixed 14) mixed (sc_Rc inr n c i ts.length ax (cpD ts) (cpD ts)) ?_) rfl (by omega) (by omega) (mp5 80 105 106 107 108) ?_ ?_ rfl (nx.R ts hT hz)
    ·
     simp only [Alls, rg, cond_true, cond_false, decide_eq_true_eq, decide_eq_false_iff_not, Nat.add_zero, e0, eA, Bc, bne_self_eq_false, C0, decide_eq_true_eq]
     repeat' (with_reducible apply And.intro)
     all_goals first | omega | (with_reducible assumption) | (with_reducible exact trivial) | (with_reducible rfl) | exact o1 _ | exact o2 _ | exact o3 _ | exact Ti.nil.tk | exact hT.tk | exact hT2.tk | exact Cb | exact ⟨I⟩ | exact Bm (W := []) (by show 0 ≤ 1000; omega) | exact Bm (Nat.le_trans hT.m (by omega)) | exact Bm (Nat.le_trans hT2.m (by omega)) | exact C8 | exact C2 _ | exact ⟨E7 lyS0 I hT, rfl, by rw [Bc]; exact hz⟩ | exact (fun h => h) | exact (fun _ => rfl) | rfl | skip
    ·exact ⟨rfl, Bt rfl hcc, rfl, Bp rfl, rfl, rfl, trivial⟩
    ·exact ⟨Eg (m := 80) rfl rfl (Bp rfl) (Bp rfl), Ee (m := 105) rfl rfl (Bj rfl rfl), Ef (m := 106) rfl rfl (Bj rfl rfl), Ch (m := 107) rfl rfl, Ch (m := 108) rfl rfl, Cx (m := 0) rfl rfl, trivial⟩
   ·cases hc : acCh (dInt ax (i * 4 + 0)) (dInt ax (i * 4 + 1)) ts (B4 ax (i * 4 + 2)) (B4 ax (i * 4 + 3)) with
    | true =>
     have hT2 : Ti (acQ (dInt ax (i * 4 + 0)) (dInt ax (i * 4 + 1)) (B2 (cpD ts)) (B4 ax (i * 4 + 2)) (B4 ax (i * 4 + 3))) := by rw [Bc]; exact acQ_ti I hT
     have hz2 : (acQ (dInt ax (i * 4 + 0)) (dInt ax (i * 4 + 1)) (B2 (cpD ts)) (B4 ax (i * 4 + 2)) (B4 ax (i * 4 + 3))).isEmpty = false := by rw [Bc]; exact acQ_ne hc
     rw [Bc] at hT2 hz2
     refine LRuns.step (Bb scX scL0 (Bh scX scTv scL0 mixed 14) mixed (sc_Rn inr n c i ts.length ax (cpD ts) (cpD ts)) ?_) rfl (by omega) (by omega) (mp5 80 81 82 105 106) ?_ ?_ rfl (nx.R (acQ (dInt ax (i * 4 + 0)) (dInt ax (i * 4 + 1)) (B2 (cpD ts)) (B4 ax (i * 4 + 2)) (B4 ax (i * 4 + 3))) (by rw [Bc]; exact hT2) (by rw [Bc]; exact hz2))
     ·
      simp only [Alls, rg, cond_true, cond_false, decide_eq_true_eq, decide_eq_false_iff_not, Nat.add_zero, e0, eA, Bc, bne_self_eq_false, C0, hz2]
      repeat' (with_reducible apply And.intro)
      all_goals first | omega | (with_reducible assumption) | (with_reducible exact trivial) | (with_reducible rfl) | exact o1 _ | exact o2 _ | exact o3 _ | exact Ti.nil.tk | exact hT.tk | exact hT2.tk | exact Cb | exact ⟨I⟩ | exact Bm (W := []) (by show 0 ≤ 1000; omega) | exact Bm (Nat.le_trans hT.m (by omega)) | exact Bm (Nat.le_trans hT2.m (by omega)) | exact C8 | exact C2 _ | exact ⟨E7 lyS0 I hT, rfl, by rw [Bc]; exact hz⟩ | exact (fun h => h) | exact (fun _ => rfl) | rfl | skip
     ·exact ⟨rfl, Bt rfl hcc, rfl, Bp rfl, rfl, rfl, trivial⟩
     ·exact ⟨Eg (m := 80) rfl rfl (Bp rfl) (Bp rfl), Ee (m := 81) rfl rfl (Bj rfl rfl), Ef (m := 82) rfl rfl (Bj rfl rfl), Ch (m := 105) rfl rfl, Ch (m := 106) rfl rfl, Cx (m := 0) rfl rfl, trivial⟩
    | false =>
     refine LRuns.step (Bb scX scL0 (Bh scX scTv scL0 mixed 14) mixed (sc_Rs inr n c i ts.length ax (cpD ts) (cpD ts)) ?_) rfl (by omega) (by omega) (mp5 80 81 82 83 84) ?_ ?_ rfl (nx.R ts hT hz)
     ·
      simp only [Alls, rg, cond_true, cond_false, decide_eq_true_eq, decide_eq_false_iff_not, Nat.add_zero, e0, eA, Bc, bne_self_eq_false, C0, hc]
      repeat' (with_reducible apply And.intro)
      all_goals first | omega | (with_reducible assumption) | (with_reducible exact trivial) | (with_reducible rfl) | exact o1 _ | exact o2 _ | exact o3 _ | exact Ti.nil.tk | exact hT.tk | exact hT2.tk | exact Cb | exact ⟨I⟩ | exact Bm (W := []) (by show 0 ≤ 1000; omega) | exact Bm (Nat.le_trans hT.m (by omega)) | exact Bm (Nat.le_trans hT2.m (by omega)) | exact C8 | exact C2 _ | exact ⟨E7 lyS0 I hT, rfl, by rw [Bc]; exact hz⟩ | exact (fun h => h) | exact (fun _ => rfl) | rfl | skip
     ·exact ⟨rfl, Bt rfl hcc, rfl, Bp rfl, rfl, rfl, trivial⟩
     ·exact ⟨Eg (m := 80) rfl rfl (Bp rfl) (Bp rfl), Ee (m := 81) rfl rfl (Bj rfl rfl), Ef (m := 82) rfl rfl (Bj rfl rfl), Ch (m := 83) rfl rfl, Ch (m := 84) rfl rfl, Cx (m := 0) rfl rfl, trivial⟩
theorem bys_of : ∀ {rows : List (List DV)}, (∀ r, r ∈ rows → ShsOk [.i .u8] r) → ∃ l : List Int, rows.flatten = byD l ∧ l.length = rows.length ∧ ∀ x ∈ l, 0 ≤ x ∧ x < 256
 | [], _ => ⟨[], rfl, rfl, fun x hx => by cases hx⟩
 | r :: rows, h => by
   obtain ⟨l, h1, h2, h3⟩ := bys_of (rows := rows) fun x hx => h x (List.mem_cons_of_mem _ hx)
   have hr := h r (List.mem_cons_self ..)
   simp only [ShsOk, ShOk] at hr
   obtain ⟨d, ds', rfl, ⟨z, rfl, hw⟩, rfl⟩ := hr
   refine ⟨z :: l, by rw [List.flatten_cons, h1]; rfl, by simp [h2], fun x hx => ?_⟩
   rcases List.mem_cons.1 hx with rfl | hx
   ·simp [Lit.wf, IntKind.min, IntKind.max, IntKind.signed, IntKind.bits] at hw
    omega
   ·exact h3 x hx
end Go.Proofs.Ytojakfnljopjbaa
