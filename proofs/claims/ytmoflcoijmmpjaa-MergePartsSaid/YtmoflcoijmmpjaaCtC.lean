/-
  Chapter 14: Cut: the rounds of its iterator.
-/
import Derived.Test.YtmoflcoijmmpjaaCtB
namespace Go.Proofs.Ytmoflcoijmmpjaa
set_option linter.unusedSimpArgs false
set_option linter.unusedVariables false
set_option linter.unusedSectionVars false
open Go Go.RowKit
theorem ct_nf (inr : Bool) (n c i : Nat) (m : Int) (ds os : List DV) : prjP [0, 1, 2, 4] 81 (codeZ (ctV (cdLo Try.prog) noTz) Try.prog (runZ (ctV (cdLo Try.prog) noTz) Try.prog 12) 44 inr 100000 (bodyIn Try.prog 44 1) (SL 31 (ctS i)) ( ctG Try.prog n c m ds nlV) 81 [true]) =
  Res.ok ((Xt.normal, 31, [(0, Value.func (Fn.yield 6) (Array.mk []) (Array.mk [])), (1, Value.pointer (some (Addr.mk 3 0 none))), (2, Value.pointer (some (Addr.mk 4 0 none))), (4, Value.int IntKind.i64 (adI (↑i : Int)
 m))], [(203, Rw.mk (Kd.dp 1 [Value.slice none 0 0] [DV.sl (sbN (Int.toNat (adI (↑i : Int) (if (↑(sbN n i) : Int) < m then (↑(sbN n i) : Int) else m))) i) none (cdX ds (loO (some (Value.int IntKind.i64 (↑i : Int))) 0 i
 (Int.toNat (adI (↑i : Int) (if (↑(sbN n i) : Int) < m then (↑(sbN n i) : Int) else m))) 3) (sbN (Int.toNat (adI (↑i : Int) (if (↑(sbN n i) : Int) < m then (↑(sbN n i) : Int) else m))) i))]) []), (200, Rw.mk (Kd.sd (cdX ds
 (loO (some (Value.int IntKind.i64 (↑i : Int))) 0 i (Int.toNat (adI (↑i : Int) (if (↑(sbN n i) : Int) < m then (↑(sbN n i) : Int) else m))) 3) (sbN (Int.toNat (adI (↑i : Int) (if (↑(sbN n i) : Int) < m then (↑(sbN n i) :
 Int) else m))) i))) []), (6, Rw.mk (Kd.round LoopState.ready none [Value.slice (some (Addr.mk 0 0 none)) n c, Value.int IntKind.i64 m, Value.tuple (Array.mk []), Value.tuple (Array.mk []), Value.slice none 0 0, Value.int
 IntKind.i64 (0 : Int), Value.pointer (some (Addr.mk 2 0 none)), Value.tuple (Array.mk []), Value.tuple (Array.mk []), Value.tuple (Array.mk []), Value.tuple (Array.mk []), Value.int IntKind.i64 m, Value.bool false,
 Value.bool false, Value.int IntKind.i64 m, Value.bool false, Value.bool false, Value.slice (some (Addr.mk 0 0 none)) n c, Value.int IntKind.i64 m, Value.func (Fn.func 44) (Array.mk []) (Array.mk [Value.pointer (some
 (Addr.mk 3 0 none)), Value.pointer (some (Addr.mk 4 0 none))]), Value.tuple (Array.mk []), Value.tuple (Array.mk []), Value.tuple (Array.mk []), Value.tuple (Array.mk []), Value.tuple (Array.mk []), Value.tuple (Array.mk
 []), Value.tuple (Array.mk []), Value.tuple (Array.mk []), Value.tuple (Array.mk []), Value.tuple (Array.mk []), Value.tuple (Array.mk []), Value.tuple (Array.mk []), Value.tuple (Array.mk []), Value.tuple (Array.mk []),
 Value.tuple (Array.mk []), Value.tuple (Array.mk []), Value.tuple (Array.mk []), Value.tuple (Array.mk [])] (Array.mk [20]) (rfAs Try.prog 24) (rfBd Try.prog 24)) []), (5, Rw.mk Kd.marks []), (4, Rw.mk Kd.shut [Value.int
 IntKind.i64 m]), (3, Rw.mk Kd.shut [Value.slice (some (Addr.mk 0 0 none)) n c]), (2, Rw.mk Kd.shut [Value.slice (some (Addr.mk 203 0 none)) 1 (capBig + 203)]), (0, Rw.mk (Kd.sd ds) [])], 204, [6, 2, 120], []), [], [decide
 ((↑i : Int) < (↑n : Int)) = true, c < 18446744073709551616, (0 : Int) ≤ (↑i : Int) ∧ (↑i : Int) ≤ (↑n : Int), rg IntKind.i64 (adI (↑i : Int) (if (↑(sbN n i) : Int) < m then (↑(sbN n i) : Int) else m)), rg IntKind.i64 (adI
 (↑i : Int) (if (↑(sbN n i) : Int) < m then (↑(sbN n i) : Int) else m)), c < 18446744073709551616, (0 : Int) ≤ adI (↑i : Int) (if (↑(sbN n i) : Int) < m then (↑(sbN n i) : Int) else m) ∧ adI (↑i : Int) (if (↑(sbN n i) :
 Int) < m then (↑(sbN n i) : Int) else m) ≤ (↑c : Int), (0 : Int) ≤ adI (↑i : Int) (if (↑(sbN n i) : Int) < m then (↑(sbN n i) : Int) else m) ∧ adI (↑i : Int) (if (↑(sbN n i) : Int) < m then (↑(sbN n i) : Int) else m) ≤
 (↑(Int.toNat (adI (↑i : Int) (if (↑(sbN n i) : Int) < m then (↑(sbN n i) : Int) else m))) : Int), (0 : Int) ≤ (↑i : Int) ∧ (↑i : Int) ≤ (↑(Int.toNat (adI (↑i : Int) (if (↑(sbN n i) : Int) < m then (↑(sbN n i) : Int) else
 m))) : Int), bodyIn Try.prog (24 : FuncId) 8 = bodyIn Try.prog (24 : FuncId) 8, [(6, Value.pointer (some (Addr.mk 2 0 none))), (8, Value.slice none 0 0), (21, Value.slice (some (Addr.mk 0 (loO (some (Value.int IntKind.i64
 (↑i : Int))) 0 i (Int.toNat (adI (↑i : Int) (if (↑(sbN n i) : Int) < m then (↑(sbN n i) : Int) else m))) 3) none)) (sbN (Int.toNat (adI (↑i : Int) (if (↑(sbN n i) : Int) < m then (↑(sbN n i) : Int) else m))) i) (sbN
 (Int.toNat (adI (↑i : Int) (if (↑(sbN n i) : Int) < m then (↑(sbN n i) : Int) else m))) i)), (22, Value.int IntKind.i64 (↑(sbN (Int.toNat (adI (↑i : Int) (if (↑(sbN n i) : Int) < m then (↑(sbN n i) : Int) else m))) i) :
 Int)), (23, Value.int IntKind.i64 (0 : Int))] = cdS (loO (some (Value.int IntKind.i64 (↑i : Int))) 0 i (Int.toNat (adI (↑i : Int) (if (↑(sbN n i) : Int) < m then (↑(sbN n i) : Int) else m))) 3) (sbN (Int.toNat (adI (↑i :
 Int) (if (↑(sbN n i) : Int) < m then (↑(sbN n i) : Int) else m))) i) 0 (Value.slice none 0 0), setH [(6, ctR Try.prog n c m), (5, Rw.mk Kd.marks []), (4, Rw.mk Kd.shut [Value.int IntKind.i64 m]), (3, Rw.mk Kd.shut
 [Value.slice (some (Addr.mk 0 0 none)) n c]), (2, Rw.mk Kd.shut [Value.slice none 0 0]), (0, Rw.mk (Kd.sd ds) [])] 6 (Rw.mk (Kd.round LoopState.busy none [Value.slice (some (Addr.mk 0 0 none)) n c, Value.int IntKind.i64
 m, Value.tuple #[], Value.tuple #[], Value.slice none 0 0, Value.int IntKind.i64 (0 : Int), Value.pointer (some (Addr.mk 2 0 none)), Value.tuple #[], Value.tuple #[], Value.tuple #[], Value.tuple #[], Value.int
 IntKind.i64 m, Value.bool false, Value.bool false, Value.int IntKind.i64 m, Value.bool false, Value.bool false, Value.slice (some (Addr.mk 0 0 none)) n c, Value.int IntKind.i64 m, Value.func (Fn.func 44) (Array.mk [])
 (Array.mk [Value.pointer (some (Addr.mk 3 0 none)), Value.pointer (some (Addr.mk 4 0 none))]), Value.tuple #[], Value.tuple #[], Value.tuple #[], Value.tuple #[], Value.tuple #[], Value.tuple #[], Value.tuple #[],
 Value.tuple #[], Value.tuple #[], Value.tuple #[], Value.tuple #[], Value.tuple #[], Value.tuple #[], Value.tuple #[], Value.tuple #[], Value.tuple #[], Value.tuple #[], Value.tuple #[]] #[20] (rfAs Try.prog 24) (rfBd
 Try.prog 24)) []) = cdB Try.prog n c m ds none, 81 = 81, CdSt ds n c (loO (some (Value.int IntKind.i64 (↑i : Int))) 0 i (Int.toNat (adI (↑i : Int) (if (↑(sbN n i) : Int) < m then (↑(sbN n i) : Int) else m))) 3) (sbN
 (Int.toNat (adI (↑i : Int) (if (↑(sbN n i) : Int) < m then (↑(sbN n i) : Int) else m))) i), capBig + 120 = capBig + 120, 24 ≤ 140737488355328, CdA.q (CdA.mk n c (loO (some (iV i)) 0 (Int.toNat (↑i : Int)) (Int.toNat (adI
 (↑i : Int) (if (↑(sbN n (Int.toNat (↑i : Int))) : Int) < m then (↑(sbN n (Int.toNat (↑i : Int))) : Int) else m))) 3) (sbN (Int.toNat (adI (↑i : Int) (if (↑(sbN n (Int.toNat (↑i : Int))) : Int) < m then (↑(sbN n (Int.toNat
 (↑i : Int))) : Int) else m))) (Int.toNat (↑i : Int))) m ds none) = 0 → cdX ds (loO (some (Value.int IntKind.i64 (↑i : Int))) 0 i (Int.toNat (adI (↑i : Int) (if (↑(sbN n i) : Int) < m then (↑(sbN n i) : Int) else m))) 3)
 (sbN (Int.toNat (adI (↑i : Int) (if (↑(sbN n i) : Int) < m then (↑(sbN n i) : Int) else m))) i) = [], 1 ≤ 1, true = true, rg IntKind.i64 (adI (↑i : Int) m)]) := by kernel_rfl
theorem ct_nm (inr : Bool) (n c i k : Nat) (m : Int) (ds os : List DV) : prjP [0, 1, 2, 4] 81 (codeZ (ctV (cdLo Try.prog) noTz) Try.prog (runZ (ctV (cdLo Try.prog) noTz) Try.prog 12) 44 inr 100000 (bodyIn Try.prog 44 1) (SL 31 (ctS i)) ((80, ⟨.dp 1 zSl os, []⟩) :: ctG Try.prog n c m ds (ouV k)) 81 [true]) =
  Res.ok ((Xt.normal, 31, [(0, Value.func (Fn.yield 6) (Array.mk []) (Array.mk [])), (1, Value.pointer (some (Addr.mk 3 0 none))), (2, Value.pointer (some (Addr.mk 4 0 none))), (4, Value.int IntKind.i64 (adI (↑i : Int)
 m))], [(203, Rw.mk (Kd.dp 1 [Value.slice none 0 0] (os ++ [DV.sl (sbN (Int.toNat (adI (↑i : Int) (if (↑(sbN n i) : Int) < m then (↑(sbN n i) : Int) else m))) i) none (cdX ds (loO (some (Value.int IntKind.i64 (↑i : Int)))
 0 i (Int.toNat (adI (↑i : Int) (if (↑(sbN n i) : Int) < m then (↑(sbN n i) : Int) else m))) 3) (sbN (Int.toNat (adI (↑i : Int) (if (↑(sbN n i) : Int) < m then (↑(sbN n i) : Int) else m))) i))])) []), (200, Rw.mk (Kd.sd
 (cdX ds (loO (some (Value.int IntKind.i64 (↑i : Int))) 0 i (Int.toNat (adI (↑i : Int) (if (↑(sbN n i) : Int) < m then (↑(sbN n i) : Int) else m))) 3) (sbN (Int.toNat (adI (↑i : Int) (if (↑(sbN n i) : Int) < m then (↑(sbN
 n i) : Int) else m))) i))) []), (6, Rw.mk (Kd.round LoopState.ready none [Value.slice (some (Addr.mk 0 0 none)) n c, Value.int IntKind.i64 m, Value.tuple (Array.mk []), Value.tuple (Array.mk []), Value.slice none 0 0,
 Value.int IntKind.i64 (0 : Int), Value.pointer (some (Addr.mk 2 0 none)), Value.tuple (Array.mk []), Value.tuple (Array.mk []), Value.tuple (Array.mk []), Value.tuple (Array.mk []), Value.int IntKind.i64 m, Value.bool
 false, Value.bool false, Value.int IntKind.i64 m, Value.bool false, Value.bool false, Value.slice (some (Addr.mk 0 0 none)) n c, Value.int IntKind.i64 m, Value.func (Fn.func 44) (Array.mk []) (Array.mk [Value.pointer
 (some (Addr.mk 3 0 none)), Value.pointer (some (Addr.mk 4 0 none))]), Value.tuple (Array.mk []), Value.tuple (Array.mk []), Value.tuple (Array.mk []), Value.tuple (Array.mk []), Value.tuple (Array.mk []), Value.tuple
 (Array.mk []), Value.tuple (Array.mk []), Value.tuple (Array.mk []), Value.tuple (Array.mk []), Value.tuple (Array.mk []), Value.tuple (Array.mk []), Value.tuple (Array.mk []), Value.tuple (Array.mk []), Value.tuple
 (Array.mk []), Value.tuple (Array.mk []), Value.tuple (Array.mk []), Value.tuple (Array.mk []), Value.tuple (Array.mk [])] (Array.mk [20]) (rfAs Try.prog 24) (rfBd Try.prog 24)) []), (5, Rw.mk Kd.marks []), (4, Rw.mk
 Kd.shut [Value.int IntKind.i64 m]), (3, Rw.mk Kd.shut [Value.slice (some (Addr.mk 0 0 none)) n c]), (2, Rw.mk Kd.shut [Value.slice (some (Addr.mk 203 0 none)) (k + 1) (capBig + 203)]), (0, Rw.mk (Kd.sd ds) [])], 204, [6,
 2, 80, 120], []), [], [decide ((↑i : Int) < (↑n : Int)) = true, c < 18446744073709551616, (0 : Int) ≤ (↑i : Int) ∧ (↑i : Int) ≤ (↑n : Int), rg IntKind.i64 (adI (↑i : Int) (if (↑(sbN n i) : Int) < m then (↑(sbN n i) : Int)
 else m)), rg IntKind.i64 (adI (↑i : Int) (if (↑(sbN n i) : Int) < m then (↑(sbN n i) : Int) else m)), c < 18446744073709551616, (0 : Int) ≤ adI (↑i : Int) (if (↑(sbN n i) : Int) < m then (↑(sbN n i) : Int) else m) ∧ adI
 (↑i : Int) (if (↑(sbN n i) : Int) < m then (↑(sbN n i) : Int) else m) ≤ (↑c : Int), (0 : Int) ≤ adI (↑i : Int) (if (↑(sbN n i) : Int) < m then (↑(sbN n i) : Int) else m) ∧ adI (↑i : Int) (if (↑(sbN n i) : Int) < m then
 (↑(sbN n i) : Int) else m) ≤ (↑(Int.toNat (adI (↑i : Int) (if (↑(sbN n i) : Int) < m then (↑(sbN n i) : Int) else m))) : Int), (0 : Int) ≤ (↑i : Int) ∧ (↑i : Int) ≤ (↑(Int.toNat (adI (↑i : Int) (if (↑(sbN n i) : Int) < m
 then (↑(sbN n i) : Int) else m))) : Int), bodyIn Try.prog (24 : FuncId) 8 = bodyIn Try.prog (24 : FuncId) 8, [(6, Value.pointer (some (Addr.mk 2 0 none))), (8, Value.slice none 0 0), (21, Value.slice (some (Addr.mk 0 (loO
 (some (Value.int IntKind.i64 (↑i : Int))) 0 i (Int.toNat (adI (↑i : Int) (if (↑(sbN n i) : Int) < m then (↑(sbN n i) : Int) else m))) 3) none)) (sbN (Int.toNat (adI (↑i : Int) (if (↑(sbN n i) : Int) < m then (↑(sbN n i) :
 Int) else m))) i) (sbN (Int.toNat (adI (↑i : Int) (if (↑(sbN n i) : Int) < m then (↑(sbN n i) : Int) else m))) i)), (22, Value.int IntKind.i64 (↑(sbN (Int.toNat (adI (↑i : Int) (if (↑(sbN n i) : Int) < m then (↑(sbN n i)
 : Int) else m))) i) : Int)), (23, Value.int IntKind.i64 (0 : Int))] = cdS (loO (some (Value.int IntKind.i64 (↑i : Int))) 0 i (Int.toNat (adI (↑i : Int) (if (↑(sbN n i) : Int) < m then (↑(sbN n i) : Int) else m))) 3) (sbN
 (Int.toNat (adI (↑i : Int) (if (↑(sbN n i) : Int) < m then (↑(sbN n i) : Int) else m))) i) 0 (Value.slice none 0 0), setH [(80, Rw.mk (Kd.dp 1 [Value.slice none 0 0] os) []), (6, ctR Try.prog n c m), (5, Rw.mk Kd.marks
 []), (4, Rw.mk Kd.shut [Value.int IntKind.i64 m]), (3, Rw.mk Kd.shut [Value.slice (some (Addr.mk 0 0 none)) n c]), (2, Rw.mk Kd.shut [Value.slice (some (Addr.mk 80 0 none)) k (capBig + 80)]), (0, Rw.mk (Kd.sd ds) [])] 6
 (Rw.mk (Kd.round LoopState.busy none [Value.slice (some (Addr.mk 0 0 none)) n c, Value.int IntKind.i64 m, Value.tuple #[], Value.tuple #[], Value.slice none 0 0, Value.int IntKind.i64 (0 : Int), Value.pointer (some
 (Addr.mk 2 0 none)), Value.tuple #[], Value.tuple #[], Value.tuple #[], Value.tuple #[], Value.int IntKind.i64 m, Value.bool false, Value.bool false, Value.int IntKind.i64 m, Value.bool false, Value.bool false,
 Value.slice (some (Addr.mk 0 0 none)) n c, Value.int IntKind.i64 m, Value.func (Fn.func 44) (Array.mk []) (Array.mk [Value.pointer (some (Addr.mk 3 0 none)), Value.pointer (some (Addr.mk 4 0 none))]), Value.tuple #[],
 Value.tuple #[], Value.tuple #[], Value.tuple #[], Value.tuple #[], Value.tuple #[], Value.tuple #[], Value.tuple #[], Value.tuple #[], Value.tuple #[], Value.tuple #[], Value.tuple #[], Value.tuple #[], Value.tuple #[],
 Value.tuple #[], Value.tuple #[], Value.tuple #[], Value.tuple #[]] #[20] (rfAs Try.prog 24) (rfBd Try.prog 24)) []) = cdB Try.prog n c m ds (some (k, os)), 81 = 81, CdSt ds n c (loO (some (Value.int IntKind.i64 (↑i :
 Int))) 0 i (Int.toNat (adI (↑i : Int) (if (↑(sbN n i) : Int) < m then (↑(sbN n i) : Int) else m))) 3) (sbN (Int.toNat (adI (↑i : Int) (if (↑(sbN n i) : Int) < m then (↑(sbN n i) : Int) else m))) i), capBig + 120 = capBig
 + 120, capBig + 80 = capBig + 80 ∧ List.length os = k * 1, (k + 1) * 24 ≤ 140737488355328 ∧ k + 1 ≤ 9223372036854775807, CdA.q (CdA.mk n c (loO (some (iV i)) 0 (Int.toNat (↑i : Int)) (Int.toNat (adI (↑i : Int) (if (↑(sbN
 n (Int.toNat (↑i : Int))) : Int) < m then (↑(sbN n (Int.toNat (↑i : Int))) : Int) else m))) 3) (sbN (Int.toNat (adI (↑i : Int) (if (↑(sbN n (Int.toNat (↑i : Int))) : Int) < m then (↑(sbN n (Int.toNat (↑i : Int))) : Int)
 else m))) (Int.toNat (↑i : Int))) m ds (some (k, os))) = 0 → cdX ds (loO (some (Value.int IntKind.i64 (↑i : Int))) 0 i (Int.toNat (adI (↑i : Int) (if (↑(sbN n i) : Int) < m then (↑(sbN n i) : Int) else m))) 3) (sbN
 (Int.toNat (adI (↑i : Int) (if (↑(sbN n i) : Int) < m then (↑(sbN n i) : Int) else m))) i) = [], 1 ≤ 1, true = true, rg IntKind.i64 (adI (↑i : Int) m)]) := by kernel_rfl
theorem ct_ne (inr : Bool) (n c i : Nat) (m : Int) (ds os : List DV) : prjP [] 81 (codeZ (ctV (cdLo Try.prog) noTz) Try.prog (runZ (ctV (cdLo Try.prog) noTz) Try.prog 12) 44 inr 100000 (bodyIn Try.prog 44 1) (SL 31 (ctS i)) ( ctG Try.prog n c m ds nlV) 81 [false]) =
  Res.ok ((Xt.exit 0, 31, [], [(6, Rw.mk (Kd.round LoopState.ready none [Value.slice (some (Addr.mk 0 0 none)) n c, Value.int IntKind.i64 m, Value.tuple (Array.mk []), Value.tuple (Array.mk []), Value.slice none 0 0,
 Value.int IntKind.i64 (0 : Int), Value.pointer (some (Addr.mk 2 0 none)), Value.tuple (Array.mk []), Value.tuple (Array.mk []), Value.tuple (Array.mk []), Value.tuple (Array.mk []), Value.int IntKind.i64 m, Value.bool
 false, Value.bool false, Value.int IntKind.i64 m, Value.bool false, Value.bool false, Value.slice (some (Addr.mk 0 0 none)) n c, Value.int IntKind.i64 m, Value.func (Fn.func 44) (Array.mk []) (Array.mk [Value.pointer
 (some (Addr.mk 3 0 none)), Value.pointer (some (Addr.mk 4 0 none))]), Value.tuple (Array.mk []), Value.tuple (Array.mk []), Value.tuple (Array.mk []), Value.tuple (Array.mk []), Value.tuple (Array.mk []), Value.tuple
 (Array.mk []), Value.tuple (Array.mk []), Value.tuple (Array.mk []), Value.tuple (Array.mk []), Value.tuple (Array.mk []), Value.tuple (Array.mk []), Value.tuple (Array.mk []), Value.tuple (Array.mk []), Value.tuple
 (Array.mk []), Value.tuple (Array.mk []), Value.tuple (Array.mk []), Value.tuple (Array.mk []), Value.tuple (Array.mk [])] (Array.mk [20]) (rfAs Try.prog 24) (rfBd Try.prog 24)) []), (5, Rw.mk Kd.marks []), (4, Rw.mk
 Kd.shut [Value.int IntKind.i64 m]), (3, Rw.mk Kd.shut [Value.slice (some (Addr.mk 0 0 none)) n c]), (2, Rw.mk Kd.shut [Value.slice none 0 0]), (0, Rw.mk (Kd.sd ds) [])], 81, [], []), [], [decide ((↑i : Int) < (↑n : Int))
 = false]) := by kernel_rfl
theorem ct_nz (inr : Bool) (n c i k : Nat) (m : Int) (ds os : List DV) : prjP [] 81 (codeZ (ctV (cdLo Try.prog) noTz) Try.prog (runZ (ctV (cdLo Try.prog) noTz) Try.prog 12) 44 inr 100000 (bodyIn Try.prog 44 1) (SL 31 (ctS i)) ((80, ⟨.dp 1 zSl os, []⟩) :: ctG Try.prog n c m ds (ouV k)) 81 [false]) =
  Res.ok ((Xt.exit 0, 31, [], [(80, Rw.mk (Kd.dp 1 [Value.slice none 0 0] os) []), (6, Rw.mk (Kd.round LoopState.ready none [Value.slice (some (Addr.mk 0 0 none)) n c, Value.int IntKind.i64 m, Value.tuple (Array.mk []),
 Value.tuple (Array.mk []), Value.slice none 0 0, Value.int IntKind.i64 (0 : Int), Value.pointer (some (Addr.mk 2 0 none)), Value.tuple (Array.mk []), Value.tuple (Array.mk []), Value.tuple (Array.mk []), Value.tuple
 (Array.mk []), Value.int IntKind.i64 m, Value.bool false, Value.bool false, Value.int IntKind.i64 m, Value.bool false, Value.bool false, Value.slice (some (Addr.mk 0 0 none)) n c, Value.int IntKind.i64 m, Value.func
 (Fn.func 44) (Array.mk []) (Array.mk [Value.pointer (some (Addr.mk 3 0 none)), Value.pointer (some (Addr.mk 4 0 none))]), Value.tuple (Array.mk []), Value.tuple (Array.mk []), Value.tuple (Array.mk []), Value.tuple
 (Array.mk []), Value.tuple (Array.mk []), Value.tuple (Array.mk []), Value.tuple (Array.mk []), Value.tuple (Array.mk []), Value.tuple (Array.mk []), Value.tuple (Array.mk []), Value.tuple (Array.mk []), Value.tuple
 (Array.mk []), Value.tuple (Array.mk []), Value.tuple (Array.mk []), Value.tuple (Array.mk []), Value.tuple (Array.mk []), Value.tuple (Array.mk []), Value.tuple (Array.mk [])] (Array.mk [20]) (rfAs Try.prog 24) (rfBd
 Try.prog 24)) []), (5, Rw.mk Kd.marks []), (4, Rw.mk Kd.shut [Value.int IntKind.i64 m]), (3, Rw.mk Kd.shut [Value.slice (some (Addr.mk 0 0 none)) n c]), (2, Rw.mk Kd.shut [Value.slice (some (Addr.mk 80 0 none)) k (capBig
 + 80)]), (0, Rw.mk (Kd.sd ds) [])], 81, [], []), [], [decide ((↑i : Int) < (↑n : Int)) = false]) := by kernel_rfl
end Go.Proofs.Ytmoflcoijmmpjaa
