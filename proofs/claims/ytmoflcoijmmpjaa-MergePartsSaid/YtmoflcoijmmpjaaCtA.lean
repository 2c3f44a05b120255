/-
  Chapter 14: Cut: the rounds of its loops.
-/
import Derived.Test.YtmoflcoijmmpjaaPxB
namespace Go.Proofs.Ytmoflcoijmmpjaa
set_option linter.unusedSimpArgs false
set_option linter.unusedVariables false
set_option linter.unusedSectionVars false
open Go Go.RowKit
/-! ### a loop over an iterator: its code -/
def findRF : Code → Option (Code × Code)
  | .seq x y => match findRF x with | some c => some c | none => findRF y
  | .block _ x => findRF x
  | .scope x => findRF x
  | .loop x => findRF x
  | .cond _ x y => match findRF x with | some c => some c | none => findRF y
  | .rangeFunc _ _ as_ bd => some (as_, bd)
  | _ => none
def rfOf (P : Program) (f : FuncId) : Code × Code := match P.funcs[f]? with
  | some fn => (match fn.body with
    | some c => (match findRF c with | some r => r | none => (.skip, .skip))
    | none => (.skip, .skip))
  | none => (.skip, .skip)
def rfAs (P : Program) (f : FuncId) : Code := (rfOf P f).1
def rfBd (P : Program) (f : FuncId) : Code := (rfOf P f).2
def ctTab : FuncId → List Nat := fun f => bif Nat.beq f 24 then [12, 15, 24] else bif Nat.beq f 40 then [6] else bif Nat.beq f 44 then [9] else []
def ctSy : FuncId → Nat → Option Nat := orSy (lsSy 24 [(25, 0), (26, 32), (31, 44), (32, 0), (34, 50), (36, 44)]) (orSy (lsSy 44 [(12, 0), (16, 0), (24, 0), (27, 0), (28, 0)]) (lsSy 34 [(5, 43), (8, 43)]))
def ctV (L : LFun) (T : TFun) : Tv := ⟨T, cmpY, L, ctTab, ctSy, fun _ => [], fun _ => 24⟩
def ctTm (n c : Nat) (m : Int) : List Value := [.slice (some ⟨0, 0, none⟩) n c, .int .i64 m, undef, undef, .slice none 0 0, .int .i64 0, .pointer (some ⟨2, 0, none⟩), undef, undef, undef, undef, .int .i64 m, .bool false, .bool false, .int .i64 m, .bool false, .bool false, .slice (some ⟨0, 0, none⟩) n c, .int .i64 m, .func (.func 44) ⟨[]⟩ ⟨[.pointer (some ⟨3, 0, none⟩), .pointer (some ⟨4, 0, none⟩)]⟩, undef, undef, undef, undef, undef, undef, undef, undef, undef, undef, undef, undef, undef, undef, undef, undef, undef, undef]
def ctR (P : Program) (n c : Nat) (m : Int) : Rw := ⟨.round .ready none (ctTm n c m) #[20] (rfAs P 24) (rfBd P 24), []⟩
def ctG (P : Program) (n c : Nat) (m : Int) (ds : List DV) (out : Value) : Hp := (6, ctR P n c m) :: (5, ⟨.marks, []⟩) :: (4, ⟨.shut, [.int .i64 m]⟩) :: (3, ⟨.shut, [.slice (some ⟨0, 0, none⟩) n c]⟩) :: (2, ⟨.shut, [out]⟩) :: [(0, ⟨.sd ds, []⟩)]
def ctS (i : Nat) : List (Nat × Value) := [(0, .func (.yield 6) ⟨[]⟩ ⟨[]⟩), (1, .pointer (some ⟨3, 0, none⟩)), (2, .pointer (some ⟨4, 0, none⟩)), (4, iV i)]
def ctRb (P : Program) (n c : Nat) (m : Int) : Rw := ⟨.round .busy none (ctTm n c m) #[20] (rfAs P 24) (rfBd P 24), []⟩
def cdG (P : Program) (n c : Nat) (m : Int) (ds : List DV) (out : Value) : Hp := (6, ctRb P n c m) :: (5, ⟨.marks, []⟩) :: (4, ⟨.shut, [.int .i64 m]⟩) :: (3, ⟨.shut, [.slice (some ⟨0, 0, none⟩) n c]⟩) :: (2, ⟨.shut, [out]⟩) :: [(0, ⟨.sd ds, []⟩)]
def nlV : Value := .slice none 0 0
def zSl : List Value := [nlV]
def ouV (k : Nat) : Value := .slice (some ⟨80, 0, none⟩) k (capBig + 80)
def xxV (k : Nat) : Value := .slice (some ⟨120, 0, none⟩) k (capBig + 120)
def cdS (o q j : Nat) (x : Value) : List (Nat × Value) := [(6, .pointer (some ⟨2, 0, none⟩)), (8, x), (21, .slice (some ⟨0, o, none⟩) q q), (22, iV q), (23, iV j)]
theorem cd_nf (inr : Bool) (n c o q j : Nat) (m : Int) (ds : List DV) : prjP [6, 8, 21, 22, 23] 121 (codeZ (ctV noL noTz) Try.prog (runZ (ctV noL noTz) Try.prog 12) 24 inr 100000 (bodyIn Try.prog 24 8) (SL 38 (cdS o q j nlV)) ( cdG Try.prog n c m ds nlV) 121 [true]) =
  Res.ok ((Xt.normal, 38, [(6, Value.pointer (some (Addr.mk 2 0 none))), (8, Value.slice (some (Addr.mk 132 0 none)) 1 (capBig + 132)), (21, Value.slice (some (Addr.mk 0 o none)) q q), (22, Value.int IntKind.i64 (↑q :
 Int)), (23, Value.int IntKind.i64 (↑(j + 1) : Int))], [(132, Rw.mk (Kd.dp 3 [Value.slice none 0 0, Value.slice none 0 0, Value.bool false] [DV.sl (dLen ds (ixO o j 3 + 0)) none (List.map DV.fl (List.take (dLen ds (ixO o j
 3 + 0)) (dVals ds (ixO o j 3 + 0)))), DV.sl (dLen ds (ixO o j 3 + 1)) none (List.map DV.fl (List.take (dLen ds (ixO o j 3 + 1)) (dVals ds (ixO o j 3 + 1)))), DV.fl (Value.bool (dBool ds (ixO o j 3 + 2)))]) []), (6, Rw.mk
 (Kd.round LoopState.busy none [Value.slice (some (Addr.mk 0 0 none)) n c, Value.int IntKind.i64 m, Value.tuple (Array.mk []), Value.tuple (Array.mk []), Value.slice none 0 0, Value.int IntKind.i64 (0 : Int), Value.pointer
 (some (Addr.mk 2 0 none)), Value.tuple (Array.mk []), Value.tuple (Array.mk []), Value.tuple (Array.mk []), Value.tuple (Array.mk []), Value.int IntKind.i64 m, Value.bool false, Value.bool false, Value.int IntKind.i64 m,
 Value.bool false, Value.bool false, Value.slice (some (Addr.mk 0 0 none)) n c, Value.int IntKind.i64 m, Value.func (Fn.func 44) (Array.mk []) (Array.mk [Value.pointer (some (Addr.mk 3 0 none)), Value.pointer (some
 (Addr.mk 4 0 none))]), Value.tuple (Array.mk []), Value.tuple (Array.mk []), Value.tuple (Array.mk []), Value.tuple (Array.mk []), Value.tuple (Array.mk []), Value.tuple (Array.mk []), Value.tuple (Array.mk []),
 Value.tuple (Array.mk []), Value.tuple (Array.mk []), Value.tuple (Array.mk []), Value.tuple (Array.mk []), Value.tuple (Array.mk []), Value.tuple (Array.mk []), Value.tuple (Array.mk []), Value.tuple (Array.mk []),
 Value.tuple (Array.mk []), Value.tuple (Array.mk []), Value.tuple (Array.mk [])] (Array.mk [20]) (rfAs Try.prog 24) (rfBd Try.prog 24)) []), (5, Rw.mk Kd.marks []), (4, Rw.mk Kd.shut [Value.int IntKind.i64 m]), (3, Rw.mk
 Kd.shut [Value.slice (some (Addr.mk 0 0 none)) n c]), (2, Rw.mk Kd.shut [Value.slice none 0 0]), (0, Rw.mk (Kd.sd ds) [])], 133, [123], []), [], [decide ((↑j : Int) < (↑q : Int)) = true, (0 : Int) ≤ (↑j : Int) ∧ (↑j :
 Int) < (↑q : Int), ShOb Try.prog 32 false true ds (ixO o j 3) 121, dLen ds (ixO o j 3 + 0) * 1 ≤ 140737488355328 ∧ dLen ds (ixO o j 3 + 0) ≤ 9223372036854775807, List.length (List.take (dLen ds (ixO o j 3 + 0)) (dVals ds
 (ixO o j 3 + 0))) = dLen ds (ixO o j 3 + 0) * 1, ∀ (τ : Sg), renL τ (List.take (dLen ds (ixO o j 3 + 0)) (dVals ds (ixO o j 3 + 0))) = some (List.take (dLen ds (ixO o j 3 + 0)) (dVals ds (ixO o j 3 + 0))), dLen ds (ixO o
 j 3 + 0) ≤ List.length (dVals ds (ixO o j 3 + 0)), all1 (List.take (dLen ds (ixO o j 3 + 0)) (dVals ds (ixO o j 3 + 0))) = true, dLen ds (ixO o j 3 + 1) * 1 ≤ 140737488355328 ∧ dLen ds (ixO o j 3 + 1) ≤
 9223372036854775807, List.length (List.take (dLen ds (ixO o j 3 + 1)) (dVals ds (ixO o j 3 + 1))) = dLen ds (ixO o j 3 + 1) * 1, ∀ (τ : Sg), renL τ (List.take (dLen ds (ixO o j 3 + 1)) (dVals ds (ixO o j 3 + 1))) = some
 (List.take (dLen ds (ixO o j 3 + 1)) (dVals ds (ixO o j 3 + 1))), dLen ds (ixO o j 3 + 1) ≤ List.length (dVals ds (ixO o j 3 + 1)), all1 (List.take (dLen ds (ixO o j 3 + 1)) (dVals ds (ixO o j 3 + 1))) = true, 56 ≤
 140737488355328, (∀ (τ : Sg), renL τ (List.take (dLen ds (ixO o j 3 + 0)) (dVals ds (ixO o j 3 + 0))) = some (List.take (dLen ds (ixO o j 3 + 0)) (dVals ds (ixO o j 3 + 0)))) ∧ (dLen ds (ixO o (Int.toNat (↑j : Int)) 3 +
 0) = 0 → List.take (dLen ds (ixO o j 3 + 0)) (dVals ds (ixO o j 3 + 0)) = []), (∀ (τ : Sg), renL τ (List.take (dLen ds (ixO o j 3 + 1)) (dVals ds (ixO o j 3 + 1))) = some (List.take (dLen ds (ixO o j 3 + 1)) (dVals ds
 (ixO o j 3 + 1)))) ∧ (dLen ds (ixO o (Int.toNat (↑j : Int)) 3 + (0 + 1)) = 0 → List.take (dLen ds (ixO o j 3 + 1)) (dVals ds (ixO o j 3 + 1)) = []), 3 ≤ 3, true = true, rg IntKind.i64 (↑(j + 1) : Int)]) := by kernel_rfl
theorem cd_rf (inr : Bool) (n c o q j k : Nat) (m : Int) (ds os : List DV) : prjP [6, 8, 21, 22, 23] 121 (codeZ (ctV noL noTz) Try.prog (runZ (ctV noL noTz) Try.prog 12) 24 inr 100000 (bodyIn Try.prog 24 8) (SL 38 (cdS o q j nlV)) ( (80, ⟨.dp 1 zSl os, []⟩) :: cdG Try.prog n c m ds (ouV k)) 121 [true]) =
  Res.ok ((Xt.normal, 38, [(6, Value.pointer (some (Addr.mk 2 0 none))), (8, Value.slice (some (Addr.mk 132 0 none)) 1 (capBig + 132)), (21, Value.slice (some (Addr.mk 0 o none)) q q), (22, Value.int IntKind.i64 (↑q :
 Int)), (23, Value.int IntKind.i64 (↑(j + 1) : Int))], [(132, Rw.mk (Kd.dp 3 [Value.slice none 0 0, Value.slice none 0 0, Value.bool false] [DV.sl (dLen ds (ixO o j 3 + 0)) none (List.map DV.fl (List.take (dLen ds (ixO o j
 3 + 0)) (dVals ds (ixO o j 3 + 0)))), DV.sl (dLen ds (ixO o j 3 + 1)) none (List.map DV.fl (List.take (dLen ds (ixO o j 3 + 1)) (dVals ds (ixO o j 3 + 1)))), DV.fl (Value.bool (dBool ds (ixO o j 3 + 2)))]) []), (80, Rw.mk
 (Kd.dp 1 [Value.slice none 0 0] os) []), (6, Rw.mk (Kd.round LoopState.busy none [Value.slice (some (Addr.mk 0 0 none)) n c, Value.int IntKind.i64 m, Value.tuple (Array.mk []), Value.tuple (Array.mk []), Value.slice none
 0 0, Value.int IntKind.i64 (0 : Int), Value.pointer (some (Addr.mk 2 0 none)), Value.tuple (Array.mk []), Value.tuple (Array.mk []), Value.tuple (Array.mk []), Value.tuple (Array.mk []), Value.int IntKind.i64 m,
 Value.bool false, Value.bool false, Value.int IntKind.i64 m, Value.bool false, Value.bool false, Value.slice (some (Addr.mk 0 0 none)) n c, Value.int IntKind.i64 m, Value.func (Fn.func 44) (Array.mk []) (Array.mk
 [Value.pointer (some (Addr.mk 3 0 none)), Value.pointer (some (Addr.mk 4 0 none))]), Value.tuple (Array.mk []), Value.tuple (Array.mk []), Value.tuple (Array.mk []), Value.tuple (Array.mk []), Value.tuple (Array.mk []),
 Value.tuple (Array.mk []), Value.tuple (Array.mk []), Value.tuple (Array.mk []), Value.tuple (Array.mk []), Value.tuple (Array.mk []), Value.tuple (Array.mk []), Value.tuple (Array.mk []), Value.tuple (Array.mk []),
 Value.tuple (Array.mk []), Value.tuple (Array.mk []), Value.tuple (Array.mk []), Value.tuple (Array.mk []), Value.tuple (Array.mk [])] (Array.mk [20]) (rfAs Try.prog 24) (rfBd Try.prog 24)) []), (5, Rw.mk Kd.marks []),
 (4, Rw.mk Kd.shut [Value.int IntKind.i64 m]), (3, Rw.mk Kd.shut [Value.slice (some (Addr.mk 0 0 none)) n c]), (2, Rw.mk Kd.shut [Value.slice (some (Addr.mk 80 0 none)) k (capBig + 80)]), (0, Rw.mk (Kd.sd ds) [])], 133,
 [123], []), [], [decide ((↑j : Int) < (↑q : Int)) = true, (0 : Int) ≤ (↑j : Int) ∧ (↑j : Int) < (↑q : Int), ShOb Try.prog 32 false true ds (ixO o j 3) 121, dLen ds (ixO o j 3 + 0) * 1 ≤ 140737488355328 ∧ dLen ds (ixO o j
 3 + 0) ≤ 9223372036854775807, List.length (List.take (dLen ds (ixO o j 3 + 0)) (dVals ds (ixO o j 3 + 0))) = dLen ds (ixO o j 3 + 0) * 1, ∀ (τ : Sg), renL τ (List.take (dLen ds (ixO o j 3 + 0)) (dVals ds (ixO o j 3 + 0)))
 = some (List.take (dLen ds (ixO o j 3 + 0)) (dVals ds (ixO o j 3 + 0))), dLen ds (ixO o j 3 + 0) ≤ List.length (dVals ds (ixO o j 3 + 0)), all1 (List.take (dLen ds (ixO o j 3 + 0)) (dVals ds (ixO o j 3 + 0))) = true, dLen
 ds (ixO o j 3 + 1) * 1 ≤ 140737488355328 ∧ dLen ds (ixO o j 3 + 1) ≤ 9223372036854775807, List.length (List.take (dLen ds (ixO o j 3 + 1)) (dVals ds (ixO o j 3 + 1))) = dLen ds (ixO o j 3 + 1) * 1, ∀ (τ : Sg), renL τ
 (List.take (dLen ds (ixO o j 3 + 1)) (dVals ds (ixO o j 3 + 1))) = some (List.take (dLen ds (ixO o j 3 + 1)) (dVals ds (ixO o j 3 + 1))), dLen ds (ixO o j 3 + 1) ≤ List.length (dVals ds (ixO o j 3 + 1)), all1 (List.take
 (dLen ds (ixO o j 3 + 1)) (dVals ds (ixO o j 3 + 1))) = true, 56 ≤ 140737488355328, (∀ (τ : Sg), renL τ (List.take (dLen ds (ixO o j 3 + 0)) (dVals ds (ixO o j 3 + 0))) = some (List.take (dLen ds (ixO o j 3 + 0)) (dVals
 ds (ixO o j 3 + 0)))) ∧ (dLen ds (ixO o (Int.toNat (↑j : Int)) 3 + 0) = 0 → List.take (dLen ds (ixO o j 3 + 0)) (dVals ds (ixO o j 3 + 0)) = []), (∀ (τ : Sg), renL τ (List.take (dLen ds (ixO o j 3 + 1)) (dVals ds (ixO o j
 3 + 1))) = some (List.take (dLen ds (ixO o j 3 + 1)) (dVals ds (ixO o j 3 + 1)))) ∧ (dLen ds (ixO o (Int.toNat (↑j : Int)) 3 + (0 + 1)) = 0 → List.take (dLen ds (ixO o j 3 + 1)) (dVals ds (ixO o j 3 + 1)) = []), 3 ≤ 3,
 true = true, rg IntKind.i64 (↑(j + 1) : Int)]) := by kernel_rfl
theorem cd_nm (inr : Bool) (n c o q j : Nat) (m : Int) (xs : List DV) (ds : List DV) : prjP [6, 8, 21, 22, 23] 121 (codeZ (ctV noL noTz) Try.prog (runZ (ctV noL noTz) Try.prog 12) 24 inr 100000 (bodyIn Try.prog 24 8) (SL 38 (cdS o q j (xxV j))) ((120, ⟨.dp 3 zPr xs, []⟩) :: cdG Try.prog n c m ds nlV) 121 [true]) =
  Res.ok ((Xt.normal, 38, [(6, Value.pointer (some (Addr.mk 2 0 none))), (8, Value.slice (some (Addr.mk 132 0 none)) (j + 1) (capBig + 132)), (21, Value.slice (some (Addr.mk 0 o none)) q q), (22, Value.int IntKind.i64 (↑q :
 Int)), (23, Value.int IntKind.i64 (↑(j + 1) : Int))], [(132, Rw.mk (Kd.dp 3 [Value.slice none 0 0, Value.slice none 0 0, Value.bool false] (xs ++ [DV.sl (dLen ds (ixO o j 3 + 0)) none (List.map DV.fl (List.take (dLen ds
 (ixO o j 3 + 0)) (dVals ds (ixO o j 3 + 0)))), DV.sl (dLen ds (ixO o j 3 + 1)) none (List.map DV.fl (List.take (dLen ds (ixO o j 3 + 1)) (dVals ds (ixO o j 3 + 1)))), DV.fl (Value.bool (dBool ds (ixO o j 3 + 2)))])) []),
 (6, Rw.mk (Kd.round LoopState.busy none [Value.slice (some (Addr.mk 0 0 none)) n c, Value.int IntKind.i64 m, Value.tuple (Array.mk []), Value.tuple (Array.mk []), Value.slice none 0 0, Value.int IntKind.i64 (0 : Int),
 Value.pointer (some (Addr.mk 2 0 none)), Value.tuple (Array.mk []), Value.tuple (Array.mk []), Value.tuple (Array.mk []), Value.tuple (Array.mk []), Value.int IntKind.i64 m, Value.bool false, Value.bool false, Value.int
 IntKind.i64 m, Value.bool false, Value.bool false, Value.slice (some (Addr.mk 0 0 none)) n c, Value.int IntKind.i64 m, Value.func (Fn.func 44) (Array.mk []) (Array.mk [Value.pointer (some (Addr.mk 3 0 none)),
 Value.pointer (some (Addr.mk 4 0 none))]), Value.tuple (Array.mk []), Value.tuple (Array.mk []), Value.tuple (Array.mk []), Value.tuple (Array.mk []), Value.tuple (Array.mk []), Value.tuple (Array.mk []), Value.tuple
 (Array.mk []), Value.tuple (Array.mk []), Value.tuple (Array.mk []), Value.tuple (Array.mk []), Value.tuple (Array.mk []), Value.tuple (Array.mk []), Value.tuple (Array.mk []), Value.tuple (Array.mk []), Value.tuple
 (Array.mk []), Value.tuple (Array.mk []), Value.tuple (Array.mk []), Value.tuple (Array.mk [])] (Array.mk [20]) (rfAs Try.prog 24) (rfBd Try.prog 24)) []), (5, Rw.mk Kd.marks []), (4, Rw.mk Kd.shut [Value.int IntKind.i64
 m]), (3, Rw.mk Kd.shut [Value.slice (some (Addr.mk 0 0 none)) n c]), (2, Rw.mk Kd.shut [Value.slice none 0 0]), (0, Rw.mk (Kd.sd ds) [])], 133, [120, 123], []), [], [decide ((↑j : Int) < (↑q : Int)) = true, (0 : Int) ≤
 (↑j : Int) ∧ (↑j : Int) < (↑q : Int), ShOb Try.prog 32 false true ds (ixO o j 3) 121, dLen ds (ixO o j 3 + 0) * 1 ≤ 140737488355328 ∧ dLen ds (ixO o j 3 + 0) ≤ 9223372036854775807, List.length (List.take (dLen ds (ixO o j
 3 + 0)) (dVals ds (ixO o j 3 + 0))) = dLen ds (ixO o j 3 + 0) * 1, ∀ (τ : Sg), renL τ (List.take (dLen ds (ixO o j 3 + 0)) (dVals ds (ixO o j 3 + 0))) = some (List.take (dLen ds (ixO o j 3 + 0)) (dVals ds (ixO o j 3 +
 0))), dLen ds (ixO o j 3 + 0) ≤ List.length (dVals ds (ixO o j 3 + 0)), all1 (List.take (dLen ds (ixO o j 3 + 0)) (dVals ds (ixO o j 3 + 0))) = true, dLen ds (ixO o j 3 + 1) * 1 ≤ 140737488355328 ∧ dLen ds (ixO o j 3 + 1)
 ≤ 9223372036854775807, List.length (List.take (dLen ds (ixO o j 3 + 1)) (dVals ds (ixO o j 3 + 1))) = dLen ds (ixO o j 3 + 1) * 1, ∀ (τ : Sg), renL τ (List.take (dLen ds (ixO o j 3 + 1)) (dVals ds (ixO o j 3 + 1))) = some
 (List.take (dLen ds (ixO o j 3 + 1)) (dVals ds (ixO o j 3 + 1))), dLen ds (ixO o j 3 + 1) ≤ List.length (dVals ds (ixO o j 3 + 1)), all1 (List.take (dLen ds (ixO o j 3 + 1)) (dVals ds (ixO o j 3 + 1))) = true, capBig +
 120 = capBig + 120 ∧ List.length xs = j * 3, (j + 1) * 56 ≤ 140737488355328 ∧ j + 1 ≤ 9223372036854775807, (∀ (τ : Sg), renL τ (List.take (dLen ds (ixO o j 3 + 0)) (dVals ds (ixO o j 3 + 0))) = some (List.take (dLen ds
 (ixO o j 3 + 0)) (dVals ds (ixO o j 3 + 0)))) ∧ (dLen ds (ixO o (Int.toNat (↑j : Int)) 3 + 0) = 0 → List.take (dLen ds (ixO o j 3 + 0)) (dVals ds (ixO o j 3 + 0)) = []), (∀ (τ : Sg), renL τ (List.take (dLen ds (ixO o j 3
 + 1)) (dVals ds (ixO o j 3 + 1))) = some (List.take (dLen ds (ixO o j 3 + 1)) (dVals ds (ixO o j 3 + 1)))) ∧ (dLen ds (ixO o (Int.toNat (↑j : Int)) 3 + (0 + 1)) = 0 → List.take (dLen ds (ixO o j 3 + 1)) (dVals ds (ixO o j
 3 + 1)) = []), 3 ≤ 3, true = true, rg IntKind.i64 (↑(j + 1) : Int)]) := by kernel_rfl
theorem cd_rm (inr : Bool) (n c o q j k : Nat) (m : Int) (xs : List DV) (ds os : List DV) : prjP [6, 8, 21, 22, 23] 121 (codeZ (ctV noL noTz) Try.prog (runZ (ctV noL noTz) Try.prog 12) 24 inr 100000 (bodyIn Try.prog 24 8) (SL 38 (cdS o q j (xxV j))) ((120, ⟨.dp 3 zPr xs, []⟩) :: (80, ⟨.dp 1 zSl os, []⟩) :: cdG Try.prog n c m ds (ouV k)) 121 [true]) =
  Res.ok ((Xt.normal, 38, [(6, Value.pointer (some (Addr.mk 2 0 none))), (8, Value.slice (some (Addr.mk 132 0 none)) (j + 1) (capBig + 132)), (21, Value.slice (some (Addr.mk 0 o none)) q q), (22, Value.int IntKind.i64 (↑q :
 Int)), (23, Value.int IntKind.i64 (↑(j + 1) : Int))], [(132, Rw.mk (Kd.dp 3 [Value.slice none 0 0, Value.slice none 0 0, Value.bool false] (xs ++ [DV.sl (dLen ds (ixO o j 3 + 0)) none (List.map DV.fl (List.take (dLen ds
 (ixO o j 3 + 0)) (dVals ds (ixO o j 3 + 0)))), DV.sl (dLen ds (ixO o j 3 + 1)) none (List.map DV.fl (List.take (dLen ds (ixO o j 3 + 1)) (dVals ds (ixO o j 3 + 1)))), DV.fl (Value.bool (dBool ds (ixO o j 3 + 2)))])) []),
 (80, Rw.mk (Kd.dp 1 [Value.slice none 0 0] os) []), (6, Rw.mk (Kd.round LoopState.busy none [Value.slice (some (Addr.mk 0 0 none)) n c, Value.int IntKind.i64 m, Value.tuple (Array.mk []), Value.tuple (Array.mk []),
 Value.slice none 0 0, Value.int IntKind.i64 (0 : Int), Value.pointer (some (Addr.mk 2 0 none)), Value.tuple (Array.mk []), Value.tuple (Array.mk []), Value.tuple (Array.mk []), Value.tuple (Array.mk []), Value.int
 IntKind.i64 m, Value.bool false, Value.bool false, Value.int IntKind.i64 m, Value.bool false, Value.bool false, Value.slice (some (Addr.mk 0 0 none)) n c, Value.int IntKind.i64 m, Value.func (Fn.func 44) (Array.mk [])
 (Array.mk [Value.pointer (some (Addr.mk 3 0 none)), Value.pointer (some (Addr.mk 4 0 none))]), Value.tuple (Array.mk []), Value.tuple (Array.mk []), Value.tuple (Array.mk []), Value.tuple (Array.mk []), Value.tuple
 (Array.mk []), Value.tuple (Array.mk []), Value.tuple (Array.mk []), Value.tuple (Array.mk []), Value.tuple (Array.mk []), Value.tuple (Array.mk []), Value.tuple (Array.mk []), Value.tuple (Array.mk []), Value.tuple
 (Array.mk []), Value.tuple (Array.mk []), Value.tuple (Array.mk []), Value.tuple (Array.mk []), Value.tuple (Array.mk []), Value.tuple (Array.mk [])] (Array.mk [20]) (rfAs Try.prog 24) (rfBd Try.prog 24)) []), (5, Rw.mk
 Kd.marks []), (4, Rw.mk Kd.shut [Value.int IntKind.i64 m]), (3, Rw.mk Kd.shut [Value.slice (some (Addr.mk 0 0 none)) n c]), (2, Rw.mk Kd.shut [Value.slice (some (Addr.mk 80 0 none)) k (capBig + 80)]), (0, Rw.mk (Kd.sd ds)
 [])], 133, [120, 123], []), [], [decide ((↑j : Int) < (↑q : Int)) = true, (0 : Int) ≤ (↑j : Int) ∧ (↑j : Int) < (↑q : Int), ShOb Try.prog 32 false true ds (ixO o j 3) 121, dLen ds (ixO o j 3 + 0) * 1 ≤ 140737488355328 ∧
 dLen ds (ixO o j 3 + 0) ≤ 9223372036854775807, List.length (List.take (dLen ds (ixO o j 3 + 0)) (dVals ds (ixO o j 3 + 0))) = dLen ds (ixO o j 3 + 0) * 1, ∀ (τ : Sg), renL τ (List.take (dLen ds (ixO o j 3 + 0)) (dVals ds
 (ixO o j 3 + 0))) = some (List.take (dLen ds (ixO o j 3 + 0)) (dVals ds (ixO o j 3 + 0))), dLen ds (ixO o j 3 + 0) ≤ List.length (dVals ds (ixO o j 3 + 0)), all1 (List.take (dLen ds (ixO o j 3 + 0)) (dVals ds (ixO o j 3 +
 0))) = true, dLen ds (ixO o j 3 + 1) * 1 ≤ 140737488355328 ∧ dLen ds (ixO o j 3 + 1) ≤ 9223372036854775807, List.length (List.take (dLen ds (ixO o j 3 + 1)) (dVals ds (ixO o j 3 + 1))) = dLen ds (ixO o j 3 + 1) * 1, ∀ (τ
 : Sg), renL τ (List.take (dLen ds (ixO o j 3 + 1)) (dVals ds (ixO o j 3 + 1))) = some (List.take (dLen ds (ixO o j 3 + 1)) (dVals ds (ixO o j 3 + 1))), dLen ds (ixO o j 3 + 1) ≤ List.length (dVals ds (ixO o j 3 + 1)),
 all1 (List.take (dLen ds (ixO o j 3 + 1)) (dVals ds (ixO o j 3 + 1))) = true, capBig + 120 = capBig + 120 ∧ List.length xs = j * 3, (j + 1) * 56 ≤ 140737488355328 ∧ j + 1 ≤ 9223372036854775807, (∀ (τ : Sg), renL τ
 (List.take (dLen ds (ixO o j 3 + 0)) (dVals ds (ixO o j 3 + 0))) = some (List.take (dLen ds (ixO o j 3 + 0)) (dVals ds (ixO o j 3 + 0)))) ∧ (dLen ds (ixO o (Int.toNat (↑j : Int)) 3 + 0) = 0 → List.take (dLen ds (ixO o j 3
 + 0)) (dVals ds (ixO o j 3 + 0)) = []), (∀ (τ : Sg), renL τ (List.take (dLen ds (ixO o j 3 + 1)) (dVals ds (ixO o j 3 + 1))) = some (List.take (dLen ds (ixO o j 3 + 1)) (dVals ds (ixO o j 3 + 1)))) ∧ (dLen ds (ixO o
 (Int.toNat (↑j : Int)) 3 + (0 + 1)) = 0 → List.take (dLen ds (ixO o j 3 + 1)) (dVals ds (ixO o j 3 + 1)) = []), 3 ≤ 3, true = true, rg IntKind.i64 (↑(j + 1) : Int)]) := by kernel_rfl
theorem cd_ne (inr : Bool) (n c o q j : Nat) (m : Int) (xs : List DV) (ds : List DV) : prjP [6, 8] 121 (codeZ (ctV noL noTz) Try.prog (runZ (ctV noL noTz) Try.prog 12) 24 inr 100000 (bodyIn Try.prog 24 8) (SL 38 (cdS o q j (xxV j))) ((120, ⟨.dp 3 zPr xs, []⟩) :: cdG Try.prog n c m ds nlV) 121 [false]) =
  Res.ok ((Xt.exit 2, 38, [(6, Value.pointer (some (Addr.mk 2 0 none))), (8, Value.slice (some (Addr.mk 120 0 none)) j (capBig + 120))], [(120, Rw.mk (Kd.dp 3 [Value.slice none 0 0, Value.slice none 0 0, Value.bool false]
 xs) []), (6, Rw.mk (Kd.round LoopState.busy none [Value.slice (some (Addr.mk 0 0 none)) n c, Value.int IntKind.i64 m, Value.tuple (Array.mk []), Value.tuple (Array.mk []), Value.slice none 0 0, Value.int IntKind.i64 (0 :
 Int), Value.pointer (some (Addr.mk 2 0 none)), Value.tuple (Array.mk []), Value.tuple (Array.mk []), Value.tuple (Array.mk []), Value.tuple (Array.mk []), Value.int IntKind.i64 m, Value.bool false, Value.bool false,
 Value.int IntKind.i64 m, Value.bool false, Value.bool false, Value.slice (some (Addr.mk 0 0 none)) n c, Value.int IntKind.i64 m, Value.func (Fn.func 44) (Array.mk []) (Array.mk [Value.pointer (some (Addr.mk 3 0 none)),
 Value.pointer (some (Addr.mk 4 0 none))]), Value.tuple (Array.mk []), Value.tuple (Array.mk []), Value.tuple (Array.mk []), Value.tuple (Array.mk []), Value.tuple (Array.mk []), Value.tuple (Array.mk []), Value.tuple
 (Array.mk []), Value.tuple (Array.mk []), Value.tuple (Array.mk []), Value.tuple (Array.mk []), Value.tuple (Array.mk []), Value.tuple (Array.mk []), Value.tuple (Array.mk []), Value.tuple (Array.mk []), Value.tuple
 (Array.mk []), Value.tuple (Array.mk []), Value.tuple (Array.mk []), Value.tuple (Array.mk [])] (Array.mk [20]) (rfAs Try.prog 24) (rfBd Try.prog 24)) []), (5, Rw.mk Kd.marks []), (4, Rw.mk Kd.shut [Value.int IntKind.i64
 m]), (3, Rw.mk Kd.shut [Value.slice (some (Addr.mk 0 0 none)) n c]), (2, Rw.mk Kd.shut [Value.slice none 0 0]), (0, Rw.mk (Kd.sd ds) [])], 121, [], []), [], [decide ((↑j : Int) < (↑q : Int)) = false]) := by kernel_rfl
theorem cd_re (inr : Bool) (n c o q j k : Nat) (m : Int) (xs : List DV) (ds os : List DV) : prjP [6, 8] 121 (codeZ (ctV noL noTz) Try.prog (runZ (ctV noL noTz) Try.prog 12) 24 inr 100000 (bodyIn Try.prog 24 8) (SL 38 (cdS o q j (xxV j))) ((120, ⟨.dp 3 zPr xs, []⟩) :: (80, ⟨.dp 1 zSl os, []⟩) :: cdG Try.prog n c m ds (ouV k)) 121 [false]) =
  Res.ok ((Xt.exit 2, 38, [(6, Value.pointer (some (Addr.mk 2 0 none))), (8, Value.slice (some (Addr.mk 120 0 none)) j (capBig + 120))], [(120, Rw.mk (Kd.dp 3 [Value.slice none 0 0, Value.slice none 0 0, Value.bool false]
 xs) []), (80, Rw.mk (Kd.dp 1 [Value.slice none 0 0] os) []), (6, Rw.mk (Kd.round LoopState.busy none [Value.slice (some (Addr.mk 0 0 none)) n c, Value.int IntKind.i64 m, Value.tuple (Array.mk []), Value.tuple (Array.mk
 []), Value.slice none 0 0, Value.int IntKind.i64 (0 : Int), Value.pointer (some (Addr.mk 2 0 none)), Value.tuple (Array.mk []), Value.tuple (Array.mk []), Value.tuple (Array.mk []), Value.tuple (Array.mk []), Value.int
 IntKind.i64 m, Value.bool false, Value.bool false, Value.int IntKind.i64 m, Value.bool false, Value.bool false, Value.slice (some (Addr.mk 0 0 none)) n c, Value.int IntKind.i64 m, Value.func (Fn.func 44) (Array.mk [])
 (Array.mk [Value.pointer (some (Addr.mk 3 0 none)), Value.pointer (some (Addr.mk 4 0 none))]), Value.tuple (Array.mk []), Value.tuple (Array.mk []), Value.tuple (Array.mk []), Value.tuple (Array.mk []), Value.tuple
 (Array.mk []), Value.tuple (Array.mk []), Value.tuple (Array.mk []), Value.tuple (Array.mk []), Value.tuple (Array.mk []), Value.tuple (Array.mk []), Value.tuple (Array.mk []), Value.tuple (Array.mk []), Value.tuple
 (Array.mk []), Value.tuple (Array.mk []), Value.tuple (Array.mk []), Value.tuple (Array.mk []), Value.tuple (Array.mk []), Value.tuple (Array.mk [])] (Array.mk [20]) (rfAs Try.prog 24) (rfBd Try.prog 24)) []), (5, Rw.mk
 Kd.marks []), (4, Rw.mk Kd.shut [Value.int IntKind.i64 m]), (3, Rw.mk Kd.shut [Value.slice (some (Addr.mk 0 0 none)) n c]), (2, Rw.mk Kd.shut [Value.slice (some (Addr.mk 80 0 none)) k (capBig + 80)]), (0, Rw.mk (Kd.sd ds)
 [])], 121, [], []), [], [decide ((↑j : Int) < (↑q : Int)) = false]) := by kernel_rfl
end Go.Proofs.Ytmoflcoijmmpjaa
