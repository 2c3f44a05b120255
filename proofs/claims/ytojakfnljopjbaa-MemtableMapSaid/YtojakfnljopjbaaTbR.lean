/-
  Chapter 12: Between: the rounds of its loop.
-/
import Derived.Test.YtojakfnljopjbaaTbQ
namespace Go.Proofs.Ytojakfnljopjbaa
set_option linter.unusedSimpArgs false
set_option linter.unusedVariables false
set_option linter.unusedSectionVars false
open Go Go.RowKit
/-! ### a loop over an iterator: its code -/
def findRF : Code → Option (Code × Code)
  | .seq x y => match findRF x with | some c => some c | none => findRF y
  | .block _ x => findRF x
  | .scope x => findRF x
  | .loop x => findRF x
  | .cond _ x y => match findRF x with | some c => some c | none => findRF y
  | .rangeFunc _ _ as_ bd => some (as_, bd)
  | _ => none
def rfOf (P : Program) (f : FuncId) : Code × Code := match P.funcs[f]? with
  | some fn => (match fn.body with
    | some c => (match findRF c with | some r => r | none => (.skip, .skip))
    | none => (.skip, .skip))
  | none => (.skip, .skip)
def rfAs (P : Program) (f : FuncId) : Code := (rfOf P f).1
def rfBd (P : Program) (f : FuncId) : Code := (rfOf P f).2
def btSy : FuncId → Nat → Option Nat := orSy (lsSy 50 [(20, 0), (24, 0), (25, 32), (43, 0)]) (orSy (lsSy 37 [(8, 43)]) (orSy (lsSy 48 [(4, 0), (7, 43)]) (lsSy 23 [(19, 45)])))
def btTab : FuncId → List Nat := fun f => bif Nat.beq f 50 then [23, 28, 34] else []
def btV (L : LFun) (T : TFun) : Tv := ⟨T, cmpY, L, btTab, btSy, fun _ => [], fun _ => 23⟩
def btH (n c : Nat) (ds : List DV) (k1 k2 : List Value) : Hp := [(0, ⟨.ow, tbC n c⟩), (1, ⟨.sw ds, []⟩), (2, ⟨.ow, k1⟩), (4, ⟨.ow, k2⟩)]
def kyB (m : Nat) : Value := .slice (some ⟨4, 0, none⟩) m (capBig + 4)
def btTm (m1 m2 : Nat) : List Value := [ptA, kyA m1, kyB m2, undef, undef, undef, .slice none 0 0, .pointer (some ⟨6, 0, none⟩), undef, ptA, .bool false, ptA, kyA m1, kyB m2, .func (.func 50) ⟨[]⟩ ⟨[.pointer (some ⟨7, 0, none⟩), .pointer (some ⟨8, 0, none⟩), .pointer (some ⟨9, 0, none⟩)]⟩, undef, undef, undef, undef, undef, undef]
def rcR (P : Program) (m1 m2 : Nat) : Rw := ⟨.round .ready none (btTm m1 m2) #[15] (rfAs P 23) (rfBd P 23), []⟩
def btG (P : Program) (n c m1 m2 : Nat) (ds : List DV) (k1 k2 : List Value) (out : Value) : Hp := (11, rcR P m1 m2) :: (10, ⟨.marks, []⟩) :: (9, ⟨.shut, [kyB m2]⟩) :: (8, ⟨.shut, [kyA m1]⟩) :: (7, ⟨.shut, [ptA]⟩) :: (6, ⟨.shut, [out]⟩) :: btH n c ds k1 k2
def btS (o q d i : Nat) : List (Nat × Value) := [(0, .func (.yield 11) ⟨[]⟩ ⟨[]⟩), (1, .pointer (some ⟨7, 0, none⟩)), (2, .pointer (some ⟨8, 0, none⟩)), (3, .pointer (some ⟨9, 0, none⟩)), (20, .slice (some ⟨1, o, none⟩) q d), (21, iV q), (22, iV i)]
theorem bt_go1 (inr : Bool) (n c m1 m2 o q d i : Nat) (ds : List DV) (k1 k2 : List Value) : prjP [0, 1, 2, 3, 20, 21, 22] 81 (codeZ (btV noL bsT) Try.prog (runZ (btV noL bsT) Try.prog 12) 50 inr 100000 (bodyIn Try.prog 50 2) (SL 44 (btS o q d i)) ( btG Try.prog n c m1 m2 ds k1 k2 (.slice none 0 0)) 81 [true, false]) =
  Res.ok ((Xt.normal, 44, [(0, Value.func (Fn.yield 11) (Array.mk []) (Array.mk [])), (1, Value.pointer (some (Addr.mk 7 0 none))), (2, Value.pointer (some (Addr.mk 8 0 none))), (3, Value.pointer (some (Addr.mk 9 0 none))),
 (20, Value.slice (some (Addr.mk 1 o none)) q d), (21, Value.int IntKind.i64 (↑q : Int)), (22, Value.int IntKind.i64 (↑(i + 1) : Int))], [(94, Rw.mk (Kd.df 3 [Value.slice none 0 0, Value.slice none 0 0, Value.bool false]
 [DV.sl (dLen ds (ixO o i 3 + 0)) none (List.map DV.fl (List.take (dLen ds (ixO o i 3 + 0)) (dVals ds (ixO o i 3 + 0)))), DV.sl (dLen ds (ixO o i 3 + 1)) none (List.map DV.fl (List.take (dLen ds (ixO o i 3 + 1)) (dVals ds
 (ixO o i 3 + 1)))), DV.fl (Value.bool (dBool ds (ixO o i 3 + 2)))]) []), (11, Rw.mk (Kd.round LoopState.ready none [Value.pointer (some (Addr.mk 0 0 none)), Value.slice (some (Addr.mk 2 0 none)) m1 (capBig + 2),
 Value.slice (some (Addr.mk 4 0 none)) m2 (capBig + 4), Value.tuple (Array.mk []), Value.tuple (Array.mk []), Value.tuple (Array.mk []), Value.slice none 0 0, Value.pointer (some (Addr.mk 6 0 none)), Value.tuple (Array.mk
 []), Value.pointer (some (Addr.mk 0 0 none)), Value.bool false, Value.pointer (some (Addr.mk 0 0 none)), Value.slice (some (Addr.mk 2 0 none)) m1 (capBig + 2), Value.slice (some (Addr.mk 4 0 none)) m2 (capBig + 4),
 Value.func (Fn.func 50) (Array.mk []) (Array.mk [Value.pointer (some (Addr.mk 7 0 none)), Value.pointer (some (Addr.mk 8 0 none)), Value.pointer (some (Addr.mk 9 0 none))]), Value.tuple (Array.mk []), Value.tuple
 (Array.mk []), Value.tuple (Array.mk []), Value.tuple (Array.mk []), Value.tuple (Array.mk []), Value.tuple (Array.mk [])] (Array.mk [15]) (rfAs Try.prog 23) (rfBd Try.prog 23)) []), (10, Rw.mk Kd.marks []), (9, Rw.mk
 Kd.shut [Value.slice (some (Addr.mk 4 0 none)) m2 (capBig + 4)]), (8, Rw.mk Kd.shut [Value.slice (some (Addr.mk 2 0 none)) m1 (capBig + 2)]), (7, Rw.mk Kd.shut [Value.pointer (some (Addr.mk 0 0 none))]), (6, Rw.mk Kd.shut
 [Value.slice (some (Addr.mk 94 0 none)) 1 (capBig + 94)]), (0, Rw.mk Kd.ow [Value.bool true, Value.slice (some (Addr.mk 1 0 none)) n c]), (1, Rw.mk (Kd.sw ds) []), (2, Rw.mk Kd.ow k1), (4, Rw.mk Kd.ow k2)], 95, [11, 6,
 91, 83], []), [], [decide ((↑i : Int) < (↑q : Int)) = true, (0 : Int) ≤ (↑i : Int) ∧ (↑i : Int) < (↑q : Int), ShOb Try.prog 29 false true ds (ixO o i 3) 81, decide ((↑m2 : Int) > (0 : Int)) = false, 0 < dLen ds (ixO o i 3
 + 0), dLen ds (ixO o i 3 + 0) * 1 ≤ 140737488355328 ∧ dLen ds (ixO o i 3 + 0) ≤ 9223372036854775807, List.length (List.take (dLen ds (ixO o i 3 + 0)) (dVals ds (ixO o i 3 + 0))) = dLen ds (ixO o i 3 + 0) * 1, ∀ (τ : Sg),
 renL τ (List.take (dLen ds (ixO o i 3 + 0)) (dVals ds (ixO o i 3 + 0))) = some (List.take (dLen ds (ixO o i 3 + 0)) (dVals ds (ixO o i 3 + 0))), dLen ds (ixO o i 3 + 0) ≤ List.length (dVals ds (ixO o i 3 + 0)), all1
 (List.take (dLen ds (ixO o i 3 + 0)) (dVals ds (ixO o i 3 + 0))) = true, dLen ds (ixO o i 3 + 1) * 1 ≤ 140737488355328 ∧ dLen ds (ixO o i 3 + 1) ≤ 9223372036854775807, List.length (List.take (dLen ds (ixO o i 3 + 1))
 (dVals ds (ixO o i 3 + 1))) = dLen ds (ixO o i 3 + 1) * 1, ∀ (τ : Sg), renL τ (List.take (dLen ds (ixO o i 3 + 1)) (dVals ds (ixO o i 3 + 1))) = some (List.take (dLen ds (ixO o i 3 + 1)) (dVals ds (ixO o i 3 + 1))), dLen
 ds (ixO o i 3 + 1) ≤ List.length (dVals ds (ixO o i 3 + 1)), all1 (List.take (dLen ds (ixO o i 3 + 1)) (dVals ds (ixO o i 3 + 1))) = true, 56 ≤ 140737488355328, (∀ (τ : Sg), renL τ (List.take (dLen ds (ixO o i 3 + 0))
 (dVals ds (ixO o i 3 + 0))) = some (List.take (dLen ds (ixO o i 3 + 0)) (dVals ds (ixO o i 3 + 0)))) ∧ (dLen ds (ixO o (Int.toNat (↑i : Int)) (TypeInfo.size (Tables.types (Program.toTables Try.prog))[29]) + 0) = 0 →
 List.take (dLen ds (ixO o i 3 + 0)) (dVals ds (ixO o i 3 + 0)) = []), (∀ (τ : Sg), renL τ (List.take (dLen ds (ixO o i 3 + 1)) (dVals ds (ixO o i 3 + 1))) = some (List.take (dLen ds (ixO o i 3 + 1)) (dVals ds (ixO o i 3 +
 1)))) ∧ (dLen ds (ixO o (Int.toNat (↑i : Int)) (TypeInfo.size (Tables.types (Program.toTables Try.prog))[29]) + (0 + 1)) = 0 → List.take (dLen ds (ixO o i 3 + 1)) (dVals ds (ixO o i 3 + 1)) = []), 3 ≤ 3, true = true, rg
 IntKind.i64 (↑(i + 1) : Int)]) := by kernel_rfl
theorem bt_go2 (inr : Bool) (n c m1 m2 o q d i : Nat) (ds : List DV) (k1 k2 : List Value) : prjP [0, 1, 2, 3, 20, 21, 22] 81 (codeZ (btV noL bsT) Try.prog (runZ (btV noL bsT) Try.prog 12) 50 inr 100000 (bodyIn Try.prog 50 2) (SL 44 (btS o q d i)) ( btG Try.prog n c m1 m2 ds k1 k2 (.slice none 0 0)) 81 [true, true, false]) =
  Res.ok ((Xt.normal, 44, [(0, Value.func (Fn.yield 11) (Array.mk []) (Array.mk [])), (1, Value.pointer (some (Addr.mk 7 0 none))), (2, Value.pointer (some (Addr.mk 8 0 none))), (3, Value.pointer (some (Addr.mk 9 0 none))),
 (20, Value.slice (some (Addr.mk 1 o none)) q d), (21, Value.int IntKind.i64 (↑q : Int)), (22, Value.int IntKind.i64 (↑(i + 1) : Int))], [(94, Rw.mk (Kd.df 3 [Value.slice none 0 0, Value.slice none 0 0, Value.bool false]
 [DV.sl (dLen ds (ixO o i 3 + 0)) none (List.map DV.fl (List.take (dLen ds (ixO o i 3 + 0)) (dVals ds (ixO o i 3 + 0)))), DV.sl (dLen ds (ixO o i 3 + 1)) none (List.map DV.fl (List.take (dLen ds (ixO o i 3 + 1)) (dVals ds
 (ixO o i 3 + 1)))), DV.fl (Value.bool (dBool ds (ixO o i 3 + 2)))]) []), (11, Rw.mk (Kd.round LoopState.ready none [Value.pointer (some (Addr.mk 0 0 none)), Value.slice (some (Addr.mk 2 0 none)) m1 (capBig + 2),
 Value.slice (some (Addr.mk 4 0 none)) m2 (capBig + 4), Value.tuple (Array.mk []), Value.tuple (Array.mk []), Value.tuple (Array.mk []), Value.slice none 0 0, Value.pointer (some (Addr.mk 6 0 none)), Value.tuple (Array.mk
 []), Value.pointer (some (Addr.mk 0 0 none)), Value.bool false, Value.pointer (some (Addr.mk 0 0 none)), Value.slice (some (Addr.mk 2 0 none)) m1 (capBig + 2), Value.slice (some (Addr.mk 4 0 none)) m2 (capBig + 4),
 Value.func (Fn.func 50) (Array.mk []) (Array.mk [Value.pointer (some (Addr.mk 7 0 none)), Value.pointer (some (Addr.mk 8 0 none)), Value.pointer (some (Addr.mk 9 0 none))]), Value.tuple (Array.mk []), Value.tuple
 (Array.mk []), Value.tuple (Array.mk []), Value.tuple (Array.mk []), Value.tuple (Array.mk []), Value.tuple (Array.mk [])] (Array.mk [15]) (rfAs Try.prog 23) (rfBd Try.prog 23)) []), (10, Rw.mk Kd.marks []), (9, Rw.mk
 Kd.shut [Value.slice (some (Addr.mk 4 0 none)) m2 (capBig + 4)]), (8, Rw.mk Kd.shut [Value.slice (some (Addr.mk 2 0 none)) m1 (capBig + 2)]), (7, Rw.mk Kd.shut [Value.pointer (some (Addr.mk 0 0 none))]), (6, Rw.mk Kd.shut
 [Value.slice (some (Addr.mk 94 0 none)) 1 (capBig + 94)]), (0, Rw.mk Kd.ow [Value.bool true, Value.slice (some (Addr.mk 1 0 none)) n c]), (1, Rw.mk (Kd.sw ds) []), (2, Rw.mk Kd.ow k1), (4, Rw.mk Kd.ow k2)], 95, [11, 6,
 91, 83], []), [], [decide ((↑i : Int) < (↑q : Int)) = true, (0 : Int) ≤ (↑i : Int) ∧ (↑i : Int) < (↑q : Int), ShOb Try.prog 29 false true ds (ixO o i 3) 81, decide ((↑m2 : Int) > (0 : Int)) = true, BytI (dLen ds (ixO o i
 3 + 0)) (dVals ds (ixO o i 3 + 0)), BytI m2 k2, decide (cmpI (intsOf (dVals ds (ixO o i 3 + 0))) (intsOf k2) ≥ (0 : Int)) = false, 0 < dLen ds (ixO o i 3 + 0), dLen ds (ixO o i 3 + 0) * 1 ≤ 140737488355328 ∧ dLen ds (ixO
 o i 3 + 0) ≤ 9223372036854775807, List.length (List.take (dLen ds (ixO o i 3 + 0)) (dVals ds (ixO o i 3 + 0))) = dLen ds (ixO o i 3 + 0) * 1, ∀ (τ : Sg), renL τ (List.take (dLen ds (ixO o i 3 + 0)) (dVals ds (ixO o i 3 +
 0))) = some (List.take (dLen ds (ixO o i 3 + 0)) (dVals ds (ixO o i 3 + 0))), dLen ds (ixO o i 3 + 0) ≤ List.length (dVals ds (ixO o i 3 + 0)), all1 (List.take (dLen ds (ixO o i 3 + 0)) (dVals ds (ixO o i 3 + 0))) = true,
 dLen ds (ixO o i 3 + 1) * 1 ≤ 140737488355328 ∧ dLen ds (ixO o i 3 + 1) ≤ 9223372036854775807, List.length (List.take (dLen ds (ixO o i 3 + 1)) (dVals ds (ixO o i 3 + 1))) = dLen ds (ixO o i 3 + 1) * 1, ∀ (τ : Sg), renL τ
 (List.take (dLen ds (ixO o i 3 + 1)) (dVals ds (ixO o i 3 + 1))) = some (List.take (dLen ds (ixO o i 3 + 1)) (dVals ds (ixO o i 3 + 1))), dLen ds (ixO o i 3 + 1) ≤ List.length (dVals ds (ixO o i 3 + 1)), all1 (List.take
 (dLen ds (ixO o i 3 + 1)) (dVals ds (ixO o i 3 + 1))) = true, 56 ≤ 140737488355328, (∀ (τ : Sg), renL τ (List.take (dLen ds (ixO o i 3 + 0)) (dVals ds (ixO o i 3 + 0))) = some (List.take (dLen ds (ixO o i 3 + 0)) (dVals
 ds (ixO o i 3 + 0)))) ∧ (dLen ds (ixO o (Int.toNat (↑i : Int)) (TypeInfo.size (Tables.types (Program.toTables Try.prog))[29]) + 0) = 0 → List.take (dLen ds (ixO o i 3 + 0)) (dVals ds (ixO o i 3 + 0)) = []), (∀ (τ : Sg),
 renL τ (List.take (dLen ds (ixO o i 3 + 1)) (dVals ds (ixO o i 3 + 1))) = some (List.take (dLen ds (ixO o i 3 + 1)) (dVals ds (ixO o i 3 + 1)))) ∧ (dLen ds (ixO o (Int.toNat (↑i : Int)) (TypeInfo.size (Tables.types
 (Program.toTables Try.prog))[29]) + (0 + 1)) = 0 → List.take (dLen ds (ixO o i 3 + 1)) (dVals ds (ixO o i 3 + 1)) = []), 3 ≤ 3, true = true, rg IntKind.i64 (↑(i + 1) : Int)]) := by kernel_rfl
theorem bt_end (inr : Bool) (n c m1 m2 o q d i : Nat) (ds : List DV) (k1 k2 : List Value) : prjP [] 81 (codeZ (btV noL bsT) Try.prog (runZ (btV noL bsT) Try.prog 12) 50 inr 100000 (bodyIn Try.prog 50 2) (SL 44 (btS o q d i)) ( btG Try.prog n c m1 m2 ds k1 k2 (.slice none 0 0)) 81 [false]) =
  Res.ok ((Xt.exit 0, 44, [], [(11, Rw.mk (Kd.round LoopState.ready none [Value.pointer (some (Addr.mk 0 0 none)), Value.slice (some (Addr.mk 2 0 none)) m1 (capBig + 2), Value.slice (some (Addr.mk 4 0 none)) m2 (capBig +
 4), Value.tuple (Array.mk []), Value.tuple (Array.mk []), Value.tuple (Array.mk []), Value.slice none 0 0, Value.pointer (some (Addr.mk 6 0 none)), Value.tuple (Array.mk []), Value.pointer (some (Addr.mk 0 0 none)),
 Value.bool false, Value.pointer (some (Addr.mk 0 0 none)), Value.slice (some (Addr.mk 2 0 none)) m1 (capBig + 2), Value.slice (some (Addr.mk 4 0 none)) m2 (capBig + 4), Value.func (Fn.func 50) (Array.mk []) (Array.mk
 [Value.pointer (some (Addr.mk 7 0 none)), Value.pointer (some (Addr.mk 8 0 none)), Value.pointer (some (Addr.mk 9 0 none))]), Value.tuple (Array.mk []), Value.tuple (Array.mk []), Value.tuple (Array.mk []), Value.tuple
 (Array.mk []), Value.tuple (Array.mk []), Value.tuple (Array.mk [])] (Array.mk [15]) (rfAs Try.prog 23) (rfBd Try.prog 23)) []), (10, Rw.mk Kd.marks []), (9, Rw.mk Kd.shut [Value.slice (some (Addr.mk 4 0 none)) m2 (capBig
 + 4)]), (8, Rw.mk Kd.shut [Value.slice (some (Addr.mk 2 0 none)) m1 (capBig + 2)]), (7, Rw.mk Kd.shut [Value.pointer (some (Addr.mk 0 0 none))]), (6, Rw.mk Kd.shut [Value.slice none 0 0]), (0, Rw.mk Kd.ow [Value.bool
 true, Value.slice (some (Addr.mk 1 0 none)) n c]), (1, Rw.mk (Kd.sw ds) []), (2, Rw.mk Kd.ow k1), (4, Rw.mk Kd.ow k2)], 81, [], []), [], [decide ((↑i : Int) < (↑q : Int)) = false]) := by kernel_rfl
theorem bt_stop (inr : Bool) (n c m1 m2 o q d i : Nat) (ds : List DV) (k1 k2 : List Value) : prjP [] 81 (codeZ (btV noL bsT) Try.prog (runZ (btV noL bsT) Try.prog 12) 50 inr 100000 (bodyIn Try.prog 50 2) (SL 44 (btS o q d i)) ( btG Try.prog n c m1 m2 ds k1 k2 (.slice none 0 0)) 81 [true, true, true]) =
  Res.ok ((Xt.ret, 44, [], [(11, Rw.mk (Kd.round LoopState.ready none [Value.pointer (some (Addr.mk 0 0 none)), Value.slice (some (Addr.mk 2 0 none)) m1 (capBig + 2), Value.slice (some (Addr.mk 4 0 none)) m2 (capBig + 4),
 Value.tuple (Array.mk []), Value.tuple (Array.mk []), Value.tuple (Array.mk []), Value.slice none 0 0, Value.pointer (some (Addr.mk 6 0 none)), Value.tuple (Array.mk []), Value.pointer (some (Addr.mk 0 0 none)),
 Value.bool false, Value.pointer (some (Addr.mk 0 0 none)), Value.slice (some (Addr.mk 2 0 none)) m1 (capBig + 2), Value.slice (some (Addr.mk 4 0 none)) m2 (capBig + 4), Value.func (Fn.func 50) (Array.mk []) (Array.mk
 [Value.pointer (some (Addr.mk 7 0 none)), Value.pointer (some (Addr.mk 8 0 none)), Value.pointer (some (Addr.mk 9 0 none))]), Value.tuple (Array.mk []), Value.tuple (Array.mk []), Value.tuple (Array.mk []), Value.tuple
 (Array.mk []), Value.tuple (Array.mk []), Value.tuple (Array.mk [])] (Array.mk [15]) (rfAs Try.prog 23) (rfBd Try.prog 23)) []), (10, Rw.mk Kd.marks []), (9, Rw.mk Kd.shut [Value.slice (some (Addr.mk 4 0 none)) m2 (capBig
 + 4)]), (8, Rw.mk Kd.shut [Value.slice (some (Addr.mk 2 0 none)) m1 (capBig + 2)]), (7, Rw.mk Kd.shut [Value.pointer (some (Addr.mk 0 0 none))]), (6, Rw.mk Kd.shut [Value.slice none 0 0]), (0, Rw.mk Kd.ow [Value.bool
 true, Value.slice (some (Addr.mk 1 0 none)) n c]), (1, Rw.mk (Kd.sw ds) []), (2, Rw.mk Kd.ow k1), (4, Rw.mk Kd.ow k2)], 84, [83], []), [], [decide ((↑i : Int) < (↑q : Int)) = true, (0 : Int) ≤ (↑i : Int) ∧ (↑i : Int) <
 (↑q : Int), ShOb Try.prog 29 false true ds (ixO o i 3) 81, decide ((↑m2 : Int) > (0 : Int)) = true, BytI (dLen ds (ixO o i 3 + 0)) (dVals ds (ixO o i 3 + 0)), BytI m2 k2, decide (cmpI (intsOf (dVals ds (ixO o i 3 + 0)))
 (intsOf k2) ≥ (0 : Int)) = true]) := by kernel_rfl
theorem bt_mo1 (inr : Bool) (n c m1 m2 o q d i : Nat) (ds : List DV) (k1 k2 : List Value) (x : Nat) (es : List DV) : prjP [0, 1, 2, 3, 20, 21, 22] 81 (codeZ (btV noL bsT) Try.prog (runZ (btV noL bsT) Try.prog 12) 50 inr 100000 (bodyIn Try.prog 50 2) (SL 44 (btS o q d i)) ((80, ⟨.df 3 zPr es, []⟩) :: btG Try.prog n c m1 m2 ds k1 k2 (dpV x)) 81 [true, false]) =
  Res.ok ((Xt.normal, 44, [(0, Value.func (Fn.yield 11) (Array.mk []) (Array.mk [])), (1, Value.pointer (some (Addr.mk 7 0 none))), (2, Value.pointer (some (Addr.mk 8 0 none))), (3, Value.pointer (some (Addr.mk 9 0 none))),
 (20, Value.slice (some (Addr.mk 1 o none)) q d), (21, Value.int IntKind.i64 (↑q : Int)), (22, Value.int IntKind.i64 (↑(i + 1) : Int))], [(94, Rw.mk (Kd.df 3 [Value.slice none 0 0, Value.slice none 0 0, Value.bool false]
 (es ++ [DV.sl (dLen ds (ixO o i 3 + 0)) none (List.map DV.fl (List.take (dLen ds (ixO o i 3 + 0)) (dVals ds (ixO o i 3 + 0)))), DV.sl (dLen ds (ixO o i 3 + 1)) none (List.map DV.fl (List.take (dLen ds (ixO o i 3 + 1))
 (dVals ds (ixO o i 3 + 1)))), DV.fl (Value.bool (dBool ds (ixO o i 3 + 2)))])) []), (11, Rw.mk (Kd.round LoopState.ready none [Value.pointer (some (Addr.mk 0 0 none)), Value.slice (some (Addr.mk 2 0 none)) m1 (capBig +
 2), Value.slice (some (Addr.mk 4 0 none)) m2 (capBig + 4), Value.tuple (Array.mk []), Value.tuple (Array.mk []), Value.tuple (Array.mk []), Value.slice none 0 0, Value.pointer (some (Addr.mk 6 0 none)), Value.tuple
 (Array.mk []), Value.pointer (some (Addr.mk 0 0 none)), Value.bool false, Value.pointer (some (Addr.mk 0 0 none)), Value.slice (some (Addr.mk 2 0 none)) m1 (capBig + 2), Value.slice (some (Addr.mk 4 0 none)) m2 (capBig +
 4), Value.func (Fn.func 50) (Array.mk []) (Array.mk [Value.pointer (some (Addr.mk 7 0 none)), Value.pointer (some (Addr.mk 8 0 none)), Value.pointer (some (Addr.mk 9 0 none))]), Value.tuple (Array.mk []), Value.tuple
 (Array.mk []), Value.tuple (Array.mk []), Value.tuple (Array.mk []), Value.tuple (Array.mk []), Value.tuple (Array.mk [])] (Array.mk [15]) (rfAs Try.prog 23) (rfBd Try.prog 23)) []), (10, Rw.mk Kd.marks []), (9, Rw.mk
 Kd.shut [Value.slice (some (Addr.mk 4 0 none)) m2 (capBig + 4)]), (8, Rw.mk Kd.shut [Value.slice (some (Addr.mk 2 0 none)) m1 (capBig + 2)]), (7, Rw.mk Kd.shut [Value.pointer (some (Addr.mk 0 0 none))]), (6, Rw.mk Kd.shut
 [Value.slice (some (Addr.mk 94 0 none)) (x + 1) (capBig + 94)]), (0, Rw.mk Kd.ow [Value.bool true, Value.slice (some (Addr.mk 1 0 none)) n c]), (1, Rw.mk (Kd.sw ds) []), (2, Rw.mk Kd.ow k1), (4, Rw.mk Kd.ow k2)], 95, [11,
 6, 80, 91, 83], []), [], [decide ((↑i : Int) < (↑q : Int)) = true, (0 : Int) ≤ (↑i : Int) ∧ (↑i : Int) < (↑q : Int), ShOb Try.prog 29 false true ds (ixO o i 3) 81, decide ((↑m2 : Int) > (0 : Int)) = false, 0 < dLen ds
 (ixO o i 3 + 0), dLen ds (ixO o i 3 + 0) * 1 ≤ 140737488355328 ∧ dLen ds (ixO o i 3 + 0) ≤ 9223372036854775807, List.length (List.take (dLen ds (ixO o i 3 + 0)) (dVals ds (ixO o i 3 + 0))) = dLen ds (ixO o i 3 + 0) * 1, ∀
 (τ : Sg), renL τ (List.take (dLen ds (ixO o i 3 + 0)) (dVals ds (ixO o i 3 + 0))) = some (List.take (dLen ds (ixO o i 3 + 0)) (dVals ds (ixO o i 3 + 0))), dLen ds (ixO o i 3 + 0) ≤ List.length (dVals ds (ixO o i 3 + 0)),
 all1 (List.take (dLen ds (ixO o i 3 + 0)) (dVals ds (ixO o i 3 + 0))) = true, dLen ds (ixO o i 3 + 1) * 1 ≤ 140737488355328 ∧ dLen ds (ixO o i 3 + 1) ≤ 9223372036854775807, List.length (List.take (dLen ds (ixO o i 3 + 1))
 (dVals ds (ixO o i 3 + 1))) = dLen ds (ixO o i 3 + 1) * 1, ∀ (τ : Sg), renL τ (List.take (dLen ds (ixO o i 3 + 1)) (dVals ds (ixO o i 3 + 1))) = some (List.take (dLen ds (ixO o i 3 + 1)) (dVals ds (ixO o i 3 + 1))), dLen
 ds (ixO o i 3 + 1) ≤ List.length (dVals ds (ixO o i 3 + 1)), all1 (List.take (dLen ds (ixO o i 3 + 1)) (dVals ds (ixO o i 3 + 1))) = true, capBig + 80 = capBig + 80 ∧ List.length es = x * 3, (x + 1) * 56 ≤ 140737488355328
 ∧ x + 1 ≤ 9223372036854775807, (∀ (τ : Sg), renL τ (List.take (dLen ds (ixO o i 3 + 0)) (dVals ds (ixO o i 3 + 0))) = some (List.take (dLen ds (ixO o i 3 + 0)) (dVals ds (ixO o i 3 + 0)))) ∧ (dLen ds (ixO o (Int.toNat (↑i
 : Int)) (TypeInfo.size (Tables.types (Program.toTables Try.prog))[29]) + 0) = 0 → List.take (dLen ds (ixO o i 3 + 0)) (dVals ds (ixO o i 3 + 0)) = []), (∀ (τ : Sg), renL τ (List.take (dLen ds (ixO o i 3 + 1)) (dVals ds
 (ixO o i 3 + 1))) = some (List.take (dLen ds (ixO o i 3 + 1)) (dVals ds (ixO o i 3 + 1)))) ∧ (dLen ds (ixO o (Int.toNat (↑i : Int)) (TypeInfo.size (Tables.types (Program.toTables Try.prog))[29]) + (0 + 1)) = 0 → List.take
 (dLen ds (ixO o i 3 + 1)) (dVals ds (ixO o i 3 + 1)) = []), 3 ≤ 3, true = true, rg IntKind.i64 (↑(i + 1) : Int)]) := by kernel_rfl
theorem bt_mo2 (inr : Bool) (n c m1 m2 o q d i : Nat) (ds : List DV) (k1 k2 : List Value) (x : Nat) (es : List DV) : prjP [0, 1, 2, 3, 20, 21, 22] 81 (codeZ (btV noL bsT) Try.prog (runZ (btV noL bsT) Try.prog 12) 50 inr 100000 (bodyIn Try.prog 50 2) (SL 44 (btS o q d i)) ((80, ⟨.df 3 zPr es, []⟩) :: btG Try.prog n c m1 m2 ds k1 k2 (dpV x)) 81 [true, true, false]) =
  Res.ok ((Xt.normal, 44, [(0, Value.func (Fn.yield 11) (Array.mk []) (Array.mk [])), (1, Value.pointer (some (Addr.mk 7 0 none))), (2, Value.pointer (some (Addr.mk 8 0 none))), (3, Value.pointer (some (Addr.mk 9 0 none))),
 (20, Value.slice (some (Addr.mk 1 o none)) q d), (21, Value.int IntKind.i64 (↑q : Int)), (22, Value.int IntKind.i64 (↑(i + 1) : Int))], [(94, Rw.mk (Kd.df 3 [Value.slice none 0 0, Value.slice none 0 0, Value.bool false]
 (es ++ [DV.sl (dLen ds (ixO o i 3 + 0)) none (List.map DV.fl (List.take (dLen ds (ixO o i 3 + 0)) (dVals ds (ixO o i 3 + 0)))), DV.sl (dLen ds (ixO o i 3 + 1)) none (List.map DV.fl (List.take (dLen ds (ixO o i 3 + 1))
 (dVals ds (ixO o i 3 + 1)))), DV.fl (Value.bool (dBool ds (ixO o i 3 + 2)))])) []), (11, Rw.mk (Kd.round LoopState.ready none [Value.pointer (some (Addr.mk 0 0 none)), Value.slice (some (Addr.mk 2 0 none)) m1 (capBig +
 2), Value.slice (some (Addr.mk 4 0 none)) m2 (capBig + 4), Value.tuple (Array.mk []), Value.tuple (Array.mk []), Value.tuple (Array.mk []), Value.slice none 0 0, Value.pointer (some (Addr.mk 6 0 none)), Value.tuple
 (Array.mk []), Value.pointer (some (Addr.mk 0 0 none)), Value.bool false, Value.pointer (some (Addr.mk 0 0 none)), Value.slice (some (Addr.mk 2 0 none)) m1 (capBig + 2), Value.slice (some (Addr.mk 4 0 none)) m2 (capBig +
 4), Value.func (Fn.func 50) (Array.mk []) (Array.mk [Value.pointer (some (Addr.mk 7 0 none)), Value.pointer (some (Addr.mk 8 0 none)), Value.pointer (some (Addr.mk 9 0 none))]), Value.tuple (Array.mk []), Value.tuple
 (Array.mk []), Value.tuple (Array.mk []), Value.tuple (Array.mk []), Value.tuple (Array.mk []), Value.tuple (Array.mk [])] (Array.mk [15]) (rfAs Try.prog 23) (rfBd Try.prog 23)) []), (10, Rw.mk Kd.marks []), (9, Rw.mk
 Kd.shut [Value.slice (some (Addr.mk 4 0 none)) m2 (capBig + 4)]), (8, Rw.mk Kd.shut [Value.slice (some (Addr.mk 2 0 none)) m1 (capBig + 2)]), (7, Rw.mk Kd.shut [Value.pointer (some (Addr.mk 0 0 none))]), (6, Rw.mk Kd.shut
 [Value.slice (some (Addr.mk 94 0 none)) (x + 1) (capBig + 94)]), (0, Rw.mk Kd.ow [Value.bool true, Value.slice (some (Addr.mk 1 0 none)) n c]), (1, Rw.mk (Kd.sw ds) []), (2, Rw.mk Kd.ow k1), (4, Rw.mk Kd.ow k2)], 95, [11,
 6, 80, 91, 83], []), [], [decide ((↑i : Int) < (↑q : Int)) = true, (0 : Int) ≤ (↑i : Int) ∧ (↑i : Int) < (↑q : Int), ShOb Try.prog 29 false true ds (ixO o i 3) 81, decide ((↑m2 : Int) > (0 : Int)) = true, BytI (dLen ds
 (ixO o i 3 + 0)) (dVals ds (ixO o i 3 + 0)), BytI m2 k2, decide (cmpI (intsOf (dVals ds (ixO o i 3 + 0))) (intsOf k2) ≥ (0 : Int)) = false, 0 < dLen ds (ixO o i 3 + 0), dLen ds (ixO o i 3 + 0) * 1 ≤ 140737488355328 ∧ dLen
 ds (ixO o i 3 + 0) ≤ 9223372036854775807, List.length (List.take (dLen ds (ixO o i 3 + 0)) (dVals ds (ixO o i 3 + 0))) = dLen ds (ixO o i 3 + 0) * 1, ∀ (τ : Sg), renL τ (List.take (dLen ds (ixO o i 3 + 0)) (dVals ds (ixO
 o i 3 + 0))) = some (List.take (dLen ds (ixO o i 3 + 0)) (dVals ds (ixO o i 3 + 0))), dLen ds (ixO o i 3 + 0) ≤ List.length (dVals ds (ixO o i 3 + 0)), all1 (List.take (dLen ds (ixO o i 3 + 0)) (dVals ds (ixO o i 3 + 0)))
 = true, dLen ds (ixO o i 3 + 1) * 1 ≤ 140737488355328 ∧ dLen ds (ixO o i 3 + 1) ≤ 9223372036854775807, List.length (List.take (dLen ds (ixO o i 3 + 1)) (dVals ds (ixO o i 3 + 1))) = dLen ds (ixO o i 3 + 1) * 1, ∀ (τ :
 Sg), renL τ (List.take (dLen ds (ixO o i 3 + 1)) (dVals ds (ixO o i 3 + 1))) = some (List.take (dLen ds (ixO o i 3 + 1)) (dVals ds (ixO o i 3 + 1))), dLen ds (ixO o i 3 + 1) ≤ List.length (dVals ds (ixO o i 3 + 1)), all1
 (List.take (dLen ds (ixO o i 3 + 1)) (dVals ds (ixO o i 3 + 1))) = true, capBig + 80 = capBig + 80 ∧ List.length es = x * 3, (x + 1) * 56 ≤ 140737488355328 ∧ x + 1 ≤ 9223372036854775807, (∀ (τ : Sg), renL τ (List.take
 (dLen ds (ixO o i 3 + 0)) (dVals ds (ixO o i 3 + 0))) = some (List.take (dLen ds (ixO o i 3 + 0)) (dVals ds (ixO o i 3 + 0)))) ∧ (dLen ds (ixO o (Int.toNat (↑i : Int)) (TypeInfo.size (Tables.types (Program.toTables
 Try.prog))[29]) + 0) = 0 → List.take (dLen ds (ixO o i 3 + 0)) (dVals ds (ixO o i 3 + 0)) = []), (∀ (τ : Sg), renL τ (List.take (dLen ds (ixO o i 3 + 1)) (dVals ds (ixO o i 3 + 1))) = some (List.take (dLen ds (ixO o i 3 +
 1)) (dVals ds (ixO o i 3 + 1)))) ∧ (dLen ds (ixO o (Int.toNat (↑i : Int)) (TypeInfo.size (Tables.types (Program.toTables Try.prog))[29]) + (0 + 1)) = 0 → List.take (dLen ds (ixO o i 3 + 1)) (dVals ds (ixO o i 3 + 1)) =
 []), 3 ≤ 3, true = true, rg IntKind.i64 (↑(i + 1) : Int)]) := by kernel_rfl
theorem bt_mend (inr : Bool) (n c m1 m2 o q d i : Nat) (ds : List DV) (k1 k2 : List Value) (x : Nat) (es : List DV) : prjP [] 81 (codeZ (btV noL bsT) Try.prog (runZ (btV noL bsT) Try.prog 12) 50 inr 100000 (bodyIn Try.prog 50 2) (SL 44 (btS o q d i)) ((80, ⟨.df 3 zPr es, []⟩) :: btG Try.prog n c m1 m2 ds k1 k2 (dpV x)) 81 [false]) =
  Res.ok ((Xt.exit 0, 44, [], [(80, Rw.mk (Kd.df 3 [Value.slice none 0 0, Value.slice none 0 0, Value.bool false] es) []), (11, Rw.mk (Kd.round LoopState.ready none [Value.pointer (some (Addr.mk 0 0 none)), Value.slice
 (some (Addr.mk 2 0 none)) m1 (capBig + 2), Value.slice (some (Addr.mk 4 0 none)) m2 (capBig + 4), Value.tuple (Array.mk []), Value.tuple (Array.mk []), Value.tuple (Array.mk []), Value.slice none 0 0, Value.pointer (some
 (Addr.mk 6 0 none)), Value.tuple (Array.mk []), Value.pointer (some (Addr.mk 0 0 none)), Value.bool false, Value.pointer (some (Addr.mk 0 0 none)), Value.slice (some (Addr.mk 2 0 none)) m1 (capBig + 2), Value.slice (some
 (Addr.mk 4 0 none)) m2 (capBig + 4), Value.func (Fn.func 50) (Array.mk []) (Array.mk [Value.pointer (some (Addr.mk 7 0 none)), Value.pointer (some (Addr.mk 8 0 none)), Value.pointer (some (Addr.mk 9 0 none))]),
 Value.tuple (Array.mk []), Value.tuple (Array.mk []), Value.tuple (Array.mk []), Value.tuple (Array.mk []), Value.tuple (Array.mk []), Value.tuple (Array.mk [])] (Array.mk [15]) (rfAs Try.prog 23) (rfBd Try.prog 23)) []),
 (10, Rw.mk Kd.marks []), (9, Rw.mk Kd.shut [Value.slice (some (Addr.mk 4 0 none)) m2 (capBig + 4)]), (8, Rw.mk Kd.shut [Value.slice (some (Addr.mk 2 0 none)) m1 (capBig + 2)]), (7, Rw.mk Kd.shut [Value.pointer (some
 (Addr.mk 0 0 none))]), (6, Rw.mk Kd.shut [Value.slice (some (Addr.mk 80 0 none)) x (capBig + 80)]), (0, Rw.mk Kd.ow [Value.bool true, Value.slice (some (Addr.mk 1 0 none)) n c]), (1, Rw.mk (Kd.sw ds) []), (2, Rw.mk Kd.ow
 k1), (4, Rw.mk Kd.ow k2)], 81, [], []), [], [decide ((↑i : Int) < (↑q : Int)) = false]) := by kernel_rfl
theorem bt_mstop (inr : Bool) (n c m1 m2 o q d i : Nat) (ds : List DV) (k1 k2 : List Value) (x : Nat) (es : List DV) : prjP [] 81 (codeZ (btV noL bsT) Try.prog (runZ (btV noL bsT) Try.prog 12) 50 inr 100000 (bodyIn Try.prog 50 2) (SL 44 (btS o q d i)) ((80, ⟨.df 3 zPr es, []⟩) :: btG Try.prog n c m1 m2 ds k1 k2 (dpV x)) 81 [true, true, true]) =
  Res.ok ((Xt.ret, 44, [], [(80, Rw.mk (Kd.df 3 [Value.slice none 0 0, Value.slice none 0 0, Value.bool false] es) []), (11, Rw.mk (Kd.round LoopState.ready none [Value.pointer (some (Addr.mk 0 0 none)), Value.slice (some
 (Addr.mk 2 0 none)) m1 (capBig + 2), Value.slice (some (Addr.mk 4 0 none)) m2 (capBig + 4), Value.tuple (Array.mk []), Value.tuple (Array.mk []), Value.tuple (Array.mk []), Value.slice none 0 0, Value.pointer (some
 (Addr.mk 6 0 none)), Value.tuple (Array.mk []), Value.pointer (some (Addr.mk 0 0 none)), Value.bool false, Value.pointer (some (Addr.mk 0 0 none)), Value.slice (some (Addr.mk 2 0 none)) m1 (capBig + 2), Value.slice (some
 (Addr.mk 4 0 none)) m2 (capBig + 4), Value.func (Fn.func 50) (Array.mk []) (Array.mk [Value.pointer (some (Addr.mk 7 0 none)), Value.pointer (some (Addr.mk 8 0 none)), Value.pointer (some (Addr.mk 9 0 none))]),
 Value.tuple (Array.mk []), Value.tuple (Array.mk []), Value.tuple (Array.mk []), Value.tuple (Array.mk []), Value.tuple (Array.mk []), Value.tuple (Array.mk [])] (Array.mk [15]) (rfAs Try.prog 23) (rfBd Try.prog 23)) []),
 (10, Rw.mk Kd.marks []), (9, Rw.mk Kd.shut [Value.slice (some (Addr.mk 4 0 none)) m2 (capBig + 4)]), (8, Rw.mk Kd.shut [Value.slice (some (Addr.mk 2 0 none)) m1 (capBig + 2)]), (7, Rw.mk Kd.shut [Value.pointer (some
 (Addr.mk 0 0 none))]), (6, Rw.mk Kd.shut [Value.slice (some (Addr.mk 80 0 none)) x (capBig + 80)]), (0, Rw.mk Kd.ow [Value.bool true, Value.slice (some (Addr.mk 1 0 none)) n c]), (1, Rw.mk (Kd.sw ds) []), (2, Rw.mk Kd.ow
 k1), (4, Rw.mk Kd.ow k2)], 84, [83], []), [], [decide ((↑i : Int) < (↑q : Int)) = true, (0 : Int) ≤ (↑i : Int) ∧ (↑i : Int) < (↑q : Int), ShOb Try.prog 29 false true ds (ixO o i 3) 81, decide ((↑m2 : Int) > (0 : Int)) =
 true, BytI (dLen ds (ixO o i 3 + 0)) (dVals ds (ixO o i 3 + 0)), BytI m2 k2, decide (cmpI (intsOf (dVals ds (ixO o i 3 + 0))) (intsOf k2) ≥ (0 : Int)) = true]) := by kernel_rfl
end Go.Proofs.Ytojakfnljopjbaa
/-
  Chapter 12: Between: its loop.
-/
namespace Go.Proofs.Ytojakfnljopjbaa
set_option linter.unusedSimpArgs false
set_option linter.unusedVariables false
set_option linter.unusedSectionVars false
open Go Go.RowKit
/-- Pairs ahead of a key; none: all. -/
def upP (t : List Int) (p : Pr) : Bool := t.isEmpty || ltK p.1 t
def tkP (ps : List Pr) (t : List Int) : List Pr := ps.takeWhile (upP t)
theorem btX {L : LFun} {T : TFun} : XOkZ (btV L T) Try.prog := XOneZ.ok cmpY_ok rfl
theorem btT {L : LFun} : TOkZ (btV L bsT) Try.prog := T_okV rfl bsT_one
theorem btL0 {T : TFun} : LOkZ (btV noL T) Try.prog := noL_okV rfl
theorem sh1_row {lo N : Nat} {ρ : Nat → Nat} {h0 h1 : Hp} {n m : Nat} {v v1 : Value} (hn : fnN lo N ρ n = some m) (hl : lk h1 m = some ⟨.shut, [v1]⟩) (hv : renV (sgf lo N ρ) v = some v1) : RbRow lo N ρ h0 h1 n ⟨.shut, [v]⟩ := ⟨m, _, hn, hl, rfl, rfl, .inl (renL_mk hv rfl)⟩
theorem df_row {lo N : Nat} {ρ : Nat → Nat} {h0 h1 : Hp} {n m sz : Nat} {z : List Value} {ds : List DV} (hn : fnN lo N ρ n = some m) (hl : lk h1 m = some ⟨.df sz z ds, []⟩) : RbRow lo N ρ h0 h1 n ⟨.df sz z ds, []⟩ := rb_rec hn hl trivial
theorem tb_row {lo N : Nat} {ρ : Nat → Nat} {h0 h1 : Hp} {n m q c : Nat} (hn : fnN lo N ρ n = some m) (hl : lk h1 m = some ⟨.ow, tbC q c⟩) (h : renV (sgf lo N ρ) (.slice (some ⟨1, 0, none⟩) q c) = some (.slice (some ⟨1, 0, none⟩) q c)) : RbRow lo N ρ h0 h1 n ⟨.ow, tbC q c⟩ := ⟨m, _, hn, hl, rfl, trivial, .inl (renL_mk rfl (renL_mk h rfl))⟩
def xtB (b : Bool) : Xt := bif b then .exit 0 else .ret
theorem bt_rows {N : Nat} (hN : N = 81 ∨ N = 120) {ρ : Nat → Nat} {h0 h1 : Hp} {n c m1 m2 : Nat} {ds : List DV} {k1 k2 : List Value} {out out1 : Value} (hc : c ≤ 9223372036854775807) (h1f : BytI m1 k1) (h2f : BytI m2 k2) (hrows : ∀ j r, j < 12 → j ≠ 6 → lk (btG Try.prog n c m1 m2 ds k1 k2 out) j = some r → lk h1 j = some r) (h6 : lk h1 6 = some ⟨.shut, [out1]⟩) (hout : renV (sgf 12 N ρ) out = some out1) : RbL 12 N ρ h0 h1 (btG Try.prog n c m1 m2 ds k1 k2 out) := by
  have hcc : c < capBig := by unfold capBig; omega
  rcases hN with rfl | rfl
  · exact ⟨rb_rec (m := 11) rfl (hrows 11 _ (by omega) (by omega) rfl) rfl, rb_rec (m := 10) rfl (hrows 10 _ (by omega) (by omega) rfl) trivial, sh1_row (m := 9) rfl (hrows 9 _ (by omega) (by omega) rfl) (rb_slg rfl rfl), sh1_row (m := 8) rfl (hrows 8 _ (by omega) (by omega) rfl) (rb_slg rfl rfl), sh1_row (m := 7) rfl (hrows 7 _ (by omega) (by omega) rfl) (rb_ptr rfl), sh1_row (m := 6) rfl h6 hout, tb_row (m := 0) rfl (hrows 0 _ (by omega) (by omega) rfl) (rb_slc rfl hcc), sw_row (m := 1) rfl (hrows 1 _ (by omega) (by omega) rfl), ow_row (m := 2) rfl (hrows 2 _ (by omega) (by omega) rfl) h1f.fl, ow_row (m := 4) rfl (hrows 4 _ (by omega) (by omega) rfl) h2f.fl, trivial⟩
  · exact ⟨rb_rec (m := 11) rfl (hrows 11 _ (by omega) (by omega) rfl) rfl, rb_rec (m := 10) rfl (hrows 10 _ (by omega) (by omega) rfl) trivial, sh1_row (m := 9) rfl (hrows 9 _ (by omega) (by omega) rfl) (rb_slg rfl rfl), sh1_row (m := 8) rfl (hrows 8 _ (by omega) (by omega) rfl) (rb_slg rfl rfl), sh1_row (m := 7) rfl (hrows 7 _ (by omega) (by omega) rfl) (rb_ptr rfl), sh1_row (m := 6) rfl h6 hout, tb_row (m := 0) rfl (hrows 0 _ (by omega) (by omega) rfl) (rb_slc rfl hcc), sw_row (m := 1) rfl (hrows 1 _ (by omega) (by omega) rfl), ow_row (m := 2) rfl (hrows 2 _ (by omega) (by omega) rfl) h1f.fl, ow_row (m := 4) rfl (hrows 4 _ (by omega) (by omega) rfl) h2f.fl, trivial⟩
theorem jcases {j : Nat} (h : j < 12) {C : Nat → Prop} (h0 : C 0) (h1 : C 1) (h2 : C 2) (h3 : C 3) (h4 : C 4) (h5 : C 5) (h6 : C 6) (h7 : C 7) (h8 : C 8) (h9 : C 9) (h10 : C 10) (h11 : C 11) : C j := by
  match j, h with
  | 0, _ => exact h0
  | 1, _ => exact h1
  | 2, _ => exact h2
  | 3, _ => exact h3
  | 4, _ => exact h4
  | 5, _ => exact h5
  | 6, _ => exact h6
  | 7, _ => exact h7
  | 8, _ => exact h8
  | 9, _ => exact h9
  | 10, _ => exact h10
  | 11, _ => exact h11
/-- What the loop is at. -/
structure BtOk (ds : List DV) (n c m1 m2 k q d : Nat) (k1 k2 : List Value) : Prop where
  T : TbK ds n
  K1 : BytI m1 k1
  K2 : BytI m2 k2
  c : c ≤ 9223372036854775807
  d : d ≤ 9223372036854775807
  kn : k + q = n
theorem bt_up {m2 : Nat} {k2 : List Value} {p : Pr} (h : BytI m2 k2) : upP (intsOf k2) p = true ↔ m2 = 0 ∨ cmpI p.1 (intsOf k2) < 0 := by
  unfold upP
  rw [ltK_cmp, Bool.or_eq_true, decide_eq_true_eq]
  have : (intsOf k2).isEmpty = true ↔ m2 = 0 := by
    have e := h.2.2
    rw [h.1, List.length_map] at e
    rw [← e, List.isEmpty_iff, List.length_eq_zero_iff]
  rw [this]
theorem bt_more {inr : Bool} {h0 : Hp} {ds : List DV} {n c m1 m2 k q d : Nat} {k1 k2 : List Value} (hB : BtOk ds n c m1 m2 k q d k1 k2) : ∀ (r i x : Nat) (ws : List Pr), i + r = q → ws.length = x → x ≤ i →
    LRuns inr Try.prog (bodyIn Try.prog 50 2) 12 120 h0 44 (btS (k * 3) q d i) ((80, ⟨.df 3 zPr (cpD ws), []⟩) :: btG Try.prog n c m1 m2 ds k1 k2 (dpV x)) 81
      (xtB (decide (i + (tkP ((prsOf ds).drop (k + i)) (intsOf k2)).length = q)), [], (80, ⟨.df 3 zPr (cpD (ws ++ tkP ((prsOf ds).drop (k + i)) (intsOf k2))), []⟩) :: btG Try.prog n c m1 m2 ds k1 k2 (dpV (x + (tkP ((prsOf ds).drop (k + i)) (intsOf k2)).length)))
  | 0, i, x, ws, hr, hx, hxi => by
      have e0 : (prsOf ds).drop (k + i) = [] := List.drop_of_length_le (by rw [hB.T.T.l]; have := hB.kn; omega)
      have eT : tkP ((prsOf ds).drop (k + i)) (intsOf k2) = [] := by rw [e0]; rfl
      rw [eT, List.append_nil, List.length_nil, Nat.add_zero, Nat.add_zero, decide_eq_true (by omega)]
      refine LRuns.exit (code_runsP btX btL0 (runZ_ok btX btT btL0 mixed 12) mixed (bt_mend inr n c m1 m2 (k * 3) q d i ds k1 k2 x (cpD ws)) ?_) (by intro e; cases e) rfl (by omega) (by omega) (fun n => n) ?_ ?_ rfl
      · simp only [Alls, decide_eq_false_iff_not]
        exact ⟨by omega, trivial⟩
      · trivial
      · refine ⟨df_row (m := 80) rfl rfl, bt_rows (.inr rfl) hB.c hB.K1 hB.K2 ?_ rfl (rb_slg rfl rfl)⟩
        refine fun j r hj h6 => jcases (C := fun j => j ≠ 6 → lk _ j = some r → lk _ j = some r) hj ?_ ?_ ?_ ?_ ?_ ?_ ?_ ?_ ?_ ?_ ?_ ?_ h6
        all_goals first | exact fun h => absurd rfl h | exact fun _ e => e
  | r + 1, i, x, ws, hr, hx, hxi => by
      have hdd : d < capBig := by have := hB.d; unfold capBig; omega
      have hkn := hB.kn
      have hm := hB.T.T.m
      have hi : k + i < (prsOf ds).length := by rw [hB.T.T.l]; omega
      have F := hB.T.T.P.facts (List.getElem?_eq_getElem hi)
      obtain ⟨p, hp⟩ : ∃ p, (prsOf ds)[k + i] = p := ⟨_, rfl⟩
      have hmem : p ∈ prsOf ds := by rw [← hp]; exact List.getElem_mem hi
      rw [hp] at F
      have bp := (hB.T.T.O p hmem).1
      obtain ⟨u1, u2, u3⟩ := hB.T.K p hmem
      have hd : (prsOf ds).drop (k + i) = p :: (prsOf ds).drop (k + (i + 1)) := by rw [List.drop_eq_getElem_cons hi, hp]; rfl
      have ex : ixO (k * 3) i 3 = (k + i) * 3 := by rw [ixO_eq]; omega
      have f0 := F.l0
      have f1 := F.l1
      have v0 := F.v0
      have v1 := F.v1
      have gb := F.g
      have o1 := F.o29 81
      have y1 := byV_bytI bp
      have i0 := byV_ints p.1
      have hl0 := byV_len p.1
      have hl1 := byV_len p.2.1
      have t0 : List.take p.1.length (byV p.1) = byV p.1 := List.take_of_length_le (by omega)
      have t1 : List.take p.2.1.length (byV p.2.1) = byV p.2.1 := List.take_of_length_le (by omega)
      have r0 := byV_ren p.1
      have r1 := byV_ren p.2.1
      have a0 : all1 (byV p.1) = true := all1_map p.1
      have a1 : all1 (byV p.2.1) = true := all1_map p.2.1
      have z0 : p.1.length = 0 → byV p.1 = [] := fun e => List.eq_nil_of_length_eq_zero (by omega)
      have z1 : p.2.1.length = 0 → byV p.2.1 = [] := fun e => List.eq_nil_of_length_eq_zero (by omega)
      have hK2 := hB.K2
      have hcl : (cpD ws).length = x * 3 := by rw [(cpD_prs ws).len, hx]
      have hup := bt_up (p := p) hB.K2
      have row : ∀ X : List DV, X = cpD (ws ++ [p]) → some (Rw.mk (.df 3 zPr X) []) = some (Rw.mk (.df 3 zPr (cpD (ws ++ [p]))) []) := fun X hX => by rw [hX]
      cases hq : upP (intsOf k2) p with
      | true =>
        have nx := bt_more (inr := inr) (h0 := h0) hB r (i + 1) (x + 1) (ws ++ [p]) (by omega) (by rw [List.length_append, hx]; rfl) (by omega)
        have eT : tkP ((prsOf ds).drop (k + i)) (intsOf k2) = p :: tkP ((prsOf ds).drop (k + (i + 1))) (intsOf k2) := by rw [hd]; unfold tkP; rw [List.takeWhile_cons, hq]; rfl
        rw [eT]
        have e1 : ws ++ p :: tkP ((prsOf ds).drop (k + (i + 1))) (intsOf k2) = ws ++ [p] ++ tkP ((prsOf ds).drop (k + (i + 1))) (intsOf k2) := by simp
        rw [e1, List.length_cons, show i + ((tkP ((prsOf ds).drop (k + (i + 1))) (intsOf k2)).length + 1) = i + 1 + (tkP ((prsOf ds).drop (k + (i + 1))) (intsOf k2)).length by omega, show x + ((tkP ((prsOf ds).drop (k + (i + 1))) (intsOf k2)).length + 1) = x + 1 + (tkP ((prsOf ds).drop (k + (i + 1))) (intsOf k2)).length by omega]
        by_cases hz : m2 = 0
        · refine LRuns.step (code_runsP btX btL0 (runZ_ok btX btT btL0 mixed 12) mixed (bt_mo1 inr n c m1 m2 (k * 3) q d i ds k1 k2 x (cpD ws)) ?_) rfl (by omega) (by omega) (fun _ => 94) ?_ ?_ rfl nx
          · simp only [Alls, rg, decide_eq_true_eq, decide_eq_false_iff_not, Nat.add_zero, ex, f0, f1, v0, v1, t0, t1, Nat.mul_one]
            repeat' (with_reducible apply And.intro)
            all_goals first | omega | (with_reducible assumption) | (with_reducible exact trivial) | (with_reducible rfl) | exact fun e => z0 (f0.symm.trans (ex ▸ e)) | exact fun e => z1 (f1.symm.trans (ex ▸ e)) | skip
          · exact ⟨rfl, rfl, rfl, rb_ptr rfl, rfl, rb_ptr rfl, rfl, rb_ptr rfl, rfl, rb_slc rfl hdd, rfl, rfl, rfl, rfl, trivial⟩
          · refine ⟨df_row (m := 94) rfl (row _ ?_), bt_rows (.inl rfl) hB.c hB.K1 hB.K2 ?_ rfl (rb_slg rfl rfl)⟩
            · rw [cpD_snoc]
              congr 1
              simp only [Nat.add_zero, ex, f0, f1, v0, v1, t0, t1, gb, byV_fl]
              rfl
            ·
              refine fun j r hj h6 => jcases (C := fun j => j ≠ 6 → lk _ j = some r → lk _ j = some r) hj ?_ ?_ ?_ ?_ ?_ ?_ ?_ ?_ ?_ ?_ ?_ ?_ h6
              all_goals first | exact fun h => absurd rfl h | exact fun _ e => e
        · have hc1 : cmpI p.1 (intsOf k2) < 0 := (hup.1 hq).resolve_left hz
          refine LRuns.step (code_runsP btX btL0 (runZ_ok btX btT btL0 mixed 12) mixed (bt_mo2 inr n c m1 m2 (k * 3) q d i ds k1 k2 x (cpD ws)) ?_) rfl (by omega) (by omega) (fun _ => 94) ?_ ?_ rfl nx
          · simp only [Alls, rg, decide_eq_true_eq, decide_eq_false_iff_not, Nat.add_zero, ex, f0, f1, v0, v1, t0, t1, i0, Nat.mul_one]
            repeat' (with_reducible apply And.intro)
            all_goals first | omega | (with_reducible assumption) | (with_reducible exact trivial) | (with_reducible rfl) | exact fun e => z0 (f0.symm.trans (ex ▸ e)) | exact fun e => z1 (f1.symm.trans (ex ▸ e)) | skip
          · exact ⟨rfl, rfl, rfl, rb_ptr rfl, rfl, rb_ptr rfl, rfl, rb_ptr rfl, rfl, rb_slc rfl hdd, rfl, rfl, rfl, rfl, trivial⟩
          · refine ⟨df_row (m := 94) rfl (row _ ?_), bt_rows (.inl rfl) hB.c hB.K1 hB.K2 ?_ rfl (rb_slg rfl rfl)⟩
            · rw [cpD_snoc]
              congr 1
              simp only [Nat.add_zero, ex, f0, f1, v0, v1, t0, t1, gb, byV_fl]
              rfl
            ·
              refine fun j r hj h6 => jcases (C := fun j => j ≠ 6 → lk _ j = some r → lk _ j = some r) hj ?_ ?_ ?_ ?_ ?_ ?_ ?_ ?_ ?_ ?_ ?_ ?_ h6
              all_goals first | exact fun h => absurd rfl h | exact fun _ e => e
      | false =>
        have eT : tkP ((prsOf ds).drop (k + i)) (intsOf k2) = [] := by rw [hd]; unfold tkP; rw [List.takeWhile_cons, hq]; rfl
        rw [eT, List.append_nil, List.length_nil, Nat.add_zero, Nat.add_zero, decide_eq_false (by omega)]
        have hnup : ¬ (m2 = 0 ∨ cmpI p.1 (intsOf k2) < 0) := fun e => by have := hup.2 e; rw [hq] at this; cases this
        refine LRuns.exit (code_runsP btX btL0 (runZ_ok btX btT btL0 mixed 12) mixed (bt_mstop inr n c m1 m2 (k * 3) q d i ds k1 k2 x (cpD ws)) ?_) (by intro e; cases e) rfl (by omega) (by omega) (fun n => n) ?_ ?_ rfl
        · simp only [Alls, rg, decide_eq_true_eq, decide_eq_false_iff_not, Nat.add_zero, ex, f0, f1, v0, v1, t0, t1, i0, Nat.mul_one]
          repeat' (with_reducible apply And.intro)
          all_goals first | omega | (with_reducible assumption) | (with_reducible exact trivial) | (with_reducible rfl) | skip
        · trivial
        · refine ⟨df_row (m := 80) rfl rfl, bt_rows (.inr rfl) hB.c hB.K1 hB.K2 ?_ rfl (rb_slg rfl rfl)⟩
          refine fun j r hj h6 => jcases (C := fun j => j ≠ 6 → lk _ j = some r → lk _ j = some r) hj ?_ ?_ ?_ ?_ ?_ ?_ ?_ ?_ ?_ ?_ ?_ ?_ h6
          all_goals first | exact fun h => absurd rfl h | exact fun _ e => e
end Go.Proofs.Ytojakfnljopjbaa
/-
  Chapter 12: Between as a contract.
-/
namespace Go.Proofs.Ytojakfnljopjbaa
set_option linter.unusedSimpArgs false
set_option linter.unusedVariables false
set_option linter.unusedSectionVars false
open Go Go.RowKit
/-- The pairs between two keys. -/
def btw (ps : List Pr) (a b : List Int) : List Pr := tkP (ps.drop (lbP ps a)) b
def btN : Value := .slice none 0 0
def btOut (P : Program) (n c m1 m2 : Nat) (ds : List DV) (k1 k2 : List Value) (R : List Pr) (b : Bool) : Hp := bif b then btG P n c m1 m2 ds k1 k2 btN else (80, ⟨.df 3 zPr (cpD R), []⟩) :: btG P n c m1 m2 ds k1 k2 (dpV R.length)
theorem bt_first {inr : Bool} {h0 : Hp} {ds : List DV} {n c m1 m2 k q d o : Nat} {k1 k2 : List Value} (hB : BtOk ds n c m1 m2 k q d k1 k2) (ho : q = 0 ∨ o = k * 3) {R : List Pr} (hR : tkP ((prsOf ds).drop k) (intsOf k2) = R) :
    LRuns inr Try.prog (bodyIn Try.prog 50 2) 12 120 h0 44 (btS o q d 0) (btG Try.prog n c m1 m2 ds k1 k2 btN) 81
      (xtB (decide (R.length = q)), [], btOut Try.prog n c m1 m2 ds k1 k2 R R.isEmpty) := by
  have hkn := hB.kn
  have hm := hB.T.T.m
  by_cases hq0 : q = 0
  · have e0 : (prsOf ds).drop k = [] := List.drop_of_length_le (by rw [hB.T.T.l]; omega)
    rw [e0] at hR
    obtain rfl : R = [] := hR.symm
    rw [List.length_nil, decide_eq_true hq0.symm]
    refine LRuns.exit (code_runsP btX btL0 (runZ_ok btX btT btL0 mixed 12) mixed (bt_end inr n c m1 m2 o q d 0 ds k1 k2) ?_) (by intro e; cases e) rfl (by omega) (by omega) (fun n => n) ?_ ?_ rfl
    · simp only [Alls, decide_eq_false_iff_not]
      exact ⟨by omega, trivial⟩
    · trivial
    · refine bt_rows (.inr rfl) hB.c hB.K1 hB.K2 ?_ rfl rfl
      refine fun j r hj h6 => jcases (C := fun j => j ≠ 6 → lk _ j = some r → lk _ j = some r) hj ?_ ?_ ?_ ?_ ?_ ?_ ?_ ?_ ?_ ?_ ?_ ?_ h6
      all_goals first | exact fun h => absurd rfl h | exact fun _ e => e
  obtain rfl : o = k * 3 := ho.resolve_left hq0
  have hdd : d < capBig := by have := hB.d; unfold capBig; omega
  have hi : k + 0 < (prsOf ds).length := by rw [hB.T.T.l]; omega
  have F := hB.T.T.P.facts (List.getElem?_eq_getElem hi)
  obtain ⟨p, hp⟩ : ∃ p, (prsOf ds)[k + 0] = p := ⟨_, rfl⟩
  have hmem : p ∈ prsOf ds := by rw [← hp]; exact List.getElem_mem hi
  rw [hp] at F
  have F : PrAt ds k p := F
  have bp := (hB.T.T.O p hmem).1
  obtain ⟨u1, u2, u3⟩ := hB.T.K p hmem
  have hd : (prsOf ds).drop k = p :: (prsOf ds).drop (k + 1) := by
    have := List.drop_eq_getElem_cons hi
    rw [hp] at this
    exact this
  have ex : ixO (k * 3) 0 3 = k * 3 := by rw [ixO_eq]; omega
  have f0 := F.l0
  have f1 := F.l1
  have v0 := F.v0
  have v1 := F.v1
  have gb := F.g
  have o1 := F.o29 81
  have y1 := byV_bytI bp
  have i0 := byV_ints p.1
  have hl0 := byV_len p.1
  have hl1 := byV_len p.2.1
  have t0 : List.take p.1.length (byV p.1) = byV p.1 := List.take_of_length_le (by omega)
  have t1 : List.take p.2.1.length (byV p.2.1) = byV p.2.1 := List.take_of_length_le (by omega)
  have r0 := byV_ren p.1
  have r1 := byV_ren p.2.1
  have a0 : all1 (byV p.1) = true := all1_map p.1
  have a1 : all1 (byV p.2.1) = true := all1_map p.2.1
  have z0 : p.1.length = 0 → byV p.1 = [] := fun e => List.eq_nil_of_length_eq_zero (by omega)
  have z1 : p.2.1.length = 0 → byV p.2.1 = [] := fun e => List.eq_nil_of_length_eq_zero (by omega)
  have hK2 := hB.K2
  have hup := bt_up (p := p) hB.K2
  have row : ∀ X : List DV, X = cpD [p] → some (Rw.mk (.df 3 zPr X) []) = some (Rw.mk (.df 3 zPr (cpD [p])) []) := fun X hX => by rw [hX]
  cases hq : upP (intsOf k2) p with
  | true =>
    have nx := bt_more (inr := inr) (h0 := h0) hB (q - 1) 1 1 [p] (by omega) rfl (Nat.le_refl _)
    have eR : R = p :: tkP ((prsOf ds).drop (k + 1)) (intsOf k2) := by rw [← hR, hd]; unfold tkP; rw [List.takeWhile_cons, hq]; rfl
    generalize tkP ((prsOf ds).drop (k + 1)) (intsOf k2) = Q at nx eR
    have eO : btOut Try.prog n c m1 m2 ds k1 k2 R R.isEmpty = (80, ⟨.df 3 zPr (cpD ([p] ++ Q)), []⟩) :: btG Try.prog n c m1 m2 ds k1 k2 (dpV (1 + Q.length)) := by
      rw [eR]
      show (80, _) :: _ = _
      rw [List.length_cons, Nat.add_comm Q.length 1]
      rfl
    have eX : decide (R.length = q) = decide (1 + Q.length = q) := by rw [eR, List.length_cons, Nat.add_comm Q.length 1]
    rw [eO, eX]
    by_cases hz : m2 = 0
    · refine LRuns.step (code_runsP btX btL0 (runZ_ok btX btT btL0 mixed 12) mixed (bt_go1 inr n c m1 m2 (k * 3) q d 0 ds k1 k2) ?_) rfl (by omega) (by omega) (fun _ => 94) ?_ ?_ rfl nx
      · simp only [Alls, rg, decide_eq_true_eq, decide_eq_false_iff_not, Nat.add_zero, ex, f0, f1, v0, v1, t0, t1, Nat.mul_one]
        repeat' (with_reducible apply And.intro)
        all_goals first | omega | (with_reducible assumption) | (with_reducible exact trivial) | (with_reducible rfl) | exact fun e => z0 (f0.symm.trans (ex ▸ e)) | exact fun e => z1 (f1.symm.trans (ex ▸ e)) | skip
      · exact ⟨rfl, rfl, rfl, rb_ptr rfl, rfl, rb_ptr rfl, rfl, rb_ptr rfl, rfl, rb_slc rfl hdd, rfl, rfl, rfl, rfl, trivial⟩
      · refine ⟨df_row (m := 94) rfl (row _ ?_), bt_rows (.inl rfl) hB.c hB.K1 hB.K2 ?_ rfl (rb_slg rfl rfl)⟩
        · simp only [Nat.add_zero, ex, f0, f1, v0, v1, t0, t1, gb, byV_fl]
          rfl
        ·
          refine fun j r hj h6 => jcases (C := fun j => j ≠ 6 → lk _ j = some r → lk _ j = some r) hj ?_ ?_ ?_ ?_ ?_ ?_ ?_ ?_ ?_ ?_ ?_ ?_ h6
          all_goals first | exact fun h => absurd rfl h | exact fun _ e => e
    · have hc1 : cmpI p.1 (intsOf k2) < 0 := (hup.1 hq).resolve_left hz
      refine LRuns.step (code_runsP btX btL0 (runZ_ok btX btT btL0 mixed 12) mixed (bt_go2 inr n c m1 m2 (k * 3) q d 0 ds k1 k2) ?_) rfl (by omega) (by omega) (fun _ => 94) ?_ ?_ rfl nx
      · simp only [Alls, rg, decide_eq_true_eq, decide_eq_false_iff_not, Nat.add_zero, ex, f0, f1, v0, v1, t0, t1, i0, Nat.mul_one]
        repeat' (with_reducible apply And.intro)
        all_goals first | omega | (with_reducible assumption) | (with_reducible exact trivial) | (with_reducible rfl) | exact fun e => z0 (f0.symm.trans (ex ▸ e)) | exact fun e => z1 (f1.symm.trans (ex ▸ e)) | skip
      · exact ⟨rfl, rfl, rfl, rb_ptr rfl, rfl, rb_ptr rfl, rfl, rb_ptr rfl, rfl, rb_slc rfl hdd, rfl, rfl, rfl, rfl, trivial⟩
      · refine ⟨df_row (m := 94) rfl (row _ ?_), bt_rows (.inl rfl) hB.c hB.K1 hB.K2 ?_ rfl (rb_slg rfl rfl)⟩
        · simp only [Nat.add_zero, ex, f0, f1, v0, v1, t0, t1, gb, byV_fl]
          rfl
        ·
          refine fun j r hj h6 => jcases (C := fun j => j ≠ 6 → lk _ j = some r → lk _ j = some r) hj ?_ ?_ ?_ ?_ ?_ ?_ ?_ ?_ ?_ ?_ ?_ ?_ h6
          all_goals first | exact fun h => absurd rfl h | exact fun _ e => e
  | false =>
    have eR : R = [] := by rw [← hR, hd]; unfold tkP; rw [List.takeWhile_cons, hq]; rfl
    subst eR
    rw [List.length_nil, decide_eq_false (by omega)]
    have hnup : ¬ (m2 = 0 ∨ cmpI p.1 (intsOf k2) < 0) := fun e => by have := hup.2 e; rw [hq] at this; cases this
    refine LRuns.exit (code_runsP btX btL0 (runZ_ok btX btT btL0 mixed 12) mixed (bt_stop inr n c m1 m2 (k * 3) q d 0 ds k1 k2) ?_) (by intro e; cases e) rfl (by omega) (by omega) (fun n => n) ?_ ?_ rfl
    · simp only [Alls, rg, decide_eq_true_eq, decide_eq_false_iff_not, Nat.add_zero, ex, f0, f1, v0, v1, t0, t1, i0, Nat.mul_one]
      repeat' (with_reducible apply And.intro)
      all_goals first | omega | (with_reducible assumption) | (with_reducible exact trivial) | (with_reducible rfl) | skip
    · trivial
    · refine bt_rows (.inr rfl) hB.c hB.K1 hB.K2 ?_ rfl rfl
      refine fun j r hj h6 => jcases (C := fun j => j ≠ 6 → lk _ j = some r → lk _ j = some r) hj ?_ ?_ ?_ ?_ ?_ ?_ ?_ ?_ ?_ ?_ ?_ ?_ h6
      all_goals first | exact fun h => absurd rfl h | exact fun _ e => e
structure BtSt (ds : List DV) (n c m1 m2 o q d : Nat) (k1 k2 : List Value) (b1 b2 : Bool) : Prop where
  B : BtOk ds n c m1 m2 (lbP (prsOf ds) (intsOf k1)) q d k1 k2
  o : q = 0 ∨ o = lbP (prsOf ds) (intsOf k1) * 3
  e : (btw (prsOf ds) (intsOf k1) (intsOf k2)).isEmpty = b1
  x : decide ((btw (prsOf ds) (intsOf k1) (intsOf k2)).length = q) = b2
structure BtA where
  n : Nat
  c : Nat
  m1 : Nat
  m2 : Nat
  o : Nat
  q : Nat
  d : Nat
  ds : List DV
  k1 : List Value
  k2 : List Value
def btPk (live : List (Nat × Value)) (h : Hp) : Option BtA := match live, lk h 0, lk h 1 with
  | _ :: _ :: _ :: _ :: (_, .slice (some ⟨_, o, _⟩) q d) :: _, some ⟨_, [_, .slice _ n c]⟩, some ⟨.sw ds, _⟩ => (match lk h 2, lk h 4, lk h 8, lk h 9 with
    | some ⟨_, k1⟩, some ⟨_, k2⟩, some ⟨_, [.slice _ m1 _]⟩, some ⟨_, [.slice _ m2 _]⟩ => some ⟨n, c, m1, m2, o, q, d, ds, k1, k2⟩
    | _, _, _, _ => none)
  | _, _, _ => none
def btSp (P : Program) : LSpec := lspec btPk (fun a => (btS a.o a.q a.d 0, btG P a.n a.c a.m1 a.m2 a.ds a.k1 a.k2 btN, 12)) (fun a tp => match tp with
  | b1 :: b2 :: tp' => some ((xtB b2, [], btOut P a.n a.c a.m1 a.m2 a.ds a.k1 a.k2 (btw (prsOf a.ds) (intsOf a.k1) (intsOf a.k2)) b1, 120, [6]), tp', [BtSt a.ds a.n a.c a.m1 a.m2 a.o a.q a.d a.k1 a.k2 b1 b2])
  | _ => none)
def btLo (P : Program) : LFun := mkL 50 2 44 [0, 1, 2, 3, 20, 21, 22] (bodyIn P 50 2) (btSp P)
theorem btSp_ok : LSOk Try.prog 44 [0, 1, 2, 3, 20, 21, 22] (bodyIn Try.prog 50 2) (btSp Try.prog) := by
  refine lspec_ok fun a tp xt l2 h2 nx2 d tp' ob hs ho inr ts hn hg => ?_
  obtain ⟨n, c, m1, m2, o, q, d, ds, k1, k2⟩ := a
  simp only at hs hg
  split at hs
  case h_2 => cases hs
  rename_i b1 b2 _
  simp only [Option.some.injEq, Prod.mk.injEq] at hs
  obtain ⟨⟨rfl, rfl, rfl, rfl, rfl⟩, rfl, rfl⟩ := hs
  obtain ⟨⟨hB, ho1, he, hx⟩, _⟩ := ho
  (try simp only at hB ho1 he hx)
  have hdd : d < capBig := by have := hB.d; unfold capBig; omega
  have key := bt_first (inr := inr) (h0 := btG Try.prog n c m1 m2 ds k1 k2 btN) (R := btw (prsOf ds) (intsOf k1) (intsOf k2)) hB ho1 rfl
  rw [he, hx] at key
  refine LRuns.enter (N := 81) (l2 := btS o q d 0) hn hg (by omega) (by omega) (fun n => n) ?_ ?_ rfl key ?_
  · exact ⟨rfl, rfl, rfl, rb_ptr rfl, rfl, rb_ptr rfl, rfl, rb_ptr rfl, rfl, rb_slc rfl hdd, rfl, rfl, rfl, rfl, trivial⟩
  · refine bt_rows (.inl rfl) hB.c hB.K1 hB.K2 ?_ rfl rfl
    refine fun j r hj h6 => jcases (C := fun j => j ≠ 6 → lk _ j = some r → lk _ j = some r) hj ?_ ?_ ?_ ?_ ?_ ?_ ?_ ?_ ?_ ?_ ?_ ?_ h6
    all_goals first | exact fun h => absurd rfl h | exact fun _ e => e
  · refine tidy_of (by omega) (fun m hm hd => ?_) (by cases b1 <;> rfl)
    have h6 : m ≠ 6 := fun e => hd (by simp [e])
    cases b1 with
    | true => rfl
    | false =>
      have hm2 : m < 12 := hm
      show lk ((80, _) :: _) m = _
      rw [lk_cons, if_neg (by omega)]
      simp only [btG, lk_cons, if_neg (Ne.symm h6)]
theorem bw_tt (n c m1 m2 : Nat) (ds : List DV) (k1 k2 : List Value) : prjV (runZ (btV (btLo Try.prog) bsT) Try.prog 12 23 [ptA, kyA m1, kyB m2] (btH n c ds k1 k2) 6 [true, true, true]) =
  Res.ok (Value.slice none 0 0, [], [n = 0 → ds = [], (∀ (τ : Sg), renL τ k1 = some k1) ∧ (m1 = 0 → k1 = []), BsOk ds k1 n m1 ∧ hitP (prsOf ds) (intsOf k1) = true ∧ Value.func (Fn.func 47) (Array.mk []) (Array.mk []) =
 Value.func (Fn.func 47) #[] #[], c < 18446744073709551616, (0 : Int) ≤ (↑(lbP (prsOf ds) (intsOf k1)) : Int) ∧ (↑(lbP (prsOf ds) (intsOf k1)) : Int) ≤ (↑n : Int), bodyIn Try.prog (50 : FuncId) 2 = bodyIn Try.prog (50 :
 FuncId) 2, [(0, Value.func (Fn.yield 11) (Array.mk []) (Array.mk [])), (1, Value.pointer (some (Addr.mk 7 0 none))), (2, Value.pointer (some (Addr.mk 8 0 none))), (3, Value.pointer (some (Addr.mk 9 0 none))), (20,
 Value.slice (some (Addr.mk 1 (loO (some (Value.int IntKind.i64 (↑(lbP (prsOf ds) (intsOf k1)) : Int))) 0 (lbP (prsOf ds) (intsOf k1)) c 3) none)) (sbN n (lbP (prsOf ds) (intsOf k1))) (sbN c (lbP (prsOf ds) (intsOf k1)))),
 (21, Value.int IntKind.i64 (↑(sbN n (lbP (prsOf ds) (intsOf k1))) : Int)), (22, Value.int IntKind.i64 (0 : Int))] = btS (loO (some (Value.int IntKind.i64 (↑(lbP (prsOf ds) (intsOf k1)) : Int))) 0 (lbP (prsOf ds) (intsOf
 k1)) c 3) (sbN n (lbP (prsOf ds) (intsOf k1))) (sbN c (lbP (prsOf ds) (intsOf k1))) 0, (11, Rw.mk (Kd.round LoopState.ready none [Value.pointer (some (Addr.mk 0 0 none)), Value.slice (some (Addr.mk 2 0 none)) m1 (capBig +
 2), Value.slice (some (Addr.mk 4 0 none)) m2 (capBig + 4), Value.tuple #[], Value.tuple #[], Value.tuple #[], Value.slice none 0 0, Value.pointer (some (Addr.mk 6 0 none)), Value.tuple #[], Value.pointer (some (Addr.mk 0
 0 none)), Value.bool false, Value.pointer (some (Addr.mk 0 0 none)), Value.slice (some (Addr.mk 2 0 none)) m1 (capBig + 2), Value.slice (some (Addr.mk 4 0 none)) m2 (capBig + 4), Value.func (Fn.func 50) (Array.mk [])
 (Array.mk [Value.pointer (some (Addr.mk 7 0 none)), Value.pointer (some (Addr.mk 8 0 none)), Value.pointer (some (Addr.mk 9 0 none))]), Value.tuple #[], Value.tuple #[], Value.tuple #[], Value.tuple #[], Value.tuple #[],
 Value.tuple #[]] #[15] (rfAs Try.prog 23) (rfBd Try.prog 23)) []) :: (10, Rw.mk Kd.marks []) :: (9, Rw.mk Kd.shut [Value.slice (some (Addr.mk 4 0 none)) m2 (capBig + 4)]) :: (8, Rw.mk Kd.shut [Value.slice (some (Addr.mk 2
 0 none)) m1 (capBig + 2)]) :: (7, Rw.mk Kd.shut [Value.pointer (some (Addr.mk 0 0 none))]) :: (6, Rw.mk Kd.shut [Value.slice none 0 0]) :: btH n c ds k1 k2 = btG Try.prog n c m1 m2 ds k1 k2 (Value.slice none 0 0), 12 =
 12, BtSt ds n c m1 m2 (loO (some (Value.int IntKind.i64 (↑(lbP (prsOf ds) (intsOf k1)) : Int))) 0 (lbP (prsOf ds) (intsOf k1)) c 3) (sbN n (lbP (prsOf ds) (intsOf k1))) (sbN c (lbP (prsOf ds) (intsOf k1))) k1 k2 true
 true]) := by kernel_rfl
theorem bw_tf (n c m1 m2 : Nat) (ds : List DV) (k1 k2 : List Value) : prjV (runZ (btV (btLo Try.prog) bsT) Try.prog 12 23 [ptA, kyA m1, kyB m2] (btH n c ds k1 k2) 6 [true, true, false]) =
  Res.ok (Value.slice none 0 0, [], [n = 0 → ds = [], (∀ (τ : Sg), renL τ k1 = some k1) ∧ (m1 = 0 → k1 = []), BsOk ds k1 n m1 ∧ hitP (prsOf ds) (intsOf k1) = true ∧ Value.func (Fn.func 47) (Array.mk []) (Array.mk []) =
 Value.func (Fn.func 47) #[] #[], c < 18446744073709551616, (0 : Int) ≤ (↑(lbP (prsOf ds) (intsOf k1)) : Int) ∧ (↑(lbP (prsOf ds) (intsOf k1)) : Int) ≤ (↑n : Int), bodyIn Try.prog (50 : FuncId) 2 = bodyIn Try.prog (50 :
 FuncId) 2, [(0, Value.func (Fn.yield 11) (Array.mk []) (Array.mk [])), (1, Value.pointer (some (Addr.mk 7 0 none))), (2, Value.pointer (some (Addr.mk 8 0 none))), (3, Value.pointer (some (Addr.mk 9 0 none))), (20,
 Value.slice (some (Addr.mk 1 (loO (some (Value.int IntKind.i64 (↑(lbP (prsOf ds) (intsOf k1)) : Int))) 0 (lbP (prsOf ds) (intsOf k1)) c 3) none)) (sbN n (lbP (prsOf ds) (intsOf k1))) (sbN c (lbP (prsOf ds) (intsOf k1)))),
 (21, Value.int IntKind.i64 (↑(sbN n (lbP (prsOf ds) (intsOf k1))) : Int)), (22, Value.int IntKind.i64 (0 : Int))] = btS (loO (some (Value.int IntKind.i64 (↑(lbP (prsOf ds) (intsOf k1)) : Int))) 0 (lbP (prsOf ds) (intsOf
 k1)) c 3) (sbN n (lbP (prsOf ds) (intsOf k1))) (sbN c (lbP (prsOf ds) (intsOf k1))) 0, (11, Rw.mk (Kd.round LoopState.ready none [Value.pointer (some (Addr.mk 0 0 none)), Value.slice (some (Addr.mk 2 0 none)) m1 (capBig +
 2), Value.slice (some (Addr.mk 4 0 none)) m2 (capBig + 4), Value.tuple #[], Value.tuple #[], Value.tuple #[], Value.slice none 0 0, Value.pointer (some (Addr.mk 6 0 none)), Value.tuple #[], Value.pointer (some (Addr.mk 0
 0 none)), Value.bool false, Value.pointer (some (Addr.mk 0 0 none)), Value.slice (some (Addr.mk 2 0 none)) m1 (capBig + 2), Value.slice (some (Addr.mk 4 0 none)) m2 (capBig + 4), Value.func (Fn.func 50) (Array.mk [])
 (Array.mk [Value.pointer (some (Addr.mk 7 0 none)), Value.pointer (some (Addr.mk 8 0 none)), Value.pointer (some (Addr.mk 9 0 none))]), Value.tuple #[], Value.tuple #[], Value.tuple #[], Value.tuple #[], Value.tuple #[],
 Value.tuple #[]] #[15] (rfAs Try.prog 23) (rfBd Try.prog 23)) []) :: (10, Rw.mk Kd.marks []) :: (9, Rw.mk Kd.shut [Value.slice (some (Addr.mk 4 0 none)) m2 (capBig + 4)]) :: (8, Rw.mk Kd.shut [Value.slice (some (Addr.mk 2
 0 none)) m1 (capBig + 2)]) :: (7, Rw.mk Kd.shut [Value.pointer (some (Addr.mk 0 0 none))]) :: (6, Rw.mk Kd.shut [Value.slice none 0 0]) :: btH n c ds k1 k2 = btG Try.prog n c m1 m2 ds k1 k2 (Value.slice none 0 0), 12 =
 12, BtSt ds n c m1 m2 (loO (some (Value.int IntKind.i64 (↑(lbP (prsOf ds) (intsOf k1)) : Int))) 0 (lbP (prsOf ds) (intsOf k1)) c 3) (sbN n (lbP (prsOf ds) (intsOf k1))) (sbN c (lbP (prsOf ds) (intsOf k1))) k1 k2 true
 false]) := by kernel_rfl
theorem bw_ft (n c m1 m2 : Nat) (ds : List DV) (k1 k2 : List Value) : prjV (runZ (btV (btLo Try.prog) bsT) Try.prog 12 23 [ptA, kyA m1, kyB m2] (btH n c ds k1 k2) 6 [false, true, true]) =
  Res.ok (Value.slice none 0 0, [], [n = 0 → ds = [], (∀ (τ : Sg), renL τ k1 = some k1) ∧ (m1 = 0 → k1 = []), BsOk ds k1 n m1 ∧ hitP (prsOf ds) (intsOf k1) = false ∧ Value.func (Fn.func 47) (Array.mk []) (Array.mk []) =
 Value.func (Fn.func 47) #[] #[], c < 18446744073709551616, (0 : Int) ≤ (↑(lbP (prsOf ds) (intsOf k1)) : Int) ∧ (↑(lbP (prsOf ds) (intsOf k1)) : Int) ≤ (↑n : Int), bodyIn Try.prog (50 : FuncId) 2 = bodyIn Try.prog (50 :
 FuncId) 2, [(0, Value.func (Fn.yield 11) (Array.mk []) (Array.mk [])), (1, Value.pointer (some (Addr.mk 7 0 none))), (2, Value.pointer (some (Addr.mk 8 0 none))), (3, Value.pointer (some (Addr.mk 9 0 none))), (20,
 Value.slice (some (Addr.mk 1 (loO (some (Value.int IntKind.i64 (↑(lbP (prsOf ds) (intsOf k1)) : Int))) 0 (lbP (prsOf ds) (intsOf k1)) c 3) none)) (sbN n (lbP (prsOf ds) (intsOf k1))) (sbN c (lbP (prsOf ds) (intsOf k1)))),
 (21, Value.int IntKind.i64 (↑(sbN n (lbP (prsOf ds) (intsOf k1))) : Int)), (22, Value.int IntKind.i64 (0 : Int))] = btS (loO (some (Value.int IntKind.i64 (↑(lbP (prsOf ds) (intsOf k1)) : Int))) 0 (lbP (prsOf ds) (intsOf
 k1)) c 3) (sbN n (lbP (prsOf ds) (intsOf k1))) (sbN c (lbP (prsOf ds) (intsOf k1))) 0, (11, Rw.mk (Kd.round LoopState.ready none [Value.pointer (some (Addr.mk 0 0 none)), Value.slice (some (Addr.mk 2 0 none)) m1 (capBig +
 2), Value.slice (some (Addr.mk 4 0 none)) m2 (capBig + 4), Value.tuple #[], Value.tuple #[], Value.tuple #[], Value.slice none 0 0, Value.pointer (some (Addr.mk 6 0 none)), Value.tuple #[], Value.pointer (some (Addr.mk 0
 0 none)), Value.bool false, Value.pointer (some (Addr.mk 0 0 none)), Value.slice (some (Addr.mk 2 0 none)) m1 (capBig + 2), Value.slice (some (Addr.mk 4 0 none)) m2 (capBig + 4), Value.func (Fn.func 50) (Array.mk [])
 (Array.mk [Value.pointer (some (Addr.mk 7 0 none)), Value.pointer (some (Addr.mk 8 0 none)), Value.pointer (some (Addr.mk 9 0 none))]), Value.tuple #[], Value.tuple #[], Value.tuple #[], Value.tuple #[], Value.tuple #[],
 Value.tuple #[]] #[15] (rfAs Try.prog 23) (rfBd Try.prog 23)) []) :: (10, Rw.mk Kd.marks []) :: (9, Rw.mk Kd.shut [Value.slice (some (Addr.mk 4 0 none)) m2 (capBig + 4)]) :: (8, Rw.mk Kd.shut [Value.slice (some (Addr.mk 2
 0 none)) m1 (capBig + 2)]) :: (7, Rw.mk Kd.shut [Value.pointer (some (Addr.mk 0 0 none))]) :: (6, Rw.mk Kd.shut [Value.slice none 0 0]) :: btH n c ds k1 k2 = btG Try.prog n c m1 m2 ds k1 k2 (Value.slice none 0 0), 12 =
 12, BtSt ds n c m1 m2 (loO (some (Value.int IntKind.i64 (↑(lbP (prsOf ds) (intsOf k1)) : Int))) 0 (lbP (prsOf ds) (intsOf k1)) c 3) (sbN n (lbP (prsOf ds) (intsOf k1))) (sbN c (lbP (prsOf ds) (intsOf k1))) k1 k2 true
 true]) := by kernel_rfl
theorem bw_ff (n c m1 m2 : Nat) (ds : List DV) (k1 k2 : List Value) : prjV (runZ (btV (btLo Try.prog) bsT) Try.prog 12 23 [ptA, kyA m1, kyB m2] (btH n c ds k1 k2) 6 [false, true, false]) =
  Res.ok (Value.slice none 0 0, [], [n = 0 → ds = [], (∀ (τ : Sg), renL τ k1 = some k1) ∧ (m1 = 0 → k1 = []), BsOk ds k1 n m1 ∧ hitP (prsOf ds) (intsOf k1) = false ∧ Value.func (Fn.func 47) (Array.mk []) (Array.mk []) =
 Value.func (Fn.func 47) #[] #[], c < 18446744073709551616, (0 : Int) ≤ (↑(lbP (prsOf ds) (intsOf k1)) : Int) ∧ (↑(lbP (prsOf ds) (intsOf k1)) : Int) ≤ (↑n : Int), bodyIn Try.prog (50 : FuncId) 2 = bodyIn Try.prog (50 :
 FuncId) 2, [(0, Value.func (Fn.yield 11) (Array.mk []) (Array.mk [])), (1, Value.pointer (some (Addr.mk 7 0 none))), (2, Value.pointer (some (Addr.mk 8 0 none))), (3, Value.pointer (some (Addr.mk 9 0 none))), (20,
 Value.slice (some (Addr.mk 1 (loO (some (Value.int IntKind.i64 (↑(lbP (prsOf ds) (intsOf k1)) : Int))) 0 (lbP (prsOf ds) (intsOf k1)) c 3) none)) (sbN n (lbP (prsOf ds) (intsOf k1))) (sbN c (lbP (prsOf ds) (intsOf k1)))),
 (21, Value.int IntKind.i64 (↑(sbN n (lbP (prsOf ds) (intsOf k1))) : Int)), (22, Value.int IntKind.i64 (0 : Int))] = btS (loO (some (Value.int IntKind.i64 (↑(lbP (prsOf ds) (intsOf k1)) : Int))) 0 (lbP (prsOf ds) (intsOf
 k1)) c 3) (sbN n (lbP (prsOf ds) (intsOf k1))) (sbN c (lbP (prsOf ds) (intsOf k1))) 0, (11, Rw.mk (Kd.round LoopState.ready none [Value.pointer (some (Addr.mk 0 0 none)), Value.slice (some (Addr.mk 2 0 none)) m1 (capBig +
 2), Value.slice (some (Addr.mk 4 0 none)) m2 (capBig + 4), Value.tuple #[], Value.tuple #[], Value.tuple #[], Value.slice none 0 0, Value.pointer (some (Addr.mk 6 0 none)), Value.tuple #[], Value.pointer (some (Addr.mk 0
 0 none)), Value.bool false, Value.pointer (some (Addr.mk 0 0 none)), Value.slice (some (Addr.mk 2 0 none)) m1 (capBig + 2), Value.slice (some (Addr.mk 4 0 none)) m2 (capBig + 4), Value.func (Fn.func 50) (Array.mk [])
 (Array.mk [Value.pointer (some (Addr.mk 7 0 none)), Value.pointer (some (Addr.mk 8 0 none)), Value.pointer (some (Addr.mk 9 0 none))]), Value.tuple #[], Value.tuple #[], Value.tuple #[], Value.tuple #[], Value.tuple #[],
 Value.tuple #[]] #[15] (rfAs Try.prog 23) (rfBd Try.prog 23)) []) :: (10, Rw.mk Kd.marks []) :: (9, Rw.mk Kd.shut [Value.slice (some (Addr.mk 4 0 none)) m2 (capBig + 4)]) :: (8, Rw.mk Kd.shut [Value.slice (some (Addr.mk 2
 0 none)) m1 (capBig + 2)]) :: (7, Rw.mk Kd.shut [Value.pointer (some (Addr.mk 0 0 none))]) :: (6, Rw.mk Kd.shut [Value.slice none 0 0]) :: btH n c ds k1 k2 = btG Try.prog n c m1 m2 ds k1 k2 (Value.slice none 0 0), 12 =
 12, BtSt ds n c m1 m2 (loO (some (Value.int IntKind.i64 (↑(lbP (prsOf ds) (intsOf k1)) : Int))) 0 (lbP (prsOf ds) (intsOf k1)) c 3) (sbN n (lbP (prsOf ds) (intsOf k1))) (sbN c (lbP (prsOf ds) (intsOf k1))) k1 k2 true
 false]) := by kernel_rfl
theorem bw_rtt (n c m1 m2 : Nat) (ds : List DV) (k1 k2 : List Value) : (runZ (btV (btLo Try.prog) bsT) Try.prog 12 23 [ptA, kyA m1, kyB m2] (btH n c ds k1 k2) 6 [true, false, true]) =
  Res.ok ((Value.slice (some (Addr.mk 80 0 none)) (List.length (btw (prsOf ds) (intsOf k1) (intsOf k2))) (capBig + 80), [(80, Rw.mk (Kd.df 3 [Value.slice none 0 0, Value.slice none 0 0, Value.bool false] (cpD (btw (prsOf
 ds) (intsOf k1) (intsOf k2)))) []), (9, Rw.mk Kd.shut [Value.slice (some (Addr.mk 4 0 none)) m2 (capBig + 4)]), (8, Rw.mk Kd.shut [Value.slice (some (Addr.mk 2 0 none)) m1 (capBig + 2)]), (7, Rw.mk Kd.shut [Value.pointer
 (some (Addr.mk 0 0 none))]), (6, Rw.mk Kd.shut [Value.slice (some (Addr.mk 80 0 none)) (List.length (btw (prsOf ds) (intsOf k1) (intsOf k2))) (capBig + 80)]), (0, Rw.mk Kd.ow [Value.bool true, Value.slice (some (Addr.mk 1
 0 none)) n c]), (1, Rw.mk (Kd.sw ds) []), (2, Rw.mk Kd.ow k1), (4, Rw.mk Kd.ow k2)], 120, []), [], [n = 0 → ds = [], (∀ (τ : Sg), renL τ k1 = some k1) ∧ (m1 = 0 → k1 = []), BsOk ds k1 n m1 ∧ hitP (prsOf ds) (intsOf k1) =
 true ∧ Value.func (Fn.func 47) (Array.mk []) (Array.mk []) = Value.func (Fn.func 47) #[] #[], c < 18446744073709551616, (0 : Int) ≤ (↑(lbP (prsOf ds) (intsOf k1)) : Int) ∧ (↑(lbP (prsOf ds) (intsOf k1)) : Int) ≤ (↑n :
 Int), bodyIn Try.prog (50 : FuncId) 2 = bodyIn Try.prog (50 : FuncId) 2, [(0, Value.func (Fn.yield 11) (Array.mk []) (Array.mk [])), (1, Value.pointer (some (Addr.mk 7 0 none))), (2, Value.pointer (some (Addr.mk 8 0
 none))), (3, Value.pointer (some (Addr.mk 9 0 none))), (20, Value.slice (some (Addr.mk 1 (loO (some (Value.int IntKind.i64 (↑(lbP (prsOf ds) (intsOf k1)) : Int))) 0 (lbP (prsOf ds) (intsOf k1)) c 3) none)) (sbN n (lbP
 (prsOf ds) (intsOf k1))) (sbN c (lbP (prsOf ds) (intsOf k1)))), (21, Value.int IntKind.i64 (↑(sbN n (lbP (prsOf ds) (intsOf k1))) : Int)), (22, Value.int IntKind.i64 (0 : Int))] = btS (loO (some (Value.int IntKind.i64
 (↑(lbP (prsOf ds) (intsOf k1)) : Int))) 0 (lbP (prsOf ds) (intsOf k1)) c 3) (sbN n (lbP (prsOf ds) (intsOf k1))) (sbN c (lbP (prsOf ds) (intsOf k1))) 0, (11, Rw.mk (Kd.round LoopState.ready none [Value.pointer (some
 (Addr.mk 0 0 none)), Value.slice (some (Addr.mk 2 0 none)) m1 (capBig + 2), Value.slice (some (Addr.mk 4 0 none)) m2 (capBig + 4), Value.tuple #[], Value.tuple #[], Value.tuple #[], Value.slice none 0 0, Value.pointer
 (some (Addr.mk 6 0 none)), Value.tuple #[], Value.pointer (some (Addr.mk 0 0 none)), Value.bool false, Value.pointer (some (Addr.mk 0 0 none)), Value.slice (some (Addr.mk 2 0 none)) m1 (capBig + 2), Value.slice (some
 (Addr.mk 4 0 none)) m2 (capBig + 4), Value.func (Fn.func 50) (Array.mk []) (Array.mk [Value.pointer (some (Addr.mk 7 0 none)), Value.pointer (some (Addr.mk 8 0 none)), Value.pointer (some (Addr.mk 9 0 none))]),
 Value.tuple #[], Value.tuple #[], Value.tuple #[], Value.tuple #[], Value.tuple #[], Value.tuple #[]] #[15] (rfAs Try.prog 23) (rfBd Try.prog 23)) []) :: (10, Rw.mk Kd.marks []) :: (9, Rw.mk Kd.shut [Value.slice (some
 (Addr.mk 4 0 none)) m2 (capBig + 4)]) :: (8, Rw.mk Kd.shut [Value.slice (some (Addr.mk 2 0 none)) m1 (capBig + 2)]) :: (7, Rw.mk Kd.shut [Value.pointer (some (Addr.mk 0 0 none))]) :: (6, Rw.mk Kd.shut [Value.slice none 0
 0]) :: btH n c ds k1 k2 = btG Try.prog n c m1 m2 ds k1 k2 (Value.slice none 0 0), 12 = 12, BtSt ds n c m1 m2 (loO (some (Value.int IntKind.i64 (↑(lbP (prsOf ds) (intsOf k1)) : Int))) 0 (lbP (prsOf ds) (intsOf k1)) c 3)
 (sbN n (lbP (prsOf ds) (intsOf k1))) (sbN c (lbP (prsOf ds) (intsOf k1))) k1 k2 false true]) := by kernel_rfl
theorem bw_rtf (n c m1 m2 : Nat) (ds : List DV) (k1 k2 : List Value) : (runZ (btV (btLo Try.prog) bsT) Try.prog 12 23 [ptA, kyA m1, kyB m2] (btH n c ds k1 k2) 6 [true, false, false]) =
  Res.ok ((Value.slice (some (Addr.mk 80 0 none)) (List.length (btw (prsOf ds) (intsOf k1) (intsOf k2))) (capBig + 80), [(80, Rw.mk (Kd.df 3 [Value.slice none 0 0, Value.slice none 0 0, Value.bool false] (cpD (btw (prsOf
 ds) (intsOf k1) (intsOf k2)))) []), (9, Rw.mk Kd.shut [Value.slice (some (Addr.mk 4 0 none)) m2 (capBig + 4)]), (8, Rw.mk Kd.shut [Value.slice (some (Addr.mk 2 0 none)) m1 (capBig + 2)]), (7, Rw.mk Kd.shut [Value.pointer
 (some (Addr.mk 0 0 none))]), (6, Rw.mk Kd.shut [Value.slice (some (Addr.mk 80 0 none)) (List.length (btw (prsOf ds) (intsOf k1) (intsOf k2))) (capBig + 80)]), (0, Rw.mk Kd.ow [Value.bool true, Value.slice (some (Addr.mk 1
 0 none)) n c]), (1, Rw.mk (Kd.sw ds) []), (2, Rw.mk Kd.ow k1), (4, Rw.mk Kd.ow k2)], 120, []), [], [n = 0 → ds = [], (∀ (τ : Sg), renL τ k1 = some k1) ∧ (m1 = 0 → k1 = []), BsOk ds k1 n m1 ∧ hitP (prsOf ds) (intsOf k1) =
 true ∧ Value.func (Fn.func 47) (Array.mk []) (Array.mk []) = Value.func (Fn.func 47) #[] #[], c < 18446744073709551616, (0 : Int) ≤ (↑(lbP (prsOf ds) (intsOf k1)) : Int) ∧ (↑(lbP (prsOf ds) (intsOf k1)) : Int) ≤ (↑n :
 Int), bodyIn Try.prog (50 : FuncId) 2 = bodyIn Try.prog (50 : FuncId) 2, [(0, Value.func (Fn.yield 11) (Array.mk []) (Array.mk [])), (1, Value.pointer (some (Addr.mk 7 0 none))), (2, Value.pointer (some (Addr.mk 8 0
 none))), (3, Value.pointer (some (Addr.mk 9 0 none))), (20, Value.slice (some (Addr.mk 1 (loO (some (Value.int IntKind.i64 (↑(lbP (prsOf ds) (intsOf k1)) : Int))) 0 (lbP (prsOf ds) (intsOf k1)) c 3) none)) (sbN n (lbP
 (prsOf ds) (intsOf k1))) (sbN c (lbP (prsOf ds) (intsOf k1)))), (21, Value.int IntKind.i64 (↑(sbN n (lbP (prsOf ds) (intsOf k1))) : Int)), (22, Value.int IntKind.i64 (0 : Int))] = btS (loO (some (Value.int IntKind.i64
 (↑(lbP (prsOf ds) (intsOf k1)) : Int))) 0 (lbP (prsOf ds) (intsOf k1)) c 3) (sbN n (lbP (prsOf ds) (intsOf k1))) (sbN c (lbP (prsOf ds) (intsOf k1))) 0, (11, Rw.mk (Kd.round LoopState.ready none [Value.pointer (some
 (Addr.mk 0 0 none)), Value.slice (some (Addr.mk 2 0 none)) m1 (capBig + 2), Value.slice (some (Addr.mk 4 0 none)) m2 (capBig + 4), Value.tuple #[], Value.tuple #[], Value.tuple #[], Value.slice none 0 0, Value.pointer
 (some (Addr.mk 6 0 none)), Value.tuple #[], Value.pointer (some (Addr.mk 0 0 none)), Value.bool false, Value.pointer (some (Addr.mk 0 0 none)), Value.slice (some (Addr.mk 2 0 none)) m1 (capBig + 2), Value.slice (some
 (Addr.mk 4 0 none)) m2 (capBig + 4), Value.func (Fn.func 50) (Array.mk []) (Array.mk [Value.pointer (some (Addr.mk 7 0 none)), Value.pointer (some (Addr.mk 8 0 none)), Value.pointer (some (Addr.mk 9 0 none))]),
 Value.tuple #[], Value.tuple #[], Value.tuple #[], Value.tuple #[], Value.tuple #[], Value.tuple #[]] #[15] (rfAs Try.prog 23) (rfBd Try.prog 23)) []) :: (10, Rw.mk Kd.marks []) :: (9, Rw.mk Kd.shut [Value.slice (some
 (Addr.mk 4 0 none)) m2 (capBig + 4)]) :: (8, Rw.mk Kd.shut [Value.slice (some (Addr.mk 2 0 none)) m1 (capBig + 2)]) :: (7, Rw.mk Kd.shut [Value.pointer (some (Addr.mk 0 0 none))]) :: (6, Rw.mk Kd.shut [Value.slice none 0
 0]) :: btH n c ds k1 k2 = btG Try.prog n c m1 m2 ds k1 k2 (Value.slice none 0 0), 12 = 12, BtSt ds n c m1 m2 (loO (some (Value.int IntKind.i64 (↑(lbP (prsOf ds) (intsOf k1)) : Int))) 0 (lbP (prsOf ds) (intsOf k1)) c 3)
 (sbN n (lbP (prsOf ds) (intsOf k1))) (sbN c (lbP (prsOf ds) (intsOf k1))) k1 k2 false false]) := by kernel_rfl
theorem bw_rft (n c m1 m2 : Nat) (ds : List DV) (k1 k2 : List Value) : (runZ (btV (btLo Try.prog) bsT) Try.prog 12 23 [ptA, kyA m1, kyB m2] (btH n c ds k1 k2) 6 [false, false, true]) =
  Res.ok ((Value.slice (some (Addr.mk 80 0 none)) (List.length (btw (prsOf ds) (intsOf k1) (intsOf k2))) (capBig + 80), [(80, Rw.mk (Kd.df 3 [Value.slice none 0 0, Value.slice none 0 0, Value.bool false] (cpD (btw (prsOf
 ds) (intsOf k1) (intsOf k2)))) []), (9, Rw.mk Kd.shut [Value.slice (some (Addr.mk 4 0 none)) m2 (capBig + 4)]), (8, Rw.mk Kd.shut [Value.slice (some (Addr.mk 2 0 none)) m1 (capBig + 2)]), (7, Rw.mk Kd.shut [Value.pointer
 (some (Addr.mk 0 0 none))]), (6, Rw.mk Kd.shut [Value.slice (some (Addr.mk 80 0 none)) (List.length (btw (prsOf ds) (intsOf k1) (intsOf k2))) (capBig + 80)]), (0, Rw.mk Kd.ow [Value.bool true, Value.slice (some (Addr.mk 1
 0 none)) n c]), (1, Rw.mk (Kd.sw ds) []), (2, Rw.mk Kd.ow k1), (4, Rw.mk Kd.ow k2)], 120, []), [], [n = 0 → ds = [], (∀ (τ : Sg), renL τ k1 = some k1) ∧ (m1 = 0 → k1 = []), BsOk ds k1 n m1 ∧ hitP (prsOf ds) (intsOf k1) =
 false ∧ Value.func (Fn.func 47) (Array.mk []) (Array.mk []) = Value.func (Fn.func 47) #[] #[], c < 18446744073709551616, (0 : Int) ≤ (↑(lbP (prsOf ds) (intsOf k1)) : Int) ∧ (↑(lbP (prsOf ds) (intsOf k1)) : Int) ≤ (↑n :
 Int), bodyIn Try.prog (50 : FuncId) 2 = bodyIn Try.prog (50 : FuncId) 2, [(0, Value.func (Fn.yield 11) (Array.mk []) (Array.mk [])), (1, Value.pointer (some (Addr.mk 7 0 none))), (2, Value.pointer (some (Addr.mk 8 0
 none))), (3, Value.pointer (some (Addr.mk 9 0 none))), (20, Value.slice (some (Addr.mk 1 (loO (some (Value.int IntKind.i64 (↑(lbP (prsOf ds) (intsOf k1)) : Int))) 0 (lbP (prsOf ds) (intsOf k1)) c 3) none)) (sbN n (lbP
 (prsOf ds) (intsOf k1))) (sbN c (lbP (prsOf ds) (intsOf k1)))), (21, Value.int IntKind.i64 (↑(sbN n (lbP (prsOf ds) (intsOf k1))) : Int)), (22, Value.int IntKind.i64 (0 : Int))] = btS (loO (some (Value.int IntKind.i64
 (↑(lbP (prsOf ds) (intsOf k1)) : Int))) 0 (lbP (prsOf ds) (intsOf k1)) c 3) (sbN n (lbP (prsOf ds) (intsOf k1))) (sbN c (lbP (prsOf ds) (intsOf k1))) 0, (11, Rw.mk (Kd.round LoopState.ready none [Value.pointer (some
 (Addr.mk 0 0 none)), Value.slice (some (Addr.mk 2 0 none)) m1 (capBig + 2), Value.slice (some (Addr.mk 4 0 none)) m2 (capBig + 4), Value.tuple #[], Value.tuple #[], Value.tuple #[], Value.slice none 0 0, Value.pointer
 (some (Addr.mk 6 0 none)), Value.tuple #[], Value.pointer (some (Addr.mk 0 0 none)), Value.bool false, Value.pointer (some (Addr.mk 0 0 none)), Value.slice (some (Addr.mk 2 0 none)) m1 (capBig + 2), Value.slice (some
 (Addr.mk 4 0 none)) m2 (capBig + 4), Value.func (Fn.func 50) (Array.mk []) (Array.mk [Value.pointer (some (Addr.mk 7 0 none)), Value.pointer (some (Addr.mk 8 0 none)), Value.pointer (some (Addr.mk 9 0 none))]),
 Value.tuple #[], Value.tuple #[], Value.tuple #[], Value.tuple #[], Value.tuple #[], Value.tuple #[]] #[15] (rfAs Try.prog 23) (rfBd Try.prog 23)) []) :: (10, Rw.mk Kd.marks []) :: (9, Rw.mk Kd.shut [Value.slice (some
 (Addr.mk 4 0 none)) m2 (capBig + 4)]) :: (8, Rw.mk Kd.shut [Value.slice (some (Addr.mk 2 0 none)) m1 (capBig + 2)]) :: (7, Rw.mk Kd.shut [Value.pointer (some (Addr.mk 0 0 none))]) :: (6, Rw.mk Kd.shut [Value.slice none 0
 0]) :: btH n c ds k1 k2 = btG Try.prog n c m1 m2 ds k1 k2 (Value.slice none 0 0), 12 = 12, BtSt ds n c m1 m2 (loO (some (Value.int IntKind.i64 (↑(lbP (prsOf ds) (intsOf k1)) : Int))) 0 (lbP (prsOf ds) (intsOf k1)) c 3)
 (sbN n (lbP (prsOf ds) (intsOf k1))) (sbN c (lbP (prsOf ds) (intsOf k1))) k1 k2 false true]) := by kernel_rfl
theorem bw_rff (n c m1 m2 : Nat) (ds : List DV) (k1 k2 : List Value) : (runZ (btV (btLo Try.prog) bsT) Try.prog 12 23 [ptA, kyA m1, kyB m2] (btH n c ds k1 k2) 6 [false, false, false]) =
  Res.ok ((Value.slice (some (Addr.mk 80 0 none)) (List.length (btw (prsOf ds) (intsOf k1) (intsOf k2))) (capBig + 80), [(80, Rw.mk (Kd.df 3 [Value.slice none 0 0, Value.slice none 0 0, Value.bool false] (cpD (btw (prsOf
 ds) (intsOf k1) (intsOf k2)))) []), (9, Rw.mk Kd.shut [Value.slice (some (Addr.mk 4 0 none)) m2 (capBig + 4)]), (8, Rw.mk Kd.shut [Value.slice (some (Addr.mk 2 0 none)) m1 (capBig + 2)]), (7, Rw.mk Kd.shut [Value.pointer
 (some (Addr.mk 0 0 none))]), (6, Rw.mk Kd.shut [Value.slice (some (Addr.mk 80 0 none)) (List.length (btw (prsOf ds) (intsOf k1) (intsOf k2))) (capBig + 80)]), (0, Rw.mk Kd.ow [Value.bool true, Value.slice (some (Addr.mk 1
 0 none)) n c]), (1, Rw.mk (Kd.sw ds) []), (2, Rw.mk Kd.ow k1), (4, Rw.mk Kd.ow k2)], 120, []), [], [n = 0 → ds = [], (∀ (τ : Sg), renL τ k1 = some k1) ∧ (m1 = 0 → k1 = []), BsOk ds k1 n m1 ∧ hitP (prsOf ds) (intsOf k1) =
 false ∧ Value.func (Fn.func 47) (Array.mk []) (Array.mk []) = Value.func (Fn.func 47) #[] #[], c < 18446744073709551616, (0 : Int) ≤ (↑(lbP (prsOf ds) (intsOf k1)) : Int) ∧ (↑(lbP (prsOf ds) (intsOf k1)) : Int) ≤ (↑n :
 Int), bodyIn Try.prog (50 : FuncId) 2 = bodyIn Try.prog (50 : FuncId) 2, [(0, Value.func (Fn.yield 11) (Array.mk []) (Array.mk [])), (1, Value.pointer (some (Addr.mk 7 0 none))), (2, Value.pointer (some (Addr.mk 8 0
 none))), (3, Value.pointer (some (Addr.mk 9 0 none))), (20, Value.slice (some (Addr.mk 1 (loO (some (Value.int IntKind.i64 (↑(lbP (prsOf ds) (intsOf k1)) : Int))) 0 (lbP (prsOf ds) (intsOf k1)) c 3) none)) (sbN n (lbP
 (prsOf ds) (intsOf k1))) (sbN c (lbP (prsOf ds) (intsOf k1)))), (21, Value.int IntKind.i64 (↑(sbN n (lbP (prsOf ds) (intsOf k1))) : Int)), (22, Value.int IntKind.i64 (0 : Int))] = btS (loO (some (Value.int IntKind.i64
 (↑(lbP (prsOf ds) (intsOf k1)) : Int))) 0 (lbP (prsOf ds) (intsOf k1)) c 3) (sbN n (lbP (prsOf ds) (intsOf k1))) (sbN c (lbP (prsOf ds) (intsOf k1))) 0, (11, Rw.mk (Kd.round LoopState.ready none [Value.pointer (some
 (Addr.mk 0 0 none)), Value.slice (some (Addr.mk 2 0 none)) m1 (capBig + 2), Value.slice (some (Addr.mk 4 0 none)) m2 (capBig + 4), Value.tuple #[], Value.tuple #[], Value.tuple #[], Value.slice none 0 0, Value.pointer
 (some (Addr.mk 6 0 none)), Value.tuple #[], Value.pointer (some (Addr.mk 0 0 none)), Value.bool false, Value.pointer (some (Addr.mk 0 0 none)), Value.slice (some (Addr.mk 2 0 none)) m1 (capBig + 2), Value.slice (some
 (Addr.mk 4 0 none)) m2 (capBig + 4), Value.func (Fn.func 50) (Array.mk []) (Array.mk [Value.pointer (some (Addr.mk 7 0 none)), Value.pointer (some (Addr.mk 8 0 none)), Value.pointer (some (Addr.mk 9 0 none))]),
 Value.tuple #[], Value.tuple #[], Value.tuple #[], Value.tuple #[], Value.tuple #[], Value.tuple #[]] #[15] (rfAs Try.prog 23) (rfBd Try.prog 23)) []) :: (10, Rw.mk Kd.marks []) :: (9, Rw.mk Kd.shut [Value.slice (some
 (Addr.mk 4 0 none)) m2 (capBig + 4)]) :: (8, Rw.mk Kd.shut [Value.slice (some (Addr.mk 2 0 none)) m1 (capBig + 2)]) :: (7, Rw.mk Kd.shut [Value.pointer (some (Addr.mk 0 0 none))]) :: (6, Rw.mk Kd.shut [Value.slice none 0
 0]) :: btH n c ds k1 k2 = btG Try.prog n c m1 m2 ds k1 k2 (Value.slice none 0 0), 12 = 12, BtSt ds n c m1 m2 (loO (some (Value.int IntKind.i64 (↑(lbP (prsOf ds) (intsOf k1)) : Int))) 0 (lbP (prsOf ds) (intsOf k1)) c 3)
 (sbN n (lbP (prsOf ds) (intsOf k1))) (sbN c (lbP (prsOf ds) (intsOf k1))) k1 k2 false false]) := by kernel_rfl
def gBtw : GSpecD := fun aL tp => match aL, tp with
  | [.tb [.bool true] ds n, .sl k1 m1, .sl k2 m2], true :: tp' => some (⟨fun _ => .slice none 0 0, []⟩, tp', [TbK ds n ∧ BytI m1 k1 ∧ BytI m2 k2 ∧ (btw (prsOf ds) (intsOf k1) (intsOf k2)).isEmpty = true])
  | [.tb [.bool true] ds n, .sl k1 m1, .sl k2 m2], false :: tp' => some (⟨fun nx => .slice (some ⟨nx, 0, none⟩) (btw (prsOf ds) (intsOf k1) (intsOf k2)).length (capBig + nx), [⟨.df 3 zPr (cpD (btw (prsOf ds) (intsOf k1) (intsOf k2))), []⟩]⟩, tp', [TbK ds n ∧ BytI m1 k1 ∧ BytI m2 k2 ∧ (btw (prsOf ds) (intsOf k1) (intsOf k2)).isEmpty = false])
  | _, _ => none
theorem bw_ob {ds : List DV} {n c m1 m2 : Nat} {k1 k2 : List Value} {b0 b1 b2 : Bool} {v : Value} (h1 : TbK ds n) (h2 : BytI m1 k1) (h3 : BytI m2 k2) (hc : n ≤ c ∧ c ≤ 9223372036854775807) (e0 : hitP (prsOf ds) (intsOf k1) = b0) (e1 : (btw (prsOf ds) (intsOf k1) (intsOf k2)).isEmpty = b1) (e2 : decide ((btw (prsOf ds) (intsOf k1) (intsOf k2)).length = sbN n (lbP (prsOf ds) (intsOf k1))) = b2) :
    (n = 0 → ds = []) ∧ ((∀ τ, renL τ k1 = some k1) ∧ (m1 = 0 → k1 = [])) ∧ (BsOk ds k1 n m1 ∧ hitP (prsOf ds) (intsOf k1) = b0) ∧ c < 18446744073709551616 ∧ (0 ≤ (lbP (prsOf ds) (intsOf k1) : Int) ∧ (lbP (prsOf ds) (intsOf k1) : Int) ≤ (n : Int)) ∧ BtSt ds n c m1 m2 (loO (some v) 0 (lbP (prsOf ds) (intsOf k1)) c 3) (sbN n (lbP (prsOf ds) (intsOf k1))) (sbN c (lbP (prsOf ds) (intsOf k1))) k1 k2 b1 b2 := by
  have hle := lb_le (prsOf ds) (intsOf k1)
  rw [h1.T.l] at hle
  have he : n = 0 → ds = [] := fun e => by
    have := h1.T.P
    rw [List.eq_nil_of_length_eq_zero (h1.T.l.trans e)] at this
    exact this
  refine ⟨he, ⟨h2.fl, fun e => List.eq_nil_of_length_eq_zero (by rw [h2.2.2, e])⟩, ⟨⟨h1.T, h2⟩, e0⟩, by omega, ⟨by omega, by omega⟩, ⟨⟨h1, h2, h3, hc.2, by rw [sbN_eq]; omega, by rw [sbN_eq]; omega⟩, ?_, e1, e2⟩⟩
  by_cases h : lbP (prsOf ds) (intsOf k1) = c
  · exact .inl (by rw [sbN_eq]; omega)
  · refine .inr ?_
    show slO 0 (lbP (prsOf ds) (intsOf k1)) c 3 = _
    unfold slO
    rw [nbeq_ne (Ne.symm h)]
    simp
theorem btw_gok : GOkD Try.prog 23 gBtw := by
  intro aL tp gr tp' ob hG ho cs hcs
  have hX : XOkZ (btV (btLo Try.prog) bsT) Try.prog := btX
  have hT : TOkZ (btV (btLo Try.prog) bsT) Try.prog := btT
  have hL : LOkZ (btV (btLo Try.prog) bsT) Try.prog := L_okV rfl (mkL_ok btSp_ok)
  unfold gBtw at hG
  split at hG
  · rename_i ds n k1 m1 k2 m2 tp2
    simp only [Option.some.injEq, Prod.mk.injEq] at hG
    obtain ⟨rfl, rfl, rfl⟩ := hG
    obtain ⟨⟨h1, h2, h3, h4⟩, _⟩ := ho
    obtain ⟨c, x, y, rfl, hc⟩ : ∃ c x y, cs = [c, x, y] ∧ n ≤ c ∧ c ≤ 9223372036854775807 := by
      match cs, hcs with
      | [c, x, y], hcs => exact ⟨c, x, y, rfl, hcs.1⟩
    have fin : ∀ {tp3 : Tape} {ob : List Prop} {tp4 : Tape}, prjV (runZ (btV (btLo Try.prog) bsT) Try.prog 12 23 [ptA, kyA m1, kyB m2] (btH n c ds k1 k2) 6 tp3) = .ok (.slice none 0 0, tp4, ob) → Alls ob → ∃ v0 h0' nx0' d0 g, Tri Try.prog 23 (dvV [.tb [.bool true] ds n, .sl k1 m1, .sl k2 m2] [c, x, y] 0) (dvH [.tb [.bool true] ds n, .sl k1 m1, .sl k2 m2] [c, x, y] 0) (2 * 3) (v0, h0', nx0', d0) ∧ GrD ⟨fun _ => .slice none 0 0, []⟩ v0 h0' g := fun e ho => by
      obtain ⟨h', nx', dd, T⟩ := run_val hX hT hL e ho rfl
      exact ⟨_, h', nx', dd, fun n => n, T, GrD.flat fun σ => rfl⟩
    cases e0 : hitP (prsOf ds) (intsOf k1) <;> cases e2 : decide ((btw (prsOf ds) (intsOf k1) (intsOf k2)).length = sbN n (lbP (prsOf ds) (intsOf k1)))
    all_goals obtain ⟨q1, q2, ⟨q3, q4⟩, q5, q6, q7⟩ := bw_ob (v := Value.int IntKind.i64 (lbP (prsOf ds) (intsOf k1) : Int)) h1 h2 h3 hc e0 h4 e2
    · exact fin (bw_ff n c m1 m2 ds k1 k2) ⟨q1, q2, ⟨q3, q4, rfl⟩, q5, q6, rfl, rfl, rfl, rfl, q7, trivial⟩
    · exact fin (bw_ft n c m1 m2 ds k1 k2) ⟨q1, q2, ⟨q3, q4, rfl⟩, q5, q6, rfl, rfl, rfl, rfl, q7, trivial⟩
    · exact fin (bw_tf n c m1 m2 ds k1 k2) ⟨q1, q2, ⟨q3, q4, rfl⟩, q5, q6, rfl, rfl, rfl, rfl, q7, trivial⟩
    · exact fin (bw_tt n c m1 m2 ds k1 k2) ⟨q1, q2, ⟨q3, q4, rfl⟩, q5, q6, rfl, rfl, rfl, rfl, q7, trivial⟩
  · rename_i ds n k1 m1 k2 m2 tp2
    simp only [Option.some.injEq, Prod.mk.injEq] at hG
    obtain ⟨rfl, rfl, rfl⟩ := hG
    obtain ⟨⟨h1, h2, h3, h4⟩, _⟩ := ho
    obtain ⟨c, x, y, rfl, hc⟩ : ∃ c x y, cs = [c, x, y] ∧ n ≤ c ∧ c ≤ 9223372036854775807 := by
      match cs, hcs with
      | [c, x, y], hcs => exact ⟨c, x, y, rfl, hcs.1⟩
    have fin : ∀ {tp3 : Tape} {h' : Hp} {nx' : Nat} {d : List Nat} {ob : List Prop} {tp4 : Tape}, runZ (btV (btLo Try.prog) bsT) Try.prog 12 23 [ptA, kyA m1, kyB m2] (btH n c ds k1 k2) 6 tp3 = .ok ((.slice (some ⟨80, 0, none⟩) (btw (prsOf ds) (intsOf k1) (intsOf k2)).length (capBig + 80), h', nx', d), tp4, ob) → Alls ob → lk h' 80 = some ⟨.df 3 zPr (cpD (btw (prsOf ds) (intsOf k1) (intsOf k2))), []⟩ → ∃ v0 h0' nx0' d0 g, Tri Try.prog 23 (dvV [.tb [.bool true] ds n, .sl k1 m1, .sl k2 m2] [c, x, y] 0) (dvH [.tb [.bool true] ds n, .sl k1 m1, .sl k2 m2] [c, x, y] 0) (2 * 3) (v0, h0', nx0', d0) ∧ GrD ⟨fun nx => .slice (some ⟨nx, 0, none⟩) (btw (prsOf ds) (intsOf k1) (intsOf k2)).length (capBig + nx), [⟨.df 3 zPr (cpD (btw (prsOf ds) (intsOf k1) (intsOf k2))), []⟩]⟩ v0 h0' g := fun e ho hl => by
      have T := run_tri hX hT hL e ho rfl
      refine ⟨_, _, _, _, fun _ => 80, T, ⟨fun nx => f2s_slice0 (g := fun _ => 80) (by simp) _, fun j r hj => ?_, fun i j hi hj _ => by simp at hi hj; omega⟩⟩
      match j, hj with
      | 0, hj => cases hj; exact ⟨fun τ => rfl, rfl, hl⟩
    cases e0 : hitP (prsOf ds) (intsOf k1) <;> cases e2 : decide ((btw (prsOf ds) (intsOf k1) (intsOf k2)).length = sbN n (lbP (prsOf ds) (intsOf k1)))
    all_goals obtain ⟨q1, q2, ⟨q3, q4⟩, q5, q6, q7⟩ := bw_ob (v := Value.int IntKind.i64 (lbP (prsOf ds) (intsOf k1) : Int)) h1 h2 h3 hc e0 h4 e2
    · exact fin (bw_rff n c m1 m2 ds k1 k2) ⟨q1, q2, ⟨q3, q4, rfl⟩, q5, q6, rfl, rfl, rfl, rfl, q7, trivial⟩ rfl
    · exact fin (bw_rft n c m1 m2 ds k1 k2) ⟨q1, q2, ⟨q3, q4, rfl⟩, q5, q6, rfl, rfl, rfl, rfl, q7, trivial⟩ rfl
    · exact fin (bw_rtf n c m1 m2 ds k1 k2) ⟨q1, q2, ⟨q3, q4, rfl⟩, q5, q6, rfl, rfl, rfl, rfl, q7, trivial⟩ rfl
    · exact fin (bw_rtt n c m1 m2 ds k1 k2) ⟨q1, q2, ⟨q3, q4, rfl⟩, q5, q6, rfl, rfl, rfl, rfl, q7, trivial⟩ rfl
  · cases hG
def btwT : TFun := mkD 23 [.t 3, .s, .s] gBtw
theorem btwT_one : TOneZ Try.prog btwT := mkD_ok btw_gok
end Go.Proofs.Ytojakfnljopjbaa
