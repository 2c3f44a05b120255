/-
  Chapter 26: the statement PipelineOrder: rounds of the iterator in Ok and Heads.
-/
import Derived.Test.YthbcemcgbgoplaaPoA
import Derived.Test.YthbcemcgbgoplaaRowT
namespace Go.Proofs.Ythbcemcgbgoplaa
set_option linter.unusedSimpArgs false
set_option linter.unusedVariables false
set_option linter.unusedSectionVars false
open Go Go.RowKit
def findR : Code → Option (Code × Code)
  | .rangeFunc _ _ x y => some (x, y)
  | .seq x y => match findR x with | some c => some c | none => findR y
  | .block _ x => findR x
  | .scope x => findR x
  | .loop x => findR x
  | .cond _ x y => match findR x with | some c => some c | none => findR y
  | _ => none
def rgOf (P : Program) (f : FuncId) : Code × Code := match P.funcs[f]? with
  | some fn => (match fn.body with
    | some c => (match findR c with | some x => x | none => (.skip, .skip))
    | none => (.skip, .skip))
  | none => (.skip, .skip)
def okAs (P : Program) : Code := (rgOf P 11).1
def okBd (P : Program) : Code := (rgOf P 11).2
def hdAs (P : Program) : Code := (rgOf P 14).1
def hdBd (P : Program) : Code := (rgOf P 14).2
def poTab : FuncId → List Nat := fun f => bif Nat.beq f 46 then [9] else bif Nat.beq f 11 then [16, 24, 36, 45] else bif Nat.beq f 29 then [10] else []
def poSy : FuncId → Nat → Option Nat := orSy (lsSy 46 [(7, 0), (16, 0), (18, 0), (19, 7), (22, 0), (25, 0)]) (orSy (lsSy 11 [(23, 0), (34, 0), (43, 0), (51, 0), (52, 0), (61, 0), (62, 0), (69, 0), (100071, 0)]) (orSy (lsSy 29 [(9, 0)]) (lsSy 14 [(16, 0), (22, 0), (25, 0)])))
/-- s': what With makes; hd: the rounds are those of Heads. -/
def poV (s' : Int) (hd : Bool) (L : LFun) : Tv := ⟨poT0 s', noXz, L, poTab, poSy, fun _ => [], fun c => bif hd then 14 else 11⟩
def alB (P : Program) : Code := bodyIn P 46 1
abbrev pp (n o : Nat) : Value := .pointer (some ⟨n, o, none⟩)
def tz : Nat → List Value
  | 0 => []
  | n + 1 => .tuple #[] :: tz n
def okTm (r op view o : Int) : List Value := [pp 0 0, .int .i64 r, .int .i64 op, .int .i64 view, .tuple #[], pp 1 0, pp 2 0, pp 3 0, pp 4 0, .tuple #[], .tuple #[], .tuple #[], pp 0 0, .bool false, .bool false, .int .i64 r, .bool false, .bool false, .bool false, .int .i64 r, pp 0 0, pp 0 0, pp 0 290, .int .i64 o, .bool false, .bool false, pp 0 0, .func (.func 46) ⟨[]⟩ ⟨[pp 5 0]⟩] ++ tz 44
def okR (P : Program) (st : LoopState) (pe : Option Code) (r op view o : Int) : Rw := ⟨.round st pe (okTm r op view o) #[28] (okAs P) (okBd P), []⟩
def okH (P : Program) (r op view o : Int) (b : Bool) (C : List Value) : Hp := [(7, okR P .ready none r op view o), (6, ⟨.marks, []⟩), (5, ⟨.shut, [pp 0 0]⟩), (4, ⟨.shut, [.bool b]⟩), (3, ⟨.shut, [.int .i64 view]⟩), (2, ⟨.shut, [.int .i64 op]⟩), (1, ⟨.shut, [.int .i64 r]⟩), (0, ⟨.shut, C⟩)]
def okS (n i : Int) : List (Nat × Value) := [(0, .func (.yield 7) ⟨[]⟩ ⟨[]⟩), (1, pp 5 0), (7, .int .i64 n), (8, .int .i64 i)]
theorem ok_m1 (inr : Bool) (s' r op view o n : Int) (i : Nat) (C : List Value) : prjZ [0, 1, 7, 8] (codeZ (poV s' false noL) Try.prog (runZ (poV s' false noL) Try.prog 9) 46 inr 100000 (alB Try.prog) (SL 26 (okS n (i : Int))) (okH Try.prog r op view o false C) 8 [true, false]) =
  Res.ok ((Xt.normal, 26, [(0, Value.func (Fn.yield 7) (Array.mk []) (Array.mk [])), (1, Value.pointer (some (Addr.mk 5 0 none))), (7, Value.int IntKind.i64 n), (8, Value.int IntKind.i64 (↑(i + 1) : Int))], [(7, okR
 Try.prog LoopState.ready none r op view o), (6, Rw.mk Kd.marks []), (5, Rw.mk Kd.shut [Value.pointer (some (Addr.mk 0 0 none))]), (4, Rw.mk Kd.shut [Value.bool false]), (3, Rw.mk Kd.shut [Value.int IntKind.i64 view]), (2,
 Rw.mk Kd.shut [Value.int IntKind.i64 op]), (1, Rw.mk Kd.shut [Value.int IntKind.i64 r]), (0, Rw.mk Kd.shut C)], 8, [7], []), [], [decide ((↑i : Int) < n) = true, C[288]? = some (Value.int IntKind.i64 (intAt C 288)), rg
 IntKind.i64 (adI (intAt C 288) (↑i : Int)), IntKind.wrap IntKind.i64 (↑(BitVec.toNat (BitVec.ofInt 64 (adI (intAt C 288) (↑i : Int)) &&& BitVec.ofInt 64 (15 : Int))) : Int) = mdI (adI (intAt C 288) (↑i : Int)) (16 : Int),
 (0 : Int) ≤ mdI (adI (intAt C 288) (↑i : Int)) (16 : Int) ∧ mdI (adI (intAt C 288) (↑i : Int)) (16 : Int) < (16 : Int), C[Int.toNat (mdI (adI (intAt C 288) (↑i : Int)) (16 : Int)) * 18 + 0 + 0 + 5]? = some (Value.int
 IntKind.i64 (intAt C (Int.toNat (mdI (adI (intAt C 288) (↑i : Int)) (16 : Int)) * 18 + 0 + 0 + 5))), (intAt C (Int.toNat (mdI (adI (intAt C 288) (↑i : Int)) (16 : Int)) * 18 + 0 + 0 + 5) == op) = false, rg IntKind.i64
 (↑(i + 1) : Int)]) := by kernel_rfl
theorem ok_m2 (inr : Bool) (s' r op view o n : Int) (i : Nat) (C : List Value) : prjZ [0, 1, 7, 8] (codeZ (poV s' false noL) Try.prog (runZ (poV s' false noL) Try.prog 9) 46 inr 100000 (alB Try.prog) (SL 26 (okS n (i : Int))) (okH Try.prog r op view o false C) 8 [true, true, false]) =
  Res.ok ((Xt.normal, 26, [(0, Value.func (Fn.yield 7) (Array.mk []) (Array.mk [])), (1, Value.pointer (some (Addr.mk 5 0 none))), (7, Value.int IntKind.i64 n), (8, Value.int IntKind.i64 (↑(i + 1) : Int))], [(7, okR
 Try.prog LoopState.ready none r op view o), (6, Rw.mk Kd.marks []), (5, Rw.mk Kd.shut [Value.pointer (some (Addr.mk 0 0 none))]), (4, Rw.mk Kd.shut [Value.bool false]), (3, Rw.mk Kd.shut [Value.int IntKind.i64 view]), (2,
 Rw.mk Kd.shut [Value.int IntKind.i64 op]), (1, Rw.mk Kd.shut [Value.int IntKind.i64 r]), (0, Rw.mk Kd.shut C)], 8, [7], []), [], [decide ((↑i : Int) < n) = true, C[288]? = some (Value.int IntKind.i64 (intAt C 288)), rg
 IntKind.i64 (adI (intAt C 288) (↑i : Int)), IntKind.wrap IntKind.i64 (↑(BitVec.toNat (BitVec.ofInt 64 (adI (intAt C 288) (↑i : Int)) &&& BitVec.ofInt 64 (15 : Int))) : Int) = mdI (adI (intAt C 288) (↑i : Int)) (16 : Int),
 (0 : Int) ≤ mdI (adI (intAt C 288) (↑i : Int)) (16 : Int) ∧ mdI (adI (intAt C 288) (↑i : Int)) (16 : Int) < (16 : Int), C[Int.toNat (mdI (adI (intAt C 288) (↑i : Int)) (16 : Int)) * 18 + 0 + 0 + 5]? = some (Value.int
 IntKind.i64 (intAt C (Int.toNat (mdI (adI (intAt C 288) (↑i : Int)) (16 : Int)) * 18 + 0 + 0 + 5))), (intAt C (Int.toNat (mdI (adI (intAt C 288) (↑i : Int)) (16 : Int)) * 18 + 0 + 0 + 5) == op) = true, C[Int.toNat (mdI
 (adI (intAt C 288) (↑i : Int)) (16 : Int)) * 18 + 0 + 0 + 3]? = some (Value.int IntKind.i64 (intAt C (Int.toNat (mdI (adI (intAt C 288) (↑i : Int)) (16 : Int)) * 18 + 0 + 0 + 3))), (intAt C (Int.toNat (mdI (adI (intAt C
 288) (↑i : Int)) (16 : Int)) * 18 + 0 + 0 + 3) == view) = false, rg IntKind.i64 (↑(i + 1) : Int)]) := by kernel_rfl
theorem ok_m3 (inr : Bool) (s' r op view o n : Int) (i : Nat) (C : List Value) : prjZ [0, 1, 7, 8] (codeZ (poV s' false noL) Try.prog (runZ (poV s' false noL) Try.prog 9) 46 inr 100000 (alB Try.prog) (SL 26 (okS n (i : Int))) (okH Try.prog r op view o false C) 8 [true, true, true, true]) =
  Res.ok ((Xt.normal, 26, [(0, Value.func (Fn.yield 7) (Array.mk []) (Array.mk [])), (1, Value.pointer (some (Addr.mk 5 0 none))), (7, Value.int IntKind.i64 n), (8, Value.int IntKind.i64 (↑(i + 1) : Int))], [(7, okR
 Try.prog LoopState.ready none r op view o), (6, Rw.mk Kd.marks []), (5, Rw.mk Kd.shut [Value.pointer (some (Addr.mk 0 0 none))]), (4, Rw.mk Kd.shut [Value.bool false]), (3, Rw.mk Kd.shut [Value.int IntKind.i64 view]), (2,
 Rw.mk Kd.shut [Value.int IntKind.i64 op]), (1, Rw.mk Kd.shut [Value.int IntKind.i64 r]), (0, Rw.mk Kd.shut C)], 8, [7], []), [], [decide ((↑i : Int) < n) = true, C[288]? = some (Value.int IntKind.i64 (intAt C 288)), rg
 IntKind.i64 (adI (intAt C 288) (↑i : Int)), IntKind.wrap IntKind.i64 (↑(BitVec.toNat (BitVec.ofInt 64 (adI (intAt C 288) (↑i : Int)) &&& BitVec.ofInt 64 (15 : Int))) : Int) = mdI (adI (intAt C 288) (↑i : Int)) (16 : Int),
 (0 : Int) ≤ mdI (adI (intAt C 288) (↑i : Int)) (16 : Int) ∧ mdI (adI (intAt C 288) (↑i : Int)) (16 : Int) < (16 : Int), C[Int.toNat (mdI (adI (intAt C 288) (↑i : Int)) (16 : Int)) * 18 + 0 + 0 + 5]? = some (Value.int
 IntKind.i64 (intAt C (Int.toNat (mdI (adI (intAt C 288) (↑i : Int)) (16 : Int)) * 18 + 0 + 0 + 5))), (intAt C (Int.toNat (mdI (adI (intAt C 288) (↑i : Int)) (16 : Int)) * 18 + 0 + 0 + 5) == op) = true, C[Int.toNat (mdI
 (adI (intAt C 288) (↑i : Int)) (16 : Int)) * 18 + 0 + 0 + 3]? = some (Value.int IntKind.i64 (intAt C (Int.toNat (mdI (adI (intAt C 288) (↑i : Int)) (16 : Int)) * 18 + 0 + 0 + 3))), (intAt C (Int.toNat (mdI (adI (intAt C
 288) (↑i : Int)) (16 : Int)) * 18 + 0 + 0 + 3) == view) = true, C[Int.toNat (mdI (adI (intAt C 288) (↑i : Int)) (16 : Int)) * 18 + 17]? = some (Value.int IntKind.u8 (intAt C (Int.toNat (mdI (adI (intAt C 288) (↑i : Int))
 (16 : Int)) * 18 + 17))), rg IntKind.i64 (intAt C (Int.toNat (mdI (adI (intAt C 288) (↑i : Int)) (16 : Int)) * 18 + 17)), HasIs (intAt C (Int.toNat (mdI (adI (intAt C 288) (↑i : Int)) (16 : Int)) * 18 + 17)) r true, rg
 IntKind.i64 (↑(i + 1) : Int)]) := by kernel_rfl
theorem ok_f (inr : Bool) (s' r op view o n : Int) (i : Nat) (C : List Value) : prjZ [0, 1, 7, 8] (codeZ (poV s' false noL) Try.prog (runZ (poV s' false noL) Try.prog 9) 46 inr 100000 (alB Try.prog) (SL 26 (okS n (i : Int))) (okH Try.prog r op view o false C) 8 [true, true, true, false]) =
  Res.ok ((Xt.ret, 26, [(0, Value.func (Fn.yield 7) (Array.mk []) (Array.mk [])), (1, Value.pointer (some (Addr.mk 5 0 none))), (7, Value.int IntKind.i64 n), (8, Value.int IntKind.i64 (↑i : Int))], [(7, okR Try.prog
 LoopState.done (some Code.ret) r op view o), (6, Rw.mk Kd.marks []), (5, Rw.mk Kd.shut [Value.pointer (some (Addr.mk 0 0 none))]), (4, Rw.mk Kd.shut [Value.bool true]), (3, Rw.mk Kd.shut [Value.int IntKind.i64 view]), (2,
 Rw.mk Kd.shut [Value.int IntKind.i64 op]), (1, Rw.mk Kd.shut [Value.int IntKind.i64 r]), (0, Rw.mk Kd.shut (splice C (Int.toNat (mdI (adI (intAt C 288) (↑i : Int)) (16 : Int)) * 18 + 17) [Value.int IntKind.u8 (lowI
 IntKind.u8 s')]))], 8, [7, 4, 0], []), [], [decide ((↑i : Int) < n) = true, C[288]? = some (Value.int IntKind.i64 (intAt C 288)), rg IntKind.i64 (adI (intAt C 288) (↑i : Int)), IntKind.wrap IntKind.i64 (↑(BitVec.toNat
 (BitVec.ofInt 64 (adI (intAt C 288) (↑i : Int)) &&& BitVec.ofInt 64 (15 : Int))) : Int) = mdI (adI (intAt C 288) (↑i : Int)) (16 : Int), (0 : Int) ≤ mdI (adI (intAt C 288) (↑i : Int)) (16 : Int) ∧ mdI (adI (intAt C 288)
 (↑i : Int)) (16 : Int) < (16 : Int), C[Int.toNat (mdI (adI (intAt C 288) (↑i : Int)) (16 : Int)) * 18 + 0 + 0 + 5]? = some (Value.int IntKind.i64 (intAt C (Int.toNat (mdI (adI (intAt C 288) (↑i : Int)) (16 : Int)) * 18 +
 0 + 0 + 5))), (intAt C (Int.toNat (mdI (adI (intAt C 288) (↑i : Int)) (16 : Int)) * 18 + 0 + 0 + 5) == op) = true, C[Int.toNat (mdI (adI (intAt C 288) (↑i : Int)) (16 : Int)) * 18 + 0 + 0 + 3]? = some (Value.int
 IntKind.i64 (intAt C (Int.toNat (mdI (adI (intAt C 288) (↑i : Int)) (16 : Int)) * 18 + 0 + 0 + 3))), (intAt C (Int.toNat (mdI (adI (intAt C 288) (↑i : Int)) (16 : Int)) * 18 + 0 + 0 + 3) == view) = true, C[Int.toNat (mdI
 (adI (intAt C 288) (↑i : Int)) (16 : Int)) * 18 + 17]? = some (Value.int IntKind.u8 (intAt C (Int.toNat (mdI (adI (intAt C 288) (↑i : Int)) (16 : Int)) * 18 + 17))), rg IntKind.i64 (intAt C (Int.toNat (mdI (adI (intAt C
 288) (↑i : Int)) (16 : Int)) * 18 + 17)), HasIs (intAt C (Int.toNat (mdI (adI (intAt C 288) (↑i : Int)) (16 : Int)) * 18 + 17)) r false, C[Int.toNat (mdI (adI (intAt C 288) (↑i : Int)) (16 : Int)) * 18 + 17]? = some
 (Value.int IntKind.u8 (intAt C (Int.toNat (mdI (adI (intAt C 288) (↑i : Int)) (16 : Int)) * 18 + 17))), rg IntKind.i64 (intAt C (Int.toNat (mdI (adI (intAt C 288) (↑i : Int)) (16 : Int)) * 18 + 17)), WithIs (intAt C
 (Int.toNat (mdI (adI (intAt C 288) (↑i : Int)) (16 : Int)) * 18 + 17)) r s', Int.toNat (mdI (adI (intAt C 288) (↑i : Int)) (16 : Int)) * 18 + 17 + 1 ≤ List.length C]) := by kernel_rfl
theorem ok_e (inr : Bool) (s' r op view o n : Int) (i : Nat) (C : List Value) : prjZ [0, 1, 7, 8] (codeZ (poV s' false noL) Try.prog (runZ (poV s' false noL) Try.prog 9) 46 inr 100000 (alB Try.prog) (SL 26 (okS n (i : Int))) (okH Try.prog r op view o false C) 8 [false]) =
  Res.ok ((Xt.exit 0, 26, [(0, Value.func (Fn.yield 7) (Array.mk []) (Array.mk [])), (1, Value.pointer (some (Addr.mk 5 0 none))), (7, Value.int IntKind.i64 n), (8, Value.int IntKind.i64 (↑i : Int))], [(7, okR Try.prog
 LoopState.ready none r op view o), (6, Rw.mk Kd.marks []), (5, Rw.mk Kd.shut [Value.pointer (some (Addr.mk 0 0 none))]), (4, Rw.mk Kd.shut [Value.bool false]), (3, Rw.mk Kd.shut [Value.int IntKind.i64 view]), (2, Rw.mk
 Kd.shut [Value.int IntKind.i64 op]), (1, Rw.mk Kd.shut [Value.int IntKind.i64 r]), (0, Rw.mk Kd.shut C)], 8, [], []), [], [decide ((↑i : Int) < n) = false]) := by kernel_rfl
end Go.Proofs.Ythbcemcgbgoplaa
