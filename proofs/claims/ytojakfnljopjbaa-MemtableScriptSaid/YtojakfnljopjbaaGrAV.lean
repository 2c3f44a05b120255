/-
  Chapter 12: Between: the rounds of its loop; what is handed out is the caller's alone.
-/
import Derived.Test.YtojakfnljopjbaaGrAU
namespace Go.Proofs.Ytojakfnljopjbaa
set_option linter.unusedSimpArgs false
set_option linter.unusedVariables false
set_option linter.unusedSectionVars false
open Go Go.RowKit
def alSy : FuncId → Nat → Option Nat := orSy (lsSy 50 [(20, 0), (24, 0), (25, 32), (43, 0)]) (orSy (lsSy 37 [(8, 56)]) (orSy (lsSy 48 [(4, 0), (7, 56)]) (lsSy 23 [(19, 57)])))
def alTab : FuncId → List Nat := fun f => bif Nat.beq f 50 then [23, 28, 34] else []
def alV (L : LFun) (T : TFun) : Tv := ⟨T, cmpY, L, alTab, alSy, fun _ => [], fun _ => 23⟩
theorem al_go1 (inr : Bool) (n c m1 m2 o q d i : Nat) (ds : List DV) (k1 k2 : List Value) : prjP [0, 1, 2, 3, 20, 21, 22] 81 (Bk (alV noL bsT) Try.prog (runZ (alV noL bsT) Try.prog 12) 50 inr 100000 (B6 Try.prog 50 2) (SL
 44 (btS o q d i)) ( btG Try.prog n c m1 m2 ds k1 k2 (.slice none 0 0)) 81 [true, false])
 =
  (let a9 := (↑i : Int); let a8 := (some (Addr.mk 4 0 none)); let a7 := (some (Addr.mk 2 0 none)); let a6 := (some (Addr.mk 0 0 none)); let a5 := (ixO o i 3 + 1); let a4 := (Array.mk []); let a3 := (ixO o i 3 + 0); let a2 := (List.take (dLen ds a5) (B4 ds a5)); let a1 := (List.take (dLen ds a3) (B4 ds a3)); Res.ok ((Xt.normal, 44, [(0, Value.func (Fn.yield 11) a4 a4), (1, Value.pointer (some (Addr.mk 7 0 none))), (2, Value.pointer (some (Addr.mk 8 0 none))), (3, Value.pointer (some (Addr.mk 9 0 none))), (20, Value.slice (some (Addr.mk 1 o none)) q d), (21, Value.int IntKind.i64 (↑q : Int)), (22, Value.int IntKind.i64 (↑(i + 1) : Int))], [(94, Rw.mk (Kd.dx 1 3 [Value.slice none 0 0, Value.slice none 0 0, Value.bool false] [DV.sl (dLen ds a3) none (List.map DV.fl a1), DV.sl (dLen ds a5) none (List.map DV.fl a2), DV.fl (Value.bool (Dx ds (ixO o i 3 + 2)))]) []), (11, Rw.mk (Kd.round
 LoopState.ready none [Value.pointer a6, Value.slice a7 m1 (B0 + 2), Value.slice a8 m2 (B0 + 4), Value.tuple a4, Value.tuple a4, Value.tuple a4, Value.slice none 0 0, Value.pointer (some (Addr.mk 6 0 none)), Value.tuple a4, Value.pointer a6, Value.bool false, Value.pointer a6, Value.slice a7 m1 (B0 + 2), Value.slice a8 m2 (B0 + 4), Value.func (Fn.func 50) a4 (Array.mk [Value.pointer (some (Addr.mk 7 0 none)), Value.pointer (some (Addr.mk 8 0 none)), Value.pointer (some (Addr.mk 9 0 none))]), Value.tuple a4, Value.tuple a4, Value.tuple a4, Value.tuple a4, Value.tuple a4, Value.tuple a4] (Array.mk [15]) (rfAs Try.prog 23) (rfBd Try.prog 23)) []), (10, Rw.mk Kd.marks []), (9, Rw.mk Kd.shut [Value.slice a8 m2 (B0 + 4)]), (8, Rw.mk Kd.shut [Value.slice a7 m1 (B0 + 2)]), (7, Rw.mk Kd.shut [Value.pointer a6]), (6, Rw.mk Kd.shut [Value.slice (some (Addr.mk 94 0 none)) 1
 (B0 + 94)]), (0, Rw.mk Kd.ow [Value.bool true, Value.slice (some (Addr.mk 1 0 none)) n c]), (1, Rw.mk (Kd.sw ds) []), (2, Rw.mk Kd.ow k1), (4, Rw.mk Kd.ow k2)], 95, [11, 6, 88, 90, 91, 83], []), [], [decide (a9 < (↑q : Int)) = true, (0 : Int) ≤ a9 ∧ a9 < (↑q : Int), ShOb Try.prog 29 false true ds (ixO o i 3) 81, decide ((↑m2 : Int) > (0 : Int)) = false, 0 < dLen ds a3, dLen ds a3 * 1 ≤ 140737488355328 ∧ dLen ds a3 ≤ 9223372036854775807, List.length a1 = dLen ds a3 * 1, ∀ (τ : Sg), renL τ a1 = some a1, U8s a1, dLen ds a3 ≤ List.length (B4 ds a3), all1 a1 = true, dLen ds a5 * 1 ≤ 140737488355328 ∧ dLen ds a5 ≤ 9223372036854775807, List.length a2 = dLen ds a5 * 1, ∀ (τ : Sg), renL τ a2 = some a2, U8s a2, dLen ds a5 ≤ List.length (B4 ds a5), all1 a2 = true, 56 ≤ 140737488355328, (∀ (τ : Sg), renL τ a1 = some a1) ∧ (dLen ds (ixO o (Int.toNat a9) 3 + 0) = 0 → List.take (dLen ds a3)
 (B4 ds a3) = []), (∀ (τ : Sg), renL τ a2 = some a2) ∧ (dLen ds (ixO o (Int.toNat a9) 3 + (0 + 1)) = 0 → List.take (dLen ds a5) (B4 ds a5) = []), 3 ≤ 3, true = true, rg IntKind.i64 (↑(i + 1) :
 Int)])) := by kernel_rfl
theorem al_go2 (inr : Bool) (n c m1 m2 o q d i : Nat) (ds : List DV) (k1 k2 : List Value) : prjP [0, 1, 2, 3, 20, 21, 22] 81 (Bk (alV noL bsT) Try.prog (runZ (alV noL bsT) Try.prog 12) 50 inr 100000 (B6 Try.prog 50 2) (SL
 44 (btS o q d i)) ( btG Try.prog n c m1 m2 ds k1 k2 (.slice none 0 0)) 81 [true, true, false])
 =
  (let a10 := (↑i : Int); let a8 := (some (Addr.mk 4 0 none)); let a7 := (some (Addr.mk 2 0 none)); let a6 := (some (Addr.mk 0 0 none)); let a5 := (ixO o i 3 + 1); let a4 := (Array.mk []); let a3 := (ixO o i 3 + 0); let a11 := (dLen ds a3); let a9 := (B4 ds a3); let a2 := (List.take (dLen ds a5) (B4 ds a5)); let a1 := (List.take a11 a9); Res.ok ((Xt.normal, 44, [(0, Value.func (Fn.yield 11) a4 a4), (1, Value.pointer (some (Addr.mk 7 0 none))), (2, Value.pointer (some (Addr.mk 8 0 none))), (3, Value.pointer (some (Addr.mk 9 0 none))), (20, Value.slice (some (Addr.mk 1 o none)) q d), (21, Value.int IntKind.i64 (↑q : Int)), (22, Value.int IntKind.i64 (↑(i + 1) : Int))], [(94, Rw.mk (Kd.dx 1 3 [Value.slice none 0 0, Value.slice none 0 0, Value.bool false] [DV.sl a11 none (List.map DV.fl a1), DV.sl (dLen ds a5) none (List.map DV.fl a2), DV.fl (Value.bool (Dx ds (ixO o i 3 + 2)))]) []),
 (11, Rw.mk (Kd.round LoopState.ready none [Value.pointer a6, Value.slice a7 m1 (B0 + 2), Value.slice a8 m2 (B0 + 4), Value.tuple a4, Value.tuple a4, Value.tuple a4, Value.slice none 0 0, Value.pointer (some (Addr.mk 6 0 none)), Value.tuple a4, Value.pointer a6, Value.bool false, Value.pointer a6, Value.slice a7 m1 (B0 + 2), Value.slice a8 m2 (B0 + 4), Value.func (Fn.func 50) a4 (Array.mk [Value.pointer (some (Addr.mk 7 0 none)), Value.pointer (some (Addr.mk 8 0 none)), Value.pointer (some (Addr.mk 9 0 none))]), Value.tuple a4, Value.tuple a4, Value.tuple a4, Value.tuple a4, Value.tuple a4, Value.tuple a4] (Array.mk [15]) (rfAs Try.prog 23) (rfBd Try.prog 23)) []), (10, Rw.mk Kd.marks []), (9, Rw.mk Kd.shut [Value.slice a8 m2 (B0 + 4)]), (8, Rw.mk Kd.shut [Value.slice a7 m1 (B0 + 2)]), (7, Rw.mk Kd.shut [Value.pointer a6]), (6, Rw.mk Kd.shut [Value.slice (some
 (Addr.mk 94 0 none)) 1 (B0 + 94)]), (0, Rw.mk Kd.ow [Value.bool true, Value.slice (some (Addr.mk 1 0 none)) n c]), (1, Rw.mk (Kd.sw ds) []), (2, Rw.mk Kd.ow k1), (4, Rw.mk Kd.ow k2)], 95, [11, 6, 88, 90, 91, 83], []), [], [decide (a10 < (↑q : Int)) = true, (0 : Int) ≤ a10 ∧ a10 < (↑q : Int), ShOb Try.prog 29 false true ds (ixO o i 3) 81, decide ((↑m2 : Int) > (0 : Int)) = true, BytI a11 a9, BytI m2 k2, decide (cmpI (B1 a9) (B1 k2) ≥ (0 : Int)) = false, 0 < dLen ds a3, dLen ds a3 * 1 ≤ 140737488355328 ∧ dLen ds a3 ≤ 9223372036854775807, List.length a1 = dLen ds a3 * 1, ∀ (τ : Sg), renL τ a1 = some a1, U8s a1, dLen ds a3 ≤ List.length a9, all1 a1 = true, dLen ds a5 * 1 ≤ 140737488355328 ∧ dLen ds a5 ≤ 9223372036854775807, List.length a2 = dLen ds a5 * 1, ∀ (τ : Sg), renL τ a2 = some a2, U8s a2, dLen ds a5 ≤ List.length (B4 ds a5), all1 a2 = true, 56 ≤ 140737488355328, (∀ (τ
 : Sg), renL τ a1 = some a1) ∧ (dLen ds (ixO o (Int.toNat a10) 3 + 0) = 0 → List.take a11 a9 = []), (∀ (τ : Sg), renL τ a2 = some a2) ∧ (dLen ds (ixO o (Int.toNat a10) 3 + (0 + 1)) = 0 → List.take (dLen ds a5) (B4 ds a5) = []), 3 ≤ 3, true = true, rg IntKind.i64 (↑(i + 1) :
 Int)])) := by kernel_rfl
theorem al_end (inr : Bool) (n c m1 m2 o q d i : Nat) (ds : List DV) (k1 k2 : List Value) : prjP [] 81 (Bk (alV noL bsT) Try.prog (runZ (alV noL bsT) Try.prog 12) 50 inr 100000 (B6 Try.prog 50 2) (SL 44 (btS o q d i)) ( btG
 Try.prog n c m1 m2 ds k1 k2 (.slice none 0 0)) 81 [false])
 =
  (let a4 := (some (Addr.mk 4 0 none)); let a3 := (some (Addr.mk 2 0 none)); let a2 := (some (Addr.mk 0 0 none)); let a1 := (Array.mk []); Res.ok ((Xt.exit 0, 44, [], [(11, Rw.mk (Kd.round LoopState.ready none [Value.pointer a2, Value.slice a3 m1 (B0 + 2), Value.slice a4 m2 (B0 + 4), Value.tuple a1, Value.tuple a1, Value.tuple a1, Value.slice none 0 0, Value.pointer (some (Addr.mk 6 0 none)), Value.tuple a1, Value.pointer a2, Value.bool false, Value.pointer a2, Value.slice a3 m1 (B0 + 2), Value.slice a4 m2 (B0 + 4), Value.func (Fn.func 50) a1 (Array.mk [Value.pointer (some (Addr.mk 7 0 none)), Value.pointer (some (Addr.mk 8 0 none)), Value.pointer (some (Addr.mk 9 0 none))]), Value.tuple a1, Value.tuple a1, Value.tuple a1, Value.tuple a1, Value.tuple a1, Value.tuple a1] (Array.mk [15]) (rfAs Try.prog 23) (rfBd Try.prog 23)) []), (10, Rw.mk Kd.marks []), (9, Rw.mk Kd.shut
 [Value.slice a4 m2 (B0 + 4)]), (8, Rw.mk Kd.shut [Value.slice a3 m1 (B0 + 2)]), (7, Rw.mk Kd.shut [Value.pointer a2]), (6, Rw.mk Kd.shut [Value.slice none 0 0]), (0, Rw.mk Kd.ow [Value.bool true, Value.slice (some (Addr.mk 1 0 none)) n c]), (1, Rw.mk (Kd.sw ds) []), (2, Rw.mk Kd.ow k1), (4, Rw.mk Kd.ow k2)], 81, [], []), [], [decide ((↑i : Int) < (↑q : Int)) =
 false])) := by kernel_rfl
theorem al_stop (inr : Bool) (n c m1 m2 o q d i : Nat) (ds : List DV) (k1 k2 : List Value) : prjP [] 81 (Bk (alV noL bsT) Try.prog (runZ (alV noL bsT) Try.prog 12) 50 inr 100000 (B6 Try.prog 50 2) (SL 44 (btS o q d i)) (
 btG Try.prog n c m1 m2 ds k1 k2 (.slice none 0 0)) 81 [true, true, true])
 =
  (let a4 := (some (Addr.mk 4 0 none)); let a3 := (some (Addr.mk 2 0 none)); let a2 := (some (Addr.mk 0 0 none)); let a1 := (Array.mk []); Res.ok ((Xt.ret, 44, [], [(11, Rw.mk (Kd.round LoopState.ready none [Value.pointer a2, Value.slice a3 m1 (B0 + 2), Value.slice a4 m2 (B0 + 4), Value.tuple a1, Value.tuple a1, Value.tuple a1, Value.slice none 0 0, Value.pointer (some (Addr.mk 6 0 none)), Value.tuple a1, Value.pointer a2, Value.bool false, Value.pointer a2, Value.slice a3 m1 (B0 + 2), Value.slice a4 m2 (B0 + 4), Value.func (Fn.func 50) a1 (Array.mk [Value.pointer (some (Addr.mk 7 0 none)), Value.pointer (some (Addr.mk 8 0 none)), Value.pointer (some (Addr.mk 9 0 none))]), Value.tuple a1, Value.tuple a1, Value.tuple a1, Value.tuple a1, Value.tuple a1, Value.tuple a1] (Array.mk [15]) (rfAs Try.prog 23) (rfBd Try.prog 23)) []), (10, Rw.mk Kd.marks []), (9, Rw.mk Kd.shut
 [Value.slice a4 m2 (B0 + 4)]), (8, Rw.mk Kd.shut [Value.slice a3 m1 (B0 + 2)]), (7, Rw.mk Kd.shut [Value.pointer a2]), (6, Rw.mk Kd.shut [Value.slice none 0 0]), (0, Rw.mk Kd.ow [Value.bool true, Value.slice (some (Addr.mk 1 0 none)) n c]), (1, Rw.mk (Kd.sw ds) []), (2, Rw.mk Kd.ow k1), (4, Rw.mk Kd.ow k2)], 84, [83], []), [], [decide ((↑i : Int) < (↑q : Int)) = true, (0 : Int) ≤ (↑i : Int) ∧ (↑i : Int) < (↑q : Int), ShOb Try.prog 29 false true ds (ixO o i 3) 81, decide ((↑m2 : Int) > (0 : Int)) = true, BytI (dLen ds (ixO o i 3 + 0)) (B4 ds (ixO o i 3 + 0)), BytI m2 k2, decide (cmpI (B1 (B4 ds (ixO o i 3 + 0))) (B1 k2) ≥ (0 : Int)) =
 true])) := by kernel_rfl
theorem al_mo1 (inr : Bool) (n c m1 m2 o q d i : Nat) (ds : List DV) (k1 k2 : List Value) (x : Nat) (es : List DV) : prjP [0, 1, 2, 3, 20, 21, 22] 81 (Bk (alV noL bsT) Try.prog (runZ (alV noL bsT) Try.prog 12) 50 inr 100000
 (B6 Try.prog 50 2) (SL 44 (btS o q d i)) ((80, ⟨.dx 1 3 zPr es, []⟩) :: btG Try.prog n c m1 m2 ds k1 k2 (dpV x)) 81 [true, false])
 =
  (let a9 := (↑i : Int); let a8 := (some (Addr.mk 4 0 none)); let a7 := (some (Addr.mk 2 0 none)); let a6 := (some (Addr.mk 0 0 none)); let a5 := (ixO o i 3 + 1); let a4 := (Array.mk []); let a3 := (ixO o i 3 + 0); let a2 := (List.take (dLen ds a5) (B4 ds a5)); let a1 := (List.take (dLen ds a3) (B4 ds a3)); Res.ok ((Xt.normal, 44, [(0, Value.func (Fn.yield 11) a4 a4), (1, Value.pointer (some (Addr.mk 7 0 none))), (2, Value.pointer (some (Addr.mk 8 0 none))), (3, Value.pointer (some (Addr.mk 9 0 none))), (20, Value.slice (some (Addr.mk 1 o none)) q d), (21, Value.int IntKind.i64 (↑q : Int)), (22, Value.int IntKind.i64 (↑(i + 1) : Int))], [(94, Rw.mk (Kd.dx 1 3 [Value.slice none 0 0, Value.slice none 0 0, Value.bool false] (es ++ [DV.sl (dLen ds a3) none (List.map DV.fl a1), DV.sl (dLen ds a5) none (List.map DV.fl a2), DV.fl (Value.bool (Dx ds (ixO o i 3 + 2)))])) []), (11, Rw.mk
 (Kd.round LoopState.ready none [Value.pointer a6, Value.slice a7 m1 (B0 + 2), Value.slice a8 m2 (B0 + 4), Value.tuple a4, Value.tuple a4, Value.tuple a4, Value.slice none 0 0, Value.pointer (some (Addr.mk 6 0 none)), Value.tuple a4, Value.pointer a6, Value.bool false, Value.pointer a6, Value.slice a7 m1 (B0 + 2), Value.slice a8 m2 (B0 + 4), Value.func (Fn.func 50) a4 (Array.mk [Value.pointer (some (Addr.mk 7 0 none)), Value.pointer (some (Addr.mk 8 0 none)), Value.pointer (some (Addr.mk 9 0 none))]), Value.tuple a4, Value.tuple a4, Value.tuple a4, Value.tuple a4, Value.tuple a4, Value.tuple a4] (Array.mk [15]) (rfAs Try.prog 23) (rfBd Try.prog 23)) []), (10, Rw.mk Kd.marks []), (9, Rw.mk Kd.shut [Value.slice a8 m2 (B0 + 4)]), (8, Rw.mk Kd.shut [Value.slice a7 m1 (B0 + 2)]), (7, Rw.mk Kd.shut [Value.pointer a6]), (6, Rw.mk Kd.shut [Value.slice (some (Addr.mk 94 0
 none)) (x + 1) (B0 + 94)]), (0, Rw.mk Kd.ow [Value.bool true, Value.slice (some (Addr.mk 1 0 none)) n c]), (1, Rw.mk (Kd.sw ds) []), (2, Rw.mk Kd.ow k1), (4, Rw.mk Kd.ow k2)], 95, [11, 6, 80, 88, 90, 91, 83], []), [], [decide (a9 < (↑q : Int)) = true, (0 : Int) ≤ a9 ∧ a9 < (↑q : Int), ShOb Try.prog 29 false true ds (ixO o i 3) 81, decide ((↑m2 : Int) > (0 : Int)) = false, 0 < dLen ds a3, dLen ds a3 * 1 ≤ 140737488355328 ∧ dLen ds a3 ≤ 9223372036854775807, List.length a1 = dLen ds a3 * 1, ∀ (τ : Sg), renL τ a1 = some a1, U8s a1, dLen ds a3 ≤ List.length (B4 ds a3), all1 a1 = true, dLen ds a5 * 1 ≤ 140737488355328 ∧ dLen ds a5 ≤ 9223372036854775807, List.length a2 = dLen ds a5 * 1, ∀ (τ : Sg), renL τ a2 = some a2, U8s a2, dLen ds a5 ≤ List.length (B4 ds a5), all1 a2 = true, B0 + 80 = B0 + 80 ∧ List.length es = x * 3, (x + 1) * 56 ≤ 140737488355328 ∧ x + 1 ≤
 9223372036854775807, (∀ (τ : Sg), renL τ a1 = some a1) ∧ (dLen ds (ixO o (Int.toNat a9) 3 + 0) = 0 → List.take (dLen ds a3) (B4 ds a3) = []), (∀ (τ : Sg), renL τ a2 = some a2) ∧ (dLen ds (ixO o (Int.toNat a9) 3 + (0 + 1)) = 0 → List.take (dLen ds a5) (B4 ds a5) = []), 3 ≤ 3, true = true, rg IntKind.i64 (↑(i + 1) :
 Int)])) := by kernel_rfl
theorem al_mo2 (inr : Bool) (n c m1 m2 o q d i : Nat) (ds : List DV) (k1 k2 : List Value) (x : Nat) (es : List DV) : prjP [0, 1, 2, 3, 20, 21, 22] 81 (Bk (alV noL bsT) Try.prog (runZ (alV noL bsT) Try.prog 12) 50 inr 100000
 (B6 Try.prog 50 2) (SL 44 (btS o q d i)) ((80, ⟨.dx 1 3 zPr es, []⟩) :: btG Try.prog n c m1 m2 ds k1 k2 (dpV x)) 81 [true, true, false])
 =
  (let a10 := (↑i : Int); let a8 := (some (Addr.mk 4 0 none)); let a7 := (some (Addr.mk 2 0 none)); let a6 := (some (Addr.mk 0 0 none)); let a5 := (ixO o i 3 + 1); let a4 := (Array.mk []); let a3 := (ixO o i 3 + 0); let a11 := (dLen ds a3); let a9 := (B4 ds a3); let a2 := (List.take (dLen ds a5) (B4 ds a5)); let a1 := (List.take a11 a9); Res.ok ((Xt.normal, 44, [(0, Value.func (Fn.yield 11) a4 a4), (1, Value.pointer (some (Addr.mk 7 0 none))), (2, Value.pointer (some (Addr.mk 8 0 none))), (3, Value.pointer (some (Addr.mk 9 0 none))), (20, Value.slice (some (Addr.mk 1 o none)) q d), (21, Value.int IntKind.i64 (↑q : Int)), (22, Value.int IntKind.i64 (↑(i + 1) : Int))], [(94, Rw.mk (Kd.dx 1 3 [Value.slice none 0 0, Value.slice none 0 0, Value.bool false] (es ++ [DV.sl a11 none (List.map DV.fl a1), DV.sl (dLen ds a5) none (List.map DV.fl a2), DV.fl (Value.bool (Dx ds (ixO o i 3 +
 2)))])) []), (11, Rw.mk (Kd.round LoopState.ready none [Value.pointer a6, Value.slice a7 m1 (B0 + 2), Value.slice a8 m2 (B0 + 4), Value.tuple a4, Value.tuple a4, Value.tuple a4, Value.slice none 0 0, Value.pointer (some (Addr.mk 6 0 none)), Value.tuple a4, Value.pointer a6, Value.bool false, Value.pointer a6, Value.slice a7 m1 (B0 + 2), Value.slice a8 m2 (B0 + 4), Value.func (Fn.func 50) a4 (Array.mk [Value.pointer (some (Addr.mk 7 0 none)), Value.pointer (some (Addr.mk 8 0 none)), Value.pointer (some (Addr.mk 9 0 none))]), Value.tuple a4, Value.tuple a4, Value.tuple a4, Value.tuple a4, Value.tuple a4, Value.tuple a4] (Array.mk [15]) (rfAs Try.prog 23) (rfBd Try.prog 23)) []), (10, Rw.mk Kd.marks []), (9, Rw.mk Kd.shut [Value.slice a8 m2 (B0 + 4)]), (8, Rw.mk Kd.shut [Value.slice a7 m1 (B0 + 2)]), (7, Rw.mk Kd.shut [Value.pointer a6]), (6, Rw.mk Kd.shut
 [Value.slice (some (Addr.mk 94 0 none)) (x + 1) (B0 + 94)]), (0, Rw.mk Kd.ow [Value.bool true, Value.slice (some (Addr.mk 1 0 none)) n c]), (1, Rw.mk (Kd.sw ds) []), (2, Rw.mk Kd.ow k1), (4, Rw.mk Kd.ow k2)], 95, [11, 6, 80, 88, 90, 91, 83], []), [], [decide (a10 < (↑q : Int)) = true, (0 : Int) ≤ a10 ∧ a10 < (↑q : Int), ShOb Try.prog 29 false true ds (ixO o i 3) 81, decide ((↑m2 : Int) > (0 : Int)) = true, BytI a11 a9, BytI m2 k2, decide (cmpI (B1 a9) (B1 k2) ≥ (0 : Int)) = false, 0 < dLen ds a3, dLen ds a3 * 1 ≤ 140737488355328 ∧ dLen ds a3 ≤ 9223372036854775807, List.length a1 = dLen ds a3 * 1, ∀ (τ : Sg), renL τ a1 = some a1, U8s a1, dLen ds a3 ≤ List.length a9, all1 a1 = true, dLen ds a5 * 1 ≤ 140737488355328 ∧ dLen ds a5 ≤ 9223372036854775807, List.length a2 = dLen ds a5 * 1, ∀ (τ : Sg), renL τ a2 = some a2, U8s a2, dLen ds a5 ≤ List.length (B4 ds a5), all1 a2 = true,
 B0 + 80 = B0 + 80 ∧ List.length es = x * 3, (x + 1) * 56 ≤ 140737488355328 ∧ x + 1 ≤ 9223372036854775807, (∀ (τ : Sg), renL τ a1 = some a1) ∧ (dLen ds (ixO o (Int.toNat a10) 3 + 0) = 0 → List.take a11 a9 = []), (∀ (τ : Sg), renL τ a2 = some a2) ∧ (dLen ds (ixO o (Int.toNat a10) 3 + (0 + 1)) = 0 → List.take (dLen ds a5) (B4 ds a5) = []), 3 ≤ 3, true = true, rg IntKind.i64 (↑(i + 1) :
 Int)])) := by kernel_rfl
theorem al_mend (inr : Bool) (n c m1 m2 o q d i : Nat) (ds : List DV) (k1 k2 : List Value) (x : Nat) (es : List DV) : prjP [] 81 (Bk (alV noL bsT) Try.prog (runZ (alV noL bsT) Try.prog 12) 50 inr 100000 (B6 Try.prog 50 2)
 (SL 44 (btS o q d i)) ((80, ⟨.dx 1 3 zPr es, []⟩) :: btG Try.prog n c m1 m2 ds k1 k2 (dpV x)) 81 [false])
 =
  (let a4 := (some (Addr.mk 4 0 none)); let a3 := (some (Addr.mk 2 0 none)); let a2 := (some (Addr.mk 0 0 none)); let a1 := (Array.mk []); Res.ok ((Xt.exit 0, 44, [], [(80, Rw.mk (Kd.dx 1 3 [Value.slice none 0 0, Value.slice none 0 0, Value.bool false] es) []), (11, Rw.mk (Kd.round LoopState.ready none [Value.pointer a2, Value.slice a3 m1 (B0 + 2), Value.slice a4 m2 (B0 + 4), Value.tuple a1, Value.tuple a1, Value.tuple a1, Value.slice none 0 0, Value.pointer (some (Addr.mk 6 0 none)), Value.tuple a1, Value.pointer a2, Value.bool false, Value.pointer a2, Value.slice a3 m1 (B0 + 2), Value.slice a4 m2 (B0 + 4), Value.func (Fn.func 50) a1 (Array.mk [Value.pointer (some (Addr.mk 7 0 none)), Value.pointer (some (Addr.mk 8 0 none)), Value.pointer (some (Addr.mk 9 0 none))]), Value.tuple a1, Value.tuple a1, Value.tuple a1, Value.tuple a1, Value.tuple a1, Value.tuple a1] (Array.mk
 [15]) (rfAs Try.prog 23) (rfBd Try.prog 23)) []), (10, Rw.mk Kd.marks []), (9, Rw.mk Kd.shut [Value.slice a4 m2 (B0 + 4)]), (8, Rw.mk Kd.shut [Value.slice a3 m1 (B0 + 2)]), (7, Rw.mk Kd.shut [Value.pointer a2]), (6, Rw.mk Kd.shut [Value.slice (some (Addr.mk 80 0 none)) x (B0 + 80)]), (0, Rw.mk Kd.ow [Value.bool true, Value.slice (some (Addr.mk 1 0 none)) n c]), (1, Rw.mk (Kd.sw ds) []), (2, Rw.mk Kd.ow k1), (4, Rw.mk Kd.ow k2)], 81, [], []), [], [decide ((↑i : Int) < (↑q : Int)) =
 false])) := by kernel_rfl
theorem al_mstop (inr : Bool) (n c m1 m2 o q d i : Nat) (ds : List DV) (k1 k2 : List Value) (x : Nat) (es : List DV) : prjP [] 81 (Bk (alV noL bsT) Try.prog (runZ (alV noL bsT) Try.prog 12) 50 inr 100000 (B6 Try.prog 50 2)
 (SL 44 (btS o q d i)) ((80, ⟨.dx 1 3 zPr es, []⟩) :: btG Try.prog n c m1 m2 ds k1 k2 (dpV x)) 81 [true, true, true])
 =
  (let a4 := (some (Addr.mk 4 0 none)); let a3 := (some (Addr.mk 2 0 none)); let a2 := (some (Addr.mk 0 0 none)); let a1 := (Array.mk []); Res.ok ((Xt.ret, 44, [], [(80, Rw.mk (Kd.dx 1 3 [Value.slice none 0 0, Value.slice none 0 0, Value.bool false] es) []), (11, Rw.mk (Kd.round LoopState.ready none [Value.pointer a2, Value.slice a3 m1 (B0 + 2), Value.slice a4 m2 (B0 + 4), Value.tuple a1, Value.tuple a1, Value.tuple a1, Value.slice none 0 0, Value.pointer (some (Addr.mk 6 0 none)), Value.tuple a1, Value.pointer a2, Value.bool false, Value.pointer a2, Value.slice a3 m1 (B0 + 2), Value.slice a4 m2 (B0 + 4), Value.func (Fn.func 50) a1 (Array.mk [Value.pointer (some (Addr.mk 7 0 none)), Value.pointer (some (Addr.mk 8 0 none)), Value.pointer (some (Addr.mk 9 0 none))]), Value.tuple a1, Value.tuple a1, Value.tuple a1, Value.tuple a1, Value.tuple a1, Value.tuple a1] (Array.mk
 [15]) (rfAs Try.prog 23) (rfBd Try.prog 23)) []), (10, Rw.mk Kd.marks []), (9, Rw.mk Kd.shut [Value.slice a4 m2 (B0 + 4)]), (8, Rw.mk Kd.shut [Value.slice a3 m1 (B0 + 2)]), (7, Rw.mk Kd.shut [Value.pointer a2]), (6, Rw.mk Kd.shut [Value.slice (some (Addr.mk 80 0 none)) x (B0 + 80)]), (0, Rw.mk Kd.ow [Value.bool true, Value.slice (some (Addr.mk 1 0 none)) n c]), (1, Rw.mk (Kd.sw ds) []), (2, Rw.mk Kd.ow k1), (4, Rw.mk Kd.ow k2)], 84, [83], []), [], [decide ((↑i : Int) < (↑q : Int)) = true, (0 : Int) ≤ (↑i : Int) ∧ (↑i : Int) < (↑q : Int), ShOb Try.prog 29 false true ds (ixO o i 3) 81, decide ((↑m2 : Int) > (0 : Int)) = true, BytI (dLen ds (ixO o i 3 + 0)) (B4 ds (ixO o i 3 + 0)), BytI m2 k2, decide (cmpI (B1 (B4 ds (ixO o i 3 + 0))) (B1 k2) ≥ (0 : Int)) =
 true])) := by kernel_rfl
theorem alX {L : LFun} {T : TFun} : XOkZ (alV L T) Try.prog := XOneZ.ok Ei rfl
theorem alT {L : LFun} : TOkZ (alV L bsT) Try.prog := Ly rfl bsT_one
theorem alL0 {T : TFun} : LOkZ (alV noL T) Try.prog := C9 rfl
theorem u8_by {l : List Int} (h : ∀ x ∈ l, 0 ≤ x ∧ x < 256) : U8s (byV l) := fun x hx => by
 obtain ⟨n, hn, rfl⟩ := List.mem_map.1 hx
 exact ⟨n, rfl, h n hn⟩
theorem Lg {lo N : Nat} {ρ : Nat → Nat} {h0 h1 : Hp} {n m d sz : Nat} {z : List Value} {ds : List DV} (hn : fnN lo N ρ n = some m) (hl : lk h1 m = some ⟨.dx d sz z ds, []⟩) : He lo N ρ h0 h1 n ⟨.dx d sz z ds, []⟩ := J4 hn hl rfl
theorem al_more {inr : Bool} {h0 : Hp} {ds : List DV} {n c m1 m2 k q d : Nat} {k1 k2 : List Value} (hB : BtOk ds n c m1 m2 k q d k1 k2) : ∀ (r i x : Nat) (ws : List Pr), i + r = q → ws.length = x → x ≤ i →
  LRuns inr Try.prog (B6 Try.prog 50 2) 12 120 h0 44 (btS (k * 3) q d i) ((80, ⟨.dx 1 3 zPr (cpD ws), []⟩) :: btG Try.prog n c m1 m2 ds k1 k2 (dpV x)) 81
   (xtB (decide (i + (tkP ((B2 ds).drop (k + i)) (B1 k2)).length = q)), [], (80, ⟨.dx 1 3 zPr (cpD (ws ++ tkP ((B2 ds).drop (k + i)) (B1 k2))), []⟩) :: btG Try.prog n c m1 m2 ds k1 k2 (dpV (x + (tkP ((B2 ds).drop (k + i)) (B1 k2)).length)))
 | 0, i, x, ws, hr, hx, hxi => by
   have e0 : (B2 ds).drop (k + i) = [] := List.drop_of_length_le (by rw [hB.T.T.l]; have := hB.kn; omega)
   have eT : tkP ((B2 ds).drop (k + i)) (B1 k2) = [] := by rw [e0]; rfl
   rw [eT, List.append_nil, List.length_nil, Nat.add_zero, Nat.add_zero, decide_eq_true (by omega)]
   refine LRuns.exit (Bb alX alL0 (Bh alX alT alL0 mixed 12) mixed (al_mend inr n c m1 m2 (k * 3) q d i ds k1 k2 x (cpD ws)) ?_) (by intro e; cases e) rfl (by omega) (by omega) (fun n => n) ?_ ?_ rfl
   ·simp only [Alls, decide_eq_false_iff_not]
    exact ⟨by omega, trivial⟩
   ·trivial
   ·refine ⟨Lg (m := 80) rfl rfl, H3 (.inr rfl) hB.c hB.K1 hB.K2 ?_ rfl (Bj rfl rfl)⟩
    refine fun j r hj h6 => Ij (C := fun j => j ≠ 6 → lk _ j = some r → lk _ j = some r) hj ?_ ?_ ?_ ?_ ?_ ?_ ?_ ?_ ?_ ?_ ?_ ?_ h6
    all_goals first | exact fun h => absurd rfl h | exact fun _ e => e
 | r + 1, i, x, ws, hr, hx, hxi => by
   have hdd : d < B0 := by have := hB.d; unfold B0; omega
   have hkn := hB.kn
   have hm := hB.T.T.m
   have hi : k + i < (B2 ds).length := by rw [hB.T.T.l]; omega
   have F := hB.T.T.P.facts (List.getElem?_eq_getElem hi)
   obtain ⟨p, hp⟩ : ∃ p, (B2 ds)[k + i] = p := ⟨_, rfl⟩
   have hmem : p ∈ B2 ds := by rw [← hp]; exact List.getElem_mem hi
   rw [hp] at F
   have bp := (hB.T.T.O p hmem).1
   have b0 := u8_by bp
   have b1 := u8_by (hB.T.T.O p hmem).2
   obtain ⟨u1, u2, u3⟩ := hB.T.K p hmem
   have hd : (B2 ds).drop (k + i) = p :: (B2 ds).drop (k + (i + 1)) := by rw [List.drop_eq_getElem_cons hi, hp]; rfl
   have ex : ixO (k * 3) i 3 = (k + i) * 3 := by rw [J7]; omega
   have f0 := F.l0
   have f1 := F.l1
   have v0 := F.v0
   have v1 := F.v1
   have gb := F.g
   have o1 := F.o29 81
   have y1 := Ep bp
   have i0 := C1 p.1
   have hl0 := Bz p.1
   have hl1 := Bz p.2.1
   have t0 : List.take p.1.length (byV p.1) = byV p.1 := List.take_of_length_le (by omega)
   have t1 : List.take p.2.1.length (byV p.2.1) = byV p.2.1 := List.take_of_length_le (by omega)
   have r0 := Cm p.1
   have r1 := Cm p.2.1
   have a0 : all1 (byV p.1) = true := Hd p.1
   have a1 : all1 (byV p.2.1) = true := Hd p.2.1
   have z0 : p.1.length = 0 → byV p.1 = [] := fun e => List.eq_nil_of_length_eq_zero (by omega)
   have z1 : p.2.1.length = 0 → byV p.2.1 = [] := fun e => List.eq_nil_of_length_eq_zero (by omega)
   have hK2 := hB.K2
   have hcl : (cpD ws).length = x * 3 := by rw [(H2 ws).len, hx]
   have hup := bt_up (p := p) hB.K2
   have row : ∀ X : List DV, X = cpD (ws ++ [p]) → some (Rw.mk (.dx 1 3 zPr X) []) = some (Rw.mk (.dx 1 3 zPr (cpD (ws ++ [p]))) []) := fun X hX => by rw [hX]
   cases hq : upP (B1 k2) p with
   | true =>
    have nx := al_more (inr := inr) (h0 := h0) hB r (i + 1) (x + 1) (ws ++ [p]) (by omega) (by rw [List.length_append, hx]; rfl) (by omega)
    have eT : tkP ((B2 ds).drop (k + i)) (B1 k2) = p :: tkP ((B2 ds).drop (k + (i + 1))) (B1 k2) := by rw [hd]; unfold tkP; rw [List.takeWhile_cons, hq]; rfl
    rw [eT]
    have e1 : ws ++ p :: tkP ((B2 ds).drop (k + (i + 1))) (B1 k2) = ws ++ [p] ++ tkP ((B2 ds).drop (k + (i + 1))) (B1 k2) := by simp
    rw [e1, List.length_cons, show i + ((tkP ((B2 ds).drop (k + (i + 1))) (B1 k2)).length + 1) = i + 1 + (tkP ((B2 ds).drop (k + (i + 1))) (B1 k2)).length by omega, show x + ((tkP ((B2 ds).drop (k + (i + 1))) (B1 k2)).length + 1) = x + 1 + (tkP ((B2 ds).drop (k + (i + 1))) (B1 k2)).length by omega]
    by_cases hz : m2 = 0
    ·refine LRuns.step (Bb alX alL0 (Bh alX alT alL0 mixed 12) mixed (al_mo1 inr n c m1 m2 (k * 3) q d i ds k1 k2 x (cpD ws)) ?_) rfl (by omega) (by omega) (fun _ => 94) ?_ ?_ rfl nx
     ·simp only [Alls, rg, decide_eq_true_eq, decide_eq_false_iff_not, Nat.add_zero, ex, f0, f1, v0, v1, t0, t1, Nat.mul_one, Int.toNat_natCast]
      repeat' (with_reducible apply And.intro)
      all_goals first | omega | (with_reducible assumption) | (with_reducible exact trivial) | (with_reducible rfl) | exact fun e => z0 (f0.symm.trans (ex ▸ e)) | exact fun e => z1 (f1.symm.trans (ex ▸ e)) | skip
     ·exact ⟨rfl, rfl, rfl, Bp rfl, rfl, Bp rfl, rfl, Bp rfl, rfl, Bt rfl hdd, rfl, rfl, rfl, rfl, trivial⟩
     ·refine ⟨Lg (m := 94) rfl (row _ ?_), H3 (.inl rfl) hB.c hB.K1 hB.K2 ?_ rfl (Bj rfl rfl)⟩
      ·rw [cpD_snoc]
       congr 1
       simp only [Nat.add_zero, ex, f0, f1, v0, v1, t0, t1, gb, Hr]
       rfl
      ·
       refine fun j r hj h6 => Ij (C := fun j => j ≠ 6 → lk _ j = some r → lk _ j = some r) hj ?_ ?_ ?_ ?_ ?_ ?_ ?_ ?_ ?_ ?_ ?_ ?_ h6
       all_goals first | exact fun h => absurd rfl h | exact fun _ e => e
    ·have hc1 : cmpI p.1 (B1 k2) < 0 := (hup.1 hq).resolve_left hz
     refine LRuns.step (Bb alX alL0 (Bh alX alT alL0 mixed 12) mixed (al_mo2 inr n c m1 m2 (k * 3) q d i ds k1 k2 x (cpD ws)) ?_) rfl (by omega) (by omega) (fun _ => 94) ?_ ?_ rfl nx
     ·simp only [Alls, rg, decide_eq_true_eq, decide_eq_false_iff_not, Nat.add_zero, ex, f0, f1, v0, v1, t0, t1, i0, Nat.mul_one, Int.toNat_natCast]
      repeat' (with_reducible apply And.intro)
      all_goals first | omega | (with_reducible assumption) | (with_reducible exact trivial) | (with_reducible rfl) | exact fun e => z0 (f0.symm.trans (ex ▸ e)) | exact fun e => z1 (f1.symm.trans (ex ▸ e)) | skip
     ·exact ⟨rfl, rfl, rfl, Bp rfl, rfl, Bp rfl, rfl, Bp rfl, rfl, Bt rfl hdd, rfl, rfl, rfl, rfl, trivial⟩
     ·refine ⟨Lg (m := 94) rfl (row _ ?_), H3 (.inl rfl) hB.c hB.K1 hB.K2 ?_ rfl (Bj rfl rfl)⟩
      ·rw [cpD_snoc]
       congr 1
       simp only [Nat.add_zero, ex, f0, f1, v0, v1, t0, t1, gb, Hr]
       rfl
      ·
       refine fun j r hj h6 => Ij (C := fun j => j ≠ 6 → lk _ j = some r → lk _ j = some r) hj ?_ ?_ ?_ ?_ ?_ ?_ ?_ ?_ ?_ ?_ ?_ ?_ h6
       all_goals first | exact fun h => absurd rfl h | exact fun _ e => e
   | false =>
    have eT : tkP ((B2 ds).drop (k + i)) (B1 k2) = [] := by rw [hd]; unfold tkP; rw [List.takeWhile_cons, hq]; rfl
    rw [eT, List.append_nil, List.length_nil, Nat.add_zero, Nat.add_zero, decide_eq_false (by omega)]
    have hnup : ¬ (m2 = 0 ∨ cmpI p.1 (B1 k2) < 0) := fun e => by have := hup.2 e; rw [hq] at this; cases this
    refine LRuns.exit (Bb alX alL0 (Bh alX alT alL0 mixed 12) mixed (al_mstop inr n c m1 m2 (k * 3) q d i ds k1 k2 x (cpD ws)) ?_) (by intro e; cases e) rfl (by omega) (by omega) (fun n => n) ?_ ?_ rfl
    ·simp only [Alls, rg, decide_eq_true_eq, decide_eq_false_iff_not, Nat.add_zero, ex, f0, f1, v0, v1, t0, t1, i0, Nat.mul_one, Int.toNat_natCast]
     repeat' (with_reducible apply And.intro)
     all_goals first | omega | (with_reducible assumption) | (with_reducible exact trivial) | (with_reducible rfl) | skip
    ·trivial
    ·refine ⟨Lg (m := 80) rfl rfl, H3 (.inr rfl) hB.c hB.K1 hB.K2 ?_ rfl (Bj rfl rfl)⟩
     refine fun j r hj h6 => Ij (C := fun j => j ≠ 6 → lk _ j = some r → lk _ j = some r) hj ?_ ?_ ?_ ?_ ?_ ?_ ?_ ?_ ?_ ?_ ?_ ?_ h6
     all_goals first | exact fun h => absurd rfl h | exact fun _ e => e
end Go.Proofs.Ytojakfnljopjbaa
