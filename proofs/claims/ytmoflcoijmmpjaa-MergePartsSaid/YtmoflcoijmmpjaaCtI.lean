/-
  Chapter 14: the statement MergeParts: the law's runs (DRAFT).
-/
import Derived.Test.YtmoflcoijmmpjaaCtH
namespace Go.Proofs.Ytmoflcoijmmpjaa
set_option linter.unusedSimpArgs false
set_option linter.unusedVariables false
set_option linter.unusedSectionVars false
open Go Go.RowKit
def mvLo (P : Program) : LFun := orL (ctLo P) (mkL 8 9 74 [0, 1, 5, 6, 8, 9] (bodyIn P 8 9) mvSp)
def mwTab : FuncId → List Nat := fun f => bif Nat.beq f 8 then [26, 29, 35] else bif Nat.beq f 24 then [12, 15] else bif Nat.beq f 40 then [6] else []
def mwV (L : LFun) (T : TFun) : Tv := ⟨T, cmpY, L, mwTab, noSy, fun _ => [], fun _ => 24⟩
def mwT : TFun := orTz (mkT 5 [] gTrueY) pxTs
theorem mw_e1 (n c : Nat) (m : Int) (ds : List DV) : prjV (runZ (mwV noL mwT) Try.prog 12 8 [.slice (some ⟨0, 0, none⟩) n c, .int .i64 m] [(0, ⟨.sd ds, []⟩)] 2 [true]) =
  Res.ok (Value.bool true, [], [n = 0 → ds = [], LpOk ds n ∧ (decide ((↑n : Int) > (300 : Int)) || List.any (prsOf ds) big) = true]) := by kernel_rfl
theorem mw_e2 (n c : Nat) (m : Int) (ds : List DV) : prjV (runZ (mwV noL mwT) Try.prog 12 8 [.slice (some ⟨0, 0, none⟩) n c, .int .i64 m] [(0, ⟨.sd ds, []⟩)] 2 [false, true, true]) =
  Res.ok (Value.bool true, [], [n = 0 → ds = [], LpOk ds n ∧ (decide ((↑n : Int) > (300 : Int)) || List.any (prsOf ds) big) = false, decide (m < (1 : Int)) = true, decide (m < (1 : Int)) = true]) := by kernel_rfl
theorem mw_e3 (n c : Nat) (m : Int) (ds : List DV) : prjV (runZ (mwV noL mwT) Try.prog 12 8 [.slice (some ⟨0, 0, none⟩) n c, .int .i64 m] [(0, ⟨.sd ds, []⟩)] 2 [false, false, true, false, true]) =
  Res.ok (Value.bool true, [], [n = 0 → ds = [], LpOk ds n ∧ (decide ((↑n : Int) > (300 : Int)) || List.any (prsOf ds) big) = false, decide (m < (1 : Int)) = false, decide (m > (64 : Int)) = true, decide (m < (1 : Int)) =
 false, decide (m > (64 : Int)) = true]) := by kernel_rfl
theorem mw_r (n c : Nat) (M : Nat) (ds : List DV) : prjV (runZ (mwV (mvLo Try.prog) mwT) Try.prog 12 8 [.slice (some ⟨0, 0, none⟩) n c, .int .i64 (M : Int)] [(0, ⟨.sd ds, []⟩)] 2 [false, false, false, false, false]) =
  Res.ok (Value.bool true, [], [n = 0 → ds = [], LpOk ds n ∧ (decide ((↑n : Int) > (300 : Int)) || List.any (prsOf ds) big) = false, decide ((↑M : Int) < (1 : Int)) = false, decide ((↑M : Int) > (64 : Int)) = false, decide
 ((↑M : Int) < (1 : Int)) = false, bodyIn Try.prog (44 : FuncId) 1 = bodyIn Try.prog (44 : FuncId) 1, [(0, Value.func (Fn.yield 6) (Array.mk []) (Array.mk [])), (1, Value.pointer (some (Addr.mk 3 0 none))), (2,
 Value.pointer (some (Addr.mk 4 0 none))), (4, Value.int IntKind.i64 (0 : Int))] = ctS 0, (6, Rw.mk (Kd.round LoopState.ready none [Value.slice (some (Addr.mk 0 0 none)) n c, Value.int IntKind.i64 (↑M : Int), Value.tuple
 #[], Value.tuple #[], Value.slice none 0 0, Value.int IntKind.i64 (0 : Int), Value.pointer (some (Addr.mk 2 0 none)), Value.tuple #[], Value.tuple #[], Value.tuple #[], Value.tuple #[], Value.int IntKind.i64 (↑M : Int),
 Value.bool false, Value.bool false, Value.int IntKind.i64 (↑M : Int), Value.bool false, Value.bool false, Value.slice (some (Addr.mk 0 0 none)) n c, Value.int IntKind.i64 (↑M : Int), Value.func (Fn.func 44) (Array.mk [])
 (Array.mk [Value.pointer (some (Addr.mk 3 0 none)), Value.pointer (some (Addr.mk 4 0 none))]), Value.tuple #[], Value.tuple #[], Value.tuple #[], Value.tuple #[], Value.tuple #[], Value.tuple #[], Value.tuple #[],
 Value.tuple #[], Value.tuple #[], Value.tuple #[], Value.tuple #[], Value.tuple #[], Value.tuple #[], Value.tuple #[], Value.tuple #[], Value.tuple #[], Value.tuple #[], Value.tuple #[]] #[20] (rfAs Try.prog 24) (rfBd
 Try.prog 24)) []) :: (5, Rw.mk Kd.marks []) :: (4, Rw.mk Kd.shut [Value.int IntKind.i64 (↑M : Int)]) :: (3, Rw.mk Kd.shut [Value.slice (some (Addr.mk 0 0 none)) n c]) :: (2, Rw.mk Kd.shut [Value.slice none 0 0]) :: rowsN
 2 [] (rowsN 2 [] [(0, Rw.mk (Kd.sd ds) [])]) = ctG Try.prog n c (↑M : Int) ds (Value.slice none 0 0), 7 = 7, CtSt ds n c M false, bodyIn Try.prog (8 : FuncId) 9 = bodyIn Try.prog (8 : FuncId) 9, [(0, Value.slice (some
 (Addr.mk 0 0 none)) n c), (1, Value.int IntKind.i64 (↑M : Int)), (5, Value.bool true), (6, Value.slice (some (Addr.mk 80 0 none)) (nPt n M) (capBig + 80)), (8, Value.slice none 0 0), (9, Value.int IntKind.i64 (0 : Int))]
 = mvS n c M (nPt n M) 0 (Value.slice none 0 0), delH (delH (ctOut Try.prog ds n c M false) 6) 5 = mvH n c M (nPt n M) (osD (prsOf ds) M (nPt n M)) ds, 400 = 400, MvSt ds (osD (prsOf ds) M (nPt n M)) n c M (nPt n M), MvA.n
 (MvA.mk n c (Int.toNat (↑M : Int)) (nPt (CtA.n (CtA.mk n c (Int.toNat (↑M : Int)) ds)) (CtA.M (CtA.mk n c (Int.toNat (↑M : Int)) ds))) (CtA.ds (CtA.mk n c (Int.toNat (↑M : Int)) ds)) (osD (prsOf (CtA.ds (CtA.mk n c
 (Int.toNat (↑M : Int)) ds))) (CtA.M (CtA.mk n c (Int.toNat (↑M : Int)) ds)) (nPt (CtA.n (CtA.mk n c (Int.toNat (↑M : Int)) ds)) (CtA.M (CtA.mk n c (Int.toNat (↑M : Int)) ds))))) = 0 → cpD (prsOf ds) = [], MvA.n (MvA.mk n
 c (Int.toNat (↑M : Int)) (nPt (CtA.n (CtA.mk n c (Int.toNat (↑M : Int)) ds)) (CtA.M (CtA.mk n c (Int.toNat (↑M : Int)) ds))) (CtA.ds (CtA.mk n c (Int.toNat (↑M : Int)) ds)) (osD (prsOf (CtA.ds (CtA.mk n c (Int.toNat (↑M :
 Int)) ds))) (CtA.M (CtA.mk n c (Int.toNat (↑M : Int)) ds)) (nPt (CtA.n (CtA.mk n c (Int.toNat (↑M : Int)) ds)) (CtA.M (CtA.mk n c (Int.toNat (↑M : Int)) ds))))) = 0 → ds = [], SpOk (cpD (prsOf ds)) ds n ∧ n = n]) := by kernel_rfl
theorem mw_z (n c : Nat) (M : Nat) (ds : List DV) : prjV (runZ (mwV (ctLo Try.prog) mwT) Try.prog 12 8 [.slice (some ⟨0, 0, none⟩) n c, .int .i64 (M : Int)] [(0, ⟨.sd ds, []⟩)] 2 [false, false, false, false, true, false]) =
  Res.ok (Value.bool true, [], [n = 0 → ds = [], LpOk ds n ∧ (decide ((↑n : Int) > (300 : Int)) || List.any (prsOf ds) big) = false, decide ((↑M : Int) < (1 : Int)) = false, decide ((↑M : Int) > (64 : Int)) = false, decide
 ((↑M : Int) < (1 : Int)) = false, bodyIn Try.prog (44 : FuncId) 1 = bodyIn Try.prog (44 : FuncId) 1, [(0, Value.func (Fn.yield 6) (Array.mk []) (Array.mk [])), (1, Value.pointer (some (Addr.mk 3 0 none))), (2,
 Value.pointer (some (Addr.mk 4 0 none))), (4, Value.int IntKind.i64 (0 : Int))] = ctS 0, (6, Rw.mk (Kd.round LoopState.ready none [Value.slice (some (Addr.mk 0 0 none)) n c, Value.int IntKind.i64 (↑M : Int), Value.tuple
 #[], Value.tuple #[], Value.slice none 0 0, Value.int IntKind.i64 (0 : Int), Value.pointer (some (Addr.mk 2 0 none)), Value.tuple #[], Value.tuple #[], Value.tuple #[], Value.tuple #[], Value.int IntKind.i64 (↑M : Int),
 Value.bool false, Value.bool false, Value.int IntKind.i64 (↑M : Int), Value.bool false, Value.bool false, Value.slice (some (Addr.mk 0 0 none)) n c, Value.int IntKind.i64 (↑M : Int), Value.func (Fn.func 44) (Array.mk [])
 (Array.mk [Value.pointer (some (Addr.mk 3 0 none)), Value.pointer (some (Addr.mk 4 0 none))]), Value.tuple #[], Value.tuple #[], Value.tuple #[], Value.tuple #[], Value.tuple #[], Value.tuple #[], Value.tuple #[],
 Value.tuple #[], Value.tuple #[], Value.tuple #[], Value.tuple #[], Value.tuple #[], Value.tuple #[], Value.tuple #[], Value.tuple #[], Value.tuple #[], Value.tuple #[], Value.tuple #[]] #[20] (rfAs Try.prog 24) (rfBd
 Try.prog 24)) []) :: (5, Rw.mk Kd.marks []) :: (4, Rw.mk Kd.shut [Value.int IntKind.i64 (↑M : Int)]) :: (3, Rw.mk Kd.shut [Value.slice (some (Addr.mk 0 0 none)) n c]) :: (2, Rw.mk Kd.shut [Value.slice none 0 0]) :: rowsN
 2 [] (rowsN 2 [] [(0, Rw.mk (Kd.sd ds) [])]) = ctG Try.prog n c (↑M : Int) ds (Value.slice none 0 0), 7 = 7, CtSt ds n c M true, false = false, n = 0 → ds = [], SpOk [] ds 0 ∧ n = 0]) := by kernel_rfl
end Go.Proofs.Ytmoflcoijmmpjaa
