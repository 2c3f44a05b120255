/-
  Chapter 19: bytes of results; lists of results beside each other: the program's functions and the document's.
-/
import Derived.Test.YtmjmdjcgjmjigaaResA
namespace Go.Proofs.Ytmjmdjcgjmjigaa
set_option linter.unusedSimpArgs false
set_option linter.unusedVariables false
set_option linter.unusedSectionVars false
open Go Go.RowKit

def b4 (n : Int) : List Value := [.int .u8 (n % 256), .int .u8 (n / 256 % 256), .int .u8 (n / 65536 % 256), .int .u8 (n / 16777216 % 256)]
def o2 (xs : List Value) (i : Nat) : List Value := b4 (intAt xs (i * 2)) ++ b4 (intAt xs (i * 2 + 1))
def wrL (xs : List Value) : Nat → Nat → List Value
  | _, 0 => []
  | i, k + 1 => o2 xs i ++ wrL xs (i + 1) k
def wrG (xs : List Value) (i : Nat) : Bool := decide ((0 ≤ intAt xs (i * 2) ∧ intAt xs (i * 2) < 2147483648) ∧ (0 ≤ intAt xs (i * 2 + 1) ∧ intAt xs (i * 2 + 1) < 2147483648))
def wrOk (xs : List Value) : Nat → Nat → Bool
  | _, 0 => true
  | i, k + 1 => bif wrG xs i then wrOk xs (i + 1) k else false
def byRow (ys : List Value) : Rw := ⟨.room 1 [.int .u8 0], ys⟩
def gFour : GSpec := fun av tp => match av with
  | [.fl (.int .i64 n)] => some (⟨fun nx => .slice (some ⟨nx, 0, none⟩) 4 4, [⟨.shut, b4 n⟩]⟩, tp, [0 ≤ n ∧ n < 4294967296])
  | _ => none
def foV : Tv := ⟨noTz, noXz, noL, fun _ => [], allSy 39 [], fun _ => [], fun _ => 0⟩
theorem qf_r (n : Int) : runZ foV Try.prog 5 39 [.int .i64 n] [] 1 [] =
  Res.ok ((Value.slice (some (Addr.mk (1 : Nat) (0 : Nat) none)) (4 : Nat) (4 : Nat), [((1 : Nat), Rw.mk Kd.shut [Value.int IntKind.u8 (lowI IntKind.u8 (mdI n (256 : Int))), Value.int IntKind.u8 (lowI IntKind.u8 (mdI (dvI n
 (256 : Int)) (256 : Int))), Value.int IntKind.u8 (lowI IntKind.u8 (mdI (dvI n (65536 : Int)) (256 : Int))), Value.int IntKind.u8 (lowI IntKind.u8 (dvI n (16777216 : Int)))])], (2 : Nat), []), [], [(0 : Int) ≤ n ∧ (0 :
 Int) < (256 : Int), (0 : Int) ≤ n ∧ (0 : Int) < (256 : Int) ∧ rg IntKind.i64 n, (0 : Int) ≤ dvI n (256 : Int) ∧ (0 : Int) < (256 : Int), (0 : Int) ≤ n ∧ (0 : Int) < (65536 : Int) ∧ rg IntKind.i64 n, (0 : Int) ≤ dvI n
 (65536 : Int) ∧ (0 : Int) < (256 : Int), (0 : Int) ≤ n ∧ (0 : Int) < (16777216 : Int) ∧ rg IntKind.i64 n]) := by kernel_rfl
def foT : TFun := mkT 39 [.f] gFour
def wrV (L : LFun) : Tv := ⟨foT, noXz, L, fun f => bif Nat.beq f 28 then [11, 15, 27, 30] else bif Nat.beq f 29 then [8, 12, 20, 27, 35, 43] else [], orSy (exSy 28 [6, 18, 19, 20, 21, 22, 23, 24, 25, 46] []) (allSy 29 []), fun _ => [], fun _ => 0⟩
def wrB (P : Program) : Code := bodyIn P 28 5
def wdB (P : Program) : Code := bodyIn P 29 5
def wrS (n c i : Nat) (out : Value) : List (Nat × Value) := [(4, out), (12, .slice (some ⟨0, 0, none⟩) n c), (13, .int .i64 (n : Int)), (14, .int .i64 (i : Int))]
def wdS (n c i : Nat) (out : Value) : List (Nat × Value) := [(0, .slice (some ⟨0, 0, none⟩) n c), (4, out), (5, .int .i64 (i : Int))]
theorem wr_more0 (inr : Bool) (xs : List Value) (n c i : Nat) : prjZ [4, 12, 13, 14] (codeZ (wrV noL) Try.prog (runZ (wrV noL) Try.prog 5) 28 inr 100000 (wrB Try.prog) (SL 49 (wrS n c i (.slice none 0 0))) [(0, ⟨.old, xs⟩)] 1 [true, false, false, false, false]) =
  Res.ok ((Xt.normal, (49 : Nat), [((4 : Nat), Value.slice (some (Addr.mk (5 : Nat) (0 : Nat) none)) (8 : Nat) (capBig + (5 : Nat))), ((12 : Nat), Value.slice (some (Addr.mk (0 : Nat) (0 : Nat) none)) n c), ((13 : Nat),
 Value.int IntKind.i64 (↑n : Int)), ((14 : Nat), Value.int IntKind.i64 (↑(i + (1 : Nat)) : Int))], [((5 : Nat), Rw.mk (Kd.room (1 : Nat) [Value.int IntKind.u8 (0 : Int)]) [Value.int IntKind.u8 (lowI IntKind.u8 (intAt xs (i
 * (2 : Nat)))), Value.int IntKind.u8 (lowI IntKind.u8 (srI (intAt xs (i * (2 : Nat))) (8 : Int))), Value.int IntKind.u8 (lowI IntKind.u8 (srI (intAt xs (i * (2 : Nat))) (16 : Int))), Value.int IntKind.u8 (lowI IntKind.u8
 (srI (intAt xs (i * (2 : Nat))) (24 : Int))), Value.int IntKind.u8 (lowI IntKind.u8 (intAt xs (i * (2 : Nat) + (1 : Nat)))), Value.int IntKind.u8 (lowI IntKind.u8 (srI (intAt xs (i * (2 : Nat) + (1 : Nat))) (8 : Int))),
 Value.int IntKind.u8 (lowI IntKind.u8 (srI (intAt xs (i * (2 : Nat) + (1 : Nat))) (16 : Int))), Value.int IntKind.u8 (lowI IntKind.u8 (srI (intAt xs (i * (2 : Nat) + (1 : Nat))) (24 : Int)))]), ((4 : Nat), Rw.mk Kd.shut
 [Value.int IntKind.u8 (lowI IntKind.u8 (intAt xs (i * (2 : Nat) + (1 : Nat)))), Value.int IntKind.u8 (lowI IntKind.u8 (srI (intAt xs (i * (2 : Nat) + (1 : Nat))) (8 : Int))), Value.int IntKind.u8 (lowI IntKind.u8 (srI
 (intAt xs (i * (2 : Nat) + (1 : Nat))) (16 : Int))), Value.int IntKind.u8 (lowI IntKind.u8 (srI (intAt xs (i * (2 : Nat) + (1 : Nat))) (24 : Int)))]), ((2 : Nat), Rw.mk Kd.shut [Value.int IntKind.u8 (lowI IntKind.u8
 (intAt xs (i * (2 : Nat)))), Value.int IntKind.u8 (lowI IntKind.u8 (srI (intAt xs (i * (2 : Nat))) (8 : Int))), Value.int IntKind.u8 (lowI IntKind.u8 (srI (intAt xs (i * (2 : Nat))) (16 : Int))), Value.int IntKind.u8
 (lowI IntKind.u8 (srI (intAt xs (i * (2 : Nat))) (24 : Int)))]), ((1 : Nat), Rw.mk Kd.shut [Value.int IntKind.i64 (intAt xs (i * (2 : Nat))), Value.int IntKind.i64 (intAt xs (i * (2 : Nat) + (1 : Nat)))]), ((0 : Nat),
 Rw.mk Kd.old xs)], (6 : Nat), [(3 : Nat), (1 : Nat)], []), [], [decide ((↑i : Int) < (↑n : Int)) = true, (0 : Int) ≤ (↑i : Int) ∧ (↑i : Int) < (↑n : Int), List.take (2 : Nat) (List.drop (i * (2 : Nat)) xs) = [Value.int
 IntKind.i64 (intAt xs (i * (2 : Nat))), Value.int IntKind.i64 (intAt xs (i * (2 : Nat) + (1 : Nat)))], (2 : Nat) ≤ (2 : Nat), decide (intAt xs (i * (2 : Nat)) < (0 : Int)) = false, decide (intAt xs (i * (2 : Nat)) ≥
 (2147483648 : Int)) = false, (0 : Int) ≤ (8 : Int) ∧ (8 : Int) ≤ (64 : Int), (0 : Int) ≤ (16 : Int) ∧ (16 : Int) ≤ (64 : Int), (0 : Int) ≤ (24 : Int) ∧ (24 : Int) ≤ (64 : Int), (4 : Nat) ≠ (0 : Nat), (4 : Nat) ≤
 (140737488355328 : Nat) ∧ (4 : Nat) ≤ (9223372036854775807 : Nat), (4 : Nat) ≤ (4 : Nat), true = true, decide (intAt xs (i * (2 : Nat) + (1 : Nat)) < (0 : Int)) = false, decide (intAt xs (i * (2 : Nat) + (1 : Nat)) ≥
 (2147483648 : Int)) = false, (0 : Int) ≤ (8 : Int) ∧ (8 : Int) ≤ (64 : Int), (0 : Int) ≤ (16 : Int) ∧ (16 : Int) ≤ (64 : Int), (0 : Int) ≤ (24 : Int) ∧ (24 : Int) ≤ (64 : Int), capBig + (3 : Nat) = capBig + (3 : Nat), (4
 : Nat) = (4 : Nat), (8 : Nat) ≤ (140737488355328 : Nat) ∧ (8 : Nat) ≤ (9223372036854775807 : Nat), (4 : Nat) ≤ (4 : Nat), true = true, rg IntKind.i64 (↑(i + (1 : Nat)) : Int)]) := by kernel_rfl
theorem wr_more1 (inr : Bool) (xs ys : List Value) (n c i m : Nat) : prjZ [4, 12, 13, 14] (codeZ (wrV noL) Try.prog (runZ (wrV noL) Try.prog 5) 28 inr 100000 (wrB Try.prog) (SL 49 (wrS n c i (.slice (some ⟨1, 0, none⟩) m (capBig + 1)))) [(0, ⟨.old, xs⟩), (1, byRow ys)] 2 [true, false, false, false, false]) =
  Res.ok ((Xt.normal, (49 : Nat), [((4 : Nat), Value.slice (some (Addr.mk (6 : Nat) (0 : Nat) none)) (m + (4 : Nat) + (4 : Nat)) (capBig + (6 : Nat))), ((12 : Nat), Value.slice (some (Addr.mk (0 : Nat) (0 : Nat) none)) n
 c), ((13 : Nat), Value.int IntKind.i64 (↑n : Int)), ((14 : Nat), Value.int IntKind.i64 (↑(i + (1 : Nat)) : Int))], [((6 : Nat), Rw.mk (Kd.room (1 : Nat) [Value.int IntKind.u8 (0 : Int)]) (ys ++ [Value.int IntKind.u8 (lowI
 IntKind.u8 (intAt xs (i * (2 : Nat)))), Value.int IntKind.u8 (lowI IntKind.u8 (srI (intAt xs (i * (2 : Nat))) (8 : Int))), Value.int IntKind.u8 (lowI IntKind.u8 (srI (intAt xs (i * (2 : Nat))) (16 : Int))), Value.int
 IntKind.u8 (lowI IntKind.u8 (srI (intAt xs (i * (2 : Nat))) (24 : Int)))] ++ [Value.int IntKind.u8 (lowI IntKind.u8 (intAt xs (i * (2 : Nat) + (1 : Nat)))), Value.int IntKind.u8 (lowI IntKind.u8 (srI (intAt xs (i * (2 :
 Nat) + (1 : Nat))) (8 : Int))), Value.int IntKind.u8 (lowI IntKind.u8 (srI (intAt xs (i * (2 : Nat) + (1 : Nat))) (16 : Int))), Value.int IntKind.u8 (lowI IntKind.u8 (srI (intAt xs (i * (2 : Nat) + (1 : Nat))) (24 :
 Int)))])), ((5 : Nat), Rw.mk Kd.shut [Value.int IntKind.u8 (lowI IntKind.u8 (intAt xs (i * (2 : Nat) + (1 : Nat)))), Value.int IntKind.u8 (lowI IntKind.u8 (srI (intAt xs (i * (2 : Nat) + (1 : Nat))) (8 : Int))), Value.int
 IntKind.u8 (lowI IntKind.u8 (srI (intAt xs (i * (2 : Nat) + (1 : Nat))) (16 : Int))), Value.int IntKind.u8 (lowI IntKind.u8 (srI (intAt xs (i * (2 : Nat) + (1 : Nat))) (24 : Int)))]), ((3 : Nat), Rw.mk Kd.shut [Value.int
 IntKind.u8 (lowI IntKind.u8 (intAt xs (i * (2 : Nat)))), Value.int IntKind.u8 (lowI IntKind.u8 (srI (intAt xs (i * (2 : Nat))) (8 : Int))), Value.int IntKind.u8 (lowI IntKind.u8 (srI (intAt xs (i * (2 : Nat))) (16 :
 Int))), Value.int IntKind.u8 (lowI IntKind.u8 (srI (intAt xs (i * (2 : Nat))) (24 : Int)))]), ((2 : Nat), Rw.mk Kd.shut [Value.int IntKind.i64 (intAt xs (i * (2 : Nat))), Value.int IntKind.i64 (intAt xs (i * (2 : Nat) +
 (1 : Nat)))]), ((0 : Nat), Rw.mk Kd.old xs)], (7 : Nat), [(4 : Nat), (1 : Nat), (2 : Nat)], []), [], [decide ((↑i : Int) < (↑n : Int)) = true, (0 : Int) ≤ (↑i : Int) ∧ (↑i : Int) < (↑n : Int), List.take (2 : Nat)
 (List.drop (i * (2 : Nat)) xs) = [Value.int IntKind.i64 (intAt xs (i * (2 : Nat))), Value.int IntKind.i64 (intAt xs (i * (2 : Nat) + (1 : Nat)))], (2 : Nat) ≤ (2 : Nat), decide (intAt xs (i * (2 : Nat)) < (0 : Int)) =
 false, decide (intAt xs (i * (2 : Nat)) ≥ (2147483648 : Int)) = false, (0 : Int) ≤ (8 : Int) ∧ (8 : Int) ≤ (64 : Int), (0 : Int) ≤ (16 : Int) ∧ (16 : Int) ≤ (64 : Int), (0 : Int) ≤ (24 : Int) ∧ (24 : Int) ≤ (64 : Int),
 capBig + (1 : Nat) = capBig + (1 : Nat), List.length ys = m, (m + (4 : Nat)) * (1 : Nat) ≤ (140737488355328 : Nat) ∧ m + (4 : Nat) ≤ (9223372036854775807 : Nat), (4 : Nat) ≤ (4 : Nat), true = true, decide (intAt xs (i *
 (2 : Nat) + (1 : Nat)) < (0 : Int)) = false, decide (intAt xs (i * (2 : Nat) + (1 : Nat)) ≥ (2147483648 : Int)) = false, (0 : Int) ≤ (8 : Int) ∧ (8 : Int) ≤ (64 : Int), (0 : Int) ≤ (16 : Int) ∧ (16 : Int) ≤ (64 : Int), (0
 : Int) ≤ (24 : Int) ∧ (24 : Int) ≤ (64 : Int), capBig + (4 : Nat) = capBig + (4 : Nat), List.length (ys ++ [Value.int IntKind.u8 (lowI IntKind.u8 (intAt xs (i * (2 : Nat)))), Value.int IntKind.u8 (lowI IntKind.u8 (srI
 (intAt xs (i * (2 : Nat))) (8 : Int))), Value.int IntKind.u8 (lowI IntKind.u8 (srI (intAt xs (i * (2 : Nat))) (16 : Int))), Value.int IntKind.u8 (lowI IntKind.u8 (srI (intAt xs (i * (2 : Nat))) (24 : Int)))]) = m + (4 :
 Nat), (m + (4 : Nat) + (4 : Nat)) * (1 : Nat) ≤ (140737488355328 : Nat) ∧ m + (4 : Nat) + (4 : Nat) ≤ (9223372036854775807 : Nat), (4 : Nat) ≤ (4 : Nat), true = true, rg IntKind.i64 (↑(i + (1 : Nat)) : Int)]) := by kernel_rfl
theorem wr_bada0 (inr : Bool) (xs : List Value) (n c i : Nat) : prjZ [2, 3] (codeZ (wrV noL) Try.prog (runZ (wrV noL) Try.prog 5) 28 inr 100000 (wrB Try.prog) (SL 49 (wrS n c i (.slice none 0 0))) [(0, ⟨.old, xs⟩)] 1 [true, true]) =
  Res.ok ((Xt.ret, (49 : Nat), [((2 : Nat), Value.slice none (0 : Nat) (0 : Nat)), ((3 : Nat), Value.int IntKind.i64 (5 : Int))], [((1 : Nat), Rw.mk Kd.shut [Value.int IntKind.i64 (intAt xs (i * (2 : Nat))), Value.int
 IntKind.i64 (intAt xs (i * (2 : Nat) + (1 : Nat)))]), ((0 : Nat), Rw.mk Kd.old xs)], (2 : Nat), [(1 : Nat)], []), [], [decide ((↑i : Int) < (↑n : Int)) = true, (0 : Int) ≤ (↑i : Int) ∧ (↑i : Int) < (↑n : Int), List.take
 (2 : Nat) (List.drop (i * (2 : Nat)) xs) = [Value.int IntKind.i64 (intAt xs (i * (2 : Nat))), Value.int IntKind.i64 (intAt xs (i * (2 : Nat) + (1 : Nat)))], (2 : Nat) ≤ (2 : Nat), decide (intAt xs (i * (2 : Nat)) < (0 :
 Int)) = true]) := by kernel_rfl
theorem wr_bada1 (inr : Bool) (xs ys : List Value) (n c i m : Nat) : prjZ [2, 3] (codeZ (wrV noL) Try.prog (runZ (wrV noL) Try.prog 5) 28 inr 100000 (wrB Try.prog) (SL 49 (wrS n c i (.slice (some ⟨1, 0, none⟩) m (capBig + 1)))) [(0, ⟨.old, xs⟩), (1, byRow ys)] 2 [true, true]) =
  Res.ok ((Xt.ret, (49 : Nat), [((2 : Nat), Value.slice none (0 : Nat) (0 : Nat)), ((3 : Nat), Value.int IntKind.i64 (5 : Int))], [((2 : Nat), Rw.mk Kd.shut [Value.int IntKind.i64 (intAt xs (i * (2 : Nat))), Value.int
 IntKind.i64 (intAt xs (i * (2 : Nat) + (1 : Nat)))]), ((0 : Nat), Rw.mk Kd.old xs), ((1 : Nat), Rw.mk (Kd.room (1 : Nat) [Value.int IntKind.u8 (0 : Int)]) ys)], (3 : Nat), [(2 : Nat)], []), [], [decide ((↑i : Int) < (↑n :
 Int)) = true, (0 : Int) ≤ (↑i : Int) ∧ (↑i : Int) < (↑n : Int), List.take (2 : Nat) (List.drop (i * (2 : Nat)) xs) = [Value.int IntKind.i64 (intAt xs (i * (2 : Nat))), Value.int IntKind.i64 (intAt xs (i * (2 : Nat) + (1 :
 Nat)))], (2 : Nat) ≤ (2 : Nat), decide (intAt xs (i * (2 : Nat)) < (0 : Int)) = true]) := by kernel_rfl
theorem wr_badb0 (inr : Bool) (xs : List Value) (n c i : Nat) : prjZ [2, 3] (codeZ (wrV noL) Try.prog (runZ (wrV noL) Try.prog 5) 28 inr 100000 (wrB Try.prog) (SL 49 (wrS n c i (.slice none 0 0))) [(0, ⟨.old, xs⟩)] 1 [true, false, true]) =
  Res.ok ((Xt.ret, (49 : Nat), [((2 : Nat), Value.slice none (0 : Nat) (0 : Nat)), ((3 : Nat), Value.int IntKind.i64 (5 : Int))], [((1 : Nat), Rw.mk Kd.shut [Value.int IntKind.i64 (intAt xs (i * (2 : Nat))), Value.int
 IntKind.i64 (intAt xs (i * (2 : Nat) + (1 : Nat)))]), ((0 : Nat), Rw.mk Kd.old xs)], (2 : Nat), [(1 : Nat)], []), [], [decide ((↑i : Int) < (↑n : Int)) = true, (0 : Int) ≤ (↑i : Int) ∧ (↑i : Int) < (↑n : Int), List.take
 (2 : Nat) (List.drop (i * (2 : Nat)) xs) = [Value.int IntKind.i64 (intAt xs (i * (2 : Nat))), Value.int IntKind.i64 (intAt xs (i * (2 : Nat) + (1 : Nat)))], (2 : Nat) ≤ (2 : Nat), decide (intAt xs (i * (2 : Nat)) < (0 :
 Int)) = false, decide (intAt xs (i * (2 : Nat)) ≥ (2147483648 : Int)) = true]) := by kernel_rfl
theorem wr_badb1 (inr : Bool) (xs ys : List Value) (n c i m : Nat) : prjZ [2, 3] (codeZ (wrV noL) Try.prog (runZ (wrV noL) Try.prog 5) 28 inr 100000 (wrB Try.prog) (SL 49 (wrS n c i (.slice (some ⟨1, 0, none⟩) m (capBig + 1)))) [(0, ⟨.old, xs⟩), (1, byRow ys)] 2 [true, false, true]) =
  Res.ok ((Xt.ret, (49 : Nat), [((2 : Nat), Value.slice none (0 : Nat) (0 : Nat)), ((3 : Nat), Value.int IntKind.i64 (5 : Int))], [((2 : Nat), Rw.mk Kd.shut [Value.int IntKind.i64 (intAt xs (i * (2 : Nat))), Value.int
 IntKind.i64 (intAt xs (i * (2 : Nat) + (1 : Nat)))]), ((0 : Nat), Rw.mk Kd.old xs), ((1 : Nat), Rw.mk (Kd.room (1 : Nat) [Value.int IntKind.u8 (0 : Int)]) ys)], (3 : Nat), [(2 : Nat)], []), [], [decide ((↑i : Int) < (↑n :
 Int)) = true, (0 : Int) ≤ (↑i : Int) ∧ (↑i : Int) < (↑n : Int), List.take (2 : Nat) (List.drop (i * (2 : Nat)) xs) = [Value.int IntKind.i64 (intAt xs (i * (2 : Nat))), Value.int IntKind.i64 (intAt xs (i * (2 : Nat) + (1 :
 Nat)))], (2 : Nat) ≤ (2 : Nat), decide (intAt xs (i * (2 : Nat)) < (0 : Int)) = false, decide (intAt xs (i * (2 : Nat)) ≥ (2147483648 : Int)) = true]) := by kernel_rfl
theorem wr_badc0 (inr : Bool) (xs : List Value) (n c i : Nat) : prjZ [2, 3] (codeZ (wrV noL) Try.prog (runZ (wrV noL) Try.prog 5) 28 inr 100000 (wrB Try.prog) (SL 49 (wrS n c i (.slice none 0 0))) [(0, ⟨.old, xs⟩)] 1 [true, false, false, true]) =
  Res.ok ((Xt.ret, (49 : Nat), [((2 : Nat), Value.slice none (0 : Nat) (0 : Nat)), ((3 : Nat), Value.int IntKind.i64 (5 : Int))], [((3 : Nat), Rw.mk (Kd.room (1 : Nat) [Value.int IntKind.u8 (0 : Int)]) [Value.int IntKind.u8
 (lowI IntKind.u8 (intAt xs (i * (2 : Nat)))), Value.int IntKind.u8 (lowI IntKind.u8 (srI (intAt xs (i * (2 : Nat))) (8 : Int))), Value.int IntKind.u8 (lowI IntKind.u8 (srI (intAt xs (i * (2 : Nat))) (16 : Int))),
 Value.int IntKind.u8 (lowI IntKind.u8 (srI (intAt xs (i * (2 : Nat))) (24 : Int)))]), ((2 : Nat), Rw.mk Kd.shut [Value.int IntKind.u8 (lowI IntKind.u8 (intAt xs (i * (2 : Nat)))), Value.int IntKind.u8 (lowI IntKind.u8
 (srI (intAt xs (i * (2 : Nat))) (8 : Int))), Value.int IntKind.u8 (lowI IntKind.u8 (srI (intAt xs (i * (2 : Nat))) (16 : Int))), Value.int IntKind.u8 (lowI IntKind.u8 (srI (intAt xs (i * (2 : Nat))) (24 : Int)))]), ((1 :
 Nat), Rw.mk Kd.shut [Value.int IntKind.i64 (intAt xs (i * (2 : Nat))), Value.int IntKind.i64 (intAt xs (i * (2 : Nat) + (1 : Nat)))]), ((0 : Nat), Rw.mk Kd.old xs)], (4 : Nat), [(1 : Nat)], []), [], [decide ((↑i : Int) <
 (↑n : Int)) = true, (0 : Int) ≤ (↑i : Int) ∧ (↑i : Int) < (↑n : Int), List.take (2 : Nat) (List.drop (i * (2 : Nat)) xs) = [Value.int IntKind.i64 (intAt xs (i * (2 : Nat))), Value.int IntKind.i64 (intAt xs (i * (2 : Nat)
 + (1 : Nat)))], (2 : Nat) ≤ (2 : Nat), decide (intAt xs (i * (2 : Nat)) < (0 : Int)) = false, decide (intAt xs (i * (2 : Nat)) ≥ (2147483648 : Int)) = false, (0 : Int) ≤ (8 : Int) ∧ (8 : Int) ≤ (64 : Int), (0 : Int) ≤ (16
 : Int) ∧ (16 : Int) ≤ (64 : Int), (0 : Int) ≤ (24 : Int) ∧ (24 : Int) ≤ (64 : Int), (4 : Nat) ≠ (0 : Nat), (4 : Nat) ≤ (140737488355328 : Nat) ∧ (4 : Nat) ≤ (9223372036854775807 : Nat), (4 : Nat) ≤ (4 : Nat), true = true,
 decide (intAt xs (i * (2 : Nat) + (1 : Nat)) < (0 : Int)) = true]) := by kernel_rfl
theorem wr_badc1 (inr : Bool) (xs ys : List Value) (n c i m : Nat) : prjZ [2, 3] (codeZ (wrV noL) Try.prog (runZ (wrV noL) Try.prog 5) 28 inr 100000 (wrB Try.prog) (SL 49 (wrS n c i (.slice (some ⟨1, 0, none⟩) m (capBig + 1)))) [(0, ⟨.old, xs⟩), (1, byRow ys)] 2 [true, false, false, true]) =
  Res.ok ((Xt.ret, (49 : Nat), [((2 : Nat), Value.slice none (0 : Nat) (0 : Nat)), ((3 : Nat), Value.int IntKind.i64 (5 : Int))], [((4 : Nat), Rw.mk (Kd.room (1 : Nat) [Value.int IntKind.u8 (0 : Int)]) (ys ++ [Value.int
 IntKind.u8 (lowI IntKind.u8 (intAt xs (i * (2 : Nat)))), Value.int IntKind.u8 (lowI IntKind.u8 (srI (intAt xs (i * (2 : Nat))) (8 : Int))), Value.int IntKind.u8 (lowI IntKind.u8 (srI (intAt xs (i * (2 : Nat))) (16 :
 Int))), Value.int IntKind.u8 (lowI IntKind.u8 (srI (intAt xs (i * (2 : Nat))) (24 : Int)))])), ((3 : Nat), Rw.mk Kd.shut [Value.int IntKind.u8 (lowI IntKind.u8 (intAt xs (i * (2 : Nat)))), Value.int IntKind.u8 (lowI
 IntKind.u8 (srI (intAt xs (i * (2 : Nat))) (8 : Int))), Value.int IntKind.u8 (lowI IntKind.u8 (srI (intAt xs (i * (2 : Nat))) (16 : Int))), Value.int IntKind.u8 (lowI IntKind.u8 (srI (intAt xs (i * (2 : Nat))) (24 :
 Int)))]), ((2 : Nat), Rw.mk Kd.shut [Value.int IntKind.i64 (intAt xs (i * (2 : Nat))), Value.int IntKind.i64 (intAt xs (i * (2 : Nat) + (1 : Nat)))]), ((0 : Nat), Rw.mk Kd.old xs)], (5 : Nat), [(1 : Nat), (2 : Nat)], []),
 [], [decide ((↑i : Int) < (↑n : Int)) = true, (0 : Int) ≤ (↑i : Int) ∧ (↑i : Int) < (↑n : Int), List.take (2 : Nat) (List.drop (i * (2 : Nat)) xs) = [Value.int IntKind.i64 (intAt xs (i * (2 : Nat))), Value.int IntKind.i64
 (intAt xs (i * (2 : Nat) + (1 : Nat)))], (2 : Nat) ≤ (2 : Nat), decide (intAt xs (i * (2 : Nat)) < (0 : Int)) = false, decide (intAt xs (i * (2 : Nat)) ≥ (2147483648 : Int)) = false, (0 : Int) ≤ (8 : Int) ∧ (8 : Int) ≤
 (64 : Int), (0 : Int) ≤ (16 : Int) ∧ (16 : Int) ≤ (64 : Int), (0 : Int) ≤ (24 : Int) ∧ (24 : Int) ≤ (64 : Int), capBig + (1 : Nat) = capBig + (1 : Nat), List.length ys = m, (m + (4 : Nat)) * (1 : Nat) ≤ (140737488355328 :
 Nat) ∧ m + (4 : Nat) ≤ (9223372036854775807 : Nat), (4 : Nat) ≤ (4 : Nat), true = true, decide (intAt xs (i * (2 : Nat) + (1 : Nat)) < (0 : Int)) = true]) := by kernel_rfl
theorem wr_badd0 (inr : Bool) (xs : List Value) (n c i : Nat) : prjZ [2, 3] (codeZ (wrV noL) Try.prog (runZ (wrV noL) Try.prog 5) 28 inr 100000 (wrB Try.prog) (SL 49 (wrS n c i (.slice none 0 0))) [(0, ⟨.old, xs⟩)] 1 [true, false, false, false, true]) =
  Res.ok ((Xt.ret, (49 : Nat), [((2 : Nat), Value.slice none (0 : Nat) (0 : Nat)), ((3 : Nat), Value.int IntKind.i64 (5 : Int))], [((3 : Nat), Rw.mk (Kd.room (1 : Nat) [Value.int IntKind.u8 (0 : Int)]) [Value.int IntKind.u8
 (lowI IntKind.u8 (intAt xs (i * (2 : Nat)))), Value.int IntKind.u8 (lowI IntKind.u8 (srI (intAt xs (i * (2 : Nat))) (8 : Int))), Value.int IntKind.u8 (lowI IntKind.u8 (srI (intAt xs (i * (2 : Nat))) (16 : Int))),
 Value.int IntKind.u8 (lowI IntKind.u8 (srI (intAt xs (i * (2 : Nat))) (24 : Int)))]), ((2 : Nat), Rw.mk Kd.shut [Value.int IntKind.u8 (lowI IntKind.u8 (intAt xs (i * (2 : Nat)))), Value.int IntKind.u8 (lowI IntKind.u8
 (srI (intAt xs (i * (2 : Nat))) (8 : Int))), Value.int IntKind.u8 (lowI IntKind.u8 (srI (intAt xs (i * (2 : Nat))) (16 : Int))), Value.int IntKind.u8 (lowI IntKind.u8 (srI (intAt xs (i * (2 : Nat))) (24 : Int)))]), ((1 :
 Nat), Rw.mk Kd.shut [Value.int IntKind.i64 (intAt xs (i * (2 : Nat))), Value.int IntKind.i64 (intAt xs (i * (2 : Nat) + (1 : Nat)))]), ((0 : Nat), Rw.mk Kd.old xs)], (4 : Nat), [(1 : Nat)], []), [], [decide ((↑i : Int) <
 (↑n : Int)) = true, (0 : Int) ≤ (↑i : Int) ∧ (↑i : Int) < (↑n : Int), List.take (2 : Nat) (List.drop (i * (2 : Nat)) xs) = [Value.int IntKind.i64 (intAt xs (i * (2 : Nat))), Value.int IntKind.i64 (intAt xs (i * (2 : Nat)
 + (1 : Nat)))], (2 : Nat) ≤ (2 : Nat), decide (intAt xs (i * (2 : Nat)) < (0 : Int)) = false, decide (intAt xs (i * (2 : Nat)) ≥ (2147483648 : Int)) = false, (0 : Int) ≤ (8 : Int) ∧ (8 : Int) ≤ (64 : Int), (0 : Int) ≤ (16
 : Int) ∧ (16 : Int) ≤ (64 : Int), (0 : Int) ≤ (24 : Int) ∧ (24 : Int) ≤ (64 : Int), (4 : Nat) ≠ (0 : Nat), (4 : Nat) ≤ (140737488355328 : Nat) ∧ (4 : Nat) ≤ (9223372036854775807 : Nat), (4 : Nat) ≤ (4 : Nat), true = true,
 decide (intAt xs (i * (2 : Nat) + (1 : Nat)) < (0 : Int)) = false, decide (intAt xs (i * (2 : Nat) + (1 : Nat)) ≥ (2147483648 : Int)) = true]) := by kernel_rfl
theorem wr_badd1 (inr : Bool) (xs ys : List Value) (n c i m : Nat) : prjZ [2, 3] (codeZ (wrV noL) Try.prog (runZ (wrV noL) Try.prog 5) 28 inr 100000 (wrB Try.prog) (SL 49 (wrS n c i (.slice (some ⟨1, 0, none⟩) m (capBig + 1)))) [(0, ⟨.old, xs⟩), (1, byRow ys)] 2 [true, false, false, false, true]) =
  Res.ok ((Xt.ret, (49 : Nat), [((2 : Nat), Value.slice none (0 : Nat) (0 : Nat)), ((3 : Nat), Value.int IntKind.i64 (5 : Int))], [((4 : Nat), Rw.mk (Kd.room (1 : Nat) [Value.int IntKind.u8 (0 : Int)]) (ys ++ [Value.int
 IntKind.u8 (lowI IntKind.u8 (intAt xs (i * (2 : Nat)))), Value.int IntKind.u8 (lowI IntKind.u8 (srI (intAt xs (i * (2 : Nat))) (8 : Int))), Value.int IntKind.u8 (lowI IntKind.u8 (srI (intAt xs (i * (2 : Nat))) (16 :
 Int))), Value.int IntKind.u8 (lowI IntKind.u8 (srI (intAt xs (i * (2 : Nat))) (24 : Int)))])), ((3 : Nat), Rw.mk Kd.shut [Value.int IntKind.u8 (lowI IntKind.u8 (intAt xs (i * (2 : Nat)))), Value.int IntKind.u8 (lowI
 IntKind.u8 (srI (intAt xs (i * (2 : Nat))) (8 : Int))), Value.int IntKind.u8 (lowI IntKind.u8 (srI (intAt xs (i * (2 : Nat))) (16 : Int))), Value.int IntKind.u8 (lowI IntKind.u8 (srI (intAt xs (i * (2 : Nat))) (24 :
 Int)))]), ((2 : Nat), Rw.mk Kd.shut [Value.int IntKind.i64 (intAt xs (i * (2 : Nat))), Value.int IntKind.i64 (intAt xs (i * (2 : Nat) + (1 : Nat)))]), ((0 : Nat), Rw.mk Kd.old xs)], (5 : Nat), [(1 : Nat), (2 : Nat)], []),
 [], [decide ((↑i : Int) < (↑n : Int)) = true, (0 : Int) ≤ (↑i : Int) ∧ (↑i : Int) < (↑n : Int), List.take (2 : Nat) (List.drop (i * (2 : Nat)) xs) = [Value.int IntKind.i64 (intAt xs (i * (2 : Nat))), Value.int IntKind.i64
 (intAt xs (i * (2 : Nat) + (1 : Nat)))], (2 : Nat) ≤ (2 : Nat), decide (intAt xs (i * (2 : Nat)) < (0 : Int)) = false, decide (intAt xs (i * (2 : Nat)) ≥ (2147483648 : Int)) = false, (0 : Int) ≤ (8 : Int) ∧ (8 : Int) ≤
 (64 : Int), (0 : Int) ≤ (16 : Int) ∧ (16 : Int) ≤ (64 : Int), (0 : Int) ≤ (24 : Int) ∧ (24 : Int) ≤ (64 : Int), capBig + (1 : Nat) = capBig + (1 : Nat), List.length ys = m, (m + (4 : Nat)) * (1 : Nat) ≤ (140737488355328 :
 Nat) ∧ m + (4 : Nat) ≤ (9223372036854775807 : Nat), (4 : Nat) ≤ (4 : Nat), true = true, decide (intAt xs (i * (2 : Nat) + (1 : Nat)) < (0 : Int)) = false, decide (intAt xs (i * (2 : Nat) + (1 : Nat)) ≥ (2147483648 : Int))
 = true]) := by kernel_rfl
theorem wr_done0 (inr : Bool) (xs : List Value) (n c i : Nat) : prjZ [4] (codeZ (wrV noL) Try.prog (runZ (wrV noL) Try.prog 5) 28 inr 100000 (wrB Try.prog) (SL 49 (wrS n c i (.slice none 0 0))) [(0, ⟨.old, xs⟩)] 1 [false]) =
  Res.ok ((Xt.exit (0 : Nat), (49 : Nat), [((4 : Nat), Value.slice none (0 : Nat) (0 : Nat))], [((0 : Nat), Rw.mk Kd.old xs)], (1 : Nat), [], []), [], [decide ((↑i : Int) < (↑n : Int)) = false]) := by kernel_rfl
theorem wr_done1 (inr : Bool) (xs ys : List Value) (n c i m : Nat) : prjZ [4] (codeZ (wrV noL) Try.prog (runZ (wrV noL) Try.prog 5) 28 inr 100000 (wrB Try.prog) (SL 49 (wrS n c i (.slice (some ⟨1, 0, none⟩) m (capBig + 1)))) [(0, ⟨.old, xs⟩), (1, byRow ys)] 2 [false]) =
  Res.ok ((Xt.exit (0 : Nat), (49 : Nat), [((4 : Nat), Value.slice (some (Addr.mk (1 : Nat) (0 : Nat) none)) m (capBig + (1 : Nat)))], [((0 : Nat), Rw.mk Kd.old xs), ((1 : Nat), Rw.mk (Kd.room (1 : Nat) [Value.int
 IntKind.u8 (0 : Int)]) ys)], (2 : Nat), [], []), [], [decide ((↑i : Int) < (↑n : Int)) = false]) := by kernel_rfl
theorem wd_more0 (inr : Bool) (xs : List Value) (n c i : Nat) : prjZ [0, 4, 5] (codeZ (wrV noL) Try.prog (runZ (wrV noL) Try.prog 5) 29 inr 100000 (wdB Try.prog) (SL 62 (wdS n c i (.slice none 0 0))) [(0, ⟨.old, xs⟩)] 1 [true, false, false, false, false]) =
  Res.ok ((Xt.normal, (62 : Nat), [((0 : Nat), Value.slice (some (Addr.mk (0 : Nat) (0 : Nat) none)) n c), ((4 : Nat), Value.slice (some (Addr.mk (4 : Nat) (0 : Nat) none)) (8 : Nat) (capBig + (4 : Nat))), ((5 : Nat),
 Value.int IntKind.i64 (↑(i + (1 : Nat)) : Int))], [((4 : Nat), Rw.mk (Kd.room (1 : Nat) [Value.int IntKind.u8 (0 : Int)]) [Value.int IntKind.u8 (intAt xs (i * (2 : Nat) + (0 : Nat)) % (256 : Int)), Value.int IntKind.u8
 (intAt xs (i * (2 : Nat) + (0 : Nat)) / (256 : Int) % (256 : Int)), Value.int IntKind.u8 (intAt xs (i * (2 : Nat) + (0 : Nat)) / (65536 : Int) % (256 : Int)), Value.int IntKind.u8 (intAt xs (i * (2 : Nat) + (0 : Nat)) /
 (16777216 : Int) % (256 : Int)), Value.int IntKind.u8 (intAt xs (i * (2 : Nat) + (1 : Nat)) % (256 : Int)), Value.int IntKind.u8 (intAt xs (i * (2 : Nat) + (1 : Nat)) / (256 : Int) % (256 : Int)), Value.int IntKind.u8
 (intAt xs (i * (2 : Nat) + (1 : Nat)) / (65536 : Int) % (256 : Int)), Value.int IntKind.u8 (intAt xs (i * (2 : Nat) + (1 : Nat)) / (16777216 : Int) % (256 : Int))]), ((3 : Nat), Rw.mk Kd.shut [Value.int IntKind.u8 (intAt
 xs (i * (2 : Nat) + (1 : Nat)) % (256 : Int)), Value.int IntKind.u8 (intAt xs (i * (2 : Nat) + (1 : Nat)) / (256 : Int) % (256 : Int)), Value.int IntKind.u8 (intAt xs (i * (2 : Nat) + (1 : Nat)) / (65536 : Int) % (256 :
 Int)), Value.int IntKind.u8 (intAt xs (i * (2 : Nat) + (1 : Nat)) / (16777216 : Int) % (256 : Int))]), ((1 : Nat), Rw.mk Kd.shut [Value.int IntKind.u8 (intAt xs (i * (2 : Nat) + (0 : Nat)) % (256 : Int)), Value.int
 IntKind.u8 (intAt xs (i * (2 : Nat) + (0 : Nat)) / (256 : Int) % (256 : Int)), Value.int IntKind.u8 (intAt xs (i * (2 : Nat) + (0 : Nat)) / (65536 : Int) % (256 : Int)), Value.int IntKind.u8 (intAt xs (i * (2 : Nat) + (0
 : Nat)) / (16777216 : Int) % (256 : Int))]), ((0 : Nat), Rw.mk Kd.old xs)], (5 : Nat), [(2 : Nat)], []), [], [decide ((↑i : Int) < (↑n : Int)) = true, (0 : Int) ≤ (↑i : Int) ∧ (↑i : Int) < (↑n : Int), xs[i * (2 : Nat) +
 (0 : Nat)]? = some (Value.int IntKind.i64 (intAt xs (i * (2 : Nat) + (0 : Nat)))), decide (intAt xs (i * (2 : Nat) + (0 : Nat)) < (0 : Int)) = false, (0 : Int) ≤ (↑i : Int) ∧ (↑i : Int) < (↑n : Int), xs[i * (2 : Nat) + (0
 : Nat)]? = some (Value.int IntKind.i64 (intAt xs (i * (2 : Nat) + (0 : Nat)))), decide (intAt xs (i * (2 : Nat) + (0 : Nat)) > (2147483647 : Int)) = false, (0 : Int) ≤ (↑i : Int) ∧ (↑i : Int) < (↑n : Int), xs[i * (2 :
 Nat) + (1 : Nat)]? = some (Value.int IntKind.i64 (intAt xs (i * (2 : Nat) + (1 : Nat)))), decide (intAt xs (i * (2 : Nat) + (1 : Nat)) < (0 : Int)) = false, (0 : Int) ≤ (↑i : Int) ∧ (↑i : Int) < (↑n : Int), xs[i * (2 :
 Nat) + (1 : Nat)]? = some (Value.int IntKind.i64 (intAt xs (i * (2 : Nat) + (1 : Nat)))), decide (intAt xs (i * (2 : Nat) + (1 : Nat)) > (2147483647 : Int)) = false, (0 : Int) ≤ (↑i : Int) ∧ (↑i : Int) < (↑n : Int), xs[i
 * (2 : Nat) + (0 : Nat)]? = some (Value.int IntKind.i64 (intAt xs (i * (2 : Nat) + (0 : Nat)))), (0 : Int) ≤ intAt xs (i * (2 : Nat) + (0 : Nat)) ∧ intAt xs (i * (2 : Nat) + (0 : Nat)) < (4294967296 : Int), (4 : Nat) ≠ (0
 : Nat), (4 : Nat) ≤ (140737488355328 : Nat) ∧ (4 : Nat) ≤ (9223372036854775807 : Nat), (4 : Nat) ≤ (4 : Nat), true = true, (0 : Int) ≤ (↑i : Int) ∧ (↑i : Int) < (↑n : Int), xs[i * (2 : Nat) + (1 : Nat)]? = some (Value.int
 IntKind.i64 (intAt xs (i * (2 : Nat) + (1 : Nat)))), (0 : Int) ≤ intAt xs (i * (2 : Nat) + (1 : Nat)) ∧ intAt xs (i * (2 : Nat) + (1 : Nat)) < (4294967296 : Int), capBig + (2 : Nat) = capBig + (2 : Nat), (4 : Nat) = (4 :
 Nat), (8 : Nat) ≤ (140737488355328 : Nat) ∧ (8 : Nat) ≤ (9223372036854775807 : Nat), (4 : Nat) ≤ (4 : Nat), true = true, rg IntKind.i64 (↑(i + (1 : Nat)) : Int)]) := by kernel_rfl
theorem wd_more1 (inr : Bool) (xs ys : List Value) (n c i m : Nat) : prjZ [0, 4, 5] (codeZ (wrV noL) Try.prog (runZ (wrV noL) Try.prog 5) 29 inr 100000 (wdB Try.prog) (SL 62 (wdS n c i (.slice (some ⟨1, 0, none⟩) m (capBig + 1)))) [(0, ⟨.old, xs⟩), (1, byRow ys)] 2 [true, false, false, false, false]) =
  Res.ok ((Xt.normal, (62 : Nat), [((0 : Nat), Value.slice (some (Addr.mk (0 : Nat) (0 : Nat) none)) n c), ((4 : Nat), Value.slice (some (Addr.mk (5 : Nat) (0 : Nat) none)) (m + (4 : Nat) + (4 : Nat)) (capBig + (5 : Nat))),
 ((5 : Nat), Value.int IntKind.i64 (↑(i + (1 : Nat)) : Int))], [((5 : Nat), Rw.mk (Kd.room (1 : Nat) [Value.int IntKind.u8 (0 : Int)]) (ys ++ [Value.int IntKind.u8 (intAt xs (i * (2 : Nat) + (0 : Nat)) % (256 : Int)),
 Value.int IntKind.u8 (intAt xs (i * (2 : Nat) + (0 : Nat)) / (256 : Int) % (256 : Int)), Value.int IntKind.u8 (intAt xs (i * (2 : Nat) + (0 : Nat)) / (65536 : Int) % (256 : Int)), Value.int IntKind.u8 (intAt xs (i * (2 :
 Nat) + (0 : Nat)) / (16777216 : Int) % (256 : Int))] ++ [Value.int IntKind.u8 (intAt xs (i * (2 : Nat) + (1 : Nat)) % (256 : Int)), Value.int IntKind.u8 (intAt xs (i * (2 : Nat) + (1 : Nat)) / (256 : Int) % (256 : Int)),
 Value.int IntKind.u8 (intAt xs (i * (2 : Nat) + (1 : Nat)) / (65536 : Int) % (256 : Int)), Value.int IntKind.u8 (intAt xs (i * (2 : Nat) + (1 : Nat)) / (16777216 : Int) % (256 : Int))])), ((4 : Nat), Rw.mk Kd.shut
 [Value.int IntKind.u8 (intAt xs (i * (2 : Nat) + (1 : Nat)) % (256 : Int)), Value.int IntKind.u8 (intAt xs (i * (2 : Nat) + (1 : Nat)) / (256 : Int) % (256 : Int)), Value.int IntKind.u8 (intAt xs (i * (2 : Nat) + (1 :
 Nat)) / (65536 : Int) % (256 : Int)), Value.int IntKind.u8 (intAt xs (i * (2 : Nat) + (1 : Nat)) / (16777216 : Int) % (256 : Int))]), ((2 : Nat), Rw.mk Kd.shut [Value.int IntKind.u8 (intAt xs (i * (2 : Nat) + (0 : Nat)) %
 (256 : Int)), Value.int IntKind.u8 (intAt xs (i * (2 : Nat) + (0 : Nat)) / (256 : Int) % (256 : Int)), Value.int IntKind.u8 (intAt xs (i * (2 : Nat) + (0 : Nat)) / (65536 : Int) % (256 : Int)), Value.int IntKind.u8 (intAt
 xs (i * (2 : Nat) + (0 : Nat)) / (16777216 : Int) % (256 : Int))]), ((0 : Nat), Rw.mk Kd.old xs)], (6 : Nat), [(3 : Nat), (1 : Nat)], []), [], [decide ((↑i : Int) < (↑n : Int)) = true, (0 : Int) ≤ (↑i : Int) ∧ (↑i : Int)
 < (↑n : Int), xs[i * (2 : Nat) + (0 : Nat)]? = some (Value.int IntKind.i64 (intAt xs (i * (2 : Nat) + (0 : Nat)))), decide (intAt xs (i * (2 : Nat) + (0 : Nat)) < (0 : Int)) = false, (0 : Int) ≤ (↑i : Int) ∧ (↑i : Int) <
 (↑n : Int), xs[i * (2 : Nat) + (0 : Nat)]? = some (Value.int IntKind.i64 (intAt xs (i * (2 : Nat) + (0 : Nat)))), decide (intAt xs (i * (2 : Nat) + (0 : Nat)) > (2147483647 : Int)) = false, (0 : Int) ≤ (↑i : Int) ∧ (↑i :
 Int) < (↑n : Int), xs[i * (2 : Nat) + (1 : Nat)]? = some (Value.int IntKind.i64 (intAt xs (i * (2 : Nat) + (1 : Nat)))), decide (intAt xs (i * (2 : Nat) + (1 : Nat)) < (0 : Int)) = false, (0 : Int) ≤ (↑i : Int) ∧ (↑i :
 Int) < (↑n : Int), xs[i * (2 : Nat) + (1 : Nat)]? = some (Value.int IntKind.i64 (intAt xs (i * (2 : Nat) + (1 : Nat)))), decide (intAt xs (i * (2 : Nat) + (1 : Nat)) > (2147483647 : Int)) = false, (0 : Int) ≤ (↑i : Int) ∧
 (↑i : Int) < (↑n : Int), xs[i * (2 : Nat) + (0 : Nat)]? = some (Value.int IntKind.i64 (intAt xs (i * (2 : Nat) + (0 : Nat)))), (0 : Int) ≤ intAt xs (i * (2 : Nat) + (0 : Nat)) ∧ intAt xs (i * (2 : Nat) + (0 : Nat)) <
 (4294967296 : Int), capBig + (1 : Nat) = capBig + (1 : Nat), List.length ys = m, (m + (4 : Nat)) * (1 : Nat) ≤ (140737488355328 : Nat) ∧ m + (4 : Nat) ≤ (9223372036854775807 : Nat), (4 : Nat) ≤ (4 : Nat), true = true, (0
 : Int) ≤ (↑i : Int) ∧ (↑i : Int) < (↑n : Int), xs[i * (2 : Nat) + (1 : Nat)]? = some (Value.int IntKind.i64 (intAt xs (i * (2 : Nat) + (1 : Nat)))), (0 : Int) ≤ intAt xs (i * (2 : Nat) + (1 : Nat)) ∧ intAt xs (i * (2 :
 Nat) + (1 : Nat)) < (4294967296 : Int), capBig + (3 : Nat) = capBig + (3 : Nat), List.length (ys ++ [Value.int IntKind.u8 (intAt xs (i * (2 : Nat) + (0 : Nat)) % (256 : Int)), Value.int IntKind.u8 (intAt xs (i * (2 : Nat)
 + (0 : Nat)) / (256 : Int) % (256 : Int)), Value.int IntKind.u8 (intAt xs (i * (2 : Nat) + (0 : Nat)) / (65536 : Int) % (256 : Int)), Value.int IntKind.u8 (intAt xs (i * (2 : Nat) + (0 : Nat)) / (16777216 : Int) % (256 :
 Int))]) = m + (4 : Nat), (m + (4 : Nat) + (4 : Nat)) * (1 : Nat) ≤ (140737488355328 : Nat) ∧ m + (4 : Nat) + (4 : Nat) ≤ (9223372036854775807 : Nat), (4 : Nat) ≤ (4 : Nat), true = true, rg IntKind.i64 (↑(i + (1 : Nat)) :
 Int)]) := by kernel_rfl
theorem wd_bada0 (inr : Bool) (xs : List Value) (n c i : Nat) : prjZ [2, 3] (codeZ (wrV noL) Try.prog (runZ (wrV noL) Try.prog 5) 29 inr 100000 (wdB Try.prog) (SL 62 (wdS n c i (.slice none 0 0))) [(0, ⟨.old, xs⟩)] 1 [true, true]) =
  Res.ok ((Xt.ret, (62 : Nat), [((2 : Nat), Value.slice none (0 : Nat) (0 : Nat)), ((3 : Nat), Value.int IntKind.i64 (5 : Int))], [((0 : Nat), Rw.mk Kd.old xs)], (1 : Nat), [], []), [], [decide ((↑i : Int) < (↑n : Int)) =
 true, (0 : Int) ≤ (↑i : Int) ∧ (↑i : Int) < (↑n : Int), xs[i * (2 : Nat) + (0 : Nat)]? = some (Value.int IntKind.i64 (intAt xs (i * (2 : Nat) + (0 : Nat)))), decide (intAt xs (i * (2 : Nat) + (0 : Nat)) < (0 : Int)) =
 true]) := by kernel_rfl
theorem wd_bada1 (inr : Bool) (xs ys : List Value) (n c i m : Nat) : prjZ [2, 3] (codeZ (wrV noL) Try.prog (runZ (wrV noL) Try.prog 5) 29 inr 100000 (wdB Try.prog) (SL 62 (wdS n c i (.slice (some ⟨1, 0, none⟩) m (capBig + 1)))) [(0, ⟨.old, xs⟩), (1, byRow ys)] 2 [true, true]) =
  Res.ok ((Xt.ret, (62 : Nat), [((2 : Nat), Value.slice none (0 : Nat) (0 : Nat)), ((3 : Nat), Value.int IntKind.i64 (5 : Int))], [((0 : Nat), Rw.mk Kd.old xs), ((1 : Nat), Rw.mk (Kd.room (1 : Nat) [Value.int IntKind.u8 (0
 : Int)]) ys)], (2 : Nat), [], []), [], [decide ((↑i : Int) < (↑n : Int)) = true, (0 : Int) ≤ (↑i : Int) ∧ (↑i : Int) < (↑n : Int), xs[i * (2 : Nat) + (0 : Nat)]? = some (Value.int IntKind.i64 (intAt xs (i * (2 : Nat) + (0
 : Nat)))), decide (intAt xs (i * (2 : Nat) + (0 : Nat)) < (0 : Int)) = true]) := by kernel_rfl
theorem wd_badb0 (inr : Bool) (xs : List Value) (n c i : Nat) : prjZ [2, 3] (codeZ (wrV noL) Try.prog (runZ (wrV noL) Try.prog 5) 29 inr 100000 (wdB Try.prog) (SL 62 (wdS n c i (.slice none 0 0))) [(0, ⟨.old, xs⟩)] 1 [true, false, true]) =
  Res.ok ((Xt.ret, (62 : Nat), [((2 : Nat), Value.slice none (0 : Nat) (0 : Nat)), ((3 : Nat), Value.int IntKind.i64 (5 : Int))], [((0 : Nat), Rw.mk Kd.old xs)], (1 : Nat), [], []), [], [decide ((↑i : Int) < (↑n : Int)) =
 true, (0 : Int) ≤ (↑i : Int) ∧ (↑i : Int) < (↑n : Int), xs[i * (2 : Nat) + (0 : Nat)]? = some (Value.int IntKind.i64 (intAt xs (i * (2 : Nat) + (0 : Nat)))), decide (intAt xs (i * (2 : Nat) + (0 : Nat)) < (0 : Int)) =
 false, (0 : Int) ≤ (↑i : Int) ∧ (↑i : Int) < (↑n : Int), xs[i * (2 : Nat) + (0 : Nat)]? = some (Value.int IntKind.i64 (intAt xs (i * (2 : Nat) + (0 : Nat)))), decide (intAt xs (i * (2 : Nat) + (0 : Nat)) > (2147483647 :
 Int)) = true]) := by kernel_rfl
theorem wd_badb1 (inr : Bool) (xs ys : List Value) (n c i m : Nat) : prjZ [2, 3] (codeZ (wrV noL) Try.prog (runZ (wrV noL) Try.prog 5) 29 inr 100000 (wdB Try.prog) (SL 62 (wdS n c i (.slice (some ⟨1, 0, none⟩) m (capBig + 1)))) [(0, ⟨.old, xs⟩), (1, byRow ys)] 2 [true, false, true]) =
  Res.ok ((Xt.ret, (62 : Nat), [((2 : Nat), Value.slice none (0 : Nat) (0 : Nat)), ((3 : Nat), Value.int IntKind.i64 (5 : Int))], [((0 : Nat), Rw.mk Kd.old xs), ((1 : Nat), Rw.mk (Kd.room (1 : Nat) [Value.int IntKind.u8 (0
 : Int)]) ys)], (2 : Nat), [], []), [], [decide ((↑i : Int) < (↑n : Int)) = true, (0 : Int) ≤ (↑i : Int) ∧ (↑i : Int) < (↑n : Int), xs[i * (2 : Nat) + (0 : Nat)]? = some (Value.int IntKind.i64 (intAt xs (i * (2 : Nat) + (0
 : Nat)))), decide (intAt xs (i * (2 : Nat) + (0 : Nat)) < (0 : Int)) = false, (0 : Int) ≤ (↑i : Int) ∧ (↑i : Int) < (↑n : Int), xs[i * (2 : Nat) + (0 : Nat)]? = some (Value.int IntKind.i64 (intAt xs (i * (2 : Nat) + (0 :
 Nat)))), decide (intAt xs (i * (2 : Nat) + (0 : Nat)) > (2147483647 : Int)) = true]) := by kernel_rfl
theorem wd_badc0 (inr : Bool) (xs : List Value) (n c i : Nat) : prjZ [2, 3] (codeZ (wrV noL) Try.prog (runZ (wrV noL) Try.prog 5) 29 inr 100000 (wdB Try.prog) (SL 62 (wdS n c i (.slice none 0 0))) [(0, ⟨.old, xs⟩)] 1 [true, false, false, true]) =
  Res.ok ((Xt.ret, (62 : Nat), [((2 : Nat), Value.slice none (0 : Nat) (0 : Nat)), ((3 : Nat), Value.int IntKind.i64 (5 : Int))], [((0 : Nat), Rw.mk Kd.old xs)], (1 : Nat), [], []), [], [decide ((↑i : Int) < (↑n : Int)) =
 true, (0 : Int) ≤ (↑i : Int) ∧ (↑i : Int) < (↑n : Int), xs[i * (2 : Nat) + (0 : Nat)]? = some (Value.int IntKind.i64 (intAt xs (i * (2 : Nat) + (0 : Nat)))), decide (intAt xs (i * (2 : Nat) + (0 : Nat)) < (0 : Int)) =
 false, (0 : Int) ≤ (↑i : Int) ∧ (↑i : Int) < (↑n : Int), xs[i * (2 : Nat) + (0 : Nat)]? = some (Value.int IntKind.i64 (intAt xs (i * (2 : Nat) + (0 : Nat)))), decide (intAt xs (i * (2 : Nat) + (0 : Nat)) > (2147483647 :
 Int)) = false, (0 : Int) ≤ (↑i : Int) ∧ (↑i : Int) < (↑n : Int), xs[i * (2 : Nat) + (1 : Nat)]? = some (Value.int IntKind.i64 (intAt xs (i * (2 : Nat) + (1 : Nat)))), decide (intAt xs (i * (2 : Nat) + (1 : Nat)) < (0 :
 Int)) = true]) := by kernel_rfl
theorem wd_badc1 (inr : Bool) (xs ys : List Value) (n c i m : Nat) : prjZ [2, 3] (codeZ (wrV noL) Try.prog (runZ (wrV noL) Try.prog 5) 29 inr 100000 (wdB Try.prog) (SL 62 (wdS n c i (.slice (some ⟨1, 0, none⟩) m (capBig + 1)))) [(0, ⟨.old, xs⟩), (1, byRow ys)] 2 [true, false, false, true]) =
  Res.ok ((Xt.ret, (62 : Nat), [((2 : Nat), Value.slice none (0 : Nat) (0 : Nat)), ((3 : Nat), Value.int IntKind.i64 (5 : Int))], [((0 : Nat), Rw.mk Kd.old xs), ((1 : Nat), Rw.mk (Kd.room (1 : Nat) [Value.int IntKind.u8 (0
 : Int)]) ys)], (2 : Nat), [], []), [], [decide ((↑i : Int) < (↑n : Int)) = true, (0 : Int) ≤ (↑i : Int) ∧ (↑i : Int) < (↑n : Int), xs[i * (2 : Nat) + (0 : Nat)]? = some (Value.int IntKind.i64 (intAt xs (i * (2 : Nat) + (0
 : Nat)))), decide (intAt xs (i * (2 : Nat) + (0 : Nat)) < (0 : Int)) = false, (0 : Int) ≤ (↑i : Int) ∧ (↑i : Int) < (↑n : Int), xs[i * (2 : Nat) + (0 : Nat)]? = some (Value.int IntKind.i64 (intAt xs (i * (2 : Nat) + (0 :
 Nat)))), decide (intAt xs (i * (2 : Nat) + (0 : Nat)) > (2147483647 : Int)) = false, (0 : Int) ≤ (↑i : Int) ∧ (↑i : Int) < (↑n : Int), xs[i * (2 : Nat) + (1 : Nat)]? = some (Value.int IntKind.i64 (intAt xs (i * (2 : Nat)
 + (1 : Nat)))), decide (intAt xs (i * (2 : Nat) + (1 : Nat)) < (0 : Int)) = true]) := by kernel_rfl
theorem wd_badd0 (inr : Bool) (xs : List Value) (n c i : Nat) : prjZ [2, 3] (codeZ (wrV noL) Try.prog (runZ (wrV noL) Try.prog 5) 29 inr 100000 (wdB Try.prog) (SL 62 (wdS n c i (.slice none 0 0))) [(0, ⟨.old, xs⟩)] 1 [true, false, false, false, true]) =
  Res.ok ((Xt.ret, (62 : Nat), [((2 : Nat), Value.slice none (0 : Nat) (0 : Nat)), ((3 : Nat), Value.int IntKind.i64 (5 : Int))], [((0 : Nat), Rw.mk Kd.old xs)], (1 : Nat), [], []), [], [decide ((↑i : Int) < (↑n : Int)) =
 true, (0 : Int) ≤ (↑i : Int) ∧ (↑i : Int) < (↑n : Int), xs[i * (2 : Nat) + (0 : Nat)]? = some (Value.int IntKind.i64 (intAt xs (i * (2 : Nat) + (0 : Nat)))), decide (intAt xs (i * (2 : Nat) + (0 : Nat)) < (0 : Int)) =
 false, (0 : Int) ≤ (↑i : Int) ∧ (↑i : Int) < (↑n : Int), xs[i * (2 : Nat) + (0 : Nat)]? = some (Value.int IntKind.i64 (intAt xs (i * (2 : Nat) + (0 : Nat)))), decide (intAt xs (i * (2 : Nat) + (0 : Nat)) > (2147483647 :
 Int)) = false, (0 : Int) ≤ (↑i : Int) ∧ (↑i : Int) < (↑n : Int), xs[i * (2 : Nat) + (1 : Nat)]? = some (Value.int IntKind.i64 (intAt xs (i * (2 : Nat) + (1 : Nat)))), decide (intAt xs (i * (2 : Nat) + (1 : Nat)) < (0 :
 Int)) = false, (0 : Int) ≤ (↑i : Int) ∧ (↑i : Int) < (↑n : Int), xs[i * (2 : Nat) + (1 : Nat)]? = some (Value.int IntKind.i64 (intAt xs (i * (2 : Nat) + (1 : Nat)))), decide (intAt xs (i * (2 : Nat) + (1 : Nat)) >
 (2147483647 : Int)) = true]) := by kernel_rfl
theorem wd_badd1 (inr : Bool) (xs ys : List Value) (n c i m : Nat) : prjZ [2, 3] (codeZ (wrV noL) Try.prog (runZ (wrV noL) Try.prog 5) 29 inr 100000 (wdB Try.prog) (SL 62 (wdS n c i (.slice (some ⟨1, 0, none⟩) m (capBig + 1)))) [(0, ⟨.old, xs⟩), (1, byRow ys)] 2 [true, false, false, false, true]) =
  Res.ok ((Xt.ret, (62 : Nat), [((2 : Nat), Value.slice none (0 : Nat) (0 : Nat)), ((3 : Nat), Value.int IntKind.i64 (5 : Int))], [((0 : Nat), Rw.mk Kd.old xs), ((1 : Nat), Rw.mk (Kd.room (1 : Nat) [Value.int IntKind.u8 (0
 : Int)]) ys)], (2 : Nat), [], []), [], [decide ((↑i : Int) < (↑n : Int)) = true, (0 : Int) ≤ (↑i : Int) ∧ (↑i : Int) < (↑n : Int), xs[i * (2 : Nat) + (0 : Nat)]? = some (Value.int IntKind.i64 (intAt xs (i * (2 : Nat) + (0
 : Nat)))), decide (intAt xs (i * (2 : Nat) + (0 : Nat)) < (0 : Int)) = false, (0 : Int) ≤ (↑i : Int) ∧ (↑i : Int) < (↑n : Int), xs[i * (2 : Nat) + (0 : Nat)]? = some (Value.int IntKind.i64 (intAt xs (i * (2 : Nat) + (0 :
 Nat)))), decide (intAt xs (i * (2 : Nat) + (0 : Nat)) > (2147483647 : Int)) = false, (0 : Int) ≤ (↑i : Int) ∧ (↑i : Int) < (↑n : Int), xs[i * (2 : Nat) + (1 : Nat)]? = some (Value.int IntKind.i64 (intAt xs (i * (2 : Nat)
 + (1 : Nat)))), decide (intAt xs (i * (2 : Nat) + (1 : Nat)) < (0 : Int)) = false, (0 : Int) ≤ (↑i : Int) ∧ (↑i : Int) < (↑n : Int), xs[i * (2 : Nat) + (1 : Nat)]? = some (Value.int IntKind.i64 (intAt xs (i * (2 : Nat) +
 (1 : Nat)))), decide (intAt xs (i * (2 : Nat) + (1 : Nat)) > (2147483647 : Int)) = true]) := by kernel_rfl
theorem wd_done0 (inr : Bool) (xs : List Value) (n c i : Nat) : prjZ [4] (codeZ (wrV noL) Try.prog (runZ (wrV noL) Try.prog 5) 29 inr 100000 (wdB Try.prog) (SL 62 (wdS n c i (.slice none 0 0))) [(0, ⟨.old, xs⟩)] 1 [false]) =
  Res.ok ((Xt.exit (0 : Nat), (62 : Nat), [((4 : Nat), Value.slice none (0 : Nat) (0 : Nat))], [((0 : Nat), Rw.mk Kd.old xs)], (1 : Nat), [], []), [], [decide ((↑i : Int) < (↑n : Int)) = false]) := by kernel_rfl
theorem wd_done1 (inr : Bool) (xs ys : List Value) (n c i m : Nat) : prjZ [4] (codeZ (wrV noL) Try.prog (runZ (wrV noL) Try.prog 5) 29 inr 100000 (wdB Try.prog) (SL 62 (wdS n c i (.slice (some ⟨1, 0, none⟩) m (capBig + 1)))) [(0, ⟨.old, xs⟩), (1, byRow ys)] 2 [false]) =
  Res.ok ((Xt.exit (0 : Nat), (62 : Nat), [((4 : Nat), Value.slice (some (Addr.mk (1 : Nat) (0 : Nat) none)) m (capBig + (1 : Nat)))], [((0 : Nat), Rw.mk Kd.old xs), ((1 : Nat), Rw.mk (Kd.room (1 : Nat) [Value.int
 IntKind.u8 (0 : Int)]) ys)], (2 : Nat), [], []), [], [decide ((↑i : Int) < (↑n : Int)) = false]) := by kernel_rfl
def wrSpec (S : Nat → Nat → List (Nat × Value)) : LSpec := lspec (fun live h => match live, h with | [(_, .slice _ n c), _, _], [(_, r)] => some (n, c, r.cs) | [_, (_, .slice _ n c), _, _], [(_, r)] => some (n, c, r.cs) | _, _ => none) (fun a => (S a.1 a.2.1, [(0, ⟨.old, a.2.2⟩)], 1))
  (fun a tp => match tp with
    | true :: tp' => some ((.exit 0, [(4, .slice none 0 0)], [(0, ⟨.old, a.2.2⟩)], 9, []), tp', [a.1 = 0, Ints .i64 a.2.2, a.2.2.length = a.1 * 2, a.1 ≤ a.2.1 ∧ a.2.1 ≤ 9223372036854775807])
    | false :: true :: tp' => some ((.exit 0, [(4, .slice (some ⟨1, 0, none⟩) (a.1 * 8) (capBig + 1))], [(0, ⟨.old, a.2.2⟩), (1, byRow (wrL a.2.2 0 a.1))], 9, []), tp', [decide (a.1 = 0) = false, Ints .i64 a.2.2, a.2.2.length = a.1 * 2, a.1 ≤ a.2.1 ∧ a.2.1 ≤ 9223372036854775807, a.1 ≤ 128, wrOk a.2.2 0 a.1 = true])
    | false :: false :: tp' => some ((.ret, [(2, .slice none 0 0), (3, .int .i64 5)], [(0, ⟨.old, a.2.2⟩)], 9, []), tp', [decide (a.1 = 0) = false, Ints .i64 a.2.2, a.2.2.length = a.1 * 2, a.1 ≤ a.2.1 ∧ a.2.1 ≤ 9223372036854775807, a.1 ≤ 128, wrOk a.2.2 0 a.1 = false])
    | _ => none)
def sWr : Spec1 := fun xs n tp => match tp with
  | true :: tp' => some (⟨fun _ => .tuple ⟨[.slice none 0 0, .int .i64 3]⟩, []⟩, tp', [Ints .i64 xs, decide (n ≤ 128) = false])
  | false :: true :: tp' => some (⟨fun _ => .tuple ⟨[.slice none 0 0, .int .i64 0]⟩, []⟩, tp', [Ints .i64 xs, n = 0])
  | false :: false :: false :: tp' => some (⟨fun _ => .tuple ⟨[.slice none 0 0, .int .i64 5]⟩, []⟩, tp', [Ints .i64 xs, decide (n = 0) = false, decide (n ≤ 128) = true, wrOk xs 0 n = false])
  | false :: false :: true :: tp' => some (⟨fun nx => .tuple ⟨[.slice (some ⟨nx, 0, none⟩) (n * 8) (capBig + nx), .int .i64 0]⟩, [byRow (wrL xs 0 n)]⟩, tp', [Ints .i64 xs, decide (n = 0) = false, decide (n ≤ 128) = true, wrOk xs 0 n = true])
  | _ => none
def wrLw (P : Program) : LFun := orL (mkL 28 5 49 [4, 12, 13, 14] (wrB P) (wrSpec fun n c => wrS n c 0 (.slice none 0 0))) (mkL 29 5 62 [0, 4, 5] (wdB P) (wrSpec fun n c => wdS n c 0 (.slice none 0 0)))
theorem wr_long (xs : List Value) (n c : Nat) : runZ (wrV (wrLw Try.prog)) Try.prog 5 28 [.slice (some ⟨0, 0, none⟩) n c] [(0, ⟨.old, xs⟩)] 1 [true] =
  Res.ok ((Value.tuple (Array.mk [Value.slice none (0 : Nat) (0 : Nat), Value.int IntKind.i64 (3 : Int)]), [((0 : Nat), Rw.mk Kd.old xs)], (1 : Nat), []), [], [decide ((↑n : Int) > (128 : Int)) = true]) := by kernel_rfl
theorem wr_nil (xs : List Value) (n c : Nat) : runZ (wrV (wrLw Try.prog)) Try.prog 5 28 [.slice (some ⟨0, 0, none⟩) n c] [(0, ⟨.old, xs⟩)] 1 [false, true] =
  Res.ok ((Value.tuple (Array.mk [Value.slice none (0 : Nat) (0 : Nat), Value.int IntKind.i64 (0 : Int)]), [((0 : Nat), Rw.mk Kd.old xs)], (9 : Nat), []), [], [decide ((↑n : Int) > (128 : Int)) = false, wrB Try.prog = wrB
 Try.prog, [((4 : Nat), Value.slice none (0 : Nat) (0 : Nat)), ((12 : Nat), Value.slice (some (Addr.mk (0 : Nat) (0 : Nat) none)) n c), ((13 : Nat), Value.int IntKind.i64 (↑n : Int)), ((14 : Nat), Value.int IntKind.i64 (0
 : Int))] = wrS n c (0 : Nat) (Value.slice none (0 : Nat) (0 : Nat)), [((0 : Nat), Rw.mk Kd.old xs)] = [((0 : Nat), Rw.mk Kd.old xs)], (1 : Nat) = (1 : Nat), n = (0 : Nat), Ints IntKind.i64 xs, List.length xs = n * (2 :
 Nat), n ≤ c ∧ c ≤ (9223372036854775807 : Nat)]) := by kernel_rfl
theorem wr_not (xs : List Value) (n c : Nat) : runZ (wrV (wrLw Try.prog)) Try.prog 5 28 [.slice (some ⟨0, 0, none⟩) n c] [(0, ⟨.old, xs⟩)] 1 [false, false, false] =
  Res.ok ((Value.tuple (Array.mk [Value.slice none (0 : Nat) (0 : Nat), Value.int IntKind.i64 (5 : Int)]), [((0 : Nat), Rw.mk Kd.old xs)], (9 : Nat), []), [], [decide ((↑n : Int) > (128 : Int)) = false, wrB Try.prog = wrB
 Try.prog, [((4 : Nat), Value.slice none (0 : Nat) (0 : Nat)), ((12 : Nat), Value.slice (some (Addr.mk (0 : Nat) (0 : Nat) none)) n c), ((13 : Nat), Value.int IntKind.i64 (↑n : Int)), ((14 : Nat), Value.int IntKind.i64 (0
 : Int))] = wrS n c (0 : Nat) (Value.slice none (0 : Nat) (0 : Nat)), [((0 : Nat), Rw.mk Kd.old xs)] = [((0 : Nat), Rw.mk Kd.old xs)], (1 : Nat) = (1 : Nat), decide (n = (0 : Nat)) = false, Ints IntKind.i64 xs, List.length
 xs = n * (2 : Nat), n ≤ c ∧ c ≤ (9223372036854775807 : Nat), n ≤ (128 : Nat), wrOk xs (0 : Nat) n = false]) := by kernel_rfl
theorem wr_ok (xs : List Value) (n c : Nat) : runZ (wrV (wrLw Try.prog)) Try.prog 5 28 [.slice (some ⟨0, 0, none⟩) n c] [(0, ⟨.old, xs⟩)] 1 [false, false, true] =
  Res.ok ((Value.tuple (Array.mk [Value.slice (some (Addr.mk (1 : Nat) (0 : Nat) none)) (n * (8 : Nat)) (capBig + (1 : Nat)), Value.int IntKind.i64 (0 : Int)]), [((0 : Nat), Rw.mk Kd.old xs), ((1 : Nat), Rw.mk (Kd.room (1 :
 Nat) [Value.int IntKind.u8 (0 : Int)]) (wrL xs (0 : Nat) n))], (9 : Nat), []), [], [decide ((↑n : Int) > (128 : Int)) = false, wrB Try.prog = wrB Try.prog, [((4 : Nat), Value.slice none (0 : Nat) (0 : Nat)), ((12 : Nat),
 Value.slice (some (Addr.mk (0 : Nat) (0 : Nat) none)) n c), ((13 : Nat), Value.int IntKind.i64 (↑n : Int)), ((14 : Nat), Value.int IntKind.i64 (0 : Int))] = wrS n c (0 : Nat) (Value.slice none (0 : Nat) (0 : Nat)), [((0 :
 Nat), Rw.mk Kd.old xs)] = [((0 : Nat), Rw.mk Kd.old xs)], (1 : Nat) = (1 : Nat), decide (n = (0 : Nat)) = false, Ints IntKind.i64 xs, List.length xs = n * (2 : Nat), n ≤ c ∧ c ≤ (9223372036854775807 : Nat), n ≤ (128 :
 Nat), wrOk xs (0 : Nat) n = true]) := by kernel_rfl
theorem wr_n  : runZ (wrV noL) Try.prog 5 28 [.slice none 0 0] [] 1 [false, false] =
  Res.ok ((Value.tuple (Array.mk [Value.slice none (0 : Nat) (0 : Nat), Value.int IntKind.i64 (0 : Int)]), [], (1 : Nat), []), [], [false = false, false = false]) := by kernel_rfl
theorem wd_long (xs : List Value) (n c : Nat) : runZ (wrV (wrLw Try.prog)) Try.prog 5 29 [.slice (some ⟨0, 0, none⟩) n c] [(0, ⟨.old, xs⟩)] 1 [true] =
  Res.ok ((Value.tuple (Array.mk [Value.slice none (0 : Nat) (0 : Nat), Value.int IntKind.i64 (3 : Int)]), [((0 : Nat), Rw.mk Kd.old xs)], (1 : Nat), []), [], [decide ((↑n : Int) > (128 : Int)) = true]) := by kernel_rfl
theorem wd_nil (xs : List Value) (n c : Nat) : runZ (wrV (wrLw Try.prog)) Try.prog 5 29 [.slice (some ⟨0, 0, none⟩) n c] [(0, ⟨.old, xs⟩)] 1 [false, true] =
  Res.ok ((Value.tuple (Array.mk [Value.slice none (0 : Nat) (0 : Nat), Value.int IntKind.i64 (0 : Int)]), [((0 : Nat), Rw.mk Kd.old xs)], (9 : Nat), []), [], [decide ((↑n : Int) > (128 : Int)) = false, wdB Try.prog = wdB
 Try.prog, [((0 : Nat), Value.slice (some (Addr.mk (0 : Nat) (0 : Nat) none)) n c), ((4 : Nat), Value.slice none (0 : Nat) (0 : Nat)), ((5 : Nat), Value.int IntKind.i64 (0 : Int))] = wdS n c (0 : Nat) (Value.slice none (0
 : Nat) (0 : Nat)), [((0 : Nat), Rw.mk Kd.old xs)] = [((0 : Nat), Rw.mk Kd.old xs)], (1 : Nat) = (1 : Nat), n = (0 : Nat), Ints IntKind.i64 xs, List.length xs = n * (2 : Nat), n ≤ c ∧ c ≤ (9223372036854775807 : Nat)]) := by kernel_rfl
theorem wd_not (xs : List Value) (n c : Nat) : runZ (wrV (wrLw Try.prog)) Try.prog 5 29 [.slice (some ⟨0, 0, none⟩) n c] [(0, ⟨.old, xs⟩)] 1 [false, false, false] =
  Res.ok ((Value.tuple (Array.mk [Value.slice none (0 : Nat) (0 : Nat), Value.int IntKind.i64 (5 : Int)]), [((0 : Nat), Rw.mk Kd.old xs)], (9 : Nat), []), [], [decide ((↑n : Int) > (128 : Int)) = false, wdB Try.prog = wdB
 Try.prog, [((0 : Nat), Value.slice (some (Addr.mk (0 : Nat) (0 : Nat) none)) n c), ((4 : Nat), Value.slice none (0 : Nat) (0 : Nat)), ((5 : Nat), Value.int IntKind.i64 (0 : Int))] = wdS n c (0 : Nat) (Value.slice none (0
 : Nat) (0 : Nat)), [((0 : Nat), Rw.mk Kd.old xs)] = [((0 : Nat), Rw.mk Kd.old xs)], (1 : Nat) = (1 : Nat), decide (n = (0 : Nat)) = false, Ints IntKind.i64 xs, List.length xs = n * (2 : Nat), n ≤ c ∧ c ≤
 (9223372036854775807 : Nat), n ≤ (128 : Nat), wrOk xs (0 : Nat) n = false]) := by kernel_rfl
theorem wd_ok (xs : List Value) (n c : Nat) : runZ (wrV (wrLw Try.prog)) Try.prog 5 29 [.slice (some ⟨0, 0, none⟩) n c] [(0, ⟨.old, xs⟩)] 1 [false, false, true] =
  Res.ok ((Value.tuple (Array.mk [Value.slice (some (Addr.mk (1 : Nat) (0 : Nat) none)) (n * (8 : Nat)) (capBig + (1 : Nat)), Value.int IntKind.i64 (0 : Int)]), [((0 : Nat), Rw.mk Kd.old xs), ((1 : Nat), Rw.mk (Kd.room (1 :
 Nat) [Value.int IntKind.u8 (0 : Int)]) (wrL xs (0 : Nat) n))], (9 : Nat), []), [], [decide ((↑n : Int) > (128 : Int)) = false, wdB Try.prog = wdB Try.prog, [((0 : Nat), Value.slice (some (Addr.mk (0 : Nat) (0 : Nat)
 none)) n c), ((4 : Nat), Value.slice none (0 : Nat) (0 : Nat)), ((5 : Nat), Value.int IntKind.i64 (0 : Int))] = wdS n c (0 : Nat) (Value.slice none (0 : Nat) (0 : Nat)), [((0 : Nat), Rw.mk Kd.old xs)] = [((0 : Nat), Rw.mk
 Kd.old xs)], (1 : Nat) = (1 : Nat), decide (n = (0 : Nat)) = false, Ints IntKind.i64 xs, List.length xs = n * (2 : Nat), n ≤ c ∧ c ≤ (9223372036854775807 : Nat), n ≤ (128 : Nat), wrOk xs (0 : Nat) n = true]) := by kernel_rfl
theorem wd_n  : runZ (wrV noL) Try.prog 5 29 [.slice none 0 0] [] 1 [false, false] =
  Res.ok ((Value.tuple (Array.mk [Value.slice none (0 : Nat) (0 : Nat), Value.int IntKind.i64 (0 : Int)]), [], (1 : Nat), []), [], [false = false, false = false]) := by kernel_rfl
/-! ### lists of results that are the same -/
def sEq : Spec2 := fun xs n ys m tp => some (⟨fun _ => .bool true, []⟩, tp, [Ints .i64 xs, ys = xs, m = n])
def eeB (P : Program) : Code := bodyIn P 22 4
def eeS (n c d i : Nat) : List (Nat × Value) := [(0, .slice (some ⟨0, 0, none⟩) n c), (1, .slice (some ⟨1, 0, none⟩) n d), (5, .int .i64 (i : Int))]
theorem qe_more (inr : Bool) (xs : List Value) (n c d i : Nat) : prjZ [0, 1, 5] (codeZ (rsV noL) Try.prog (runZ (rsV noL) Try.prog 5) 22 inr 100000 (eeB Try.prog) (SL 26 (eeS n c d i)) [(0, ⟨.old, xs⟩), (1, ⟨.old, xs⟩)] 2 [true, false]) =
  Res.ok ((Xt.normal, (26 : Nat), [((0 : Nat), Value.slice (some (Addr.mk (0 : Nat) (0 : Nat) none)) n c), ((1 : Nat), Value.slice (some (Addr.mk (1 : Nat) (0 : Nat) none)) n d), ((5 : Nat), Value.int IntKind.i64 (↑(i + (1
 : Nat)) : Int))], [((0 : Nat), Rw.mk Kd.old xs), ((1 : Nat), Rw.mk Kd.old xs)], (2 : Nat), [], []), [], [decide ((↑i : Int) < (↑n : Int)) = true, (0 : Int) ≤ (↑i : Int) ∧ (↑i : Int) < (↑n : Int), List.take (2 : Nat)
 (List.drop (i * (2 : Nat)) xs) = [Value.int IntKind.i64 (intAt xs (i * (2 : Nat))), Value.int IntKind.i64 (intAt xs (i * (2 : Nat) + (1 : Nat)))], (0 : Int) ≤ (↑i : Int) ∧ (↑i : Int) < (↑n : Int), List.take (2 : Nat)
 (List.drop (i * (2 : Nat)) xs) = [Value.int IntKind.i64 (intAt xs (i * (2 : Nat))), Value.int IntKind.i64 (intAt xs (i * (2 : Nat) + (1 : Nat)))], (!(intAt xs (i * (2 : Nat)) == intAt xs (i * (2 : Nat)) && (intAt xs (i *
 (2 : Nat) + (1 : Nat)) == intAt xs (i * (2 : Nat) + (1 : Nat)) && true))) = false, rg IntKind.i64 (↑(i + (1 : Nat)) : Int)]) := by kernel_rfl
theorem qe_done (inr : Bool) (xs : List Value) (n c d i : Nat) : prjZ [0] (codeZ (rsV noL) Try.prog (runZ (rsV noL) Try.prog 5) 22 inr 100000 (eeB Try.prog) (SL 26 (eeS n c d i)) [(0, ⟨.old, xs⟩), (1, ⟨.old, xs⟩)] 2 [false]) =
  Res.ok ((Xt.exit (0 : Nat), (26 : Nat), [((0 : Nat), Value.slice (some (Addr.mk (0 : Nat) (0 : Nat) none)) n c)], [((0 : Nat), Rw.mk Kd.old xs), ((1 : Nat), Rw.mk Kd.old xs)], (2 : Nat), [], []), [], [decide ((↑i : Int) <
 (↑n : Int)) = false]) := by kernel_rfl
def eeSpec : LSpec := lspec (fun live h => match live, h with | [(_, .slice _ n c), (_, .slice _ _ d), _], [(_, r), _] => some (n, c, d, r.cs) | _, _ => none) (fun a => (eeS a.1 a.2.1 a.2.2.1 0, [(0, ⟨.old, a.2.2.2⟩), (1, ⟨.old, a.2.2.2⟩)], 2))
  (fun a tp => some ((.exit 0, [], [(0, ⟨.old, a.2.2.2⟩), (1, ⟨.old, a.2.2.2⟩)], 2, []), tp, [Ints .i64 a.2.2.2, a.2.2.2.length = a.1 * 2, a.1 ≤ a.2.1 ∧ a.2.1 ≤ 9223372036854775807, a.1 ≤ a.2.2.1 ∧ a.2.2.1 ≤ 9223372036854775807]))
def eeL (P : Program) : LFun := mkL 22 4 26 [0, 1, 5] (eeB P) eeSpec
theorem qe_ss (xs : List Value) (n c d : Nat) : runZ (rsV (eeL Try.prog)) Try.prog 5 22 [.slice (some ⟨0, 0, none⟩) n c, .slice (some ⟨1, 0, none⟩) n d] [(0, ⟨.old, xs⟩), (1, ⟨.old, xs⟩)] 2 [false] =
  Res.ok ((Value.bool true, [((0 : Nat), Rw.mk Kd.old xs), ((1 : Nat), Rw.mk Kd.old xs)], (2 : Nat), []), [], [((↑n : Int) != (↑n : Int)) = false, eeB Try.prog = eeB Try.prog, [((0 : Nat), Value.slice (some (Addr.mk (0 :
 Nat) (0 : Nat) none)) n c), ((1 : Nat), Value.slice (some (Addr.mk (1 : Nat) (0 : Nat) none)) n d), ((5 : Nat), Value.int IntKind.i64 (0 : Int))] = eeS n c d (0 : Nat), [((0 : Nat), Rw.mk Kd.old xs), ((1 : Nat), Rw.mk
 Kd.old xs)] = [((0 : Nat), Rw.mk Kd.old xs), ((1 : Nat), Rw.mk Kd.old xs)], (2 : Nat) = (2 : Nat), Ints IntKind.i64 xs, List.length xs = n * (2 : Nat), n ≤ c ∧ c ≤ (9223372036854775807 : Nat), n ≤ d ∧ d ≤
 (9223372036854775807 : Nat)]) := by kernel_rfl
theorem qe_nn  : runZ (rsV noL) Try.prog 5 22 [.slice none 0 0, .slice none 0 0] [] 2 [false, false] =
  Res.ok ((Value.bool true, [], (2 : Nat), []), [], [false = false, false = false]) := by kernel_rfl
theorem qe_sn (xs : List Value) (c : Nat) : runZ (rsV noL) Try.prog 5 22 [.slice (some ⟨0, 0, none⟩) 0 c, .slice none 0 0] [(0, ⟨.old, xs⟩)] 2 [false, false] =
  Res.ok ((Value.bool true, [((0 : Nat), Rw.mk Kd.old xs)], (2 : Nat), []), [], [false = false, false = false]) := by kernel_rfl
theorem qe_ns (ys : List Value) (d : Nat) : runZ (rsV noL) Try.prog 5 22 [.slice none 0 0, .slice (some ⟨1, 0, none⟩) 0 d] [(1, ⟨.old, ys⟩)] 2 [false, false] =
  Res.ok ((Value.bool true, [((1 : Nat), Rw.mk Kd.old ys)], (2 : Nat), []), [], [false = false, false = false]) := by kernel_rfl
theorem qa_r  : runZ noTv Try.prog 9 10 [] [] 0 [] =
  Res.ok ((Value.bool true, [], (16 : Nat), []), [], []) := by kernel_rfl
/-! ### bytes of results -/
theorem low8 (x : Int) : lowI .u8 x = x % 256 := by unfold lowI; rw [mdI_eq]; rfl
theorem sr8 (x : Int) : srI x 8 = x / 256 := by rw [srI_eq]; rfl
theorem sr16 (x : Int) : srI x 16 = x / 65536 := by rw [srI_eq]; rfl
theorem sr24 (x : Int) : srI x 24 = x / 16777216 := by rw [srI_eq]; rfl
/-- Four bytes, as they are written. -/
def b4s (x : Int) : List Value := [.int .u8 (lowI .u8 x), .int .u8 (lowI .u8 (srI x 8)), .int .u8 (lowI .u8 (srI x 16)), .int .u8 (lowI .u8 (srI x 24))]
theorem b4s_eq (x : Int) : b4s x = b4 x := by unfold b4s b4; simp only [low8, sr8, sr16, sr24]
theorem b4_Byts (x : Int) : Byts (b4 x) := by
  have : b4 x = [x % 256, x / 256 % 256, x / 65536 % 256, x / 16777216 % 256].map (Value.int .u8) := rfl
  rw [this]
  refine Byts.of fun n hn => ?_
  simp only [List.mem_cons, List.not_mem_nil, or_false] at hn
  rcases hn with rfl | rfl | rfl | rfl <;> omega
theorem four_ok : GOk Try.prog 39 [.f] gFour := by
  have hX : XOkZ foV Try.prog := noXz_ok rfl
  have hT : TOkZ foV Try.prog := noTz_okV rfl
  have hL : LOkZ foV Try.prog := noL_okV rfl
  intro av tp gr tp' ob hG ho hP caps hcap
  obtain ⟨a, rfl, pa⟩ := avps1 hP
  obtain ⟨c, rfl⟩ := caps1 hcap
  unfold gFour at hG
  split at hG
  case h_2 => cases hG
  rename_i n e
  simp only [List.cons.injEq, and_true] at e
  subst e
  simp only [Option.some.injEq, Prod.mk.injEq] at hG
  obtain ⟨rfl, rfl, rfl⟩ := hG
  obtain ⟨⟨h1, h2⟩, _⟩ := ho
  refine ⟨_, _, _, _, fun _ => 1, run_tri hX hT hL (qf_r n) ?_ rfl, ?_⟩
  · simp only [Alls, rg, dvI_eq]
    repeat' (first | with_reducible exact trivial | with_reducible apply And.intro)
    all_goals first | with_reducible assumption | omega | with_reducible rfl | (skip)
  · refine ⟨fun nx => ?_, fun j r h => ?_, fun i j hi hj _ => ?_⟩
    · exact renV_slice_mk (σ := f2s nx 1 fun _ => 1) (n := nx) (o := 0) (p := (1, 0)) (by simp [f2s]) (by unfold cpR; rw [if_pos (by unfold capBig; omega)])
    · match j, h with
      | 0, h =>
        cases h
        refine ⟨fl_byts (b4_Byts _), rfl, (fun e => by cases e), ?_⟩
        have e : b4 n = [.int .u8 (lowI .u8 (mdI n 256)), .int .u8 (lowI .u8 (mdI (dvI n 256) 256)), .int .u8 (lowI .u8 (mdI (dvI n 65536) 256)), .int .u8 (lowI .u8 (dvI n 16777216))] := by
          unfold b4; simp only [low8, mdI_eq, dvI_eq]
          rw [Int.emod_emod_of_dvd _ (by decide), Int.emod_emod_of_dvd _ (by decide), Int.emod_emod_of_dvd _ (by decide)]
        rw [e]; rfl
      | j + 1, h => simp at h
    · simp only [List.length_cons, List.length_nil] at hi hj; omega
theorem foT_one : TOneZ Try.prog foT := mkT_one four_ok
theorem o2_Byts (xs : List Value) (i : Nat) : Byts (o2 xs i) := (b4_Byts _).app (b4_Byts _)
theorem wrL_Byts (xs : List Value) : ∀ k i, Byts (wrL xs i k)
  | 0, i => Byts.nil
  | k + 1, i => (o2_Byts xs i).app (wrL_Byts xs k (i + 1))
theorem wrL_len (xs : List Value) : ∀ k i, (wrL xs i k).length = k * 8
  | 0, i => rfl
  | k + 1, i => by simp only [wrL, List.length_append, wrL_len xs k]; show 8 + k * 8 = (k + 1) * 8; omega
theorem Ints.take2 {k : IntKind} {xs : List Value} (h : Ints k xs) {o : Nat} (ho : o + 2 ≤ xs.length) : (xs.drop o).take 2 = [.int k (intAt xs o), .int k (intAt xs (o + 1))] := by
  rw [drop_get (h.get (i := o) (by omega)), drop_get (h.get (i := o + 1) (by omega))]
  rfl
theorem wrG_f {xs : List Value} {i : Nat} (h : ¬ ((0 ≤ intAt xs (i * 2) ∧ intAt xs (i * 2) < 2147483648) ∧ (0 ≤ intAt xs (i * 2 + 1) ∧ intAt xs (i * 2 + 1) < 2147483648))) (k : Nat) : wrOk xs i (k + 1) = false := by
  simp only [wrOk, wrG, decide_eq_false h, cond_false]
theorem wrG_t {xs : List Value} {i : Nat} (h : (0 ≤ intAt xs (i * 2) ∧ intAt xs (i * 2) < 2147483648) ∧ (0 ≤ intAt xs (i * 2 + 1) ∧ intAt xs (i * 2 + 1) < 2147483648)) (k : Nat) : wrOk xs i (k + 1) = wrOk xs (i + 1) k := by
  simp only [wrOk, wrG, decide_eq_true h, cond_true]
theorem wr_loop1 {inr : Bool} {h0 : Hp} {xs : List Value} (hx : Ints .i64 xs) {n c : Nat} (hn : xs.length = n * 2) (hn64 : n ≤ 128) (hc : n ≤ c ∧ c ≤ 9223372036854775807) : ∀ (k i m : Nat) (ys : List Value), i + k = n → ys.length = m → m ≤ i * 8 → Fl ys →
    LRuns inr Try.prog (wrB Try.prog) 1 9 h0 49 (wrS n c i (.slice (some ⟨1, 0, none⟩) m (capBig + 1))) [(0, ⟨.old, xs⟩), (1, byRow ys)] 2
      (bif wrOk xs i k then (.exit 0, [(4, .slice (some ⟨1, 0, none⟩) (m + k * 8) (capBig + 1))], [(0, ⟨.old, xs⟩), (1, byRow (ys ++ wrL xs i k))]) else (.ret, [(2, .slice none 0 0), (3, .int .i64 5)], [(0, ⟨.old, xs⟩)]))
  | 0, i, m, ys, hk, hl, hm, hf => by
      have hX : XOkZ (wrV noL) Try.prog := noXz_ok rfl
      have hT : TOkZ (wrV noL) Try.prog := T_okV rfl foT_one
      have hL : LOkZ (wrV noL) Try.prog := noL_okV rfl
      refine LRuns.exit (code_runs hX hL (runZ_ok hX hT hL mixed 5) mixed (wr_done1 inr xs ys n c i m) ?_) (by intro e; cases e) rfl (by omega) (by omega) (fun n => n) ?_ ?_ rfl
      · simp only [Alls, decide_eq_false_iff_not]
        repeat' (first | with_reducible exact trivial | with_reducible apply And.intro)
        all_goals first | with_reducible assumption | omega | with_reducible rfl | (skip)
      · exact ⟨rfl, rb_slg rfl rfl, trivial⟩
      · exact ⟨rb_old (by omega) rfl hx.fl, rb_row (m := 1) rfl rfl rfl (by simp [wrL]) (hf.app (Fl.of rfl)), trivial⟩
  | k + 1, i, m, ys, hk, hl, hm, hf => by
      have hX : XOkZ (wrV noL) Try.prog := noXz_ok rfl
      have hT : TOkZ (wrV noL) Try.prog := T_okV rfl foT_one
      have hL : LOkZ (wrV noL) Try.prog := noL_okV rfl
      have ho3 := fl_byts (o2_Byts xs i)
      have hex : Fl (ys ++ o2 xs i) := hf.app ho3
      have g3 := hx.take2 (o := i * 2) (by omega)
      have g0 := hx.get (i := i * 2) (by omega)
      have g1 := hx.get (i := i * 2 + 1) (by omega)
      by_cases c1 : 0 ≤ intAt xs (i * 2)
      case neg =>
        rw [wrG_f (fun h => c1 h.1.1), cond_false]
        refine LRuns.exit (code_runs hX hL (runZ_ok hX hT hL mixed 5) mixed (wr_bada1 inr xs ys n c i m) ?_) (by intro e; cases e) rfl (by omega) (by omega) (fun n => n) ?_ ?_ rfl
        · simp only [Alls, decide_eq_true_eq, decide_eq_false_iff_not, rg, Nat.add_zero]
          repeat' (first | with_reducible exact trivial | with_reducible apply And.intro)
          all_goals first | with_reducible assumption | omega | with_reducible rfl | (first | exact g3 | exact g0 | exact g1 | rfl)
        · exact ⟨rfl, rfl, rfl, rfl, trivial⟩
        · exact ⟨rb_old (by omega) rfl hx.fl, trivial⟩
      by_cases c2 : intAt xs (i * 2) < 2147483648
      case neg =>
        rw [wrG_f (fun h => c2 h.1.2), cond_false]
        refine LRuns.exit (code_runs hX hL (runZ_ok hX hT hL mixed 5) mixed (wr_badb1 inr xs ys n c i m) ?_) (by intro e; cases e) rfl (by omega) (by omega) (fun n => n) ?_ ?_ rfl
        · simp only [Alls, decide_eq_true_eq, decide_eq_false_iff_not, rg, Nat.add_zero]
          repeat' (first | with_reducible exact trivial | with_reducible apply And.intro)
          all_goals first | with_reducible assumption | omega | with_reducible rfl | (first | exact g3 | exact g0 | exact g1 | rfl)
        · exact ⟨rfl, rfl, rfl, rfl, trivial⟩
        · exact ⟨rb_old (by omega) rfl hx.fl, trivial⟩
      by_cases c3 : 0 ≤ intAt xs (i * 2 + 1)
      case neg =>
        rw [wrG_f (fun h => c3 h.2.1), cond_false]
        refine LRuns.exit (code_runs hX hL (runZ_ok hX hT hL mixed 5) mixed (wr_badc1 inr xs ys n c i m) ?_) (by intro e; cases e) rfl (by omega) (by omega) (fun n => n) ?_ ?_ rfl
        · simp only [Alls, decide_eq_true_eq, decide_eq_false_iff_not, rg, Nat.add_zero]
          repeat' (first | with_reducible exact trivial | with_reducible apply And.intro)
          all_goals first | with_reducible assumption | omega | with_reducible rfl | (first | exact g3 | exact g0 | exact g1 | rfl)
        · exact ⟨rfl, rfl, rfl, rfl, trivial⟩
        · exact ⟨rb_old (by omega) rfl hx.fl, trivial⟩
      by_cases c4 : intAt xs (i * 2 + 1) < 2147483648
      case neg =>
        rw [wrG_f (fun h => c4 h.2.2), cond_false]
        refine LRuns.exit (code_runs hX hL (runZ_ok hX hT hL mixed 5) mixed (wr_badd1 inr xs ys n c i m) ?_) (by intro e; cases e) rfl (by omega) (by omega) (fun n => n) ?_ ?_ rfl
        · simp only [Alls, decide_eq_true_eq, decide_eq_false_iff_not, rg, Nat.add_zero]
          repeat' (first | with_reducible exact trivial | with_reducible apply And.intro)
          all_goals first | with_reducible assumption | omega | with_reducible rfl | (first | exact g3 | exact g0 | exact g1 | rfl)
        · exact ⟨rfl, rfl, rfl, rfl, trivial⟩
        · exact ⟨rb_old (by omega) rfl hx.fl, trivial⟩
      have nx := wr_loop1 (inr := inr) (h0 := h0) hx hn hn64 hc k (i + 1) (m + 4 + 4) (ys ++ o2 xs i) (by omega) (by rw [List.length_append, hl]; rfl) (by omega) hex
      rw [show ys ++ o2 xs i ++ wrL xs (i + 1) k = ys ++ wrL xs i (k + 1) by simp only [wrL, List.append_assoc], show m + 4 + 4 + k * 8 = m + (k + 1) * 8 by omega, ← wrG_t ⟨⟨c1, c2⟩, c3, c4⟩] at nx
      refine LRuns.step (code_runs hX hL (runZ_ok hX hT hL mixed 5) mixed (wr_more1 inr xs ys n c i m) ?_) rfl (by omega) (by omega) (fun _ => 6) ?_ ?_ rfl nx
      · simp only [Alls, decide_eq_true_eq, decide_eq_false_iff_not, rg, Nat.add_zero]
        repeat' (first | with_reducible exact trivial | with_reducible apply And.intro)
        all_goals first | with_reducible assumption | omega | with_reducible rfl | (first | exact g3 | exact g0 | exact g1 | (rw [List.length_append, hl]; rfl) | rfl)
      · exact ⟨rfl, rb_slg rfl rfl, rfl, rb_slc rfl (by unfold capBig; omega), rfl, rfl, rfl, rfl, trivial⟩
      · refine ⟨rb_old (by omega) rfl hx.fl, rb_row (m := 6) (ds := ys ++ b4s (intAt xs (i * 2)) ++ b4s (intAt xs (i * 2 + 1))) rfl rfl rfl ?_ hex, trivial⟩
        rw [b4s_eq, b4s_eq, List.append_assoc]; rfl
theorem wd_loop1 {inr : Bool} {h0 : Hp} {xs : List Value} (hx : Ints .i64 xs) {n c : Nat} (hn : xs.length = n * 2) (hn64 : n ≤ 128) (hc : n ≤ c ∧ c ≤ 9223372036854775807) : ∀ (k i m : Nat) (ys : List Value), i + k = n → ys.length = m → m ≤ i * 8 → Fl ys →
    LRuns inr Try.prog (wdB Try.prog) 1 9 h0 62 (wdS n c i (.slice (some ⟨1, 0, none⟩) m (capBig + 1))) [(0, ⟨.old, xs⟩), (1, byRow ys)] 2
      (bif wrOk xs i k then (.exit 0, [(4, .slice (some ⟨1, 0, none⟩) (m + k * 8) (capBig + 1))], [(0, ⟨.old, xs⟩), (1, byRow (ys ++ wrL xs i k))]) else (.ret, [(2, .slice none 0 0), (3, .int .i64 5)], [(0, ⟨.old, xs⟩)]))
  | 0, i, m, ys, hk, hl, hm, hf => by
      have hX : XOkZ (wrV noL) Try.prog := noXz_ok rfl
      have hT : TOkZ (wrV noL) Try.prog := T_okV rfl foT_one
      have hL : LOkZ (wrV noL) Try.prog := noL_okV rfl
      refine LRuns.exit (code_runs hX hL (runZ_ok hX hT hL mixed 5) mixed (wd_done1 inr xs ys n c i m) ?_) (by intro e; cases e) rfl (by omega) (by omega) (fun n => n) ?_ ?_ rfl
      · simp only [Alls, decide_eq_false_iff_not]
        repeat' (first | with_reducible exact trivial | with_reducible apply And.intro)
        all_goals first | with_reducible assumption | omega | with_reducible rfl | (skip)
      · exact ⟨rfl, rb_slg rfl rfl, trivial⟩
      · exact ⟨rb_old (by omega) rfl hx.fl, rb_row (m := 1) rfl rfl rfl (by simp [wrL]) (hf.app (Fl.of rfl)), trivial⟩
  | k + 1, i, m, ys, hk, hl, hm, hf => by
      have hX : XOkZ (wrV noL) Try.prog := noXz_ok rfl
      have hT : TOkZ (wrV noL) Try.prog := T_okV rfl foT_one
      have hL : LOkZ (wrV noL) Try.prog := noL_okV rfl
      have ho3 := fl_byts (o2_Byts xs i)
      have hex : Fl (ys ++ o2 xs i) := hf.app ho3
      have g3 := hx.take2 (o := i * 2) (by omega)
      have g0 := hx.get (i := i * 2) (by omega)
      have g1 := hx.get (i := i * 2 + 1) (by omega)
      by_cases c1 : 0 ≤ intAt xs (i * 2)
      case neg =>
        rw [wrG_f (fun h => c1 h.1.1), cond_false]
        refine LRuns.exit (code_runs hX hL (runZ_ok hX hT hL mixed 5) mixed (wd_bada1 inr xs ys n c i m) ?_) (by intro e; cases e) rfl (by omega) (by omega) (fun n => n) ?_ ?_ rfl
        · simp only [Alls, decide_eq_true_eq, decide_eq_false_iff_not, rg, Nat.add_zero]
          repeat' (first | with_reducible exact trivial | with_reducible apply And.intro)
          all_goals first | with_reducible assumption | omega | with_reducible rfl | (first | exact g3 | exact g0 | exact g1 | rfl)
        · exact ⟨rfl, rfl, rfl, rfl, trivial⟩
        · exact ⟨rb_old (by omega) rfl hx.fl, trivial⟩
      by_cases c2 : intAt xs (i * 2) < 2147483648
      case neg =>
        rw [wrG_f (fun h => c2 h.1.2), cond_false]
        refine LRuns.exit (code_runs hX hL (runZ_ok hX hT hL mixed 5) mixed (wd_badb1 inr xs ys n c i m) ?_) (by intro e; cases e) rfl (by omega) (by omega) (fun n => n) ?_ ?_ rfl
        · simp only [Alls, decide_eq_true_eq, decide_eq_false_iff_not, rg, Nat.add_zero]
          repeat' (first | with_reducible exact trivial | with_reducible apply And.intro)
          all_goals first | with_reducible assumption | omega | with_reducible rfl | (first | exact g3 | exact g0 | exact g1 | rfl)
        · exact ⟨rfl, rfl, rfl, rfl, trivial⟩
        · exact ⟨rb_old (by omega) rfl hx.fl, trivial⟩
      by_cases c3 : 0 ≤ intAt xs (i * 2 + 1)
      case neg =>
        rw [wrG_f (fun h => c3 h.2.1), cond_false]
        refine LRuns.exit (code_runs hX hL (runZ_ok hX hT hL mixed 5) mixed (wd_badc1 inr xs ys n c i m) ?_) (by intro e; cases e) rfl (by omega) (by omega) (fun n => n) ?_ ?_ rfl
        · simp only [Alls, decide_eq_true_eq, decide_eq_false_iff_not, rg, Nat.add_zero]
          repeat' (first | with_reducible exact trivial | with_reducible apply And.intro)
          all_goals first | with_reducible assumption | omega | with_reducible rfl | (first | exact g3 | exact g0 | exact g1 | rfl)
        · exact ⟨rfl, rfl, rfl, rfl, trivial⟩
        · exact ⟨rb_old (by omega) rfl hx.fl, trivial⟩
      by_cases c4 : intAt xs (i * 2 + 1) < 2147483648
      case neg =>
        rw [wrG_f (fun h => c4 h.2.2), cond_false]
        refine LRuns.exit (code_runs hX hL (runZ_ok hX hT hL mixed 5) mixed (wd_badd1 inr xs ys n c i m) ?_) (by intro e; cases e) rfl (by omega) (by omega) (fun n => n) ?_ ?_ rfl
        · simp only [Alls, decide_eq_true_eq, decide_eq_false_iff_not, rg, Nat.add_zero]
          repeat' (first | with_reducible exact trivial | with_reducible apply And.intro)
          all_goals first | with_reducible assumption | omega | with_reducible rfl | (first | exact g3 | exact g0 | exact g1 | rfl)
        · exact ⟨rfl, rfl, rfl, rfl, trivial⟩
        · exact ⟨rb_old (by omega) rfl hx.fl, trivial⟩
      have nx := wd_loop1 (inr := inr) (h0 := h0) hx hn hn64 hc k (i + 1) (m + 4 + 4) (ys ++ o2 xs i) (by omega) (by rw [List.length_append, hl]; rfl) (by omega) hex
      rw [show ys ++ o2 xs i ++ wrL xs (i + 1) k = ys ++ wrL xs i (k + 1) by simp only [wrL, List.append_assoc], show m + 4 + 4 + k * 8 = m + (k + 1) * 8 by omega, ← wrG_t ⟨⟨c1, c2⟩, c3, c4⟩] at nx
      refine LRuns.step (code_runs hX hL (runZ_ok hX hT hL mixed 5) mixed (wd_more1 inr xs ys n c i m) ?_) rfl (by omega) (by omega) (fun _ => 5) ?_ ?_ rfl nx
      · simp only [Alls, decide_eq_true_eq, decide_eq_false_iff_not, rg, Nat.add_zero]
        repeat' (first | with_reducible exact trivial | with_reducible apply And.intro)
        all_goals first | with_reducible assumption | omega | with_reducible rfl | (first | exact g3 | exact g0 | exact g1 | (rw [List.length_append, hl]; rfl) | rfl)
      · exact ⟨rfl, rb_slc rfl (by unfold capBig; omega), rfl, rb_slg rfl rfl, rfl, rfl, trivial⟩
      · refine ⟨rb_old (by omega) rfl hx.fl, rb_row (m := 5) (ds := ys ++ b4 (intAt xs (i * 2 + 0)) ++ b4 (intAt xs (i * 2 + 1))) rfl rfl rfl ?_ hex, trivial⟩
        rw [List.append_assoc]; rfl
def wrEnd (xs : List Value) (n : Nat) : LO := bif decide (n = 0) then (.exit 0, [(4, .slice none 0 0)], [(0, ⟨.old, xs⟩)]) else bif wrOk xs 0 n then (.exit 0, [(4, .slice (some ⟨1, 0, none⟩) (n * 8) (capBig + 1))], [(0, ⟨.old, xs⟩), (1, byRow (wrL xs 0 n))]) else (.ret, [(2, .slice none 0 0), (3, .int .i64 5)], [(0, ⟨.old, xs⟩)])
theorem wr_loop {inr : Bool} {h0 : Hp} {xs : List Value} (hx : Ints .i64 xs) {n c : Nat} (hn : xs.length = n * 2) (hn64 : n ≤ 128) (hc : n ≤ c ∧ c ≤ 9223372036854775807) :
    LRuns inr Try.prog (wrB Try.prog) 1 9 h0 49 (wrS n c 0 (.slice none 0 0)) [(0, ⟨.old, xs⟩)] 1 (wrEnd xs n) := by
  have hX : XOkZ (wrV noL) Try.prog := noXz_ok rfl
  have hT : TOkZ (wrV noL) Try.prog := T_okV rfl foT_one
  have hL : LOkZ (wrV noL) Try.prog := noL_okV rfl
  unfold wrEnd
  by_cases hz : n = 0
  · rw [decide_eq_true hz, cond_true]
    subst hz
    refine LRuns.exit (code_runs hX hL (runZ_ok hX hT hL mixed 5) mixed (wr_done0 inr xs 0 c 0) ?_) (by intro e; cases e) rfl (by omega) (by omega) (fun n => n) ?_ ⟨rb_old (by omega) rfl hx.fl, trivial⟩ rfl
    · simp [Alls]
    · exact ⟨rfl, rfl, trivial⟩
  rw [decide_eq_false hz, cond_false]
  obtain ⟨k, hk⟩ : ∃ k, n = k + 1 := ⟨n - 1, by omega⟩
  have ho3 := fl_byts (o2_Byts xs 0)
  have g3 := hx.take2 (o := 0 * 2) (by omega)
  have g0 := hx.get (i := 0 * 2) (by omega)
  have g1 := hx.get (i := 0 * 2 + 1) (by omega)
  have eok : wrOk xs 0 n = wrOk xs 0 (k + 1) := by rw [hk]
  rw [eok]
  by_cases c1 : 0 ≤ intAt xs (0 * 2)
  case neg =>
    rw [wrG_f (fun h => c1 h.1.1), cond_false]
    refine LRuns.exit (code_runs hX hL (runZ_ok hX hT hL mixed 5) mixed (wr_bada0 inr xs n c 0) ?_) (by intro e; cases e) rfl (by omega) (by omega) (fun n => n) ?_ ?_ rfl
    · simp only [Alls, decide_eq_true_eq, decide_eq_false_iff_not, rg, Nat.add_zero]
      repeat' (first | with_reducible exact trivial | with_reducible apply And.intro)
      all_goals first | with_reducible assumption | omega | with_reducible rfl | (first | exact g3 | exact g0 | exact g1 | rfl)
    · exact ⟨rfl, rfl, rfl, rfl, trivial⟩
    · exact ⟨rb_old (by omega) rfl hx.fl, trivial⟩
  by_cases c2 : intAt xs (0 * 2) < 2147483648
  case neg =>
    rw [wrG_f (fun h => c2 h.1.2), cond_false]
    refine LRuns.exit (code_runs hX hL (runZ_ok hX hT hL mixed 5) mixed (wr_badb0 inr xs n c 0) ?_) (by intro e; cases e) rfl (by omega) (by omega) (fun n => n) ?_ ?_ rfl
    · simp only [Alls, decide_eq_true_eq, decide_eq_false_iff_not, rg, Nat.add_zero]
      repeat' (first | with_reducible exact trivial | with_reducible apply And.intro)
      all_goals first | with_reducible assumption | omega | with_reducible rfl | (first | exact g3 | exact g0 | exact g1 | rfl)
    · exact ⟨rfl, rfl, rfl, rfl, trivial⟩
    · exact ⟨rb_old (by omega) rfl hx.fl, trivial⟩
  by_cases c3 : 0 ≤ intAt xs (0 * 2 + 1)
  case neg =>
    rw [wrG_f (fun h => c3 h.2.1), cond_false]
    refine LRuns.exit (code_runs hX hL (runZ_ok hX hT hL mixed 5) mixed (wr_badc0 inr xs n c 0) ?_) (by intro e; cases e) rfl (by omega) (by omega) (fun n => n) ?_ ?_ rfl
    · simp only [Alls, decide_eq_true_eq, decide_eq_false_iff_not, rg, Nat.add_zero]
      repeat' (first | with_reducible exact trivial | with_reducible apply And.intro)
      all_goals first | with_reducible assumption | omega | with_reducible rfl | (first | exact g3 | exact g0 | exact g1 | rfl)
    · exact ⟨rfl, rfl, rfl, rfl, trivial⟩
    · exact ⟨rb_old (by omega) rfl hx.fl, trivial⟩
  by_cases c4 : intAt xs (0 * 2 + 1) < 2147483648
  case neg =>
    rw [wrG_f (fun h => c4 h.2.2), cond_false]
    refine LRuns.exit (code_runs hX hL (runZ_ok hX hT hL mixed 5) mixed (wr_badd0 inr xs n c 0) ?_) (by intro e; cases e) rfl (by omega) (by omega) (fun n => n) ?_ ?_ rfl
    · simp only [Alls, decide_eq_true_eq, decide_eq_false_iff_not, rg, Nat.add_zero]
      repeat' (first | with_reducible exact trivial | with_reducible apply And.intro)
      all_goals first | with_reducible assumption | omega | with_reducible rfl | (first | exact g3 | exact g0 | exact g1 | rfl)
    · exact ⟨rfl, rfl, rfl, rfl, trivial⟩
    · exact ⟨rb_old (by omega) rfl hx.fl, trivial⟩
  have nx := wr_loop1 (inr := inr) (h0 := h0) hx hn hn64 hc k (0 + 1) 8 (o2 xs 0) (by omega) rfl (by omega) ho3
  rw [← wrG_t ⟨⟨c1, c2⟩, c3, c4⟩, show o2 xs 0 ++ wrL xs (0 + 1) k = wrL xs 0 n by rw [hk]; rfl, show 8 + k * 8 = n * 8 by omega] at nx
  refine LRuns.stepTo (N' := 2) (code_runs hX hL (runZ_ok hX hT hL mixed 5) mixed (wr_more0 inr xs n c 0) ?_) rfl (by omega) (by omega) (by omega) (by omega) (fun _ => 5) ?_ ?_ rfl nx
  · simp only [Alls, decide_eq_true_eq, decide_eq_false_iff_not, rg, Nat.add_zero]
    repeat' (first | with_reducible exact trivial | with_reducible apply And.intro)
    all_goals first | with_reducible assumption | omega | with_reducible rfl | (first | exact g3 | exact g0 | exact g1 | rfl)
  · exact ⟨rfl, rb_slg rfl rfl, rfl, rb_slc rfl (by unfold capBig; omega), rfl, rfl, rfl, rfl, trivial⟩
  · refine ⟨rb_old (by omega) rfl hx.fl, rb_row (m := 5) (ds := b4s (intAt xs (0 * 2)) ++ b4s (intAt xs (0 * 2 + 1))) rfl rfl rfl ?_ ho3, trivial⟩
    rw [b4s_eq, b4s_eq]; rfl
theorem wr_spec_ok : LSOk Try.prog 49 [4, 12, 13, 14] (wrB Try.prog) (wrSpec fun n c => wrS n c 0 (.slice none 0 0)) := by
  refine lspec_ok fun a tp xt l2 h2 nx2 d tp' ob hs ho inr ts hn hg => ?_
  obtain ⟨n, c, xs⟩ := a
  simp only at hs hg
  have hrow : ∀ {xs : List Value} {N : Nat}, Fl xs → RbL 1 N (fun n => n) [(0, ⟨.old, xs⟩)] [(0, ⟨.old, xs⟩)] [(0, ⟨.old, xs⟩)] := fun hb => ⟨rb_old (by omega) rfl hb, trivial⟩
  split at hs
  · simp only [Option.some.injEq, Prod.mk.injEq] at hs
    obtain ⟨⟨rfl, rfl, rfl, rfl, rfl⟩, rfl, rfl⟩ := hs
    obtain ⟨h0, hb, hl, hc, _⟩ := ho
    have key := wr_loop (inr := inr) (h0 := [(0, ⟨.old, xs⟩)]) hb hl (by omega) hc
    unfold wrEnd at key
    rw [decide_eq_true h0, cond_true] at key
    refine LRuns.enter (l2 := wrS n c 0 (.slice none 0 0)) hn hg (Nat.le_refl 1) (by omega) (fun n => n) ?_ (hrow hb.fl) rfl key ?_
    · exact ⟨rfl, rfl, rfl, rb_slc rfl (by unfold capBig; omega), rfl, rfl, rfl, rfl, trivial⟩
    · exact tidy_of (by omega) (fun n hn hd => rfl) rfl
  · simp only [Option.some.injEq, Prod.mk.injEq] at hs
    obtain ⟨⟨rfl, rfl, rfl, rfl, rfl⟩, rfl, rfl⟩ := hs
    obtain ⟨h0, hb, hl, hc, h1, hr, _⟩ := ho
    have key := wr_loop (inr := inr) (h0 := [(0, ⟨.old, xs⟩)]) hb hl h1 hc
    unfold wrEnd at key
    rw [h0, cond_false, hr, cond_true] at key
    refine LRuns.enter (l2 := wrS n c 0 (.slice none 0 0)) hn hg (Nat.le_refl 1) (by omega) (fun n => n) ?_ (hrow hb.fl) rfl key ?_
    · exact ⟨rfl, rfl, rfl, rb_slc rfl (by unfold capBig; omega), rfl, rfl, rfl, rfl, trivial⟩
    · refine tidy_of (by omega) (fun n hn hd => ?_) rfl
      obtain rfl : n = 0 := by omega
      rfl
  · simp only [Option.some.injEq, Prod.mk.injEq] at hs
    obtain ⟨⟨rfl, rfl, rfl, rfl, rfl⟩, rfl, rfl⟩ := hs
    obtain ⟨h0, hb, hl, hc, h1, hr, _⟩ := ho
    have key := wr_loop (inr := inr) (h0 := [(0, ⟨.old, xs⟩)]) hb hl h1 hc
    unfold wrEnd at key
    rw [h0, cond_false, hr, cond_false] at key
    refine LRuns.enter (l2 := wrS n c 0 (.slice none 0 0)) hn hg (Nat.le_refl 1) (by omega) (fun n => n) ?_ (hrow hb.fl) rfl key ?_
    · exact ⟨rfl, rfl, rfl, rb_slc rfl (by unfold capBig; omega), rfl, rfl, rfl, rfl, trivial⟩
    · refine tidy_of (by omega) (fun n hn hd => ?_) rfl
      obtain rfl : n = 0 := by omega
      rfl
  · cases hs
theorem wd_loop {inr : Bool} {h0 : Hp} {xs : List Value} (hx : Ints .i64 xs) {n c : Nat} (hn : xs.length = n * 2) (hn64 : n ≤ 128) (hc : n ≤ c ∧ c ≤ 9223372036854775807) :
    LRuns inr Try.prog (wdB Try.prog) 1 9 h0 62 (wdS n c 0 (.slice none 0 0)) [(0, ⟨.old, xs⟩)] 1 (wrEnd xs n) := by
  have hX : XOkZ (wrV noL) Try.prog := noXz_ok rfl
  have hT : TOkZ (wrV noL) Try.prog := T_okV rfl foT_one
  have hL : LOkZ (wrV noL) Try.prog := noL_okV rfl
  unfold wrEnd
  by_cases hz : n = 0
  · rw [decide_eq_true hz, cond_true]
    subst hz
    refine LRuns.exit (code_runs hX hL (runZ_ok hX hT hL mixed 5) mixed (wd_done0 inr xs 0 c 0) ?_) (by intro e; cases e) rfl (by omega) (by omega) (fun n => n) ?_ ⟨rb_old (by omega) rfl hx.fl, trivial⟩ rfl
    · simp [Alls]
    · exact ⟨rfl, rfl, trivial⟩
  rw [decide_eq_false hz, cond_false]
  obtain ⟨k, hk⟩ : ∃ k, n = k + 1 := ⟨n - 1, by omega⟩
  have ho3 := fl_byts (o2_Byts xs 0)
  have g3 := hx.take2 (o := 0 * 2) (by omega)
  have g0 := hx.get (i := 0 * 2) (by omega)
  have g1 := hx.get (i := 0 * 2 + 1) (by omega)
  have eok : wrOk xs 0 n = wrOk xs 0 (k + 1) := by rw [hk]
  rw [eok]
  by_cases c1 : 0 ≤ intAt xs (0 * 2)
  case neg =>
    rw [wrG_f (fun h => c1 h.1.1), cond_false]
    refine LRuns.exit (code_runs hX hL (runZ_ok hX hT hL mixed 5) mixed (wd_bada0 inr xs n c 0) ?_) (by intro e; cases e) rfl (by omega) (by omega) (fun n => n) ?_ ?_ rfl
    · simp only [Alls, decide_eq_true_eq, decide_eq_false_iff_not, rg, Nat.add_zero]
      repeat' (first | with_reducible exact trivial | with_reducible apply And.intro)
      all_goals first | with_reducible assumption | omega | with_reducible rfl | (first | exact g3 | exact g0 | exact g1 | rfl)
    · exact ⟨rfl, rfl, rfl, rfl, trivial⟩
    · exact ⟨rb_old (by omega) rfl hx.fl, trivial⟩
  by_cases c2 : intAt xs (0 * 2) < 2147483648
  case neg =>
    rw [wrG_f (fun h => c2 h.1.2), cond_false]
    refine LRuns.exit (code_runs hX hL (runZ_ok hX hT hL mixed 5) mixed (wd_badb0 inr xs n c 0) ?_) (by intro e; cases e) rfl (by omega) (by omega) (fun n => n) ?_ ?_ rfl
    · simp only [Alls, decide_eq_true_eq, decide_eq_false_iff_not, rg, Nat.add_zero]
      repeat' (first | with_reducible exact trivial | with_reducible apply And.intro)
      all_goals first | with_reducible assumption | omega | with_reducible rfl | (first | exact g3 | exact g0 | exact g1 | rfl)
    · exact ⟨rfl, rfl, rfl, rfl, trivial⟩
    · exact ⟨rb_old (by omega) rfl hx.fl, trivial⟩
  by_cases c3 : 0 ≤ intAt xs (0 * 2 + 1)
  case neg =>
    rw [wrG_f (fun h => c3 h.2.1), cond_false]
    refine LRuns.exit (code_runs hX hL (runZ_ok hX hT hL mixed 5) mixed (wd_badc0 inr xs n c 0) ?_) (by intro e; cases e) rfl (by omega) (by omega) (fun n => n) ?_ ?_ rfl
    · simp only [Alls, decide_eq_true_eq, decide_eq_false_iff_not, rg, Nat.add_zero]
      repeat' (first | with_reducible exact trivial | with_reducible apply And.intro)
      all_goals first | with_reducible assumption | omega | with_reducible rfl | (first | exact g3 | exact g0 | exact g1 | rfl)
    · exact ⟨rfl, rfl, rfl, rfl, trivial⟩
    · exact ⟨rb_old (by omega) rfl hx.fl, trivial⟩
  by_cases c4 : intAt xs (0 * 2 + 1) < 2147483648
  case neg =>
    rw [wrG_f (fun h => c4 h.2.2), cond_false]
    refine LRuns.exit (code_runs hX hL (runZ_ok hX hT hL mixed 5) mixed (wd_badd0 inr xs n c 0) ?_) (by intro e; cases e) rfl (by omega) (by omega) (fun n => n) ?_ ?_ rfl
    · simp only [Alls, decide_eq_true_eq, decide_eq_false_iff_not, rg, Nat.add_zero]
      repeat' (first | with_reducible exact trivial | with_reducible apply And.intro)
      all_goals first | with_reducible assumption | omega | with_reducible rfl | (first | exact g3 | exact g0 | exact g1 | rfl)
    · exact ⟨rfl, rfl, rfl, rfl, trivial⟩
    · exact ⟨rb_old (by omega) rfl hx.fl, trivial⟩
  have nx := wd_loop1 (inr := inr) (h0 := h0) hx hn hn64 hc k (0 + 1) 8 (o2 xs 0) (by omega) rfl (by omega) ho3
  rw [← wrG_t ⟨⟨c1, c2⟩, c3, c4⟩, show o2 xs 0 ++ wrL xs (0 + 1) k = wrL xs 0 n by rw [hk]; rfl, show 8 + k * 8 = n * 8 by omega] at nx
  refine LRuns.stepTo (N' := 2) (code_runs hX hL (runZ_ok hX hT hL mixed 5) mixed (wd_more0 inr xs n c 0) ?_) rfl (by omega) (by omega) (by omega) (by omega) (fun _ => 4) ?_ ?_ rfl nx
  · simp only [Alls, decide_eq_true_eq, decide_eq_false_iff_not, rg, Nat.add_zero]
    repeat' (first | with_reducible exact trivial | with_reducible apply And.intro)
    all_goals first | with_reducible assumption | omega | with_reducible rfl | (first | exact g3 | exact g0 | exact g1 | rfl)
  · exact ⟨rfl, rb_slc rfl (by unfold capBig; omega), rfl, rb_slg rfl rfl, rfl, rfl, trivial⟩
  · refine ⟨rb_old (by omega) rfl hx.fl, rb_row (m := 4) (ds := b4 (intAt xs (0 * 2 + 0)) ++ b4 (intAt xs (0 * 2 + 1))) rfl rfl rfl ?_ ho3, trivial⟩
    rfl
theorem wd_spec_ok : LSOk Try.prog 62 [0, 4, 5] (wdB Try.prog) (wrSpec fun n c => wdS n c 0 (.slice none 0 0)) := by
  refine lspec_ok fun a tp xt l2 h2 nx2 d tp' ob hs ho inr ts hn hg => ?_
  obtain ⟨n, c, xs⟩ := a
  simp only at hs hg
  have hrow : ∀ {xs : List Value} {N : Nat}, Fl xs → RbL 1 N (fun n => n) [(0, ⟨.old, xs⟩)] [(0, ⟨.old, xs⟩)] [(0, ⟨.old, xs⟩)] := fun hb => ⟨rb_old (by omega) rfl hb, trivial⟩
  split at hs
  · simp only [Option.some.injEq, Prod.mk.injEq] at hs
    obtain ⟨⟨rfl, rfl, rfl, rfl, rfl⟩, rfl, rfl⟩ := hs
    obtain ⟨h0, hb, hl, hc, _⟩ := ho
    have key := wd_loop (inr := inr) (h0 := [(0, ⟨.old, xs⟩)]) hb hl (by omega) hc
    unfold wrEnd at key
    rw [decide_eq_true h0, cond_true] at key
    refine LRuns.enter (l2 := wdS n c 0 (.slice none 0 0)) hn hg (Nat.le_refl 1) (by omega) (fun n => n) ?_ (hrow hb.fl) rfl key ?_
    · exact ⟨rfl, rb_slc rfl (by unfold capBig; omega), rfl, rfl, rfl, rfl, trivial⟩
    · exact tidy_of (by omega) (fun n hn hd => rfl) rfl
  · simp only [Option.some.injEq, Prod.mk.injEq] at hs
    obtain ⟨⟨rfl, rfl, rfl, rfl, rfl⟩, rfl, rfl⟩ := hs
    obtain ⟨h0, hb, hl, hc, h1, hr, _⟩ := ho
    have key := wd_loop (inr := inr) (h0 := [(0, ⟨.old, xs⟩)]) hb hl h1 hc
    unfold wrEnd at key
    rw [h0, cond_false, hr, cond_true] at key
    refine LRuns.enter (l2 := wdS n c 0 (.slice none 0 0)) hn hg (Nat.le_refl 1) (by omega) (fun n => n) ?_ (hrow hb.fl) rfl key ?_
    · exact ⟨rfl, rb_slc rfl (by unfold capBig; omega), rfl, rfl, rfl, rfl, trivial⟩
    · refine tidy_of (by omega) (fun n hn hd => ?_) rfl
      obtain rfl : n = 0 := by omega
      rfl
  · simp only [Option.some.injEq, Prod.mk.injEq] at hs
    obtain ⟨⟨rfl, rfl, rfl, rfl, rfl⟩, rfl, rfl⟩ := hs
    obtain ⟨h0, hb, hl, hc, h1, hr, _⟩ := ho
    have key := wd_loop (inr := inr) (h0 := [(0, ⟨.old, xs⟩)]) hb hl h1 hc
    unfold wrEnd at key
    rw [h0, cond_false, hr, cond_false] at key
    refine LRuns.enter (l2 := wdS n c 0 (.slice none 0 0)) hn hg (Nat.le_refl 1) (by omega) (fun n => n) ?_ (hrow hb.fl) rfl key ?_
    · exact ⟨rfl, rb_slc rfl (by unfold capBig; omega), rfl, rfl, rfl, rfl, trivial⟩
    · refine tidy_of (by omega) (fun n hn hd => ?_) rfl
      obtain rfl : n = 0 := by omega
      rfl
  · cases hs
theorem wr_gok : GOk Try.prog 28 [.s 2] (gS sWr) := by
  have hX : ∀ L, XOkZ (wrV L) Try.prog := fun L => noXz_ok rfl
  have hT : ∀ L, TOkZ (wrV L) Try.prog := fun L => T_okV rfl foT_one
  have hL : LOkZ (wrV (wrLw Try.prog)) Try.prog := L_okV rfl (orL_ok (mkL_ok wr_spec_ok) (mkL_ok wd_spec_ok))
  have hL0 : LOkZ (wrV noL) Try.prog := noL_okV rfl
  refine gS_ok (fun tp gr tp' ob hG ho => ?_) (fun zs n c tp gr tp' ob hG ho hfl hl0 hc => ?_)
  · unfold sWr at hG
    split at hG
    case h_2 =>
      simp only [Option.some.injEq, Prod.mk.injEq] at hG
      obtain ⟨rfl, rfl, rfl⟩ := hG
      exact ⟨_, _, _, _, fun n => n, run_tri (hX _) (hT _) hL0 wr_n (by simp [Alls, Ints, intsOf]) rfl, GrIs.flat fun σ => rfl⟩
    all_goals (exfalso; simp only [Option.some.injEq, Prod.mk.injEq, reduceCtorEq] at hG)
    all_goals (obtain ⟨rfl, rfl, rfl⟩ := hG; simp [Alls, wrOk] at ho)
  · have htk : zs.take (n * 2) = zs := take_len hl0
    unfold sWr at hG
    split at hG
    case h_5 => cases hG
    all_goals (simp only [Option.some.injEq, Prod.mk.injEq] at hG; obtain ⟨rfl, rfl, rfl⟩ := hG)
    · obtain ⟨hb, h, _⟩ := ho
      have g1 := gt128t h
      refine ⟨_, _, _, _, fun n => n, run_tri (hX _) (hT _) hL (wr_long zs n c) ?_ rfl, GrIs.flat fun σ => rfl⟩
      simp only [htk, Alls]; repeat' (first | with_reducible exact trivial | with_reducible apply And.intro)
      all_goals first | with_reducible assumption | omega | with_reducible rfl | (exact g1)
    · obtain ⟨hb, h, _⟩ := ho
      have g1 := gt128f (k := n) (by simp; omega)
      refine ⟨_, _, _, _, fun n => n, run_tri (hX _) (hT _) hL (wr_nil zs n c) ?_ rfl, GrIs.flat fun σ => rfl⟩
      simp only [htk, Alls]; repeat' (first | with_reducible exact trivial | with_reducible apply And.intro)
      all_goals first | with_reducible assumption | omega | with_reducible rfl | (first | exact g1 | rfl)
    · obtain ⟨hb, hz, h1, hr, _⟩ := ho
      have g1 := gt128f h1
      have h1' : n ≤ 128 := by simpa using h1
      refine ⟨_, _, _, _, fun n => n, run_tri (hX _) (hT _) hL (wr_not zs n c) ?_ rfl, GrIs.flat fun σ => rfl⟩
      simp only [htk, Alls]; repeat' (first | with_reducible exact trivial | with_reducible apply And.intro)
      all_goals first | with_reducible assumption | omega | with_reducible rfl | (first | exact g1 | rfl)
    · obtain ⟨hb, hz, h1, hr, _⟩ := ho
      have g1 := gt128f h1
      have h1' : n ≤ 128 := by simpa using h1
      refine ⟨_, _, _, _, fun _ => 1, run_tri (hX _) (hT _) hL (wr_ok zs n c) ?_ rfl, GrIs.grown rfl (fl_byts (wrL_Byts _ _ _)) fun σ => rfl⟩
      simp only [htk, Alls]; repeat' (first | with_reducible exact trivial | with_reducible apply And.intro)
      all_goals first | with_reducible assumption | omega | with_reducible rfl | (first | exact g1 | rfl)
theorem wd_gok : GOk Try.prog 29 [.s 2] (gS sWr) := by
  have hX : ∀ L, XOkZ (wrV L) Try.prog := fun L => noXz_ok rfl
  have hT : ∀ L, TOkZ (wrV L) Try.prog := fun L => T_okV rfl foT_one
  have hL : LOkZ (wrV (wrLw Try.prog)) Try.prog := L_okV rfl (orL_ok (mkL_ok wr_spec_ok) (mkL_ok wd_spec_ok))
  have hL0 : LOkZ (wrV noL) Try.prog := noL_okV rfl
  refine gS_ok (fun tp gr tp' ob hG ho => ?_) (fun zs n c tp gr tp' ob hG ho hfl hl0 hc => ?_)
  · unfold sWr at hG
    split at hG
    case h_2 =>
      simp only [Option.some.injEq, Prod.mk.injEq] at hG
      obtain ⟨rfl, rfl, rfl⟩ := hG
      exact ⟨_, _, _, _, fun n => n, run_tri (hX _) (hT _) hL0 wd_n (by simp [Alls, Ints, intsOf]) rfl, GrIs.flat fun σ => rfl⟩
    all_goals (exfalso; simp only [Option.some.injEq, Prod.mk.injEq, reduceCtorEq] at hG)
    all_goals (obtain ⟨rfl, rfl, rfl⟩ := hG; simp [Alls, wrOk] at ho)
  · have htk : zs.take (n * 2) = zs := take_len hl0
    unfold sWr at hG
    split at hG
    case h_5 => cases hG
    all_goals (simp only [Option.some.injEq, Prod.mk.injEq] at hG; obtain ⟨rfl, rfl, rfl⟩ := hG)
    · obtain ⟨hb, h, _⟩ := ho
      have g1 := gt128t h
      refine ⟨_, _, _, _, fun n => n, run_tri (hX _) (hT _) hL (wd_long zs n c) ?_ rfl, GrIs.flat fun σ => rfl⟩
      simp only [htk, Alls]; repeat' (first | with_reducible exact trivial | with_reducible apply And.intro)
      all_goals first | with_reducible assumption | omega | with_reducible rfl | (exact g1)
    · obtain ⟨hb, h, _⟩ := ho
      have g1 := gt128f (k := n) (by simp; omega)
      refine ⟨_, _, _, _, fun n => n, run_tri (hX _) (hT _) hL (wd_nil zs n c) ?_ rfl, GrIs.flat fun σ => rfl⟩
      simp only [htk, Alls]; repeat' (first | with_reducible exact trivial | with_reducible apply And.intro)
      all_goals first | with_reducible assumption | omega | with_reducible rfl | (first | exact g1 | rfl)
    · obtain ⟨hb, hz, h1, hr, _⟩ := ho
      have g1 := gt128f h1
      have h1' : n ≤ 128 := by simpa using h1
      refine ⟨_, _, _, _, fun n => n, run_tri (hX _) (hT _) hL (wd_not zs n c) ?_ rfl, GrIs.flat fun σ => rfl⟩
      simp only [htk, Alls]; repeat' (first | with_reducible exact trivial | with_reducible apply And.intro)
      all_goals first | with_reducible assumption | omega | with_reducible rfl | (first | exact g1 | rfl)
    · obtain ⟨hb, hz, h1, hr, _⟩ := ho
      have g1 := gt128f h1
      have h1' : n ≤ 128 := by simpa using h1
      refine ⟨_, _, _, _, fun _ => 1, run_tri (hX _) (hT _) hL (wd_ok zs n c) ?_ rfl, GrIs.grown rfl (fl_byts (wrL_Byts _ _ _)) fun σ => rfl⟩
      simp only [htk, Alls]; repeat' (first | with_reducible exact trivial | with_reducible apply And.intro)
      all_goals first | with_reducible assumption | omega | with_reducible rfl | (first | exact g1 | rfl)
theorem qe_loop {inr : Bool} {h0 : Hp} {xs : List Value} (hx : Ints .i64 xs) {n c d : Nat} (hn : xs.length = n * 2) (hc : n ≤ c ∧ c ≤ 9223372036854775807) (hd : n ≤ d ∧ d ≤ 9223372036854775807) : ∀ (k i : Nat), i + k = n →
    LRuns inr Try.prog (eeB Try.prog) 2 2 h0 26 (eeS n c d i) [(0, ⟨.old, xs⟩), (1, ⟨.old, xs⟩)] 2 (.exit 0, [], [(0, ⟨.old, xs⟩), (1, ⟨.old, xs⟩)])
  | 0, i, hk => by
      have hX : XOkZ (rsV noL) Try.prog := noXz_ok rfl
      have hT : TOkZ (rsV noL) Try.prog := T_okV rfl nmT_one
      have hL : LOkZ (rsV noL) Try.prog := noL_okV rfl
      refine LRuns.exit (code_runs hX hL (runZ_ok hX hT hL mixed 5) mixed (qe_done inr xs n c d i) ?_) (by intro e; cases e) rfl (by omega) (by omega) (fun n => n) trivial ?_ rfl
      · simp only [Alls, decide_eq_false_iff_not]
        repeat' (first | with_reducible exact trivial | with_reducible apply And.intro)
        all_goals first | with_reducible assumption | omega | with_reducible rfl | (skip)
      · exact ⟨rb_old (by omega) rfl hx.fl, rb_old (by omega) rfl hx.fl, trivial⟩
  | k + 1, i, hk => by
      have hX : XOkZ (rsV noL) Try.prog := noXz_ok rfl
      have hT : TOkZ (rsV noL) Try.prog := T_okV rfl nmT_one
      have hL : LOkZ (rsV noL) Try.prog := noL_okV rfl
      have g3 := hx.take2 (o := i * 2) (by omega)
      refine LRuns.step (code_runs hX hL (runZ_ok hX hT hL mixed 5) mixed (qe_more inr xs n c d i) ?_) rfl (by omega) (by omega) (fun n => n) ?_ ?_ rfl (qe_loop hx hn hc hd k (i + 1) (by omega))
      · simp only [Alls, decide_eq_true_eq, rg, beq_self_eq_true, Bool.and_self, Bool.not_true]
        repeat' (first | with_reducible exact trivial | with_reducible apply And.intro)
        all_goals first | with_reducible assumption | omega | with_reducible rfl | (exact g3)
      · exact ⟨rfl, rb_slc rfl (by unfold capBig; omega), rfl, rb_slc rfl (by unfold capBig; omega), rfl, rfl, trivial⟩
      · exact ⟨rb_old (by omega) rfl hx.fl, rb_old (by omega) rfl hx.fl, trivial⟩
theorem qe_spec_ok : LSOk Try.prog 26 [0, 1, 5] (eeB Try.prog) eeSpec := by
  refine lspec_ok fun a tp xt l2 h2 nx2 d tp' ob hs ho inr ts hn hg => ?_
  obtain ⟨n, c, e, xs⟩ := a
  simp only at hs hg
  simp only [Option.some.injEq, Prod.mk.injEq] at hs
  obtain ⟨⟨rfl, rfl, rfl, rfl, rfl⟩, rfl, rfl⟩ := hs
  obtain ⟨hx, hl, hc, hd, _⟩ := ho
  have key := qe_loop (inr := inr) (h0 := [(0, ⟨.old, xs⟩), (1, ⟨.old, xs⟩)]) hx hl hc hd n 0 (by omega)
  refine LRuns.enter (l2 := eeS n c e 0) (h := [(0, ⟨.old, xs⟩), (1, ⟨.old, xs⟩)]) (h2 := [(0, ⟨.old, xs⟩), (1, ⟨.old, xs⟩)]) hn hg (Nat.le_refl 2) (by omega) (fun n => n) ?_ ⟨rb_old (by omega) rfl hx.fl, rb_old (by omega) rfl hx.fl, trivial⟩ rfl key ?_
  · exact ⟨rfl, rb_slc rfl (by unfold capBig; omega), rfl, rb_slc rfl (by unfold capBig; omega), rfl, rfl, trivial⟩
  · exact tidy_of (by omega) (fun n hn hd => rfl) rfl
theorem qe_gok : GOk Try.prog 22 [.s 2, .s 2] (gSS sEq) := by
  have hX : ∀ L, XOkZ (rsV L) Try.prog := fun L => noXz_ok rfl
  have hT : ∀ L, TOkZ (rsV L) Try.prog := fun L => T_okV rfl nmT_one
  have hL : LOkZ (rsV (eeL Try.prog)) Try.prog := L_okV rfl (mkL_ok qe_spec_ok)
  have hL0 : LOkZ (rsV noL) Try.prog := noL_okV rfl
  refine gSS_ok (fun tp gr tp' ob hG ho => ?_) (fun xs n c tp gr tp' ob hG ho hf hl hc => ?_) (fun ys m d tp gr tp' ob hG ho hf hl hc => ?_) (fun xs n c ys m d tp gr tp' ob hG ho hf hl hc hf2 hl2 hc2 => ?_) <;> (
    unfold sEq at hG
    simp only [Option.some.injEq, Prod.mk.injEq] at hG
    obtain ⟨rfl, rfl, rfl⟩ := hG
    obtain ⟨hx, h1, h2, _⟩ := ho)
  · exact ⟨_, _, _, _, fun n => n, run_tri (hX _) (hT _) hL0 qe_nn (by simp [Alls]) rfl, GrIs.flat fun σ => rfl⟩
  · subst h2
    exact ⟨_, _, _, _, fun n => n, run_tri (hX _) (hT _) hL0 (qe_sn xs c) (by simp [Alls]) rfl, GrIs.flat fun σ => rfl⟩
  · subst h2
    exact ⟨_, _, _, _, fun n => n, run_tri (hX _) (hT _) hL0 (qe_ns ys d) (by simp [Alls]) rfl, GrIs.flat fun σ => rfl⟩
  · subst h2
    subst h1
    refine ⟨_, _, _, _, fun n => n, run_tri (hX _) (hT _) hL (qe_ss ys m c d) ?_ rfl, GrIs.flat fun σ => rfl⟩
    have hne : (((m : Nat) : Int) != (m : Int)) = false := by simp
    simp only [Alls]
    repeat' (first | with_reducible exact trivial | with_reducible apply And.intro)
    all_goals first | with_reducible assumption | omega | with_reducible rfl | (rfl)
theorem aw_gok : GOk Try.prog 10 [] gTrueY := gTrueY_tri ⟨_, _, _, run_tri (noXz_ok rfl) (noTz_okV rfl) (noL_okV rfl) qa_r (by simp [Alls]) rfl⟩
def chT : TFun := orTz (mkT 10 [] gTrueY) (orTz (mkT 22 [.s 2, .s 2] (gSS sEq)) (orTz (mkT 28 [.s 2] (gS sWr)) (orTz (mkT 29 [.s 2] (gS sWr)) (orTz (mkT 30 [.s 1] (gS sRe)) (mkT 31 [.s 1] (gS sRe))))))
theorem chT_one : TOneZ Try.prog chT := orTz_ok (mkT_one aw_gok) (orTz_ok (mkT_one qe_gok) (orTz_ok (mkT_one wr_gok) (orTz_ok (mkT_one wd_gok) (orTz_ok (mkT_one rd_gok) (mkT_one dc_gok)))))
end Go.Proofs.Ytmjmdjcgjmjigaa
