/-
  Chapter 19: numbers of four bytes; results of bytes: the program's functions and the document's.
-/
import Derived.Test.YtmjmdjcgjmjigaaKitX
namespace Go.Proofs.Ytmjmdjcgjmjigaa
set_option linter.unusedSimpArgs false
set_option linter.unusedVariables false
set_option linter.unusedSectionVars false
open Go Go.RowKit

def nmV : Tv := ⟨noTz, noXz, noL, fun _ => [], fun f s => bif Nat.beq f 40 then (match mdOf [(12, 7), (18, 7), (24, 7)] s with | some m => some m | none => some 0) else bif Nat.beq f 41 then some 0 else none, fun _ => [], fun _ => 0⟩
theorem qn_i (xs : List Value) (n c : Nat) : runZ nmV Try.prog 5 40 [.slice (some ⟨0, 0, none⟩) n c] [(0, ⟨.old, xs⟩)] 1 [] =
  Res.ok ((Value.int IntKind.i64 (adI (adI (adI (intAt xs (0 : Nat)) (slI (intAt xs (1 : Nat)) (8 : Int))) (slI (intAt xs (2 : Nat)) (16 : Int))) (slI (intAt xs (3 : Nat)) (24 : Int))), [((0 : Nat), Rw.mk Kd.old xs)], (1 :
 Nat), []), [], [(0 : Int) ≤ (0 : Int) ∧ (0 : Int) < (↑n : Int), xs[(0 : Nat)]? = some (Value.int IntKind.u8 (intAt xs (0 : Nat))), rg IntKind.u32 (intAt xs (0 : Nat)), (0 : Int) ≤ (1 : Int) ∧ (1 : Int) < (↑n : Int), xs[(1
 : Nat)]? = some (Value.int IntKind.u8 (intAt xs (1 : Nat))), rg IntKind.u32 (intAt xs (1 : Nat)), (0 : Int) ≤ (8 : Int) ∧ (8 : Int) ≤ (32 : Int) ∧ rg IntKind.u32 (slI (intAt xs (1 : Nat)) (8 : Int)), IntKind.wrap
 IntKind.u32 (↑(BitVec.toNat (BitVec.ofInt (32 : Nat) (intAt xs (0 : Nat)) ||| BitVec.ofInt (32 : Nat) (slI (intAt xs (1 : Nat)) (8 : Int)))) : Int) = adI (intAt xs (0 : Nat)) (slI (intAt xs (1 : Nat)) (8 : Int)), (0 :
 Int) ≤ (2 : Int) ∧ (2 : Int) < (↑n : Int), xs[(2 : Nat)]? = some (Value.int IntKind.u8 (intAt xs (2 : Nat))), rg IntKind.u32 (intAt xs (2 : Nat)), (0 : Int) ≤ (16 : Int) ∧ (16 : Int) ≤ (32 : Int) ∧ rg IntKind.u32 (slI
 (intAt xs (2 : Nat)) (16 : Int)), IntKind.wrap IntKind.u32 (↑(BitVec.toNat (BitVec.ofInt (32 : Nat) (adI (intAt xs (0 : Nat)) (slI (intAt xs (1 : Nat)) (8 : Int))) ||| BitVec.ofInt (32 : Nat) (slI (intAt xs (2 : Nat)) (16
 : Int)))) : Int) = adI (adI (intAt xs (0 : Nat)) (slI (intAt xs (1 : Nat)) (8 : Int))) (slI (intAt xs (2 : Nat)) (16 : Int)), (0 : Int) ≤ (3 : Int) ∧ (3 : Int) < (↑n : Int), xs[(3 : Nat)]? = some (Value.int IntKind.u8
 (intAt xs (3 : Nat))), rg IntKind.u32 (intAt xs (3 : Nat)), (0 : Int) ≤ (24 : Int) ∧ (24 : Int) ≤ (32 : Int) ∧ rg IntKind.u32 (slI (intAt xs (3 : Nat)) (24 : Int)), IntKind.wrap IntKind.u32 (↑(BitVec.toNat (BitVec.ofInt
 (32 : Nat) (adI (adI (intAt xs (0 : Nat)) (slI (intAt xs (1 : Nat)) (8 : Int))) (slI (intAt xs (2 : Nat)) (16 : Int))) ||| BitVec.ofInt (32 : Nat) (slI (intAt xs (3 : Nat)) (24 : Int)))) : Int) = adI (adI (adI (intAt xs
 (0 : Nat)) (slI (intAt xs (1 : Nat)) (8 : Int))) (slI (intAt xs (2 : Nat)) (16 : Int))) (slI (intAt xs (3 : Nat)) (24 : Int)), rg IntKind.i64 (adI (adI (adI (intAt xs (0 : Nat)) (slI (intAt xs (1 : Nat)) (8 : Int))) (slI
 (intAt xs (2 : Nat)) (16 : Int))) (slI (intAt xs (3 : Nat)) (24 : Int)))]) := by kernel_rfl
theorem qn_r (xs : List Value) (n c : Nat) : runZ nmV Try.prog 5 41 [.slice (some ⟨0, 0, none⟩) n c] [(0, ⟨.old, xs⟩)] 1 [] =
  Res.ok ((Value.int IntKind.i64 (adI (adI (adI (intAt xs (0 : Nat)) (mlI (256 : Int) (intAt xs (1 : Nat)))) (mlI (65536 : Int) (intAt xs (2 : Nat)))) (mlI (16777216 : Int) (intAt xs (3 : Nat)))), [((0 : Nat), Rw.mk Kd.old
 xs)], (1 : Nat), []), [], [(0 : Int) ≤ (0 : Int) ∧ (0 : Int) < (↑n : Int), xs[(0 : Nat)]? = some (Value.int IntKind.u8 (intAt xs (0 : Nat))), rg IntKind.i64 (intAt xs (0 : Nat)), (0 : Int) ≤ (1 : Int) ∧ (1 : Int) < (↑n :
 Int), xs[(1 : Nat)]? = some (Value.int IntKind.u8 (intAt xs (1 : Nat))), rg IntKind.i64 (intAt xs (1 : Nat)), rg IntKind.i64 (mlI (256 : Int) (intAt xs (1 : Nat))), rg IntKind.i64 (adI (intAt xs (0 : Nat)) (mlI (256 :
 Int) (intAt xs (1 : Nat)))), (0 : Int) ≤ (2 : Int) ∧ (2 : Int) < (↑n : Int), xs[(2 : Nat)]? = some (Value.int IntKind.u8 (intAt xs (2 : Nat))), rg IntKind.i64 (intAt xs (2 : Nat)), rg IntKind.i64 (mlI (65536 : Int) (intAt
 xs (2 : Nat))), rg IntKind.i64 (adI (adI (intAt xs (0 : Nat)) (mlI (256 : Int) (intAt xs (1 : Nat)))) (mlI (65536 : Int) (intAt xs (2 : Nat)))), (0 : Int) ≤ (3 : Int) ∧ (3 : Int) < (↑n : Int), xs[(3 : Nat)]? = some
 (Value.int IntKind.u8 (intAt xs (3 : Nat))), rg IntKind.i64 (intAt xs (3 : Nat)), rg IntKind.i64 (mlI (16777216 : Int) (intAt xs (3 : Nat))), rg IntKind.i64 (adI (adI (adI (intAt xs (0 : Nat)) (mlI (256 : Int) (intAt xs
 (1 : Nat)))) (mlI (65536 : Int) (intAt xs (2 : Nat)))) (mlI (16777216 : Int) (intAt xs (3 : Nat))))]) := by kernel_rfl
def n4 (xs : List Value) : Int := intAt xs 0 + 256 * intAt xs 1 + 65536 * intAt xs 2 + 16777216 * intAt xs 3
def gNum : GSpec := fun av tp => match av with
  | [.sl xs n] => some (⟨fun _ => .int .i64 (n4 xs), []⟩, tp, [Byts xs, 4 ≤ n])
  | _ => none
def nmT : TFun := orTz (mkT 40 [.s 1] gNum) (mkT 41 [.s 1] gNum)
def rsV (L : LFun) : Tv := ⟨nmT, noXz, L, fun f => bif Nat.beq f 30 then [9, 12, 23, 27, 35] else bif Nat.beq f 31 then [10, 14, 33, 37, 45] else bif Nat.beq f 22 then [10, 14, 25] else [], orSy (allSy 30 []) (orSy (allSy 31 []) (allSy 22 [])), fun _ => [], fun _ => 0⟩
def rsB (P : Program) : Code := bodyIn P 30 4
def dcB (P : Program) : Code := bodyIn P 31 5
def rsS (o n c : Nat) (out : Value) : List (Nat × Value) := [(0, .slice (some ⟨0, o, none⟩) n c), (4, out)]
def dcS (n c i : Nat) (out : Value) : List (Nat × Value) := [(0, .slice (some ⟨0, 0, none⟩) n c), (4, out), (5, .int .i64 (i : Int))]
def rsRow (ys : List Value) : Rw := ⟨.room 2 [.int .i64 0, .int .i64 0], ys⟩
theorem rd_more0 (inr : Bool) (xs : List Value) (o n c : Nat) : prjZ [0, 4] (codeZ (rsV noL) Try.prog (runZ (rsV noL) Try.prog 5) 30 inr 100000 (rsB Try.prog) (SL 37 (rsS o n c (.slice none 0 0))) [(0, ⟨.old, xs⟩)] 1 [true, false, false]) =
  Res.ok ((Xt.normal, (37 : Nat), [((0 : Nat), Value.slice (some (Addr.mk (0 : Nat) (loO (some (Value.int IntKind.i64 (8 : Int))) o (8 : Nat) c (1 : Nat)) none)) (n - (8 : Nat)) (c - (8 : Nat))), ((4 : Nat), Value.slice
 (some (Addr.mk (3 : Nat) (0 : Nat) none)) (1 : Nat) (capBig + (3 : Nat)))], [((3 : Nat), Rw.mk (Kd.room (2 : Nat) [Value.int IntKind.i64 (0 : Int), Value.int IntKind.i64 (0 : Int)]) [Value.int IntKind.i64 (n4 (tkD o n
 xs)), Value.int IntKind.i64 (n4 (tkD (loO (some (Value.int IntKind.i64 (4 : Int))) o (4 : Nat) c (1 : Nat)) (n - (4 : Nat)) xs))]), ((2 : Nat), Rw.mk Kd.shut [Value.int IntKind.i64 (n4 (tkD o n xs)), Value.int IntKind.i64
 (n4 (tkD (loO (some (Value.int IntKind.i64 (4 : Int))) o (4 : Nat) c (1 : Nat)) (n - (4 : Nat)) xs))]), ((0 : Nat), Rw.mk Kd.old xs), ((1 : Nat), Rw.mk Kd.shut [Value.int IntKind.i64 (n4 (tkD o n xs)), Value.int
 IntKind.i64 (n4 (tkD (loO (some (Value.int IntKind.i64 (4 : Int))) o (4 : Nat) c (1 : Nat)) (n - (4 : Nat)) xs))])], (4 : Nat), [], []), [], [decide ((↑n : Int) > (0 : Int)) = true, n ≤ c ∧ c ≤ (9223372036854775807 :
 Nat), adN o n ≤ List.length xs, Fl (tkD o n xs), Byts (tkD o n xs), (4 : Nat) ≤ n, c < (18446744073709551616 : Nat), (0 : Int) ≤ (4 : Int) ∧ (4 : Int) ≤ (↑n : Int), n - (4 : Nat) ≤ c - (4 : Nat) ∧ c - (4 : Nat) ≤
 (9223372036854775807 : Nat), adN (loO (some (Value.int IntKind.i64 (4 : Int))) o (4 : Nat) c (1 : Nat)) (n - (4 : Nat)) ≤ List.length xs, Fl (tkD (loO (some (Value.int IntKind.i64 (4 : Int))) o (4 : Nat) c (1 : Nat)) (n -
 (4 : Nat)) xs), Byts (tkD (loO (some (Value.int IntKind.i64 (4 : Int))) o (4 : Nat) c (1 : Nat)) (n - (4 : Nat)) xs), (4 : Nat) ≤ n - (4 : Nat), (2 : Nat) ≤ (2 : Nat), [Value.int IntKind.i64 (n4 (tkD o n xs)), Value.int
 IntKind.i64 (n4 (tkD (loO (some (Value.int IntKind.i64 (4 : Int))) o (4 : Nat) c (1 : Nat)) (n - (4 : Nat)) xs))][(0 : Nat)]? = some (Value.int IntKind.i64 (n4 (tkD o n xs))), decide (n4 (tkD o n xs) ≥ (2147483648 : Int))
 = false, [Value.int IntKind.i64 (n4 (tkD o n xs)), Value.int IntKind.i64 (n4 (tkD (loO (some (Value.int IntKind.i64 (4 : Int))) o (4 : Nat) c (1 : Nat)) (n - (4 : Nat)) xs))][(1 : Nat)]? = some (Value.int IntKind.i64 (n4
 (tkD (loO (some (Value.int IntKind.i64 (4 : Int))) o (4 : Nat) c (1 : Nat)) (n - (4 : Nat)) xs))), decide (n4 (tkD (loO (some (Value.int IntKind.i64 (4 : Int))) o (4 : Nat) c (1 : Nat)) (n - (4 : Nat)) xs) ≥ (2147483648 :
 Int)) = false, [Value.int IntKind.i64 (n4 (tkD o n xs)), Value.int IntKind.i64 (n4 (tkD (loO (some (Value.int IntKind.i64 (4 : Int))) o (4 : Nat) c (1 : Nat)) (n - (4 : Nat)) xs))] = [Value.int IntKind.i64 (n4 (tkD o n
 xs)), Value.int IntKind.i64 (n4 (tkD (loO (some (Value.int IntKind.i64 (4 : Int))) o (4 : Nat) c (1 : Nat)) (n - (4 : Nat)) xs))], (1 : Nat) ≠ (0 : Nat), (16 : Nat) ≤ (140737488355328 : Nat) ∧ (1 : Nat) ≤
 (9223372036854775807 : Nat), (2 : Nat) ≤ (2 : Nat), true = true, c < (18446744073709551616 : Nat), (0 : Int) ≤ (8 : Int) ∧ (8 : Int) ≤ (↑n : Int)]) := by kernel_rfl
theorem rd_more1 (inr : Bool) (xs ys : List Value) (o n c m : Nat) : prjZ [0, 4] (codeZ (rsV noL) Try.prog (runZ (rsV noL) Try.prog 5) 30 inr 100000 (rsB Try.prog) (SL 37 (rsS o n c (.slice (some ⟨1, 0, none⟩) m (capBig + 1)))) [(0, ⟨.old, xs⟩), (1, rsRow ys)] 2 [true, false, false]) =
  Res.ok ((Xt.normal, (37 : Nat), [((0 : Nat), Value.slice (some (Addr.mk (0 : Nat) (loO (some (Value.int IntKind.i64 (8 : Int))) o (8 : Nat) c (1 : Nat)) none)) (n - (8 : Nat)) (c - (8 : Nat))), ((4 : Nat), Value.slice
 (some (Addr.mk (4 : Nat) (0 : Nat) none)) (m + (1 : Nat)) (capBig + (4 : Nat)))], [((4 : Nat), Rw.mk (Kd.room (2 : Nat) [Value.int IntKind.i64 (0 : Int), Value.int IntKind.i64 (0 : Int)]) (ys ++ [Value.int IntKind.i64 (n4
 (tkD o n xs)), Value.int IntKind.i64 (n4 (tkD (loO (some (Value.int IntKind.i64 (4 : Int))) o (4 : Nat) c (1 : Nat)) (n - (4 : Nat)) xs))])), ((3 : Nat), Rw.mk Kd.shut [Value.int IntKind.i64 (n4 (tkD o n xs)), Value.int
 IntKind.i64 (n4 (tkD (loO (some (Value.int IntKind.i64 (4 : Int))) o (4 : Nat) c (1 : Nat)) (n - (4 : Nat)) xs))]), ((0 : Nat), Rw.mk Kd.old xs), ((2 : Nat), Rw.mk Kd.shut [Value.int IntKind.i64 (n4 (tkD o n xs)),
 Value.int IntKind.i64 (n4 (tkD (loO (some (Value.int IntKind.i64 (4 : Int))) o (4 : Nat) c (1 : Nat)) (n - (4 : Nat)) xs))])], (5 : Nat), [(1 : Nat)], []), [], [decide ((↑n : Int) > (0 : Int)) = true, n ≤ c ∧ c ≤
 (9223372036854775807 : Nat), adN o n ≤ List.length xs, Fl (tkD o n xs), Byts (tkD o n xs), (4 : Nat) ≤ n, c < (18446744073709551616 : Nat), (0 : Int) ≤ (4 : Int) ∧ (4 : Int) ≤ (↑n : Int), n - (4 : Nat) ≤ c - (4 : Nat) ∧ c
 - (4 : Nat) ≤ (9223372036854775807 : Nat), adN (loO (some (Value.int IntKind.i64 (4 : Int))) o (4 : Nat) c (1 : Nat)) (n - (4 : Nat)) ≤ List.length xs, Fl (tkD (loO (some (Value.int IntKind.i64 (4 : Int))) o (4 : Nat) c
 (1 : Nat)) (n - (4 : Nat)) xs), Byts (tkD (loO (some (Value.int IntKind.i64 (4 : Int))) o (4 : Nat) c (1 : Nat)) (n - (4 : Nat)) xs), (4 : Nat) ≤ n - (4 : Nat), (2 : Nat) ≤ (2 : Nat), [Value.int IntKind.i64 (n4 (tkD o n
 xs)), Value.int IntKind.i64 (n4 (tkD (loO (some (Value.int IntKind.i64 (4 : Int))) o (4 : Nat) c (1 : Nat)) (n - (4 : Nat)) xs))][(0 : Nat)]? = some (Value.int IntKind.i64 (n4 (tkD o n xs))), decide (n4 (tkD o n xs) ≥
 (2147483648 : Int)) = false, [Value.int IntKind.i64 (n4 (tkD o n xs)), Value.int IntKind.i64 (n4 (tkD (loO (some (Value.int IntKind.i64 (4 : Int))) o (4 : Nat) c (1 : Nat)) (n - (4 : Nat)) xs))][(1 : Nat)]? = some
 (Value.int IntKind.i64 (n4 (tkD (loO (some (Value.int IntKind.i64 (4 : Int))) o (4 : Nat) c (1 : Nat)) (n - (4 : Nat)) xs))), decide (n4 (tkD (loO (some (Value.int IntKind.i64 (4 : Int))) o (4 : Nat) c (1 : Nat)) (n - (4
 : Nat)) xs) ≥ (2147483648 : Int)) = false, [Value.int IntKind.i64 (n4 (tkD o n xs)), Value.int IntKind.i64 (n4 (tkD (loO (some (Value.int IntKind.i64 (4 : Int))) o (4 : Nat) c (1 : Nat)) (n - (4 : Nat)) xs))] = [Value.int
 IntKind.i64 (n4 (tkD o n xs)), Value.int IntKind.i64 (n4 (tkD (loO (some (Value.int IntKind.i64 (4 : Int))) o (4 : Nat) c (1 : Nat)) (n - (4 : Nat)) xs))], capBig + (1 : Nat) = capBig + (1 : Nat), List.length ys = m * (2
 : Nat), (m + (1 : Nat)) * (16 : Nat) ≤ (140737488355328 : Nat) ∧ m + (1 : Nat) ≤ (9223372036854775807 : Nat), (2 : Nat) ≤ (2 : Nat), true = true, c < (18446744073709551616 : Nat), (0 : Int) ≤ (8 : Int) ∧ (8 : Int) ≤ (↑n :
 Int)]) := by kernel_rfl
theorem rd_bada0 (inr : Bool) (xs : List Value) (o n c : Nat) : prjZ [2, 3] (codeZ (rsV noL) Try.prog (runZ (rsV noL) Try.prog 5) 30 inr 100000 (rsB Try.prog) (SL 37 (rsS o n c (.slice none 0 0))) [(0, ⟨.old, xs⟩)] 1 [true, true]) =
  Res.ok ((Xt.ret, (37 : Nat), [((2 : Nat), Value.slice none (0 : Nat) (0 : Nat)), ((3 : Nat), Value.int IntKind.i64 (4 : Int))], [((0 : Nat), Rw.mk Kd.old xs), ((1 : Nat), Rw.mk Kd.shut [Value.int IntKind.i64 (n4 (tkD o n
 xs)), Value.int IntKind.i64 (n4 (tkD (loO (some (Value.int IntKind.i64 (4 : Int))) o (4 : Nat) c (1 : Nat)) (n - (4 : Nat)) xs))])], (2 : Nat), [], []), [], [decide ((↑n : Int) > (0 : Int)) = true, n ≤ c ∧ c ≤
 (9223372036854775807 : Nat), adN o n ≤ List.length xs, Fl (tkD o n xs), Byts (tkD o n xs), (4 : Nat) ≤ n, c < (18446744073709551616 : Nat), (0 : Int) ≤ (4 : Int) ∧ (4 : Int) ≤ (↑n : Int), n - (4 : Nat) ≤ c - (4 : Nat) ∧ c
 - (4 : Nat) ≤ (9223372036854775807 : Nat), adN (loO (some (Value.int IntKind.i64 (4 : Int))) o (4 : Nat) c (1 : Nat)) (n - (4 : Nat)) ≤ List.length xs, Fl (tkD (loO (some (Value.int IntKind.i64 (4 : Int))) o (4 : Nat) c
 (1 : Nat)) (n - (4 : Nat)) xs), Byts (tkD (loO (some (Value.int IntKind.i64 (4 : Int))) o (4 : Nat) c (1 : Nat)) (n - (4 : Nat)) xs), (4 : Nat) ≤ n - (4 : Nat), (2 : Nat) ≤ (2 : Nat), [Value.int IntKind.i64 (n4 (tkD o n
 xs)), Value.int IntKind.i64 (n4 (tkD (loO (some (Value.int IntKind.i64 (4 : Int))) o (4 : Nat) c (1 : Nat)) (n - (4 : Nat)) xs))][(0 : Nat)]? = some (Value.int IntKind.i64 (n4 (tkD o n xs))), decide (n4 (tkD o n xs) ≥
 (2147483648 : Int)) = true]) := by kernel_rfl
theorem rd_bada1 (inr : Bool) (xs ys : List Value) (o n c m : Nat) : prjZ [2, 3] (codeZ (rsV noL) Try.prog (runZ (rsV noL) Try.prog 5) 30 inr 100000 (rsB Try.prog) (SL 37 (rsS o n c (.slice (some ⟨1, 0, none⟩) m (capBig + 1)))) [(0, ⟨.old, xs⟩), (1, rsRow ys)] 2 [true, true]) =
  Res.ok ((Xt.ret, (37 : Nat), [((2 : Nat), Value.slice none (0 : Nat) (0 : Nat)), ((3 : Nat), Value.int IntKind.i64 (4 : Int))], [((0 : Nat), Rw.mk Kd.old xs), ((1 : Nat), Rw.mk (Kd.room (2 : Nat) [Value.int IntKind.i64 (0
 : Int), Value.int IntKind.i64 (0 : Int)]) ys), ((2 : Nat), Rw.mk Kd.shut [Value.int IntKind.i64 (n4 (tkD o n xs)), Value.int IntKind.i64 (n4 (tkD (loO (some (Value.int IntKind.i64 (4 : Int))) o (4 : Nat) c (1 : Nat)) (n -
 (4 : Nat)) xs))])], (3 : Nat), [], []), [], [decide ((↑n : Int) > (0 : Int)) = true, n ≤ c ∧ c ≤ (9223372036854775807 : Nat), adN o n ≤ List.length xs, Fl (tkD o n xs), Byts (tkD o n xs), (4 : Nat) ≤ n, c <
 (18446744073709551616 : Nat), (0 : Int) ≤ (4 : Int) ∧ (4 : Int) ≤ (↑n : Int), n - (4 : Nat) ≤ c - (4 : Nat) ∧ c - (4 : Nat) ≤ (9223372036854775807 : Nat), adN (loO (some (Value.int IntKind.i64 (4 : Int))) o (4 : Nat) c (1
 : Nat)) (n - (4 : Nat)) ≤ List.length xs, Fl (tkD (loO (some (Value.int IntKind.i64 (4 : Int))) o (4 : Nat) c (1 : Nat)) (n - (4 : Nat)) xs), Byts (tkD (loO (some (Value.int IntKind.i64 (4 : Int))) o (4 : Nat) c (1 :
 Nat)) (n - (4 : Nat)) xs), (4 : Nat) ≤ n - (4 : Nat), (2 : Nat) ≤ (2 : Nat), [Value.int IntKind.i64 (n4 (tkD o n xs)), Value.int IntKind.i64 (n4 (tkD (loO (some (Value.int IntKind.i64 (4 : Int))) o (4 : Nat) c (1 : Nat))
 (n - (4 : Nat)) xs))][(0 : Nat)]? = some (Value.int IntKind.i64 (n4 (tkD o n xs))), decide (n4 (tkD o n xs) ≥ (2147483648 : Int)) = true]) := by kernel_rfl
theorem rd_badb0 (inr : Bool) (xs : List Value) (o n c : Nat) : prjZ [2, 3] (codeZ (rsV noL) Try.prog (runZ (rsV noL) Try.prog 5) 30 inr 100000 (rsB Try.prog) (SL 37 (rsS o n c (.slice none 0 0))) [(0, ⟨.old, xs⟩)] 1 [true, false, true]) =
  Res.ok ((Xt.ret, (37 : Nat), [((2 : Nat), Value.slice none (0 : Nat) (0 : Nat)), ((3 : Nat), Value.int IntKind.i64 (4 : Int))], [((0 : Nat), Rw.mk Kd.old xs), ((1 : Nat), Rw.mk Kd.shut [Value.int IntKind.i64 (n4 (tkD o n
 xs)), Value.int IntKind.i64 (n4 (tkD (loO (some (Value.int IntKind.i64 (4 : Int))) o (4 : Nat) c (1 : Nat)) (n - (4 : Nat)) xs))])], (2 : Nat), [], []), [], [decide ((↑n : Int) > (0 : Int)) = true, n ≤ c ∧ c ≤
 (9223372036854775807 : Nat), adN o n ≤ List.length xs, Fl (tkD o n xs), Byts (tkD o n xs), (4 : Nat) ≤ n, c < (18446744073709551616 : Nat), (0 : Int) ≤ (4 : Int) ∧ (4 : Int) ≤ (↑n : Int), n - (4 : Nat) ≤ c - (4 : Nat) ∧ c
 - (4 : Nat) ≤ (9223372036854775807 : Nat), adN (loO (some (Value.int IntKind.i64 (4 : Int))) o (4 : Nat) c (1 : Nat)) (n - (4 : Nat)) ≤ List.length xs, Fl (tkD (loO (some (Value.int IntKind.i64 (4 : Int))) o (4 : Nat) c
 (1 : Nat)) (n - (4 : Nat)) xs), Byts (tkD (loO (some (Value.int IntKind.i64 (4 : Int))) o (4 : Nat) c (1 : Nat)) (n - (4 : Nat)) xs), (4 : Nat) ≤ n - (4 : Nat), (2 : Nat) ≤ (2 : Nat), [Value.int IntKind.i64 (n4 (tkD o n
 xs)), Value.int IntKind.i64 (n4 (tkD (loO (some (Value.int IntKind.i64 (4 : Int))) o (4 : Nat) c (1 : Nat)) (n - (4 : Nat)) xs))][(0 : Nat)]? = some (Value.int IntKind.i64 (n4 (tkD o n xs))), decide (n4 (tkD o n xs) ≥
 (2147483648 : Int)) = false, [Value.int IntKind.i64 (n4 (tkD o n xs)), Value.int IntKind.i64 (n4 (tkD (loO (some (Value.int IntKind.i64 (4 : Int))) o (4 : Nat) c (1 : Nat)) (n - (4 : Nat)) xs))][(1 : Nat)]? = some
 (Value.int IntKind.i64 (n4 (tkD (loO (some (Value.int IntKind.i64 (4 : Int))) o (4 : Nat) c (1 : Nat)) (n - (4 : Nat)) xs))), decide (n4 (tkD (loO (some (Value.int IntKind.i64 (4 : Int))) o (4 : Nat) c (1 : Nat)) (n - (4
 : Nat)) xs) ≥ (2147483648 : Int)) = true]) := by kernel_rfl
theorem rd_badb1 (inr : Bool) (xs ys : List Value) (o n c m : Nat) : prjZ [2, 3] (codeZ (rsV noL) Try.prog (runZ (rsV noL) Try.prog 5) 30 inr 100000 (rsB Try.prog) (SL 37 (rsS o n c (.slice (some ⟨1, 0, none⟩) m (capBig + 1)))) [(0, ⟨.old, xs⟩), (1, rsRow ys)] 2 [true, false, true]) =
  Res.ok ((Xt.ret, (37 : Nat), [((2 : Nat), Value.slice none (0 : Nat) (0 : Nat)), ((3 : Nat), Value.int IntKind.i64 (4 : Int))], [((0 : Nat), Rw.mk Kd.old xs), ((1 : Nat), Rw.mk (Kd.room (2 : Nat) [Value.int IntKind.i64 (0
 : Int), Value.int IntKind.i64 (0 : Int)]) ys), ((2 : Nat), Rw.mk Kd.shut [Value.int IntKind.i64 (n4 (tkD o n xs)), Value.int IntKind.i64 (n4 (tkD (loO (some (Value.int IntKind.i64 (4 : Int))) o (4 : Nat) c (1 : Nat)) (n -
 (4 : Nat)) xs))])], (3 : Nat), [], []), [], [decide ((↑n : Int) > (0 : Int)) = true, n ≤ c ∧ c ≤ (9223372036854775807 : Nat), adN o n ≤ List.length xs, Fl (tkD o n xs), Byts (tkD o n xs), (4 : Nat) ≤ n, c <
 (18446744073709551616 : Nat), (0 : Int) ≤ (4 : Int) ∧ (4 : Int) ≤ (↑n : Int), n - (4 : Nat) ≤ c - (4 : Nat) ∧ c - (4 : Nat) ≤ (9223372036854775807 : Nat), adN (loO (some (Value.int IntKind.i64 (4 : Int))) o (4 : Nat) c (1
 : Nat)) (n - (4 : Nat)) ≤ List.length xs, Fl (tkD (loO (some (Value.int IntKind.i64 (4 : Int))) o (4 : Nat) c (1 : Nat)) (n - (4 : Nat)) xs), Byts (tkD (loO (some (Value.int IntKind.i64 (4 : Int))) o (4 : Nat) c (1 :
 Nat)) (n - (4 : Nat)) xs), (4 : Nat) ≤ n - (4 : Nat), (2 : Nat) ≤ (2 : Nat), [Value.int IntKind.i64 (n4 (tkD o n xs)), Value.int IntKind.i64 (n4 (tkD (loO (some (Value.int IntKind.i64 (4 : Int))) o (4 : Nat) c (1 : Nat))
 (n - (4 : Nat)) xs))][(0 : Nat)]? = some (Value.int IntKind.i64 (n4 (tkD o n xs))), decide (n4 (tkD o n xs) ≥ (2147483648 : Int)) = false, [Value.int IntKind.i64 (n4 (tkD o n xs)), Value.int IntKind.i64 (n4 (tkD (loO
 (some (Value.int IntKind.i64 (4 : Int))) o (4 : Nat) c (1 : Nat)) (n - (4 : Nat)) xs))][(1 : Nat)]? = some (Value.int IntKind.i64 (n4 (tkD (loO (some (Value.int IntKind.i64 (4 : Int))) o (4 : Nat) c (1 : Nat)) (n - (4 :
 Nat)) xs))), decide (n4 (tkD (loO (some (Value.int IntKind.i64 (4 : Int))) o (4 : Nat) c (1 : Nat)) (n - (4 : Nat)) xs) ≥ (2147483648 : Int)) = true]) := by kernel_rfl
theorem rd_done0 (inr : Bool) (xs : List Value) (o n c : Nat) : prjZ [4] (codeZ (rsV noL) Try.prog (runZ (rsV noL) Try.prog 5) 30 inr 100000 (rsB Try.prog) (SL 37 (rsS o n c (.slice none 0 0))) [(0, ⟨.old, xs⟩)] 1 [false]) =
  Res.ok ((Xt.exit (0 : Nat), (37 : Nat), [((4 : Nat), Value.slice none (0 : Nat) (0 : Nat))], [((0 : Nat), Rw.mk Kd.old xs)], (1 : Nat), [], []), [], [decide ((↑n : Int) > (0 : Int)) = false]) := by kernel_rfl
theorem rd_done1 (inr : Bool) (xs ys : List Value) (o n c m : Nat) : prjZ [4] (codeZ (rsV noL) Try.prog (runZ (rsV noL) Try.prog 5) 30 inr 100000 (rsB Try.prog) (SL 37 (rsS o n c (.slice (some ⟨1, 0, none⟩) m (capBig + 1)))) [(0, ⟨.old, xs⟩), (1, rsRow ys)] 2 [false]) =
  Res.ok ((Xt.exit (0 : Nat), (37 : Nat), [((4 : Nat), Value.slice (some (Addr.mk (1 : Nat) (0 : Nat) none)) m (capBig + (1 : Nat)))], [((0 : Nat), Rw.mk Kd.old xs), ((1 : Nat), Rw.mk (Kd.room (2 : Nat) [Value.int
 IntKind.i64 (0 : Int), Value.int IntKind.i64 (0 : Int)]) ys)], (2 : Nat), [], []), [], [decide ((↑n : Int) > (0 : Int)) = false]) := by kernel_rfl
theorem dc_more0 (inr : Bool) (xs : List Value) (n c i : Nat) : prjZ [0, 4, 5] (codeZ (rsV noL) Try.prog (runZ (rsV noL) Try.prog 5) 31 inr 100000 (dcB Try.prog) (SL 47 (dcS n c i (.slice none 0 0))) [(0, ⟨.old, xs⟩)] 1 [true, false, false]) =
  Res.ok ((Xt.normal, (47 : Nat), [((0 : Nat), Value.slice (some (Addr.mk (0 : Nat) (0 : Nat) none)) n c), ((4 : Nat), Value.slice (some (Addr.mk (3 : Nat) (0 : Nat) none)) (1 : Nat) (capBig + (3 : Nat))), ((5 : Nat),
 Value.int IntKind.i64 (↑(i + (8 : Nat)) : Int))], [((3 : Nat), Rw.mk (Kd.room (2 : Nat) [Value.int IntKind.i64 (0 : Int), Value.int IntKind.i64 (0 : Int)]) [Value.int IntKind.i64 (n4 (tkD (loO (some (Value.int IntKind.i64
 (↑i : Int))) (0 : Nat) i c (1 : Nat)) (sbN (i + (4 : Nat)) i) xs)), Value.int IntKind.i64 (n4 (tkD (loO (some (Value.int IntKind.i64 (↑(i + (4 : Nat)) : Int))) (0 : Nat) (i + (4 : Nat)) c (1 : Nat)) (sbN (i + (8 : Nat))
 (i + (4 : Nat))) xs))]), ((2 : Nat), Rw.mk Kd.shut [Value.int IntKind.i64 (n4 (tkD (loO (some (Value.int IntKind.i64 (↑i : Int))) (0 : Nat) i c (1 : Nat)) (sbN (i + (4 : Nat)) i) xs)), Value.int IntKind.i64 (n4 (tkD (loO
 (some (Value.int IntKind.i64 (↑(i + (4 : Nat)) : Int))) (0 : Nat) (i + (4 : Nat)) c (1 : Nat)) (sbN (i + (8 : Nat)) (i + (4 : Nat))) xs))]), ((0 : Nat), Rw.mk Kd.old xs), ((1 : Nat), Rw.mk Kd.shut [Value.int IntKind.i64
 (n4 (tkD (loO (some (Value.int IntKind.i64 (↑i : Int))) (0 : Nat) i c (1 : Nat)) (sbN (i + (4 : Nat)) i) xs)), Value.int IntKind.i64 (n4 (tkD (loO (some (Value.int IntKind.i64 (↑(i + (4 : Nat)) : Int))) (0 : Nat) (i + (4
 : Nat)) c (1 : Nat)) (sbN (i + (8 : Nat)) (i + (4 : Nat))) xs))])], (4 : Nat), [], []), [], [decide ((↑i : Int) < (↑n : Int)) = true, rg IntKind.i64 (↑(i + (4 : Nat)) : Int), c < (18446744073709551616 : Nat), (0 : Int) ≤
 (↑(i + (4 : Nat)) : Int) ∧ (↑(i + (4 : Nat)) : Int) ≤ (↑c : Int), (0 : Int) ≤ (↑i : Int) ∧ (↑i : Int) ≤ (↑(i + (4 : Nat)) : Int), sbN (i + (4 : Nat)) i ≤ sbN c i ∧ sbN c i ≤ (9223372036854775807 : Nat), adN (loO (some
 (Value.int IntKind.i64 (↑i : Int))) (0 : Nat) i c (1 : Nat)) (sbN (i + (4 : Nat)) i) ≤ List.length xs, Fl (tkD (loO (some (Value.int IntKind.i64 (↑i : Int))) (0 : Nat) i c (1 : Nat)) (sbN (i + (4 : Nat)) i) xs), Byts (tkD
 (loO (some (Value.int IntKind.i64 (↑i : Int))) (0 : Nat) i c (1 : Nat)) (sbN (i + (4 : Nat)) i) xs), (4 : Nat) ≤ sbN (i + (4 : Nat)) i, rg IntKind.i64 (↑(i + (4 : Nat)) : Int), rg IntKind.i64 (↑(i + (8 : Nat)) : Int), c <
 (18446744073709551616 : Nat), (0 : Int) ≤ (↑(i + (8 : Nat)) : Int) ∧ (↑(i + (8 : Nat)) : Int) ≤ (↑c : Int), (0 : Int) ≤ (↑(i + (4 : Nat)) : Int) ∧ (↑(i + (4 : Nat)) : Int) ≤ (↑(i + (8 : Nat)) : Int), sbN (i + (8 : Nat))
 (i + (4 : Nat)) ≤ sbN c (i + (4 : Nat)) ∧ sbN c (i + (4 : Nat)) ≤ (9223372036854775807 : Nat), adN (loO (some (Value.int IntKind.i64 (↑(i + (4 : Nat)) : Int))) (0 : Nat) (i + (4 : Nat)) c (1 : Nat)) (sbN (i + (8 : Nat))
 (i + (4 : Nat))) ≤ List.length xs, Fl (tkD (loO (some (Value.int IntKind.i64 (↑(i + (4 : Nat)) : Int))) (0 : Nat) (i + (4 : Nat)) c (1 : Nat)) (sbN (i + (8 : Nat)) (i + (4 : Nat))) xs), Byts (tkD (loO (some (Value.int
 IntKind.i64 (↑(i + (4 : Nat)) : Int))) (0 : Nat) (i + (4 : Nat)) c (1 : Nat)) (sbN (i + (8 : Nat)) (i + (4 : Nat))) xs), (4 : Nat) ≤ sbN (i + (8 : Nat)) (i + (4 : Nat)), (2 : Nat) ≤ (2 : Nat), [Value.int IntKind.i64 (n4
 (tkD (loO (some (Value.int IntKind.i64 (↑i : Int))) (0 : Nat) i c (1 : Nat)) (sbN (i + (4 : Nat)) i) xs)), Value.int IntKind.i64 (n4 (tkD (loO (some (Value.int IntKind.i64 (↑(i + (4 : Nat)) : Int))) (0 : Nat) (i + (4 :
 Nat)) c (1 : Nat)) (sbN (i + (8 : Nat)) (i + (4 : Nat))) xs))][(0 : Nat)]? = some (Value.int IntKind.i64 (n4 (tkD (loO (some (Value.int IntKind.i64 (↑i : Int))) (0 : Nat) i c (1 : Nat)) (sbN (i + (4 : Nat)) i) xs))),
 decide (n4 (tkD (loO (some (Value.int IntKind.i64 (↑i : Int))) (0 : Nat) i c (1 : Nat)) (sbN (i + (4 : Nat)) i) xs) > (2147483647 : Int)) = false, [Value.int IntKind.i64 (n4 (tkD (loO (some (Value.int IntKind.i64 (↑i :
 Int))) (0 : Nat) i c (1 : Nat)) (sbN (i + (4 : Nat)) i) xs)), Value.int IntKind.i64 (n4 (tkD (loO (some (Value.int IntKind.i64 (↑(i + (4 : Nat)) : Int))) (0 : Nat) (i + (4 : Nat)) c (1 : Nat)) (sbN (i + (8 : Nat)) (i + (4
 : Nat))) xs))][(1 : Nat)]? = some (Value.int IntKind.i64 (n4 (tkD (loO (some (Value.int IntKind.i64 (↑(i + (4 : Nat)) : Int))) (0 : Nat) (i + (4 : Nat)) c (1 : Nat)) (sbN (i + (8 : Nat)) (i + (4 : Nat))) xs))), decide (n4
 (tkD (loO (some (Value.int IntKind.i64 (↑(i + (4 : Nat)) : Int))) (0 : Nat) (i + (4 : Nat)) c (1 : Nat)) (sbN (i + (8 : Nat)) (i + (4 : Nat))) xs) > (2147483647 : Int)) = false, [Value.int IntKind.i64 (n4 (tkD (loO (some
 (Value.int IntKind.i64 (↑i : Int))) (0 : Nat) i c (1 : Nat)) (sbN (i + (4 : Nat)) i) xs)), Value.int IntKind.i64 (n4 (tkD (loO (some (Value.int IntKind.i64 (↑(i + (4 : Nat)) : Int))) (0 : Nat) (i + (4 : Nat)) c (1 : Nat))
 (sbN (i + (8 : Nat)) (i + (4 : Nat))) xs))] = [Value.int IntKind.i64 (n4 (tkD (loO (some (Value.int IntKind.i64 (↑i : Int))) (0 : Nat) i c (1 : Nat)) (sbN (i + (4 : Nat)) i) xs)), Value.int IntKind.i64 (n4 (tkD (loO (some
 (Value.int IntKind.i64 (↑(i + (4 : Nat)) : Int))) (0 : Nat) (i + (4 : Nat)) c (1 : Nat)) (sbN (i + (8 : Nat)) (i + (4 : Nat))) xs))], (1 : Nat) ≠ (0 : Nat), (16 : Nat) ≤ (140737488355328 : Nat) ∧ (1 : Nat) ≤
 (9223372036854775807 : Nat), (2 : Nat) ≤ (2 : Nat), true = true, rg IntKind.i64 (↑(i + (8 : Nat)) : Int)]) := by kernel_rfl
theorem dc_more1 (inr : Bool) (xs ys : List Value) (n c i m : Nat) : prjZ [0, 4, 5] (codeZ (rsV noL) Try.prog (runZ (rsV noL) Try.prog 5) 31 inr 100000 (dcB Try.prog) (SL 47 (dcS n c i (.slice (some ⟨1, 0, none⟩) m (capBig + 1)))) [(0, ⟨.old, xs⟩), (1, rsRow ys)] 2 [true, false, false]) =
  Res.ok ((Xt.normal, (47 : Nat), [((0 : Nat), Value.slice (some (Addr.mk (0 : Nat) (0 : Nat) none)) n c), ((4 : Nat), Value.slice (some (Addr.mk (4 : Nat) (0 : Nat) none)) (m + (1 : Nat)) (capBig + (4 : Nat))), ((5 : Nat),
 Value.int IntKind.i64 (↑(i + (8 : Nat)) : Int))], [((4 : Nat), Rw.mk (Kd.room (2 : Nat) [Value.int IntKind.i64 (0 : Int), Value.int IntKind.i64 (0 : Int)]) (ys ++ [Value.int IntKind.i64 (n4 (tkD (loO (some (Value.int
 IntKind.i64 (↑i : Int))) (0 : Nat) i c (1 : Nat)) (sbN (i + (4 : Nat)) i) xs)), Value.int IntKind.i64 (n4 (tkD (loO (some (Value.int IntKind.i64 (↑(i + (4 : Nat)) : Int))) (0 : Nat) (i + (4 : Nat)) c (1 : Nat)) (sbN (i +
 (8 : Nat)) (i + (4 : Nat))) xs))])), ((3 : Nat), Rw.mk Kd.shut [Value.int IntKind.i64 (n4 (tkD (loO (some (Value.int IntKind.i64 (↑i : Int))) (0 : Nat) i c (1 : Nat)) (sbN (i + (4 : Nat)) i) xs)), Value.int IntKind.i64
 (n4 (tkD (loO (some (Value.int IntKind.i64 (↑(i + (4 : Nat)) : Int))) (0 : Nat) (i + (4 : Nat)) c (1 : Nat)) (sbN (i + (8 : Nat)) (i + (4 : Nat))) xs))]), ((0 : Nat), Rw.mk Kd.old xs), ((2 : Nat), Rw.mk Kd.shut [Value.int
 IntKind.i64 (n4 (tkD (loO (some (Value.int IntKind.i64 (↑i : Int))) (0 : Nat) i c (1 : Nat)) (sbN (i + (4 : Nat)) i) xs)), Value.int IntKind.i64 (n4 (tkD (loO (some (Value.int IntKind.i64 (↑(i + (4 : Nat)) : Int))) (0 :
 Nat) (i + (4 : Nat)) c (1 : Nat)) (sbN (i + (8 : Nat)) (i + (4 : Nat))) xs))])], (5 : Nat), [(1 : Nat)], []), [], [decide ((↑i : Int) < (↑n : Int)) = true, rg IntKind.i64 (↑(i + (4 : Nat)) : Int), c <
 (18446744073709551616 : Nat), (0 : Int) ≤ (↑(i + (4 : Nat)) : Int) ∧ (↑(i + (4 : Nat)) : Int) ≤ (↑c : Int), (0 : Int) ≤ (↑i : Int) ∧ (↑i : Int) ≤ (↑(i + (4 : Nat)) : Int), sbN (i + (4 : Nat)) i ≤ sbN c i ∧ sbN c i ≤
 (9223372036854775807 : Nat), adN (loO (some (Value.int IntKind.i64 (↑i : Int))) (0 : Nat) i c (1 : Nat)) (sbN (i + (4 : Nat)) i) ≤ List.length xs, Fl (tkD (loO (some (Value.int IntKind.i64 (↑i : Int))) (0 : Nat) i c (1 :
 Nat)) (sbN (i + (4 : Nat)) i) xs), Byts (tkD (loO (some (Value.int IntKind.i64 (↑i : Int))) (0 : Nat) i c (1 : Nat)) (sbN (i + (4 : Nat)) i) xs), (4 : Nat) ≤ sbN (i + (4 : Nat)) i, rg IntKind.i64 (↑(i + (4 : Nat)) : Int),
 rg IntKind.i64 (↑(i + (8 : Nat)) : Int), c < (18446744073709551616 : Nat), (0 : Int) ≤ (↑(i + (8 : Nat)) : Int) ∧ (↑(i + (8 : Nat)) : Int) ≤ (↑c : Int), (0 : Int) ≤ (↑(i + (4 : Nat)) : Int) ∧ (↑(i + (4 : Nat)) : Int) ≤
 (↑(i + (8 : Nat)) : Int), sbN (i + (8 : Nat)) (i + (4 : Nat)) ≤ sbN c (i + (4 : Nat)) ∧ sbN c (i + (4 : Nat)) ≤ (9223372036854775807 : Nat), adN (loO (some (Value.int IntKind.i64 (↑(i + (4 : Nat)) : Int))) (0 : Nat) (i +
 (4 : Nat)) c (1 : Nat)) (sbN (i + (8 : Nat)) (i + (4 : Nat))) ≤ List.length xs, Fl (tkD (loO (some (Value.int IntKind.i64 (↑(i + (4 : Nat)) : Int))) (0 : Nat) (i + (4 : Nat)) c (1 : Nat)) (sbN (i + (8 : Nat)) (i + (4 :
 Nat))) xs), Byts (tkD (loO (some (Value.int IntKind.i64 (↑(i + (4 : Nat)) : Int))) (0 : Nat) (i + (4 : Nat)) c (1 : Nat)) (sbN (i + (8 : Nat)) (i + (4 : Nat))) xs), (4 : Nat) ≤ sbN (i + (8 : Nat)) (i + (4 : Nat)), (2 :
 Nat) ≤ (2 : Nat), [Value.int IntKind.i64 (n4 (tkD (loO (some (Value.int IntKind.i64 (↑i : Int))) (0 : Nat) i c (1 : Nat)) (sbN (i + (4 : Nat)) i) xs)), Value.int IntKind.i64 (n4 (tkD (loO (some (Value.int IntKind.i64 (↑(i
 + (4 : Nat)) : Int))) (0 : Nat) (i + (4 : Nat)) c (1 : Nat)) (sbN (i + (8 : Nat)) (i + (4 : Nat))) xs))][(0 : Nat)]? = some (Value.int IntKind.i64 (n4 (tkD (loO (some (Value.int IntKind.i64 (↑i : Int))) (0 : Nat) i c (1 :
 Nat)) (sbN (i + (4 : Nat)) i) xs))), decide (n4 (tkD (loO (some (Value.int IntKind.i64 (↑i : Int))) (0 : Nat) i c (1 : Nat)) (sbN (i + (4 : Nat)) i) xs) > (2147483647 : Int)) = false, [Value.int IntKind.i64 (n4 (tkD (loO
 (some (Value.int IntKind.i64 (↑i : Int))) (0 : Nat) i c (1 : Nat)) (sbN (i + (4 : Nat)) i) xs)), Value.int IntKind.i64 (n4 (tkD (loO (some (Value.int IntKind.i64 (↑(i + (4 : Nat)) : Int))) (0 : Nat) (i + (4 : Nat)) c (1 :
 Nat)) (sbN (i + (8 : Nat)) (i + (4 : Nat))) xs))][(1 : Nat)]? = some (Value.int IntKind.i64 (n4 (tkD (loO (some (Value.int IntKind.i64 (↑(i + (4 : Nat)) : Int))) (0 : Nat) (i + (4 : Nat)) c (1 : Nat)) (sbN (i + (8 : Nat))
 (i + (4 : Nat))) xs))), decide (n4 (tkD (loO (some (Value.int IntKind.i64 (↑(i + (4 : Nat)) : Int))) (0 : Nat) (i + (4 : Nat)) c (1 : Nat)) (sbN (i + (8 : Nat)) (i + (4 : Nat))) xs) > (2147483647 : Int)) = false,
 [Value.int IntKind.i64 (n4 (tkD (loO (some (Value.int IntKind.i64 (↑i : Int))) (0 : Nat) i c (1 : Nat)) (sbN (i + (4 : Nat)) i) xs)), Value.int IntKind.i64 (n4 (tkD (loO (some (Value.int IntKind.i64 (↑(i + (4 : Nat)) :
 Int))) (0 : Nat) (i + (4 : Nat)) c (1 : Nat)) (sbN (i + (8 : Nat)) (i + (4 : Nat))) xs))] = [Value.int IntKind.i64 (n4 (tkD (loO (some (Value.int IntKind.i64 (↑i : Int))) (0 : Nat) i c (1 : Nat)) (sbN (i + (4 : Nat)) i)
 xs)), Value.int IntKind.i64 (n4 (tkD (loO (some (Value.int IntKind.i64 (↑(i + (4 : Nat)) : Int))) (0 : Nat) (i + (4 : Nat)) c (1 : Nat)) (sbN (i + (8 : Nat)) (i + (4 : Nat))) xs))], capBig + (1 : Nat) = capBig + (1 :
 Nat), List.length ys = m * (2 : Nat), (m + (1 : Nat)) * (16 : Nat) ≤ (140737488355328 : Nat) ∧ m + (1 : Nat) ≤ (9223372036854775807 : Nat), (2 : Nat) ≤ (2 : Nat), true = true, rg IntKind.i64 (↑(i + (8 : Nat)) : Int)]) := by kernel_rfl
theorem dc_bada0 (inr : Bool) (xs : List Value) (n c i : Nat) : prjZ [2, 3] (codeZ (rsV noL) Try.prog (runZ (rsV noL) Try.prog 5) 31 inr 100000 (dcB Try.prog) (SL 47 (dcS n c i (.slice none 0 0))) [(0, ⟨.old, xs⟩)] 1 [true, true]) =
  Res.ok ((Xt.ret, (47 : Nat), [((2 : Nat), Value.slice none (0 : Nat) (0 : Nat)), ((3 : Nat), Value.int IntKind.i64 (4 : Int))], [((0 : Nat), Rw.mk Kd.old xs), ((1 : Nat), Rw.mk Kd.shut [Value.int IntKind.i64 (n4 (tkD (loO
 (some (Value.int IntKind.i64 (↑i : Int))) (0 : Nat) i c (1 : Nat)) (sbN (i + (4 : Nat)) i) xs)), Value.int IntKind.i64 (n4 (tkD (loO (some (Value.int IntKind.i64 (↑(i + (4 : Nat)) : Int))) (0 : Nat) (i + (4 : Nat)) c (1 :
 Nat)) (sbN (i + (8 : Nat)) (i + (4 : Nat))) xs))])], (2 : Nat), [], []), [], [decide ((↑i : Int) < (↑n : Int)) = true, rg IntKind.i64 (↑(i + (4 : Nat)) : Int), c < (18446744073709551616 : Nat), (0 : Int) ≤ (↑(i + (4 :
 Nat)) : Int) ∧ (↑(i + (4 : Nat)) : Int) ≤ (↑c : Int), (0 : Int) ≤ (↑i : Int) ∧ (↑i : Int) ≤ (↑(i + (4 : Nat)) : Int), sbN (i + (4 : Nat)) i ≤ sbN c i ∧ sbN c i ≤ (9223372036854775807 : Nat), adN (loO (some (Value.int
 IntKind.i64 (↑i : Int))) (0 : Nat) i c (1 : Nat)) (sbN (i + (4 : Nat)) i) ≤ List.length xs, Fl (tkD (loO (some (Value.int IntKind.i64 (↑i : Int))) (0 : Nat) i c (1 : Nat)) (sbN (i + (4 : Nat)) i) xs), Byts (tkD (loO (some
 (Value.int IntKind.i64 (↑i : Int))) (0 : Nat) i c (1 : Nat)) (sbN (i + (4 : Nat)) i) xs), (4 : Nat) ≤ sbN (i + (4 : Nat)) i, rg IntKind.i64 (↑(i + (4 : Nat)) : Int), rg IntKind.i64 (↑(i + (8 : Nat)) : Int), c <
 (18446744073709551616 : Nat), (0 : Int) ≤ (↑(i + (8 : Nat)) : Int) ∧ (↑(i + (8 : Nat)) : Int) ≤ (↑c : Int), (0 : Int) ≤ (↑(i + (4 : Nat)) : Int) ∧ (↑(i + (4 : Nat)) : Int) ≤ (↑(i + (8 : Nat)) : Int), sbN (i + (8 : Nat))
 (i + (4 : Nat)) ≤ sbN c (i + (4 : Nat)) ∧ sbN c (i + (4 : Nat)) ≤ (9223372036854775807 : Nat), adN (loO (some (Value.int IntKind.i64 (↑(i + (4 : Nat)) : Int))) (0 : Nat) (i + (4 : Nat)) c (1 : Nat)) (sbN (i + (8 : Nat))
 (i + (4 : Nat))) ≤ List.length xs, Fl (tkD (loO (some (Value.int IntKind.i64 (↑(i + (4 : Nat)) : Int))) (0 : Nat) (i + (4 : Nat)) c (1 : Nat)) (sbN (i + (8 : Nat)) (i + (4 : Nat))) xs), Byts (tkD (loO (some (Value.int
 IntKind.i64 (↑(i + (4 : Nat)) : Int))) (0 : Nat) (i + (4 : Nat)) c (1 : Nat)) (sbN (i + (8 : Nat)) (i + (4 : Nat))) xs), (4 : Nat) ≤ sbN (i + (8 : Nat)) (i + (4 : Nat)), (2 : Nat) ≤ (2 : Nat), [Value.int IntKind.i64 (n4
 (tkD (loO (some (Value.int IntKind.i64 (↑i : Int))) (0 : Nat) i c (1 : Nat)) (sbN (i + (4 : Nat)) i) xs)), Value.int IntKind.i64 (n4 (tkD (loO (some (Value.int IntKind.i64 (↑(i + (4 : Nat)) : Int))) (0 : Nat) (i + (4 :
 Nat)) c (1 : Nat)) (sbN (i + (8 : Nat)) (i + (4 : Nat))) xs))][(0 : Nat)]? = some (Value.int IntKind.i64 (n4 (tkD (loO (some (Value.int IntKind.i64 (↑i : Int))) (0 : Nat) i c (1 : Nat)) (sbN (i + (4 : Nat)) i) xs))),
 decide (n4 (tkD (loO (some (Value.int IntKind.i64 (↑i : Int))) (0 : Nat) i c (1 : Nat)) (sbN (i + (4 : Nat)) i) xs) > (2147483647 : Int)) = true]) := by kernel_rfl
theorem dc_bada1 (inr : Bool) (xs ys : List Value) (n c i m : Nat) : prjZ [2, 3] (codeZ (rsV noL) Try.prog (runZ (rsV noL) Try.prog 5) 31 inr 100000 (dcB Try.prog) (SL 47 (dcS n c i (.slice (some ⟨1, 0, none⟩) m (capBig + 1)))) [(0, ⟨.old, xs⟩), (1, rsRow ys)] 2 [true, true]) =
  Res.ok ((Xt.ret, (47 : Nat), [((2 : Nat), Value.slice none (0 : Nat) (0 : Nat)), ((3 : Nat), Value.int IntKind.i64 (4 : Int))], [((0 : Nat), Rw.mk Kd.old xs), ((1 : Nat), Rw.mk (Kd.room (2 : Nat) [Value.int IntKind.i64 (0
 : Int), Value.int IntKind.i64 (0 : Int)]) ys), ((2 : Nat), Rw.mk Kd.shut [Value.int IntKind.i64 (n4 (tkD (loO (some (Value.int IntKind.i64 (↑i : Int))) (0 : Nat) i c (1 : Nat)) (sbN (i + (4 : Nat)) i) xs)), Value.int
 IntKind.i64 (n4 (tkD (loO (some (Value.int IntKind.i64 (↑(i + (4 : Nat)) : Int))) (0 : Nat) (i + (4 : Nat)) c (1 : Nat)) (sbN (i + (8 : Nat)) (i + (4 : Nat))) xs))])], (3 : Nat), [], []), [], [decide ((↑i : Int) < (↑n :
 Int)) = true, rg IntKind.i64 (↑(i + (4 : Nat)) : Int), c < (18446744073709551616 : Nat), (0 : Int) ≤ (↑(i + (4 : Nat)) : Int) ∧ (↑(i + (4 : Nat)) : Int) ≤ (↑c : Int), (0 : Int) ≤ (↑i : Int) ∧ (↑i : Int) ≤ (↑(i + (4 :
 Nat)) : Int), sbN (i + (4 : Nat)) i ≤ sbN c i ∧ sbN c i ≤ (9223372036854775807 : Nat), adN (loO (some (Value.int IntKind.i64 (↑i : Int))) (0 : Nat) i c (1 : Nat)) (sbN (i + (4 : Nat)) i) ≤ List.length xs, Fl (tkD (loO
 (some (Value.int IntKind.i64 (↑i : Int))) (0 : Nat) i c (1 : Nat)) (sbN (i + (4 : Nat)) i) xs), Byts (tkD (loO (some (Value.int IntKind.i64 (↑i : Int))) (0 : Nat) i c (1 : Nat)) (sbN (i + (4 : Nat)) i) xs), (4 : Nat) ≤
 sbN (i + (4 : Nat)) i, rg IntKind.i64 (↑(i + (4 : Nat)) : Int), rg IntKind.i64 (↑(i + (8 : Nat)) : Int), c < (18446744073709551616 : Nat), (0 : Int) ≤ (↑(i + (8 : Nat)) : Int) ∧ (↑(i + (8 : Nat)) : Int) ≤ (↑c : Int), (0 :
 Int) ≤ (↑(i + (4 : Nat)) : Int) ∧ (↑(i + (4 : Nat)) : Int) ≤ (↑(i + (8 : Nat)) : Int), sbN (i + (8 : Nat)) (i + (4 : Nat)) ≤ sbN c (i + (4 : Nat)) ∧ sbN c (i + (4 : Nat)) ≤ (9223372036854775807 : Nat), adN (loO (some
 (Value.int IntKind.i64 (↑(i + (4 : Nat)) : Int))) (0 : Nat) (i + (4 : Nat)) c (1 : Nat)) (sbN (i + (8 : Nat)) (i + (4 : Nat))) ≤ List.length xs, Fl (tkD (loO (some (Value.int IntKind.i64 (↑(i + (4 : Nat)) : Int))) (0 :
 Nat) (i + (4 : Nat)) c (1 : Nat)) (sbN (i + (8 : Nat)) (i + (4 : Nat))) xs), Byts (tkD (loO (some (Value.int IntKind.i64 (↑(i + (4 : Nat)) : Int))) (0 : Nat) (i + (4 : Nat)) c (1 : Nat)) (sbN (i + (8 : Nat)) (i + (4 :
 Nat))) xs), (4 : Nat) ≤ sbN (i + (8 : Nat)) (i + (4 : Nat)), (2 : Nat) ≤ (2 : Nat), [Value.int IntKind.i64 (n4 (tkD (loO (some (Value.int IntKind.i64 (↑i : Int))) (0 : Nat) i c (1 : Nat)) (sbN (i + (4 : Nat)) i) xs)),
 Value.int IntKind.i64 (n4 (tkD (loO (some (Value.int IntKind.i64 (↑(i + (4 : Nat)) : Int))) (0 : Nat) (i + (4 : Nat)) c (1 : Nat)) (sbN (i + (8 : Nat)) (i + (4 : Nat))) xs))][(0 : Nat)]? = some (Value.int IntKind.i64 (n4
 (tkD (loO (some (Value.int IntKind.i64 (↑i : Int))) (0 : Nat) i c (1 : Nat)) (sbN (i + (4 : Nat)) i) xs))), decide (n4 (tkD (loO (some (Value.int IntKind.i64 (↑i : Int))) (0 : Nat) i c (1 : Nat)) (sbN (i + (4 : Nat)) i)
 xs) > (2147483647 : Int)) = true]) := by kernel_rfl
theorem dc_badb0 (inr : Bool) (xs : List Value) (n c i : Nat) : prjZ [2, 3] (codeZ (rsV noL) Try.prog (runZ (rsV noL) Try.prog 5) 31 inr 100000 (dcB Try.prog) (SL 47 (dcS n c i (.slice none 0 0))) [(0, ⟨.old, xs⟩)] 1 [true, false, true]) =
  Res.ok ((Xt.ret, (47 : Nat), [((2 : Nat), Value.slice none (0 : Nat) (0 : Nat)), ((3 : Nat), Value.int IntKind.i64 (4 : Int))], [((0 : Nat), Rw.mk Kd.old xs), ((1 : Nat), Rw.mk Kd.shut [Value.int IntKind.i64 (n4 (tkD (loO
 (some (Value.int IntKind.i64 (↑i : Int))) (0 : Nat) i c (1 : Nat)) (sbN (i + (4 : Nat)) i) xs)), Value.int IntKind.i64 (n4 (tkD (loO (some (Value.int IntKind.i64 (↑(i + (4 : Nat)) : Int))) (0 : Nat) (i + (4 : Nat)) c (1 :
 Nat)) (sbN (i + (8 : Nat)) (i + (4 : Nat))) xs))])], (2 : Nat), [], []), [], [decide ((↑i : Int) < (↑n : Int)) = true, rg IntKind.i64 (↑(i + (4 : Nat)) : Int), c < (18446744073709551616 : Nat), (0 : Int) ≤ (↑(i + (4 :
 Nat)) : Int) ∧ (↑(i + (4 : Nat)) : Int) ≤ (↑c : Int), (0 : Int) ≤ (↑i : Int) ∧ (↑i : Int) ≤ (↑(i + (4 : Nat)) : Int), sbN (i + (4 : Nat)) i ≤ sbN c i ∧ sbN c i ≤ (9223372036854775807 : Nat), adN (loO (some (Value.int
 IntKind.i64 (↑i : Int))) (0 : Nat) i c (1 : Nat)) (sbN (i + (4 : Nat)) i) ≤ List.length xs, Fl (tkD (loO (some (Value.int IntKind.i64 (↑i : Int))) (0 : Nat) i c (1 : Nat)) (sbN (i + (4 : Nat)) i) xs), Byts (tkD (loO (some
 (Value.int IntKind.i64 (↑i : Int))) (0 : Nat) i c (1 : Nat)) (sbN (i + (4 : Nat)) i) xs), (4 : Nat) ≤ sbN (i + (4 : Nat)) i, rg IntKind.i64 (↑(i + (4 : Nat)) : Int), rg IntKind.i64 (↑(i + (8 : Nat)) : Int), c <
 (18446744073709551616 : Nat), (0 : Int) ≤ (↑(i + (8 : Nat)) : Int) ∧ (↑(i + (8 : Nat)) : Int) ≤ (↑c : Int), (0 : Int) ≤ (↑(i + (4 : Nat)) : Int) ∧ (↑(i + (4 : Nat)) : Int) ≤ (↑(i + (8 : Nat)) : Int), sbN (i + (8 : Nat))
 (i + (4 : Nat)) ≤ sbN c (i + (4 : Nat)) ∧ sbN c (i + (4 : Nat)) ≤ (9223372036854775807 : Nat), adN (loO (some (Value.int IntKind.i64 (↑(i + (4 : Nat)) : Int))) (0 : Nat) (i + (4 : Nat)) c (1 : Nat)) (sbN (i + (8 : Nat))
 (i + (4 : Nat))) ≤ List.length xs, Fl (tkD (loO (some (Value.int IntKind.i64 (↑(i + (4 : Nat)) : Int))) (0 : Nat) (i + (4 : Nat)) c (1 : Nat)) (sbN (i + (8 : Nat)) (i + (4 : Nat))) xs), Byts (tkD (loO (some (Value.int
 IntKind.i64 (↑(i + (4 : Nat)) : Int))) (0 : Nat) (i + (4 : Nat)) c (1 : Nat)) (sbN (i + (8 : Nat)) (i + (4 : Nat))) xs), (4 : Nat) ≤ sbN (i + (8 : Nat)) (i + (4 : Nat)), (2 : Nat) ≤ (2 : Nat), [Value.int IntKind.i64 (n4
 (tkD (loO (some (Value.int IntKind.i64 (↑i : Int))) (0 : Nat) i c (1 : Nat)) (sbN (i + (4 : Nat)) i) xs)), Value.int IntKind.i64 (n4 (tkD (loO (some (Value.int IntKind.i64 (↑(i + (4 : Nat)) : Int))) (0 : Nat) (i + (4 :
 Nat)) c (1 : Nat)) (sbN (i + (8 : Nat)) (i + (4 : Nat))) xs))][(0 : Nat)]? = some (Value.int IntKind.i64 (n4 (tkD (loO (some (Value.int IntKind.i64 (↑i : Int))) (0 : Nat) i c (1 : Nat)) (sbN (i + (4 : Nat)) i) xs))),
 decide (n4 (tkD (loO (some (Value.int IntKind.i64 (↑i : Int))) (0 : Nat) i c (1 : Nat)) (sbN (i + (4 : Nat)) i) xs) > (2147483647 : Int)) = false, [Value.int IntKind.i64 (n4 (tkD (loO (some (Value.int IntKind.i64 (↑i :
 Int))) (0 : Nat) i c (1 : Nat)) (sbN (i + (4 : Nat)) i) xs)), Value.int IntKind.i64 (n4 (tkD (loO (some (Value.int IntKind.i64 (↑(i + (4 : Nat)) : Int))) (0 : Nat) (i + (4 : Nat)) c (1 : Nat)) (sbN (i + (8 : Nat)) (i + (4
 : Nat))) xs))][(1 : Nat)]? = some (Value.int IntKind.i64 (n4 (tkD (loO (some (Value.int IntKind.i64 (↑(i + (4 : Nat)) : Int))) (0 : Nat) (i + (4 : Nat)) c (1 : Nat)) (sbN (i + (8 : Nat)) (i + (4 : Nat))) xs))), decide (n4
 (tkD (loO (some (Value.int IntKind.i64 (↑(i + (4 : Nat)) : Int))) (0 : Nat) (i + (4 : Nat)) c (1 : Nat)) (sbN (i + (8 : Nat)) (i + (4 : Nat))) xs) > (2147483647 : Int)) = true]) := by kernel_rfl
theorem dc_badb1 (inr : Bool) (xs ys : List Value) (n c i m : Nat) : prjZ [2, 3] (codeZ (rsV noL) Try.prog (runZ (rsV noL) Try.prog 5) 31 inr 100000 (dcB Try.prog) (SL 47 (dcS n c i (.slice (some ⟨1, 0, none⟩) m (capBig + 1)))) [(0, ⟨.old, xs⟩), (1, rsRow ys)] 2 [true, false, true]) =
  Res.ok ((Xt.ret, (47 : Nat), [((2 : Nat), Value.slice none (0 : Nat) (0 : Nat)), ((3 : Nat), Value.int IntKind.i64 (4 : Int))], [((0 : Nat), Rw.mk Kd.old xs), ((1 : Nat), Rw.mk (Kd.room (2 : Nat) [Value.int IntKind.i64 (0
 : Int), Value.int IntKind.i64 (0 : Int)]) ys), ((2 : Nat), Rw.mk Kd.shut [Value.int IntKind.i64 (n4 (tkD (loO (some (Value.int IntKind.i64 (↑i : Int))) (0 : Nat) i c (1 : Nat)) (sbN (i + (4 : Nat)) i) xs)), Value.int
 IntKind.i64 (n4 (tkD (loO (some (Value.int IntKind.i64 (↑(i + (4 : Nat)) : Int))) (0 : Nat) (i + (4 : Nat)) c (1 : Nat)) (sbN (i + (8 : Nat)) (i + (4 : Nat))) xs))])], (3 : Nat), [], []), [], [decide ((↑i : Int) < (↑n :
 Int)) = true, rg IntKind.i64 (↑(i + (4 : Nat)) : Int), c < (18446744073709551616 : Nat), (0 : Int) ≤ (↑(i + (4 : Nat)) : Int) ∧ (↑(i + (4 : Nat)) : Int) ≤ (↑c : Int), (0 : Int) ≤ (↑i : Int) ∧ (↑i : Int) ≤ (↑(i + (4 :
 Nat)) : Int), sbN (i + (4 : Nat)) i ≤ sbN c i ∧ sbN c i ≤ (9223372036854775807 : Nat), adN (loO (some (Value.int IntKind.i64 (↑i : Int))) (0 : Nat) i c (1 : Nat)) (sbN (i + (4 : Nat)) i) ≤ List.length xs, Fl (tkD (loO
 (some (Value.int IntKind.i64 (↑i : Int))) (0 : Nat) i c (1 : Nat)) (sbN (i + (4 : Nat)) i) xs), Byts (tkD (loO (some (Value.int IntKind.i64 (↑i : Int))) (0 : Nat) i c (1 : Nat)) (sbN (i + (4 : Nat)) i) xs), (4 : Nat) ≤
 sbN (i + (4 : Nat)) i, rg IntKind.i64 (↑(i + (4 : Nat)) : Int), rg IntKind.i64 (↑(i + (8 : Nat)) : Int), c < (18446744073709551616 : Nat), (0 : Int) ≤ (↑(i + (8 : Nat)) : Int) ∧ (↑(i + (8 : Nat)) : Int) ≤ (↑c : Int), (0 :
 Int) ≤ (↑(i + (4 : Nat)) : Int) ∧ (↑(i + (4 : Nat)) : Int) ≤ (↑(i + (8 : Nat)) : Int), sbN (i + (8 : Nat)) (i + (4 : Nat)) ≤ sbN c (i + (4 : Nat)) ∧ sbN c (i + (4 : Nat)) ≤ (9223372036854775807 : Nat), adN (loO (some
 (Value.int IntKind.i64 (↑(i + (4 : Nat)) : Int))) (0 : Nat) (i + (4 : Nat)) c (1 : Nat)) (sbN (i + (8 : Nat)) (i + (4 : Nat))) ≤ List.length xs, Fl (tkD (loO (some (Value.int IntKind.i64 (↑(i + (4 : Nat)) : Int))) (0 :
 Nat) (i + (4 : Nat)) c (1 : Nat)) (sbN (i + (8 : Nat)) (i + (4 : Nat))) xs), Byts (tkD (loO (some (Value.int IntKind.i64 (↑(i + (4 : Nat)) : Int))) (0 : Nat) (i + (4 : Nat)) c (1 : Nat)) (sbN (i + (8 : Nat)) (i + (4 :
 Nat))) xs), (4 : Nat) ≤ sbN (i + (8 : Nat)) (i + (4 : Nat)), (2 : Nat) ≤ (2 : Nat), [Value.int IntKind.i64 (n4 (tkD (loO (some (Value.int IntKind.i64 (↑i : Int))) (0 : Nat) i c (1 : Nat)) (sbN (i + (4 : Nat)) i) xs)),
 Value.int IntKind.i64 (n4 (tkD (loO (some (Value.int IntKind.i64 (↑(i + (4 : Nat)) : Int))) (0 : Nat) (i + (4 : Nat)) c (1 : Nat)) (sbN (i + (8 : Nat)) (i + (4 : Nat))) xs))][(0 : Nat)]? = some (Value.int IntKind.i64 (n4
 (tkD (loO (some (Value.int IntKind.i64 (↑i : Int))) (0 : Nat) i c (1 : Nat)) (sbN (i + (4 : Nat)) i) xs))), decide (n4 (tkD (loO (some (Value.int IntKind.i64 (↑i : Int))) (0 : Nat) i c (1 : Nat)) (sbN (i + (4 : Nat)) i)
 xs) > (2147483647 : Int)) = false, [Value.int IntKind.i64 (n4 (tkD (loO (some (Value.int IntKind.i64 (↑i : Int))) (0 : Nat) i c (1 : Nat)) (sbN (i + (4 : Nat)) i) xs)), Value.int IntKind.i64 (n4 (tkD (loO (some (Value.int
 IntKind.i64 (↑(i + (4 : Nat)) : Int))) (0 : Nat) (i + (4 : Nat)) c (1 : Nat)) (sbN (i + (8 : Nat)) (i + (4 : Nat))) xs))][(1 : Nat)]? = some (Value.int IntKind.i64 (n4 (tkD (loO (some (Value.int IntKind.i64 (↑(i + (4 :
 Nat)) : Int))) (0 : Nat) (i + (4 : Nat)) c (1 : Nat)) (sbN (i + (8 : Nat)) (i + (4 : Nat))) xs))), decide (n4 (tkD (loO (some (Value.int IntKind.i64 (↑(i + (4 : Nat)) : Int))) (0 : Nat) (i + (4 : Nat)) c (1 : Nat)) (sbN
 (i + (8 : Nat)) (i + (4 : Nat))) xs) > (2147483647 : Int)) = true]) := by kernel_rfl
theorem dc_done0 (inr : Bool) (xs : List Value) (n c i : Nat) : prjZ [4] (codeZ (rsV noL) Try.prog (runZ (rsV noL) Try.prog 5) 31 inr 100000 (dcB Try.prog) (SL 47 (dcS n c i (.slice none 0 0))) [(0, ⟨.old, xs⟩)] 1 [false]) =
  Res.ok ((Xt.exit (0 : Nat), (47 : Nat), [((4 : Nat), Value.slice none (0 : Nat) (0 : Nat))], [((0 : Nat), Rw.mk Kd.old xs)], (1 : Nat), [], []), [], [decide ((↑i : Int) < (↑n : Int)) = false]) := by kernel_rfl
theorem dc_done1 (inr : Bool) (xs ys : List Value) (n c i m : Nat) : prjZ [4] (codeZ (rsV noL) Try.prog (runZ (rsV noL) Try.prog 5) 31 inr 100000 (dcB Try.prog) (SL 47 (dcS n c i (.slice (some ⟨1, 0, none⟩) m (capBig + 1)))) [(0, ⟨.old, xs⟩), (1, rsRow ys)] 2 [false]) =
  Res.ok ((Xt.exit (0 : Nat), (47 : Nat), [((4 : Nat), Value.slice (some (Addr.mk (1 : Nat) (0 : Nat) none)) m (capBig + (1 : Nat)))], [((0 : Nat), Rw.mk Kd.old xs), ((1 : Nat), Rw.mk (Kd.room (2 : Nat) [Value.int
 IntKind.i64 (0 : Int), Value.int IntKind.i64 (0 : Int)]) ys)], (2 : Nat), [], []), [], [decide ((↑i : Int) < (↑n : Int)) = false]) := by kernel_rfl
def e2 (xs : List Value) (o : Nat) : List Value := [.int .i64 (n4 (xs.drop o)), .int .i64 (n4 (xs.drop (o + 4)))]
def rdL (xs : List Value) : Nat → Nat → List Value
  | _, 0 => []
  | o, k + 1 => e2 xs o ++ rdL xs (o + 8) k
def rdG (xs : List Value) (o : Nat) : Bool := decide (n4 (xs.drop o) < 2147483648 ∧ n4 (xs.drop (o + 4)) < 2147483648)
def rdOk (xs : List Value) : Nat → Nat → Bool
  | _, 0 => true
  | o, k + 1 => bif rdG xs o then rdOk xs (o + 8) k else false
def rsSpec (S : Nat → Nat → List (Nat × Value)) : LSpec := lspec (fun live h => match live, h with | (_, .slice _ n c) :: _, [(_, r)] => some (n, c, r.cs) | _, _ => none) (fun a => (S a.1 a.2.1, [(0, ⟨.old, a.2.2⟩)], 1))
  (fun a tp => match tp with
    | true :: tp' => some ((.exit 0, [(4, .slice none 0 0)], [(0, ⟨.old, a.2.2⟩)], 5, []), tp', [a.1 = 0, Byts a.2.2, a.2.2.length = a.1, a.1 ≤ a.2.1 ∧ a.2.1 ≤ 9223372036854775807])
    | false :: true :: tp' => some ((.exit 0, [(4, .slice (some ⟨1, 0, none⟩) (a.1 / 8) (capBig + 1))], [(0, ⟨.old, a.2.2⟩), (1, rsRow (rdL a.2.2 0 (a.1 / 8)))], 5, []), tp', [decide (a.1 = 0) = false, Byts a.2.2, a.1 % 8 = 0, a.2.2.length = a.1, a.1 ≤ a.2.1 ∧ a.2.1 ≤ 9223372036854775807, a.1 ≤ 4096, rdOk a.2.2 0 (a.1 / 8) = true])
    | false :: false :: tp' => some ((.ret, [(2, .slice none 0 0), (3, .int .i64 4)], [(0, ⟨.old, a.2.2⟩)], 5, []), tp', [decide (a.1 = 0) = false, Byts a.2.2, a.1 % 8 = 0, a.2.2.length = a.1, a.1 ≤ a.2.1 ∧ a.2.1 ≤ 9223372036854775807, a.1 ≤ 4096, rdOk a.2.2 0 (a.1 / 8) = false])
    | _ => none)
def sRe : Spec1 := fun xs n tp => match tp with
  | true :: tp' => some (⟨fun _ => .tuple ⟨[.slice none 0 0, .int .i64 4]⟩, []⟩, tp', [Byts xs, decide (n % 8 = 0) = false])
  | false :: true :: tp' => some (⟨fun _ => .tuple ⟨[.slice none 0 0, .int .i64 0]⟩, []⟩, tp', [Byts xs, n = 0])
  | false :: false :: false :: tp' => some (⟨fun _ => .tuple ⟨[.slice none 0 0, .int .i64 4]⟩, []⟩, tp', [Byts xs, n % 8 = 0, decide (n = 0) = false, n ≤ 4096, rdOk xs 0 (n / 8) = false])
  | false :: false :: true :: true :: tp' => some (⟨fun _ => .tuple ⟨[.slice none 0 0, .int .i64 3]⟩, []⟩, tp', [Byts xs, n % 8 = 0, decide (n = 0) = false, n ≤ 4096, rdOk xs 0 (n / 8) = true, decide (n / 8 ≤ 128) = false])
  | false :: false :: true :: false :: tp' => some (⟨fun nx => .tuple ⟨[.slice (some ⟨nx, 0, none⟩) (n / 8) (capBig + nx), .int .i64 0]⟩, [rsRow (rdL xs 0 (n / 8))]⟩, tp', [Byts xs, n % 8 = 0, decide (n = 0) = false, n ≤ 4096, rdOk xs 0 (n / 8) = true, decide (n / 8 ≤ 128) = true])
  | _ => none
def rsLw (P : Program) : LFun := orL (mkL 30 4 37 [0, 4] (rsB P) (rsSpec fun n c => rsS 0 n c (.slice none 0 0))) (mkL 31 5 47 [0, 4, 5] (dcB P) (rsSpec fun n c => dcS n c 0 (.slice none 0 0)))
theorem rd_bad (xs : List Value) (n c : Nat) : runZ (rsV (rsLw Try.prog)) Try.prog 5 30 [.slice (some ⟨0, 0, none⟩) n c] [(0, ⟨.old, xs⟩)] 1 [true] =
  Res.ok ((Value.tuple (Array.mk [Value.slice none (0 : Nat) (0 : Nat), Value.int IntKind.i64 (4 : Int)]), [((0 : Nat), Rw.mk Kd.old xs)], (1 : Nat), []), [], [(0 : Int) ≤ (↑n : Int) ∧ (0 : Int) < (8 : Int), ((↑(n % (8 :
 Nat)) : Int) != (0 : Int)) = true]) := by kernel_rfl
theorem rd_nil (xs : List Value) (n c : Nat) : runZ (rsV (rsLw Try.prog)) Try.prog 5 30 [.slice (some ⟨0, 0, none⟩) n c] [(0, ⟨.old, xs⟩)] 1 [false, true, false] =
  Res.ok ((Value.tuple (Array.mk [Value.slice none (0 : Nat) (0 : Nat), Value.int IntKind.i64 (0 : Int)]), [((0 : Nat), Rw.mk Kd.old xs)], (5 : Nat), []), [], [(0 : Int) ≤ (↑n : Int) ∧ (0 : Int) < (8 : Int), ((↑(n % (8 :
 Nat)) : Int) != (0 : Int)) = false, rsB Try.prog = rsB Try.prog, [((0 : Nat), Value.slice (some (Addr.mk (0 : Nat) (0 : Nat) none)) n c), ((4 : Nat), Value.slice none (0 : Nat) (0 : Nat))] = rsS (0 : Nat) n c (Value.slice
 none (0 : Nat) (0 : Nat)), [((0 : Nat), Rw.mk Kd.old xs)] = [((0 : Nat), Rw.mk Kd.old xs)], (1 : Nat) = (1 : Nat), n = (0 : Nat), Byts xs, List.length xs = n, n ≤ c ∧ c ≤ (9223372036854775807 : Nat), false = false]) := by kernel_rfl
theorem rd_not (xs : List Value) (n c : Nat) : runZ (rsV (rsLw Try.prog)) Try.prog 5 30 [.slice (some ⟨0, 0, none⟩) n c] [(0, ⟨.old, xs⟩)] 1 [false, false, false] =
  Res.ok ((Value.tuple (Array.mk [Value.slice none (0 : Nat) (0 : Nat), Value.int IntKind.i64 (4 : Int)]), [((0 : Nat), Rw.mk Kd.old xs)], (5 : Nat), []), [], [(0 : Int) ≤ (↑n : Int) ∧ (0 : Int) < (8 : Int), ((↑(n % (8 :
 Nat)) : Int) != (0 : Int)) = false, rsB Try.prog = rsB Try.prog, [((0 : Nat), Value.slice (some (Addr.mk (0 : Nat) (0 : Nat) none)) n c), ((4 : Nat), Value.slice none (0 : Nat) (0 : Nat))] = rsS (0 : Nat) n c (Value.slice
 none (0 : Nat) (0 : Nat)), [((0 : Nat), Rw.mk Kd.old xs)] = [((0 : Nat), Rw.mk Kd.old xs)], (1 : Nat) = (1 : Nat), decide (n = (0 : Nat)) = false, Byts xs, n % (8 : Nat) = (0 : Nat), List.length xs = n, n ≤ c ∧ c ≤
 (9223372036854775807 : Nat), n ≤ (4096 : Nat), rdOk xs (0 : Nat) (n / (8 : Nat)) = false]) := by kernel_rfl
theorem rd_long (xs : List Value) (n c : Nat) : runZ (rsV (rsLw Try.prog)) Try.prog 5 30 [.slice (some ⟨0, 0, none⟩) n c] [(0, ⟨.old, xs⟩)] 1 [false, false, true, true] =
  Res.ok ((Value.tuple (Array.mk [Value.slice none (0 : Nat) (0 : Nat), Value.int IntKind.i64 (3 : Int)]), [((0 : Nat), Rw.mk Kd.old xs)], (5 : Nat), []), [], [(0 : Int) ≤ (↑n : Int) ∧ (0 : Int) < (8 : Int), ((↑(n % (8 :
 Nat)) : Int) != (0 : Int)) = false, rsB Try.prog = rsB Try.prog, [((0 : Nat), Value.slice (some (Addr.mk (0 : Nat) (0 : Nat) none)) n c), ((4 : Nat), Value.slice none (0 : Nat) (0 : Nat))] = rsS (0 : Nat) n c (Value.slice
 none (0 : Nat) (0 : Nat)), [((0 : Nat), Rw.mk Kd.old xs)] = [((0 : Nat), Rw.mk Kd.old xs)], (1 : Nat) = (1 : Nat), decide (n = (0 : Nat)) = false, Byts xs, n % (8 : Nat) = (0 : Nat), List.length xs = n, n ≤ c ∧ c ≤
 (9223372036854775807 : Nat), n ≤ (4096 : Nat), rdOk xs (0 : Nat) (n / (8 : Nat)) = true, decide ((↑(n / (8 : Nat)) : Int) > (128 : Int)) = true]) := by kernel_rfl
theorem rd_ok (xs : List Value) (n c : Nat) : runZ (rsV (rsLw Try.prog)) Try.prog 5 30 [.slice (some ⟨0, 0, none⟩) n c] [(0, ⟨.old, xs⟩)] 1 [false, false, true, false] =
  Res.ok ((Value.tuple (Array.mk [Value.slice (some (Addr.mk (1 : Nat) (0 : Nat) none)) (n / (8 : Nat)) (capBig + (1 : Nat)), Value.int IntKind.i64 (0 : Int)]), [((0 : Nat), Rw.mk Kd.old xs), ((1 : Nat), Rw.mk (Kd.room (2 :
 Nat) [Value.int IntKind.i64 (0 : Int), Value.int IntKind.i64 (0 : Int)]) (rdL xs (0 : Nat) (n / (8 : Nat))))], (5 : Nat), []), [], [(0 : Int) ≤ (↑n : Int) ∧ (0 : Int) < (8 : Int), ((↑(n % (8 : Nat)) : Int) != (0 : Int)) =
 false, rsB Try.prog = rsB Try.prog, [((0 : Nat), Value.slice (some (Addr.mk (0 : Nat) (0 : Nat) none)) n c), ((4 : Nat), Value.slice none (0 : Nat) (0 : Nat))] = rsS (0 : Nat) n c (Value.slice none (0 : Nat) (0 : Nat)),
 [((0 : Nat), Rw.mk Kd.old xs)] = [((0 : Nat), Rw.mk Kd.old xs)], (1 : Nat) = (1 : Nat), decide (n = (0 : Nat)) = false, Byts xs, n % (8 : Nat) = (0 : Nat), List.length xs = n, n ≤ c ∧ c ≤ (9223372036854775807 : Nat), n ≤
 (4096 : Nat), rdOk xs (0 : Nat) (n / (8 : Nat)) = true, decide ((↑(n / (8 : Nat)) : Int) > (128 : Int)) = false]) := by kernel_rfl
theorem rd_n  : runZ (rsV noL) Try.prog 5 30 [.slice none 0 0] [] 1 [false, false, false] =
  Res.ok ((Value.tuple (Array.mk [Value.slice none (0 : Nat) (0 : Nat), Value.int IntKind.i64 (0 : Int)]), [], (1 : Nat), []), [], [(0 : Int) ≤ (0 : Int) ∧ (0 : Int) < (8 : Int), false = false, false = false, false =
 false]) := by kernel_rfl
theorem dc_bad (xs : List Value) (n c : Nat) : runZ (rsV (rsLw Try.prog)) Try.prog 5 31 [.slice (some ⟨0, 0, none⟩) n c] [(0, ⟨.old, xs⟩)] 1 [true] =
  Res.ok ((Value.tuple (Array.mk [Value.slice none (0 : Nat) (0 : Nat), Value.int IntKind.i64 (4 : Int)]), [((0 : Nat), Rw.mk Kd.old xs)], (1 : Nat), []), [], [(0 : Int) ≤ (↑n : Int) ∧ (0 : Int) < (8 : Int), ((↑(n % (8 :
 Nat)) : Int) != (0 : Int)) = true]) := by kernel_rfl
theorem dc_nil (xs : List Value) (n c : Nat) : runZ (rsV (rsLw Try.prog)) Try.prog 5 31 [.slice (some ⟨0, 0, none⟩) n c] [(0, ⟨.old, xs⟩)] 1 [false, true, false] =
  Res.ok ((Value.tuple (Array.mk [Value.slice none (0 : Nat) (0 : Nat), Value.int IntKind.i64 (0 : Int)]), [((0 : Nat), Rw.mk Kd.old xs)], (5 : Nat), []), [], [(0 : Int) ≤ (↑n : Int) ∧ (0 : Int) < (8 : Int), ((↑(n % (8 :
 Nat)) : Int) != (0 : Int)) = false, dcB Try.prog = dcB Try.prog, [((0 : Nat), Value.slice (some (Addr.mk (0 : Nat) (0 : Nat) none)) n c), ((4 : Nat), Value.slice none (0 : Nat) (0 : Nat)), ((5 : Nat), Value.int
 IntKind.i64 (0 : Int))] = dcS n c (0 : Nat) (Value.slice none (0 : Nat) (0 : Nat)), [((0 : Nat), Rw.mk Kd.old xs)] = [((0 : Nat), Rw.mk Kd.old xs)], (1 : Nat) = (1 : Nat), n = (0 : Nat), Byts xs, List.length xs = n, n ≤ c
 ∧ c ≤ (9223372036854775807 : Nat), false = false]) := by kernel_rfl
theorem dc_not (xs : List Value) (n c : Nat) : runZ (rsV (rsLw Try.prog)) Try.prog 5 31 [.slice (some ⟨0, 0, none⟩) n c] [(0, ⟨.old, xs⟩)] 1 [false, false, false] =
  Res.ok ((Value.tuple (Array.mk [Value.slice none (0 : Nat) (0 : Nat), Value.int IntKind.i64 (4 : Int)]), [((0 : Nat), Rw.mk Kd.old xs)], (5 : Nat), []), [], [(0 : Int) ≤ (↑n : Int) ∧ (0 : Int) < (8 : Int), ((↑(n % (8 :
 Nat)) : Int) != (0 : Int)) = false, dcB Try.prog = dcB Try.prog, [((0 : Nat), Value.slice (some (Addr.mk (0 : Nat) (0 : Nat) none)) n c), ((4 : Nat), Value.slice none (0 : Nat) (0 : Nat)), ((5 : Nat), Value.int
 IntKind.i64 (0 : Int))] = dcS n c (0 : Nat) (Value.slice none (0 : Nat) (0 : Nat)), [((0 : Nat), Rw.mk Kd.old xs)] = [((0 : Nat), Rw.mk Kd.old xs)], (1 : Nat) = (1 : Nat), decide (n = (0 : Nat)) = false, Byts xs, n % (8 :
 Nat) = (0 : Nat), List.length xs = n, n ≤ c ∧ c ≤ (9223372036854775807 : Nat), n ≤ (4096 : Nat), rdOk xs (0 : Nat) (n / (8 : Nat)) = false]) := by kernel_rfl
theorem dc_long (xs : List Value) (n c : Nat) : runZ (rsV (rsLw Try.prog)) Try.prog 5 31 [.slice (some ⟨0, 0, none⟩) n c] [(0, ⟨.old, xs⟩)] 1 [false, false, true, true] =
  Res.ok ((Value.tuple (Array.mk [Value.slice none (0 : Nat) (0 : Nat), Value.int IntKind.i64 (3 : Int)]), [((0 : Nat), Rw.mk Kd.old xs)], (5 : Nat), []), [], [(0 : Int) ≤ (↑n : Int) ∧ (0 : Int) < (8 : Int), ((↑(n % (8 :
 Nat)) : Int) != (0 : Int)) = false, dcB Try.prog = dcB Try.prog, [((0 : Nat), Value.slice (some (Addr.mk (0 : Nat) (0 : Nat) none)) n c), ((4 : Nat), Value.slice none (0 : Nat) (0 : Nat)), ((5 : Nat), Value.int
 IntKind.i64 (0 : Int))] = dcS n c (0 : Nat) (Value.slice none (0 : Nat) (0 : Nat)), [((0 : Nat), Rw.mk Kd.old xs)] = [((0 : Nat), Rw.mk Kd.old xs)], (1 : Nat) = (1 : Nat), decide (n = (0 : Nat)) = false, Byts xs, n % (8 :
 Nat) = (0 : Nat), List.length xs = n, n ≤ c ∧ c ≤ (9223372036854775807 : Nat), n ≤ (4096 : Nat), rdOk xs (0 : Nat) (n / (8 : Nat)) = true, decide ((↑(n / (8 : Nat)) : Int) > (128 : Int)) = true]) := by kernel_rfl
theorem dc_ok (xs : List Value) (n c : Nat) : runZ (rsV (rsLw Try.prog)) Try.prog 5 31 [.slice (some ⟨0, 0, none⟩) n c] [(0, ⟨.old, xs⟩)] 1 [false, false, true, false] =
  Res.ok ((Value.tuple (Array.mk [Value.slice (some (Addr.mk (1 : Nat) (0 : Nat) none)) (n / (8 : Nat)) (capBig + (1 : Nat)), Value.int IntKind.i64 (0 : Int)]), [((0 : Nat), Rw.mk Kd.old xs), ((1 : Nat), Rw.mk (Kd.room (2 :
 Nat) [Value.int IntKind.i64 (0 : Int), Value.int IntKind.i64 (0 : Int)]) (rdL xs (0 : Nat) (n / (8 : Nat))))], (5 : Nat), []), [], [(0 : Int) ≤ (↑n : Int) ∧ (0 : Int) < (8 : Int), ((↑(n % (8 : Nat)) : Int) != (0 : Int)) =
 false, dcB Try.prog = dcB Try.prog, [((0 : Nat), Value.slice (some (Addr.mk (0 : Nat) (0 : Nat) none)) n c), ((4 : Nat), Value.slice none (0 : Nat) (0 : Nat)), ((5 : Nat), Value.int IntKind.i64 (0 : Int))] = dcS n c (0 :
 Nat) (Value.slice none (0 : Nat) (0 : Nat)), [((0 : Nat), Rw.mk Kd.old xs)] = [((0 : Nat), Rw.mk Kd.old xs)], (1 : Nat) = (1 : Nat), decide (n = (0 : Nat)) = false, Byts xs, n % (8 : Nat) = (0 : Nat), List.length xs = n,
 n ≤ c ∧ c ≤ (9223372036854775807 : Nat), n ≤ (4096 : Nat), rdOk xs (0 : Nat) (n / (8 : Nat)) = true, decide ((↑(n / (8 : Nat)) : Int) > (128 : Int)) = false]) := by kernel_rfl
theorem dc_n  : runZ (rsV noL) Try.prog 5 31 [.slice none 0 0] [] 1 [false, false, false] =
  Res.ok ((Value.tuple (Array.mk [Value.slice none (0 : Nat) (0 : Nat), Value.int IntKind.i64 (0 : Int)]), [], (1 : Nat), []), [], [(0 : Int) ≤ (0 : Int) ∧ (0 : Int) < (8 : Int), false = false, false = false, false =
 false]) := by kernel_rfl
/-! ### numbers -/
theorem or_add {x y : Nat} (m K : Nat) (hK : 2 ^ m = K) (hx : x < K) (hs : x + y * K < 4294967296) : IntKind.u32.wrap (((BitVec.ofInt 32 (x : Int) ||| BitVec.ofInt 32 ((y : Int) * (K : Int))).toNat : Nat) : Int) = (x : Int) + (y : Int) * (K : Int) := by
  have e : ((y : Int) * (K : Int)) = ((y * K : Nat) : Int) := by push_cast; rfl
  have h1 : x < 2 ^ 32 := by omega
  have h2 : y * K < 2 ^ 32 := by omega
  rw [e]
  simp only [BitVec.toNat_or, BitVec.ofInt_natCast, BitVec.toNat_ofNat, Nat.mod_eq_of_lt h1, Nat.mod_eq_of_lt h2]
  rw [Nat.or_comm, Nat.mul_comm y K, ← hK, ← Nat.two_pow_add_eq_or_of_lt (by omega), IntKind.wrap_u32, hK, Nat.mul_comm]
  have : (x : Int) + (y * K : Nat) < 4294967296 := by omega
  omega
theorem sl8 (a : Int) : slI a 8 = a * 256 := by rw [slI_eq]; rfl
theorem sl16 (a : Int) : slI a 16 = a * 65536 := by rw [slI_eq]; rfl
theorem sl24 (a : Int) : slI a 24 = a * 16777216 := by rw [slI_eq]; rfl
theorem qn_ok : GOk Try.prog 40 [.s 1] gNum ∧ GOk Try.prog 41 [.s 1] gNum := by
  have hX : XOkZ nmV Try.prog := noXz_ok rfl
  have hT : TOkZ nmV Try.prog := noTz_okV rfl
  have hL : LOkZ nmV Try.prog := noL_okV rfl
  refine ⟨?_, ?_⟩ <;> intro av tp gr tp' ob hG ho hP caps hcap <;> (
    obtain ⟨a, rfl, pa⟩ := avps1 hP
    obtain ⟨c, rfl⟩ := caps1 hcap
    unfold gNum at hG
    split at hG
    case h_2 => cases hG
    rename_i xs n e
    simp only [List.cons.injEq, and_true] at e
    subst e
    simp only [Option.some.injEq, Prod.mk.injEq] at hG
    obtain ⟨rfl, rfl, rfl⟩ := hG
    obtain ⟨hb, hn, _⟩ := ho
    have hl : xs.length = n := by have := pa.2; omega
    obtain ⟨g0, l0, u0⟩ := hb.get (i := 0) (by omega)
    obtain ⟨g1, l1, u1⟩ := hb.get (i := 1) (by omega)
    obtain ⟨g2, l2, u2⟩ := hb.get (i := 2) (by omega)
    obtain ⟨g3, l3, u3⟩ := hb.get (i := 3) (by omega)
    obtain ⟨x0, e0⟩ := Int.eq_ofNat_of_zero_le l0
    obtain ⟨x1, e1⟩ := Int.eq_ofNat_of_zero_le l1
    obtain ⟨x2, e2⟩ := Int.eq_ofNat_of_zero_le l2
    obtain ⟨x3, e3⟩ := Int.eq_ofNat_of_zero_le l3
    have o1 := or_add (x := x0) (y := x1) 8 256 (by decide) (by omega) (by omega)
    have o2 := or_add (x := x0 + x1 * 256) (y := x2) 16 65536 (by decide) (by omega) (by omega)
    have o3 := or_add (x := x0 + x1 * 256 + x2 * 65536) (y := x3) 24 16777216 (by decide) (by omega) (by omega)
    rw [show ((x0 + x1 * 256 : Nat) : Int) = (x0 : Int) + (x1 : Int) * 256 by omega] at o2
    rw [show ((x0 + x1 * 256 + x2 * 65536 : Nat) : Int) = (x0 : Int) + (x1 : Int) * 256 + (x2 : Int) * 65536 by omega] at o3)
  · refine ⟨_, _, _, _, fun n => n, run_tri hX hT hL (qn_i xs n c) ?_ rfl, ?_⟩
    · repeat' (first | exact alls_nil | refine alls_cons ?_ ?_)
      all_goals first
        | exact g0
        | exact g1
        | exact g2
        | exact g3
        | (rw [adI_eq, sl8, e0, e1]; exact o1)
        | (rw [adI_eq, adI_eq, sl8, sl16, e0, e1, e2]; exact o2)
        | (rw [adI_eq, adI_eq, adI_eq, sl8, sl16, sl24, e0, e1, e2, e3]; exact o3)
        | ((try simp only [rg, adI_eq, sl8, sl16, sl24, e0, e1, e2, e3]); omega)
    · have e : adI (adI (adI (intAt xs 0) (slI (intAt xs 1) 8)) (slI (intAt xs 2) 16)) (slI (intAt xs 3) 24) = n4 xs := by
        simp only [adI_eq, sl8, sl16, sl24, n4]; omega
      rw [e]
      exact GrIs.flat fun σ => rfl
  · refine ⟨_, _, _, _, fun n => n, run_tri hX hT hL (qn_r xs n c) ?_ rfl, ?_⟩
    · simp only [Alls, rg, adI_eq, mlI_eq, e0, e1, e2, e3] at g0 g1 g2 g3 ⊢
      repeat' (first | with_reducible exact trivial | with_reducible apply And.intro)
      all_goals first | with_reducible assumption | omega | with_reducible rfl | (skip)
    · have e : adI (adI (adI (intAt xs 0) (mlI 256 (intAt xs 1))) (mlI 65536 (intAt xs 2))) (mlI 16777216 (intAt xs 3)) = n4 xs := by
        simp only [adI_eq, mlI_eq, n4]
      rw [e]
      exact GrIs.flat fun σ => rfl
theorem nmT_one : TOneZ Try.prog nmT := orTz_ok (mkT_one qn_ok.1) (mkT_one qn_ok.2)
/-! ### results of bytes -/
theorem n4_take {l : List Value} {n : Nat} (h : 4 ≤ n) : n4 (l.take n) = n4 l := by
  have : ∀ i, i < n → intAt (l.take n) i = intAt l i := fun i hi => by unfold intAt; rw [List.getElem?_take, if_pos hi]
  unfold n4
  rw [this 0 (by omega), this 1 (by omega), this 2 (by omega), this 3 (by omega)]
theorem rdL_len (xs : List Value) : ∀ k o, (rdL xs o k).length = k * 2
  | 0, o => rfl
  | k + 1, o => by simp only [rdL, e2, List.length_append, rdL_len xs k, List.length_cons, List.length_nil]; omega
theorem rdL_ints (xs : List Value) : ∀ k o, ∃ l : List Int, rdL xs o k = l.map (Value.int .i64)
  | 0, o => ⟨[], rfl⟩
  | k + 1, o => by
      obtain ⟨l, hl⟩ := rdL_ints xs k (o + 8)
      exact ⟨n4 (xs.drop o) :: n4 (xs.drop (o + 4)) :: l, by simp only [rdL, e2, hl, List.map_cons, List.cons_append, List.nil_append]⟩
theorem rdL_Ints (xs : List Value) (k o : Nat) : Ints .i64 (rdL xs o k) := by obtain ⟨l, hl⟩ := rdL_ints xs k o; rw [hl]; exact Ints.of
theorem e2_Fl (xs : List Value) (o : Nat) : Fl (e2 xs o) := Fl.of rfl
theorem rdG_f {xs : List Value} {o : Nat} (h : ¬ (n4 (xs.drop o) < 2147483648 ∧ n4 (xs.drop (o + 4)) < 2147483648)) (k : Nat) : rdOk xs o (k + 1) = false := by
  simp only [rdOk, rdG, decide_eq_false h, cond_false]
theorem rdG_t {xs : List Value} {o : Nat} (h : n4 (xs.drop o) < 2147483648 ∧ n4 (xs.drop (o + 4)) < 2147483648) (k : Nat) : rdOk xs o (k + 1) = rdOk xs (o + 8) k := by
  simp only [rdOk, rdG, decide_eq_true h, cond_true]
theorem rd_loop1 {inr : Bool} {h0 : Hp} {xs : List Value} (hb : Byts xs) : ∀ (k o c m : Nat) (ys : List Value), (k = 0 ∨ (o + k * 8 ≤ xs.length ∧ k * 8 ≤ c)) → c ≤ 9223372036854775807 → ys.length = m * 2 → m + k ≤ 1000 → Fl ys →
    LRuns inr Try.prog (rsB Try.prog) 1 5 h0 37 (rsS o (k * 8) c (.slice (some ⟨1, 0, none⟩) m (capBig + 1))) [(0, ⟨.old, xs⟩), (1, rsRow ys)] 2
      (bif rdOk xs o k then (.exit 0, [(4, .slice (some ⟨1, 0, none⟩) (m + k) (capBig + 1))], [(0, ⟨.old, xs⟩), (1, rsRow (ys ++ rdL xs o k))]) else (.ret, [(2, .slice none 0 0), (3, .int .i64 4)], [(0, ⟨.old, xs⟩)]))
  | 0, o, c, m, ys, hk, hc, hl, hm, hf => by
      have hX : XOkZ (rsV noL) Try.prog := noXz_ok rfl
      have hT : TOkZ (rsV noL) Try.prog := T_okV rfl nmT_one
      have hL : LOkZ (rsV noL) Try.prog := noL_okV rfl
      refine LRuns.exit (code_runs hX hL (runZ_ok hX hT hL mixed 5) mixed (rd_done1 inr xs ys o (0 * 8) c m) ?_) (by intro e; cases e) rfl (by omega) (by omega) (fun n => n) ?_ ?_ rfl
      · simp [Alls]
      · exact ⟨rfl, rb_slg rfl rfl, trivial⟩
      · exact ⟨rb_old (by omega) rfl (fl_byts hb), rb_row (m := 1) rfl rfl rfl (by simp [rdL]) (hf.app (Fl.of rfl)), trivial⟩
  | k + 1, o, c, m, ys, hk, hc, hl, hm, hf => by
      have hX : XOkZ (rsV noL) Try.prog := noXz_ok rfl
      have hT : TOkZ (rsV noL) Try.prog := T_okV rfl nmT_one
      have hL : LOkZ (rsV noL) Try.prog := noL_okV rfl
      obtain ⟨hk1, hk2⟩ : o + (k + 1) * 8 ≤ xs.length ∧ (k + 1) * 8 ≤ c := by omega
      have a4 : ∀ v, loO (some v) o 4 c 1 = o + 4 := fun v => lo_at (by omega)
      have e1 : n4 ((xs.drop o).take ((k + 1) * 8)) = n4 (xs.drop o) := n4_take (by omega)
      have e3 : n4 ((xs.drop (o + 4)).take ((k + 1) * 8 - 4)) = n4 (xs.drop (o + 4)) := n4_take (by omega)
      have b0 := (hb.drop o).take ((k + 1) * 8)
      have b4 := (hb.drop (o + 4)).take ((k + 1) * 8 - 4)
      have f0 := fl_byts b0
      have f4 := fl_byts b4
      by_cases g1 : n4 (xs.drop o) < 2147483648
      case neg =>
        rw [rdG_f (fun h => g1 h.1), cond_false]
        refine LRuns.exit (code_runs hX hL (runZ_ok hX hT hL mixed 5) mixed (rd_bada1 inr xs ys o ((k + 1) * 8) c m) ?_) (by intro e; cases e) rfl (by omega) (by omega) (fun n => n) ?_ ?_ rfl
        · simp only [tkD_eq, adN_eq, sbN_eq, a4, e1, e3, Alls, decide_eq_true_eq, decide_eq_false_iff_not, rg]
          repeat' (first | with_reducible exact trivial | with_reducible apply And.intro)
          all_goals first | with_reducible assumption | omega | with_reducible rfl | (rfl)
        · exact ⟨rfl, rfl, rfl, rfl, trivial⟩
        · exact ⟨rb_old (by omega) rfl (fl_byts hb), trivial⟩
      by_cases g2 : n4 (xs.drop (o + 4)) < 2147483648
      case neg =>
        rw [rdG_f (fun h => g2 h.2), cond_false]
        refine LRuns.exit (code_runs hX hL (runZ_ok hX hT hL mixed 5) mixed (rd_badb1 inr xs ys o ((k + 1) * 8) c m) ?_) (by intro e; cases e) rfl (by omega) (by omega) (fun n => n) ?_ ?_ rfl
        · simp only [tkD_eq, adN_eq, sbN_eq, a4, e1, e3, Alls, decide_eq_true_eq, decide_eq_false_iff_not, rg]
          repeat' (first | with_reducible exact trivial | with_reducible apply And.intro)
          all_goals first | with_reducible assumption | omega | with_reducible rfl | (rfl)
        · exact ⟨rfl, rfl, rfl, rfl, trivial⟩
        · exact ⟨rb_old (by omega) rfl (fl_byts hb), trivial⟩
      have hex : Fl (ys ++ e2 xs o) := hf.app (e2_Fl _ _)
      have nx := rd_loop1 (inr := inr) (h0 := h0) hb k (loO (some (.int .i64 8)) o 8 c 1) (c - 8) (m + 1) (ys ++ e2 xs o)
        (by rcases Nat.eq_zero_or_pos k with h | h
            · exact .inl h
            · rw [lo_at (by omega)]; exact .inr ⟨by omega, by omega⟩) (by omega) (by simp [e2, hl]; omega) (by omega) hex
      have eL : rdL xs (loO (some (.int .i64 8)) o 8 c 1) k = rdL xs (o + 8) k := by
        rcases Nat.eq_zero_or_pos k with h | h
        · subst h; rfl
        · rw [lo_at (by omega)]
      have eR : rdOk xs (loO (some (.int .i64 8)) o 8 c 1) k = rdOk xs (o + 8) k := by
        rcases Nat.eq_zero_or_pos k with h | h
        · subst h; rfl
        · rw [lo_at (by omega)]
      rw [eL, eR, show ys ++ e2 xs o ++ rdL xs (o + 8) k = ys ++ rdL xs o (k + 1) by simp only [rdL, List.append_assoc], show m + 1 + k = m + (k + 1) by omega, ← rdG_t ⟨g1, g2⟩] at nx
      refine LRuns.step (code_runs hX hL (runZ_ok hX hT hL mixed 5) mixed (rd_more1 inr xs ys o ((k + 1) * 8) c m) ?_) rfl (by omega) (Nat.le_refl _) (fun _ => 4) ?_ ?_ rfl nx
      · simp only [tkD_eq, adN_eq, sbN_eq, a4, e1, e3, Alls, decide_eq_true_eq, decide_eq_false_iff_not]
        repeat' (first | with_reducible exact trivial | with_reducible apply And.intro)
        all_goals first | with_reducible assumption | omega | with_reducible rfl | (rfl)
      · rw [show (k + 1) * 8 - 8 = k * 8 by omega]
        exact ⟨rfl, rb_slc rfl (by unfold capBig; omega), rfl, rb_slg rfl rfl, trivial⟩
      · refine ⟨rb_old (by omega) rfl (fl_byts hb), rb_row (m := 4) (ds := ys ++ [.int .i64 (n4 (tkD o ((k + 1) * 8) xs)), .int .i64 (n4 (tkD (loO (some (.int .i64 4)) o 4 c 1) ((k + 1) * 8 - 4) xs))]) rfl rfl rfl ?_ hex, trivial⟩
        rw [a4, tkD_eq, tkD_eq, e1, e3]
        rfl
def rdEnd (xs : List Value) (n : Nat) : LO := bif decide (n = 0) then (.exit 0, [(4, .slice none 0 0)], [(0, ⟨.old, xs⟩)]) else bif rdOk xs 0 (n / 8) then (.exit 0, [(4, .slice (some ⟨1, 0, none⟩) (n / 8) (capBig + 1))], [(0, ⟨.old, xs⟩), (1, rsRow (rdL xs 0 (n / 8)))]) else (.ret, [(2, .slice none 0 0), (3, .int .i64 4)], [(0, ⟨.old, xs⟩)])
theorem rd_loop {inr : Bool} {h0 : Hp} {xs : List Value} (hb : Byts xs) (n c : Nat) (hn : n % 8 = 0) (hl : xs.length = n) (hc : n ≤ c ∧ c ≤ 9223372036854775807) (hs : n ≤ 4096) :
    LRuns inr Try.prog (rsB Try.prog) 1 5 h0 37 (rsS 0 n c (.slice none 0 0)) [(0, ⟨.old, xs⟩)] 1 (rdEnd xs n) := by
  have hX : XOkZ (rsV noL) Try.prog := noXz_ok rfl
  have hT : TOkZ (rsV noL) Try.prog := T_okV rfl nmT_one
  have hL : LOkZ (rsV noL) Try.prog := noL_okV rfl
  unfold rdEnd
  by_cases h0' : n = 0
  · rw [decide_eq_true h0', cond_true]
    subst h0'
    refine LRuns.exit (code_runs hX hL (runZ_ok hX hT hL mixed 5) mixed (rd_done0 inr xs 0 0 c) ?_) (by intro e; cases e) rfl (by omega) (by omega) (fun n => n) ?_ ?_ rfl
    · simp [Alls]
    · exact ⟨rfl, rfl, trivial⟩
    · exact ⟨rb_old (by omega) rfl (fl_byts hb), trivial⟩
  · rw [decide_eq_false h0', cond_false]
    have a4 : ∀ v, loO (some v) 0 4 c 1 = 0 + 4 := fun v => lo_at (by omega)
    obtain ⟨k, hk⟩ : ∃ k, n / 8 = k + 1 := ⟨n / 8 - 1, by omega⟩
    have e1 : n4 ((xs.drop 0).take n) = n4 (xs.drop 0) := n4_take (by omega)
    have e3 : n4 ((xs.drop (0 + 4)).take (n - 4)) = n4 (xs.drop (0 + 4)) := n4_take (by omega)
    have b0 := (hb.drop 0).take n
    have b4 := (hb.drop (0 + 4)).take (n - 4)
    have f0 := fl_byts b0
    have f4 := fl_byts b4
    by_cases g1 : n4 (xs.drop 0) < 2147483648
    case neg =>
      rw [hk, rdG_f (fun h => g1 h.1), cond_false]
      refine LRuns.exit (code_runs hX hL (runZ_ok hX hT hL mixed 5) mixed (rd_bada0 inr xs 0 n c) ?_) (by intro e; cases e) rfl (by omega) (by omega) (fun n => n) ?_ ?_ rfl
      · simp only [tkD_eq, adN_eq, sbN_eq, a4, e1, e3, Alls, decide_eq_true_eq, decide_eq_false_iff_not, rg]
        repeat' (first | with_reducible exact trivial | with_reducible apply And.intro)
        all_goals first | with_reducible assumption | omega | with_reducible rfl | (rfl)
      · exact ⟨rfl, rfl, rfl, rfl, trivial⟩
      · exact ⟨rb_old (by omega) rfl (fl_byts hb), trivial⟩
    by_cases g2 : n4 (xs.drop (0 + 4)) < 2147483648
    case neg =>
      rw [hk, rdG_f (fun h => g2 h.2), cond_false]
      refine LRuns.exit (code_runs hX hL (runZ_ok hX hT hL mixed 5) mixed (rd_badb0 inr xs 0 n c) ?_) (by intro e; cases e) rfl (by omega) (by omega) (fun n => n) ?_ ?_ rfl
      · simp only [tkD_eq, adN_eq, sbN_eq, a4, e1, e3, Alls, decide_eq_true_eq, decide_eq_false_iff_not, rg]
        repeat' (first | with_reducible exact trivial | with_reducible apply And.intro)
        all_goals first | with_reducible assumption | omega | with_reducible rfl | (rfl)
      · exact ⟨rfl, rfl, rfl, rfl, trivial⟩
      · exact ⟨rb_old (by omega) rfl (fl_byts hb), trivial⟩
    have nx := rd_loop1 (inr := inr) (h0 := h0) hb k (loO (some (.int .i64 8)) 0 8 c 1) (c - 8) 1 (e2 xs 0)
      (by rcases Nat.eq_zero_or_pos k with h | h
          · exact .inl h
          · rw [lo_at (by omega)]; exact .inr ⟨by omega, by omega⟩) (by omega) rfl (by omega) (e2_Fl _ _)
    have eL : rdL xs (loO (some (.int .i64 8)) 0 8 c 1) k = rdL xs (0 + 8) k := by
      rcases Nat.eq_zero_or_pos k with h | h
      · subst h; rfl
      · rw [lo_at (by omega)]
    have eR : rdOk xs (loO (some (.int .i64 8)) 0 8 c 1) k = rdOk xs (0 + 8) k := by
      rcases Nat.eq_zero_or_pos k with h | h
      · subst h; rfl
      · rw [lo_at (by omega)]
    rw [eL, eR, show e2 xs 0 ++ rdL xs (0 + 8) k = rdL xs 0 (k + 1) from rfl, show 1 + k = n / 8 by omega, ← rdG_t ⟨g1, g2⟩, ← hk] at nx
    refine LRuns.stepTo (N' := 2) (code_runs hX hL (runZ_ok hX hT hL mixed 5) mixed (rd_more0 inr xs 0 n c) ?_) rfl (by omega) (by omega) (by omega) (by omega) (fun _ => 3) ?_ ?_ rfl nx
    · simp only [tkD_eq, adN_eq, sbN_eq, a4, e1, e3, Alls, decide_eq_true_eq, decide_eq_false_iff_not]
      repeat' (first | with_reducible exact trivial | with_reducible apply And.intro)
      all_goals first | with_reducible assumption | omega | with_reducible rfl | (rfl)
    · rw [show n - 8 = k * 8 by omega]
      exact ⟨rfl, rb_slc rfl (by unfold capBig; omega), rfl, rb_slg rfl rfl, trivial⟩
    · refine ⟨rb_old (by omega) rfl (fl_byts hb), rb_row (m := 3) (ds := [.int .i64 (n4 (tkD 0 n xs)), .int .i64 (n4 (tkD (loO (some (.int .i64 4)) 0 4 c 1) (n - 4) xs))]) rfl rfl rfl ?_ (e2_Fl _ _), trivial⟩
      rw [a4, tkD_eq, tkD_eq, e1, e3]
      rfl
theorem dc_loop1 {inr : Bool} {h0 : Hp} {xs : List Value} (hb : Byts xs) {n c : Nat} (hn : xs.length = n) (hc : n ≤ c ∧ c ≤ 9223372036854775807) : ∀ (k i m : Nat) (ys : List Value), i + k * 8 = n → ys.length = m * 2 → m + k ≤ 1000 → Fl ys →
    LRuns inr Try.prog (dcB Try.prog) 1 5 h0 47 (dcS n c i (.slice (some ⟨1, 0, none⟩) m (capBig + 1))) [(0, ⟨.old, xs⟩), (1, rsRow ys)] 2
      (bif rdOk xs i k then (.exit 0, [(4, .slice (some ⟨1, 0, none⟩) (m + k) (capBig + 1))], [(0, ⟨.old, xs⟩), (1, rsRow (ys ++ rdL xs i k))]) else (.ret, [(2, .slice none 0 0), (3, .int .i64 4)], [(0, ⟨.old, xs⟩)]))
  | 0, i, m, ys, hk, hl, hm, hf => by
      have hX : XOkZ (rsV noL) Try.prog := noXz_ok rfl
      have hT : TOkZ (rsV noL) Try.prog := T_okV rfl nmT_one
      have hL : LOkZ (rsV noL) Try.prog := noL_okV rfl
      refine LRuns.exit (code_runs hX hL (runZ_ok hX hT hL mixed 5) mixed (dc_done1 inr xs ys n c i m) ?_) (by intro e; cases e) rfl (by omega) (by omega) (fun n => n) ?_ ?_ rfl
      · simp only [Alls, decide_eq_false_iff_not]
        repeat' (first | with_reducible exact trivial | with_reducible apply And.intro)
        all_goals first | with_reducible assumption | omega | with_reducible rfl | (skip)
      · exact ⟨rfl, rb_slg rfl rfl, trivial⟩
      · exact ⟨rb_old (by omega) rfl (fl_byts hb), rb_row (m := 1) rfl rfl rfl (by simp [rdL]) (hf.app (Fl.of rfl)), trivial⟩
  | k + 1, i, m, ys, hk, hl, hm, hf => by
      have hX : XOkZ (rsV noL) Try.prog := noXz_ok rfl
      have hT : TOkZ (rsV noL) Try.prog := T_okV rfl nmT_one
      have hL : LOkZ (rsV noL) Try.prog := noL_okV rfl
      have a0 : ∀ v, loO (some v) 0 i c 1 = i := fun v => (lo_at (by omega)).trans (Nat.zero_add _)
      have a4 : ∀ v, loO (some v) 0 (i + 4) c 1 = i + 4 := fun v => (lo_at (by omega)).trans (Nat.zero_add _)
      have e1 : n4 ((xs.drop i).take (i + 4 - i)) = n4 (xs.drop i) := n4_take (by omega)
      have e3 : n4 ((xs.drop (i + 4)).take (i + 8 - (i + 4))) = n4 (xs.drop (i + 4)) := n4_take (by omega)
      have b0 := (hb.drop i).take (i + 4 - i)
      have b4 := (hb.drop (i + 4)).take (i + 8 - (i + 4))
      have f0 := fl_byts b0
      have f4 := fl_byts b4
      by_cases g1 : n4 (xs.drop i) < 2147483648
      case neg =>
        rw [rdG_f (fun h => g1 h.1), cond_false]
        refine LRuns.exit (code_runs hX hL (runZ_ok hX hT hL mixed 5) mixed (dc_bada1 inr xs ys n c i m) ?_) (by intro e; cases e) rfl (by omega) (by omega) (fun n => n) ?_ ?_ rfl
        · simp only [tkD_eq, adN_eq, sbN_eq, a0, a4, e1, e3, Alls, decide_eq_true_eq, decide_eq_false_iff_not, rg]
          repeat' (first | with_reducible exact trivial | with_reducible apply And.intro)
          all_goals first | with_reducible assumption | omega | with_reducible rfl | (rfl)
        · exact ⟨rfl, rfl, rfl, rfl, trivial⟩
        · exact ⟨rb_old (by omega) rfl (fl_byts hb), trivial⟩
      by_cases g2 : n4 (xs.drop (i + 4)) < 2147483648
      case neg =>
        rw [rdG_f (fun h => g2 h.2), cond_false]
        refine LRuns.exit (code_runs hX hL (runZ_ok hX hT hL mixed 5) mixed (dc_badb1 inr xs ys n c i m) ?_) (by intro e; cases e) rfl (by omega) (by omega) (fun n => n) ?_ ?_ rfl
        · simp only [tkD_eq, adN_eq, sbN_eq, a0, a4, e1, e3, Alls, decide_eq_true_eq, decide_eq_false_iff_not, rg]
          repeat' (first | with_reducible exact trivial | with_reducible apply And.intro)
          all_goals first | with_reducible assumption | omega | with_reducible rfl | (rfl)
        · exact ⟨rfl, rfl, rfl, rfl, trivial⟩
        · exact ⟨rb_old (by omega) rfl (fl_byts hb), trivial⟩
      have hex : Fl (ys ++ e2 xs i) := hf.app (e2_Fl _ _)
      have nx := dc_loop1 (inr := inr) (h0 := h0) hb hn hc k (i + 8) (m + 1) (ys ++ e2 xs i) (by omega) (by simp [e2, hl]; omega) (by omega) hex
      rw [show ys ++ e2 xs i ++ rdL xs (i + 8) k = ys ++ rdL xs i (k + 1) by simp only [rdL, List.append_assoc], show m + 1 + k = m + (k + 1) by omega, ← rdG_t ⟨g1, g2⟩] at nx
      refine LRuns.step (code_runs hX hL (runZ_ok hX hT hL mixed 5) mixed (dc_more1 inr xs ys n c i m) ?_) rfl (by omega) (Nat.le_refl _) (fun _ => 4) ?_ ?_ rfl nx
      · simp only [tkD_eq, adN_eq, sbN_eq, a0, a4, e1, e3, Alls, decide_eq_true_eq, decide_eq_false_iff_not, rg]
        repeat' (first | with_reducible exact trivial | with_reducible apply And.intro)
        all_goals first | with_reducible assumption | omega | with_reducible rfl | (rfl)
      · exact ⟨rfl, rb_slc rfl (by unfold capBig; omega), rfl, rb_slg rfl rfl, rfl, rfl, trivial⟩
      · refine ⟨rb_old (by omega) rfl (fl_byts hb), rb_row (m := 4) (ds := ys ++ [.int .i64 (n4 (tkD (loO (some (.int .i64 (i : Int))) 0 i c 1) (sbN (i + 4) i) xs)), .int .i64 (n4 (tkD (loO (some (.int .i64 ((i + 4 : Nat) : Int))) 0 (i + 4) c 1) (sbN (i + 8) (i + 4)) xs))]) rfl rfl rfl ?_ hex, trivial⟩
        rw [a0, a4, tkD_eq, tkD_eq, sbN_eq, sbN_eq, e1, e3]
        rfl
theorem dc_loop {inr : Bool} {h0 : Hp} {xs : List Value} (hb : Byts xs) (n c : Nat) (hn : n % 8 = 0) (hl : xs.length = n) (hc : n ≤ c ∧ c ≤ 9223372036854775807) (hs : n ≤ 4096) :
    LRuns inr Try.prog (dcB Try.prog) 1 5 h0 47 (dcS n c 0 (.slice none 0 0)) [(0, ⟨.old, xs⟩)] 1 (rdEnd xs n) := by
  have hX : XOkZ (rsV noL) Try.prog := noXz_ok rfl
  have hT : TOkZ (rsV noL) Try.prog := T_okV rfl nmT_one
  have hL : LOkZ (rsV noL) Try.prog := noL_okV rfl
  unfold rdEnd
  by_cases h0' : n = 0
  · rw [decide_eq_true h0', cond_true]
    subst h0'
    refine LRuns.exit (code_runs hX hL (runZ_ok hX hT hL mixed 5) mixed (dc_done0 inr xs 0 c 0) ?_) (by intro e; cases e) rfl (by omega) (by omega) (fun n => n) ?_ ?_ rfl
    · simp [Alls]
    · exact ⟨rfl, rfl, trivial⟩
    · exact ⟨rb_old (by omega) rfl (fl_byts hb), trivial⟩
  · rw [decide_eq_false h0', cond_false]
    have a0 : ∀ v, loO (some v) 0 0 c 1 = 0 := fun v => (lo_at (by omega)).trans (Nat.zero_add _)
    have a4 : ∀ v, loO (some v) 0 (0 + 4) c 1 = 0 + 4 := fun v => (lo_at (by omega)).trans (Nat.zero_add _)
    obtain ⟨k, hk⟩ : ∃ k, n / 8 = k + 1 := ⟨n / 8 - 1, by omega⟩
    have e1 : n4 ((xs.drop 0).take (0 + 4 - 0)) = n4 (xs.drop 0) := n4_take (by omega)
    have e3 : n4 ((xs.drop (0 + 4)).take (0 + 8 - (0 + 4))) = n4 (xs.drop (0 + 4)) := n4_take (by omega)
    have b0 := (hb.drop 0).take (0 + 4 - 0)
    have b4 := (hb.drop (0 + 4)).take (0 + 8 - (0 + 4))
    have f0 := fl_byts b0
    have f4 := fl_byts b4
    by_cases g1 : n4 (xs.drop 0) < 2147483648
    case neg =>
      rw [hk, rdG_f (fun h => g1 h.1), cond_false]
      refine LRuns.exit (code_runs hX hL (runZ_ok hX hT hL mixed 5) mixed (dc_bada0 inr xs n c 0) ?_) (by intro e; cases e) rfl (by omega) (by omega) (fun n => n) ?_ ?_ rfl
      · simp only [tkD_eq, adN_eq, sbN_eq, a0, a4, e1, e3, Alls, decide_eq_true_eq, decide_eq_false_iff_not, rg]
        repeat' (first | with_reducible exact trivial | with_reducible apply And.intro)
        all_goals first | with_reducible assumption | omega | with_reducible rfl | (rfl)
      · exact ⟨rfl, rfl, rfl, rfl, trivial⟩
      · exact ⟨rb_old (by omega) rfl (fl_byts hb), trivial⟩
    by_cases g2 : n4 (xs.drop (0 + 4)) < 2147483648
    case neg =>
      rw [hk, rdG_f (fun h => g2 h.2), cond_false]
      refine LRuns.exit (code_runs hX hL (runZ_ok hX hT hL mixed 5) mixed (dc_badb0 inr xs n c 0) ?_) (by intro e; cases e) rfl (by omega) (by omega) (fun n => n) ?_ ?_ rfl
      · simp only [tkD_eq, adN_eq, sbN_eq, a0, a4, e1, e3, Alls, decide_eq_true_eq, decide_eq_false_iff_not, rg]
        repeat' (first | with_reducible exact trivial | with_reducible apply And.intro)
        all_goals first | with_reducible assumption | omega | with_reducible rfl | (rfl)
      · exact ⟨rfl, rfl, rfl, rfl, trivial⟩
      · exact ⟨rb_old (by omega) rfl (fl_byts hb), trivial⟩
    have nx := dc_loop1 (inr := inr) (h0 := h0) hb hl hc k (0 + 8) 1 (e2 xs 0) (by omega) rfl (by omega) (e2_Fl _ _)
    rw [show e2 xs 0 ++ rdL xs (0 + 8) k = rdL xs 0 (k + 1) from rfl, show 1 + k = n / 8 by omega, ← rdG_t ⟨g1, g2⟩, ← hk] at nx
    refine LRuns.stepTo (N' := 2) (code_runs hX hL (runZ_ok hX hT hL mixed 5) mixed (dc_more0 inr xs n c 0) ?_) rfl (by omega) (by omega) (by omega) (by omega) (fun _ => 3) ?_ ?_ rfl nx
    · simp only [tkD_eq, adN_eq, sbN_eq, a0, a4, e1, e3, Alls, decide_eq_true_eq, decide_eq_false_iff_not, rg]
      repeat' (first | with_reducible exact trivial | with_reducible apply And.intro)
      all_goals first | with_reducible assumption | omega | with_reducible rfl | (rfl)
    · exact ⟨rfl, rb_slc rfl (by unfold capBig; omega), rfl, rb_slg rfl rfl, rfl, rfl, trivial⟩
    · refine ⟨rb_old (by omega) rfl (fl_byts hb), rb_row (m := 3) (ds := [.int .i64 (n4 (tkD (loO (some (.int .i64 ((0 : Nat) : Int))) 0 0 c 1) (sbN (0 + 4) 0) xs)), .int .i64 (n4 (tkD (loO (some (.int .i64 ((0 + 4 : Nat) : Int))) 0 (0 + 4) c 1) (sbN (0 + 8) (0 + 4)) xs))]) rfl rfl rfl ?_ (e2_Fl _ _), trivial⟩
      rw [a0, a4, tkD_eq, tkD_eq, sbN_eq, sbN_eq, e1, e3]
      rfl
theorem rd_spec_ok : LSOk Try.prog 37 [0, 4] (rsB Try.prog) (rsSpec fun n c => rsS 0 n c (.slice none 0 0)) := by
  refine lspec_ok fun a tp xt l2 h2 nx2 d tp' ob hs ho inr ts hn hg => ?_
  obtain ⟨n, c, xs⟩ := a
  simp only at hs hg
  have hrow : ∀ {xs : List Value}, Byts xs → RbL 1 1 (fun n => n) [(0, ⟨.old, xs⟩)] [(0, ⟨.old, xs⟩)] [(0, ⟨.old, xs⟩)] := fun hb => ⟨rb_old (by omega) rfl (fl_byts hb), trivial⟩
  split at hs
  · simp only [Option.some.injEq, Prod.mk.injEq] at hs
    obtain ⟨⟨rfl, rfl, rfl, rfl, rfl⟩, rfl, rfl⟩ := hs
    obtain ⟨h0, hb, hl, hc, _⟩ := ho
    have key := rd_loop (inr := inr) (h0 := [(0, ⟨.old, xs⟩)]) hb n c (by omega) hl hc (by omega)
    unfold rdEnd at key
    rw [decide_eq_true h0, cond_true] at key
    refine LRuns.enter (l2 := rsS 0 n c (.slice none 0 0)) hn hg (Nat.le_refl 1) (by omega) (fun n => n) ?_ (hrow hb) rfl key ?_
    · exact ⟨rfl, rb_slc rfl (by unfold capBig; omega), rfl, rfl, trivial⟩
    · exact tidy_of (by omega) (fun n hn hd => rfl) rfl
  · simp only [Option.some.injEq, Prod.mk.injEq] at hs
    obtain ⟨⟨rfl, rfl, rfl, rfl, rfl⟩, rfl, rfl⟩ := hs
    obtain ⟨h0, hb, hm, hl, hc, hs, hr, _⟩ := ho
    have key := rd_loop (inr := inr) (h0 := [(0, ⟨.old, xs⟩)]) hb n c hm hl hc hs
    unfold rdEnd at key
    rw [h0, cond_false, hr, cond_true] at key
    refine LRuns.enter (l2 := rsS 0 n c (.slice none 0 0)) hn hg (Nat.le_refl 1) (by omega) (fun n => n) ?_ (hrow hb) rfl key ?_
    · exact ⟨rfl, rb_slc rfl (by unfold capBig; omega), rfl, rfl, trivial⟩
    · refine tidy_of (by omega) (fun n hn hd => ?_) rfl
      obtain rfl : n = 0 := by omega
      rfl
  · simp only [Option.some.injEq, Prod.mk.injEq] at hs
    obtain ⟨⟨rfl, rfl, rfl, rfl, rfl⟩, rfl, rfl⟩ := hs
    obtain ⟨h0, hb, hm, hl, hc, hs, hr, _⟩ := ho
    have key := rd_loop (inr := inr) (h0 := [(0, ⟨.old, xs⟩)]) hb n c hm hl hc hs
    unfold rdEnd at key
    rw [h0, cond_false, hr, cond_false] at key
    refine LRuns.enter (l2 := rsS 0 n c (.slice none 0 0)) hn hg (Nat.le_refl 1) (by omega) (fun n => n) ?_ (hrow hb) rfl key ?_
    · exact ⟨rfl, rb_slc rfl (by unfold capBig; omega), rfl, rfl, trivial⟩
    · refine tidy_of (by omega) (fun n hn hd => ?_) rfl
      obtain rfl : n = 0 := by omega
      rfl
  · cases hs
theorem dc_spec_ok : LSOk Try.prog 47 [0, 4, 5] (dcB Try.prog) (rsSpec fun n c => dcS n c 0 (.slice none 0 0)) := by
  refine lspec_ok fun a tp xt l2 h2 nx2 d tp' ob hs ho inr ts hn hg => ?_
  obtain ⟨n, c, xs⟩ := a
  simp only at hs hg
  have hrow : ∀ {xs : List Value}, Byts xs → RbL 1 1 (fun n => n) [(0, ⟨.old, xs⟩)] [(0, ⟨.old, xs⟩)] [(0, ⟨.old, xs⟩)] := fun hb => ⟨rb_old (by omega) rfl (fl_byts hb), trivial⟩
  split at hs
  · simp only [Option.some.injEq, Prod.mk.injEq] at hs
    obtain ⟨⟨rfl, rfl, rfl, rfl, rfl⟩, rfl, rfl⟩ := hs
    obtain ⟨h0, hb, hl, hc, _⟩ := ho
    have key := dc_loop (inr := inr) (h0 := [(0, ⟨.old, xs⟩)]) hb n c (by omega) hl hc (by omega)
    unfold rdEnd at key
    rw [decide_eq_true h0, cond_true] at key
    refine LRuns.enter (l2 := dcS n c 0 (.slice none 0 0)) hn hg (Nat.le_refl 1) (by omega) (fun n => n) ?_ (hrow hb) rfl key ?_
    · exact ⟨rfl, rb_slc rfl (by unfold capBig; omega), rfl, rfl, rfl, rfl, trivial⟩
    · exact tidy_of (by omega) (fun n hn hd => rfl) rfl
  · simp only [Option.some.injEq, Prod.mk.injEq] at hs
    obtain ⟨⟨rfl, rfl, rfl, rfl, rfl⟩, rfl, rfl⟩ := hs
    obtain ⟨h0, hb, hm, hl, hc, hs, hr, _⟩ := ho
    have key := dc_loop (inr := inr) (h0 := [(0, ⟨.old, xs⟩)]) hb n c hm hl hc hs
    unfold rdEnd at key
    rw [h0, cond_false, hr, cond_true] at key
    refine LRuns.enter (l2 := dcS n c 0 (.slice none 0 0)) hn hg (Nat.le_refl 1) (by omega) (fun n => n) ?_ (hrow hb) rfl key ?_
    · exact ⟨rfl, rb_slc rfl (by unfold capBig; omega), rfl, rfl, rfl, rfl, trivial⟩
    · refine tidy_of (by omega) (fun n hn hd => ?_) rfl
      obtain rfl : n = 0 := by omega
      rfl
  · simp only [Option.some.injEq, Prod.mk.injEq] at hs
    obtain ⟨⟨rfl, rfl, rfl, rfl, rfl⟩, rfl, rfl⟩ := hs
    obtain ⟨h0, hb, hm, hl, hc, hs, hr, _⟩ := ho
    have key := dc_loop (inr := inr) (h0 := [(0, ⟨.old, xs⟩)]) hb n c hm hl hc hs
    unfold rdEnd at key
    rw [h0, cond_false, hr, cond_false] at key
    refine LRuns.enter (l2 := dcS n c 0 (.slice none 0 0)) hn hg (Nat.le_refl 1) (by omega) (fun n => n) ?_ (hrow hb) rfl key ?_
    · exact ⟨rfl, rb_slc rfl (by unfold capBig; omega), rfl, rfl, rfl, rfl, trivial⟩
    · refine tidy_of (by omega) (fun n hn hd => ?_) rfl
      obtain rfl : n = 0 := by omega
      rfl
  · cases hs
theorem mod8 {n : Nat} (h : n % 8 = 0) : (((n % 8 : Nat) : Int) != 0) = false := by rw [h]; rfl
theorem mod8' {n : Nat} (h : decide (n % 8 = 0) = false) : (((n % 8 : Nat) : Int) != 0) = true := by
  simp only [decide_eq_false_iff_not] at h
  simp only [bne_iff_ne, ne_eq]; omega
/-- A tuple with a new list, grown. -/
theorem GrIs.grown {size len : Nat} {z cs : List Value} {e : Value} {h0' : Hp} {m : Nat} (hl : lk h0' m = some ⟨.room size z, cs⟩) (hf : Fl cs) (he : ∀ σ, renV σ e = some e) :
    GrIs ⟨fun nx => .tuple ⟨[.slice (some ⟨nx, 0, none⟩) len (capBig + nx), e]⟩, [⟨.room size z, cs⟩]⟩ (.tuple ⟨[.slice (some ⟨m, 0, none⟩) len (capBig + m), e]⟩) h0' (fun _ => m) := by
  refine ⟨fun nx => ?_, fun j r h => ?_, fun i j hi hj _ => ?_⟩
  · exact renV_tuple_mk (renL_mk (f2s_slice0 (g := fun _ => m) (by simp) len) (renL_mk (he _) rfl))
  · match j, h with
    | 0, h => cases h; exact ⟨hf, rfl, (fun e => by cases e), hl⟩
    | j + 1, h => simp at h
  · simp only [List.length_cons, List.length_nil] at hi hj; omega
theorem gt128f {k : Nat} (h : decide (k ≤ 128) = true) : decide ((k : Int) > 128) = false := by
  simp only [decide_eq_true_eq] at h; simp only [decide_eq_false_iff_not]; omega
theorem gt128t {k : Nat} (h : decide (k ≤ 128) = false) : decide ((k : Int) > 128) = true := by
  simp only [decide_eq_false_iff_not] at h; simp only [decide_eq_true_eq]; omega
theorem rd_gok : GOk Try.prog 30 [.s 1] (gS sRe) := by
  have hX : ∀ L, XOkZ (rsV L) Try.prog := fun L => noXz_ok rfl
  have hT : ∀ L, TOkZ (rsV L) Try.prog := fun L => T_okV rfl nmT_one
  have hL : LOkZ (rsV (rsLw Try.prog)) Try.prog := L_okV rfl (orL_ok (mkL_ok rd_spec_ok) (mkL_ok dc_spec_ok))
  have hL0 : LOkZ (rsV noL) Try.prog := noL_okV rfl
  refine gS_ok (fun tp gr tp' ob hG ho => ?_) (fun zs n c tp gr tp' ob hG ho hfl hl0 hc => ?_)
  · unfold sRe at hG
    split at hG
    case h_2 =>
      simp only [Option.some.injEq, Prod.mk.injEq] at hG
      obtain ⟨rfl, rfl, rfl⟩ := hG
      exact ⟨_, _, _, _, fun n => n, run_tri (hX _) (hT _) hL0 rd_n (by simp [Alls, rg, Ints, intsOf]) rfl, GrIs.flat fun σ => rfl⟩
    all_goals (exfalso; simp only [Option.some.injEq, Prod.mk.injEq, reduceCtorEq] at hG)
    all_goals (obtain ⟨rfl, rfl, rfl⟩ := hG; simp [Alls] at ho)
  · have hl : zs.length = n := by omega
    have hel := rdL_len zs (n / 8) 0
    have htk : (rdL zs 0 (n / 8)).take (n / 8 * 2) = rdL zs 0 (n / 8) := take_len hel
    have hef := (rdL_Ints zs (n / 8) 0).fl
    unfold sRe at hG
    split at hG
    case h_6 => cases hG
    all_goals (simp only [Option.some.injEq, Prod.mk.injEq] at hG; obtain ⟨rfl, rfl, rfl⟩ := hG)
    · obtain ⟨hb, h, _⟩ := ho
      refine ⟨_, _, _, _, fun n => n, run_tri (hX _) (hT _) hL (rd_bad zs n c) ?_ rfl, GrIs.flat fun σ => rfl⟩
      simp only [Alls]; repeat' (first | with_reducible exact trivial | with_reducible apply And.intro)
      all_goals first | with_reducible assumption | omega | with_reducible rfl | (exact mod8' h)
    · obtain ⟨hb, h, _⟩ := ho
      have h12 := mod8 (n := n) (by omega)
      refine ⟨_, _, _, _, fun n => n, run_tri (hX _) (hT _) hL (rd_nil zs n c) ?_ rfl, GrIs.flat fun σ => rfl⟩
      simp only [Alls]; repeat' (first | with_reducible exact trivial | with_reducible apply And.intro)
      all_goals first | with_reducible assumption | omega | with_reducible rfl | (rfl)
    · obtain ⟨hb, hm, hz, hs, hr, _⟩ := ho
      have h12 := mod8 hm
      refine ⟨_, _, _, _, fun n => n, run_tri (hX _) (hT _) hL (rd_not zs n c) ?_ rfl, GrIs.flat fun σ => rfl⟩
      simp only [htk, Alls]; repeat' (first | with_reducible exact trivial | with_reducible apply And.intro)
      all_goals first | with_reducible assumption | omega | with_reducible rfl | (rfl)
    · obtain ⟨hb, hm, hz, hs, hr, hg, _⟩ := ho
      have h12 := mod8 hm
      have g1 := gt128t hg
      refine ⟨_, _, _, _, fun n => n, run_tri (hX _) (hT _) hL (rd_long zs n c) ?_ rfl, GrIs.flat fun σ => rfl⟩
      simp only [htk, Alls]; repeat' (first | with_reducible exact trivial | with_reducible apply And.intro)
      all_goals first | with_reducible assumption | omega | with_reducible rfl | (first | exact g1 | rfl)
    · obtain ⟨hb, hm, hz, hs, hr, hg, _⟩ := ho
      have h12 := mod8 hm
      have g1 := gt128f hg
      refine ⟨_, _, _, _, fun _ => 1, run_tri (hX _) (hT _) hL (rd_ok zs n c) ?_ rfl, GrIs.grown rfl hef fun σ => rfl⟩
      simp only [htk, Alls]; repeat' (first | with_reducible exact trivial | with_reducible apply And.intro)
      all_goals first | with_reducible assumption | omega | with_reducible rfl | (first | exact g1 | rfl)
theorem dc_gok : GOk Try.prog 31 [.s 1] (gS sRe) := by
  have hX : ∀ L, XOkZ (rsV L) Try.prog := fun L => noXz_ok rfl
  have hT : ∀ L, TOkZ (rsV L) Try.prog := fun L => T_okV rfl nmT_one
  have hL : LOkZ (rsV (rsLw Try.prog)) Try.prog := L_okV rfl (orL_ok (mkL_ok rd_spec_ok) (mkL_ok dc_spec_ok))
  have hL0 : LOkZ (rsV noL) Try.prog := noL_okV rfl
  refine gS_ok (fun tp gr tp' ob hG ho => ?_) (fun zs n c tp gr tp' ob hG ho hfl hl0 hc => ?_)
  · unfold sRe at hG
    split at hG
    case h_2 =>
      simp only [Option.some.injEq, Prod.mk.injEq] at hG
      obtain ⟨rfl, rfl, rfl⟩ := hG
      exact ⟨_, _, _, _, fun n => n, run_tri (hX _) (hT _) hL0 dc_n (by simp [Alls, rg, Ints, intsOf]) rfl, GrIs.flat fun σ => rfl⟩
    all_goals (exfalso; simp only [Option.some.injEq, Prod.mk.injEq, reduceCtorEq] at hG)
    all_goals (obtain ⟨rfl, rfl, rfl⟩ := hG; simp [Alls] at ho)
  · have hl : zs.length = n := by omega
    have hel := rdL_len zs (n / 8) 0
    have htk : (rdL zs 0 (n / 8)).take (n / 8 * 2) = rdL zs 0 (n / 8) := take_len hel
    have hef := (rdL_Ints zs (n / 8) 0).fl
    unfold sRe at hG
    split at hG
    case h_6 => cases hG
    all_goals (simp only [Option.some.injEq, Prod.mk.injEq] at hG; obtain ⟨rfl, rfl, rfl⟩ := hG)
    · obtain ⟨hb, h, _⟩ := ho
      refine ⟨_, _, _, _, fun n => n, run_tri (hX _) (hT _) hL (dc_bad zs n c) ?_ rfl, GrIs.flat fun σ => rfl⟩
      simp only [Alls]; repeat' (first | with_reducible exact trivial | with_reducible apply And.intro)
      all_goals first | with_reducible assumption | omega | with_reducible rfl | (exact mod8' h)
    · obtain ⟨hb, h, _⟩ := ho
      have h12 := mod8 (n := n) (by omega)
      refine ⟨_, _, _, _, fun n => n, run_tri (hX _) (hT _) hL (dc_nil zs n c) ?_ rfl, GrIs.flat fun σ => rfl⟩
      simp only [Alls]; repeat' (first | with_reducible exact trivial | with_reducible apply And.intro)
      all_goals first | with_reducible assumption | omega | with_reducible rfl | (rfl)
    · obtain ⟨hb, hm, hz, hs, hr, _⟩ := ho
      have h12 := mod8 hm
      refine ⟨_, _, _, _, fun n => n, run_tri (hX _) (hT _) hL (dc_not zs n c) ?_ rfl, GrIs.flat fun σ => rfl⟩
      simp only [htk, Alls]; repeat' (first | with_reducible exact trivial | with_reducible apply And.intro)
      all_goals first | with_reducible assumption | omega | with_reducible rfl | (rfl)
    · obtain ⟨hb, hm, hz, hs, hr, hg, _⟩ := ho
      have h12 := mod8 hm
      have g1 := gt128t hg
      refine ⟨_, _, _, _, fun n => n, run_tri (hX _) (hT _) hL (dc_long zs n c) ?_ rfl, GrIs.flat fun σ => rfl⟩
      simp only [htk, Alls]; repeat' (first | with_reducible exact trivial | with_reducible apply And.intro)
      all_goals first | with_reducible assumption | omega | with_reducible rfl | (first | exact g1 | rfl)
    · obtain ⟨hb, hm, hz, hs, hr, hg, _⟩ := ho
      have h12 := mod8 hm
      have g1 := gt128f hg
      refine ⟨_, _, _, _, fun _ => 1, run_tri (hX _) (hT _) hL (dc_ok zs n c) ?_ rfl, GrIs.grown rfl hef fun σ => rfl⟩
      simp only [htk, Alls]; repeat' (first | with_reducible exact trivial | with_reducible apply And.intro)
      all_goals first | with_reducible assumption | omega | with_reducible rfl | (first | exact g1 | rfl)
end Go.Proofs.Ytmjmdjcgjmjigaa
