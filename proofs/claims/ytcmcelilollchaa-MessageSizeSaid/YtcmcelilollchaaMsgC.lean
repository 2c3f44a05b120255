/-
  Chapter 23: bytes of entries; lists of entries beside each other.
-/
import Derived.Test.YtcmcelilollchaaMsgB
namespace Go.Proofs.Ytcmcelilollchaa
set_option linter.unusedSimpArgs false
set_option linter.unusedVariables false
set_option linter.unusedSectionVars false
open Go Go.RowKit

def b4 (n : Int) : List Value := [.int .u8 (n % 256), .int .u8 (n / 256 % 256), .int .u8 (n / 65536 % 256), .int .u8 (n / 16777216 % 256)]
def o3 (xs : List Value) (i : Nat) : List Value := b4 (intAt xs (i * 3)) ++ b4 (intAt xs (i * 3 + 1)) ++ b4 (intAt xs (i * 3 + 2))
def ofL (xs : List Value) : Nat → Nat → List Value
  | _, 0 => []
  | i, k + 1 => o3 xs i ++ ofL xs (i + 1) k
def byRow (ys : List Value) : Rw := ⟨.room 1 [.int .u8 0], ys⟩
def gFour : GSpec := fun av tp => match av with
  | [.fl (.int .i64 n)] => some (⟨fun nx => .slice (some ⟨nx, 0, none⟩) 4 4, [⟨.shut, b4 n⟩]⟩, tp, [0 ≤ n ∧ n < 4294967296])
  | _ => none
def foV : Tv := ⟨noTz, noXz, noL, fun _ => [], allSy 30 [], fun _ => [], fun _ => 0⟩
theorem fo_r (n : Int) : runZ foV Try.prog 5 30 [.int .i64 n] [] 1 [] =
Res.ok
  ((Value.slice (some (Addr.mk (1 : Nat) (0 : Nat) none)) (4 : Nat) (4 : Nat),
      [((1 : Nat),
          Rw.mk Kd.shut
            [Value.int IntKind.u8 (lowI IntKind.u8 (mdI n (256 : Int))),
              Value.int IntKind.u8 (lowI IntKind.u8 (mdI (dvI n (256 : Int)) (256 : Int))),
              Value.int IntKind.u8 (lowI IntKind.u8 (mdI (dvI n (65536 : Int)) (256 : Int))),
              Value.int IntKind.u8 (lowI IntKind.u8 (dvI n (16777216 : Int)))])],
      (2 : Nat), []),
    [],
    [(0 : Int) ≤ n ∧ (0 : Int) < (256 : Int), (0 : Int) ≤ n ∧ (0 : Int) < (256 : Int) ∧ rg IntKind.i64 n,
      (0 : Int) ≤ dvI n (256 : Int) ∧ (0 : Int) < (256 : Int),
      (0 : Int) ≤ n ∧ (0 : Int) < (65536 : Int) ∧ rg IntKind.i64 n,
      (0 : Int) ≤ dvI n (65536 : Int) ∧ (0 : Int) < (256 : Int),
      (0 : Int) ≤ n ∧ (0 : Int) < (16777216 : Int) ∧ rg IntKind.i64 n]) := by kernel_rfl
def ofT : TFun := orTz (mkT 30 [.f] gFour) logT
def ofV (L : LFun) : Tv := ⟨ofT, noXz, L, fun f => bif Nat.beq f 11 then [11, 15] else bif Nat.beq f 12 then [8, 12] else [], orSy (exSy 11 [26, 27, 6, 18, 20, 22, 19, 21, 23, 24, 25] []) (allSy 12 []), fun _ => [], fun _ => 0⟩
def ofB (P : Program) : Code := bodyIn P 11 5
def roB (P : Program) : Code := bodyIn P 12 5
def ofS (n c i : Nat) (out : Value) : List (Nat × Value) := [(4, out), (12, .slice (some ⟨0, 0, none⟩) n c), (13, .int .i64 (n : Int)), (14, .int .i64 (i : Int))]
def roS (n c i : Nat) (out : Value) : List (Nat × Value) := [(0, .slice (some ⟨0, 0, none⟩) n c), (4, out), (5, .int .i64 (i : Int))]
theorem of_more0 (inr : Bool) (xs : List Value) (n c i : Nat) : prjZ [4, 12, 13, 14] (codeZ (ofV noL) Try.prog (runZ (ofV noL) Try.prog 5) 11 inr 100000 (ofB Try.prog) (SL 45 (ofS n c i (.slice none 0 0))) [(0, ⟨.old, xs⟩)] 1 [true]) =
Res.ok
  ((Xt.normal, (45 : Nat),
      [((4 : Nat), Value.slice (some (Addr.mk (7 : Nat) (0 : Nat) none)) (12 : Nat) (capBig + (7 : Nat))),
        ((12 : Nat), Value.slice (some (Addr.mk (0 : Nat) (0 : Nat) none)) n c),
        ((13 : Nat), Value.int IntKind.i64 (↑n : Int)), ((14 : Nat), Value.int IntKind.i64 (↑(i + (1 : Nat)) : Int))],
      [((7 : Nat),
          Rw.mk (Kd.room (1 : Nat) [Value.int IntKind.u8 (0 : Int)])
            [Value.int IntKind.u8 (lowI IntKind.u8 (intAt xs (i * (3 : Nat)))),
              Value.int IntKind.u8 (lowI IntKind.u8 (srI (intAt xs (i * (3 : Nat))) (8 : Int))),
              Value.int IntKind.u8 (lowI IntKind.u8 (srI (intAt xs (i * (3 : Nat))) (16 : Int))),
              Value.int IntKind.u8 (lowI IntKind.u8 (srI (intAt xs (i * (3 : Nat))) (24 : Int))),
              Value.int IntKind.u8 (lowI IntKind.u8 (intAt xs (i * (3 : Nat) + (1 : Nat)))),
              Value.int IntKind.u8 (lowI IntKind.u8 (srI (intAt xs (i * (3 : Nat) + (1 : Nat))) (8 : Int))),
              Value.int IntKind.u8 (lowI IntKind.u8 (srI (intAt xs (i * (3 : Nat) + (1 : Nat))) (16 : Int))),
              Value.int IntKind.u8 (lowI IntKind.u8 (srI (intAt xs (i * (3 : Nat) + (1 : Nat))) (24 : Int))),
              Value.int IntKind.u8 (lowI IntKind.u8 (intAt xs (i * (3 : Nat) + (1 : Nat) + (1 : Nat)))),
              Value.int IntKind.u8 (lowI IntKind.u8 (srI (intAt xs (i * (3 : Nat) + (1 : Nat) + (1 : Nat))) (8 : Int))),
              Value.int IntKind.u8
                (lowI IntKind.u8 (srI (intAt xs (i * (3 : Nat) + (1 : Nat) + (1 : Nat))) (16 : Int))),
              Value.int IntKind.u8
                (lowI IntKind.u8 (srI (intAt xs (i * (3 : Nat) + (1 : Nat) + (1 : Nat))) (24 : Int)))]),
        ((6 : Nat),
          Rw.mk Kd.shut
            [Value.int IntKind.u8 (lowI IntKind.u8 (intAt xs (i * (3 : Nat) + (1 : Nat) + (1 : Nat)))),
              Value.int IntKind.u8 (lowI IntKind.u8 (srI (intAt xs (i * (3 : Nat) + (1 : Nat) + (1 : Nat))) (8 : Int))),
              Value.int IntKind.u8
                (lowI IntKind.u8 (srI (intAt xs (i * (3 : Nat) + (1 : Nat) + (1 : Nat))) (16 : Int))),
              Value.int IntKind.u8
                (lowI IntKind.u8 (srI (intAt xs (i * (3 : Nat) + (1 : Nat) + (1 : Nat))) (24 : Int)))]),
        ((4 : Nat),
          Rw.mk Kd.shut
            [Value.int IntKind.u8 (lowI IntKind.u8 (intAt xs (i * (3 : Nat) + (1 : Nat)))),
              Value.int IntKind.u8 (lowI IntKind.u8 (srI (intAt xs (i * (3 : Nat) + (1 : Nat))) (8 : Int))),
              Value.int IntKind.u8 (lowI IntKind.u8 (srI (intAt xs (i * (3 : Nat) + (1 : Nat))) (16 : Int))),
              Value.int IntKind.u8 (lowI IntKind.u8 (srI (intAt xs (i * (3 : Nat) + (1 : Nat))) (24 : Int)))]),
        ((2 : Nat),
          Rw.mk Kd.shut
            [Value.int IntKind.u8 (lowI IntKind.u8 (intAt xs (i * (3 : Nat)))),
              Value.int IntKind.u8 (lowI IntKind.u8 (srI (intAt xs (i * (3 : Nat))) (8 : Int))),
              Value.int IntKind.u8 (lowI IntKind.u8 (srI (intAt xs (i * (3 : Nat))) (16 : Int))),
              Value.int IntKind.u8 (lowI IntKind.u8 (srI (intAt xs (i * (3 : Nat))) (24 : Int)))]),
        ((1 : Nat),
          Rw.mk Kd.shut
            [Value.int IntKind.i64 (intAt xs (i * (3 : Nat))),
              Value.int IntKind.i64 (intAt xs (i * (3 : Nat) + (1 : Nat))),
              Value.int IntKind.i64 (intAt xs (i * (3 : Nat) + (1 : Nat) + (1 : Nat)))]),
        ((0 : Nat), Rw.mk Kd.old xs)],
      (8 : Nat), [(5 : Nat), (3 : Nat), (1 : Nat)], []),
    [],
    [decide ((↑i : Int) < (↑n : Int)) = true, (0 : Int) ≤ (↑i : Int) ∧ (↑i : Int) < (↑n : Int),
      List.take (3 : Nat) (List.drop (i * (3 : Nat)) xs) =
        [Value.int IntKind.i64 (intAt xs (i * (3 : Nat))), Value.int IntKind.i64 (intAt xs (i * (3 : Nat) + (1 : Nat))),
          Value.int IntKind.i64 (intAt xs (i * (3 : Nat) + (1 : Nat) + (1 : Nat)))],
      (3 : Nat) ≤ (3 : Nat), (0 : Int) ≤ (8 : Int) ∧ (8 : Int) ≤ (64 : Int),
      (0 : Int) ≤ (16 : Int) ∧ (16 : Int) ≤ (64 : Int), (0 : Int) ≤ (24 : Int) ∧ (24 : Int) ≤ (64 : Int),
      (4 : Nat) ≠ (0 : Nat), (4 : Nat) ≤ (140737488355328 : Nat) ∧ (4 : Nat) ≤ (9223372036854775807 : Nat),
      (4 : Nat) ≤ (4 : Nat), true = true, rg IntKind.i64 (1 : Int), (0 : Int) ≤ (8 : Int) ∧ (8 : Int) ≤ (64 : Int),
      (0 : Int) ≤ (16 : Int) ∧ (16 : Int) ≤ (64 : Int), (0 : Int) ≤ (24 : Int) ∧ (24 : Int) ≤ (64 : Int),
      capBig + (3 : Nat) = capBig + (3 : Nat), (4 : Nat) = (4 : Nat),
      (8 : Nat) ≤ (140737488355328 : Nat) ∧ (8 : Nat) ≤ (9223372036854775807 : Nat), (4 : Nat) ≤ (4 : Nat), true = true,
      rg IntKind.i64 (2 : Int), (0 : Int) ≤ (8 : Int) ∧ (8 : Int) ≤ (64 : Int),
      (0 : Int) ≤ (16 : Int) ∧ (16 : Int) ≤ (64 : Int), (0 : Int) ≤ (24 : Int) ∧ (24 : Int) ≤ (64 : Int),
      capBig + (5 : Nat) = capBig + (5 : Nat), (8 : Nat) = (8 : Nat),
      (12 : Nat) ≤ (140737488355328 : Nat) ∧ (12 : Nat) ≤ (9223372036854775807 : Nat), (4 : Nat) ≤ (4 : Nat),
      true = true, rg IntKind.i64 (3 : Int), rg IntKind.i64 (↑(i + (1 : Nat)) : Int)]) := by kernel_rfl
theorem of_more1 (inr : Bool) (xs ys : List Value) (n c i m : Nat) : prjZ [4, 12, 13, 14] (codeZ (ofV noL) Try.prog (runZ (ofV noL) Try.prog 5) 11 inr 100000 (ofB Try.prog) (SL 45 (ofS n c i (.slice (some ⟨1, 0, none⟩) m (capBig + 1)))) [(0, ⟨.old, xs⟩), (1, byRow ys)] 2 [true]) =
Res.ok
  ((Xt.normal, (45 : Nat),
      [((4 : Nat),
          Value.slice (some (Addr.mk (8 : Nat) (0 : Nat) none)) (m + (4 : Nat) + (4 : Nat) + (4 : Nat))
            (capBig + (8 : Nat))),
        ((12 : Nat), Value.slice (some (Addr.mk (0 : Nat) (0 : Nat) none)) n c),
        ((13 : Nat), Value.int IntKind.i64 (↑n : Int)), ((14 : Nat), Value.int IntKind.i64 (↑(i + (1 : Nat)) : Int))],
      [((8 : Nat),
          Rw.mk (Kd.room (1 : Nat) [Value.int IntKind.u8 (0 : Int)])
            (ys ++
                  [Value.int IntKind.u8 (lowI IntKind.u8 (intAt xs (i * (3 : Nat)))),
                    Value.int IntKind.u8 (lowI IntKind.u8 (srI (intAt xs (i * (3 : Nat))) (8 : Int))),
                    Value.int IntKind.u8 (lowI IntKind.u8 (srI (intAt xs (i * (3 : Nat))) (16 : Int))),
                    Value.int IntKind.u8 (lowI IntKind.u8 (srI (intAt xs (i * (3 : Nat))) (24 : Int)))] ++
                [Value.int IntKind.u8 (lowI IntKind.u8 (intAt xs (i * (3 : Nat) + (1 : Nat)))),
                  Value.int IntKind.u8 (lowI IntKind.u8 (srI (intAt xs (i * (3 : Nat) + (1 : Nat))) (8 : Int))),
                  Value.int IntKind.u8 (lowI IntKind.u8 (srI (intAt xs (i * (3 : Nat) + (1 : Nat))) (16 : Int))),
                  Value.int IntKind.u8 (lowI IntKind.u8 (srI (intAt xs (i * (3 : Nat) + (1 : Nat))) (24 : Int)))] ++
              [Value.int IntKind.u8 (lowI IntKind.u8 (intAt xs (i * (3 : Nat) + (1 : Nat) + (1 : Nat)))),
                Value.int IntKind.u8
                  (lowI IntKind.u8 (srI (intAt xs (i * (3 : Nat) + (1 : Nat) + (1 : Nat))) (8 : Int))),
                Value.int IntKind.u8
                  (lowI IntKind.u8 (srI (intAt xs (i * (3 : Nat) + (1 : Nat) + (1 : Nat))) (16 : Int))),
                Value.int IntKind.u8
                  (lowI IntKind.u8 (srI (intAt xs (i * (3 : Nat) + (1 : Nat) + (1 : Nat))) (24 : Int)))])),
        ((7 : Nat),
          Rw.mk Kd.shut
            [Value.int IntKind.u8 (lowI IntKind.u8 (intAt xs (i * (3 : Nat) + (1 : Nat) + (1 : Nat)))),
              Value.int IntKind.u8 (lowI IntKind.u8 (srI (intAt xs (i * (3 : Nat) + (1 : Nat) + (1 : Nat))) (8 : Int))),
              Value.int IntKind.u8
                (lowI IntKind.u8 (srI (intAt xs (i * (3 : Nat) + (1 : Nat) + (1 : Nat))) (16 : Int))),
              Value.int IntKind.u8
                (lowI IntKind.u8 (srI (intAt xs (i * (3 : Nat) + (1 : Nat) + (1 : Nat))) (24 : Int)))]),
        ((5 : Nat),
          Rw.mk Kd.shut
            [Value.int IntKind.u8 (lowI IntKind.u8 (intAt xs (i * (3 : Nat) + (1 : Nat)))),
              Value.int IntKind.u8 (lowI IntKind.u8 (srI (intAt xs (i * (3 : Nat) + (1 : Nat))) (8 : Int))),
              Value.int IntKind.u8 (lowI IntKind.u8 (srI (intAt xs (i * (3 : Nat) + (1 : Nat))) (16 : Int))),
              Value.int IntKind.u8 (lowI IntKind.u8 (srI (intAt xs (i * (3 : Nat) + (1 : Nat))) (24 : Int)))]),
        ((3 : Nat),
          Rw.mk Kd.shut
            [Value.int IntKind.u8 (lowI IntKind.u8 (intAt xs (i * (3 : Nat)))),
              Value.int IntKind.u8 (lowI IntKind.u8 (srI (intAt xs (i * (3 : Nat))) (8 : Int))),
              Value.int IntKind.u8 (lowI IntKind.u8 (srI (intAt xs (i * (3 : Nat))) (16 : Int))),
              Value.int IntKind.u8 (lowI IntKind.u8 (srI (intAt xs (i * (3 : Nat))) (24 : Int)))]),
        ((2 : Nat),
          Rw.mk Kd.shut
            [Value.int IntKind.i64 (intAt xs (i * (3 : Nat))),
              Value.int IntKind.i64 (intAt xs (i * (3 : Nat) + (1 : Nat))),
              Value.int IntKind.i64 (intAt xs (i * (3 : Nat) + (1 : Nat) + (1 : Nat)))]),
        ((0 : Nat), Rw.mk Kd.old xs)],
      (9 : Nat), [(6 : Nat), (4 : Nat), (1 : Nat), (2 : Nat)], []),
    [],
    [decide ((↑i : Int) < (↑n : Int)) = true, (0 : Int) ≤ (↑i : Int) ∧ (↑i : Int) < (↑n : Int),
      List.take (3 : Nat) (List.drop (i * (3 : Nat)) xs) =
        [Value.int IntKind.i64 (intAt xs (i * (3 : Nat))), Value.int IntKind.i64 (intAt xs (i * (3 : Nat) + (1 : Nat))),
          Value.int IntKind.i64 (intAt xs (i * (3 : Nat) + (1 : Nat) + (1 : Nat)))],
      (3 : Nat) ≤ (3 : Nat), (0 : Int) ≤ (8 : Int) ∧ (8 : Int) ≤ (64 : Int),
      (0 : Int) ≤ (16 : Int) ∧ (16 : Int) ≤ (64 : Int), (0 : Int) ≤ (24 : Int) ∧ (24 : Int) ≤ (64 : Int),
      capBig + (1 : Nat) = capBig + (1 : Nat), List.length ys = m,
      (m + (4 : Nat)) * (1 : Nat) ≤ (140737488355328 : Nat) ∧ m + (4 : Nat) ≤ (9223372036854775807 : Nat),
      (4 : Nat) ≤ (4 : Nat), true = true, rg IntKind.i64 (1 : Int), (0 : Int) ≤ (8 : Int) ∧ (8 : Int) ≤ (64 : Int),
      (0 : Int) ≤ (16 : Int) ∧ (16 : Int) ≤ (64 : Int), (0 : Int) ≤ (24 : Int) ∧ (24 : Int) ≤ (64 : Int),
      capBig + (4 : Nat) = capBig + (4 : Nat),
      List.length
          (ys ++
            [Value.int IntKind.u8 (lowI IntKind.u8 (intAt xs (i * (3 : Nat)))),
              Value.int IntKind.u8 (lowI IntKind.u8 (srI (intAt xs (i * (3 : Nat))) (8 : Int))),
              Value.int IntKind.u8 (lowI IntKind.u8 (srI (intAt xs (i * (3 : Nat))) (16 : Int))),
              Value.int IntKind.u8 (lowI IntKind.u8 (srI (intAt xs (i * (3 : Nat))) (24 : Int)))]) =
        m + (4 : Nat),
      (m + (4 : Nat) + (4 : Nat)) * (1 : Nat) ≤ (140737488355328 : Nat) ∧
        m + (4 : Nat) + (4 : Nat) ≤ (9223372036854775807 : Nat),
      (4 : Nat) ≤ (4 : Nat), true = true, rg IntKind.i64 (2 : Int), (0 : Int) ≤ (8 : Int) ∧ (8 : Int) ≤ (64 : Int),
      (0 : Int) ≤ (16 : Int) ∧ (16 : Int) ≤ (64 : Int), (0 : Int) ≤ (24 : Int) ∧ (24 : Int) ≤ (64 : Int),
      capBig + (6 : Nat) = capBig + (6 : Nat),
      List.length
          (ys ++
              [Value.int IntKind.u8 (lowI IntKind.u8 (intAt xs (i * (3 : Nat)))),
                Value.int IntKind.u8 (lowI IntKind.u8 (srI (intAt xs (i * (3 : Nat))) (8 : Int))),
                Value.int IntKind.u8 (lowI IntKind.u8 (srI (intAt xs (i * (3 : Nat))) (16 : Int))),
                Value.int IntKind.u8 (lowI IntKind.u8 (srI (intAt xs (i * (3 : Nat))) (24 : Int)))] ++
            [Value.int IntKind.u8 (lowI IntKind.u8 (intAt xs (i * (3 : Nat) + (1 : Nat)))),
              Value.int IntKind.u8 (lowI IntKind.u8 (srI (intAt xs (i * (3 : Nat) + (1 : Nat))) (8 : Int))),
              Value.int IntKind.u8 (lowI IntKind.u8 (srI (intAt xs (i * (3 : Nat) + (1 : Nat))) (16 : Int))),
              Value.int IntKind.u8 (lowI IntKind.u8 (srI (intAt xs (i * (3 : Nat) + (1 : Nat))) (24 : Int)))]) =
        m + (4 : Nat) + (4 : Nat),
      (m + (4 : Nat) + (4 : Nat) + (4 : Nat)) * (1 : Nat) ≤ (140737488355328 : Nat) ∧
        m + (4 : Nat) + (4 : Nat) + (4 : Nat) ≤ (9223372036854775807 : Nat),
      (4 : Nat) ≤ (4 : Nat), true = true, rg IntKind.i64 (3 : Int), rg IntKind.i64 (↑(i + (1 : Nat)) : Int)]) := by kernel_rfl
theorem of_done0 (inr : Bool) (xs : List Value) (n c i : Nat) : prjZ [4] (codeZ (ofV noL) Try.prog (runZ (ofV noL) Try.prog 5) 11 inr 100000 (ofB Try.prog) (SL 45 (ofS n c i (.slice none 0 0))) [(0, ⟨.old, xs⟩)] 1 [false]) =
Res.ok
  ((Xt.exit (0 : Nat), (45 : Nat), [((4 : Nat), Value.slice none (0 : Nat) (0 : Nat))], [((0 : Nat), Rw.mk Kd.old xs)],
      (1 : Nat), [], []),
    [], [decide ((↑i : Int) < (↑n : Int)) = false]) := by kernel_rfl
theorem of_done1 (inr : Bool) (xs ys : List Value) (n c i m : Nat) : prjZ [4] (codeZ (ofV noL) Try.prog (runZ (ofV noL) Try.prog 5) 11 inr 100000 (ofB Try.prog) (SL 45 (ofS n c i (.slice (some ⟨1, 0, none⟩) m (capBig + 1)))) [(0, ⟨.old, xs⟩), (1, byRow ys)] 2 [false]) =
Res.ok
  ((Xt.exit (0 : Nat), (45 : Nat),
      [((4 : Nat), Value.slice (some (Addr.mk (1 : Nat) (0 : Nat) none)) m (capBig + (1 : Nat)))],
      [((0 : Nat), Rw.mk Kd.old xs), ((1 : Nat), Rw.mk (Kd.room (1 : Nat) [Value.int IntKind.u8 (0 : Int)]) ys)],
      (2 : Nat), [], []),
    [], [decide ((↑i : Int) < (↑n : Int)) = false]) := by kernel_rfl
theorem ro_more0 (inr : Bool) (xs : List Value) (n c i : Nat) : prjZ [0, 4, 5] (codeZ (ofV noL) Try.prog (runZ (ofV noL) Try.prog 5) 12 inr 100000 (roB Try.prog) (SL 40 (roS n c i (.slice none 0 0))) [(0, ⟨.old, xs⟩)] 1 [true]) =
Res.ok
  ((Xt.normal, (40 : Nat),
      [((0 : Nat), Value.slice (some (Addr.mk (0 : Nat) (0 : Nat) none)) n c),
        ((4 : Nat), Value.slice (some (Addr.mk (6 : Nat) (0 : Nat) none)) (12 : Nat) (capBig + (6 : Nat))),
        ((5 : Nat), Value.int IntKind.i64 (↑(i + (1 : Nat)) : Int))],
      [((6 : Nat),
          Rw.mk (Kd.room (1 : Nat) [Value.int IntKind.u8 (0 : Int)])
            [Value.int IntKind.u8 (intAt xs (i * (3 : Nat) + (0 : Nat)) % (256 : Int)),
              Value.int IntKind.u8 (intAt xs (i * (3 : Nat) + (0 : Nat)) / (256 : Int) % (256 : Int)),
              Value.int IntKind.u8 (intAt xs (i * (3 : Nat) + (0 : Nat)) / (65536 : Int) % (256 : Int)),
              Value.int IntKind.u8 (intAt xs (i * (3 : Nat) + (0 : Nat)) / (16777216 : Int) % (256 : Int)),
              Value.int IntKind.u8 (intAt xs (i * (3 : Nat) + (1 : Nat)) % (256 : Int)),
              Value.int IntKind.u8 (intAt xs (i * (3 : Nat) + (1 : Nat)) / (256 : Int) % (256 : Int)),
              Value.int IntKind.u8 (intAt xs (i * (3 : Nat) + (1 : Nat)) / (65536 : Int) % (256 : Int)),
              Value.int IntKind.u8 (intAt xs (i * (3 : Nat) + (1 : Nat)) / (16777216 : Int) % (256 : Int)),
              Value.int IntKind.u8 (intAt xs (i * (3 : Nat) + (2 : Nat)) % (256 : Int)),
              Value.int IntKind.u8 (intAt xs (i * (3 : Nat) + (2 : Nat)) / (256 : Int) % (256 : Int)),
              Value.int IntKind.u8 (intAt xs (i * (3 : Nat) + (2 : Nat)) / (65536 : Int) % (256 : Int)),
              Value.int IntKind.u8 (intAt xs (i * (3 : Nat) + (2 : Nat)) / (16777216 : Int) % (256 : Int))]),
        ((5 : Nat),
          Rw.mk Kd.shut
            [Value.int IntKind.u8 (intAt xs (i * (3 : Nat) + (2 : Nat)) % (256 : Int)),
              Value.int IntKind.u8 (intAt xs (i * (3 : Nat) + (2 : Nat)) / (256 : Int) % (256 : Int)),
              Value.int IntKind.u8 (intAt xs (i * (3 : Nat) + (2 : Nat)) / (65536 : Int) % (256 : Int)),
              Value.int IntKind.u8 (intAt xs (i * (3 : Nat) + (2 : Nat)) / (16777216 : Int) % (256 : Int))]),
        ((3 : Nat),
          Rw.mk Kd.shut
            [Value.int IntKind.u8 (intAt xs (i * (3 : Nat) + (1 : Nat)) % (256 : Int)),
              Value.int IntKind.u8 (intAt xs (i * (3 : Nat) + (1 : Nat)) / (256 : Int) % (256 : Int)),
              Value.int IntKind.u8 (intAt xs (i * (3 : Nat) + (1 : Nat)) / (65536 : Int) % (256 : Int)),
              Value.int IntKind.u8 (intAt xs (i * (3 : Nat) + (1 : Nat)) / (16777216 : Int) % (256 : Int))]),
        ((1 : Nat),
          Rw.mk Kd.shut
            [Value.int IntKind.u8 (intAt xs (i * (3 : Nat) + (0 : Nat)) % (256 : Int)),
              Value.int IntKind.u8 (intAt xs (i * (3 : Nat) + (0 : Nat)) / (256 : Int) % (256 : Int)),
              Value.int IntKind.u8 (intAt xs (i * (3 : Nat) + (0 : Nat)) / (65536 : Int) % (256 : Int)),
              Value.int IntKind.u8 (intAt xs (i * (3 : Nat) + (0 : Nat)) / (16777216 : Int) % (256 : Int))]),
        ((0 : Nat), Rw.mk Kd.old xs)],
      (7 : Nat), [(4 : Nat), (2 : Nat)], []),
    [],
    [decide ((↑i : Int) < (↑n : Int)) = true, (0 : Int) ≤ (↑i : Int) ∧ (↑i : Int) < (↑n : Int),
      xs[i * (3 : Nat) + (0 : Nat)]? = some (Value.int IntKind.i64 (intAt xs (i * (3 : Nat) + (0 : Nat)))),
      (0 : Int) ≤ intAt xs (i * (3 : Nat) + (0 : Nat)) ∧ intAt xs (i * (3 : Nat) + (0 : Nat)) < (4294967296 : Int),
      (4 : Nat) ≠ (0 : Nat), (4 : Nat) ≤ (140737488355328 : Nat) ∧ (4 : Nat) ≤ (9223372036854775807 : Nat),
      (4 : Nat) ≤ (4 : Nat), true = true, (0 : Int) ≤ (↑i : Int) ∧ (↑i : Int) < (↑n : Int),
      xs[i * (3 : Nat) + (1 : Nat)]? = some (Value.int IntKind.i64 (intAt xs (i * (3 : Nat) + (1 : Nat)))),
      (0 : Int) ≤ intAt xs (i * (3 : Nat) + (1 : Nat)) ∧ intAt xs (i * (3 : Nat) + (1 : Nat)) < (4294967296 : Int),
      capBig + (2 : Nat) = capBig + (2 : Nat), (4 : Nat) = (4 : Nat),
      (8 : Nat) ≤ (140737488355328 : Nat) ∧ (8 : Nat) ≤ (9223372036854775807 : Nat), (4 : Nat) ≤ (4 : Nat), true = true,
      (0 : Int) ≤ (↑i : Int) ∧ (↑i : Int) < (↑n : Int),
      xs[i * (3 : Nat) + (2 : Nat)]? = some (Value.int IntKind.i64 (intAt xs (i * (3 : Nat) + (2 : Nat)))),
      (0 : Int) ≤ intAt xs (i * (3 : Nat) + (2 : Nat)) ∧ intAt xs (i * (3 : Nat) + (2 : Nat)) < (4294967296 : Int),
      capBig + (4 : Nat) = capBig + (4 : Nat), (8 : Nat) = (8 : Nat),
      (12 : Nat) ≤ (140737488355328 : Nat) ∧ (12 : Nat) ≤ (9223372036854775807 : Nat), (4 : Nat) ≤ (4 : Nat),
      true = true, rg IntKind.i64 (↑(i + (1 : Nat)) : Int)]) := by kernel_rfl
theorem ro_more1 (inr : Bool) (xs ys : List Value) (n c i m : Nat) : prjZ [0, 4, 5] (codeZ (ofV noL) Try.prog (runZ (ofV noL) Try.prog 5) 12 inr 100000 (roB Try.prog) (SL 40 (roS n c i (.slice (some ⟨1, 0, none⟩) m (capBig + 1)))) [(0, ⟨.old, xs⟩), (1, byRow ys)] 2 [true]) =
Res.ok
  ((Xt.normal, (40 : Nat),
      [((0 : Nat), Value.slice (some (Addr.mk (0 : Nat) (0 : Nat) none)) n c),
        ((4 : Nat),
          Value.slice (some (Addr.mk (7 : Nat) (0 : Nat) none)) (m + (4 : Nat) + (4 : Nat) + (4 : Nat))
            (capBig + (7 : Nat))),
        ((5 : Nat), Value.int IntKind.i64 (↑(i + (1 : Nat)) : Int))],
      [((7 : Nat),
          Rw.mk (Kd.room (1 : Nat) [Value.int IntKind.u8 (0 : Int)])
            (ys ++
                  [Value.int IntKind.u8 (intAt xs (i * (3 : Nat) + (0 : Nat)) % (256 : Int)),
                    Value.int IntKind.u8 (intAt xs (i * (3 : Nat) + (0 : Nat)) / (256 : Int) % (256 : Int)),
                    Value.int IntKind.u8 (intAt xs (i * (3 : Nat) + (0 : Nat)) / (65536 : Int) % (256 : Int)),
                    Value.int IntKind.u8 (intAt xs (i * (3 : Nat) + (0 : Nat)) / (16777216 : Int) % (256 : Int))] ++
                [Value.int IntKind.u8 (intAt xs (i * (3 : Nat) + (1 : Nat)) % (256 : Int)),
                  Value.int IntKind.u8 (intAt xs (i * (3 : Nat) + (1 : Nat)) / (256 : Int) % (256 : Int)),
                  Value.int IntKind.u8 (intAt xs (i * (3 : Nat) + (1 : Nat)) / (65536 : Int) % (256 : Int)),
                  Value.int IntKind.u8 (intAt xs (i * (3 : Nat) + (1 : Nat)) / (16777216 : Int) % (256 : Int))] ++
              [Value.int IntKind.u8 (intAt xs (i * (3 : Nat) + (2 : Nat)) % (256 : Int)),
                Value.int IntKind.u8 (intAt xs (i * (3 : Nat) + (2 : Nat)) / (256 : Int) % (256 : Int)),
                Value.int IntKind.u8 (intAt xs (i * (3 : Nat) + (2 : Nat)) / (65536 : Int) % (256 : Int)),
                Value.int IntKind.u8 (intAt xs (i * (3 : Nat) + (2 : Nat)) / (16777216 : Int) % (256 : Int))])),
        ((6 : Nat),
          Rw.mk Kd.shut
            [Value.int IntKind.u8 (intAt xs (i * (3 : Nat) + (2 : Nat)) % (256 : Int)),
              Value.int IntKind.u8 (intAt xs (i * (3 : Nat) + (2 : Nat)) / (256 : Int) % (256 : Int)),
              Value.int IntKind.u8 (intAt xs (i * (3 : Nat) + (2 : Nat)) / (65536 : Int) % (256 : Int)),
              Value.int IntKind.u8 (intAt xs (i * (3 : Nat) + (2 : Nat)) / (16777216 : Int) % (256 : Int))]),
        ((4 : Nat),
          Rw.mk Kd.shut
            [Value.int IntKind.u8 (intAt xs (i * (3 : Nat) + (1 : Nat)) % (256 : Int)),
              Value.int IntKind.u8 (intAt xs (i * (3 : Nat) + (1 : Nat)) / (256 : Int) % (256 : Int)),
              Value.int IntKind.u8 (intAt xs (i * (3 : Nat) + (1 : Nat)) / (65536 : Int) % (256 : Int)),
              Value.int IntKind.u8 (intAt xs (i * (3 : Nat) + (1 : Nat)) / (16777216 : Int) % (256 : Int))]),
        ((2 : Nat),
          Rw.mk Kd.shut
            [Value.int IntKind.u8 (intAt xs (i * (3 : Nat) + (0 : Nat)) % (256 : Int)),
              Value.int IntKind.u8 (intAt xs (i * (3 : Nat) + (0 : Nat)) / (256 : Int) % (256 : Int)),
              Value.int IntKind.u8 (intAt xs (i * (3 : Nat) + (0 : Nat)) / (65536 : Int) % (256 : Int)),
              Value.int IntKind.u8 (intAt xs (i * (3 : Nat) + (0 : Nat)) / (16777216 : Int) % (256 : Int))]),
        ((0 : Nat), Rw.mk Kd.old xs)],
      (8 : Nat), [(5 : Nat), (3 : Nat), (1 : Nat)], []),
    [],
    [decide ((↑i : Int) < (↑n : Int)) = true, (0 : Int) ≤ (↑i : Int) ∧ (↑i : Int) < (↑n : Int),
      xs[i * (3 : Nat) + (0 : Nat)]? = some (Value.int IntKind.i64 (intAt xs (i * (3 : Nat) + (0 : Nat)))),
      (0 : Int) ≤ intAt xs (i * (3 : Nat) + (0 : Nat)) ∧ intAt xs (i * (3 : Nat) + (0 : Nat)) < (4294967296 : Int),
      capBig + (1 : Nat) = capBig + (1 : Nat), List.length ys = m,
      (m + (4 : Nat)) * (1 : Nat) ≤ (140737488355328 : Nat) ∧ m + (4 : Nat) ≤ (9223372036854775807 : Nat),
      (4 : Nat) ≤ (4 : Nat), true = true, (0 : Int) ≤ (↑i : Int) ∧ (↑i : Int) < (↑n : Int),
      xs[i * (3 : Nat) + (1 : Nat)]? = some (Value.int IntKind.i64 (intAt xs (i * (3 : Nat) + (1 : Nat)))),
      (0 : Int) ≤ intAt xs (i * (3 : Nat) + (1 : Nat)) ∧ intAt xs (i * (3 : Nat) + (1 : Nat)) < (4294967296 : Int),
      capBig + (3 : Nat) = capBig + (3 : Nat),
      List.length
          (ys ++
            [Value.int IntKind.u8 (intAt xs (i * (3 : Nat) + (0 : Nat)) % (256 : Int)),
              Value.int IntKind.u8 (intAt xs (i * (3 : Nat) + (0 : Nat)) / (256 : Int) % (256 : Int)),
              Value.int IntKind.u8 (intAt xs (i * (3 : Nat) + (0 : Nat)) / (65536 : Int) % (256 : Int)),
              Value.int IntKind.u8 (intAt xs (i * (3 : Nat) + (0 : Nat)) / (16777216 : Int) % (256 : Int))]) =
        m + (4 : Nat),
      (m + (4 : Nat) + (4 : Nat)) * (1 : Nat) ≤ (140737488355328 : Nat) ∧
        m + (4 : Nat) + (4 : Nat) ≤ (9223372036854775807 : Nat),
      (4 : Nat) ≤ (4 : Nat), true = true, (0 : Int) ≤ (↑i : Int) ∧ (↑i : Int) < (↑n : Int),
      xs[i * (3 : Nat) + (2 : Nat)]? = some (Value.int IntKind.i64 (intAt xs (i * (3 : Nat) + (2 : Nat)))),
      (0 : Int) ≤ intAt xs (i * (3 : Nat) + (2 : Nat)) ∧ intAt xs (i * (3 : Nat) + (2 : Nat)) < (4294967296 : Int),
      capBig + (5 : Nat) = capBig + (5 : Nat),
      List.length
          (ys ++
              [Value.int IntKind.u8 (intAt xs (i * (3 : Nat) + (0 : Nat)) % (256 : Int)),
                Value.int IntKind.u8 (intAt xs (i * (3 : Nat) + (0 : Nat)) / (256 : Int) % (256 : Int)),
                Value.int IntKind.u8 (intAt xs (i * (3 : Nat) + (0 : Nat)) / (65536 : Int) % (256 : Int)),
                Value.int IntKind.u8 (intAt xs (i * (3 : Nat) + (0 : Nat)) / (16777216 : Int) % (256 : Int))] ++
            [Value.int IntKind.u8 (intAt xs (i * (3 : Nat) + (1 : Nat)) % (256 : Int)),
              Value.int IntKind.u8 (intAt xs (i * (3 : Nat) + (1 : Nat)) / (256 : Int) % (256 : Int)),
              Value.int IntKind.u8 (intAt xs (i * (3 : Nat) + (1 : Nat)) / (65536 : Int) % (256 : Int)),
              Value.int IntKind.u8 (intAt xs (i * (3 : Nat) + (1 : Nat)) / (16777216 : Int) % (256 : Int))]) =
        m + (4 : Nat) + (4 : Nat),
      (m + (4 : Nat) + (4 : Nat) + (4 : Nat)) * (1 : Nat) ≤ (140737488355328 : Nat) ∧
        m + (4 : Nat) + (4 : Nat) + (4 : Nat) ≤ (9223372036854775807 : Nat),
      (4 : Nat) ≤ (4 : Nat), true = true, rg IntKind.i64 (↑(i + (1 : Nat)) : Int)]) := by kernel_rfl
theorem ro_done0 (inr : Bool) (xs : List Value) (n c i : Nat) : prjZ [4] (codeZ (ofV noL) Try.prog (runZ (ofV noL) Try.prog 5) 12 inr 100000 (roB Try.prog) (SL 40 (roS n c i (.slice none 0 0))) [(0, ⟨.old, xs⟩)] 1 [false]) =
Res.ok
  ((Xt.exit (0 : Nat), (40 : Nat), [((4 : Nat), Value.slice none (0 : Nat) (0 : Nat))], [((0 : Nat), Rw.mk Kd.old xs)],
      (1 : Nat), [], []),
    [], [decide ((↑i : Int) < (↑n : Int)) = false]) := by kernel_rfl
theorem ro_done1 (inr : Bool) (xs ys : List Value) (n c i m : Nat) : prjZ [4] (codeZ (ofV noL) Try.prog (runZ (ofV noL) Try.prog 5) 12 inr 100000 (roB Try.prog) (SL 40 (roS n c i (.slice (some ⟨1, 0, none⟩) m (capBig + 1)))) [(0, ⟨.old, xs⟩), (1, byRow ys)] 2 [false]) =
Res.ok
  ((Xt.exit (0 : Nat), (40 : Nat),
      [((4 : Nat), Value.slice (some (Addr.mk (1 : Nat) (0 : Nat) none)) m (capBig + (1 : Nat)))],
      [((0 : Nat), Rw.mk Kd.old xs), ((1 : Nat), Rw.mk (Kd.room (1 : Nat) [Value.int IntKind.u8 (0 : Int)]) ys)],
      (2 : Nat), [], []),
    [], [decide ((↑i : Int) < (↑n : Int)) = false]) := by kernel_rfl
def logB (xs : List Value) (n : Nat) : Bool := logL xs n 0 0 && decide (n ≤ 64)
def ofSpec (S : Nat → Nat → List (Nat × Value)) : LSpec := lspec (fun live h => match live, h with | [(_, .slice _ n c), _, _], [(_, r)] => some (n, c, r.cs) | [_, (_, .slice _ n c), _, _], [(_, r)] => some (n, c, r.cs) | _, _ => none) (fun a => (S a.1 a.2.1, [(0, ⟨.old, a.2.2⟩)], 1))
  (fun a tp => match tp with
    | true :: tp' => some ((.exit 0, [(4, .slice none 0 0)], [(0, ⟨.old, a.2.2⟩)], 9, []), tp', [a.1 = 0, Ints .i64 a.2.2, a.1 ≤ a.2.1 ∧ a.2.1 ≤ 9223372036854775807])
    | false :: tp' => some ((.exit 0, [(4, .slice (some ⟨1, 0, none⟩) (a.1 * 12) (capBig + 1))], [(0, ⟨.old, a.2.2⟩), (1, byRow (ofL a.2.2 0 a.1))], 9, []), tp', [decide (a.1 = 0) = false, Ints .i64 a.2.2, logB a.2.2 a.1 = true, a.2.2.length = a.1 * 3, a.1 ≤ a.2.1 ∧ a.2.1 ≤ 9223372036854775807])
    | [] => none)
def sOf : Spec1 := fun xs n tp => match tp with
  | true :: tp' => some (⟨fun _ => .tuple ⟨[.slice none 0 0, .int .i64 2]⟩, []⟩, tp', [Ints .i64 xs, logB xs n = false])
  | false :: true :: tp' => some (⟨fun _ => .tuple ⟨[.slice none 0 0, .int .i64 0]⟩, []⟩, tp', [Ints .i64 xs, n = 0])
  | false :: false :: tp' => some (⟨fun nx => .tuple ⟨[.slice (some ⟨nx, 0, none⟩) (n * 12) (capBig + nx), .int .i64 0]⟩, [byRow (ofL xs 0 n)]⟩, tp', [Ints .i64 xs, decide (n = 0) = false, logB xs n = true])
  | _ => none
def ofLw (P : Program) : LFun := orL (mkL 11 5 45 [4, 12, 13, 14] (ofB P) (ofSpec fun n c => ofS n c 0 (.slice none 0 0))) (mkL 12 5 40 [0, 4, 5] (roB P) (ofSpec fun n c => roS n c 0 (.slice none 0 0)))
theorem of_bad (xs : List Value) (n c : Nat) : runZ (ofV (ofLw Try.prog)) Try.prog 5 11 [.slice (some ⟨0, 0, none⟩) n c] [(0, ⟨.old, xs⟩)] 1 [true] =
Res.ok
  ((Value.tuple (Array.mk [Value.slice none (0 : Nat) (0 : Nat), Value.int IntKind.i64 (2 : Int)]),
      [((0 : Nat), Rw.mk Kd.old xs)], (1 : Nat), []),
    [],
    [n ≤ c ∧ c ≤ (9223372036854775807 : Nat), n * (3 : Nat) ≤ List.length xs, Fl (List.take (n * (3 : Nat)) xs),
      Ints IntKind.i64 (List.take (n * (3 : Nat)) xs),
      (!(logL (List.take (n * (3 : Nat)) xs) (avLen (Av.sl (List.take (n * (3 : Nat)) xs) n)) (0 : Nat) (0 : Int) &&
            decide (avLen (Av.sl (List.take (n * (3 : Nat)) xs) n) ≤ (64 : Nat)))) =
        true]) := by kernel_rfl
theorem of_nil (xs : List Value) (n c : Nat) : runZ (ofV (ofLw Try.prog)) Try.prog 5 11 [.slice (some ⟨0, 0, none⟩) n c] [(0, ⟨.old, xs⟩)] 1 [false, true] =
Res.ok
  ((Value.tuple (Array.mk [Value.slice none (0 : Nat) (0 : Nat), Value.int IntKind.i64 (0 : Int)]),
      [((0 : Nat), Rw.mk Kd.old xs)], (9 : Nat), []),
    [],
    [n ≤ c ∧ c ≤ (9223372036854775807 : Nat), n * (3 : Nat) ≤ List.length xs, Fl (List.take (n * (3 : Nat)) xs),
      Ints IntKind.i64 (List.take (n * (3 : Nat)) xs),
      (!(logL (List.take (n * (3 : Nat)) xs) (avLen (Av.sl (List.take (n * (3 : Nat)) xs) n)) (0 : Nat) (0 : Int) &&
            decide (avLen (Av.sl (List.take (n * (3 : Nat)) xs) n) ≤ (64 : Nat)))) =
        false,
      ofB Try.prog = ofB Try.prog,
      [((4 : Nat), Value.slice none (0 : Nat) (0 : Nat)),
          ((12 : Nat), Value.slice (some (Addr.mk (0 : Nat) (0 : Nat) none)) n c),
          ((13 : Nat), Value.int IntKind.i64 (↑n : Int)), ((14 : Nat), Value.int IntKind.i64 (0 : Int))] =
        ofS n c (0 : Nat) (Value.slice none (0 : Nat) (0 : Nat)),
      rowsN (1 : Nat) [] [((0 : Nat), Rw.mk Kd.old xs)] = [((0 : Nat), Rw.mk Kd.old xs)], (1 : Nat) = (1 : Nat),
      n = (0 : Nat), Ints IntKind.i64 xs, n ≤ c ∧ c ≤ (9223372036854775807 : Nat)]) := by kernel_rfl
theorem of_ok (xs : List Value) (n c : Nat) : runZ (ofV (ofLw Try.prog)) Try.prog 5 11 [.slice (some ⟨0, 0, none⟩) n c] [(0, ⟨.old, xs⟩)] 1 [false, false] =
Res.ok
  ((Value.tuple
        (Array.mk
          [Value.slice (some (Addr.mk (1 : Nat) (0 : Nat) none)) (n * (12 : Nat)) (capBig + (1 : Nat)),
            Value.int IntKind.i64 (0 : Int)]),
      [((0 : Nat), Rw.mk Kd.old xs),
        ((1 : Nat), Rw.mk (Kd.room (1 : Nat) [Value.int IntKind.u8 (0 : Int)]) (ofL xs (0 : Nat) n))],
      (9 : Nat), []),
    [],
    [n ≤ c ∧ c ≤ (9223372036854775807 : Nat), n * (3 : Nat) ≤ List.length xs, Fl (List.take (n * (3 : Nat)) xs),
      Ints IntKind.i64 (List.take (n * (3 : Nat)) xs),
      (!(logL (List.take (n * (3 : Nat)) xs) (avLen (Av.sl (List.take (n * (3 : Nat)) xs) n)) (0 : Nat) (0 : Int) &&
            decide (avLen (Av.sl (List.take (n * (3 : Nat)) xs) n) ≤ (64 : Nat)))) =
        false,
      ofB Try.prog = ofB Try.prog,
      [((4 : Nat), Value.slice none (0 : Nat) (0 : Nat)),
          ((12 : Nat), Value.slice (some (Addr.mk (0 : Nat) (0 : Nat) none)) n c),
          ((13 : Nat), Value.int IntKind.i64 (↑n : Int)), ((14 : Nat), Value.int IntKind.i64 (0 : Int))] =
        ofS n c (0 : Nat) (Value.slice none (0 : Nat) (0 : Nat)),
      rowsN (1 : Nat) [] [((0 : Nat), Rw.mk Kd.old xs)] = [((0 : Nat), Rw.mk Kd.old xs)], (1 : Nat) = (1 : Nat),
      decide (n = (0 : Nat)) = false, Ints IntKind.i64 xs, logB xs n = true, List.length xs = n * (3 : Nat),
      n ≤ c ∧ c ≤ (9223372036854775807 : Nat)]) := by kernel_rfl
theorem of_n  : runZ (ofV noL) Try.prog 5 11 [.slice none 0 0] [] 1 [false, false] =
Res.ok
  ((Value.tuple (Array.mk [Value.slice none (0 : Nat) (0 : Nat), Value.int IntKind.i64 (0 : Int)]), [], (1 : Nat), []),
    [], [Ints IntKind.i64 [], false = false, false = false]) := by kernel_rfl
theorem ro_bad (xs : List Value) (n c : Nat) : runZ (ofV (ofLw Try.prog)) Try.prog 5 12 [.slice (some ⟨0, 0, none⟩) n c] [(0, ⟨.old, xs⟩)] 1 [true] =
Res.ok
  ((Value.tuple (Array.mk [Value.slice none (0 : Nat) (0 : Nat), Value.int IntKind.i64 (2 : Int)]),
      [((0 : Nat), Rw.mk Kd.old xs)], (1 : Nat), []),
    [],
    [n ≤ c ∧ c ≤ (9223372036854775807 : Nat), n * (3 : Nat) ≤ List.length xs, Fl (List.take (n * (3 : Nat)) xs),
      Ints IntKind.i64 (List.take (n * (3 : Nat)) xs),
      (!(logL (List.take (n * (3 : Nat)) xs) (avLen (Av.sl (List.take (n * (3 : Nat)) xs) n)) (0 : Nat) (0 : Int) &&
            decide (avLen (Av.sl (List.take (n * (3 : Nat)) xs) n) ≤ (64 : Nat)))) =
        true]) := by kernel_rfl
theorem ro_nil (xs : List Value) (n c : Nat) : runZ (ofV (ofLw Try.prog)) Try.prog 5 12 [.slice (some ⟨0, 0, none⟩) n c] [(0, ⟨.old, xs⟩)] 1 [false, true] =
Res.ok
  ((Value.tuple (Array.mk [Value.slice none (0 : Nat) (0 : Nat), Value.int IntKind.i64 (0 : Int)]),
      [((0 : Nat), Rw.mk Kd.old xs)], (9 : Nat), []),
    [],
    [n ≤ c ∧ c ≤ (9223372036854775807 : Nat), n * (3 : Nat) ≤ List.length xs, Fl (List.take (n * (3 : Nat)) xs),
      Ints IntKind.i64 (List.take (n * (3 : Nat)) xs),
      (!(logL (List.take (n * (3 : Nat)) xs) (avLen (Av.sl (List.take (n * (3 : Nat)) xs) n)) (0 : Nat) (0 : Int) &&
            decide (avLen (Av.sl (List.take (n * (3 : Nat)) xs) n) ≤ (64 : Nat)))) =
        false,
      roB Try.prog = roB Try.prog,
      [((0 : Nat), Value.slice (some (Addr.mk (0 : Nat) (0 : Nat) none)) n c),
          ((4 : Nat), Value.slice none (0 : Nat) (0 : Nat)), ((5 : Nat), Value.int IntKind.i64 (0 : Int))] =
        roS n c (0 : Nat) (Value.slice none (0 : Nat) (0 : Nat)),
      rowsN (1 : Nat) [] [((0 : Nat), Rw.mk Kd.old xs)] = [((0 : Nat), Rw.mk Kd.old xs)], (1 : Nat) = (1 : Nat),
      n = (0 : Nat), Ints IntKind.i64 xs, n ≤ c ∧ c ≤ (9223372036854775807 : Nat)]) := by kernel_rfl
theorem ro_ok (xs : List Value) (n c : Nat) : runZ (ofV (ofLw Try.prog)) Try.prog 5 12 [.slice (some ⟨0, 0, none⟩) n c] [(0, ⟨.old, xs⟩)] 1 [false, false] =
Res.ok
  ((Value.tuple
        (Array.mk
          [Value.slice (some (Addr.mk (1 : Nat) (0 : Nat) none)) (n * (12 : Nat)) (capBig + (1 : Nat)),
            Value.int IntKind.i64 (0 : Int)]),
      [((0 : Nat), Rw.mk Kd.old xs),
        ((1 : Nat), Rw.mk (Kd.room (1 : Nat) [Value.int IntKind.u8 (0 : Int)]) (ofL xs (0 : Nat) n))],
      (9 : Nat), []),
    [],
    [n ≤ c ∧ c ≤ (9223372036854775807 : Nat), n * (3 : Nat) ≤ List.length xs, Fl (List.take (n * (3 : Nat)) xs),
      Ints IntKind.i64 (List.take (n * (3 : Nat)) xs),
      (!(logL (List.take (n * (3 : Nat)) xs) (avLen (Av.sl (List.take (n * (3 : Nat)) xs) n)) (0 : Nat) (0 : Int) &&
            decide (avLen (Av.sl (List.take (n * (3 : Nat)) xs) n) ≤ (64 : Nat)))) =
        false,
      roB Try.prog = roB Try.prog,
      [((0 : Nat), Value.slice (some (Addr.mk (0 : Nat) (0 : Nat) none)) n c),
          ((4 : Nat), Value.slice none (0 : Nat) (0 : Nat)), ((5 : Nat), Value.int IntKind.i64 (0 : Int))] =
        roS n c (0 : Nat) (Value.slice none (0 : Nat) (0 : Nat)),
      rowsN (1 : Nat) [] [((0 : Nat), Rw.mk Kd.old xs)] = [((0 : Nat), Rw.mk Kd.old xs)], (1 : Nat) = (1 : Nat),
      decide (n = (0 : Nat)) = false, Ints IntKind.i64 xs, logB xs n = true, List.length xs = n * (3 : Nat),
      n ≤ c ∧ c ≤ (9223372036854775807 : Nat)]) := by kernel_rfl
theorem ro_n  : runZ (ofV noL) Try.prog 5 12 [.slice none 0 0] [] 1 [false, false] =
Res.ok
  ((Value.tuple (Array.mk [Value.slice none (0 : Nat) (0 : Nat), Value.int IntKind.i64 (0 : Int)]), [], (1 : Nat), []),
    [], [Ints IntKind.i64 [], false = false, false = false]) := by kernel_rfl
/-! ### lists of entries that are the same -/
def sEq : Spec2 := fun xs n ys m tp => some (⟨fun _ => .bool true, []⟩, tp, [Ints .i64 xs, ys = xs, m = n])
def eeB (P : Program) : Code := bodyIn P 13 4
def eeS (n c d i : Nat) : List (Nat × Value) := [(0, .slice (some ⟨0, 0, none⟩) n c), (1, .slice (some ⟨1, 0, none⟩) n d), (5, .int .i64 (i : Int))]
theorem ee_more (inr : Bool) (xs : List Value) (n c d i : Nat) : prjZ [0, 1, 5] (codeZ (enV noL) Try.prog (runZ (enV noL) Try.prog 5) 13 inr 100000 (eeB Try.prog) (SL 26 (eeS n c d i)) [(0, ⟨.old, xs⟩), (1, ⟨.old, xs⟩)] 2 [true, false]) =
Res.ok
  ((Xt.normal, (26 : Nat),
      [((0 : Nat), Value.slice (some (Addr.mk (0 : Nat) (0 : Nat) none)) n c),
        ((1 : Nat), Value.slice (some (Addr.mk (1 : Nat) (0 : Nat) none)) n d),
        ((5 : Nat), Value.int IntKind.i64 (↑(i + (1 : Nat)) : Int))],
      [((0 : Nat), Rw.mk Kd.old xs), ((1 : Nat), Rw.mk Kd.old xs)], (2 : Nat), [], []),
    [],
    [decide ((↑i : Int) < (↑n : Int)) = true, (0 : Int) ≤ (↑i : Int) ∧ (↑i : Int) < (↑n : Int),
      List.take (3 : Nat) (List.drop (i * (3 : Nat)) xs) =
        [Value.int IntKind.i64 (intAt xs (i * (3 : Nat))), Value.int IntKind.i64 (intAt xs (i * (3 : Nat) + (1 : Nat))),
          Value.int IntKind.i64 (intAt xs (i * (3 : Nat) + (1 : Nat) + (1 : Nat)))],
      (0 : Int) ≤ (↑i : Int) ∧ (↑i : Int) < (↑n : Int),
      List.take (3 : Nat) (List.drop (i * (3 : Nat)) xs) =
        [Value.int IntKind.i64 (intAt xs (i * (3 : Nat))), Value.int IntKind.i64 (intAt xs (i * (3 : Nat) + (1 : Nat))),
          Value.int IntKind.i64 (intAt xs (i * (3 : Nat) + (1 : Nat) + (1 : Nat)))],
      (!(intAt xs (i * (3 : Nat)) == intAt xs (i * (3 : Nat)) &&
            (intAt xs (i * (3 : Nat) + (1 : Nat)) == intAt xs (i * (3 : Nat) + (1 : Nat)) &&
              (intAt xs (i * (3 : Nat) + (1 : Nat) + (1 : Nat)) == intAt xs (i * (3 : Nat) + (1 : Nat) + (1 : Nat)) &&
                true)))) =
        false,
      rg IntKind.i64 (↑(i + (1 : Nat)) : Int)]) := by kernel_rfl
theorem ee_done (inr : Bool) (xs : List Value) (n c d i : Nat) : prjZ [0] (codeZ (enV noL) Try.prog (runZ (enV noL) Try.prog 5) 13 inr 100000 (eeB Try.prog) (SL 26 (eeS n c d i)) [(0, ⟨.old, xs⟩), (1, ⟨.old, xs⟩)] 2 [false]) =
Res.ok
  ((Xt.exit (0 : Nat), (26 : Nat), [((0 : Nat), Value.slice (some (Addr.mk (0 : Nat) (0 : Nat) none)) n c)],
      [((0 : Nat), Rw.mk Kd.old xs), ((1 : Nat), Rw.mk Kd.old xs)], (2 : Nat), [], []),
    [], [decide ((↑i : Int) < (↑n : Int)) = false]) := by kernel_rfl
def eeSpec : LSpec := lspec (fun live h => match live, h with | [(_, .slice _ n c), (_, .slice _ _ d), _], [(_, r), _] => some (n, c, d, r.cs) | _, _ => none) (fun a => (eeS a.1 a.2.1 a.2.2.1 0, [(0, ⟨.old, a.2.2.2⟩), (1, ⟨.old, a.2.2.2⟩)], 2))
  (fun a tp => some ((.exit 0, [], [(0, ⟨.old, a.2.2.2⟩), (1, ⟨.old, a.2.2.2⟩)], 2, []), tp, [Ints .i64 a.2.2.2, a.2.2.2.length = a.1 * 3, a.1 ≤ a.2.1 ∧ a.2.1 ≤ 9223372036854775807, a.1 ≤ a.2.2.1 ∧ a.2.2.1 ≤ 9223372036854775807]))
def eeL (P : Program) : LFun := mkL 13 4 26 [0, 1, 5] (eeB P) eeSpec
theorem ee_ss (xs : List Value) (n c d : Nat) : runZ (enV (eeL Try.prog)) Try.prog 5 13 [.slice (some ⟨0, 0, none⟩) n c, .slice (some ⟨1, 0, none⟩) n d] [(0, ⟨.old, xs⟩), (1, ⟨.old, xs⟩)] 2 [false] =
Res.ok
  ((Value.bool true, [((0 : Nat), Rw.mk Kd.old xs), ((1 : Nat), Rw.mk Kd.old xs)], (2 : Nat), []), [],
    [((↑n : Int) != (↑n : Int)) = false, eeB Try.prog = eeB Try.prog,
      [((0 : Nat), Value.slice (some (Addr.mk (0 : Nat) (0 : Nat) none)) n c),
          ((1 : Nat), Value.slice (some (Addr.mk (1 : Nat) (0 : Nat) none)) n d),
          ((5 : Nat), Value.int IntKind.i64 (0 : Int))] =
        eeS n c d (0 : Nat),
      [((0 : Nat), Rw.mk Kd.old xs), ((1 : Nat), Rw.mk Kd.old xs)] =
        [((0 : Nat), Rw.mk Kd.old xs), ((1 : Nat), Rw.mk Kd.old xs)],
      (2 : Nat) = (2 : Nat), Ints IntKind.i64 xs, List.length xs = n * (3 : Nat),
      n ≤ c ∧ c ≤ (9223372036854775807 : Nat), n ≤ d ∧ d ≤ (9223372036854775807 : Nat)]) := by kernel_rfl
theorem ee_nn  : runZ (enV noL) Try.prog 5 13 [.slice none 0 0, .slice none 0 0] [] 2 [false, false] =
Res.ok ((Value.bool true, [], (2 : Nat), []), [], [false = false, false = false]) := by kernel_rfl
theorem ee_sn (xs : List Value) (c : Nat) : runZ (enV noL) Try.prog 5 13 [.slice (some ⟨0, 0, none⟩) 0 c, .slice none 0 0] [(0, ⟨.old, xs⟩)] 2 [false, false] =
Res.ok ((Value.bool true, [((0 : Nat), Rw.mk Kd.old xs)], (2 : Nat), []), [], [false = false, false = false]) := by kernel_rfl
theorem ee_ns (ys : List Value) (d : Nat) : runZ (enV noL) Try.prog 5 13 [.slice none 0 0, .slice (some ⟨1, 0, none⟩) 0 d] [(1, ⟨.old, ys⟩)] 2 [false, false] =
Res.ok ((Value.bool true, [((1 : Nat), Rw.mk Kd.old ys)], (2 : Nat), []), [], [false = false, false = false]) := by kernel_rfl
theorem aw_r  : runZ noTv Try.prog 9 17 [] [] 0 [] =
Res.ok ((Value.bool true, [], (24 : Nat), []), [], []) := by kernel_rfl
/-! ### bytes of entries -/
theorem low8 (x : Int) : lowI .u8 x = x % 256 := by unfold lowI; rw [mdI_eq]; rfl
theorem sr8 (x : Int) : srI x 8 = x / 256 := by rw [srI_eq]; rfl
theorem sr16 (x : Int) : srI x 16 = x / 65536 := by rw [srI_eq]; rfl
theorem sr24 (x : Int) : srI x 24 = x / 16777216 := by rw [srI_eq]; rfl
/-- Four bytes, as they are written. -/
def b4s (x : Int) : List Value := [.int .u8 (lowI .u8 x), .int .u8 (lowI .u8 (srI x 8)), .int .u8 (lowI .u8 (srI x 16)), .int .u8 (lowI .u8 (srI x 24))]
theorem b4s_eq (x : Int) : b4s x = b4 x := by unfold b4s b4; simp only [low8, sr8, sr16, sr24]
theorem b4_Byts (x : Int) : Byts (b4 x) := by
  have : b4 x = [x % 256, x / 256 % 256, x / 65536 % 256, x / 16777216 % 256].map (Value.int .u8) := rfl
  rw [this]
  refine Byts.of fun n hn => ?_
  simp only [List.mem_cons, List.not_mem_nil, or_false] at hn
  rcases hn with rfl | rfl | rfl | rfl <;> omega
theorem o3_Byts (xs : List Value) (i : Nat) : Byts (o3 xs i) := ((b4_Byts _).app (b4_Byts _)).app (b4_Byts _)
theorem ofL_Byts (xs : List Value) : ∀ k i, Byts (ofL xs i k)
  | 0, i => Byts.nil
  | k + 1, i => (o3_Byts xs i).app (ofL_Byts xs k (i + 1))
theorem ofL_len (xs : List Value) : ∀ k i, (ofL xs i k).length = k * 12
  | 0, i => rfl
  | k + 1, i => by simp only [ofL, List.length_append, ofL_len xs k]; show 12 + k * 12 = (k + 1) * 12; omega
theorem four_ok : GOk Try.prog 30 [.f] gFour := by
  have hX : XOkZ foV Try.prog := noXz_ok rfl
  have hT : TOkZ foV Try.prog := noTz_okV rfl
  have hL : LOkZ foV Try.prog := noL_okV rfl
  intro av tp gr tp' ob hG ho hP caps hcap
  obtain ⟨a, rfl, pa⟩ := avps1 hP
  obtain ⟨c, rfl⟩ := caps1 hcap
  unfold gFour at hG
  split at hG
  case h_2 => cases hG
  rename_i n e
  simp only [List.cons.injEq, and_true] at e
  subst e
  simp only [Option.some.injEq, Prod.mk.injEq] at hG
  obtain ⟨rfl, rfl, rfl⟩ := hG
  obtain ⟨⟨h1, h2⟩, _⟩ := ho
  refine ⟨_, _, _, _, fun _ => 1, run_tri hX hT hL (fo_r n) ?_ rfl, ?_⟩
  · simp only [Alls, rg, dvI_eq]
    repeat' (first | with_reducible exact trivial | with_reducible apply And.intro)
    all_goals first | with_reducible assumption | omega | with_reducible rfl | (skip)
  · refine ⟨fun nx => ?_, fun j r h => ?_, fun i j hi hj _ => ?_⟩
    · exact renV_slice_mk (σ := f2s nx 1 fun _ => 1) (n := nx) (o := 0) (p := (1, 0)) (by simp [f2s]) (by unfold cpR; rw [if_pos (by unfold capBig; omega)])
    · match j, h with
      | 0, h =>
        cases h
        refine ⟨fl_byts (b4_Byts _), rfl, (fun e => by cases e), ?_⟩
        have e : b4 n = [.int .u8 (lowI .u8 (mdI n 256)), .int .u8 (lowI .u8 (mdI (dvI n 256) 256)), .int .u8 (lowI .u8 (mdI (dvI n 65536) 256)), .int .u8 (lowI .u8 (dvI n 16777216))] := by
          unfold b4; simp only [low8, mdI_eq, dvI_eq]
          rw [Int.emod_emod_of_dvd _ (by decide), Int.emod_emod_of_dvd _ (by decide), Int.emod_emod_of_dvd _ (by decide)]
        rw [e]; rfl
      | j + 1, h => simp at h
    · simp only [List.length_cons, List.length_nil] at hi hj; omega
theorem ofT_one : TOneZ Try.prog ofT := orTz_ok (mkT_one four_ok) logT_one
theorem log_bounds {xs : List Value} : ∀ (k i : Nat) (last : Int), logL xs k i last = true → 0 ≤ last → ∀ j, i ≤ j → j < i + k →
    (0 ≤ intAt xs (j * 3) ∧ intAt xs (j * 3) ≤ 1073741824) ∧ (0 ≤ intAt xs (j * 3 + 1) ∧ intAt xs (j * 3 + 1) ≤ 1073741824) ∧ (0 ≤ intAt xs (j * 3 + 2) ∧ intAt xs (j * 3 + 2) ≤ 4)
  | 0, i, last, h, hl, j, h1, h2 => by omega
  | k + 1, i, last, h, hl, j, h1, h2 => by
      simp only [logL] at h
      rcases bif_or h with ⟨hc, h⟩ | ⟨_, h⟩
      case inr => cases h
      simp only [Bool.and_eq_true, decide_eq_true_eq] at hc
      obtain ⟨⟨⟨⟨a1, a2⟩, a3, a4⟩, a5, a6⟩, _⟩ := hc
      rcases Nat.eq_or_lt_of_le h1 with rfl | h3
      · exact ⟨⟨by omega, a2⟩, ⟨a3, a4⟩, by omega, a6⟩
      · exact log_bounds k (i + 1) _ h (by omega) j h3 (by omega)
theorem of_loop1 {inr : Bool} {h0 : Hp} {xs : List Value} (hx : Ints .i64 xs) {n c : Nat} (hn : xs.length = n * 3) (hn64 : n ≤ 64) (hc : n ≤ c ∧ c ≤ 9223372036854775807) (hlog : logL xs n 0 0 = true) : ∀ (k i m : Nat) (ys : List Value), i + k = n → ys.length = m → m ≤ i * 12 → Fl ys →
    LRuns inr Try.prog (ofB Try.prog) 1 9 h0 45 (ofS n c i (.slice (some ⟨1, 0, none⟩) m (capBig + 1))) [(0, ⟨.old, xs⟩), (1, byRow ys)] 2
      (.exit 0, [(4, .slice (some ⟨1, 0, none⟩) (m + k * 12) (capBig + 1))], [(0, ⟨.old, xs⟩), (1, byRow (ys ++ ofL xs i k))])
  | 0, i, m, ys, hk, hl, hm, hf => by
      have hX : XOkZ (ofV noL) Try.prog := noXz_ok rfl
      have hT : TOkZ (ofV noL) Try.prog := T_okV rfl ofT_one
      have hL : LOkZ (ofV noL) Try.prog := noL_okV rfl
      refine LRuns.exit (code_runs hX hL (runZ_ok hX hT hL mixed 5) mixed (of_done1 inr xs ys n c i m) ?_) (by intro e; cases e) rfl (by omega) (by omega) (fun n => n) ?_ ?_ rfl
      · simp only [Alls, decide_eq_false_iff_not]
        repeat' (first | with_reducible exact trivial | with_reducible apply And.intro)
        all_goals first | with_reducible assumption | omega | with_reducible rfl | (skip)
      · exact ⟨rfl, rb_slg rfl rfl, trivial⟩
      · exact ⟨rb_old (by omega) rfl hx.fl, rb_row (m := 1) rfl rfl rfl (by simp [ofL]) (hf.app (Fl.of rfl)), trivial⟩
  | k + 1, i, m, ys, hk, hl, hm, hf => by
      have hX : XOkZ (ofV noL) Try.prog := noXz_ok rfl
      have hT : TOkZ (ofV noL) Try.prog := T_okV rfl ofT_one
      have hL : LOkZ (ofV noL) Try.prog := noL_okV rfl
      have ho3 := fl_byts (o3_Byts xs i)
      have hex : Fl (ys ++ o3 xs i) := hf.app ho3
      have g3 := hx.take3 (o := i * 3) (by omega)
      have g0 := hx.get (i := i * 3) (by omega)
      have g1 := hx.get (i := i * 3 + 1) (by omega)
      have g2 := hx.get (i := i * 3 + 2) (by omega)
      obtain ⟨⟨c0, d0⟩, ⟨c1, d1⟩, c2, d2⟩ := log_bounds n 0 0 hlog (by omega) i (by omega) (by omega)
      have nx := of_loop1 (inr := inr) (h0 := h0) hx hn hn64 hc hlog k (i + 1) (m + 4 + 4 + 4) (ys ++ o3 xs i) (by omega) (by rw [List.length_append, hl]; rfl) (by omega) hex
      rw [show ys ++ o3 xs i ++ ofL xs (i + 1) k = ys ++ ofL xs i (k + 1) by simp only [ofL, List.append_assoc], show m + 4 + 4 + 4 + k * 12 = m + (k + 1) * 12 by omega] at nx
      refine LRuns.step (code_runs hX hL (runZ_ok hX hT hL mixed 5) mixed (of_more1 inr xs ys n c i m) ?_) rfl (by omega) (by omega) (fun _ => 8) ?_ ?_ rfl nx
      · simp only [Alls, decide_eq_true_eq, rg, Nat.add_zero]
        repeat' (first | with_reducible exact trivial | with_reducible apply And.intro)
        all_goals first | with_reducible assumption | omega | with_reducible rfl | (first | exact g3 | exact g0 | (rw [List.length_append, hl]; rfl) | (rw [List.length_append, List.length_append, hl]; rfl))
      · exact ⟨rfl, rb_slg rfl rfl, rfl, rb_slc rfl (by unfold capBig; omega), rfl, rfl, rfl, rfl, trivial⟩
      · refine ⟨rb_old (by omega) rfl hx.fl, rb_row (m := 8) (ds := ys ++ b4s (intAt xs (i * 3)) ++ b4s (intAt xs (i * 3 + 1)) ++ b4s (intAt xs (i * 3 + 1 + 1))) rfl rfl rfl ?_ hex, trivial⟩
        rw [b4s_eq, b4s_eq, b4s_eq, List.append_assoc, List.append_assoc]; unfold o3; rw [List.append_assoc]
theorem ro_loop1 {inr : Bool} {h0 : Hp} {xs : List Value} (hx : Ints .i64 xs) {n c : Nat} (hn : xs.length = n * 3) (hn64 : n ≤ 64) (hc : n ≤ c ∧ c ≤ 9223372036854775807) (hlog : logL xs n 0 0 = true) : ∀ (k i m : Nat) (ys : List Value), i + k = n → ys.length = m → m ≤ i * 12 → Fl ys →
    LRuns inr Try.prog (roB Try.prog) 1 9 h0 40 (roS n c i (.slice (some ⟨1, 0, none⟩) m (capBig + 1))) [(0, ⟨.old, xs⟩), (1, byRow ys)] 2
      (.exit 0, [(4, .slice (some ⟨1, 0, none⟩) (m + k * 12) (capBig + 1))], [(0, ⟨.old, xs⟩), (1, byRow (ys ++ ofL xs i k))])
  | 0, i, m, ys, hk, hl, hm, hf => by
      have hX : XOkZ (ofV noL) Try.prog := noXz_ok rfl
      have hT : TOkZ (ofV noL) Try.prog := T_okV rfl ofT_one
      have hL : LOkZ (ofV noL) Try.prog := noL_okV rfl
      refine LRuns.exit (code_runs hX hL (runZ_ok hX hT hL mixed 5) mixed (ro_done1 inr xs ys n c i m) ?_) (by intro e; cases e) rfl (by omega) (by omega) (fun n => n) ?_ ?_ rfl
      · simp only [Alls, decide_eq_false_iff_not]
        repeat' (first | with_reducible exact trivial | with_reducible apply And.intro)
        all_goals first | with_reducible assumption | omega | with_reducible rfl | (skip)
      · exact ⟨rfl, rb_slg rfl rfl, trivial⟩
      · exact ⟨rb_old (by omega) rfl hx.fl, rb_row (m := 1) rfl rfl rfl (by simp [ofL]) (hf.app (Fl.of rfl)), trivial⟩
  | k + 1, i, m, ys, hk, hl, hm, hf => by
      have hX : XOkZ (ofV noL) Try.prog := noXz_ok rfl
      have hT : TOkZ (ofV noL) Try.prog := T_okV rfl ofT_one
      have hL : LOkZ (ofV noL) Try.prog := noL_okV rfl
      have ho3 := fl_byts (o3_Byts xs i)
      have hex : Fl (ys ++ o3 xs i) := hf.app ho3
      have g3 := hx.take3 (o := i * 3) (by omega)
      have g0 := hx.get (i := i * 3) (by omega)
      have g1 := hx.get (i := i * 3 + 1) (by omega)
      have g2 := hx.get (i := i * 3 + 2) (by omega)
      obtain ⟨⟨c0, d0⟩, ⟨c1, d1⟩, c2, d2⟩ := log_bounds n 0 0 hlog (by omega) i (by omega) (by omega)
      have nx := ro_loop1 (inr := inr) (h0 := h0) hx hn hn64 hc hlog k (i + 1) (m + 4 + 4 + 4) (ys ++ o3 xs i) (by omega) (by rw [List.length_append, hl]; rfl) (by omega) hex
      rw [show ys ++ o3 xs i ++ ofL xs (i + 1) k = ys ++ ofL xs i (k + 1) by simp only [ofL, List.append_assoc], show m + 4 + 4 + 4 + k * 12 = m + (k + 1) * 12 by omega] at nx
      refine LRuns.step (code_runs hX hL (runZ_ok hX hT hL mixed 5) mixed (ro_more1 inr xs ys n c i m) ?_) rfl (by omega) (by omega) (fun _ => 7) ?_ ?_ rfl nx
      · simp only [Alls, decide_eq_true_eq, rg, Nat.add_zero]
        repeat' (first | with_reducible exact trivial | with_reducible apply And.intro)
        all_goals first | with_reducible assumption | omega | with_reducible rfl | (first | exact g3 | exact g0 | (rw [List.length_append, hl]; rfl) | (rw [List.length_append, List.length_append, hl]; rfl))
      · exact ⟨rfl, rb_slc rfl (by unfold capBig; omega), rfl, rb_slg rfl rfl, rfl, rfl, trivial⟩
      · refine ⟨rb_old (by omega) rfl hx.fl, rb_row (m := 7) (ds := ys ++ b4 (intAt xs (i * 3 + 0)) ++ b4 (intAt xs (i * 3 + 1)) ++ b4 (intAt xs (i * 3 + 2))) rfl rfl rfl ?_ hex, trivial⟩
        rw [List.append_assoc, List.append_assoc]; unfold o3; rw [List.append_assoc]; rfl
theorem logB_true {xs : List Value} {n : Nat} (h : logB xs n = true) : logL xs n 0 0 = true ∧ n ≤ 64 := by
  unfold logB at h
  simp only [Bool.and_eq_true, decide_eq_true_eq] at h
  exact h
theorem of_loop {inr : Bool} {h0 : Hp} {xs : List Value} (hx : Ints .i64 xs) {n c : Nat} (hn : xs.length = n * 3) (hc : n ≤ c ∧ c ≤ 9223372036854775807) (hlog : logB xs n = true) (hz : n ≠ 0) :
    LRuns inr Try.prog (ofB Try.prog) 1 9 h0 45 (ofS n c 0 (.slice none 0 0)) [(0, ⟨.old, xs⟩)] 1
      (.exit 0, [(4, .slice (some ⟨1, 0, none⟩) (n * 12) (capBig + 1))], [(0, ⟨.old, xs⟩), (1, byRow (ofL xs 0 n))]) := by
  have hX : XOkZ (ofV noL) Try.prog := noXz_ok rfl
  have hT : TOkZ (ofV noL) Try.prog := T_okV rfl ofT_one
  have hL : LOkZ (ofV noL) Try.prog := noL_okV rfl
  obtain ⟨hl2, hn64⟩ := logB_true hlog
  obtain ⟨k, hk⟩ : ∃ k, n = k + 1 := ⟨n - 1, by omega⟩
  have ho3 := fl_byts (o3_Byts xs 0)
  have g3 := hx.take3 (o := 0 * 3) (by omega)
  have g0 := hx.get (i := 0 * 3) (by omega)
  have g1 := hx.get (i := 0 * 3 + 1) (by omega)
  have g2 := hx.get (i := 0 * 3 + 2) (by omega)
  obtain ⟨⟨c0, d0⟩, ⟨c1, d1⟩, c2, d2⟩ := log_bounds n 0 0 hl2 (by omega) 0 (by omega) (by omega)
  have nx := of_loop1 (inr := inr) (h0 := h0) hx hn hn64 hc hl2 k (0 + 1) 12 (o3 xs 0) (by omega) rfl (by omega) ho3
  rw [show o3 xs 0 ++ ofL xs (0 + 1) k = ofL xs 0 n by rw [hk]; rfl, show 12 + k * 12 = n * 12 by omega] at nx
  refine LRuns.stepTo (N' := 2) (code_runs hX hL (runZ_ok hX hT hL mixed 5) mixed (of_more0 inr xs n c 0) ?_) rfl (by omega) (by omega) (by omega) (by omega) (fun _ => 7) ?_ ?_ rfl nx
  · simp only [Alls, decide_eq_true_eq, rg, Nat.add_zero]
    repeat' (first | with_reducible exact trivial | with_reducible apply And.intro)
    all_goals first | with_reducible assumption | omega | with_reducible rfl | (first | exact g3 | exact g0 | exact g1 | exact g2)
  · exact ⟨rfl, rb_slg rfl rfl, rfl, rb_slc rfl (by unfold capBig; omega), rfl, rfl, rfl, rfl, trivial⟩
  · refine ⟨rb_old (by omega) rfl hx.fl, rb_row (m := 7) (ds := b4s (intAt xs (0 * 3)) ++ b4s (intAt xs (0 * 3 + 1)) ++ b4s (intAt xs (0 * 3 + 1 + 1))) rfl rfl rfl ?_ ho3, trivial⟩
    rw [b4s_eq, b4s_eq, b4s_eq]; rfl
theorem of_spec_ok : LSOk Try.prog 45 [4, 12, 13, 14] (ofB Try.prog) (ofSpec fun n c => ofS n c 0 (.slice none 0 0)) := by
  refine lspec_ok fun a tp xt l2 h2 nx2 d tp' ob hs ho inr ts hn hg => ?_
  have hX : XOkZ (ofV noL) Try.prog := noXz_ok rfl
  have hT : TOkZ (ofV noL) Try.prog := T_okV rfl ofT_one
  have hL : LOkZ (ofV noL) Try.prog := noL_okV rfl
  obtain ⟨n, c, xs⟩ := a
  simp only at hs hg
  have hrow : ∀ {xs : List Value} {N : Nat}, Fl xs → RbL 1 N (fun n => n) [(0, ⟨.old, xs⟩)] [(0, ⟨.old, xs⟩)] [(0, ⟨.old, xs⟩)] := fun hb => ⟨rb_old (by omega) rfl hb, trivial⟩
  split at hs
  · simp only [Option.some.injEq, Prod.mk.injEq] at hs
    obtain ⟨⟨rfl, rfl, rfl, rfl, rfl⟩, rfl, rfl⟩ := hs
    obtain ⟨h0, hb, hc, _⟩ := ho
    subst h0
    have key : LRuns inr Try.prog (ofB Try.prog) 1 9 [(0, ⟨.old, xs⟩)] 45 (ofS 0 c 0 (.slice none 0 0)) [(0, ⟨.old, xs⟩)] 1 (.exit 0, [(4, .slice none 0 0)], [(0, ⟨.old, xs⟩)]) := by
      refine LRuns.exit (code_runs hX hL (runZ_ok hX hT hL mixed 5) mixed (of_done0 inr xs 0 c 0) ?_) (by intro e; cases e) rfl (by omega) (by omega) (fun n => n) ?_ (hrow hb.fl) rfl
      · simp [Alls]
      · exact ⟨rfl, rfl, trivial⟩
    refine LRuns.enter (l2 := ofS 0 c 0 (.slice none 0 0)) hn hg (Nat.le_refl 1) (by omega) (fun n => n) ?_ (hrow hb.fl) rfl key ?_
    · exact ⟨rfl, rfl, rfl, rb_slc rfl (by unfold capBig; omega), rfl, rfl, rfl, rfl, trivial⟩
    · exact tidy_of (by omega) (fun n hn hd => rfl) rfl
  · simp only [Option.some.injEq, Prod.mk.injEq] at hs
    obtain ⟨⟨rfl, rfl, rfl, rfl, rfl⟩, rfl, rfl⟩ := hs
    obtain ⟨h0, hb, hlog, hl, hc, _⟩ := ho
    have key := of_loop (inr := inr) (h0 := [(0, ⟨.old, xs⟩)]) hb hl hc hlog (by simpa using h0)
    refine LRuns.enter (l2 := ofS n c 0 (.slice none 0 0)) hn hg (Nat.le_refl 1) (by omega) (fun n => n) ?_ (hrow hb.fl) rfl key ?_
    · exact ⟨rfl, rfl, rfl, rb_slc rfl (by unfold capBig; omega), rfl, rfl, rfl, rfl, trivial⟩
    · refine tidy_of (by omega) (fun n hn hd => ?_) rfl
      obtain rfl : n = 0 := by omega
      rfl
  · cases hs
theorem ro_loop {inr : Bool} {h0 : Hp} {xs : List Value} (hx : Ints .i64 xs) {n c : Nat} (hn : xs.length = n * 3) (hc : n ≤ c ∧ c ≤ 9223372036854775807) (hlog : logB xs n = true) (hz : n ≠ 0) :
    LRuns inr Try.prog (roB Try.prog) 1 9 h0 40 (roS n c 0 (.slice none 0 0)) [(0, ⟨.old, xs⟩)] 1
      (.exit 0, [(4, .slice (some ⟨1, 0, none⟩) (n * 12) (capBig + 1))], [(0, ⟨.old, xs⟩), (1, byRow (ofL xs 0 n))]) := by
  have hX : XOkZ (ofV noL) Try.prog := noXz_ok rfl
  have hT : TOkZ (ofV noL) Try.prog := T_okV rfl ofT_one
  have hL : LOkZ (ofV noL) Try.prog := noL_okV rfl
  obtain ⟨hl2, hn64⟩ := logB_true hlog
  obtain ⟨k, hk⟩ : ∃ k, n = k + 1 := ⟨n - 1, by omega⟩
  have ho3 := fl_byts (o3_Byts xs 0)
  have g3 := hx.take3 (o := 0 * 3) (by omega)
  have g0 := hx.get (i := 0 * 3) (by omega)
  have g1 := hx.get (i := 0 * 3 + 1) (by omega)
  have g2 := hx.get (i := 0 * 3 + 2) (by omega)
  obtain ⟨⟨c0, d0⟩, ⟨c1, d1⟩, c2, d2⟩ := log_bounds n 0 0 hl2 (by omega) 0 (by omega) (by omega)
  have nx := ro_loop1 (inr := inr) (h0 := h0) hx hn hn64 hc hl2 k (0 + 1) 12 (o3 xs 0) (by omega) rfl (by omega) ho3
  rw [show o3 xs 0 ++ ofL xs (0 + 1) k = ofL xs 0 n by rw [hk]; rfl, show 12 + k * 12 = n * 12 by omega] at nx
  refine LRuns.stepTo (N' := 2) (code_runs hX hL (runZ_ok hX hT hL mixed 5) mixed (ro_more0 inr xs n c 0) ?_) rfl (by omega) (by omega) (by omega) (by omega) (fun _ => 6) ?_ ?_ rfl nx
  · simp only [Alls, decide_eq_true_eq, rg, Nat.add_zero]
    repeat' (first | with_reducible exact trivial | with_reducible apply And.intro)
    all_goals first | with_reducible assumption | omega | with_reducible rfl | (first | exact g3 | exact g0 | exact g1 | exact g2)
  · exact ⟨rfl, rb_slc rfl (by unfold capBig; omega), rfl, rb_slg rfl rfl, rfl, rfl, trivial⟩
  · refine ⟨rb_old (by omega) rfl hx.fl, rb_row (m := 6) (ds := b4 (intAt xs (0 * 3 + 0)) ++ b4 (intAt xs (0 * 3 + 1)) ++ b4 (intAt xs (0 * 3 + 2))) rfl rfl rfl ?_ ho3, trivial⟩
    rfl
theorem ro_spec_ok : LSOk Try.prog 40 [0, 4, 5] (roB Try.prog) (ofSpec fun n c => roS n c 0 (.slice none 0 0)) := by
  refine lspec_ok fun a tp xt l2 h2 nx2 d tp' ob hs ho inr ts hn hg => ?_
  have hX : XOkZ (ofV noL) Try.prog := noXz_ok rfl
  have hT : TOkZ (ofV noL) Try.prog := T_okV rfl ofT_one
  have hL : LOkZ (ofV noL) Try.prog := noL_okV rfl
  obtain ⟨n, c, xs⟩ := a
  simp only at hs hg
  have hrow : ∀ {xs : List Value} {N : Nat}, Fl xs → RbL 1 N (fun n => n) [(0, ⟨.old, xs⟩)] [(0, ⟨.old, xs⟩)] [(0, ⟨.old, xs⟩)] := fun hb => ⟨rb_old (by omega) rfl hb, trivial⟩
  split at hs
  · simp only [Option.some.injEq, Prod.mk.injEq] at hs
    obtain ⟨⟨rfl, rfl, rfl, rfl, rfl⟩, rfl, rfl⟩ := hs
    obtain ⟨h0, hb, hc, _⟩ := ho
    subst h0
    have key : LRuns inr Try.prog (roB Try.prog) 1 9 [(0, ⟨.old, xs⟩)] 40 (roS 0 c 0 (.slice none 0 0)) [(0, ⟨.old, xs⟩)] 1 (.exit 0, [(4, .slice none 0 0)], [(0, ⟨.old, xs⟩)]) := by
      refine LRuns.exit (code_runs hX hL (runZ_ok hX hT hL mixed 5) mixed (ro_done0 inr xs 0 c 0) ?_) (by intro e; cases e) rfl (by omega) (by omega) (fun n => n) ?_ (hrow hb.fl) rfl
      · simp [Alls]
      · exact ⟨rfl, rfl, trivial⟩
    refine LRuns.enter (l2 := roS 0 c 0 (.slice none 0 0)) hn hg (Nat.le_refl 1) (by omega) (fun n => n) ?_ (hrow hb.fl) rfl key ?_
    · exact ⟨rfl, rb_slc rfl (by unfold capBig; omega), rfl, rfl, rfl, rfl, trivial⟩
    · exact tidy_of (by omega) (fun n hn hd => rfl) rfl
  · simp only [Option.some.injEq, Prod.mk.injEq] at hs
    obtain ⟨⟨rfl, rfl, rfl, rfl, rfl⟩, rfl, rfl⟩ := hs
    obtain ⟨h0, hb, hlog, hl, hc, _⟩ := ho
    have key := ro_loop (inr := inr) (h0 := [(0, ⟨.old, xs⟩)]) hb hl hc hlog (by simpa using h0)
    refine LRuns.enter (l2 := roS n c 0 (.slice none 0 0)) hn hg (Nat.le_refl 1) (by omega) (fun n => n) ?_ (hrow hb.fl) rfl key ?_
    · exact ⟨rfl, rb_slc rfl (by unfold capBig; omega), rfl, rfl, rfl, rfl, trivial⟩
    · refine tidy_of (by omega) (fun n hn hd => ?_) rfl
      obtain rfl : n = 0 := by omega
      rfl
  · cases hs
theorem of_gok : GOk Try.prog 11 [.s 3] (gS sOf) := by
  have hX : ∀ L, XOkZ (ofV L) Try.prog := fun L => noXz_ok rfl
  have hT : ∀ L, TOkZ (ofV L) Try.prog := fun L => T_okV rfl ofT_one
  have hL : LOkZ (ofV (ofLw Try.prog)) Try.prog := L_okV rfl (orL_ok (mkL_ok of_spec_ok) (mkL_ok ro_spec_ok))
  have hL0 : LOkZ (ofV noL) Try.prog := noL_okV rfl
  refine gS_ok (fun tp gr tp' ob hG ho => ?_) (fun zs n c tp gr tp' ob hG ho hfl hl0 hc => ?_)
  · unfold sOf at hG
    split at hG
    case h_2 =>
      simp only [Option.some.injEq, Prod.mk.injEq] at hG
      obtain ⟨rfl, rfl, rfl⟩ := hG
      exact ⟨_, _, _, _, fun n => n, run_tri (hX _) (hT _) hL0 of_n (by simp [Alls, Ints, intsOf]) rfl, GrIs.flat fun σ => rfl⟩
    all_goals (exfalso; simp only [Option.some.injEq, Prod.mk.injEq, reduceCtorEq] at hG)
    all_goals (obtain ⟨rfl, rfl, rfl⟩ := hG; simp [Alls, logB, logL] at ho)
  · have htk : zs.take (n * 3) = zs := take_len hl0
    unfold sOf at hG
    split at hG
    case h_4 => cases hG
    all_goals (simp only [Option.some.injEq, Prod.mk.injEq] at hG; obtain ⟨rfl, rfl, rfl⟩ := hG)
    · obtain ⟨hb, h, _⟩ := ho
      have hr2 : (!logB zs n) = true := by rw [h]; rfl
      refine ⟨_, _, _, _, fun n => n, run_tri (hX _) (hT _) hL (of_bad zs n c) ?_ rfl, GrIs.flat fun σ => rfl⟩
      simp only [htk, Alls]; repeat' (first | with_reducible exact trivial | with_reducible apply And.intro)
      all_goals first | with_reducible assumption | omega | with_reducible rfl | (exact hr2)
    · obtain ⟨hb, h, _⟩ := ho
      subst h
      have hr2 : (!logB zs 0) = false := rfl
      refine ⟨_, _, _, _, fun n => n, run_tri (hX _) (hT _) hL (of_nil zs 0 c) ?_ rfl, GrIs.flat fun σ => rfl⟩
      simp only [htk, Alls]; repeat' (first | with_reducible exact trivial | with_reducible apply And.intro)
      all_goals first | with_reducible assumption | omega | with_reducible rfl | (first | exact hr2 | rfl)
    · obtain ⟨hb, hz, hr, _⟩ := ho
      have hr2 : (!logB zs n) = false := by rw [hr]; rfl
      refine ⟨_, _, _, _, fun _ => 1, run_tri (hX _) (hT _) hL (of_ok zs n c) ?_ rfl, GrIs.grown rfl (fl_byts (ofL_Byts _ _ _)) fun σ => rfl⟩
      simp only [htk, Alls]; repeat' (first | with_reducible exact trivial | with_reducible apply And.intro)
      all_goals first | with_reducible assumption | omega | with_reducible rfl | (first | exact hr2 | rfl)
theorem ro_gok : GOk Try.prog 12 [.s 3] (gS sOf) := by
  have hX : ∀ L, XOkZ (ofV L) Try.prog := fun L => noXz_ok rfl
  have hT : ∀ L, TOkZ (ofV L) Try.prog := fun L => T_okV rfl ofT_one
  have hL : LOkZ (ofV (ofLw Try.prog)) Try.prog := L_okV rfl (orL_ok (mkL_ok of_spec_ok) (mkL_ok ro_spec_ok))
  have hL0 : LOkZ (ofV noL) Try.prog := noL_okV rfl
  refine gS_ok (fun tp gr tp' ob hG ho => ?_) (fun zs n c tp gr tp' ob hG ho hfl hl0 hc => ?_)
  · unfold sOf at hG
    split at hG
    case h_2 =>
      simp only [Option.some.injEq, Prod.mk.injEq] at hG
      obtain ⟨rfl, rfl, rfl⟩ := hG
      exact ⟨_, _, _, _, fun n => n, run_tri (hX _) (hT _) hL0 ro_n (by simp [Alls, Ints, intsOf]) rfl, GrIs.flat fun σ => rfl⟩
    all_goals (exfalso; simp only [Option.some.injEq, Prod.mk.injEq, reduceCtorEq] at hG)
    all_goals (obtain ⟨rfl, rfl, rfl⟩ := hG; simp [Alls, logB, logL] at ho)
  · have htk : zs.take (n * 3) = zs := take_len hl0
    unfold sOf at hG
    split at hG
    case h_4 => cases hG
    all_goals (simp only [Option.some.injEq, Prod.mk.injEq] at hG; obtain ⟨rfl, rfl, rfl⟩ := hG)
    · obtain ⟨hb, h, _⟩ := ho
      have hr2 : (!logB zs n) = true := by rw [h]; rfl
      refine ⟨_, _, _, _, fun n => n, run_tri (hX _) (hT _) hL (ro_bad zs n c) ?_ rfl, GrIs.flat fun σ => rfl⟩
      simp only [htk, Alls]; repeat' (first | with_reducible exact trivial | with_reducible apply And.intro)
      all_goals first | with_reducible assumption | omega | with_reducible rfl | (exact hr2)
    · obtain ⟨hb, h, _⟩ := ho
      subst h
      have hr2 : (!logB zs 0) = false := rfl
      refine ⟨_, _, _, _, fun n => n, run_tri (hX _) (hT _) hL (ro_nil zs 0 c) ?_ rfl, GrIs.flat fun σ => rfl⟩
      simp only [htk, Alls]; repeat' (first | with_reducible exact trivial | with_reducible apply And.intro)
      all_goals first | with_reducible assumption | omega | with_reducible rfl | (first | exact hr2 | rfl)
    · obtain ⟨hb, hz, hr, _⟩ := ho
      have hr2 : (!logB zs n) = false := by rw [hr]; rfl
      refine ⟨_, _, _, _, fun _ => 1, run_tri (hX _) (hT _) hL (ro_ok zs n c) ?_ rfl, GrIs.grown rfl (fl_byts (ofL_Byts _ _ _)) fun σ => rfl⟩
      simp only [htk, Alls]; repeat' (first | with_reducible exact trivial | with_reducible apply And.intro)
      all_goals first | with_reducible assumption | omega | with_reducible rfl | (first | exact hr2 | rfl)
/-! ### lists of entries that are the same -/
theorem ee_loop {inr : Bool} {h0 : Hp} {xs : List Value} (hx : Ints .i64 xs) {n c d : Nat} (hn : xs.length = n * 3) (hc : n ≤ c ∧ c ≤ 9223372036854775807) (hd : n ≤ d ∧ d ≤ 9223372036854775807) : ∀ (k i : Nat), i + k = n →
    LRuns inr Try.prog (eeB Try.prog) 2 2 h0 26 (eeS n c d i) [(0, ⟨.old, xs⟩), (1, ⟨.old, xs⟩)] 2 (.exit 0, [], [(0, ⟨.old, xs⟩), (1, ⟨.old, xs⟩)])
  | 0, i, hk => by
      have hX : XOkZ (enV noL) Try.prog := noXz_ok rfl
      have hT : TOkZ (enV noL) Try.prog := T_okV rfl logT_one
      have hL : LOkZ (enV noL) Try.prog := noL_okV rfl
      refine LRuns.exit (code_runs hX hL (runZ_ok hX hT hL mixed 5) mixed (ee_done inr xs n c d i) ?_) (by intro e; cases e) rfl (by omega) (by omega) (fun n => n) trivial ?_ rfl
      · simp only [Alls, decide_eq_false_iff_not]
        repeat' (first | with_reducible exact trivial | with_reducible apply And.intro)
        all_goals first | with_reducible assumption | omega | with_reducible rfl | (skip)
      · exact ⟨rb_old (by omega) rfl hx.fl, rb_old (by omega) rfl hx.fl, trivial⟩
  | k + 1, i, hk => by
      have hX : XOkZ (enV noL) Try.prog := noXz_ok rfl
      have hT : TOkZ (enV noL) Try.prog := T_okV rfl logT_one
      have hL : LOkZ (enV noL) Try.prog := noL_okV rfl
      have g3 := hx.take3 (o := i * 3) (by omega)
      refine LRuns.step (code_runs hX hL (runZ_ok hX hT hL mixed 5) mixed (ee_more inr xs n c d i) ?_) rfl (by omega) (by omega) (fun n => n) ?_ ?_ rfl (ee_loop hx hn hc hd k (i + 1) (by omega))
      · simp only [Alls, decide_eq_true_eq, rg, beq_self_eq_true, Bool.and_self, Bool.not_true]
        repeat' (first | with_reducible exact trivial | with_reducible apply And.intro)
        all_goals first | with_reducible assumption | omega | with_reducible rfl | (exact g3)
      · exact ⟨rfl, rb_slc rfl (by unfold capBig; omega), rfl, rb_slc rfl (by unfold capBig; omega), rfl, rfl, trivial⟩
      · exact ⟨rb_old (by omega) rfl hx.fl, rb_old (by omega) rfl hx.fl, trivial⟩
theorem ee_spec_ok : LSOk Try.prog 26 [0, 1, 5] (eeB Try.prog) eeSpec := by
  refine lspec_ok fun a tp xt l2 h2 nx2 d tp' ob hs ho inr ts hn hg => ?_
  obtain ⟨n, c, e, xs⟩ := a
  simp only at hs hg
  simp only [Option.some.injEq, Prod.mk.injEq] at hs
  obtain ⟨⟨rfl, rfl, rfl, rfl, rfl⟩, rfl, rfl⟩ := hs
  obtain ⟨hx, hl, hc, hd, _⟩ := ho
  have key := ee_loop (inr := inr) (h0 := [(0, ⟨.old, xs⟩), (1, ⟨.old, xs⟩)]) hx hl hc hd n 0 (by omega)
  refine LRuns.enter (l2 := eeS n c e 0) (h := [(0, ⟨.old, xs⟩), (1, ⟨.old, xs⟩)]) (h2 := [(0, ⟨.old, xs⟩), (1, ⟨.old, xs⟩)]) hn hg (Nat.le_refl 2) (by omega) (fun n => n) ?_ ⟨rb_old (by omega) rfl hx.fl, rb_old (by omega) rfl hx.fl, trivial⟩ rfl key ?_
  · exact ⟨rfl, rb_slc rfl (by unfold capBig; omega), rfl, rb_slc rfl (by unfold capBig; omega), rfl, rfl, trivial⟩
  · exact tidy_of (by omega) (fun n hn hd => rfl) rfl
theorem ee_gok : GOk Try.prog 13 [.s 3, .s 3] (gSS sEq) := by
  have hX : ∀ L, XOkZ (enV L) Try.prog := fun L => noXz_ok rfl
  have hT : ∀ L, TOkZ (enV L) Try.prog := fun L => T_okV rfl logT_one
  have hL : LOkZ (enV (eeL Try.prog)) Try.prog := L_okV rfl (mkL_ok ee_spec_ok)
  have hL0 : LOkZ (enV noL) Try.prog := noL_okV rfl
  refine gSS_ok (fun tp gr tp' ob hG ho => ?_) (fun xs n c tp gr tp' ob hG ho hf hl hc => ?_) (fun ys m d tp gr tp' ob hG ho hf hl hc => ?_) (fun xs n c ys m d tp gr tp' ob hG ho hf hl hc hf2 hl2 hc2 => ?_) <;> (
    unfold sEq at hG
    simp only [Option.some.injEq, Prod.mk.injEq] at hG
    obtain ⟨rfl, rfl, rfl⟩ := hG
    obtain ⟨hx, h1, h2, _⟩ := ho)
  · exact ⟨_, _, _, _, fun n => n, run_tri (hX _) (hT _) hL0 ee_nn (by simp [Alls]) rfl, GrIs.flat fun σ => rfl⟩
  · subst h2
    exact ⟨_, _, _, _, fun n => n, run_tri (hX _) (hT _) hL0 (ee_sn xs c) (by simp [Alls]) rfl, GrIs.flat fun σ => rfl⟩
  · subst h2
    exact ⟨_, _, _, _, fun n => n, run_tri (hX _) (hT _) hL0 (ee_ns ys d) (by simp [Alls]) rfl, GrIs.flat fun σ => rfl⟩
  · subst h2
    subst h1
    refine ⟨_, _, _, _, fun n => n, run_tri (hX _) (hT _) hL (ee_ss ys m c d) ?_ rfl, GrIs.flat fun σ => rfl⟩
    have hne : (((m : Nat) : Int) != (m : Int)) = false := by simp
    simp only [Alls]
    repeat' (first | with_reducible exact trivial | with_reducible apply And.intro)
    all_goals first | with_reducible assumption | omega | with_reducible rfl | (rfl)
/-! ### what the examples say -/
def gTrue : GSpec := fun av tp => match av with
  | [] => some (⟨fun _ => .bool true, []⟩, tp, [])
  | _ => none
theorem aw_gok : GOk Try.prog 17 [] gTrue := by
  intro av tp gr tp' ob hG ho hP caps hcap
  unfold gTrue at hG
  split at hG
  case h_2 => cases hG
  simp only [Option.some.injEq, Prod.mk.injEq] at hG
  obtain ⟨rfl, rfl, rfl⟩ := hG
  exact ⟨_, _, _, _, fun n => n, run_tri (noXz_ok rfl) (noTz_okV rfl) (noL_okV rfl) aw_r (by simp [Alls]) rfl, GrIs.flat fun σ => rfl⟩
def entT : TFun := orTz (mkT 9 [.s 1] (gS sEn)) (orTz (mkT 10 [.s 1] (gS sEn)) (orTz (mkT 11 [.s 3] (gS sOf)) (orTz (mkT 12 [.s 3] (gS sOf)) (orTz (mkT 13 [.s 3, .s 3] (gSS sEq)) (orTz (mkT 17 [] gTrue) ofT)))))
theorem entT_one : TOneZ Try.prog entT := orTz_ok (mkT_one en_gok) (orTz_ok (mkT_one re_gok) (orTz_ok (mkT_one of_gok) (orTz_ok (mkT_one ro_gok) (orTz_ok (mkT_one ee_gok) (orTz_ok (mkT_one aw_gok) ofT_one)))))
end Go.Proofs.Ytcmcelilollchaa
