/-
  Chapter 23: a header with the fields that its command has; which bodies a command has: the program's functions, by contracts.
-/
import Derived.Test.YtcmcelilollchaaMsgC
import Derived.Test.YtcmcelilollchaaKitX
namespace Go.Proofs.Ytcmcelilollchaa
set_option linter.unusedSimpArgs false
set_option linter.unusedVariables false
set_option linter.unusedSectionVars false
open Go Go.RowKit

def prjV : Res (Out × Tape × List Prop) → Res (Value × Tape × List Prop)
  | .ok ((v, _, _, _), tp, ob) => .ok (v, tp, ob)
  | .ask b => .ask b
  | .no => .no
def kp (c : Int) (i : Nat) : Bool := bif (c == 3) then memN i [9, 10, 11, 12] else bif (c == 2) then memN i [3, 5, 6, 7, 9, 10, 11, 12, 13] else bif (c == 4) then memN i [3, 5, 6] else bif (c == 5) then memN i [3, 5, 9, 10, 11, 12] else bif (c == 6) then memN i [3, 5, 7, 8] else bif (c == 7) then memN i [3] else bif (c == 10) then memN i [3] else bif (c == 8) then memN i [3, 4, 5, 7, 8] else bif (c == 9) then memN i [3, 5, 7, 8, 14, 15] else bif (c == 11) then memN i [3, 5] else bif (c == 12) then memN i [14, 15] else bif (c == 13) then memN i [14, 15] else bif (c == 14) then memN i [3, 9, 10] else false
def okC (c : Int) : Bool := (c == 3) || (c == 2) || (c == 4) || (c == 5) || (c == 6) || (c == 7) || (c == 10) || (c == 8) || (c == 9) || (c == 11) || (c == 12) || (c == 13) || (c == 14) || false
def ow (c : Int) (i : Nat) (a : Int) : Int := bif kp c i then a else 0
def hdV (a0 a1 a2 a3 a4 a5 a6 a7 a8 a9 a10 a11 a12 a13 a14 a15 : Int) : List Value := [.int .i64 a0, .int .i64 a1, .int .i64 a2, .int .i64 a3, .int .i64 a4, .int .i64 a5, .int .i64 a6, .int .i64 a7, .int .i64 a8, .int .u64 a9, .int .u64 a10, .int .i64 a11, .int .i64 a12, .int .u64 a13, .int .i64 a14, .int .i64 a15]
def owV : Tv := ⟨noTz, noXz, noL, fun _ => [16, 27, 53, 64, 81, 95, 96, 101, 118, 138, 146, 147, 155], lsSy 31 [(16, 0), (27, 0), (53, 0), (64, 0), (81, 0), (95, 0), (96, 0), (101, 0), (118, 0), (138, 0), (146, 0), (147, 0), (155, 0)], fun _ => [], fun _ => 0⟩
theorem ow_c3 (a0 a1 a2 a3 a4 a5 a6 a7 a8 a9 a10 a11 a12 a13 a14 a15 : Int) : prjV (runZ owV Try.prog 5 31 [.agg ⟨hdV a0 a1 a2 a3 a4 a5 a6 a7 a8 a9 a10 a11 a12 a13 a14 a15⟩] [] 1 [true]) =
Res.ok
  (Value.tuple
      (Array.mk
        [Value.agg
            (Array.mk
              [Value.int IntKind.i64 a0, Value.int IntKind.i64 a1, Value.int IntKind.i64 a2,
                Value.int IntKind.i64 (0 : Int), Value.int IntKind.i64 (0 : Int), Value.int IntKind.i64 (0 : Int),
                Value.int IntKind.i64 (0 : Int), Value.int IntKind.i64 (0 : Int), Value.int IntKind.i64 (0 : Int),
                Value.int IntKind.u64 a9, Value.int IntKind.u64 a10, Value.int IntKind.i64 a11,
                Value.int IntKind.i64 a12, Value.int IntKind.u64 (0 : Int), Value.int IntKind.i64 (0 : Int),
                Value.int IntKind.i64 (0 : Int)]),
          Value.bool true]),
    [], [(a0 == (3 : Int)) = true]) := by kernel_rfl
theorem ow_c2 (a0 a1 a2 a3 a4 a5 a6 a7 a8 a9 a10 a11 a12 a13 a14 a15 : Int) : prjV (runZ owV Try.prog 5 31 [.agg ⟨hdV a0 a1 a2 a3 a4 a5 a6 a7 a8 a9 a10 a11 a12 a13 a14 a15⟩] [] 1 [false, true]) =
Res.ok
  (Value.tuple
      (Array.mk
        [Value.agg
            (Array.mk
              [Value.int IntKind.i64 a0, Value.int IntKind.i64 a1, Value.int IntKind.i64 a2, Value.int IntKind.i64 a3,
                Value.int IntKind.i64 (0 : Int), Value.int IntKind.i64 a5, Value.int IntKind.i64 a6,
                Value.int IntKind.i64 a7, Value.int IntKind.i64 (0 : Int), Value.int IntKind.u64 a9,
                Value.int IntKind.u64 a10, Value.int IntKind.i64 a11, Value.int IntKind.i64 a12,
                Value.int IntKind.u64 a13, Value.int IntKind.i64 (0 : Int), Value.int IntKind.i64 (0 : Int)]),
          Value.bool true]),
    [], [(a0 == (3 : Int)) = false, (a0 == (2 : Int)) = true]) := by kernel_rfl
theorem ow_c4 (a0 a1 a2 a3 a4 a5 a6 a7 a8 a9 a10 a11 a12 a13 a14 a15 : Int) : prjV (runZ owV Try.prog 5 31 [.agg ⟨hdV a0 a1 a2 a3 a4 a5 a6 a7 a8 a9 a10 a11 a12 a13 a14 a15⟩] [] 1 [false, false, true]) =
Res.ok
  (Value.tuple
      (Array.mk
        [Value.agg
            (Array.mk
              [Value.int IntKind.i64 a0, Value.int IntKind.i64 a1, Value.int IntKind.i64 a2, Value.int IntKind.i64 a3,
                Value.int IntKind.i64 (0 : Int), Value.int IntKind.i64 a5, Value.int IntKind.i64 a6,
                Value.int IntKind.i64 (0 : Int), Value.int IntKind.i64 (0 : Int), Value.int IntKind.u64 (0 : Int),
                Value.int IntKind.u64 (0 : Int), Value.int IntKind.i64 (0 : Int), Value.int IntKind.i64 (0 : Int),
                Value.int IntKind.u64 (0 : Int), Value.int IntKind.i64 (0 : Int), Value.int IntKind.i64 (0 : Int)]),
          Value.bool true]),
    [], [(a0 == (3 : Int)) = false, (a0 == (2 : Int)) = false, (a0 == (4 : Int)) = true]) := by kernel_rfl
theorem ow_c5 (a0 a1 a2 a3 a4 a5 a6 a7 a8 a9 a10 a11 a12 a13 a14 a15 : Int) : prjV (runZ owV Try.prog 5 31 [.agg ⟨hdV a0 a1 a2 a3 a4 a5 a6 a7 a8 a9 a10 a11 a12 a13 a14 a15⟩] [] 1 [false, false, false, true]) =
Res.ok
  (Value.tuple
      (Array.mk
        [Value.agg
            (Array.mk
              [Value.int IntKind.i64 a0, Value.int IntKind.i64 a1, Value.int IntKind.i64 a2, Value.int IntKind.i64 a3,
                Value.int IntKind.i64 (0 : Int), Value.int IntKind.i64 a5, Value.int IntKind.i64 (0 : Int),
                Value.int IntKind.i64 (0 : Int), Value.int IntKind.i64 (0 : Int), Value.int IntKind.u64 a9,
                Value.int IntKind.u64 a10, Value.int IntKind.i64 a11, Value.int IntKind.i64 a12,
                Value.int IntKind.u64 (0 : Int), Value.int IntKind.i64 (0 : Int), Value.int IntKind.i64 (0 : Int)]),
          Value.bool true]),
    [], [(a0 == (3 : Int)) = false, (a0 == (2 : Int)) = false, (a0 == (4 : Int)) = false, (a0 == (5 : Int)) = true]) := by kernel_rfl
theorem ow_c6 (a0 a1 a2 a3 a4 a5 a6 a7 a8 a9 a10 a11 a12 a13 a14 a15 : Int) : prjV (runZ owV Try.prog 5 31 [.agg ⟨hdV a0 a1 a2 a3 a4 a5 a6 a7 a8 a9 a10 a11 a12 a13 a14 a15⟩] [] 1 [false, false, false, false, true]) =
Res.ok
  (Value.tuple
      (Array.mk
        [Value.agg
            (Array.mk
              [Value.int IntKind.i64 a0, Value.int IntKind.i64 a1, Value.int IntKind.i64 a2, Value.int IntKind.i64 a3,
                Value.int IntKind.i64 (0 : Int), Value.int IntKind.i64 a5, Value.int IntKind.i64 (0 : Int),
                Value.int IntKind.i64 a7, Value.int IntKind.i64 a8, Value.int IntKind.u64 (0 : Int),
                Value.int IntKind.u64 (0 : Int), Value.int IntKind.i64 (0 : Int), Value.int IntKind.i64 (0 : Int),
                Value.int IntKind.u64 (0 : Int), Value.int IntKind.i64 (0 : Int), Value.int IntKind.i64 (0 : Int)]),
          Value.bool true]),
    [],
    [(a0 == (3 : Int)) = false, (a0 == (2 : Int)) = false, (a0 == (4 : Int)) = false, (a0 == (5 : Int)) = false,
      (a0 == (6 : Int)) = true]) := by kernel_rfl
theorem ow_c7 (a0 a1 a2 a3 a4 a5 a6 a7 a8 a9 a10 a11 a12 a13 a14 a15 : Int) : prjV (runZ owV Try.prog 5 31 [.agg ⟨hdV a0 a1 a2 a3 a4 a5 a6 a7 a8 a9 a10 a11 a12 a13 a14 a15⟩] [] 1 [false, false, false, false, false, true]) =
Res.ok
  (Value.tuple
      (Array.mk
        [Value.agg
            (Array.mk
              [Value.int IntKind.i64 a0, Value.int IntKind.i64 a1, Value.int IntKind.i64 a2, Value.int IntKind.i64 a3,
                Value.int IntKind.i64 (0 : Int), Value.int IntKind.i64 (0 : Int), Value.int IntKind.i64 (0 : Int),
                Value.int IntKind.i64 (0 : Int), Value.int IntKind.i64 (0 : Int), Value.int IntKind.u64 (0 : Int),
                Value.int IntKind.u64 (0 : Int), Value.int IntKind.i64 (0 : Int), Value.int IntKind.i64 (0 : Int),
                Value.int IntKind.u64 (0 : Int), Value.int IntKind.i64 (0 : Int), Value.int IntKind.i64 (0 : Int)]),
          Value.bool true]),
    [],
    [(a0 == (3 : Int)) = false, (a0 == (2 : Int)) = false, (a0 == (4 : Int)) = false, (a0 == (5 : Int)) = false,
      (a0 == (6 : Int)) = false, (a0 == (7 : Int)) = true]) := by kernel_rfl
theorem ow_c10 (a0 a1 a2 a3 a4 a5 a6 a7 a8 a9 a10 a11 a12 a13 a14 a15 : Int) : prjV (runZ owV Try.prog 5 31 [.agg ⟨hdV a0 a1 a2 a3 a4 a5 a6 a7 a8 a9 a10 a11 a12 a13 a14 a15⟩] [] 1 [false, false, false, false, false, false, true]) =
Res.ok
  (Value.tuple
      (Array.mk
        [Value.agg
            (Array.mk
              [Value.int IntKind.i64 a0, Value.int IntKind.i64 a1, Value.int IntKind.i64 a2, Value.int IntKind.i64 a3,
                Value.int IntKind.i64 (0 : Int), Value.int IntKind.i64 (0 : Int), Value.int IntKind.i64 (0 : Int),
                Value.int IntKind.i64 (0 : Int), Value.int IntKind.i64 (0 : Int), Value.int IntKind.u64 (0 : Int),
                Value.int IntKind.u64 (0 : Int), Value.int IntKind.i64 (0 : Int), Value.int IntKind.i64 (0 : Int),
                Value.int IntKind.u64 (0 : Int), Value.int IntKind.i64 (0 : Int), Value.int IntKind.i64 (0 : Int)]),
          Value.bool true]),
    [],
    [(a0 == (3 : Int)) = false, (a0 == (2 : Int)) = false, (a0 == (4 : Int)) = false, (a0 == (5 : Int)) = false,
      (a0 == (6 : Int)) = false, (a0 == (7 : Int)) = false, (a0 == (10 : Int)) = true]) := by kernel_rfl
theorem ow_c8 (a0 a1 a2 a3 a4 a5 a6 a7 a8 a9 a10 a11 a12 a13 a14 a15 : Int) : prjV (runZ owV Try.prog 5 31 [.agg ⟨hdV a0 a1 a2 a3 a4 a5 a6 a7 a8 a9 a10 a11 a12 a13 a14 a15⟩] [] 1 [false, false, false, false, false, false, false, true]) =
Res.ok
  (Value.tuple
      (Array.mk
        [Value.agg
            (Array.mk
              [Value.int IntKind.i64 a0, Value.int IntKind.i64 a1, Value.int IntKind.i64 a2, Value.int IntKind.i64 a3,
                Value.int IntKind.i64 a4, Value.int IntKind.i64 a5, Value.int IntKind.i64 (0 : Int),
                Value.int IntKind.i64 a7, Value.int IntKind.i64 a8, Value.int IntKind.u64 (0 : Int),
                Value.int IntKind.u64 (0 : Int), Value.int IntKind.i64 (0 : Int), Value.int IntKind.i64 (0 : Int),
                Value.int IntKind.u64 (0 : Int), Value.int IntKind.i64 (0 : Int), Value.int IntKind.i64 (0 : Int)]),
          Value.bool true]),
    [],
    [(a0 == (3 : Int)) = false, (a0 == (2 : Int)) = false, (a0 == (4 : Int)) = false, (a0 == (5 : Int)) = false,
      (a0 == (6 : Int)) = false, (a0 == (7 : Int)) = false, (a0 == (10 : Int)) = false, (a0 == (8 : Int)) = true]) := by kernel_rfl
theorem ow_c9 (a0 a1 a2 a3 a4 a5 a6 a7 a8 a9 a10 a11 a12 a13 a14 a15 : Int) : prjV (runZ owV Try.prog 5 31 [.agg ⟨hdV a0 a1 a2 a3 a4 a5 a6 a7 a8 a9 a10 a11 a12 a13 a14 a15⟩] [] 1 [false, false, false, false, false, false, false, false, true]) =
Res.ok
  (Value.tuple
      (Array.mk
        [Value.agg
            (Array.mk
              [Value.int IntKind.i64 a0, Value.int IntKind.i64 a1, Value.int IntKind.i64 a2, Value.int IntKind.i64 a3,
                Value.int IntKind.i64 (0 : Int), Value.int IntKind.i64 a5, Value.int IntKind.i64 (0 : Int),
                Value.int IntKind.i64 a7, Value.int IntKind.i64 a8, Value.int IntKind.u64 (0 : Int),
                Value.int IntKind.u64 (0 : Int), Value.int IntKind.i64 (0 : Int), Value.int IntKind.i64 (0 : Int),
                Value.int IntKind.u64 (0 : Int), Value.int IntKind.i64 a14, Value.int IntKind.i64 a15]),
          Value.bool true]),
    [],
    [(a0 == (3 : Int)) = false, (a0 == (2 : Int)) = false, (a0 == (4 : Int)) = false, (a0 == (5 : Int)) = false,
      (a0 == (6 : Int)) = false, (a0 == (7 : Int)) = false, (a0 == (10 : Int)) = false, (a0 == (8 : Int)) = false,
      (a0 == (9 : Int)) = true]) := by kernel_rfl
theorem ow_c11 (a0 a1 a2 a3 a4 a5 a6 a7 a8 a9 a10 a11 a12 a13 a14 a15 : Int) : prjV (runZ owV Try.prog 5 31 [.agg ⟨hdV a0 a1 a2 a3 a4 a5 a6 a7 a8 a9 a10 a11 a12 a13 a14 a15⟩] [] 1 [false, false, false, false, false, false, false, false, false, true]) =
Res.ok
  (Value.tuple
      (Array.mk
        [Value.agg
            (Array.mk
              [Value.int IntKind.i64 a0, Value.int IntKind.i64 a1, Value.int IntKind.i64 a2, Value.int IntKind.i64 a3,
                Value.int IntKind.i64 (0 : Int), Value.int IntKind.i64 a5, Value.int IntKind.i64 (0 : Int),
                Value.int IntKind.i64 (0 : Int), Value.int IntKind.i64 (0 : Int), Value.int IntKind.u64 (0 : Int),
                Value.int IntKind.u64 (0 : Int), Value.int IntKind.i64 (0 : Int), Value.int IntKind.i64 (0 : Int),
                Value.int IntKind.u64 (0 : Int), Value.int IntKind.i64 (0 : Int), Value.int IntKind.i64 (0 : Int)]),
          Value.bool true]),
    [],
    [(a0 == (3 : Int)) = false, (a0 == (2 : Int)) = false, (a0 == (4 : Int)) = false, (a0 == (5 : Int)) = false,
      (a0 == (6 : Int)) = false, (a0 == (7 : Int)) = false, (a0 == (10 : Int)) = false, (a0 == (8 : Int)) = false,
      (a0 == (9 : Int)) = false, (a0 == (11 : Int)) = true]) := by kernel_rfl
theorem ow_c12 (a0 a1 a2 a3 a4 a5 a6 a7 a8 a9 a10 a11 a12 a13 a14 a15 : Int) : prjV (runZ owV Try.prog 5 31 [.agg ⟨hdV a0 a1 a2 a3 a4 a5 a6 a7 a8 a9 a10 a11 a12 a13 a14 a15⟩] [] 1 [false, false, false, false, false, false, false, false, false, false, true]) =
Res.ok
  (Value.tuple
      (Array.mk
        [Value.agg
            (Array.mk
              [Value.int IntKind.i64 a0, Value.int IntKind.i64 a1, Value.int IntKind.i64 a2,
                Value.int IntKind.i64 (0 : Int), Value.int IntKind.i64 (0 : Int), Value.int IntKind.i64 (0 : Int),
                Value.int IntKind.i64 (0 : Int), Value.int IntKind.i64 (0 : Int), Value.int IntKind.i64 (0 : Int),
                Value.int IntKind.u64 (0 : Int), Value.int IntKind.u64 (0 : Int), Value.int IntKind.i64 (0 : Int),
                Value.int IntKind.i64 (0 : Int), Value.int IntKind.u64 (0 : Int), Value.int IntKind.i64 a14,
                Value.int IntKind.i64 a15]),
          Value.bool true]),
    [],
    [(a0 == (3 : Int)) = false, (a0 == (2 : Int)) = false, (a0 == (4 : Int)) = false, (a0 == (5 : Int)) = false,
      (a0 == (6 : Int)) = false, (a0 == (7 : Int)) = false, (a0 == (10 : Int)) = false, (a0 == (8 : Int)) = false,
      (a0 == (9 : Int)) = false, (a0 == (11 : Int)) = false, (a0 == (12 : Int)) = true]) := by kernel_rfl
theorem ow_c13 (a0 a1 a2 a3 a4 a5 a6 a7 a8 a9 a10 a11 a12 a13 a14 a15 : Int) : prjV (runZ owV Try.prog 5 31 [.agg ⟨hdV a0 a1 a2 a3 a4 a5 a6 a7 a8 a9 a10 a11 a12 a13 a14 a15⟩] [] 1 [false, false, false, false, false, false, false, false, false, false, false, true]) =
Res.ok
  (Value.tuple
      (Array.mk
        [Value.agg
            (Array.mk
              [Value.int IntKind.i64 a0, Value.int IntKind.i64 a1, Value.int IntKind.i64 a2,
                Value.int IntKind.i64 (0 : Int), Value.int IntKind.i64 (0 : Int), Value.int IntKind.i64 (0 : Int),
                Value.int IntKind.i64 (0 : Int), Value.int IntKind.i64 (0 : Int), Value.int IntKind.i64 (0 : Int),
                Value.int IntKind.u64 (0 : Int), Value.int IntKind.u64 (0 : Int), Value.int IntKind.i64 (0 : Int),
                Value.int IntKind.i64 (0 : Int), Value.int IntKind.u64 (0 : Int), Value.int IntKind.i64 a14,
                Value.int IntKind.i64 a15]),
          Value.bool true]),
    [],
    [(a0 == (3 : Int)) = false, (a0 == (2 : Int)) = false, (a0 == (4 : Int)) = false, (a0 == (5 : Int)) = false,
      (a0 == (6 : Int)) = false, (a0 == (7 : Int)) = false, (a0 == (10 : Int)) = false, (a0 == (8 : Int)) = false,
      (a0 == (9 : Int)) = false, (a0 == (11 : Int)) = false, (a0 == (12 : Int)) = false, (a0 == (13 : Int)) = true]) := by kernel_rfl
theorem ow_c14 (a0 a1 a2 a3 a4 a5 a6 a7 a8 a9 a10 a11 a12 a13 a14 a15 : Int) : prjV (runZ owV Try.prog 5 31 [.agg ⟨hdV a0 a1 a2 a3 a4 a5 a6 a7 a8 a9 a10 a11 a12 a13 a14 a15⟩] [] 1 [false, false, false, false, false, false, false, false, false, false, false, false, true]) =
Res.ok
  (Value.tuple
      (Array.mk
        [Value.agg
            (Array.mk
              [Value.int IntKind.i64 a0, Value.int IntKind.i64 a1, Value.int IntKind.i64 a2, Value.int IntKind.i64 a3,
                Value.int IntKind.i64 (0 : Int), Value.int IntKind.i64 (0 : Int), Value.int IntKind.i64 (0 : Int),
                Value.int IntKind.i64 (0 : Int), Value.int IntKind.i64 (0 : Int), Value.int IntKind.u64 a9,
                Value.int IntKind.u64 a10, Value.int IntKind.i64 (0 : Int), Value.int IntKind.i64 (0 : Int),
                Value.int IntKind.u64 (0 : Int), Value.int IntKind.i64 (0 : Int), Value.int IntKind.i64 (0 : Int)]),
          Value.bool true]),
    [],
    [(a0 == (3 : Int)) = false, (a0 == (2 : Int)) = false, (a0 == (4 : Int)) = false, (a0 == (5 : Int)) = false,
      (a0 == (6 : Int)) = false, (a0 == (7 : Int)) = false, (a0 == (10 : Int)) = false, (a0 == (8 : Int)) = false,
      (a0 == (9 : Int)) = false, (a0 == (11 : Int)) = false, (a0 == (12 : Int)) = false, (a0 == (13 : Int)) = false,
      (a0 == (14 : Int)) = true]) := by kernel_rfl
theorem ow_no (a0 a1 a2 a3 a4 a5 a6 a7 a8 a9 a10 a11 a12 a13 a14 a15 : Int) : prjV (runZ owV Try.prog 5 31 [.agg ⟨hdV a0 a1 a2 a3 a4 a5 a6 a7 a8 a9 a10 a11 a12 a13 a14 a15⟩] [] 1 [false, false, false, false, false, false, false, false, false, false, false, false, false]) =
Res.ok
  (Value.tuple
      (Array.mk
        [Value.agg
            (Array.mk
              [Value.int IntKind.i64 a0, Value.int IntKind.i64 a1, Value.int IntKind.i64 a2,
                Value.int IntKind.i64 (0 : Int), Value.int IntKind.i64 (0 : Int), Value.int IntKind.i64 (0 : Int),
                Value.int IntKind.i64 (0 : Int), Value.int IntKind.i64 (0 : Int), Value.int IntKind.i64 (0 : Int),
                Value.int IntKind.u64 (0 : Int), Value.int IntKind.u64 (0 : Int), Value.int IntKind.i64 (0 : Int),
                Value.int IntKind.i64 (0 : Int), Value.int IntKind.u64 (0 : Int), Value.int IntKind.i64 (0 : Int),
                Value.int IntKind.i64 (0 : Int)]),
          Value.bool false]),
    [],
    [(a0 == (3 : Int)) = false, (a0 == (2 : Int)) = false, (a0 == (4 : Int)) = false, (a0 == (5 : Int)) = false,
      (a0 == (6 : Int)) = false, (a0 == (7 : Int)) = false, (a0 == (10 : Int)) = false, (a0 == (8 : Int)) = false,
      (a0 == (9 : Int)) = false, (a0 == (11 : Int)) = false, (a0 == (12 : Int)) = false, (a0 == (13 : Int)) = false,
      (a0 == (14 : Int)) = false]) := by kernel_rfl
def gOwn : GSpec := fun av tp => match av with
  | [.fl (.agg ⟨[.int .i64 a0, .int .i64 a1, .int .i64 a2, .int .i64 a3, .int .i64 a4, .int .i64 a5, .int .i64 a6, .int .i64 a7, .int .i64 a8, .int .u64 a9, .int .u64 a10, .int .i64 a11, .int .i64 a12, .int .u64 a13, .int .i64 a14, .int .i64 a15]⟩)] => some (⟨fun _ => .tuple ⟨[.agg ⟨[.int .i64 a0, .int .i64 a1, .int .i64 a2, .int .i64 (ow a0 3 a3), .int .i64 (ow a0 4 a4), .int .i64 (ow a0 5 a5), .int .i64 (ow a0 6 a6), .int .i64 (ow a0 7 a7), .int .i64 (ow a0 8 a8), .int .u64 (ow a0 9 a9), .int .u64 (ow a0 10 a10), .int .i64 (ow a0 11 a11), .int .i64 (ow a0 12 a12), .int .u64 (ow a0 13 a13), .int .i64 (ow a0 14 a14), .int .i64 (ow a0 15 a15)]⟩, .bool (okC a0)]⟩, []⟩, tp, [])
  | _ => none
theorem run_val {V : Tv} (hX : XOkZ V Try.prog) (hT : TOkZ V Try.prog) (hL : LOkZ V Try.prog) {k : Nat} {f : FuncId} {args : List Value} {h : Hp} {nx : Nat} {tp tp' : Tape} {v : Value} {ob : List Prop} (e : prjV (runZ V Try.prog k f args h nx tp) = .ok (v, tp', ob)) (ho : Alls ob) (hf : Nat.blt f yBig = true) : ∃ h' nx' d, Tri Try.prog f args h nx (v, h', nx', d) := by
  unfold prjV at e
  split at e
  · rename_i v0 h0 nx0 d0 tp0 ob0 hr
    simp only [Res.ok.injEq, Prod.mk.injEq] at e
    obtain ⟨rfl, rfl, rfl⟩ := e
    exact ⟨_, _, _, run_tri hX hT hL hr ho hf⟩
  · cases e
  · cases e
theorem eqF {c k : Int} (h : c ≠ k) : (c == k) = false := by simpa using h
theorem ran_flat {P : Program} {f : FuncId} {args : List Value} {h : Hp} {nx : Nat} {v u : Value} (H : ∃ h' nx' d, Tri P f args h nx (v, h', nx', d)) (e : v = u) (hf : ∀ σ, renV σ u = some u) : Ran P f args h nx ⟨fun _ => u, []⟩ := by
  obtain ⟨h', nx', d, T⟩ := H
  subst e
  exact ⟨_, _, _, _, fun n => n, T, GrIs.flat hf⟩
theorem own_gok : GOk Try.prog 31 [.f] gOwn := by
  have hX : XOkZ owV Try.prog := noXz_ok rfl
  have hT : TOkZ owV Try.prog := noTz_okV rfl
  have hL : LOkZ owV Try.prog := noL_okV rfl
  intro av tp gr tp' ob hG ho hP caps hcap
  obtain ⟨a, rfl, pa⟩ := avps1 hP
  obtain ⟨c, rfl⟩ := caps1 hcap
  unfold gOwn at hG
  split at hG
  case h_2 => cases hG
  rename_i a0 a1 a2 a3 a4 a5 a6 a7 a8 a9 a10 a11 a12 a13 a14 a15 e
  simp only [List.cons.injEq, and_true] at e
  subst e
  simp only [Option.some.injEq, Prod.mk.injEq] at hG
  obtain ⟨rfl, rfl, rfl⟩ := hG
  by_cases h3 : a0 = 3
  · subst h3
    refine ran_flat (run_val hX hT hL (ow_c3 3 a1 a2 a3 a4 a5 a6 a7 a8 a9 a10 a11 a12 a13 a14 a15) ?_ rfl) rfl (fun σ => rfl)
    simp [Alls]
  by_cases h2 : a0 = 2
  · subst h2
    refine ran_flat (run_val hX hT hL (ow_c2 2 a1 a2 a3 a4 a5 a6 a7 a8 a9 a10 a11 a12 a13 a14 a15) ?_ rfl) rfl (fun σ => rfl)
    simp [Alls]
  by_cases h4 : a0 = 4
  · subst h4
    refine ran_flat (run_val hX hT hL (ow_c4 4 a1 a2 a3 a4 a5 a6 a7 a8 a9 a10 a11 a12 a13 a14 a15) ?_ rfl) rfl (fun σ => rfl)
    simp [Alls]
  by_cases h5 : a0 = 5
  · subst h5
    refine ran_flat (run_val hX hT hL (ow_c5 5 a1 a2 a3 a4 a5 a6 a7 a8 a9 a10 a11 a12 a13 a14 a15) ?_ rfl) rfl (fun σ => rfl)
    simp [Alls]
  by_cases h6 : a0 = 6
  · subst h6
    refine ran_flat (run_val hX hT hL (ow_c6 6 a1 a2 a3 a4 a5 a6 a7 a8 a9 a10 a11 a12 a13 a14 a15) ?_ rfl) rfl (fun σ => rfl)
    simp [Alls]
  by_cases h7 : a0 = 7
  · subst h7
    refine ran_flat (run_val hX hT hL (ow_c7 7 a1 a2 a3 a4 a5 a6 a7 a8 a9 a10 a11 a12 a13 a14 a15) ?_ rfl) rfl (fun σ => rfl)
    simp [Alls]
  by_cases h10 : a0 = 10
  · subst h10
    refine ran_flat (run_val hX hT hL (ow_c10 10 a1 a2 a3 a4 a5 a6 a7 a8 a9 a10 a11 a12 a13 a14 a15) ?_ rfl) rfl (fun σ => rfl)
    simp [Alls]
  by_cases h8 : a0 = 8
  · subst h8
    refine ran_flat (run_val hX hT hL (ow_c8 8 a1 a2 a3 a4 a5 a6 a7 a8 a9 a10 a11 a12 a13 a14 a15) ?_ rfl) rfl (fun σ => rfl)
    simp [Alls]
  by_cases h9 : a0 = 9
  · subst h9
    refine ran_flat (run_val hX hT hL (ow_c9 9 a1 a2 a3 a4 a5 a6 a7 a8 a9 a10 a11 a12 a13 a14 a15) ?_ rfl) rfl (fun σ => rfl)
    simp [Alls]
  by_cases h11 : a0 = 11
  · subst h11
    refine ran_flat (run_val hX hT hL (ow_c11 11 a1 a2 a3 a4 a5 a6 a7 a8 a9 a10 a11 a12 a13 a14 a15) ?_ rfl) rfl (fun σ => rfl)
    simp [Alls]
  by_cases h12 : a0 = 12
  · subst h12
    refine ran_flat (run_val hX hT hL (ow_c12 12 a1 a2 a3 a4 a5 a6 a7 a8 a9 a10 a11 a12 a13 a14 a15) ?_ rfl) rfl (fun σ => rfl)
    simp [Alls]
  by_cases h13 : a0 = 13
  · subst h13
    refine ran_flat (run_val hX hT hL (ow_c13 13 a1 a2 a3 a4 a5 a6 a7 a8 a9 a10 a11 a12 a13 a14 a15) ?_ rfl) rfl (fun σ => rfl)
    simp [Alls]
  by_cases h14 : a0 = 14
  · subst h14
    refine ran_flat (run_val hX hT hL (ow_c14 14 a1 a2 a3 a4 a5 a6 a7 a8 a9 a10 a11 a12 a13 a14 a15) ?_ rfl) rfl (fun σ => rfl)
    simp [Alls]
  have ek : ∀ i, kp a0 i = false := fun i => by simp only [kp, eqF h3, eqF h2, eqF h4, eqF h5, eqF h6, eqF h7, eqF h10, eqF h8, eqF h9, eqF h11, eqF h12, eqF h13, eqF h14, cond_false]
  have eo : okC a0 = false := by simp only [okC, eqF h3, eqF h2, eqF h4, eqF h5, eqF h6, eqF h7, eqF h10, eqF h8, eqF h9, eqF h11, eqF h12, eqF h13, eqF h14, Bool.or_false]
  refine ran_flat (run_val hX hT hL (ow_no a0 a1 a2 a3 a4 a5 a6 a7 a8 a9 a10 a11 a12 a13 a14 a15) ?_ rfl) ?_ (fun σ => by simp [renV, renA, renL])
  · simp only [Alls, eqF h3, eqF h2, eqF h4, eqF h5, eqF h6, eqF h7, eqF h10, eqF h8, eqF h9, eqF h11, eqF h12, eqF h13, eqF h14, and_self]
  · simp only [eo, ow, ek, cond_false]
end Go.Proofs.Ytcmcelilollchaa
