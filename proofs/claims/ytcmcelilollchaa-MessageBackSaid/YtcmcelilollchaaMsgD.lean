/-
  Chapter 23: IDs of bytes, bytes of IDs; lists of IDs beside each other.
-/
import Derived.Test.YtcmcelilollchaaMsgC
import Derived.Test.YtcmcelilollchaaU128Z
namespace Go.Proofs.Ytcmcelilollchaa
set_option linter.unusedSimpArgs false
set_option linter.unusedVariables false
set_option linter.unusedSectionVars false
open Go Go.RowKit

def idRow (ys : List Value) : Rw := ⟨.room 2 [.int .u64 0, .int .u64 0], ys⟩
def idV (tab : FuncId → List Nat) : Tv := ⟨u8T, noXz, noL, tab, orSy (lsSy 40 [(16, 0), (28, 0)]) (orSy (lsSy 22 [(26, 0)]) (orSy (lsSy 23 [(16, 0)]) (orSy (lsSy 24 [(19, 0)]) (orSy (allSy 25 []) noSy)))), fun _ => [], fun _ => 21⟩
def idT : FuncId → List Nat := fun f => bif Nat.beq f 21 then [12, 16] else bif Nat.beq f 22 then [11, 14] else bif Nat.beq f 23 then [10] else bif Nat.beq f 24 then [9] else bif Nat.beq f 25 then [10, 14, 25] else []
def id0 : FuncId → List Nat := fun _ => []
def syA (p : Tv) (f : FuncId) : Tv := { p with sy := allSy f [] }
def prjR (m : Nat) : Res (Out × Tape × List Prop) → Res ((Value × Rw) × Tape × List Prop)
  | .ok ((v, h, _, _), tp, ob) => match lk h m with | some r => .ok ((v, r), tp, ob) | none => .no
  | .ask b => .ask b
  | .no => .no
theorem id_bad (xs : List Value) (n c : Nat) : runZ (syA (idV idT) 21) Try.prog 8 21 [.slice (some ⟨0, 0, none⟩) n c] [(0, ⟨.old, xs⟩)] 1 [true] =
Res.ok
  ((Value.tuple (Array.mk [Value.slice none (0 : Nat) (0 : Nat), Value.int IntKind.i64 (4 : Int)]),
      [((0 : Nat), Rw.mk Kd.old xs)], (1 : Nat), []),
    [], [(0 : Int) ≤ (↑n : Int) ∧ (0 : Int) < (16 : Int), ((↑(n % (16 : Nat)) : Int) != (0 : Int)) = true]) := by kernel_rfl
theorem id_long (xs : List Value) (n c : Nat) : runZ (syA (idV idT) 21) Try.prog 8 21 [.slice (some ⟨0, 0, none⟩) n c] [(0, ⟨.old, xs⟩)] 1 [false, true] =
Res.ok
  ((Value.tuple (Array.mk [Value.slice none (0 : Nat) (0 : Nat), Value.int IntKind.i64 (3 : Int)]),
      [((0 : Nat), Rw.mk Kd.old xs)], (1 : Nat), []),
    [],
    [(0 : Int) ≤ (↑n : Int) ∧ (0 : Int) < (16 : Int), ((↑(n % (16 : Nat)) : Int) != (0 : Int)) = false,
      decide ((↑n : Int) > (128 : Int)) = true]) := by kernel_rfl
theorem id_n  : runZ (idV id0) Try.prog 8 21 [.slice none 0 0] [] 1 [] =
Res.ok
  ((Value.tuple (Array.mk [Value.slice none (0 : Nat) (0 : Nat), Value.int IntKind.i64 (0 : Int)]), [], (6 : Nat), []),
    [], []) := by kernel_rfl
theorem id_0 (xs : List Value) (c : Nat) : runZ (idV id0) Try.prog 8 21 [.slice (some ⟨0, 0, none⟩) 0 c] [(0, ⟨.old, xs⟩)] 1 [] =
Res.ok
  ((Value.tuple (Array.mk [Value.slice none (0 : Nat) (0 : Nat), Value.int IntKind.i64 (0 : Int)]),
      [((0 : Nat), Rw.mk Kd.old xs)], (6 : Nat), []),
    [], []) := by kernel_rfl
theorem ir_bad (xs : List Value) (n c : Nat) : runZ (syA (idV idT) 22) Try.prog 8 22 [.slice (some ⟨0, 0, none⟩) n c] [(0, ⟨.old, xs⟩)] 1 [true] =
Res.ok
  ((Value.tuple (Array.mk [Value.slice none (0 : Nat) (0 : Nat), Value.int IntKind.i64 (4 : Int)]),
      [((0 : Nat), Rw.mk Kd.old xs)], (1 : Nat), []),
    [], [(0 : Int) ≤ (↑n : Int) ∧ (0 : Int) < (16 : Int), ((↑(n % (16 : Nat)) : Int) != (0 : Int)) = true]) := by kernel_rfl
theorem ir_long (xs : List Value) (n c : Nat) : runZ (syA (idV idT) 22) Try.prog 8 22 [.slice (some ⟨0, 0, none⟩) n c] [(0, ⟨.old, xs⟩)] 1 [false, true] =
Res.ok
  ((Value.tuple (Array.mk [Value.slice none (0 : Nat) (0 : Nat), Value.int IntKind.i64 (3 : Int)]),
      [((0 : Nat), Rw.mk Kd.old xs)], (1 : Nat), []),
    [],
    [(0 : Int) ≤ (↑n : Int) ∧ (0 : Int) < (16 : Int), ((↑(n % (16 : Nat)) : Int) != (0 : Int)) = false,
      decide ((↑n : Int) > (128 : Int)) = true]) := by kernel_rfl
theorem ir_n  : runZ (idV id0) Try.prog 8 22 [.slice none 0 0] [] 1 [] =
Res.ok
  ((Value.tuple (Array.mk [Value.slice none (0 : Nat) (0 : Nat), Value.int IntKind.i64 (0 : Int)]), [], (1 : Nat), []),
    [], []) := by kernel_rfl
theorem ir_0 (xs : List Value) (c : Nat) : runZ (idV id0) Try.prog 8 22 [.slice (some ⟨0, 0, none⟩) 0 c] [(0, ⟨.old, xs⟩)] 1 [] =
Res.ok
  ((Value.tuple (Array.mk [Value.slice none (0 : Nat) (0 : Nat), Value.int IntKind.i64 (0 : Int)]),
      [((0 : Nat), Rw.mk Kd.old xs)], (1 : Nat), []),
    [], []) := by kernel_rfl
theorem id_1 (xs : List Value) (c : Nat) : prjR 8 (runZ (idV id0) Try.prog 8 21 [.slice (some ⟨0, 0, none⟩) 16 c] [(0, ⟨.old, xs⟩)] 1 []) =
Res.ok
  ((Value.tuple
        (Array.mk
          [Value.slice (some (Addr.mk (8 : Nat) (0 : Nat) none)) (1 : Nat) (capBig + (8 : Nat)),
            Value.int IntKind.i64 (0 : Int)]),
      Rw.mk (Kd.room (2 : Nat) [Value.int IntKind.u64 (0 : Int), Value.int IntKind.u64 (0 : Int)])
        [Value.int IntKind.u64 (r8 (List.drop (8 : Nat) (List.take (16 : Nat) xs))),
          Value.int IntKind.u64 (r8 (List.take (16 : Nat) xs))]),
    [],
    [c < (18446744073709551616 : Nat), (0 : Int) ≤ (0 : Int) ∧ (0 : Int) ≤ (16 : Int), c < (18446744073709551616 : Nat),
      (0 : Int) ≤ (16 : Int) ∧ (16 : Int) ≤ (↑c : Int), (0 : Int) ≤ (16 : Int) ∧ (16 : Int) ≤ (16 : Int),
      (0 : Int) ≤ (0 : Int) ∧ (0 : Int) ≤ (16 : Int),
      (16 : Nat) ≤ (16 : Nat) ∧ (16 : Nat) ≤ (9223372036854775807 : Nat), (16 : Nat) ≤ List.length xs,
      Fl (List.take (16 : Nat) xs), Byts (List.take (16 : Nat) xs), (16 : Nat) = (16 : Nat)]) := by kernel_rfl
theorem id_2 (xs : List Value) (c : Nat) : prjR 11 (runZ (idV id0) Try.prog 8 21 [.slice (some ⟨0, 0, none⟩) 32 c] [(0, ⟨.old, xs⟩)] 1 []) =
Res.ok
  ((Value.tuple
        (Array.mk
          [Value.slice (some (Addr.mk (11 : Nat) (0 : Nat) none)) (2 : Nat) (capBig + (11 : Nat)),
            Value.int IntKind.i64 (0 : Int)]),
      Rw.mk (Kd.room (2 : Nat) [Value.int IntKind.u64 (0 : Int), Value.int IntKind.u64 (0 : Int)])
        [Value.int IntKind.u64 (r8 (List.drop (8 : Nat) (List.take (16 : Nat) xs))),
          Value.int IntKind.u64 (r8 (List.take (16 : Nat) xs)),
          Value.int IntKind.u64 (r8 (List.drop (8 : Nat) (List.take (16 : Nat) (List.drop (16 : Nat) xs)))),
          Value.int IntKind.u64 (r8 (List.take (16 : Nat) (List.drop (16 : Nat) xs)))]),
    [],
    [c < (18446744073709551616 : Nat), (0 : Int) ≤ (0 : Int) ∧ (0 : Int) ≤ (32 : Int), c < (18446744073709551616 : Nat),
      (0 : Int) ≤ (16 : Int) ∧ (16 : Int) ≤ (↑c : Int), (0 : Int) ≤ (16 : Int) ∧ (16 : Int) ≤ (16 : Int),
      (0 : Int) ≤ (0 : Int) ∧ (0 : Int) ≤ (16 : Int),
      (16 : Nat) ≤ (16 : Nat) ∧ (16 : Nat) ≤ (9223372036854775807 : Nat), (16 : Nat) ≤ List.length xs,
      Fl (List.take (16 : Nat) xs), Byts (List.take (16 : Nat) xs), (16 : Nat) = (16 : Nat),
      c < (18446744073709551616 : Nat), (0 : Int) ≤ (16 : Int) ∧ (16 : Int) ≤ (32 : Int),
      c < (18446744073709551616 : Nat), (0 : Int) ≤ (32 : Int) ∧ (32 : Int) ≤ (↑c : Int),
      (0 : Int) ≤ (32 : Int) ∧ (32 : Int) ≤ (32 : Int), (0 : Int) ≤ (16 : Int) ∧ (16 : Int) ≤ (32 : Int),
      (16 : Nat) ≤ (16 : Nat) ∧ (16 : Nat) ≤ (9223372036854775807 : Nat), (32 : Nat) ≤ List.length xs,
      Fl (List.take (16 : Nat) (List.drop (16 : Nat) xs)), Byts (List.take (16 : Nat) (List.drop (16 : Nat) xs)),
      (16 : Nat) = (16 : Nat)]) := by kernel_rfl
theorem id_3 (xs : List Value) (c : Nat) : prjR 14 (runZ (idV id0) Try.prog 8 21 [.slice (some ⟨0, 0, none⟩) 48 c] [(0, ⟨.old, xs⟩)] 1 []) =
Res.ok
  ((Value.tuple
        (Array.mk
          [Value.slice (some (Addr.mk (14 : Nat) (0 : Nat) none)) (3 : Nat) (capBig + (14 : Nat)),
            Value.int IntKind.i64 (0 : Int)]),
      Rw.mk (Kd.room (2 : Nat) [Value.int IntKind.u64 (0 : Int), Value.int IntKind.u64 (0 : Int)])
        [Value.int IntKind.u64 (r8 (List.drop (8 : Nat) (List.take (16 : Nat) xs))),
          Value.int IntKind.u64 (r8 (List.take (16 : Nat) xs)),
          Value.int IntKind.u64 (r8 (List.drop (8 : Nat) (List.take (16 : Nat) (List.drop (16 : Nat) xs)))),
          Value.int IntKind.u64 (r8 (List.take (16 : Nat) (List.drop (16 : Nat) xs))),
          Value.int IntKind.u64 (r8 (List.drop (8 : Nat) (List.take (16 : Nat) (List.drop (32 : Nat) xs)))),
          Value.int IntKind.u64 (r8 (List.take (16 : Nat) (List.drop (32 : Nat) xs)))]),
    [],
    [c < (18446744073709551616 : Nat), (0 : Int) ≤ (0 : Int) ∧ (0 : Int) ≤ (48 : Int), c < (18446744073709551616 : Nat),
      (0 : Int) ≤ (16 : Int) ∧ (16 : Int) ≤ (↑c : Int), (0 : Int) ≤ (16 : Int) ∧ (16 : Int) ≤ (16 : Int),
      (0 : Int) ≤ (0 : Int) ∧ (0 : Int) ≤ (16 : Int),
      (16 : Nat) ≤ (16 : Nat) ∧ (16 : Nat) ≤ (9223372036854775807 : Nat), (16 : Nat) ≤ List.length xs,
      Fl (List.take (16 : Nat) xs), Byts (List.take (16 : Nat) xs), (16 : Nat) = (16 : Nat),
      c < (18446744073709551616 : Nat), (0 : Int) ≤ (16 : Int) ∧ (16 : Int) ≤ (48 : Int),
      c < (18446744073709551616 : Nat), (0 : Int) ≤ (32 : Int) ∧ (32 : Int) ≤ (↑c : Int),
      (0 : Int) ≤ (32 : Int) ∧ (32 : Int) ≤ (32 : Int), (0 : Int) ≤ (16 : Int) ∧ (16 : Int) ≤ (32 : Int),
      (16 : Nat) ≤ (16 : Nat) ∧ (16 : Nat) ≤ (9223372036854775807 : Nat), (32 : Nat) ≤ List.length xs,
      Fl (List.take (16 : Nat) (List.drop (16 : Nat) xs)), Byts (List.take (16 : Nat) (List.drop (16 : Nat) xs)),
      (16 : Nat) = (16 : Nat), c < (18446744073709551616 : Nat), (0 : Int) ≤ (32 : Int) ∧ (32 : Int) ≤ (48 : Int),
      c < (18446744073709551616 : Nat), (0 : Int) ≤ (48 : Int) ∧ (48 : Int) ≤ (↑c : Int),
      (0 : Int) ≤ (48 : Int) ∧ (48 : Int) ≤ (48 : Int), (0 : Int) ≤ (32 : Int) ∧ (32 : Int) ≤ (48 : Int),
      (16 : Nat) ≤ (16 : Nat) ∧ (16 : Nat) ≤ (9223372036854775807 : Nat), (48 : Nat) ≤ List.length xs,
      Fl (List.take (16 : Nat) (List.drop (32 : Nat) xs)), Byts (List.take (16 : Nat) (List.drop (32 : Nat) xs)),
      (16 : Nat) = (16 : Nat)]) := by kernel_rfl
theorem id_4 (xs : List Value) (c : Nat) : prjR 17 (runZ (idV id0) Try.prog 8 21 [.slice (some ⟨0, 0, none⟩) 64 c] [(0, ⟨.old, xs⟩)] 1 []) =
Res.ok
  ((Value.tuple
        (Array.mk
          [Value.slice (some (Addr.mk (17 : Nat) (0 : Nat) none)) (4 : Nat) (capBig + (17 : Nat)),
            Value.int IntKind.i64 (0 : Int)]),
      Rw.mk (Kd.room (2 : Nat) [Value.int IntKind.u64 (0 : Int), Value.int IntKind.u64 (0 : Int)])
        [Value.int IntKind.u64 (r8 (List.drop (8 : Nat) (List.take (16 : Nat) xs))),
          Value.int IntKind.u64 (r8 (List.take (16 : Nat) xs)),
          Value.int IntKind.u64 (r8 (List.drop (8 : Nat) (List.take (16 : Nat) (List.drop (16 : Nat) xs)))),
          Value.int IntKind.u64 (r8 (List.take (16 : Nat) (List.drop (16 : Nat) xs))),
          Value.int IntKind.u64 (r8 (List.drop (8 : Nat) (List.take (16 : Nat) (List.drop (32 : Nat) xs)))),
          Value.int IntKind.u64 (r8 (List.take (16 : Nat) (List.drop (32 : Nat) xs))),
          Value.int IntKind.u64 (r8 (List.drop (8 : Nat) (List.take (16 : Nat) (List.drop (48 : Nat) xs)))),
          Value.int IntKind.u64 (r8 (List.take (16 : Nat) (List.drop (48 : Nat) xs)))]),
    [],
    [c < (18446744073709551616 : Nat), (0 : Int) ≤ (0 : Int) ∧ (0 : Int) ≤ (64 : Int), c < (18446744073709551616 : Nat),
      (0 : Int) ≤ (16 : Int) ∧ (16 : Int) ≤ (↑c : Int), (0 : Int) ≤ (16 : Int) ∧ (16 : Int) ≤ (16 : Int),
      (0 : Int) ≤ (0 : Int) ∧ (0 : Int) ≤ (16 : Int),
      (16 : Nat) ≤ (16 : Nat) ∧ (16 : Nat) ≤ (9223372036854775807 : Nat), (16 : Nat) ≤ List.length xs,
      Fl (List.take (16 : Nat) xs), Byts (List.take (16 : Nat) xs), (16 : Nat) = (16 : Nat),
      c < (18446744073709551616 : Nat), (0 : Int) ≤ (16 : Int) ∧ (16 : Int) ≤ (64 : Int),
      c < (18446744073709551616 : Nat), (0 : Int) ≤ (32 : Int) ∧ (32 : Int) ≤ (↑c : Int),
      (0 : Int) ≤ (32 : Int) ∧ (32 : Int) ≤ (32 : Int), (0 : Int) ≤ (16 : Int) ∧ (16 : Int) ≤ (32 : Int),
      (16 : Nat) ≤ (16 : Nat) ∧ (16 : Nat) ≤ (9223372036854775807 : Nat), (32 : Nat) ≤ List.length xs,
      Fl (List.take (16 : Nat) (List.drop (16 : Nat) xs)), Byts (List.take (16 : Nat) (List.drop (16 : Nat) xs)),
      (16 : Nat) = (16 : Nat), c < (18446744073709551616 : Nat), (0 : Int) ≤ (32 : Int) ∧ (32 : Int) ≤ (64 : Int),
      c < (18446744073709551616 : Nat), (0 : Int) ≤ (48 : Int) ∧ (48 : Int) ≤ (↑c : Int),
      (0 : Int) ≤ (48 : Int) ∧ (48 : Int) ≤ (48 : Int), (0 : Int) ≤ (32 : Int) ∧ (32 : Int) ≤ (48 : Int),
      (16 : Nat) ≤ (16 : Nat) ∧ (16 : Nat) ≤ (9223372036854775807 : Nat), (48 : Nat) ≤ List.length xs,
      Fl (List.take (16 : Nat) (List.drop (32 : Nat) xs)), Byts (List.take (16 : Nat) (List.drop (32 : Nat) xs)),
      (16 : Nat) = (16 : Nat), c < (18446744073709551616 : Nat), (0 : Int) ≤ (48 : Int) ∧ (48 : Int) ≤ (64 : Int),
      c < (18446744073709551616 : Nat), (0 : Int) ≤ (64 : Int) ∧ (64 : Int) ≤ (↑c : Int),
      (0 : Int) ≤ (64 : Int) ∧ (64 : Int) ≤ (64 : Int), (0 : Int) ≤ (48 : Int) ∧ (48 : Int) ≤ (64 : Int),
      (16 : Nat) ≤ (16 : Nat) ∧ (16 : Nat) ≤ (9223372036854775807 : Nat), (64 : Nat) ≤ List.length xs,
      Fl (List.take (16 : Nat) (List.drop (48 : Nat) xs)), Byts (List.take (16 : Nat) (List.drop (48 : Nat) xs)),
      (16 : Nat) = (16 : Nat)]) := by kernel_rfl
theorem id_5 (xs : List Value) (c : Nat) : prjR 20 (runZ (idV id0) Try.prog 8 21 [.slice (some ⟨0, 0, none⟩) 80 c] [(0, ⟨.old, xs⟩)] 1 []) =
Res.ok
  ((Value.tuple
        (Array.mk
          [Value.slice (some (Addr.mk (20 : Nat) (0 : Nat) none)) (5 : Nat) (capBig + (20 : Nat)),
            Value.int IntKind.i64 (0 : Int)]),
      Rw.mk (Kd.room (2 : Nat) [Value.int IntKind.u64 (0 : Int), Value.int IntKind.u64 (0 : Int)])
        [Value.int IntKind.u64 (r8 (List.drop (8 : Nat) (List.take (16 : Nat) xs))),
          Value.int IntKind.u64 (r8 (List.take (16 : Nat) xs)),
          Value.int IntKind.u64 (r8 (List.drop (8 : Nat) (List.take (16 : Nat) (List.drop (16 : Nat) xs)))),
          Value.int IntKind.u64 (r8 (List.take (16 : Nat) (List.drop (16 : Nat) xs))),
          Value.int IntKind.u64 (r8 (List.drop (8 : Nat) (List.take (16 : Nat) (List.drop (32 : Nat) xs)))),
          Value.int IntKind.u64 (r8 (List.take (16 : Nat) (List.drop (32 : Nat) xs))),
          Value.int IntKind.u64 (r8 (List.drop (8 : Nat) (List.take (16 : Nat) (List.drop (48 : Nat) xs)))),
          Value.int IntKind.u64 (r8 (List.take (16 : Nat) (List.drop (48 : Nat) xs))),
          Value.int IntKind.u64 (r8 (List.drop (8 : Nat) (List.take (16 : Nat) (List.drop (64 : Nat) xs)))),
          Value.int IntKind.u64 (r8 (List.take (16 : Nat) (List.drop (64 : Nat) xs)))]),
    [],
    [c < (18446744073709551616 : Nat), (0 : Int) ≤ (0 : Int) ∧ (0 : Int) ≤ (80 : Int), c < (18446744073709551616 : Nat),
      (0 : Int) ≤ (16 : Int) ∧ (16 : Int) ≤ (↑c : Int), (0 : Int) ≤ (16 : Int) ∧ (16 : Int) ≤ (16 : Int),
      (0 : Int) ≤ (0 : Int) ∧ (0 : Int) ≤ (16 : Int),
      (16 : Nat) ≤ (16 : Nat) ∧ (16 : Nat) ≤ (9223372036854775807 : Nat), (16 : Nat) ≤ List.length xs,
      Fl (List.take (16 : Nat) xs), Byts (List.take (16 : Nat) xs), (16 : Nat) = (16 : Nat),
      c < (18446744073709551616 : Nat), (0 : Int) ≤ (16 : Int) ∧ (16 : Int) ≤ (80 : Int),
      c < (18446744073709551616 : Nat), (0 : Int) ≤ (32 : Int) ∧ (32 : Int) ≤ (↑c : Int),
      (0 : Int) ≤ (32 : Int) ∧ (32 : Int) ≤ (32 : Int), (0 : Int) ≤ (16 : Int) ∧ (16 : Int) ≤ (32 : Int),
      (16 : Nat) ≤ (16 : Nat) ∧ (16 : Nat) ≤ (9223372036854775807 : Nat), (32 : Nat) ≤ List.length xs,
      Fl (List.take (16 : Nat) (List.drop (16 : Nat) xs)), Byts (List.take (16 : Nat) (List.drop (16 : Nat) xs)),
      (16 : Nat) = (16 : Nat), c < (18446744073709551616 : Nat), (0 : Int) ≤ (32 : Int) ∧ (32 : Int) ≤ (80 : Int),
      c < (18446744073709551616 : Nat), (0 : Int) ≤ (48 : Int) ∧ (48 : Int) ≤ (↑c : Int),
      (0 : Int) ≤ (48 : Int) ∧ (48 : Int) ≤ (48 : Int), (0 : Int) ≤ (32 : Int) ∧ (32 : Int) ≤ (48 : Int),
      (16 : Nat) ≤ (16 : Nat) ∧ (16 : Nat) ≤ (9223372036854775807 : Nat), (48 : Nat) ≤ List.length xs,
      Fl (List.take (16 : Nat) (List.drop (32 : Nat) xs)), Byts (List.take (16 : Nat) (List.drop (32 : Nat) xs)),
      (16 : Nat) = (16 : Nat), c < (18446744073709551616 : Nat), (0 : Int) ≤ (48 : Int) ∧ (48 : Int) ≤ (80 : Int),
      c < (18446744073709551616 : Nat), (0 : Int) ≤ (64 : Int) ∧ (64 : Int) ≤ (↑c : Int),
      (0 : Int) ≤ (64 : Int) ∧ (64 : Int) ≤ (64 : Int), (0 : Int) ≤ (48 : Int) ∧ (48 : Int) ≤ (64 : Int),
      (16 : Nat) ≤ (16 : Nat) ∧ (16 : Nat) ≤ (9223372036854775807 : Nat), (64 : Nat) ≤ List.length xs,
      Fl (List.take (16 : Nat) (List.drop (48 : Nat) xs)), Byts (List.take (16 : Nat) (List.drop (48 : Nat) xs)),
      (16 : Nat) = (16 : Nat), c < (18446744073709551616 : Nat), (0 : Int) ≤ (64 : Int) ∧ (64 : Int) ≤ (80 : Int),
      c < (18446744073709551616 : Nat), (0 : Int) ≤ (80 : Int) ∧ (80 : Int) ≤ (↑c : Int),
      (0 : Int) ≤ (80 : Int) ∧ (80 : Int) ≤ (80 : Int), (0 : Int) ≤ (64 : Int) ∧ (64 : Int) ≤ (80 : Int),
      (16 : Nat) ≤ (16 : Nat) ∧ (16 : Nat) ≤ (9223372036854775807 : Nat), (80 : Nat) ≤ List.length xs,
      Fl (List.take (16 : Nat) (List.drop (64 : Nat) xs)), Byts (List.take (16 : Nat) (List.drop (64 : Nat) xs)),
      (16 : Nat) = (16 : Nat)]) := by kernel_rfl
theorem id_6 (xs : List Value) (c : Nat) : prjR 23 (runZ (idV id0) Try.prog 8 21 [.slice (some ⟨0, 0, none⟩) 96 c] [(0, ⟨.old, xs⟩)] 1 []) =
Res.ok
  ((Value.tuple
        (Array.mk
          [Value.slice (some (Addr.mk (23 : Nat) (0 : Nat) none)) (6 : Nat) (capBig + (23 : Nat)),
            Value.int IntKind.i64 (0 : Int)]),
      Rw.mk (Kd.room (2 : Nat) [Value.int IntKind.u64 (0 : Int), Value.int IntKind.u64 (0 : Int)])
        [Value.int IntKind.u64 (r8 (List.drop (8 : Nat) (List.take (16 : Nat) xs))),
          Value.int IntKind.u64 (r8 (List.take (16 : Nat) xs)),
          Value.int IntKind.u64 (r8 (List.drop (8 : Nat) (List.take (16 : Nat) (List.drop (16 : Nat) xs)))),
          Value.int IntKind.u64 (r8 (List.take (16 : Nat) (List.drop (16 : Nat) xs))),
          Value.int IntKind.u64 (r8 (List.drop (8 : Nat) (List.take (16 : Nat) (List.drop (32 : Nat) xs)))),
          Value.int IntKind.u64 (r8 (List.take (16 : Nat) (List.drop (32 : Nat) xs))),
          Value.int IntKind.u64 (r8 (List.drop (8 : Nat) (List.take (16 : Nat) (List.drop (48 : Nat) xs)))),
          Value.int IntKind.u64 (r8 (List.take (16 : Nat) (List.drop (48 : Nat) xs))),
          Value.int IntKind.u64 (r8 (List.drop (8 : Nat) (List.take (16 : Nat) (List.drop (64 : Nat) xs)))),
          Value.int IntKind.u64 (r8 (List.take (16 : Nat) (List.drop (64 : Nat) xs))),
          Value.int IntKind.u64 (r8 (List.drop (8 : Nat) (List.take (16 : Nat) (List.drop (80 : Nat) xs)))),
          Value.int IntKind.u64 (r8 (List.take (16 : Nat) (List.drop (80 : Nat) xs)))]),
    [],
    [c < (18446744073709551616 : Nat), (0 : Int) ≤ (0 : Int) ∧ (0 : Int) ≤ (96 : Int), c < (18446744073709551616 : Nat),
      (0 : Int) ≤ (16 : Int) ∧ (16 : Int) ≤ (↑c : Int), (0 : Int) ≤ (16 : Int) ∧ (16 : Int) ≤ (16 : Int),
      (0 : Int) ≤ (0 : Int) ∧ (0 : Int) ≤ (16 : Int),
      (16 : Nat) ≤ (16 : Nat) ∧ (16 : Nat) ≤ (9223372036854775807 : Nat), (16 : Nat) ≤ List.length xs,
      Fl (List.take (16 : Nat) xs), Byts (List.take (16 : Nat) xs), (16 : Nat) = (16 : Nat),
      c < (18446744073709551616 : Nat), (0 : Int) ≤ (16 : Int) ∧ (16 : Int) ≤ (96 : Int),
      c < (18446744073709551616 : Nat), (0 : Int) ≤ (32 : Int) ∧ (32 : Int) ≤ (↑c : Int),
      (0 : Int) ≤ (32 : Int) ∧ (32 : Int) ≤ (32 : Int), (0 : Int) ≤ (16 : Int) ∧ (16 : Int) ≤ (32 : Int),
      (16 : Nat) ≤ (16 : Nat) ∧ (16 : Nat) ≤ (9223372036854775807 : Nat), (32 : Nat) ≤ List.length xs,
      Fl (List.take (16 : Nat) (List.drop (16 : Nat) xs)), Byts (List.take (16 : Nat) (List.drop (16 : Nat) xs)),
      (16 : Nat) = (16 : Nat), c < (18446744073709551616 : Nat), (0 : Int) ≤ (32 : Int) ∧ (32 : Int) ≤ (96 : Int),
      c < (18446744073709551616 : Nat), (0 : Int) ≤ (48 : Int) ∧ (48 : Int) ≤ (↑c : Int),
      (0 : Int) ≤ (48 : Int) ∧ (48 : Int) ≤ (48 : Int), (0 : Int) ≤ (32 : Int) ∧ (32 : Int) ≤ (48 : Int),
      (16 : Nat) ≤ (16 : Nat) ∧ (16 : Nat) ≤ (9223372036854775807 : Nat), (48 : Nat) ≤ List.length xs,
      Fl (List.take (16 : Nat) (List.drop (32 : Nat) xs)), Byts (List.take (16 : Nat) (List.drop (32 : Nat) xs)),
      (16 : Nat) = (16 : Nat), c < (18446744073709551616 : Nat), (0 : Int) ≤ (48 : Int) ∧ (48 : Int) ≤ (96 : Int),
      c < (18446744073709551616 : Nat), (0 : Int) ≤ (64 : Int) ∧ (64 : Int) ≤ (↑c : Int),
      (0 : Int) ≤ (64 : Int) ∧ (64 : Int) ≤ (64 : Int), (0 : Int) ≤ (48 : Int) ∧ (48 : Int) ≤ (64 : Int),
      (16 : Nat) ≤ (16 : Nat) ∧ (16 : Nat) ≤ (9223372036854775807 : Nat), (64 : Nat) ≤ List.length xs,
      Fl (List.take (16 : Nat) (List.drop (48 : Nat) xs)), Byts (List.take (16 : Nat) (List.drop (48 : Nat) xs)),
      (16 : Nat) = (16 : Nat), c < (18446744073709551616 : Nat), (0 : Int) ≤ (64 : Int) ∧ (64 : Int) ≤ (96 : Int),
      c < (18446744073709551616 : Nat), (0 : Int) ≤ (80 : Int) ∧ (80 : Int) ≤ (↑c : Int),
      (0 : Int) ≤ (80 : Int) ∧ (80 : Int) ≤ (80 : Int), (0 : Int) ≤ (64 : Int) ∧ (64 : Int) ≤ (80 : Int),
      (16 : Nat) ≤ (16 : Nat) ∧ (16 : Nat) ≤ (9223372036854775807 : Nat), (80 : Nat) ≤ List.length xs,
      Fl (List.take (16 : Nat) (List.drop (64 : Nat) xs)), Byts (List.take (16 : Nat) (List.drop (64 : Nat) xs)),
      (16 : Nat) = (16 : Nat), c < (18446744073709551616 : Nat), (0 : Int) ≤ (80 : Int) ∧ (80 : Int) ≤ (96 : Int),
      c < (18446744073709551616 : Nat), (0 : Int) ≤ (96 : Int) ∧ (96 : Int) ≤ (↑c : Int),
      (0 : Int) ≤ (96 : Int) ∧ (96 : Int) ≤ (96 : Int), (0 : Int) ≤ (80 : Int) ∧ (80 : Int) ≤ (96 : Int),
      (16 : Nat) ≤ (16 : Nat) ∧ (16 : Nat) ≤ (9223372036854775807 : Nat), (96 : Nat) ≤ List.length xs,
      Fl (List.take (16 : Nat) (List.drop (80 : Nat) xs)), Byts (List.take (16 : Nat) (List.drop (80 : Nat) xs)),
      (16 : Nat) = (16 : Nat)]) := by kernel_rfl
theorem id_7 (xs : List Value) (c : Nat) : prjR 26 (runZ (idV id0) Try.prog 8 21 [.slice (some ⟨0, 0, none⟩) 112 c] [(0, ⟨.old, xs⟩)] 1 []) =
Res.ok
  ((Value.tuple
        (Array.mk
          [Value.slice (some (Addr.mk (26 : Nat) (0 : Nat) none)) (7 : Nat) (capBig + (26 : Nat)),
            Value.int IntKind.i64 (0 : Int)]),
      Rw.mk (Kd.room (2 : Nat) [Value.int IntKind.u64 (0 : Int), Value.int IntKind.u64 (0 : Int)])
        [Value.int IntKind.u64 (r8 (List.drop (8 : Nat) (List.take (16 : Nat) xs))),
          Value.int IntKind.u64 (r8 (List.take (16 : Nat) xs)),
          Value.int IntKind.u64 (r8 (List.drop (8 : Nat) (List.take (16 : Nat) (List.drop (16 : Nat) xs)))),
          Value.int IntKind.u64 (r8 (List.take (16 : Nat) (List.drop (16 : Nat) xs))),
          Value.int IntKind.u64 (r8 (List.drop (8 : Nat) (List.take (16 : Nat) (List.drop (32 : Nat) xs)))),
          Value.int IntKind.u64 (r8 (List.take (16 : Nat) (List.drop (32 : Nat) xs))),
          Value.int IntKind.u64 (r8 (List.drop (8 : Nat) (List.take (16 : Nat) (List.drop (48 : Nat) xs)))),
          Value.int IntKind.u64 (r8 (List.take (16 : Nat) (List.drop (48 : Nat) xs))),
          Value.int IntKind.u64 (r8 (List.drop (8 : Nat) (List.take (16 : Nat) (List.drop (64 : Nat) xs)))),
          Value.int IntKind.u64 (r8 (List.take (16 : Nat) (List.drop (64 : Nat) xs))),
          Value.int IntKind.u64 (r8 (List.drop (8 : Nat) (List.take (16 : Nat) (List.drop (80 : Nat) xs)))),
          Value.int IntKind.u64 (r8 (List.take (16 : Nat) (List.drop (80 : Nat) xs))),
          Value.int IntKind.u64 (r8 (List.drop (8 : Nat) (List.take (16 : Nat) (List.drop (96 : Nat) xs)))),
          Value.int IntKind.u64 (r8 (List.take (16 : Nat) (List.drop (96 : Nat) xs)))]),
    [],
    [c < (18446744073709551616 : Nat), (0 : Int) ≤ (0 : Int) ∧ (0 : Int) ≤ (112 : Int),
      c < (18446744073709551616 : Nat), (0 : Int) ≤ (16 : Int) ∧ (16 : Int) ≤ (↑c : Int),
      (0 : Int) ≤ (16 : Int) ∧ (16 : Int) ≤ (16 : Int), (0 : Int) ≤ (0 : Int) ∧ (0 : Int) ≤ (16 : Int),
      (16 : Nat) ≤ (16 : Nat) ∧ (16 : Nat) ≤ (9223372036854775807 : Nat), (16 : Nat) ≤ List.length xs,
      Fl (List.take (16 : Nat) xs), Byts (List.take (16 : Nat) xs), (16 : Nat) = (16 : Nat),
      c < (18446744073709551616 : Nat), (0 : Int) ≤ (16 : Int) ∧ (16 : Int) ≤ (112 : Int),
      c < (18446744073709551616 : Nat), (0 : Int) ≤ (32 : Int) ∧ (32 : Int) ≤ (↑c : Int),
      (0 : Int) ≤ (32 : Int) ∧ (32 : Int) ≤ (32 : Int), (0 : Int) ≤ (16 : Int) ∧ (16 : Int) ≤ (32 : Int),
      (16 : Nat) ≤ (16 : Nat) ∧ (16 : Nat) ≤ (9223372036854775807 : Nat), (32 : Nat) ≤ List.length xs,
      Fl (List.take (16 : Nat) (List.drop (16 : Nat) xs)), Byts (List.take (16 : Nat) (List.drop (16 : Nat) xs)),
      (16 : Nat) = (16 : Nat), c < (18446744073709551616 : Nat), (0 : Int) ≤ (32 : Int) ∧ (32 : Int) ≤ (112 : Int),
      c < (18446744073709551616 : Nat), (0 : Int) ≤ (48 : Int) ∧ (48 : Int) ≤ (↑c : Int),
      (0 : Int) ≤ (48 : Int) ∧ (48 : Int) ≤ (48 : Int), (0 : Int) ≤ (32 : Int) ∧ (32 : Int) ≤ (48 : Int),
      (16 : Nat) ≤ (16 : Nat) ∧ (16 : Nat) ≤ (9223372036854775807 : Nat), (48 : Nat) ≤ List.length xs,
      Fl (List.take (16 : Nat) (List.drop (32 : Nat) xs)), Byts (List.take (16 : Nat) (List.drop (32 : Nat) xs)),
      (16 : Nat) = (16 : Nat), c < (18446744073709551616 : Nat), (0 : Int) ≤ (48 : Int) ∧ (48 : Int) ≤ (112 : Int),
      c < (18446744073709551616 : Nat), (0 : Int) ≤ (64 : Int) ∧ (64 : Int) ≤ (↑c : Int),
      (0 : Int) ≤ (64 : Int) ∧ (64 : Int) ≤ (64 : Int), (0 : Int) ≤ (48 : Int) ∧ (48 : Int) ≤ (64 : Int),
      (16 : Nat) ≤ (16 : Nat) ∧ (16 : Nat) ≤ (9223372036854775807 : Nat), (64 : Nat) ≤ List.length xs,
      Fl (List.take (16 : Nat) (List.drop (48 : Nat) xs)), Byts (List.take (16 : Nat) (List.drop (48 : Nat) xs)),
      (16 : Nat) = (16 : Nat), c < (18446744073709551616 : Nat), (0 : Int) ≤ (64 : Int) ∧ (64 : Int) ≤ (112 : Int),
      c < (18446744073709551616 : Nat), (0 : Int) ≤ (80 : Int) ∧ (80 : Int) ≤ (↑c : Int),
      (0 : Int) ≤ (80 : Int) ∧ (80 : Int) ≤ (80 : Int), (0 : Int) ≤ (64 : Int) ∧ (64 : Int) ≤ (80 : Int),
      (16 : Nat) ≤ (16 : Nat) ∧ (16 : Nat) ≤ (9223372036854775807 : Nat), (80 : Nat) ≤ List.length xs,
      Fl (List.take (16 : Nat) (List.drop (64 : Nat) xs)), Byts (List.take (16 : Nat) (List.drop (64 : Nat) xs)),
      (16 : Nat) = (16 : Nat), c < (18446744073709551616 : Nat), (0 : Int) ≤ (80 : Int) ∧ (80 : Int) ≤ (112 : Int),
      c < (18446744073709551616 : Nat), (0 : Int) ≤ (96 : Int) ∧ (96 : Int) ≤ (↑c : Int),
      (0 : Int) ≤ (96 : Int) ∧ (96 : Int) ≤ (96 : Int), (0 : Int) ≤ (80 : Int) ∧ (80 : Int) ≤ (96 : Int),
      (16 : Nat) ≤ (16 : Nat) ∧ (16 : Nat) ≤ (9223372036854775807 : Nat), (96 : Nat) ≤ List.length xs,
      Fl (List.take (16 : Nat) (List.drop (80 : Nat) xs)), Byts (List.take (16 : Nat) (List.drop (80 : Nat) xs)),
      (16 : Nat) = (16 : Nat), c < (18446744073709551616 : Nat), (0 : Int) ≤ (96 : Int) ∧ (96 : Int) ≤ (112 : Int),
      c < (18446744073709551616 : Nat), (0 : Int) ≤ (112 : Int) ∧ (112 : Int) ≤ (↑c : Int),
      (0 : Int) ≤ (112 : Int) ∧ (112 : Int) ≤ (112 : Int), (0 : Int) ≤ (96 : Int) ∧ (96 : Int) ≤ (112 : Int),
      (16 : Nat) ≤ (16 : Nat) ∧ (16 : Nat) ≤ (9223372036854775807 : Nat), (112 : Nat) ≤ List.length xs,
      Fl (List.take (16 : Nat) (List.drop (96 : Nat) xs)), Byts (List.take (16 : Nat) (List.drop (96 : Nat) xs)),
      (16 : Nat) = (16 : Nat)]) := by kernel_rfl
theorem id_8 (xs : List Value) (c : Nat) : prjR 29 (runZ (idV id0) Try.prog 8 21 [.slice (some ⟨0, 0, none⟩) 128 c] [(0, ⟨.old, xs⟩)] 1 []) =
Res.ok
  ((Value.tuple
        (Array.mk
          [Value.slice (some (Addr.mk (29 : Nat) (0 : Nat) none)) (8 : Nat) (capBig + (29 : Nat)),
            Value.int IntKind.i64 (0 : Int)]),
      Rw.mk (Kd.room (2 : Nat) [Value.int IntKind.u64 (0 : Int), Value.int IntKind.u64 (0 : Int)])
        [Value.int IntKind.u64 (r8 (List.drop (8 : Nat) (List.take (16 : Nat) xs))),
          Value.int IntKind.u64 (r8 (List.take (16 : Nat) xs)),
          Value.int IntKind.u64 (r8 (List.drop (8 : Nat) (List.take (16 : Nat) (List.drop (16 : Nat) xs)))),
          Value.int IntKind.u64 (r8 (List.take (16 : Nat) (List.drop (16 : Nat) xs))),
          Value.int IntKind.u64 (r8 (List.drop (8 : Nat) (List.take (16 : Nat) (List.drop (32 : Nat) xs)))),
          Value.int IntKind.u64 (r8 (List.take (16 : Nat) (List.drop (32 : Nat) xs))),
          Value.int IntKind.u64 (r8 (List.drop (8 : Nat) (List.take (16 : Nat) (List.drop (48 : Nat) xs)))),
          Value.int IntKind.u64 (r8 (List.take (16 : Nat) (List.drop (48 : Nat) xs))),
          Value.int IntKind.u64 (r8 (List.drop (8 : Nat) (List.take (16 : Nat) (List.drop (64 : Nat) xs)))),
          Value.int IntKind.u64 (r8 (List.take (16 : Nat) (List.drop (64 : Nat) xs))),
          Value.int IntKind.u64 (r8 (List.drop (8 : Nat) (List.take (16 : Nat) (List.drop (80 : Nat) xs)))),
          Value.int IntKind.u64 (r8 (List.take (16 : Nat) (List.drop (80 : Nat) xs))),
          Value.int IntKind.u64 (r8 (List.drop (8 : Nat) (List.take (16 : Nat) (List.drop (96 : Nat) xs)))),
          Value.int IntKind.u64 (r8 (List.take (16 : Nat) (List.drop (96 : Nat) xs))),
          Value.int IntKind.u64 (r8 (List.drop (8 : Nat) (List.take (16 : Nat) (List.drop (112 : Nat) xs)))),
          Value.int IntKind.u64 (r8 (List.take (16 : Nat) (List.drop (112 : Nat) xs)))]),
    [],
    [c < (18446744073709551616 : Nat), (0 : Int) ≤ (0 : Int) ∧ (0 : Int) ≤ (128 : Int),
      c < (18446744073709551616 : Nat), (0 : Int) ≤ (16 : Int) ∧ (16 : Int) ≤ (↑c : Int),
      (0 : Int) ≤ (16 : Int) ∧ (16 : Int) ≤ (16 : Int), (0 : Int) ≤ (0 : Int) ∧ (0 : Int) ≤ (16 : Int),
      (16 : Nat) ≤ (16 : Nat) ∧ (16 : Nat) ≤ (9223372036854775807 : Nat), (16 : Nat) ≤ List.length xs,
      Fl (List.take (16 : Nat) xs), Byts (List.take (16 : Nat) xs), (16 : Nat) = (16 : Nat),
      c < (18446744073709551616 : Nat), (0 : Int) ≤ (16 : Int) ∧ (16 : Int) ≤ (128 : Int),
      c < (18446744073709551616 : Nat), (0 : Int) ≤ (32 : Int) ∧ (32 : Int) ≤ (↑c : Int),
      (0 : Int) ≤ (32 : Int) ∧ (32 : Int) ≤ (32 : Int), (0 : Int) ≤ (16 : Int) ∧ (16 : Int) ≤ (32 : Int),
      (16 : Nat) ≤ (16 : Nat) ∧ (16 : Nat) ≤ (9223372036854775807 : Nat), (32 : Nat) ≤ List.length xs,
      Fl (List.take (16 : Nat) (List.drop (16 : Nat) xs)), Byts (List.take (16 : Nat) (List.drop (16 : Nat) xs)),
      (16 : Nat) = (16 : Nat), c < (18446744073709551616 : Nat), (0 : Int) ≤ (32 : Int) ∧ (32 : Int) ≤ (128 : Int),
      c < (18446744073709551616 : Nat), (0 : Int) ≤ (48 : Int) ∧ (48 : Int) ≤ (↑c : Int),
      (0 : Int) ≤ (48 : Int) ∧ (48 : Int) ≤ (48 : Int), (0 : Int) ≤ (32 : Int) ∧ (32 : Int) ≤ (48 : Int),
      (16 : Nat) ≤ (16 : Nat) ∧ (16 : Nat) ≤ (9223372036854775807 : Nat), (48 : Nat) ≤ List.length xs,
      Fl (List.take (16 : Nat) (List.drop (32 : Nat) xs)), Byts (List.take (16 : Nat) (List.drop (32 : Nat) xs)),
      (16 : Nat) = (16 : Nat), c < (18446744073709551616 : Nat), (0 : Int) ≤ (48 : Int) ∧ (48 : Int) ≤ (128 : Int),
      c < (18446744073709551616 : Nat), (0 : Int) ≤ (64 : Int) ∧ (64 : Int) ≤ (↑c : Int),
      (0 : Int) ≤ (64 : Int) ∧ (64 : Int) ≤ (64 : Int), (0 : Int) ≤ (48 : Int) ∧ (48 : Int) ≤ (64 : Int),
      (16 : Nat) ≤ (16 : Nat) ∧ (16 : Nat) ≤ (9223372036854775807 : Nat), (64 : Nat) ≤ List.length xs,
      Fl (List.take (16 : Nat) (List.drop (48 : Nat) xs)), Byts (List.take (16 : Nat) (List.drop (48 : Nat) xs)),
      (16 : Nat) = (16 : Nat), c < (18446744073709551616 : Nat), (0 : Int) ≤ (64 : Int) ∧ (64 : Int) ≤ (128 : Int),
      c < (18446744073709551616 : Nat), (0 : Int) ≤ (80 : Int) ∧ (80 : Int) ≤ (↑c : Int),
      (0 : Int) ≤ (80 : Int) ∧ (80 : Int) ≤ (80 : Int), (0 : Int) ≤ (64 : Int) ∧ (64 : Int) ≤ (80 : Int),
      (16 : Nat) ≤ (16 : Nat) ∧ (16 : Nat) ≤ (9223372036854775807 : Nat), (80 : Nat) ≤ List.length xs,
      Fl (List.take (16 : Nat) (List.drop (64 : Nat) xs)), Byts (List.take (16 : Nat) (List.drop (64 : Nat) xs)),
      (16 : Nat) = (16 : Nat), c < (18446744073709551616 : Nat), (0 : Int) ≤ (80 : Int) ∧ (80 : Int) ≤ (128 : Int),
      c < (18446744073709551616 : Nat), (0 : Int) ≤ (96 : Int) ∧ (96 : Int) ≤ (↑c : Int),
      (0 : Int) ≤ (96 : Int) ∧ (96 : Int) ≤ (96 : Int), (0 : Int) ≤ (80 : Int) ∧ (80 : Int) ≤ (96 : Int),
      (16 : Nat) ≤ (16 : Nat) ∧ (16 : Nat) ≤ (9223372036854775807 : Nat), (96 : Nat) ≤ List.length xs,
      Fl (List.take (16 : Nat) (List.drop (80 : Nat) xs)), Byts (List.take (16 : Nat) (List.drop (80 : Nat) xs)),
      (16 : Nat) = (16 : Nat), c < (18446744073709551616 : Nat), (0 : Int) ≤ (96 : Int) ∧ (96 : Int) ≤ (128 : Int),
      c < (18446744073709551616 : Nat), (0 : Int) ≤ (112 : Int) ∧ (112 : Int) ≤ (↑c : Int),
      (0 : Int) ≤ (112 : Int) ∧ (112 : Int) ≤ (112 : Int), (0 : Int) ≤ (96 : Int) ∧ (96 : Int) ≤ (112 : Int),
      (16 : Nat) ≤ (16 : Nat) ∧ (16 : Nat) ≤ (9223372036854775807 : Nat), (112 : Nat) ≤ List.length xs,
      Fl (List.take (16 : Nat) (List.drop (96 : Nat) xs)), Byts (List.take (16 : Nat) (List.drop (96 : Nat) xs)),
      (16 : Nat) = (16 : Nat), c < (18446744073709551616 : Nat), (0 : Int) ≤ (112 : Int) ∧ (112 : Int) ≤ (128 : Int),
      c < (18446744073709551616 : Nat), (0 : Int) ≤ (128 : Int) ∧ (128 : Int) ≤ (↑c : Int),
      (0 : Int) ≤ (128 : Int) ∧ (128 : Int) ≤ (128 : Int), (0 : Int) ≤ (112 : Int) ∧ (112 : Int) ≤ (128 : Int),
      (16 : Nat) ≤ (16 : Nat) ∧ (16 : Nat) ≤ (9223372036854775807 : Nat), (128 : Nat) ≤ List.length xs,
      Fl (List.take (16 : Nat) (List.drop (112 : Nat) xs)), Byts (List.take (16 : Nat) (List.drop (112 : Nat) xs)),
      (16 : Nat) = (16 : Nat)]) := by kernel_rfl
theorem ir_1 (xs : List Value) (c : Nat) : prjR 3 (runZ (idV id0) Try.prog 8 22 [.slice (some ⟨0, 0, none⟩) 16 c] [(0, ⟨.old, xs⟩)] 1 []) =
Res.ok
  ((Value.tuple
        (Array.mk
          [Value.slice (some (Addr.mk (3 : Nat) (0 : Nat) none)) (1 : Nat) (capBig + (3 : Nat)),
            Value.int IntKind.i64 (0 : Int)]),
      Rw.mk (Kd.room (2 : Nat) [Value.int IntKind.u64 (0 : Int), Value.int IntKind.u64 (0 : Int)])
        [Value.int IntKind.u64
            (r8
              (List.drop (8 : Nat)
                (tkD (loO (some (Value.int IntKind.i64 (0 : Int))) (0 : Nat) (0 : Nat) c (1 : Nat)) (16 : Nat) xs))),
          Value.int IntKind.u64
            (r8 (tkD (loO (some (Value.int IntKind.i64 (0 : Int))) (0 : Nat) (0 : Nat) c (1 : Nat)) (16 : Nat) xs))]),
    [],
    [c < (18446744073709551616 : Nat), (0 : Int) ≤ (16 : Int) ∧ (16 : Int) ≤ (↑c : Int),
      (0 : Int) ≤ (0 : Int) ∧ (0 : Int) ≤ (16 : Int), (16 : Nat) ≤ c ∧ c ≤ (9223372036854775807 : Nat),
      adN (loO (some (Value.int IntKind.i64 (0 : Int))) (0 : Nat) (0 : Nat) c (1 : Nat)) (16 : Nat) ≤ List.length xs,
      Fl (tkD (loO (some (Value.int IntKind.i64 (0 : Int))) (0 : Nat) (0 : Nat) c (1 : Nat)) (16 : Nat) xs),
      Byts (tkD (loO (some (Value.int IntKind.i64 (0 : Int))) (0 : Nat) (0 : Nat) c (1 : Nat)) (16 : Nat) xs),
      (16 : Nat) = (16 : Nat)]) := by kernel_rfl
theorem ir_2 (xs : List Value) (c : Nat) : prjR 6 (runZ (idV id0) Try.prog 8 22 [.slice (some ⟨0, 0, none⟩) 32 c] [(0, ⟨.old, xs⟩)] 1 []) =
Res.ok
  ((Value.tuple
        (Array.mk
          [Value.slice (some (Addr.mk (6 : Nat) (0 : Nat) none)) (2 : Nat) (capBig + (6 : Nat)),
            Value.int IntKind.i64 (0 : Int)]),
      Rw.mk (Kd.room (2 : Nat) [Value.int IntKind.u64 (0 : Int), Value.int IntKind.u64 (0 : Int)])
        [Value.int IntKind.u64
            (r8
              (List.drop (8 : Nat)
                (tkD (loO (some (Value.int IntKind.i64 (0 : Int))) (0 : Nat) (0 : Nat) c (1 : Nat)) (16 : Nat) xs))),
          Value.int IntKind.u64
            (r8 (tkD (loO (some (Value.int IntKind.i64 (0 : Int))) (0 : Nat) (0 : Nat) c (1 : Nat)) (16 : Nat) xs)),
          Value.int IntKind.u64
            (r8
              (List.drop (8 : Nat)
                (tkD (loO (some (Value.int IntKind.i64 (16 : Int))) (0 : Nat) (16 : Nat) c (1 : Nat)) (16 : Nat) xs))),
          Value.int IntKind.u64
            (r8 (tkD (loO (some (Value.int IntKind.i64 (16 : Int))) (0 : Nat) (16 : Nat) c (1 : Nat)) (16 : Nat) xs))]),
    [],
    [c < (18446744073709551616 : Nat), (0 : Int) ≤ (16 : Int) ∧ (16 : Int) ≤ (↑c : Int),
      (0 : Int) ≤ (0 : Int) ∧ (0 : Int) ≤ (16 : Int), (16 : Nat) ≤ c ∧ c ≤ (9223372036854775807 : Nat),
      adN (loO (some (Value.int IntKind.i64 (0 : Int))) (0 : Nat) (0 : Nat) c (1 : Nat)) (16 : Nat) ≤ List.length xs,
      Fl (tkD (loO (some (Value.int IntKind.i64 (0 : Int))) (0 : Nat) (0 : Nat) c (1 : Nat)) (16 : Nat) xs),
      Byts (tkD (loO (some (Value.int IntKind.i64 (0 : Int))) (0 : Nat) (0 : Nat) c (1 : Nat)) (16 : Nat) xs),
      (16 : Nat) = (16 : Nat), c < (18446744073709551616 : Nat), (0 : Int) ≤ (32 : Int) ∧ (32 : Int) ≤ (↑c : Int),
      (0 : Int) ≤ (16 : Int) ∧ (16 : Int) ≤ (32 : Int),
      (16 : Nat) ≤ c - (16 : Nat) ∧ c - (16 : Nat) ≤ (9223372036854775807 : Nat),
      adN (loO (some (Value.int IntKind.i64 (16 : Int))) (0 : Nat) (16 : Nat) c (1 : Nat)) (16 : Nat) ≤ List.length xs,
      Fl (tkD (loO (some (Value.int IntKind.i64 (16 : Int))) (0 : Nat) (16 : Nat) c (1 : Nat)) (16 : Nat) xs),
      Byts (tkD (loO (some (Value.int IntKind.i64 (16 : Int))) (0 : Nat) (16 : Nat) c (1 : Nat)) (16 : Nat) xs),
      (16 : Nat) = (16 : Nat)]) := by kernel_rfl
theorem ir_3 (xs : List Value) (c : Nat) : prjR 9 (runZ (idV id0) Try.prog 8 22 [.slice (some ⟨0, 0, none⟩) 48 c] [(0, ⟨.old, xs⟩)] 1 []) =
Res.ok
  ((Value.tuple
        (Array.mk
          [Value.slice (some (Addr.mk (9 : Nat) (0 : Nat) none)) (3 : Nat) (capBig + (9 : Nat)),
            Value.int IntKind.i64 (0 : Int)]),
      Rw.mk (Kd.room (2 : Nat) [Value.int IntKind.u64 (0 : Int), Value.int IntKind.u64 (0 : Int)])
        [Value.int IntKind.u64
            (r8
              (List.drop (8 : Nat)
                (tkD (loO (some (Value.int IntKind.i64 (0 : Int))) (0 : Nat) (0 : Nat) c (1 : Nat)) (16 : Nat) xs))),
          Value.int IntKind.u64
            (r8 (tkD (loO (some (Value.int IntKind.i64 (0 : Int))) (0 : Nat) (0 : Nat) c (1 : Nat)) (16 : Nat) xs)),
          Value.int IntKind.u64
            (r8
              (List.drop (8 : Nat)
                (tkD (loO (some (Value.int IntKind.i64 (16 : Int))) (0 : Nat) (16 : Nat) c (1 : Nat)) (16 : Nat) xs))),
          Value.int IntKind.u64
            (r8 (tkD (loO (some (Value.int IntKind.i64 (16 : Int))) (0 : Nat) (16 : Nat) c (1 : Nat)) (16 : Nat) xs)),
          Value.int IntKind.u64
            (r8
              (List.drop (8 : Nat)
                (tkD (loO (some (Value.int IntKind.i64 (32 : Int))) (0 : Nat) (32 : Nat) c (1 : Nat)) (16 : Nat) xs))),
          Value.int IntKind.u64
            (r8 (tkD (loO (some (Value.int IntKind.i64 (32 : Int))) (0 : Nat) (32 : Nat) c (1 : Nat)) (16 : Nat) xs))]),
    [],
    [c < (18446744073709551616 : Nat), (0 : Int) ≤ (16 : Int) ∧ (16 : Int) ≤ (↑c : Int),
      (0 : Int) ≤ (0 : Int) ∧ (0 : Int) ≤ (16 : Int), (16 : Nat) ≤ c ∧ c ≤ (9223372036854775807 : Nat),
      adN (loO (some (Value.int IntKind.i64 (0 : Int))) (0 : Nat) (0 : Nat) c (1 : Nat)) (16 : Nat) ≤ List.length xs,
      Fl (tkD (loO (some (Value.int IntKind.i64 (0 : Int))) (0 : Nat) (0 : Nat) c (1 : Nat)) (16 : Nat) xs),
      Byts (tkD (loO (some (Value.int IntKind.i64 (0 : Int))) (0 : Nat) (0 : Nat) c (1 : Nat)) (16 : Nat) xs),
      (16 : Nat) = (16 : Nat), c < (18446744073709551616 : Nat), (0 : Int) ≤ (32 : Int) ∧ (32 : Int) ≤ (↑c : Int),
      (0 : Int) ≤ (16 : Int) ∧ (16 : Int) ≤ (32 : Int),
      (16 : Nat) ≤ c - (16 : Nat) ∧ c - (16 : Nat) ≤ (9223372036854775807 : Nat),
      adN (loO (some (Value.int IntKind.i64 (16 : Int))) (0 : Nat) (16 : Nat) c (1 : Nat)) (16 : Nat) ≤ List.length xs,
      Fl (tkD (loO (some (Value.int IntKind.i64 (16 : Int))) (0 : Nat) (16 : Nat) c (1 : Nat)) (16 : Nat) xs),
      Byts (tkD (loO (some (Value.int IntKind.i64 (16 : Int))) (0 : Nat) (16 : Nat) c (1 : Nat)) (16 : Nat) xs),
      (16 : Nat) = (16 : Nat), c < (18446744073709551616 : Nat), (0 : Int) ≤ (48 : Int) ∧ (48 : Int) ≤ (↑c : Int),
      (0 : Int) ≤ (32 : Int) ∧ (32 : Int) ≤ (48 : Int),
      (16 : Nat) ≤ c - (32 : Nat) ∧ c - (32 : Nat) ≤ (9223372036854775807 : Nat),
      adN (loO (some (Value.int IntKind.i64 (32 : Int))) (0 : Nat) (32 : Nat) c (1 : Nat)) (16 : Nat) ≤ List.length xs,
      Fl (tkD (loO (some (Value.int IntKind.i64 (32 : Int))) (0 : Nat) (32 : Nat) c (1 : Nat)) (16 : Nat) xs),
      Byts (tkD (loO (some (Value.int IntKind.i64 (32 : Int))) (0 : Nat) (32 : Nat) c (1 : Nat)) (16 : Nat) xs),
      (16 : Nat) = (16 : Nat)]) := by kernel_rfl
theorem ir_4 (xs : List Value) (c : Nat) : prjR 12 (runZ (idV id0) Try.prog 8 22 [.slice (some ⟨0, 0, none⟩) 64 c] [(0, ⟨.old, xs⟩)] 1 []) =
Res.ok
  ((Value.tuple
        (Array.mk
          [Value.slice (some (Addr.mk (12 : Nat) (0 : Nat) none)) (4 : Nat) (capBig + (12 : Nat)),
            Value.int IntKind.i64 (0 : Int)]),
      Rw.mk (Kd.room (2 : Nat) [Value.int IntKind.u64 (0 : Int), Value.int IntKind.u64 (0 : Int)])
        [Value.int IntKind.u64
            (r8
              (List.drop (8 : Nat)
                (tkD (loO (some (Value.int IntKind.i64 (0 : Int))) (0 : Nat) (0 : Nat) c (1 : Nat)) (16 : Nat) xs))),
          Value.int IntKind.u64
            (r8 (tkD (loO (some (Value.int IntKind.i64 (0 : Int))) (0 : Nat) (0 : Nat) c (1 : Nat)) (16 : Nat) xs)),
          Value.int IntKind.u64
            (r8
              (List.drop (8 : Nat)
                (tkD (loO (some (Value.int IntKind.i64 (16 : Int))) (0 : Nat) (16 : Nat) c (1 : Nat)) (16 : Nat) xs))),
          Value.int IntKind.u64
            (r8 (tkD (loO (some (Value.int IntKind.i64 (16 : Int))) (0 : Nat) (16 : Nat) c (1 : Nat)) (16 : Nat) xs)),
          Value.int IntKind.u64
            (r8
              (List.drop (8 : Nat)
                (tkD (loO (some (Value.int IntKind.i64 (32 : Int))) (0 : Nat) (32 : Nat) c (1 : Nat)) (16 : Nat) xs))),
          Value.int IntKind.u64
            (r8 (tkD (loO (some (Value.int IntKind.i64 (32 : Int))) (0 : Nat) (32 : Nat) c (1 : Nat)) (16 : Nat) xs)),
          Value.int IntKind.u64
            (r8
              (List.drop (8 : Nat)
                (tkD (loO (some (Value.int IntKind.i64 (48 : Int))) (0 : Nat) (48 : Nat) c (1 : Nat)) (16 : Nat) xs))),
          Value.int IntKind.u64
            (r8 (tkD (loO (some (Value.int IntKind.i64 (48 : Int))) (0 : Nat) (48 : Nat) c (1 : Nat)) (16 : Nat) xs))]),
    [],
    [c < (18446744073709551616 : Nat), (0 : Int) ≤ (16 : Int) ∧ (16 : Int) ≤ (↑c : Int),
      (0 : Int) ≤ (0 : Int) ∧ (0 : Int) ≤ (16 : Int), (16 : Nat) ≤ c ∧ c ≤ (9223372036854775807 : Nat),
      adN (loO (some (Value.int IntKind.i64 (0 : Int))) (0 : Nat) (0 : Nat) c (1 : Nat)) (16 : Nat) ≤ List.length xs,
      Fl (tkD (loO (some (Value.int IntKind.i64 (0 : Int))) (0 : Nat) (0 : Nat) c (1 : Nat)) (16 : Nat) xs),
      Byts (tkD (loO (some (Value.int IntKind.i64 (0 : Int))) (0 : Nat) (0 : Nat) c (1 : Nat)) (16 : Nat) xs),
      (16 : Nat) = (16 : Nat), c < (18446744073709551616 : Nat), (0 : Int) ≤ (32 : Int) ∧ (32 : Int) ≤ (↑c : Int),
      (0 : Int) ≤ (16 : Int) ∧ (16 : Int) ≤ (32 : Int),
      (16 : Nat) ≤ c - (16 : Nat) ∧ c - (16 : Nat) ≤ (9223372036854775807 : Nat),
      adN (loO (some (Value.int IntKind.i64 (16 : Int))) (0 : Nat) (16 : Nat) c (1 : Nat)) (16 : Nat) ≤ List.length xs,
      Fl (tkD (loO (some (Value.int IntKind.i64 (16 : Int))) (0 : Nat) (16 : Nat) c (1 : Nat)) (16 : Nat) xs),
      Byts (tkD (loO (some (Value.int IntKind.i64 (16 : Int))) (0 : Nat) (16 : Nat) c (1 : Nat)) (16 : Nat) xs),
      (16 : Nat) = (16 : Nat), c < (18446744073709551616 : Nat), (0 : Int) ≤ (48 : Int) ∧ (48 : Int) ≤ (↑c : Int),
      (0 : Int) ≤ (32 : Int) ∧ (32 : Int) ≤ (48 : Int),
      (16 : Nat) ≤ c - (32 : Nat) ∧ c - (32 : Nat) ≤ (9223372036854775807 : Nat),
      adN (loO (some (Value.int IntKind.i64 (32 : Int))) (0 : Nat) (32 : Nat) c (1 : Nat)) (16 : Nat) ≤ List.length xs,
      Fl (tkD (loO (some (Value.int IntKind.i64 (32 : Int))) (0 : Nat) (32 : Nat) c (1 : Nat)) (16 : Nat) xs),
      Byts (tkD (loO (some (Value.int IntKind.i64 (32 : Int))) (0 : Nat) (32 : Nat) c (1 : Nat)) (16 : Nat) xs),
      (16 : Nat) = (16 : Nat), c < (18446744073709551616 : Nat), (0 : Int) ≤ (64 : Int) ∧ (64 : Int) ≤ (↑c : Int),
      (0 : Int) ≤ (48 : Int) ∧ (48 : Int) ≤ (64 : Int),
      (16 : Nat) ≤ c - (48 : Nat) ∧ c - (48 : Nat) ≤ (9223372036854775807 : Nat),
      adN (loO (some (Value.int IntKind.i64 (48 : Int))) (0 : Nat) (48 : Nat) c (1 : Nat)) (16 : Nat) ≤ List.length xs,
      Fl (tkD (loO (some (Value.int IntKind.i64 (48 : Int))) (0 : Nat) (48 : Nat) c (1 : Nat)) (16 : Nat) xs),
      Byts (tkD (loO (some (Value.int IntKind.i64 (48 : Int))) (0 : Nat) (48 : Nat) c (1 : Nat)) (16 : Nat) xs),
      (16 : Nat) = (16 : Nat)]) := by kernel_rfl
theorem ir_5 (xs : List Value) (c : Nat) : prjR 15 (runZ (idV id0) Try.prog 8 22 [.slice (some ⟨0, 0, none⟩) 80 c] [(0, ⟨.old, xs⟩)] 1 []) =
Res.ok
  ((Value.tuple
        (Array.mk
          [Value.slice (some (Addr.mk (15 : Nat) (0 : Nat) none)) (5 : Nat) (capBig + (15 : Nat)),
            Value.int IntKind.i64 (0 : Int)]),
      Rw.mk (Kd.room (2 : Nat) [Value.int IntKind.u64 (0 : Int), Value.int IntKind.u64 (0 : Int)])
        [Value.int IntKind.u64
            (r8
              (List.drop (8 : Nat)
                (tkD (loO (some (Value.int IntKind.i64 (0 : Int))) (0 : Nat) (0 : Nat) c (1 : Nat)) (16 : Nat) xs))),
          Value.int IntKind.u64
            (r8 (tkD (loO (some (Value.int IntKind.i64 (0 : Int))) (0 : Nat) (0 : Nat) c (1 : Nat)) (16 : Nat) xs)),
          Value.int IntKind.u64
            (r8
              (List.drop (8 : Nat)
                (tkD (loO (some (Value.int IntKind.i64 (16 : Int))) (0 : Nat) (16 : Nat) c (1 : Nat)) (16 : Nat) xs))),
          Value.int IntKind.u64
            (r8 (tkD (loO (some (Value.int IntKind.i64 (16 : Int))) (0 : Nat) (16 : Nat) c (1 : Nat)) (16 : Nat) xs)),
          Value.int IntKind.u64
            (r8
              (List.drop (8 : Nat)
                (tkD (loO (some (Value.int IntKind.i64 (32 : Int))) (0 : Nat) (32 : Nat) c (1 : Nat)) (16 : Nat) xs))),
          Value.int IntKind.u64
            (r8 (tkD (loO (some (Value.int IntKind.i64 (32 : Int))) (0 : Nat) (32 : Nat) c (1 : Nat)) (16 : Nat) xs)),
          Value.int IntKind.u64
            (r8
              (List.drop (8 : Nat)
                (tkD (loO (some (Value.int IntKind.i64 (48 : Int))) (0 : Nat) (48 : Nat) c (1 : Nat)) (16 : Nat) xs))),
          Value.int IntKind.u64
            (r8 (tkD (loO (some (Value.int IntKind.i64 (48 : Int))) (0 : Nat) (48 : Nat) c (1 : Nat)) (16 : Nat) xs)),
          Value.int IntKind.u64
            (r8
              (List.drop (8 : Nat)
                (tkD (loO (some (Value.int IntKind.i64 (64 : Int))) (0 : Nat) (64 : Nat) c (1 : Nat)) (16 : Nat) xs))),
          Value.int IntKind.u64
            (r8 (tkD (loO (some (Value.int IntKind.i64 (64 : Int))) (0 : Nat) (64 : Nat) c (1 : Nat)) (16 : Nat) xs))]),
    [],
    [c < (18446744073709551616 : Nat), (0 : Int) ≤ (16 : Int) ∧ (16 : Int) ≤ (↑c : Int),
      (0 : Int) ≤ (0 : Int) ∧ (0 : Int) ≤ (16 : Int), (16 : Nat) ≤ c ∧ c ≤ (9223372036854775807 : Nat),
      adN (loO (some (Value.int IntKind.i64 (0 : Int))) (0 : Nat) (0 : Nat) c (1 : Nat)) (16 : Nat) ≤ List.length xs,
      Fl (tkD (loO (some (Value.int IntKind.i64 (0 : Int))) (0 : Nat) (0 : Nat) c (1 : Nat)) (16 : Nat) xs),
      Byts (tkD (loO (some (Value.int IntKind.i64 (0 : Int))) (0 : Nat) (0 : Nat) c (1 : Nat)) (16 : Nat) xs),
      (16 : Nat) = (16 : Nat), c < (18446744073709551616 : Nat), (0 : Int) ≤ (32 : Int) ∧ (32 : Int) ≤ (↑c : Int),
      (0 : Int) ≤ (16 : Int) ∧ (16 : Int) ≤ (32 : Int),
      (16 : Nat) ≤ c - (16 : Nat) ∧ c - (16 : Nat) ≤ (9223372036854775807 : Nat),
      adN (loO (some (Value.int IntKind.i64 (16 : Int))) (0 : Nat) (16 : Nat) c (1 : Nat)) (16 : Nat) ≤ List.length xs,
      Fl (tkD (loO (some (Value.int IntKind.i64 (16 : Int))) (0 : Nat) (16 : Nat) c (1 : Nat)) (16 : Nat) xs),
      Byts (tkD (loO (some (Value.int IntKind.i64 (16 : Int))) (0 : Nat) (16 : Nat) c (1 : Nat)) (16 : Nat) xs),
      (16 : Nat) = (16 : Nat), c < (18446744073709551616 : Nat), (0 : Int) ≤ (48 : Int) ∧ (48 : Int) ≤ (↑c : Int),
      (0 : Int) ≤ (32 : Int) ∧ (32 : Int) ≤ (48 : Int),
      (16 : Nat) ≤ c - (32 : Nat) ∧ c - (32 : Nat) ≤ (9223372036854775807 : Nat),
      adN (loO (some (Value.int IntKind.i64 (32 : Int))) (0 : Nat) (32 : Nat) c (1 : Nat)) (16 : Nat) ≤ List.length xs,
      Fl (tkD (loO (some (Value.int IntKind.i64 (32 : Int))) (0 : Nat) (32 : Nat) c (1 : Nat)) (16 : Nat) xs),
      Byts (tkD (loO (some (Value.int IntKind.i64 (32 : Int))) (0 : Nat) (32 : Nat) c (1 : Nat)) (16 : Nat) xs),
      (16 : Nat) = (16 : Nat), c < (18446744073709551616 : Nat), (0 : Int) ≤ (64 : Int) ∧ (64 : Int) ≤ (↑c : Int),
      (0 : Int) ≤ (48 : Int) ∧ (48 : Int) ≤ (64 : Int),
      (16 : Nat) ≤ c - (48 : Nat) ∧ c - (48 : Nat) ≤ (9223372036854775807 : Nat),
      adN (loO (some (Value.int IntKind.i64 (48 : Int))) (0 : Nat) (48 : Nat) c (1 : Nat)) (16 : Nat) ≤ List.length xs,
      Fl (tkD (loO (some (Value.int IntKind.i64 (48 : Int))) (0 : Nat) (48 : Nat) c (1 : Nat)) (16 : Nat) xs),
      Byts (tkD (loO (some (Value.int IntKind.i64 (48 : Int))) (0 : Nat) (48 : Nat) c (1 : Nat)) (16 : Nat) xs),
      (16 : Nat) = (16 : Nat), c < (18446744073709551616 : Nat), (0 : Int) ≤ (80 : Int) ∧ (80 : Int) ≤ (↑c : Int),
      (0 : Int) ≤ (64 : Int) ∧ (64 : Int) ≤ (80 : Int),
      (16 : Nat) ≤ c - (64 : Nat) ∧ c - (64 : Nat) ≤ (9223372036854775807 : Nat),
      adN (loO (some (Value.int IntKind.i64 (64 : Int))) (0 : Nat) (64 : Nat) c (1 : Nat)) (16 : Nat) ≤ List.length xs,
      Fl (tkD (loO (some (Value.int IntKind.i64 (64 : Int))) (0 : Nat) (64 : Nat) c (1 : Nat)) (16 : Nat) xs),
      Byts (tkD (loO (some (Value.int IntKind.i64 (64 : Int))) (0 : Nat) (64 : Nat) c (1 : Nat)) (16 : Nat) xs),
      (16 : Nat) = (16 : Nat)]) := by kernel_rfl
theorem ir_6 (xs : List Value) (c : Nat) : prjR 18 (runZ (idV id0) Try.prog 8 22 [.slice (some ⟨0, 0, none⟩) 96 c] [(0, ⟨.old, xs⟩)] 1 []) =
Res.ok
  ((Value.tuple
        (Array.mk
          [Value.slice (some (Addr.mk (18 : Nat) (0 : Nat) none)) (6 : Nat) (capBig + (18 : Nat)),
            Value.int IntKind.i64 (0 : Int)]),
      Rw.mk (Kd.room (2 : Nat) [Value.int IntKind.u64 (0 : Int), Value.int IntKind.u64 (0 : Int)])
        [Value.int IntKind.u64
            (r8
              (List.drop (8 : Nat)
                (tkD (loO (some (Value.int IntKind.i64 (0 : Int))) (0 : Nat) (0 : Nat) c (1 : Nat)) (16 : Nat) xs))),
          Value.int IntKind.u64
            (r8 (tkD (loO (some (Value.int IntKind.i64 (0 : Int))) (0 : Nat) (0 : Nat) c (1 : Nat)) (16 : Nat) xs)),
          Value.int IntKind.u64
            (r8
              (List.drop (8 : Nat)
                (tkD (loO (some (Value.int IntKind.i64 (16 : Int))) (0 : Nat) (16 : Nat) c (1 : Nat)) (16 : Nat) xs))),
          Value.int IntKind.u64
            (r8 (tkD (loO (some (Value.int IntKind.i64 (16 : Int))) (0 : Nat) (16 : Nat) c (1 : Nat)) (16 : Nat) xs)),
          Value.int IntKind.u64
            (r8
              (List.drop (8 : Nat)
                (tkD (loO (some (Value.int IntKind.i64 (32 : Int))) (0 : Nat) (32 : Nat) c (1 : Nat)) (16 : Nat) xs))),
          Value.int IntKind.u64
            (r8 (tkD (loO (some (Value.int IntKind.i64 (32 : Int))) (0 : Nat) (32 : Nat) c (1 : Nat)) (16 : Nat) xs)),
          Value.int IntKind.u64
            (r8
              (List.drop (8 : Nat)
                (tkD (loO (some (Value.int IntKind.i64 (48 : Int))) (0 : Nat) (48 : Nat) c (1 : Nat)) (16 : Nat) xs))),
          Value.int IntKind.u64
            (r8 (tkD (loO (some (Value.int IntKind.i64 (48 : Int))) (0 : Nat) (48 : Nat) c (1 : Nat)) (16 : Nat) xs)),
          Value.int IntKind.u64
            (r8
              (List.drop (8 : Nat)
                (tkD (loO (some (Value.int IntKind.i64 (64 : Int))) (0 : Nat) (64 : Nat) c (1 : Nat)) (16 : Nat) xs))),
          Value.int IntKind.u64
            (r8 (tkD (loO (some (Value.int IntKind.i64 (64 : Int))) (0 : Nat) (64 : Nat) c (1 : Nat)) (16 : Nat) xs)),
          Value.int IntKind.u64
            (r8
              (List.drop (8 : Nat)
                (tkD (loO (some (Value.int IntKind.i64 (80 : Int))) (0 : Nat) (80 : Nat) c (1 : Nat)) (16 : Nat) xs))),
          Value.int IntKind.u64
            (r8 (tkD (loO (some (Value.int IntKind.i64 (80 : Int))) (0 : Nat) (80 : Nat) c (1 : Nat)) (16 : Nat) xs))]),
    [],
    [c < (18446744073709551616 : Nat), (0 : Int) ≤ (16 : Int) ∧ (16 : Int) ≤ (↑c : Int),
      (0 : Int) ≤ (0 : Int) ∧ (0 : Int) ≤ (16 : Int), (16 : Nat) ≤ c ∧ c ≤ (9223372036854775807 : Nat),
      adN (loO (some (Value.int IntKind.i64 (0 : Int))) (0 : Nat) (0 : Nat) c (1 : Nat)) (16 : Nat) ≤ List.length xs,
      Fl (tkD (loO (some (Value.int IntKind.i64 (0 : Int))) (0 : Nat) (0 : Nat) c (1 : Nat)) (16 : Nat) xs),
      Byts (tkD (loO (some (Value.int IntKind.i64 (0 : Int))) (0 : Nat) (0 : Nat) c (1 : Nat)) (16 : Nat) xs),
      (16 : Nat) = (16 : Nat), c < (18446744073709551616 : Nat), (0 : Int) ≤ (32 : Int) ∧ (32 : Int) ≤ (↑c : Int),
      (0 : Int) ≤ (16 : Int) ∧ (16 : Int) ≤ (32 : Int),
      (16 : Nat) ≤ c - (16 : Nat) ∧ c - (16 : Nat) ≤ (9223372036854775807 : Nat),
      adN (loO (some (Value.int IntKind.i64 (16 : Int))) (0 : Nat) (16 : Nat) c (1 : Nat)) (16 : Nat) ≤ List.length xs,
      Fl (tkD (loO (some (Value.int IntKind.i64 (16 : Int))) (0 : Nat) (16 : Nat) c (1 : Nat)) (16 : Nat) xs),
      Byts (tkD (loO (some (Value.int IntKind.i64 (16 : Int))) (0 : Nat) (16 : Nat) c (1 : Nat)) (16 : Nat) xs),
      (16 : Nat) = (16 : Nat), c < (18446744073709551616 : Nat), (0 : Int) ≤ (48 : Int) ∧ (48 : Int) ≤ (↑c : Int),
      (0 : Int) ≤ (32 : Int) ∧ (32 : Int) ≤ (48 : Int),
      (16 : Nat) ≤ c - (32 : Nat) ∧ c - (32 : Nat) ≤ (9223372036854775807 : Nat),
      adN (loO (some (Value.int IntKind.i64 (32 : Int))) (0 : Nat) (32 : Nat) c (1 : Nat)) (16 : Nat) ≤ List.length xs,
      Fl (tkD (loO (some (Value.int IntKind.i64 (32 : Int))) (0 : Nat) (32 : Nat) c (1 : Nat)) (16 : Nat) xs),
      Byts (tkD (loO (some (Value.int IntKind.i64 (32 : Int))) (0 : Nat) (32 : Nat) c (1 : Nat)) (16 : Nat) xs),
      (16 : Nat) = (16 : Nat), c < (18446744073709551616 : Nat), (0 : Int) ≤ (64 : Int) ∧ (64 : Int) ≤ (↑c : Int),
      (0 : Int) ≤ (48 : Int) ∧ (48 : Int) ≤ (64 : Int),
      (16 : Nat) ≤ c - (48 : Nat) ∧ c - (48 : Nat) ≤ (9223372036854775807 : Nat),
      adN (loO (some (Value.int IntKind.i64 (48 : Int))) (0 : Nat) (48 : Nat) c (1 : Nat)) (16 : Nat) ≤ List.length xs,
      Fl (tkD (loO (some (Value.int IntKind.i64 (48 : Int))) (0 : Nat) (48 : Nat) c (1 : Nat)) (16 : Nat) xs),
      Byts (tkD (loO (some (Value.int IntKind.i64 (48 : Int))) (0 : Nat) (48 : Nat) c (1 : Nat)) (16 : Nat) xs),
      (16 : Nat) = (16 : Nat), c < (18446744073709551616 : Nat), (0 : Int) ≤ (80 : Int) ∧ (80 : Int) ≤ (↑c : Int),
      (0 : Int) ≤ (64 : Int) ∧ (64 : Int) ≤ (80 : Int),
      (16 : Nat) ≤ c - (64 : Nat) ∧ c - (64 : Nat) ≤ (9223372036854775807 : Nat),
      adN (loO (some (Value.int IntKind.i64 (64 : Int))) (0 : Nat) (64 : Nat) c (1 : Nat)) (16 : Nat) ≤ List.length xs,
      Fl (tkD (loO (some (Value.int IntKind.i64 (64 : Int))) (0 : Nat) (64 : Nat) c (1 : Nat)) (16 : Nat) xs),
      Byts (tkD (loO (some (Value.int IntKind.i64 (64 : Int))) (0 : Nat) (64 : Nat) c (1 : Nat)) (16 : Nat) xs),
      (16 : Nat) = (16 : Nat), c < (18446744073709551616 : Nat), (0 : Int) ≤ (96 : Int) ∧ (96 : Int) ≤ (↑c : Int),
      (0 : Int) ≤ (80 : Int) ∧ (80 : Int) ≤ (96 : Int),
      (16 : Nat) ≤ c - (80 : Nat) ∧ c - (80 : Nat) ≤ (9223372036854775807 : Nat),
      adN (loO (some (Value.int IntKind.i64 (80 : Int))) (0 : Nat) (80 : Nat) c (1 : Nat)) (16 : Nat) ≤ List.length xs,
      Fl (tkD (loO (some (Value.int IntKind.i64 (80 : Int))) (0 : Nat) (80 : Nat) c (1 : Nat)) (16 : Nat) xs),
      Byts (tkD (loO (some (Value.int IntKind.i64 (80 : Int))) (0 : Nat) (80 : Nat) c (1 : Nat)) (16 : Nat) xs),
      (16 : Nat) = (16 : Nat)]) := by kernel_rfl
theorem ir_7 (xs : List Value) (c : Nat) : prjR 21 (runZ (idV id0) Try.prog 8 22 [.slice (some ⟨0, 0, none⟩) 112 c] [(0, ⟨.old, xs⟩)] 1 []) =
Res.ok
  ((Value.tuple
        (Array.mk
          [Value.slice (some (Addr.mk (21 : Nat) (0 : Nat) none)) (7 : Nat) (capBig + (21 : Nat)),
            Value.int IntKind.i64 (0 : Int)]),
      Rw.mk (Kd.room (2 : Nat) [Value.int IntKind.u64 (0 : Int), Value.int IntKind.u64 (0 : Int)])
        [Value.int IntKind.u64
            (r8
              (List.drop (8 : Nat)
                (tkD (loO (some (Value.int IntKind.i64 (0 : Int))) (0 : Nat) (0 : Nat) c (1 : Nat)) (16 : Nat) xs))),
          Value.int IntKind.u64
            (r8 (tkD (loO (some (Value.int IntKind.i64 (0 : Int))) (0 : Nat) (0 : Nat) c (1 : Nat)) (16 : Nat) xs)),
          Value.int IntKind.u64
            (r8
              (List.drop (8 : Nat)
                (tkD (loO (some (Value.int IntKind.i64 (16 : Int))) (0 : Nat) (16 : Nat) c (1 : Nat)) (16 : Nat) xs))),
          Value.int IntKind.u64
            (r8 (tkD (loO (some (Value.int IntKind.i64 (16 : Int))) (0 : Nat) (16 : Nat) c (1 : Nat)) (16 : Nat) xs)),
          Value.int IntKind.u64
            (r8
              (List.drop (8 : Nat)
                (tkD (loO (some (Value.int IntKind.i64 (32 : Int))) (0 : Nat) (32 : Nat) c (1 : Nat)) (16 : Nat) xs))),
          Value.int IntKind.u64
            (r8 (tkD (loO (some (Value.int IntKind.i64 (32 : Int))) (0 : Nat) (32 : Nat) c (1 : Nat)) (16 : Nat) xs)),
          Value.int IntKind.u64
            (r8
              (List.drop (8 : Nat)
                (tkD (loO (some (Value.int IntKind.i64 (48 : Int))) (0 : Nat) (48 : Nat) c (1 : Nat)) (16 : Nat) xs))),
          Value.int IntKind.u64
            (r8 (tkD (loO (some (Value.int IntKind.i64 (48 : Int))) (0 : Nat) (48 : Nat) c (1 : Nat)) (16 : Nat) xs)),
          Value.int IntKind.u64
            (r8
              (List.drop (8 : Nat)
                (tkD (loO (some (Value.int IntKind.i64 (64 : Int))) (0 : Nat) (64 : Nat) c (1 : Nat)) (16 : Nat) xs))),
          Value.int IntKind.u64
            (r8 (tkD (loO (some (Value.int IntKind.i64 (64 : Int))) (0 : Nat) (64 : Nat) c (1 : Nat)) (16 : Nat) xs)),
          Value.int IntKind.u64
            (r8
              (List.drop (8 : Nat)
                (tkD (loO (some (Value.int IntKind.i64 (80 : Int))) (0 : Nat) (80 : Nat) c (1 : Nat)) (16 : Nat) xs))),
          Value.int IntKind.u64
            (r8 (tkD (loO (some (Value.int IntKind.i64 (80 : Int))) (0 : Nat) (80 : Nat) c (1 : Nat)) (16 : Nat) xs)),
          Value.int IntKind.u64
            (r8
              (List.drop (8 : Nat)
                (tkD (loO (some (Value.int IntKind.i64 (96 : Int))) (0 : Nat) (96 : Nat) c (1 : Nat)) (16 : Nat) xs))),
          Value.int IntKind.u64
            (r8 (tkD (loO (some (Value.int IntKind.i64 (96 : Int))) (0 : Nat) (96 : Nat) c (1 : Nat)) (16 : Nat) xs))]),
    [],
    [c < (18446744073709551616 : Nat), (0 : Int) ≤ (16 : Int) ∧ (16 : Int) ≤ (↑c : Int),
      (0 : Int) ≤ (0 : Int) ∧ (0 : Int) ≤ (16 : Int), (16 : Nat) ≤ c ∧ c ≤ (9223372036854775807 : Nat),
      adN (loO (some (Value.int IntKind.i64 (0 : Int))) (0 : Nat) (0 : Nat) c (1 : Nat)) (16 : Nat) ≤ List.length xs,
      Fl (tkD (loO (some (Value.int IntKind.i64 (0 : Int))) (0 : Nat) (0 : Nat) c (1 : Nat)) (16 : Nat) xs),
      Byts (tkD (loO (some (Value.int IntKind.i64 (0 : Int))) (0 : Nat) (0 : Nat) c (1 : Nat)) (16 : Nat) xs),
      (16 : Nat) = (16 : Nat), c < (18446744073709551616 : Nat), (0 : Int) ≤ (32 : Int) ∧ (32 : Int) ≤ (↑c : Int),
      (0 : Int) ≤ (16 : Int) ∧ (16 : Int) ≤ (32 : Int),
      (16 : Nat) ≤ c - (16 : Nat) ∧ c - (16 : Nat) ≤ (9223372036854775807 : Nat),
      adN (loO (some (Value.int IntKind.i64 (16 : Int))) (0 : Nat) (16 : Nat) c (1 : Nat)) (16 : Nat) ≤ List.length xs,
      Fl (tkD (loO (some (Value.int IntKind.i64 (16 : Int))) (0 : Nat) (16 : Nat) c (1 : Nat)) (16 : Nat) xs),
      Byts (tkD (loO (some (Value.int IntKind.i64 (16 : Int))) (0 : Nat) (16 : Nat) c (1 : Nat)) (16 : Nat) xs),
      (16 : Nat) = (16 : Nat), c < (18446744073709551616 : Nat), (0 : Int) ≤ (48 : Int) ∧ (48 : Int) ≤ (↑c : Int),
      (0 : Int) ≤ (32 : Int) ∧ (32 : Int) ≤ (48 : Int),
      (16 : Nat) ≤ c - (32 : Nat) ∧ c - (32 : Nat) ≤ (9223372036854775807 : Nat),
      adN (loO (some (Value.int IntKind.i64 (32 : Int))) (0 : Nat) (32 : Nat) c (1 : Nat)) (16 : Nat) ≤ List.length xs,
      Fl (tkD (loO (some (Value.int IntKind.i64 (32 : Int))) (0 : Nat) (32 : Nat) c (1 : Nat)) (16 : Nat) xs),
      Byts (tkD (loO (some (Value.int IntKind.i64 (32 : Int))) (0 : Nat) (32 : Nat) c (1 : Nat)) (16 : Nat) xs),
      (16 : Nat) = (16 : Nat), c < (18446744073709551616 : Nat), (0 : Int) ≤ (64 : Int) ∧ (64 : Int) ≤ (↑c : Int),
      (0 : Int) ≤ (48 : Int) ∧ (48 : Int) ≤ (64 : Int),
      (16 : Nat) ≤ c - (48 : Nat) ∧ c - (48 : Nat) ≤ (9223372036854775807 : Nat),
      adN (loO (some (Value.int IntKind.i64 (48 : Int))) (0 : Nat) (48 : Nat) c (1 : Nat)) (16 : Nat) ≤ List.length xs,
      Fl (tkD (loO (some (Value.int IntKind.i64 (48 : Int))) (0 : Nat) (48 : Nat) c (1 : Nat)) (16 : Nat) xs),
      Byts (tkD (loO (some (Value.int IntKind.i64 (48 : Int))) (0 : Nat) (48 : Nat) c (1 : Nat)) (16 : Nat) xs),
      (16 : Nat) = (16 : Nat), c < (18446744073709551616 : Nat), (0 : Int) ≤ (80 : Int) ∧ (80 : Int) ≤ (↑c : Int),
      (0 : Int) ≤ (64 : Int) ∧ (64 : Int) ≤ (80 : Int),
      (16 : Nat) ≤ c - (64 : Nat) ∧ c - (64 : Nat) ≤ (9223372036854775807 : Nat),
      adN (loO (some (Value.int IntKind.i64 (64 : Int))) (0 : Nat) (64 : Nat) c (1 : Nat)) (16 : Nat) ≤ List.length xs,
      Fl (tkD (loO (some (Value.int IntKind.i64 (64 : Int))) (0 : Nat) (64 : Nat) c (1 : Nat)) (16 : Nat) xs),
      Byts (tkD (loO (some (Value.int IntKind.i64 (64 : Int))) (0 : Nat) (64 : Nat) c (1 : Nat)) (16 : Nat) xs),
      (16 : Nat) = (16 : Nat), c < (18446744073709551616 : Nat), (0 : Int) ≤ (96 : Int) ∧ (96 : Int) ≤ (↑c : Int),
      (0 : Int) ≤ (80 : Int) ∧ (80 : Int) ≤ (96 : Int),
      (16 : Nat) ≤ c - (80 : Nat) ∧ c - (80 : Nat) ≤ (9223372036854775807 : Nat),
      adN (loO (some (Value.int IntKind.i64 (80 : Int))) (0 : Nat) (80 : Nat) c (1 : Nat)) (16 : Nat) ≤ List.length xs,
      Fl (tkD (loO (some (Value.int IntKind.i64 (80 : Int))) (0 : Nat) (80 : Nat) c (1 : Nat)) (16 : Nat) xs),
      Byts (tkD (loO (some (Value.int IntKind.i64 (80 : Int))) (0 : Nat) (80 : Nat) c (1 : Nat)) (16 : Nat) xs),
      (16 : Nat) = (16 : Nat), c < (18446744073709551616 : Nat), (0 : Int) ≤ (112 : Int) ∧ (112 : Int) ≤ (↑c : Int),
      (0 : Int) ≤ (96 : Int) ∧ (96 : Int) ≤ (112 : Int),
      (16 : Nat) ≤ c - (96 : Nat) ∧ c - (96 : Nat) ≤ (9223372036854775807 : Nat),
      adN (loO (some (Value.int IntKind.i64 (96 : Int))) (0 : Nat) (96 : Nat) c (1 : Nat)) (16 : Nat) ≤ List.length xs,
      Fl (tkD (loO (some (Value.int IntKind.i64 (96 : Int))) (0 : Nat) (96 : Nat) c (1 : Nat)) (16 : Nat) xs),
      Byts (tkD (loO (some (Value.int IntKind.i64 (96 : Int))) (0 : Nat) (96 : Nat) c (1 : Nat)) (16 : Nat) xs),
      (16 : Nat) = (16 : Nat)]) := by kernel_rfl
theorem ir_8 (xs : List Value) (c : Nat) : prjR 24 (runZ (idV id0) Try.prog 8 22 [.slice (some ⟨0, 0, none⟩) 128 c] [(0, ⟨.old, xs⟩)] 1 []) =
Res.ok
  ((Value.tuple
        (Array.mk
          [Value.slice (some (Addr.mk (24 : Nat) (0 : Nat) none)) (8 : Nat) (capBig + (24 : Nat)),
            Value.int IntKind.i64 (0 : Int)]),
      Rw.mk (Kd.room (2 : Nat) [Value.int IntKind.u64 (0 : Int), Value.int IntKind.u64 (0 : Int)])
        [Value.int IntKind.u64
            (r8
              (List.drop (8 : Nat)
                (tkD (loO (some (Value.int IntKind.i64 (0 : Int))) (0 : Nat) (0 : Nat) c (1 : Nat)) (16 : Nat) xs))),
          Value.int IntKind.u64
            (r8 (tkD (loO (some (Value.int IntKind.i64 (0 : Int))) (0 : Nat) (0 : Nat) c (1 : Nat)) (16 : Nat) xs)),
          Value.int IntKind.u64
            (r8
              (List.drop (8 : Nat)
                (tkD (loO (some (Value.int IntKind.i64 (16 : Int))) (0 : Nat) (16 : Nat) c (1 : Nat)) (16 : Nat) xs))),
          Value.int IntKind.u64
            (r8 (tkD (loO (some (Value.int IntKind.i64 (16 : Int))) (0 : Nat) (16 : Nat) c (1 : Nat)) (16 : Nat) xs)),
          Value.int IntKind.u64
            (r8
              (List.drop (8 : Nat)
                (tkD (loO (some (Value.int IntKind.i64 (32 : Int))) (0 : Nat) (32 : Nat) c (1 : Nat)) (16 : Nat) xs))),
          Value.int IntKind.u64
            (r8 (tkD (loO (some (Value.int IntKind.i64 (32 : Int))) (0 : Nat) (32 : Nat) c (1 : Nat)) (16 : Nat) xs)),
          Value.int IntKind.u64
            (r8
              (List.drop (8 : Nat)
                (tkD (loO (some (Value.int IntKind.i64 (48 : Int))) (0 : Nat) (48 : Nat) c (1 : Nat)) (16 : Nat) xs))),
          Value.int IntKind.u64
            (r8 (tkD (loO (some (Value.int IntKind.i64 (48 : Int))) (0 : Nat) (48 : Nat) c (1 : Nat)) (16 : Nat) xs)),
          Value.int IntKind.u64
            (r8
              (List.drop (8 : Nat)
                (tkD (loO (some (Value.int IntKind.i64 (64 : Int))) (0 : Nat) (64 : Nat) c (1 : Nat)) (16 : Nat) xs))),
          Value.int IntKind.u64
            (r8 (tkD (loO (some (Value.int IntKind.i64 (64 : Int))) (0 : Nat) (64 : Nat) c (1 : Nat)) (16 : Nat) xs)),
          Value.int IntKind.u64
            (r8
              (List.drop (8 : Nat)
                (tkD (loO (some (Value.int IntKind.i64 (80 : Int))) (0 : Nat) (80 : Nat) c (1 : Nat)) (16 : Nat) xs))),
          Value.int IntKind.u64
            (r8 (tkD (loO (some (Value.int IntKind.i64 (80 : Int))) (0 : Nat) (80 : Nat) c (1 : Nat)) (16 : Nat) xs)),
          Value.int IntKind.u64
            (r8
              (List.drop (8 : Nat)
                (tkD (loO (some (Value.int IntKind.i64 (96 : Int))) (0 : Nat) (96 : Nat) c (1 : Nat)) (16 : Nat) xs))),
          Value.int IntKind.u64
            (r8 (tkD (loO (some (Value.int IntKind.i64 (96 : Int))) (0 : Nat) (96 : Nat) c (1 : Nat)) (16 : Nat) xs)),
          Value.int IntKind.u64
            (r8
              (List.drop (8 : Nat)
                (tkD (loO (some (Value.int IntKind.i64 (112 : Int))) (0 : Nat) (112 : Nat) c (1 : Nat)) (16 : Nat)
                  xs))),
          Value.int IntKind.u64
            (r8
              (tkD (loO (some (Value.int IntKind.i64 (112 : Int))) (0 : Nat) (112 : Nat) c (1 : Nat)) (16 : Nat) xs))]),
    [],
    [c < (18446744073709551616 : Nat), (0 : Int) ≤ (16 : Int) ∧ (16 : Int) ≤ (↑c : Int),
      (0 : Int) ≤ (0 : Int) ∧ (0 : Int) ≤ (16 : Int), (16 : Nat) ≤ c ∧ c ≤ (9223372036854775807 : Nat),
      adN (loO (some (Value.int IntKind.i64 (0 : Int))) (0 : Nat) (0 : Nat) c (1 : Nat)) (16 : Nat) ≤ List.length xs,
      Fl (tkD (loO (some (Value.int IntKind.i64 (0 : Int))) (0 : Nat) (0 : Nat) c (1 : Nat)) (16 : Nat) xs),
      Byts (tkD (loO (some (Value.int IntKind.i64 (0 : Int))) (0 : Nat) (0 : Nat) c (1 : Nat)) (16 : Nat) xs),
      (16 : Nat) = (16 : Nat), c < (18446744073709551616 : Nat), (0 : Int) ≤ (32 : Int) ∧ (32 : Int) ≤ (↑c : Int),
      (0 : Int) ≤ (16 : Int) ∧ (16 : Int) ≤ (32 : Int),
      (16 : Nat) ≤ c - (16 : Nat) ∧ c - (16 : Nat) ≤ (9223372036854775807 : Nat),
      adN (loO (some (Value.int IntKind.i64 (16 : Int))) (0 : Nat) (16 : Nat) c (1 : Nat)) (16 : Nat) ≤ List.length xs,
      Fl (tkD (loO (some (Value.int IntKind.i64 (16 : Int))) (0 : Nat) (16 : Nat) c (1 : Nat)) (16 : Nat) xs),
      Byts (tkD (loO (some (Value.int IntKind.i64 (16 : Int))) (0 : Nat) (16 : Nat) c (1 : Nat)) (16 : Nat) xs),
      (16 : Nat) = (16 : Nat), c < (18446744073709551616 : Nat), (0 : Int) ≤ (48 : Int) ∧ (48 : Int) ≤ (↑c : Int),
      (0 : Int) ≤ (32 : Int) ∧ (32 : Int) ≤ (48 : Int),
      (16 : Nat) ≤ c - (32 : Nat) ∧ c - (32 : Nat) ≤ (9223372036854775807 : Nat),
      adN (loO (some (Value.int IntKind.i64 (32 : Int))) (0 : Nat) (32 : Nat) c (1 : Nat)) (16 : Nat) ≤ List.length xs,
      Fl (tkD (loO (some (Value.int IntKind.i64 (32 : Int))) (0 : Nat) (32 : Nat) c (1 : Nat)) (16 : Nat) xs),
      Byts (tkD (loO (some (Value.int IntKind.i64 (32 : Int))) (0 : Nat) (32 : Nat) c (1 : Nat)) (16 : Nat) xs),
      (16 : Nat) = (16 : Nat), c < (18446744073709551616 : Nat), (0 : Int) ≤ (64 : Int) ∧ (64 : Int) ≤ (↑c : Int),
      (0 : Int) ≤ (48 : Int) ∧ (48 : Int) ≤ (64 : Int),
      (16 : Nat) ≤ c - (48 : Nat) ∧ c - (48 : Nat) ≤ (9223372036854775807 : Nat),
      adN (loO (some (Value.int IntKind.i64 (48 : Int))) (0 : Nat) (48 : Nat) c (1 : Nat)) (16 : Nat) ≤ List.length xs,
      Fl (tkD (loO (some (Value.int IntKind.i64 (48 : Int))) (0 : Nat) (48 : Nat) c (1 : Nat)) (16 : Nat) xs),
      Byts (tkD (loO (some (Value.int IntKind.i64 (48 : Int))) (0 : Nat) (48 : Nat) c (1 : Nat)) (16 : Nat) xs),
      (16 : Nat) = (16 : Nat), c < (18446744073709551616 : Nat), (0 : Int) ≤ (80 : Int) ∧ (80 : Int) ≤ (↑c : Int),
      (0 : Int) ≤ (64 : Int) ∧ (64 : Int) ≤ (80 : Int),
      (16 : Nat) ≤ c - (64 : Nat) ∧ c - (64 : Nat) ≤ (9223372036854775807 : Nat),
      adN (loO (some (Value.int IntKind.i64 (64 : Int))) (0 : Nat) (64 : Nat) c (1 : Nat)) (16 : Nat) ≤ List.length xs,
      Fl (tkD (loO (some (Value.int IntKind.i64 (64 : Int))) (0 : Nat) (64 : Nat) c (1 : Nat)) (16 : Nat) xs),
      Byts (tkD (loO (some (Value.int IntKind.i64 (64 : Int))) (0 : Nat) (64 : Nat) c (1 : Nat)) (16 : Nat) xs),
      (16 : Nat) = (16 : Nat), c < (18446744073709551616 : Nat), (0 : Int) ≤ (96 : Int) ∧ (96 : Int) ≤ (↑c : Int),
      (0 : Int) ≤ (80 : Int) ∧ (80 : Int) ≤ (96 : Int),
      (16 : Nat) ≤ c - (80 : Nat) ∧ c - (80 : Nat) ≤ (9223372036854775807 : Nat),
      adN (loO (some (Value.int IntKind.i64 (80 : Int))) (0 : Nat) (80 : Nat) c (1 : Nat)) (16 : Nat) ≤ List.length xs,
      Fl (tkD (loO (some (Value.int IntKind.i64 (80 : Int))) (0 : Nat) (80 : Nat) c (1 : Nat)) (16 : Nat) xs),
      Byts (tkD (loO (some (Value.int IntKind.i64 (80 : Int))) (0 : Nat) (80 : Nat) c (1 : Nat)) (16 : Nat) xs),
      (16 : Nat) = (16 : Nat), c < (18446744073709551616 : Nat), (0 : Int) ≤ (112 : Int) ∧ (112 : Int) ≤ (↑c : Int),
      (0 : Int) ≤ (96 : Int) ∧ (96 : Int) ≤ (112 : Int),
      (16 : Nat) ≤ c - (96 : Nat) ∧ c - (96 : Nat) ≤ (9223372036854775807 : Nat),
      adN (loO (some (Value.int IntKind.i64 (96 : Int))) (0 : Nat) (96 : Nat) c (1 : Nat)) (16 : Nat) ≤ List.length xs,
      Fl (tkD (loO (some (Value.int IntKind.i64 (96 : Int))) (0 : Nat) (96 : Nat) c (1 : Nat)) (16 : Nat) xs),
      Byts (tkD (loO (some (Value.int IntKind.i64 (96 : Int))) (0 : Nat) (96 : Nat) c (1 : Nat)) (16 : Nat) xs),
      (16 : Nat) = (16 : Nat), c < (18446744073709551616 : Nat), (0 : Int) ≤ (128 : Int) ∧ (128 : Int) ≤ (↑c : Int),
      (0 : Int) ≤ (112 : Int) ∧ (112 : Int) ≤ (128 : Int),
      (16 : Nat) ≤ c - (112 : Nat) ∧ c - (112 : Nat) ≤ (9223372036854775807 : Nat),
      adN (loO (some (Value.int IntKind.i64 (112 : Int))) (0 : Nat) (112 : Nat) c (1 : Nat)) (16 : Nat) ≤
        List.length xs,
      Fl (tkD (loO (some (Value.int IntKind.i64 (112 : Int))) (0 : Nat) (112 : Nat) c (1 : Nat)) (16 : Nat) xs),
      Byts (tkD (loO (some (Value.int IntKind.i64 (112 : Int))) (0 : Nat) (112 : Nat) c (1 : Nat)) (16 : Nat) xs),
      (16 : Nat) = (16 : Nat)]) := by kernel_rfl
theorem oi_long (xs : List Value) (n c : Nat) : runZ (syA (idV idT) 23) Try.prog 8 23 [.slice (some ⟨0, 0, none⟩) n c] [(0, ⟨.old, xs⟩)] 1 [true] =
Res.ok
  ((Value.tuple (Array.mk [Value.slice none (0 : Nat) (0 : Nat), Value.int IntKind.i64 (3 : Int)]),
      [((0 : Nat), Rw.mk Kd.old xs)], (1 : Nat), []),
    [], [decide ((↑n : Int) > (8 : Int)) = true]) := by kernel_rfl
theorem oi_n  : runZ (idV id0) Try.prog 8 23 [.slice none 0 0] [] 1 [] =
Res.ok
  ((Value.tuple (Array.mk [Value.slice none (0 : Nat) (0 : Nat), Value.int IntKind.i64 (0 : Int)]), [], (1 : Nat), []),
    [], []) := by kernel_rfl
theorem oi_0 (xs : List Value) (c : Nat) : runZ (idV id0) Try.prog 8 23 [.slice (some ⟨0, 0, none⟩) 0 c] [(0, ⟨.old, xs⟩)] 1 [] =
Res.ok
  ((Value.tuple (Array.mk [Value.slice none (0 : Nat) (0 : Nat), Value.int IntKind.i64 (0 : Int)]),
      [((0 : Nat), Rw.mk Kd.old xs)], (1 : Nat), []),
    [], []) := by kernel_rfl
theorem oj_long (xs : List Value) (n c : Nat) : runZ (syA (idV idT) 24) Try.prog 8 24 [.slice (some ⟨0, 0, none⟩) n c] [(0, ⟨.old, xs⟩)] 1 [true] =
Res.ok
  ((Value.tuple (Array.mk [Value.slice none (0 : Nat) (0 : Nat), Value.int IntKind.i64 (3 : Int)]),
      [((0 : Nat), Rw.mk Kd.old xs)], (1 : Nat), []),
    [], [decide ((↑n : Int) > (8 : Int)) = true]) := by kernel_rfl
theorem oj_n  : runZ (idV id0) Try.prog 8 24 [.slice none 0 0] [] 1 [] =
Res.ok
  ((Value.tuple (Array.mk [Value.slice none (0 : Nat) (0 : Nat), Value.int IntKind.i64 (0 : Int)]), [], (1 : Nat), []),
    [], []) := by kernel_rfl
theorem oj_0 (xs : List Value) (c : Nat) : runZ (idV id0) Try.prog 8 24 [.slice (some ⟨0, 0, none⟩) 0 c] [(0, ⟨.old, xs⟩)] 1 [] =
Res.ok
  ((Value.tuple (Array.mk [Value.slice none (0 : Nat) (0 : Nat), Value.int IntKind.i64 (0 : Int)]),
      [((0 : Nat), Rw.mk Kd.old xs)], (1 : Nat), []),
    [], []) := by kernel_rfl
theorem oi_1 (xs : List Value) (c : Nat) : prjR 3 (runZ (idV id0) Try.prog 8 23 [.slice (some ⟨0, 0, none⟩) 1 c] [(0, ⟨.old, xs⟩)] 1 []) =
Res.ok
  ((Value.tuple
        (Array.mk
          [Value.slice (some (Addr.mk (3 : Nat) (0 : Nat) none)) (16 : Nat) (capBig + (3 : Nat)),
            Value.int IntKind.i64 (0 : Int)]),
      Rw.mk (Kd.room (1 : Nat) [Value.int IntKind.u8 (0 : Int)])
        [Value.int IntKind.u8 (intAt xs (1 : Nat) % (256 : Int)),
          Value.int IntKind.u8 (intAt xs (1 : Nat) / (256 : Int) % (256 : Int)),
          Value.int IntKind.u8 (intAt xs (1 : Nat) / (65536 : Int) % (256 : Int)),
          Value.int IntKind.u8 (intAt xs (1 : Nat) / (16777216 : Int) % (256 : Int)),
          Value.int IntKind.u8 (intAt xs (1 : Nat) / (4294967296 : Int) % (256 : Int)),
          Value.int IntKind.u8 (intAt xs (1 : Nat) / (1099511627776 : Int) % (256 : Int)),
          Value.int IntKind.u8 (intAt xs (1 : Nat) / (281474976710656 : Int) % (256 : Int)),
          Value.int IntKind.u8 (intAt xs (1 : Nat) / (72057594037927936 : Int) % (256 : Int)),
          Value.int IntKind.u8 (intAt xs (0 : Nat) % (256 : Int)),
          Value.int IntKind.u8 (intAt xs (0 : Nat) / (256 : Int) % (256 : Int)),
          Value.int IntKind.u8 (intAt xs (0 : Nat) / (65536 : Int) % (256 : Int)),
          Value.int IntKind.u8 (intAt xs (0 : Nat) / (16777216 : Int) % (256 : Int)),
          Value.int IntKind.u8 (intAt xs (0 : Nat) / (4294967296 : Int) % (256 : Int)),
          Value.int IntKind.u8 (intAt xs (0 : Nat) / (1099511627776 : Int) % (256 : Int)),
          Value.int IntKind.u8 (intAt xs (0 : Nat) / (281474976710656 : Int) % (256 : Int)),
          Value.int IntKind.u8 (intAt xs (0 : Nat) / (72057594037927936 : Int) % (256 : Int))]),
    [],
    [List.take (2 : Nat) (List.drop (0 : Nat) xs) =
        [Value.int IntKind.u64 (intAt xs (0 : Nat)), Value.int IntKind.u64 (intAt xs (1 : Nat))]]) := by kernel_rfl
theorem oi_2 (xs : List Value) (c : Nat) : prjR 6 (runZ (idV id0) Try.prog 8 23 [.slice (some ⟨0, 0, none⟩) 2 c] [(0, ⟨.old, xs⟩)] 1 []) =
Res.ok
  ((Value.tuple
        (Array.mk
          [Value.slice (some (Addr.mk (6 : Nat) (0 : Nat) none)) (32 : Nat) (capBig + (6 : Nat)),
            Value.int IntKind.i64 (0 : Int)]),
      Rw.mk (Kd.room (1 : Nat) [Value.int IntKind.u8 (0 : Int)])
        [Value.int IntKind.u8 (intAt xs (1 : Nat) % (256 : Int)),
          Value.int IntKind.u8 (intAt xs (1 : Nat) / (256 : Int) % (256 : Int)),
          Value.int IntKind.u8 (intAt xs (1 : Nat) / (65536 : Int) % (256 : Int)),
          Value.int IntKind.u8 (intAt xs (1 : Nat) / (16777216 : Int) % (256 : Int)),
          Value.int IntKind.u8 (intAt xs (1 : Nat) / (4294967296 : Int) % (256 : Int)),
          Value.int IntKind.u8 (intAt xs (1 : Nat) / (1099511627776 : Int) % (256 : Int)),
          Value.int IntKind.u8 (intAt xs (1 : Nat) / (281474976710656 : Int) % (256 : Int)),
          Value.int IntKind.u8 (intAt xs (1 : Nat) / (72057594037927936 : Int) % (256 : Int)),
          Value.int IntKind.u8 (intAt xs (0 : Nat) % (256 : Int)),
          Value.int IntKind.u8 (intAt xs (0 : Nat) / (256 : Int) % (256 : Int)),
          Value.int IntKind.u8 (intAt xs (0 : Nat) / (65536 : Int) % (256 : Int)),
          Value.int IntKind.u8 (intAt xs (0 : Nat) / (16777216 : Int) % (256 : Int)),
          Value.int IntKind.u8 (intAt xs (0 : Nat) / (4294967296 : Int) % (256 : Int)),
          Value.int IntKind.u8 (intAt xs (0 : Nat) / (1099511627776 : Int) % (256 : Int)),
          Value.int IntKind.u8 (intAt xs (0 : Nat) / (281474976710656 : Int) % (256 : Int)),
          Value.int IntKind.u8 (intAt xs (0 : Nat) / (72057594037927936 : Int) % (256 : Int)),
          Value.int IntKind.u8 (intAt xs (3 : Nat) % (256 : Int)),
          Value.int IntKind.u8 (intAt xs (3 : Nat) / (256 : Int) % (256 : Int)),
          Value.int IntKind.u8 (intAt xs (3 : Nat) / (65536 : Int) % (256 : Int)),
          Value.int IntKind.u8 (intAt xs (3 : Nat) / (16777216 : Int) % (256 : Int)),
          Value.int IntKind.u8 (intAt xs (3 : Nat) / (4294967296 : Int) % (256 : Int)),
          Value.int IntKind.u8 (intAt xs (3 : Nat) / (1099511627776 : Int) % (256 : Int)),
          Value.int IntKind.u8 (intAt xs (3 : Nat) / (281474976710656 : Int) % (256 : Int)),
          Value.int IntKind.u8 (intAt xs (3 : Nat) / (72057594037927936 : Int) % (256 : Int)),
          Value.int IntKind.u8 (intAt xs (2 : Nat) % (256 : Int)),
          Value.int IntKind.u8 (intAt xs (2 : Nat) / (256 : Int) % (256 : Int)),
          Value.int IntKind.u8 (intAt xs (2 : Nat) / (65536 : Int) % (256 : Int)),
          Value.int IntKind.u8 (intAt xs (2 : Nat) / (16777216 : Int) % (256 : Int)),
          Value.int IntKind.u8 (intAt xs (2 : Nat) / (4294967296 : Int) % (256 : Int)),
          Value.int IntKind.u8 (intAt xs (2 : Nat) / (1099511627776 : Int) % (256 : Int)),
          Value.int IntKind.u8 (intAt xs (2 : Nat) / (281474976710656 : Int) % (256 : Int)),
          Value.int IntKind.u8 (intAt xs (2 : Nat) / (72057594037927936 : Int) % (256 : Int))]),
    [],
    [List.take (2 : Nat) (List.drop (0 : Nat) xs) =
        [Value.int IntKind.u64 (intAt xs (0 : Nat)), Value.int IntKind.u64 (intAt xs (1 : Nat))],
      List.take (2 : Nat) (List.drop (2 : Nat) xs) =
        [Value.int IntKind.u64 (intAt xs (2 : Nat)), Value.int IntKind.u64 (intAt xs (3 : Nat))]]) := by kernel_rfl
theorem oi_3 (xs : List Value) (c : Nat) : prjR 9 (runZ (idV id0) Try.prog 8 23 [.slice (some ⟨0, 0, none⟩) 3 c] [(0, ⟨.old, xs⟩)] 1 []) =
Res.ok
  ((Value.tuple
        (Array.mk
          [Value.slice (some (Addr.mk (9 : Nat) (0 : Nat) none)) (48 : Nat) (capBig + (9 : Nat)),
            Value.int IntKind.i64 (0 : Int)]),
      Rw.mk (Kd.room (1 : Nat) [Value.int IntKind.u8 (0 : Int)])
        [Value.int IntKind.u8 (intAt xs (1 : Nat) % (256 : Int)),
          Value.int IntKind.u8 (intAt xs (1 : Nat) / (256 : Int) % (256 : Int)),
          Value.int IntKind.u8 (intAt xs (1 : Nat) / (65536 : Int) % (256 : Int)),
          Value.int IntKind.u8 (intAt xs (1 : Nat) / (16777216 : Int) % (256 : Int)),
          Value.int IntKind.u8 (intAt xs (1 : Nat) / (4294967296 : Int) % (256 : Int)),
          Value.int IntKind.u8 (intAt xs (1 : Nat) / (1099511627776 : Int) % (256 : Int)),
          Value.int IntKind.u8 (intAt xs (1 : Nat) / (281474976710656 : Int) % (256 : Int)),
          Value.int IntKind.u8 (intAt xs (1 : Nat) / (72057594037927936 : Int) % (256 : Int)),
          Value.int IntKind.u8 (intAt xs (0 : Nat) % (256 : Int)),
          Value.int IntKind.u8 (intAt xs (0 : Nat) / (256 : Int) % (256 : Int)),
          Value.int IntKind.u8 (intAt xs (0 : Nat) / (65536 : Int) % (256 : Int)),
          Value.int IntKind.u8 (intAt xs (0 : Nat) / (16777216 : Int) % (256 : Int)),
          Value.int IntKind.u8 (intAt xs (0 : Nat) / (4294967296 : Int) % (256 : Int)),
          Value.int IntKind.u8 (intAt xs (0 : Nat) / (1099511627776 : Int) % (256 : Int)),
          Value.int IntKind.u8 (intAt xs (0 : Nat) / (281474976710656 : Int) % (256 : Int)),
          Value.int IntKind.u8 (intAt xs (0 : Nat) / (72057594037927936 : Int) % (256 : Int)),
          Value.int IntKind.u8 (intAt xs (3 : Nat) % (256 : Int)),
          Value.int IntKind.u8 (intAt xs (3 : Nat) / (256 : Int) % (256 : Int)),
          Value.int IntKind.u8 (intAt xs (3 : Nat) / (65536 : Int) % (256 : Int)),
          Value.int IntKind.u8 (intAt xs (3 : Nat) / (16777216 : Int) % (256 : Int)),
          Value.int IntKind.u8 (intAt xs (3 : Nat) / (4294967296 : Int) % (256 : Int)),
          Value.int IntKind.u8 (intAt xs (3 : Nat) / (1099511627776 : Int) % (256 : Int)),
          Value.int IntKind.u8 (intAt xs (3 : Nat) / (281474976710656 : Int) % (256 : Int)),
          Value.int IntKind.u8 (intAt xs (3 : Nat) / (72057594037927936 : Int) % (256 : Int)),
          Value.int IntKind.u8 (intAt xs (2 : Nat) % (256 : Int)),
          Value.int IntKind.u8 (intAt xs (2 : Nat) / (256 : Int) % (256 : Int)),
          Value.int IntKind.u8 (intAt xs (2 : Nat) / (65536 : Int) % (256 : Int)),
          Value.int IntKind.u8 (intAt xs (2 : Nat) / (16777216 : Int) % (256 : Int)),
          Value.int IntKind.u8 (intAt xs (2 : Nat) / (4294967296 : Int) % (256 : Int)),
          Value.int IntKind.u8 (intAt xs (2 : Nat) / (1099511627776 : Int) % (256 : Int)),
          Value.int IntKind.u8 (intAt xs (2 : Nat) / (281474976710656 : Int) % (256 : Int)),
          Value.int IntKind.u8 (intAt xs (2 : Nat) / (72057594037927936 : Int) % (256 : Int)),
          Value.int IntKind.u8 (intAt xs (5 : Nat) % (256 : Int)),
          Value.int IntKind.u8 (intAt xs (5 : Nat) / (256 : Int) % (256 : Int)),
          Value.int IntKind.u8 (intAt xs (5 : Nat) / (65536 : Int) % (256 : Int)),
          Value.int IntKind.u8 (intAt xs (5 : Nat) / (16777216 : Int) % (256 : Int)),
          Value.int IntKind.u8 (intAt xs (5 : Nat) / (4294967296 : Int) % (256 : Int)),
          Value.int IntKind.u8 (intAt xs (5 : Nat) / (1099511627776 : Int) % (256 : Int)),
          Value.int IntKind.u8 (intAt xs (5 : Nat) / (281474976710656 : Int) % (256 : Int)),
          Value.int IntKind.u8 (intAt xs (5 : Nat) / (72057594037927936 : Int) % (256 : Int)),
          Value.int IntKind.u8 (intAt xs (4 : Nat) % (256 : Int)),
          Value.int IntKind.u8 (intAt xs (4 : Nat) / (256 : Int) % (256 : Int)),
          Value.int IntKind.u8 (intAt xs (4 : Nat) / (65536 : Int) % (256 : Int)),
          Value.int IntKind.u8 (intAt xs (4 : Nat) / (16777216 : Int) % (256 : Int)),
          Value.int IntKind.u8 (intAt xs (4 : Nat) / (4294967296 : Int) % (256 : Int)),
          Value.int IntKind.u8 (intAt xs (4 : Nat) / (1099511627776 : Int) % (256 : Int)),
          Value.int IntKind.u8 (intAt xs (4 : Nat) / (281474976710656 : Int) % (256 : Int)),
          Value.int IntKind.u8 (intAt xs (4 : Nat) / (72057594037927936 : Int) % (256 : Int))]),
    [],
    [List.take (2 : Nat) (List.drop (0 : Nat) xs) =
        [Value.int IntKind.u64 (intAt xs (0 : Nat)), Value.int IntKind.u64 (intAt xs (1 : Nat))],
      List.take (2 : Nat) (List.drop (2 : Nat) xs) =
        [Value.int IntKind.u64 (intAt xs (2 : Nat)), Value.int IntKind.u64 (intAt xs (3 : Nat))],
      List.take (2 : Nat) (List.drop (4 : Nat) xs) =
        [Value.int IntKind.u64 (intAt xs (4 : Nat)), Value.int IntKind.u64 (intAt xs (5 : Nat))]]) := by kernel_rfl
theorem oi_4 (xs : List Value) (c : Nat) : prjR 12 (runZ (idV id0) Try.prog 8 23 [.slice (some ⟨0, 0, none⟩) 4 c] [(0, ⟨.old, xs⟩)] 1 []) =
Res.ok
  ((Value.tuple
        (Array.mk
          [Value.slice (some (Addr.mk (12 : Nat) (0 : Nat) none)) (64 : Nat) (capBig + (12 : Nat)),
            Value.int IntKind.i64 (0 : Int)]),
      Rw.mk (Kd.room (1 : Nat) [Value.int IntKind.u8 (0 : Int)])
        [Value.int IntKind.u8 (intAt xs (1 : Nat) % (256 : Int)),
          Value.int IntKind.u8 (intAt xs (1 : Nat) / (256 : Int) % (256 : Int)),
          Value.int IntKind.u8 (intAt xs (1 : Nat) / (65536 : Int) % (256 : Int)),
          Value.int IntKind.u8 (intAt xs (1 : Nat) / (16777216 : Int) % (256 : Int)),
          Value.int IntKind.u8 (intAt xs (1 : Nat) / (4294967296 : Int) % (256 : Int)),
          Value.int IntKind.u8 (intAt xs (1 : Nat) / (1099511627776 : Int) % (256 : Int)),
          Value.int IntKind.u8 (intAt xs (1 : Nat) / (281474976710656 : Int) % (256 : Int)),
          Value.int IntKind.u8 (intAt xs (1 : Nat) / (72057594037927936 : Int) % (256 : Int)),
          Value.int IntKind.u8 (intAt xs (0 : Nat) % (256 : Int)),
          Value.int IntKind.u8 (intAt xs (0 : Nat) / (256 : Int) % (256 : Int)),
          Value.int IntKind.u8 (intAt xs (0 : Nat) / (65536 : Int) % (256 : Int)),
          Value.int IntKind.u8 (intAt xs (0 : Nat) / (16777216 : Int) % (256 : Int)),
          Value.int IntKind.u8 (intAt xs (0 : Nat) / (4294967296 : Int) % (256 : Int)),
          Value.int IntKind.u8 (intAt xs (0 : Nat) / (1099511627776 : Int) % (256 : Int)),
          Value.int IntKind.u8 (intAt xs (0 : Nat) / (281474976710656 : Int) % (256 : Int)),
          Value.int IntKind.u8 (intAt xs (0 : Nat) / (72057594037927936 : Int) % (256 : Int)),
          Value.int IntKind.u8 (intAt xs (3 : Nat) % (256 : Int)),
          Value.int IntKind.u8 (intAt xs (3 : Nat) / (256 : Int) % (256 : Int)),
          Value.int IntKind.u8 (intAt xs (3 : Nat) / (65536 : Int) % (256 : Int)),
          Value.int IntKind.u8 (intAt xs (3 : Nat) / (16777216 : Int) % (256 : Int)),
          Value.int IntKind.u8 (intAt xs (3 : Nat) / (4294967296 : Int) % (256 : Int)),
          Value.int IntKind.u8 (intAt xs (3 : Nat) / (1099511627776 : Int) % (256 : Int)),
          Value.int IntKind.u8 (intAt xs (3 : Nat) / (281474976710656 : Int) % (256 : Int)),
          Value.int IntKind.u8 (intAt xs (3 : Nat) / (72057594037927936 : Int) % (256 : Int)),
          Value.int IntKind.u8 (intAt xs (2 : Nat) % (256 : Int)),
          Value.int IntKind.u8 (intAt xs (2 : Nat) / (256 : Int) % (256 : Int)),
          Value.int IntKind.u8 (intAt xs (2 : Nat) / (65536 : Int) % (256 : Int)),
          Value.int IntKind.u8 (intAt xs (2 : Nat) / (16777216 : Int) % (256 : Int)),
          Value.int IntKind.u8 (intAt xs (2 : Nat) / (4294967296 : Int) % (256 : Int)),
          Value.int IntKind.u8 (intAt xs (2 : Nat) / (1099511627776 : Int) % (256 : Int)),
          Value.int IntKind.u8 (intAt xs (2 : Nat) / (281474976710656 : Int) % (256 : Int)),
          Value.int IntKind.u8 (intAt xs (2 : Nat) / (72057594037927936 : Int) % (256 : Int)),
          Value.int IntKind.u8 (intAt xs (5 : Nat) % (256 : Int)),
          Value.int IntKind.u8 (intAt xs (5 : Nat) / (256 : Int) % (256 : Int)),
          Value.int IntKind.u8 (intAt xs (5 : Nat) / (65536 : Int) % (256 : Int)),
          Value.int IntKind.u8 (intAt xs (5 : Nat) / (16777216 : Int) % (256 : Int)),
          Value.int IntKind.u8 (intAt xs (5 : Nat) / (4294967296 : Int) % (256 : Int)),
          Value.int IntKind.u8 (intAt xs (5 : Nat) / (1099511627776 : Int) % (256 : Int)),
          Value.int IntKind.u8 (intAt xs (5 : Nat) / (281474976710656 : Int) % (256 : Int)),
          Value.int IntKind.u8 (intAt xs (5 : Nat) / (72057594037927936 : Int) % (256 : Int)),
          Value.int IntKind.u8 (intAt xs (4 : Nat) % (256 : Int)),
          Value.int IntKind.u8 (intAt xs (4 : Nat) / (256 : Int) % (256 : Int)),
          Value.int IntKind.u8 (intAt xs (4 : Nat) / (65536 : Int) % (256 : Int)),
          Value.int IntKind.u8 (intAt xs (4 : Nat) / (16777216 : Int) % (256 : Int)),
          Value.int IntKind.u8 (intAt xs (4 : Nat) / (4294967296 : Int) % (256 : Int)),
          Value.int IntKind.u8 (intAt xs (4 : Nat) / (1099511627776 : Int) % (256 : Int)),
          Value.int IntKind.u8 (intAt xs (4 : Nat) / (281474976710656 : Int) % (256 : Int)),
          Value.int IntKind.u8 (intAt xs (4 : Nat) / (72057594037927936 : Int) % (256 : Int)),
          Value.int IntKind.u8 (intAt xs (7 : Nat) % (256 : Int)),
          Value.int IntKind.u8 (intAt xs (7 : Nat) / (256 : Int) % (256 : Int)),
          Value.int IntKind.u8 (intAt xs (7 : Nat) / (65536 : Int) % (256 : Int)),
          Value.int IntKind.u8 (intAt xs (7 : Nat) / (16777216 : Int) % (256 : Int)),
          Value.int IntKind.u8 (intAt xs (7 : Nat) / (4294967296 : Int) % (256 : Int)),
          Value.int IntKind.u8 (intAt xs (7 : Nat) / (1099511627776 : Int) % (256 : Int)),
          Value.int IntKind.u8 (intAt xs (7 : Nat) / (281474976710656 : Int) % (256 : Int)),
          Value.int IntKind.u8 (intAt xs (7 : Nat) / (72057594037927936 : Int) % (256 : Int)),
          Value.int IntKind.u8 (intAt xs (6 : Nat) % (256 : Int)),
          Value.int IntKind.u8 (intAt xs (6 : Nat) / (256 : Int) % (256 : Int)),
          Value.int IntKind.u8 (intAt xs (6 : Nat) / (65536 : Int) % (256 : Int)),
          Value.int IntKind.u8 (intAt xs (6 : Nat) / (16777216 : Int) % (256 : Int)),
          Value.int IntKind.u8 (intAt xs (6 : Nat) / (4294967296 : Int) % (256 : Int)),
          Value.int IntKind.u8 (intAt xs (6 : Nat) / (1099511627776 : Int) % (256 : Int)),
          Value.int IntKind.u8 (intAt xs (6 : Nat) / (281474976710656 : Int) % (256 : Int)),
          Value.int IntKind.u8 (intAt xs (6 : Nat) / (72057594037927936 : Int) % (256 : Int))]),
    [],
    [List.take (2 : Nat) (List.drop (0 : Nat) xs) =
        [Value.int IntKind.u64 (intAt xs (0 : Nat)), Value.int IntKind.u64 (intAt xs (1 : Nat))],
      List.take (2 : Nat) (List.drop (2 : Nat) xs) =
        [Value.int IntKind.u64 (intAt xs (2 : Nat)), Value.int IntKind.u64 (intAt xs (3 : Nat))],
      List.take (2 : Nat) (List.drop (4 : Nat) xs) =
        [Value.int IntKind.u64 (intAt xs (4 : Nat)), Value.int IntKind.u64 (intAt xs (5 : Nat))],
      List.take (2 : Nat) (List.drop (6 : Nat) xs) =
        [Value.int IntKind.u64 (intAt xs (6 : Nat)), Value.int IntKind.u64 (intAt xs (7 : Nat))]]) := by kernel_rfl
theorem oi_5 (xs : List Value) (c : Nat) : prjR 15 (runZ (idV id0) Try.prog 8 23 [.slice (some ⟨0, 0, none⟩) 5 c] [(0, ⟨.old, xs⟩)] 1 []) =
Res.ok
  ((Value.tuple
        (Array.mk
          [Value.slice (some (Addr.mk (15 : Nat) (0 : Nat) none)) (80 : Nat) (capBig + (15 : Nat)),
            Value.int IntKind.i64 (0 : Int)]),
      Rw.mk (Kd.room (1 : Nat) [Value.int IntKind.u8 (0 : Int)])
        [Value.int IntKind.u8 (intAt xs (1 : Nat) % (256 : Int)),
          Value.int IntKind.u8 (intAt xs (1 : Nat) / (256 : Int) % (256 : Int)),
          Value.int IntKind.u8 (intAt xs (1 : Nat) / (65536 : Int) % (256 : Int)),
          Value.int IntKind.u8 (intAt xs (1 : Nat) / (16777216 : Int) % (256 : Int)),
          Value.int IntKind.u8 (intAt xs (1 : Nat) / (4294967296 : Int) % (256 : Int)),
          Value.int IntKind.u8 (intAt xs (1 : Nat) / (1099511627776 : Int) % (256 : Int)),
          Value.int IntKind.u8 (intAt xs (1 : Nat) / (281474976710656 : Int) % (256 : Int)),
          Value.int IntKind.u8 (intAt xs (1 : Nat) / (72057594037927936 : Int) % (256 : Int)),
          Value.int IntKind.u8 (intAt xs (0 : Nat) % (256 : Int)),
          Value.int IntKind.u8 (intAt xs (0 : Nat) / (256 : Int) % (256 : Int)),
          Value.int IntKind.u8 (intAt xs (0 : Nat) / (65536 : Int) % (256 : Int)),
          Value.int IntKind.u8 (intAt xs (0 : Nat) / (16777216 : Int) % (256 : Int)),
          Value.int IntKind.u8 (intAt xs (0 : Nat) / (4294967296 : Int) % (256 : Int)),
          Value.int IntKind.u8 (intAt xs (0 : Nat) / (1099511627776 : Int) % (256 : Int)),
          Value.int IntKind.u8 (intAt xs (0 : Nat) / (281474976710656 : Int) % (256 : Int)),
          Value.int IntKind.u8 (intAt xs (0 : Nat) / (72057594037927936 : Int) % (256 : Int)),
          Value.int IntKind.u8 (intAt xs (3 : Nat) % (256 : Int)),
          Value.int IntKind.u8 (intAt xs (3 : Nat) / (256 : Int) % (256 : Int)),
          Value.int IntKind.u8 (intAt xs (3 : Nat) / (65536 : Int) % (256 : Int)),
          Value.int IntKind.u8 (intAt xs (3 : Nat) / (16777216 : Int) % (256 : Int)),
          Value.int IntKind.u8 (intAt xs (3 : Nat) / (4294967296 : Int) % (256 : Int)),
          Value.int IntKind.u8 (intAt xs (3 : Nat) / (1099511627776 : Int) % (256 : Int)),
          Value.int IntKind.u8 (intAt xs (3 : Nat) / (281474976710656 : Int) % (256 : Int)),
          Value.int IntKind.u8 (intAt xs (3 : Nat) / (72057594037927936 : Int) % (256 : Int)),
          Value.int IntKind.u8 (intAt xs (2 : Nat) % (256 : Int)),
          Value.int IntKind.u8 (intAt xs (2 : Nat) / (256 : Int) % (256 : Int)),
          Value.int IntKind.u8 (intAt xs (2 : Nat) / (65536 : Int) % (256 : Int)),
          Value.int IntKind.u8 (intAt xs (2 : Nat) / (16777216 : Int) % (256 : Int)),
          Value.int IntKind.u8 (intAt xs (2 : Nat) / (4294967296 : Int) % (256 : Int)),
          Value.int IntKind.u8 (intAt xs (2 : Nat) / (1099511627776 : Int) % (256 : Int)),
          Value.int IntKind.u8 (intAt xs (2 : Nat) / (281474976710656 : Int) % (256 : Int)),
          Value.int IntKind.u8 (intAt xs (2 : Nat) / (72057594037927936 : Int) % (256 : Int)),
          Value.int IntKind.u8 (intAt xs (5 : Nat) % (256 : Int)),
          Value.int IntKind.u8 (intAt xs (5 : Nat) / (256 : Int) % (256 : Int)),
          Value.int IntKind.u8 (intAt xs (5 : Nat) / (65536 : Int) % (256 : Int)),
          Value.int IntKind.u8 (intAt xs (5 : Nat) / (16777216 : Int) % (256 : Int)),
          Value.int IntKind.u8 (intAt xs (5 : Nat) / (4294967296 : Int) % (256 : Int)),
          Value.int IntKind.u8 (intAt xs (5 : Nat) / (1099511627776 : Int) % (256 : Int)),
          Value.int IntKind.u8 (intAt xs (5 : Nat) / (281474976710656 : Int) % (256 : Int)),
          Value.int IntKind.u8 (intAt xs (5 : Nat) / (72057594037927936 : Int) % (256 : Int)),
          Value.int IntKind.u8 (intAt xs (4 : Nat) % (256 : Int)),
          Value.int IntKind.u8 (intAt xs (4 : Nat) / (256 : Int) % (256 : Int)),
          Value.int IntKind.u8 (intAt xs (4 : Nat) / (65536 : Int) % (256 : Int)),
          Value.int IntKind.u8 (intAt xs (4 : Nat) / (16777216 : Int) % (256 : Int)),
          Value.int IntKind.u8 (intAt xs (4 : Nat) / (4294967296 : Int) % (256 : Int)),
          Value.int IntKind.u8 (intAt xs (4 : Nat) / (1099511627776 : Int) % (256 : Int)),
          Value.int IntKind.u8 (intAt xs (4 : Nat) / (281474976710656 : Int) % (256 : Int)),
          Value.int IntKind.u8 (intAt xs (4 : Nat) / (72057594037927936 : Int) % (256 : Int)),
          Value.int IntKind.u8 (intAt xs (7 : Nat) % (256 : Int)),
          Value.int IntKind.u8 (intAt xs (7 : Nat) / (256 : Int) % (256 : Int)),
          Value.int IntKind.u8 (intAt xs (7 : Nat) / (65536 : Int) % (256 : Int)),
          Value.int IntKind.u8 (intAt xs (7 : Nat) / (16777216 : Int) % (256 : Int)),
          Value.int IntKind.u8 (intAt xs (7 : Nat) / (4294967296 : Int) % (256 : Int)),
          Value.int IntKind.u8 (intAt xs (7 : Nat) / (1099511627776 : Int) % (256 : Int)),
          Value.int IntKind.u8 (intAt xs (7 : Nat) / (281474976710656 : Int) % (256 : Int)),
          Value.int IntKind.u8 (intAt xs (7 : Nat) / (72057594037927936 : Int) % (256 : Int)),
          Value.int IntKind.u8 (intAt xs (6 : Nat) % (256 : Int)),
          Value.int IntKind.u8 (intAt xs (6 : Nat) / (256 : Int) % (256 : Int)),
          Value.int IntKind.u8 (intAt xs (6 : Nat) / (65536 : Int) % (256 : Int)),
          Value.int IntKind.u8 (intAt xs (6 : Nat) / (16777216 : Int) % (256 : Int)),
          Value.int IntKind.u8 (intAt xs (6 : Nat) / (4294967296 : Int) % (256 : Int)),
          Value.int IntKind.u8 (intAt xs (6 : Nat) / (1099511627776 : Int) % (256 : Int)),
          Value.int IntKind.u8 (intAt xs (6 : Nat) / (281474976710656 : Int) % (256 : Int)),
          Value.int IntKind.u8 (intAt xs (6 : Nat) / (72057594037927936 : Int) % (256 : Int)),
          Value.int IntKind.u8 (intAt xs (9 : Nat) % (256 : Int)),
          Value.int IntKind.u8 (intAt xs (9 : Nat) / (256 : Int) % (256 : Int)),
          Value.int IntKind.u8 (intAt xs (9 : Nat) / (65536 : Int) % (256 : Int)),
          Value.int IntKind.u8 (intAt xs (9 : Nat) / (16777216 : Int) % (256 : Int)),
          Value.int IntKind.u8 (intAt xs (9 : Nat) / (4294967296 : Int) % (256 : Int)),
          Value.int IntKind.u8 (intAt xs (9 : Nat) / (1099511627776 : Int) % (256 : Int)),
          Value.int IntKind.u8 (intAt xs (9 : Nat) / (281474976710656 : Int) % (256 : Int)),
          Value.int IntKind.u8 (intAt xs (9 : Nat) / (72057594037927936 : Int) % (256 : Int)),
          Value.int IntKind.u8 (intAt xs (8 : Nat) % (256 : Int)),
          Value.int IntKind.u8 (intAt xs (8 : Nat) / (256 : Int) % (256 : Int)),
          Value.int IntKind.u8 (intAt xs (8 : Nat) / (65536 : Int) % (256 : Int)),
          Value.int IntKind.u8 (intAt xs (8 : Nat) / (16777216 : Int) % (256 : Int)),
          Value.int IntKind.u8 (intAt xs (8 : Nat) / (4294967296 : Int) % (256 : Int)),
          Value.int IntKind.u8 (intAt xs (8 : Nat) / (1099511627776 : Int) % (256 : Int)),
          Value.int IntKind.u8 (intAt xs (8 : Nat) / (281474976710656 : Int) % (256 : Int)),
          Value.int IntKind.u8 (intAt xs (8 : Nat) / (72057594037927936 : Int) % (256 : Int))]),
    [],
    [List.take (2 : Nat) (List.drop (0 : Nat) xs) =
        [Value.int IntKind.u64 (intAt xs (0 : Nat)), Value.int IntKind.u64 (intAt xs (1 : Nat))],
      List.take (2 : Nat) (List.drop (2 : Nat) xs) =
        [Value.int IntKind.u64 (intAt xs (2 : Nat)), Value.int IntKind.u64 (intAt xs (3 : Nat))],
      List.take (2 : Nat) (List.drop (4 : Nat) xs) =
        [Value.int IntKind.u64 (intAt xs (4 : Nat)), Value.int IntKind.u64 (intAt xs (5 : Nat))],
      List.take (2 : Nat) (List.drop (6 : Nat) xs) =
        [Value.int IntKind.u64 (intAt xs (6 : Nat)), Value.int IntKind.u64 (intAt xs (7 : Nat))],
      List.take (2 : Nat) (List.drop (8 : Nat) xs) =
        [Value.int IntKind.u64 (intAt xs (8 : Nat)), Value.int IntKind.u64 (intAt xs (9 : Nat))]]) := by kernel_rfl
theorem oi_6 (xs : List Value) (c : Nat) : prjR 18 (runZ (idV id0) Try.prog 8 23 [.slice (some ⟨0, 0, none⟩) 6 c] [(0, ⟨.old, xs⟩)] 1 []) =
Res.ok
  ((Value.tuple
        (Array.mk
          [Value.slice (some (Addr.mk (18 : Nat) (0 : Nat) none)) (96 : Nat) (capBig + (18 : Nat)),
            Value.int IntKind.i64 (0 : Int)]),
      Rw.mk (Kd.room (1 : Nat) [Value.int IntKind.u8 (0 : Int)])
        [Value.int IntKind.u8 (intAt xs (1 : Nat) % (256 : Int)),
          Value.int IntKind.u8 (intAt xs (1 : Nat) / (256 : Int) % (256 : Int)),
          Value.int IntKind.u8 (intAt xs (1 : Nat) / (65536 : Int) % (256 : Int)),
          Value.int IntKind.u8 (intAt xs (1 : Nat) / (16777216 : Int) % (256 : Int)),
          Value.int IntKind.u8 (intAt xs (1 : Nat) / (4294967296 : Int) % (256 : Int)),
          Value.int IntKind.u8 (intAt xs (1 : Nat) / (1099511627776 : Int) % (256 : Int)),
          Value.int IntKind.u8 (intAt xs (1 : Nat) / (281474976710656 : Int) % (256 : Int)),
          Value.int IntKind.u8 (intAt xs (1 : Nat) / (72057594037927936 : Int) % (256 : Int)),
          Value.int IntKind.u8 (intAt xs (0 : Nat) % (256 : Int)),
          Value.int IntKind.u8 (intAt xs (0 : Nat) / (256 : Int) % (256 : Int)),
          Value.int IntKind.u8 (intAt xs (0 : Nat) / (65536 : Int) % (256 : Int)),
          Value.int IntKind.u8 (intAt xs (0 : Nat) / (16777216 : Int) % (256 : Int)),
          Value.int IntKind.u8 (intAt xs (0 : Nat) / (4294967296 : Int) % (256 : Int)),
          Value.int IntKind.u8 (intAt xs (0 : Nat) / (1099511627776 : Int) % (256 : Int)),
          Value.int IntKind.u8 (intAt xs (0 : Nat) / (281474976710656 : Int) % (256 : Int)),
          Value.int IntKind.u8 (intAt xs (0 : Nat) / (72057594037927936 : Int) % (256 : Int)),
          Value.int IntKind.u8 (intAt xs (3 : Nat) % (256 : Int)),
          Value.int IntKind.u8 (intAt xs (3 : Nat) / (256 : Int) % (256 : Int)),
          Value.int IntKind.u8 (intAt xs (3 : Nat) / (65536 : Int) % (256 : Int)),
          Value.int IntKind.u8 (intAt xs (3 : Nat) / (16777216 : Int) % (256 : Int)),
          Value.int IntKind.u8 (intAt xs (3 : Nat) / (4294967296 : Int) % (256 : Int)),
          Value.int IntKind.u8 (intAt xs (3 : Nat) / (1099511627776 : Int) % (256 : Int)),
          Value.int IntKind.u8 (intAt xs (3 : Nat) / (281474976710656 : Int) % (256 : Int)),
          Value.int IntKind.u8 (intAt xs (3 : Nat) / (72057594037927936 : Int) % (256 : Int)),
          Value.int IntKind.u8 (intAt xs (2 : Nat) % (256 : Int)),
          Value.int IntKind.u8 (intAt xs (2 : Nat) / (256 : Int) % (256 : Int)),
          Value.int IntKind.u8 (intAt xs (2 : Nat) / (65536 : Int) % (256 : Int)),
          Value.int IntKind.u8 (intAt xs (2 : Nat) / (16777216 : Int) % (256 : Int)),
          Value.int IntKind.u8 (intAt xs (2 : Nat) / (4294967296 : Int) % (256 : Int)),
          Value.int IntKind.u8 (intAt xs (2 : Nat) / (1099511627776 : Int) % (256 : Int)),
          Value.int IntKind.u8 (intAt xs (2 : Nat) / (281474976710656 : Int) % (256 : Int)),
          Value.int IntKind.u8 (intAt xs (2 : Nat) / (72057594037927936 : Int) % (256 : Int)),
          Value.int IntKind.u8 (intAt xs (5 : Nat) % (256 : Int)),
          Value.int IntKind.u8 (intAt xs (5 : Nat) / (256 : Int) % (256 : Int)),
          Value.int IntKind.u8 (intAt xs (5 : Nat) / (65536 : Int) % (256 : Int)),
          Value.int IntKind.u8 (intAt xs (5 : Nat) / (16777216 : Int) % (256 : Int)),
          Value.int IntKind.u8 (intAt xs (5 : Nat) / (4294967296 : Int) % (256 : Int)),
          Value.int IntKind.u8 (intAt xs (5 : Nat) / (1099511627776 : Int) % (256 : Int)),
          Value.int IntKind.u8 (intAt xs (5 : Nat) / (281474976710656 : Int) % (256 : Int)),
          Value.int IntKind.u8 (intAt xs (5 : Nat) / (72057594037927936 : Int) % (256 : Int)),
          Value.int IntKind.u8 (intAt xs (4 : Nat) % (256 : Int)),
          Value.int IntKind.u8 (intAt xs (4 : Nat) / (256 : Int) % (256 : Int)),
          Value.int IntKind.u8 (intAt xs (4 : Nat) / (65536 : Int) % (256 : Int)),
          Value.int IntKind.u8 (intAt xs (4 : Nat) / (16777216 : Int) % (256 : Int)),
          Value.int IntKind.u8 (intAt xs (4 : Nat) / (4294967296 : Int) % (256 : Int)),
          Value.int IntKind.u8 (intAt xs (4 : Nat) / (1099511627776 : Int) % (256 : Int)),
          Value.int IntKind.u8 (intAt xs (4 : Nat) / (281474976710656 : Int) % (256 : Int)),
          Value.int IntKind.u8 (intAt xs (4 : Nat) / (72057594037927936 : Int) % (256 : Int)),
          Value.int IntKind.u8 (intAt xs (7 : Nat) % (256 : Int)),
          Value.int IntKind.u8 (intAt xs (7 : Nat) / (256 : Int) % (256 : Int)),
          Value.int IntKind.u8 (intAt xs (7 : Nat) / (65536 : Int) % (256 : Int)),
          Value.int IntKind.u8 (intAt xs (7 : Nat) / (16777216 : Int) % (256 : Int)),
          Value.int IntKind.u8 (intAt xs (7 : Nat) / (4294967296 : Int) % (256 : Int)),
          Value.int IntKind.u8 (intAt xs (7 : Nat) / (1099511627776 : Int) % (256 : Int)),
          Value.int IntKind.u8 (intAt xs (7 : Nat) / (281474976710656 : Int) % (256 : Int)),
          Value.int IntKind.u8 (intAt xs (7 : Nat) / (72057594037927936 : Int) % (256 : Int)),
          Value.int IntKind.u8 (intAt xs (6 : Nat) % (256 : Int)),
          Value.int IntKind.u8 (intAt xs (6 : Nat) / (256 : Int) % (256 : Int)),
          Value.int IntKind.u8 (intAt xs (6 : Nat) / (65536 : Int) % (256 : Int)),
          Value.int IntKind.u8 (intAt xs (6 : Nat) / (16777216 : Int) % (256 : Int)),
          Value.int IntKind.u8 (intAt xs (6 : Nat) / (4294967296 : Int) % (256 : Int)),
          Value.int IntKind.u8 (intAt xs (6 : Nat) / (1099511627776 : Int) % (256 : Int)),
          Value.int IntKind.u8 (intAt xs (6 : Nat) / (281474976710656 : Int) % (256 : Int)),
          Value.int IntKind.u8 (intAt xs (6 : Nat) / (72057594037927936 : Int) % (256 : Int)),
          Value.int IntKind.u8 (intAt xs (9 : Nat) % (256 : Int)),
          Value.int IntKind.u8 (intAt xs (9 : Nat) / (256 : Int) % (256 : Int)),
          Value.int IntKind.u8 (intAt xs (9 : Nat) / (65536 : Int) % (256 : Int)),
          Value.int IntKind.u8 (intAt xs (9 : Nat) / (16777216 : Int) % (256 : Int)),
          Value.int IntKind.u8 (intAt xs (9 : Nat) / (4294967296 : Int) % (256 : Int)),
          Value.int IntKind.u8 (intAt xs (9 : Nat) / (1099511627776 : Int) % (256 : Int)),
          Value.int IntKind.u8 (intAt xs (9 : Nat) / (281474976710656 : Int) % (256 : Int)),
          Value.int IntKind.u8 (intAt xs (9 : Nat) / (72057594037927936 : Int) % (256 : Int)),
          Value.int IntKind.u8 (intAt xs (8 : Nat) % (256 : Int)),
          Value.int IntKind.u8 (intAt xs (8 : Nat) / (256 : Int) % (256 : Int)),
          Value.int IntKind.u8 (intAt xs (8 : Nat) / (65536 : Int) % (256 : Int)),
          Value.int IntKind.u8 (intAt xs (8 : Nat) / (16777216 : Int) % (256 : Int)),
          Value.int IntKind.u8 (intAt xs (8 : Nat) / (4294967296 : Int) % (256 : Int)),
          Value.int IntKind.u8 (intAt xs (8 : Nat) / (1099511627776 : Int) % (256 : Int)),
          Value.int IntKind.u8 (intAt xs (8 : Nat) / (281474976710656 : Int) % (256 : Int)),
          Value.int IntKind.u8 (intAt xs (8 : Nat) / (72057594037927936 : Int) % (256 : Int)),
          Value.int IntKind.u8 (intAt xs (11 : Nat) % (256 : Int)),
          Value.int IntKind.u8 (intAt xs (11 : Nat) / (256 : Int) % (256 : Int)),
          Value.int IntKind.u8 (intAt xs (11 : Nat) / (65536 : Int) % (256 : Int)),
          Value.int IntKind.u8 (intAt xs (11 : Nat) / (16777216 : Int) % (256 : Int)),
          Value.int IntKind.u8 (intAt xs (11 : Nat) / (4294967296 : Int) % (256 : Int)),
          Value.int IntKind.u8 (intAt xs (11 : Nat) / (1099511627776 : Int) % (256 : Int)),
          Value.int IntKind.u8 (intAt xs (11 : Nat) / (281474976710656 : Int) % (256 : Int)),
          Value.int IntKind.u8 (intAt xs (11 : Nat) / (72057594037927936 : Int) % (256 : Int)),
          Value.int IntKind.u8 (intAt xs (10 : Nat) % (256 : Int)),
          Value.int IntKind.u8 (intAt xs (10 : Nat) / (256 : Int) % (256 : Int)),
          Value.int IntKind.u8 (intAt xs (10 : Nat) / (65536 : Int) % (256 : Int)),
          Value.int IntKind.u8 (intAt xs (10 : Nat) / (16777216 : Int) % (256 : Int)),
          Value.int IntKind.u8 (intAt xs (10 : Nat) / (4294967296 : Int) % (256 : Int)),
          Value.int IntKind.u8 (intAt xs (10 : Nat) / (1099511627776 : Int) % (256 : Int)),
          Value.int IntKind.u8 (intAt xs (10 : Nat) / (281474976710656 : Int) % (256 : Int)),
          Value.int IntKind.u8 (intAt xs (10 : Nat) / (72057594037927936 : Int) % (256 : Int))]),
    [],
    [List.take (2 : Nat) (List.drop (0 : Nat) xs) =
        [Value.int IntKind.u64 (intAt xs (0 : Nat)), Value.int IntKind.u64 (intAt xs (1 : Nat))],
      List.take (2 : Nat) (List.drop (2 : Nat) xs) =
        [Value.int IntKind.u64 (intAt xs (2 : Nat)), Value.int IntKind.u64 (intAt xs (3 : Nat))],
      List.take (2 : Nat) (List.drop (4 : Nat) xs) =
        [Value.int IntKind.u64 (intAt xs (4 : Nat)), Value.int IntKind.u64 (intAt xs (5 : Nat))],
      List.take (2 : Nat) (List.drop (6 : Nat) xs) =
        [Value.int IntKind.u64 (intAt xs (6 : Nat)), Value.int IntKind.u64 (intAt xs (7 : Nat))],
      List.take (2 : Nat) (List.drop (8 : Nat) xs) =
        [Value.int IntKind.u64 (intAt xs (8 : Nat)), Value.int IntKind.u64 (intAt xs (9 : Nat))],
      List.take (2 : Nat) (List.drop (10 : Nat) xs) =
        [Value.int IntKind.u64 (intAt xs (10 : Nat)), Value.int IntKind.u64 (intAt xs (11 : Nat))]]) := by kernel_rfl
theorem oi_7 (xs : List Value) (c : Nat) : prjR 21 (runZ (idV id0) Try.prog 8 23 [.slice (some ⟨0, 0, none⟩) 7 c] [(0, ⟨.old, xs⟩)] 1 []) =
Res.ok
  ((Value.tuple
        (Array.mk
          [Value.slice (some (Addr.mk (21 : Nat) (0 : Nat) none)) (112 : Nat) (capBig + (21 : Nat)),
            Value.int IntKind.i64 (0 : Int)]),
      Rw.mk (Kd.room (1 : Nat) [Value.int IntKind.u8 (0 : Int)])
        [Value.int IntKind.u8 (intAt xs (1 : Nat) % (256 : Int)),
          Value.int IntKind.u8 (intAt xs (1 : Nat) / (256 : Int) % (256 : Int)),
          Value.int IntKind.u8 (intAt xs (1 : Nat) / (65536 : Int) % (256 : Int)),
          Value.int IntKind.u8 (intAt xs (1 : Nat) / (16777216 : Int) % (256 : Int)),
          Value.int IntKind.u8 (intAt xs (1 : Nat) / (4294967296 : Int) % (256 : Int)),
          Value.int IntKind.u8 (intAt xs (1 : Nat) / (1099511627776 : Int) % (256 : Int)),
          Value.int IntKind.u8 (intAt xs (1 : Nat) / (281474976710656 : Int) % (256 : Int)),
          Value.int IntKind.u8 (intAt xs (1 : Nat) / (72057594037927936 : Int) % (256 : Int)),
          Value.int IntKind.u8 (intAt xs (0 : Nat) % (256 : Int)),
          Value.int IntKind.u8 (intAt xs (0 : Nat) / (256 : Int) % (256 : Int)),
          Value.int IntKind.u8 (intAt xs (0 : Nat) / (65536 : Int) % (256 : Int)),
          Value.int IntKind.u8 (intAt xs (0 : Nat) / (16777216 : Int) % (256 : Int)),
          Value.int IntKind.u8 (intAt xs (0 : Nat) / (4294967296 : Int) % (256 : Int)),
          Value.int IntKind.u8 (intAt xs (0 : Nat) / (1099511627776 : Int) % (256 : Int)),
          Value.int IntKind.u8 (intAt xs (0 : Nat) / (281474976710656 : Int) % (256 : Int)),
          Value.int IntKind.u8 (intAt xs (0 : Nat) / (72057594037927936 : Int) % (256 : Int)),
          Value.int IntKind.u8 (intAt xs (3 : Nat) % (256 : Int)),
          Value.int IntKind.u8 (intAt xs (3 : Nat) / (256 : Int) % (256 : Int)),
          Value.int IntKind.u8 (intAt xs (3 : Nat) / (65536 : Int) % (256 : Int)),
          Value.int IntKind.u8 (intAt xs (3 : Nat) / (16777216 : Int) % (256 : Int)),
          Value.int IntKind.u8 (intAt xs (3 : Nat) / (4294967296 : Int) % (256 : Int)),
          Value.int IntKind.u8 (intAt xs (3 : Nat) / (1099511627776 : Int) % (256 : Int)),
          Value.int IntKind.u8 (intAt xs (3 : Nat) / (281474976710656 : Int) % (256 : Int)),
          Value.int IntKind.u8 (intAt xs (3 : Nat) / (72057594037927936 : Int) % (256 : Int)),
          Value.int IntKind.u8 (intAt xs (2 : Nat) % (256 : Int)),
          Value.int IntKind.u8 (intAt xs (2 : Nat) / (256 : Int) % (256 : Int)),
          Value.int IntKind.u8 (intAt xs (2 : Nat) / (65536 : Int) % (256 : Int)),
          Value.int IntKind.u8 (intAt xs (2 : Nat) / (16777216 : Int) % (256 : Int)),
          Value.int IntKind.u8 (intAt xs (2 : Nat) / (4294967296 : Int) % (256 : Int)),
          Value.int IntKind.u8 (intAt xs (2 : Nat) / (1099511627776 : Int) % (256 : Int)),
          Value.int IntKind.u8 (intAt xs (2 : Nat) / (281474976710656 : Int) % (256 : Int)),
          Value.int IntKind.u8 (intAt xs (2 : Nat) / (72057594037927936 : Int) % (256 : Int)),
          Value.int IntKind.u8 (intAt xs (5 : Nat) % (256 : Int)),
          Value.int IntKind.u8 (intAt xs (5 : Nat) / (256 : Int) % (256 : Int)),
          Value.int IntKind.u8 (intAt xs (5 : Nat) / (65536 : Int) % (256 : Int)),
          Value.int IntKind.u8 (intAt xs (5 : Nat) / (16777216 : Int) % (256 : Int)),
          Value.int IntKind.u8 (intAt xs (5 : Nat) / (4294967296 : Int) % (256 : Int)),
          Value.int IntKind.u8 (intAt xs (5 : Nat) / (1099511627776 : Int) % (256 : Int)),
          Value.int IntKind.u8 (intAt xs (5 : Nat) / (281474976710656 : Int) % (256 : Int)),
          Value.int IntKind.u8 (intAt xs (5 : Nat) / (72057594037927936 : Int) % (256 : Int)),
          Value.int IntKind.u8 (intAt xs (4 : Nat) % (256 : Int)),
          Value.int IntKind.u8 (intAt xs (4 : Nat) / (256 : Int) % (256 : Int)),
          Value.int IntKind.u8 (intAt xs (4 : Nat) / (65536 : Int) % (256 : Int)),
          Value.int IntKind.u8 (intAt xs (4 : Nat) / (16777216 : Int) % (256 : Int)),
          Value.int IntKind.u8 (intAt xs (4 : Nat) / (4294967296 : Int) % (256 : Int)),
          Value.int IntKind.u8 (intAt xs (4 : Nat) / (1099511627776 : Int) % (256 : Int)),
          Value.int IntKind.u8 (intAt xs (4 : Nat) / (281474976710656 : Int) % (256 : Int)),
          Value.int IntKind.u8 (intAt xs (4 : Nat) / (72057594037927936 : Int) % (256 : Int)),
          Value.int IntKind.u8 (intAt xs (7 : Nat) % (256 : Int)),
          Value.int IntKind.u8 (intAt xs (7 : Nat) / (256 : Int) % (256 : Int)),
          Value.int IntKind.u8 (intAt xs (7 : Nat) / (65536 : Int) % (256 : Int)),
          Value.int IntKind.u8 (intAt xs (7 : Nat) / (16777216 : Int) % (256 : Int)),
          Value.int IntKind.u8 (intAt xs (7 : Nat) / (4294967296 : Int) % (256 : Int)),
          Value.int IntKind.u8 (intAt xs (7 : Nat) / (1099511627776 : Int) % (256 : Int)),
          Value.int IntKind.u8 (intAt xs (7 : Nat) / (281474976710656 : Int) % (256 : Int)),
          Value.int IntKind.u8 (intAt xs (7 : Nat) / (72057594037927936 : Int) % (256 : Int)),
          Value.int IntKind.u8 (intAt xs (6 : Nat) % (256 : Int)),
          Value.int IntKind.u8 (intAt xs (6 : Nat) / (256 : Int) % (256 : Int)),
          Value.int IntKind.u8 (intAt xs (6 : Nat) / (65536 : Int) % (256 : Int)),
          Value.int IntKind.u8 (intAt xs (6 : Nat) / (16777216 : Int) % (256 : Int)),
          Value.int IntKind.u8 (intAt xs (6 : Nat) / (4294967296 : Int) % (256 : Int)),
          Value.int IntKind.u8 (intAt xs (6 : Nat) / (1099511627776 : Int) % (256 : Int)),
          Value.int IntKind.u8 (intAt xs (6 : Nat) / (281474976710656 : Int) % (256 : Int)),
          Value.int IntKind.u8 (intAt xs (6 : Nat) / (72057594037927936 : Int) % (256 : Int)),
          Value.int IntKind.u8 (intAt xs (9 : Nat) % (256 : Int)),
          Value.int IntKind.u8 (intAt xs (9 : Nat) / (256 : Int) % (256 : Int)),
          Value.int IntKind.u8 (intAt xs (9 : Nat) / (65536 : Int) % (256 : Int)),
          Value.int IntKind.u8 (intAt xs (9 : Nat) / (16777216 : Int) % (256 : Int)),
          Value.int IntKind.u8 (intAt xs (9 : Nat) / (4294967296 : Int) % (256 : Int)),
          Value.int IntKind.u8 (intAt xs (9 : Nat) / (1099511627776 : Int) % (256 : Int)),
          Value.int IntKind.u8 (intAt xs (9 : Nat) / (281474976710656 : Int) % (256 : Int)),
          Value.int IntKind.u8 (intAt xs (9 : Nat) / (72057594037927936 : Int) % (256 : Int)),
          Value.int IntKind.u8 (intAt xs (8 : Nat) % (256 : Int)),
          Value.int IntKind.u8 (intAt xs (8 : Nat) / (256 : Int) % (256 : Int)),
          Value.int IntKind.u8 (intAt xs (8 : Nat) / (65536 : Int) % (256 : Int)),
          Value.int IntKind.u8 (intAt xs (8 : Nat) / (16777216 : Int) % (256 : Int)),
          Value.int IntKind.u8 (intAt xs (8 : Nat) / (4294967296 : Int) % (256 : Int)),
          Value.int IntKind.u8 (intAt xs (8 : Nat) / (1099511627776 : Int) % (256 : Int)),
          Value.int IntKind.u8 (intAt xs (8 : Nat) / (281474976710656 : Int) % (256 : Int)),
          Value.int IntKind.u8 (intAt xs (8 : Nat) / (72057594037927936 : Int) % (256 : Int)),
          Value.int IntKind.u8 (intAt xs (11 : Nat) % (256 : Int)),
          Value.int IntKind.u8 (intAt xs (11 : Nat) / (256 : Int) % (256 : Int)),
          Value.int IntKind.u8 (intAt xs (11 : Nat) / (65536 : Int) % (256 : Int)),
          Value.int IntKind.u8 (intAt xs (11 : Nat) / (16777216 : Int) % (256 : Int)),
          Value.int IntKind.u8 (intAt xs (11 : Nat) / (4294967296 : Int) % (256 : Int)),
          Value.int IntKind.u8 (intAt xs (11 : Nat) / (1099511627776 : Int) % (256 : Int)),
          Value.int IntKind.u8 (intAt xs (11 : Nat) / (281474976710656 : Int) % (256 : Int)),
          Value.int IntKind.u8 (intAt xs (11 : Nat) / (72057594037927936 : Int) % (256 : Int)),
          Value.int IntKind.u8 (intAt xs (10 : Nat) % (256 : Int)),
          Value.int IntKind.u8 (intAt xs (10 : Nat) / (256 : Int) % (256 : Int)),
          Value.int IntKind.u8 (intAt xs (10 : Nat) / (65536 : Int) % (256 : Int)),
          Value.int IntKind.u8 (intAt xs (10 : Nat) / (16777216 : Int) % (256 : Int)),
          Value.int IntKind.u8 (intAt xs (10 : Nat) / (4294967296 : Int) % (256 : Int)),
          Value.int IntKind.u8 (intAt xs (10 : Nat) / (1099511627776 : Int) % (256 : Int)),
          Value.int IntKind.u8 (intAt xs (10 : Nat) / (281474976710656 : Int) % (256 : Int)),
          Value.int IntKind.u8 (intAt xs (10 : Nat) / (72057594037927936 : Int) % (256 : Int)),
          Value.int IntKind.u8 (intAt xs (13 : Nat) % (256 : Int)),
          Value.int IntKind.u8 (intAt xs (13 : Nat) / (256 : Int) % (256 : Int)),
          Value.int IntKind.u8 (intAt xs (13 : Nat) / (65536 : Int) % (256 : Int)),
          Value.int IntKind.u8 (intAt xs (13 : Nat) / (16777216 : Int) % (256 : Int)),
          Value.int IntKind.u8 (intAt xs (13 : Nat) / (4294967296 : Int) % (256 : Int)),
          Value.int IntKind.u8 (intAt xs (13 : Nat) / (1099511627776 : Int) % (256 : Int)),
          Value.int IntKind.u8 (intAt xs (13 : Nat) / (281474976710656 : Int) % (256 : Int)),
          Value.int IntKind.u8 (intAt xs (13 : Nat) / (72057594037927936 : Int) % (256 : Int)),
          Value.int IntKind.u8 (intAt xs (12 : Nat) % (256 : Int)),
          Value.int IntKind.u8 (intAt xs (12 : Nat) / (256 : Int) % (256 : Int)),
          Value.int IntKind.u8 (intAt xs (12 : Nat) / (65536 : Int) % (256 : Int)),
          Value.int IntKind.u8 (intAt xs (12 : Nat) / (16777216 : Int) % (256 : Int)),
          Value.int IntKind.u8 (intAt xs (12 : Nat) / (4294967296 : Int) % (256 : Int)),
          Value.int IntKind.u8 (intAt xs (12 : Nat) / (1099511627776 : Int) % (256 : Int)),
          Value.int IntKind.u8 (intAt xs (12 : Nat) / (281474976710656 : Int) % (256 : Int)),
          Value.int IntKind.u8 (intAt xs (12 : Nat) / (72057594037927936 : Int) % (256 : Int))]),
    [],
    [List.take (2 : Nat) (List.drop (0 : Nat) xs) =
        [Value.int IntKind.u64 (intAt xs (0 : Nat)), Value.int IntKind.u64 (intAt xs (1 : Nat))],
      List.take (2 : Nat) (List.drop (2 : Nat) xs) =
        [Value.int IntKind.u64 (intAt xs (2 : Nat)), Value.int IntKind.u64 (intAt xs (3 : Nat))],
      List.take (2 : Nat) (List.drop (4 : Nat) xs) =
        [Value.int IntKind.u64 (intAt xs (4 : Nat)), Value.int IntKind.u64 (intAt xs (5 : Nat))],
      List.take (2 : Nat) (List.drop (6 : Nat) xs) =
        [Value.int IntKind.u64 (intAt xs (6 : Nat)), Value.int IntKind.u64 (intAt xs (7 : Nat))],
      List.take (2 : Nat) (List.drop (8 : Nat) xs) =
        [Value.int IntKind.u64 (intAt xs (8 : Nat)), Value.int IntKind.u64 (intAt xs (9 : Nat))],
      List.take (2 : Nat) (List.drop (10 : Nat) xs) =
        [Value.int IntKind.u64 (intAt xs (10 : Nat)), Value.int IntKind.u64 (intAt xs (11 : Nat))],
      List.take (2 : Nat) (List.drop (12 : Nat) xs) =
        [Value.int IntKind.u64 (intAt xs (12 : Nat)), Value.int IntKind.u64 (intAt xs (13 : Nat))]]) := by kernel_rfl
theorem oi_8 (xs : List Value) (c : Nat) : prjR 24 (runZ (idV id0) Try.prog 8 23 [.slice (some ⟨0, 0, none⟩) 8 c] [(0, ⟨.old, xs⟩)] 1 []) =
Res.ok
  ((Value.tuple
        (Array.mk
          [Value.slice (some (Addr.mk (24 : Nat) (0 : Nat) none)) (128 : Nat) (capBig + (24 : Nat)),
            Value.int IntKind.i64 (0 : Int)]),
      Rw.mk (Kd.room (1 : Nat) [Value.int IntKind.u8 (0 : Int)])
        [Value.int IntKind.u8 (intAt xs (1 : Nat) % (256 : Int)),
          Value.int IntKind.u8 (intAt xs (1 : Nat) / (256 : Int) % (256 : Int)),
          Value.int IntKind.u8 (intAt xs (1 : Nat) / (65536 : Int) % (256 : Int)),
          Value.int IntKind.u8 (intAt xs (1 : Nat) / (16777216 : Int) % (256 : Int)),
          Value.int IntKind.u8 (intAt xs (1 : Nat) / (4294967296 : Int) % (256 : Int)),
          Value.int IntKind.u8 (intAt xs (1 : Nat) / (1099511627776 : Int) % (256 : Int)),
          Value.int IntKind.u8 (intAt xs (1 : Nat) / (281474976710656 : Int) % (256 : Int)),
          Value.int IntKind.u8 (intAt xs (1 : Nat) / (72057594037927936 : Int) % (256 : Int)),
          Value.int IntKind.u8 (intAt xs (0 : Nat) % (256 : Int)),
          Value.int IntKind.u8 (intAt xs (0 : Nat) / (256 : Int) % (256 : Int)),
          Value.int IntKind.u8 (intAt xs (0 : Nat) / (65536 : Int) % (256 : Int)),
          Value.int IntKind.u8 (intAt xs (0 : Nat) / (16777216 : Int) % (256 : Int)),
          Value.int IntKind.u8 (intAt xs (0 : Nat) / (4294967296 : Int) % (256 : Int)),
          Value.int IntKind.u8 (intAt xs (0 : Nat) / (1099511627776 : Int) % (256 : Int)),
          Value.int IntKind.u8 (intAt xs (0 : Nat) / (281474976710656 : Int) % (256 : Int)),
          Value.int IntKind.u8 (intAt xs (0 : Nat) / (72057594037927936 : Int) % (256 : Int)),
          Value.int IntKind.u8 (intAt xs (3 : Nat) % (256 : Int)),
          Value.int IntKind.u8 (intAt xs (3 : Nat) / (256 : Int) % (256 : Int)),
          Value.int IntKind.u8 (intAt xs (3 : Nat) / (65536 : Int) % (256 : Int)),
          Value.int IntKind.u8 (intAt xs (3 : Nat) / (16777216 : Int) % (256 : Int)),
          Value.int IntKind.u8 (intAt xs (3 : Nat) / (4294967296 : Int) % (256 : Int)),
          Value.int IntKind.u8 (intAt xs (3 : Nat) / (1099511627776 : Int) % (256 : Int)),
          Value.int IntKind.u8 (intAt xs (3 : Nat) / (281474976710656 : Int) % (256 : Int)),
          Value.int IntKind.u8 (intAt xs (3 : Nat) / (72057594037927936 : Int) % (256 : Int)),
          Value.int IntKind.u8 (intAt xs (2 : Nat) % (256 : Int)),
          Value.int IntKind.u8 (intAt xs (2 : Nat) / (256 : Int) % (256 : Int)),
          Value.int IntKind.u8 (intAt xs (2 : Nat) / (65536 : Int) % (256 : Int)),
          Value.int IntKind.u8 (intAt xs (2 : Nat) / (16777216 : Int) % (256 : Int)),
          Value.int IntKind.u8 (intAt xs (2 : Nat) / (4294967296 : Int) % (256 : Int)),
          Value.int IntKind.u8 (intAt xs (2 : Nat) / (1099511627776 : Int) % (256 : Int)),
          Value.int IntKind.u8 (intAt xs (2 : Nat) / (281474976710656 : Int) % (256 : Int)),
          Value.int IntKind.u8 (intAt xs (2 : Nat) / (72057594037927936 : Int) % (256 : Int)),
          Value.int IntKind.u8 (intAt xs (5 : Nat) % (256 : Int)),
          Value.int IntKind.u8 (intAt xs (5 : Nat) / (256 : Int) % (256 : Int)),
          Value.int IntKind.u8 (intAt xs (5 : Nat) / (65536 : Int) % (256 : Int)),
          Value.int IntKind.u8 (intAt xs (5 : Nat) / (16777216 : Int) % (256 : Int)),
          Value.int IntKind.u8 (intAt xs (5 : Nat) / (4294967296 : Int) % (256 : Int)),
          Value.int IntKind.u8 (intAt xs (5 : Nat) / (1099511627776 : Int) % (256 : Int)),
          Value.int IntKind.u8 (intAt xs (5 : Nat) / (281474976710656 : Int) % (256 : Int)),
          Value.int IntKind.u8 (intAt xs (5 : Nat) / (72057594037927936 : Int) % (256 : Int)),
          Value.int IntKind.u8 (intAt xs (4 : Nat) % (256 : Int)),
          Value.int IntKind.u8 (intAt xs (4 : Nat) / (256 : Int) % (256 : Int)),
          Value.int IntKind.u8 (intAt xs (4 : Nat) / (65536 : Int) % (256 : Int)),
          Value.int IntKind.u8 (intAt xs (4 : Nat) / (16777216 : Int) % (256 : Int)),
          Value.int IntKind.u8 (intAt xs (4 : Nat) / (4294967296 : Int) % (256 : Int)),
          Value.int IntKind.u8 (intAt xs (4 : Nat) / (1099511627776 : Int) % (256 : Int)),
          Value.int IntKind.u8 (intAt xs (4 : Nat) / (281474976710656 : Int) % (256 : Int)),
          Value.int IntKind.u8 (intAt xs (4 : Nat) / (72057594037927936 : Int) % (256 : Int)),
          Value.int IntKind.u8 (intAt xs (7 : Nat) % (256 : Int)),
          Value.int IntKind.u8 (intAt xs (7 : Nat) / (256 : Int) % (256 : Int)),
          Value.int IntKind.u8 (intAt xs (7 : Nat) / (65536 : Int) % (256 : Int)),
          Value.int IntKind.u8 (intAt xs (7 : Nat) / (16777216 : Int) % (256 : Int)),
          Value.int IntKind.u8 (intAt xs (7 : Nat) / (4294967296 : Int) % (256 : Int)),
          Value.int IntKind.u8 (intAt xs (7 : Nat) / (1099511627776 : Int) % (256 : Int)),
          Value.int IntKind.u8 (intAt xs (7 : Nat) / (281474976710656 : Int) % (256 : Int)),
          Value.int IntKind.u8 (intAt xs (7 : Nat) / (72057594037927936 : Int) % (256 : Int)),
          Value.int IntKind.u8 (intAt xs (6 : Nat) % (256 : Int)),
          Value.int IntKind.u8 (intAt xs (6 : Nat) / (256 : Int) % (256 : Int)),
          Value.int IntKind.u8 (intAt xs (6 : Nat) / (65536 : Int) % (256 : Int)),
          Value.int IntKind.u8 (intAt xs (6 : Nat) / (16777216 : Int) % (256 : Int)),
          Value.int IntKind.u8 (intAt xs (6 : Nat) / (4294967296 : Int) % (256 : Int)),
          Value.int IntKind.u8 (intAt xs (6 : Nat) / (1099511627776 : Int) % (256 : Int)),
          Value.int IntKind.u8 (intAt xs (6 : Nat) / (281474976710656 : Int) % (256 : Int)),
          Value.int IntKind.u8 (intAt xs (6 : Nat) / (72057594037927936 : Int) % (256 : Int)),
          Value.int IntKind.u8 (intAt xs (9 : Nat) % (256 : Int)),
          Value.int IntKind.u8 (intAt xs (9 : Nat) / (256 : Int) % (256 : Int)),
          Value.int IntKind.u8 (intAt xs (9 : Nat) / (65536 : Int) % (256 : Int)),
          Value.int IntKind.u8 (intAt xs (9 : Nat) / (16777216 : Int) % (256 : Int)),
          Value.int IntKind.u8 (intAt xs (9 : Nat) / (4294967296 : Int) % (256 : Int)),
          Value.int IntKind.u8 (intAt xs (9 : Nat) / (1099511627776 : Int) % (256 : Int)),
          Value.int IntKind.u8 (intAt xs (9 : Nat) / (281474976710656 : Int) % (256 : Int)),
          Value.int IntKind.u8 (intAt xs (9 : Nat) / (72057594037927936 : Int) % (256 : Int)),
          Value.int IntKind.u8 (intAt xs (8 : Nat) % (256 : Int)),
          Value.int IntKind.u8 (intAt xs (8 : Nat) / (256 : Int) % (256 : Int)),
          Value.int IntKind.u8 (intAt xs (8 : Nat) / (65536 : Int) % (256 : Int)),
          Value.int IntKind.u8 (intAt xs (8 : Nat) / (16777216 : Int) % (256 : Int)),
          Value.int IntKind.u8 (intAt xs (8 : Nat) / (4294967296 : Int) % (256 : Int)),
          Value.int IntKind.u8 (intAt xs (8 : Nat) / (1099511627776 : Int) % (256 : Int)),
          Value.int IntKind.u8 (intAt xs (8 : Nat) / (281474976710656 : Int) % (256 : Int)),
          Value.int IntKind.u8 (intAt xs (8 : Nat) / (72057594037927936 : Int) % (256 : Int)),
          Value.int IntKind.u8 (intAt xs (11 : Nat) % (256 : Int)),
          Value.int IntKind.u8 (intAt xs (11 : Nat) / (256 : Int) % (256 : Int)),
          Value.int IntKind.u8 (intAt xs (11 : Nat) / (65536 : Int) % (256 : Int)),
          Value.int IntKind.u8 (intAt xs (11 : Nat) / (16777216 : Int) % (256 : Int)),
          Value.int IntKind.u8 (intAt xs (11 : Nat) / (4294967296 : Int) % (256 : Int)),
          Value.int IntKind.u8 (intAt xs (11 : Nat) / (1099511627776 : Int) % (256 : Int)),
          Value.int IntKind.u8 (intAt xs (11 : Nat) / (281474976710656 : Int) % (256 : Int)),
          Value.int IntKind.u8 (intAt xs (11 : Nat) / (72057594037927936 : Int) % (256 : Int)),
          Value.int IntKind.u8 (intAt xs (10 : Nat) % (256 : Int)),
          Value.int IntKind.u8 (intAt xs (10 : Nat) / (256 : Int) % (256 : Int)),
          Value.int IntKind.u8 (intAt xs (10 : Nat) / (65536 : Int) % (256 : Int)),
          Value.int IntKind.u8 (intAt xs (10 : Nat) / (16777216 : Int) % (256 : Int)),
          Value.int IntKind.u8 (intAt xs (10 : Nat) / (4294967296 : Int) % (256 : Int)),
          Value.int IntKind.u8 (intAt xs (10 : Nat) / (1099511627776 : Int) % (256 : Int)),
          Value.int IntKind.u8 (intAt xs (10 : Nat) / (281474976710656 : Int) % (256 : Int)),
          Value.int IntKind.u8 (intAt xs (10 : Nat) / (72057594037927936 : Int) % (256 : Int)),
          Value.int IntKind.u8 (intAt xs (13 : Nat) % (256 : Int)),
          Value.int IntKind.u8 (intAt xs (13 : Nat) / (256 : Int) % (256 : Int)),
          Value.int IntKind.u8 (intAt xs (13 : Nat) / (65536 : Int) % (256 : Int)),
          Value.int IntKind.u8 (intAt xs (13 : Nat) / (16777216 : Int) % (256 : Int)),
          Value.int IntKind.u8 (intAt xs (13 : Nat) / (4294967296 : Int) % (256 : Int)),
          Value.int IntKind.u8 (intAt xs (13 : Nat) / (1099511627776 : Int) % (256 : Int)),
          Value.int IntKind.u8 (intAt xs (13 : Nat) / (281474976710656 : Int) % (256 : Int)),
          Value.int IntKind.u8 (intAt xs (13 : Nat) / (72057594037927936 : Int) % (256 : Int)),
          Value.int IntKind.u8 (intAt xs (12 : Nat) % (256 : Int)),
          Value.int IntKind.u8 (intAt xs (12 : Nat) / (256 : Int) % (256 : Int)),
          Value.int IntKind.u8 (intAt xs (12 : Nat) / (65536 : Int) % (256 : Int)),
          Value.int IntKind.u8 (intAt xs (12 : Nat) / (16777216 : Int) % (256 : Int)),
          Value.int IntKind.u8 (intAt xs (12 : Nat) / (4294967296 : Int) % (256 : Int)),
          Value.int IntKind.u8 (intAt xs (12 : Nat) / (1099511627776 : Int) % (256 : Int)),
          Value.int IntKind.u8 (intAt xs (12 : Nat) / (281474976710656 : Int) % (256 : Int)),
          Value.int IntKind.u8 (intAt xs (12 : Nat) / (72057594037927936 : Int) % (256 : Int)),
          Value.int IntKind.u8 (intAt xs (15 : Nat) % (256 : Int)),
          Value.int IntKind.u8 (intAt xs (15 : Nat) / (256 : Int) % (256 : Int)),
          Value.int IntKind.u8 (intAt xs (15 : Nat) / (65536 : Int) % (256 : Int)),
          Value.int IntKind.u8 (intAt xs (15 : Nat) / (16777216 : Int) % (256 : Int)),
          Value.int IntKind.u8 (intAt xs (15 : Nat) / (4294967296 : Int) % (256 : Int)),
          Value.int IntKind.u8 (intAt xs (15 : Nat) / (1099511627776 : Int) % (256 : Int)),
          Value.int IntKind.u8 (intAt xs (15 : Nat) / (281474976710656 : Int) % (256 : Int)),
          Value.int IntKind.u8 (intAt xs (15 : Nat) / (72057594037927936 : Int) % (256 : Int)),
          Value.int IntKind.u8 (intAt xs (14 : Nat) % (256 : Int)),
          Value.int IntKind.u8 (intAt xs (14 : Nat) / (256 : Int) % (256 : Int)),
          Value.int IntKind.u8 (intAt xs (14 : Nat) / (65536 : Int) % (256 : Int)),
          Value.int IntKind.u8 (intAt xs (14 : Nat) / (16777216 : Int) % (256 : Int)),
          Value.int IntKind.u8 (intAt xs (14 : Nat) / (4294967296 : Int) % (256 : Int)),
          Value.int IntKind.u8 (intAt xs (14 : Nat) / (1099511627776 : Int) % (256 : Int)),
          Value.int IntKind.u8 (intAt xs (14 : Nat) / (281474976710656 : Int) % (256 : Int)),
          Value.int IntKind.u8 (intAt xs (14 : Nat) / (72057594037927936 : Int) % (256 : Int))]),
    [],
    [List.take (2 : Nat) (List.drop (0 : Nat) xs) =
        [Value.int IntKind.u64 (intAt xs (0 : Nat)), Value.int IntKind.u64 (intAt xs (1 : Nat))],
      List.take (2 : Nat) (List.drop (2 : Nat) xs) =
        [Value.int IntKind.u64 (intAt xs (2 : Nat)), Value.int IntKind.u64 (intAt xs (3 : Nat))],
      List.take (2 : Nat) (List.drop (4 : Nat) xs) =
        [Value.int IntKind.u64 (intAt xs (4 : Nat)), Value.int IntKind.u64 (intAt xs (5 : Nat))],
      List.take (2 : Nat) (List.drop (6 : Nat) xs) =
        [Value.int IntKind.u64 (intAt xs (6 : Nat)), Value.int IntKind.u64 (intAt xs (7 : Nat))],
      List.take (2 : Nat) (List.drop (8 : Nat) xs) =
        [Value.int IntKind.u64 (intAt xs (8 : Nat)), Value.int IntKind.u64 (intAt xs (9 : Nat))],
      List.take (2 : Nat) (List.drop (10 : Nat) xs) =
        [Value.int IntKind.u64 (intAt xs (10 : Nat)), Value.int IntKind.u64 (intAt xs (11 : Nat))],
      List.take (2 : Nat) (List.drop (12 : Nat) xs) =
        [Value.int IntKind.u64 (intAt xs (12 : Nat)), Value.int IntKind.u64 (intAt xs (13 : Nat))],
      List.take (2 : Nat) (List.drop (14 : Nat) xs) =
        [Value.int IntKind.u64 (intAt xs (14 : Nat)), Value.int IntKind.u64 (intAt xs (15 : Nat))]]) := by kernel_rfl
theorem oj_1 (xs : List Value) (c : Nat) : prjR 2 (runZ (idV id0) Try.prog 8 24 [.slice (some ⟨0, 0, none⟩) 1 c] [(0, ⟨.old, xs⟩)] 1 []) =
Res.ok
  ((Value.tuple
        (Array.mk
          [Value.slice (some (Addr.mk (2 : Nat) (0 : Nat) none)) (16 : Nat) (capBig + (2 : Nat)),
            Value.int IntKind.i64 (0 : Int)]),
      Rw.mk (Kd.room (1 : Nat) [Value.int IntKind.u8 (0 : Int)])
        [Value.int IntKind.u8 (intAt xs (1 : Nat) % (256 : Int)),
          Value.int IntKind.u8 (intAt xs (1 : Nat) / (256 : Int) % (256 : Int)),
          Value.int IntKind.u8 (intAt xs (1 : Nat) / (65536 : Int) % (256 : Int)),
          Value.int IntKind.u8 (intAt xs (1 : Nat) / (16777216 : Int) % (256 : Int)),
          Value.int IntKind.u8 (intAt xs (1 : Nat) / (4294967296 : Int) % (256 : Int)),
          Value.int IntKind.u8 (intAt xs (1 : Nat) / (1099511627776 : Int) % (256 : Int)),
          Value.int IntKind.u8 (intAt xs (1 : Nat) / (281474976710656 : Int) % (256 : Int)),
          Value.int IntKind.u8 (intAt xs (1 : Nat) / (72057594037927936 : Int) % (256 : Int)),
          Value.int IntKind.u8 (intAt xs (0 : Nat) % (256 : Int)),
          Value.int IntKind.u8 (intAt xs (0 : Nat) / (256 : Int) % (256 : Int)),
          Value.int IntKind.u8 (intAt xs (0 : Nat) / (65536 : Int) % (256 : Int)),
          Value.int IntKind.u8 (intAt xs (0 : Nat) / (16777216 : Int) % (256 : Int)),
          Value.int IntKind.u8 (intAt xs (0 : Nat) / (4294967296 : Int) % (256 : Int)),
          Value.int IntKind.u8 (intAt xs (0 : Nat) / (1099511627776 : Int) % (256 : Int)),
          Value.int IntKind.u8 (intAt xs (0 : Nat) / (281474976710656 : Int) % (256 : Int)),
          Value.int IntKind.u8 (intAt xs (0 : Nat) / (72057594037927936 : Int) % (256 : Int))]),
    [],
    [List.take (2 : Nat) (List.drop (0 : Nat) xs) =
        [Value.int IntKind.u64 (intAt xs (0 : Nat)), Value.int IntKind.u64 (intAt xs (1 : Nat))]]) := by kernel_rfl
theorem oj_2 (xs : List Value) (c : Nat) : prjR 4 (runZ (idV id0) Try.prog 8 24 [.slice (some ⟨0, 0, none⟩) 2 c] [(0, ⟨.old, xs⟩)] 1 []) =
Res.ok
  ((Value.tuple
        (Array.mk
          [Value.slice (some (Addr.mk (4 : Nat) (0 : Nat) none)) (32 : Nat) (capBig + (4 : Nat)),
            Value.int IntKind.i64 (0 : Int)]),
      Rw.mk (Kd.room (1 : Nat) [Value.int IntKind.u8 (0 : Int)])
        [Value.int IntKind.u8 (intAt xs (1 : Nat) % (256 : Int)),
          Value.int IntKind.u8 (intAt xs (1 : Nat) / (256 : Int) % (256 : Int)),
          Value.int IntKind.u8 (intAt xs (1 : Nat) / (65536 : Int) % (256 : Int)),
          Value.int IntKind.u8 (intAt xs (1 : Nat) / (16777216 : Int) % (256 : Int)),
          Value.int IntKind.u8 (intAt xs (1 : Nat) / (4294967296 : Int) % (256 : Int)),
          Value.int IntKind.u8 (intAt xs (1 : Nat) / (1099511627776 : Int) % (256 : Int)),
          Value.int IntKind.u8 (intAt xs (1 : Nat) / (281474976710656 : Int) % (256 : Int)),
          Value.int IntKind.u8 (intAt xs (1 : Nat) / (72057594037927936 : Int) % (256 : Int)),
          Value.int IntKind.u8 (intAt xs (0 : Nat) % (256 : Int)),
          Value.int IntKind.u8 (intAt xs (0 : Nat) / (256 : Int) % (256 : Int)),
          Value.int IntKind.u8 (intAt xs (0 : Nat) / (65536 : Int) % (256 : Int)),
          Value.int IntKind.u8 (intAt xs (0 : Nat) / (16777216 : Int) % (256 : Int)),
          Value.int IntKind.u8 (intAt xs (0 : Nat) / (4294967296 : Int) % (256 : Int)),
          Value.int IntKind.u8 (intAt xs (0 : Nat) / (1099511627776 : Int) % (256 : Int)),
          Value.int IntKind.u8 (intAt xs (0 : Nat) / (281474976710656 : Int) % (256 : Int)),
          Value.int IntKind.u8 (intAt xs (0 : Nat) / (72057594037927936 : Int) % (256 : Int)),
          Value.int IntKind.u8 (intAt xs (3 : Nat) % (256 : Int)),
          Value.int IntKind.u8 (intAt xs (3 : Nat) / (256 : Int) % (256 : Int)),
          Value.int IntKind.u8 (intAt xs (3 : Nat) / (65536 : Int) % (256 : Int)),
          Value.int IntKind.u8 (intAt xs (3 : Nat) / (16777216 : Int) % (256 : Int)),
          Value.int IntKind.u8 (intAt xs (3 : Nat) / (4294967296 : Int) % (256 : Int)),
          Value.int IntKind.u8 (intAt xs (3 : Nat) / (1099511627776 : Int) % (256 : Int)),
          Value.int IntKind.u8 (intAt xs (3 : Nat) / (281474976710656 : Int) % (256 : Int)),
          Value.int IntKind.u8 (intAt xs (3 : Nat) / (72057594037927936 : Int) % (256 : Int)),
          Value.int IntKind.u8 (intAt xs (2 : Nat) % (256 : Int)),
          Value.int IntKind.u8 (intAt xs (2 : Nat) / (256 : Int) % (256 : Int)),
          Value.int IntKind.u8 (intAt xs (2 : Nat) / (65536 : Int) % (256 : Int)),
          Value.int IntKind.u8 (intAt xs (2 : Nat) / (16777216 : Int) % (256 : Int)),
          Value.int IntKind.u8 (intAt xs (2 : Nat) / (4294967296 : Int) % (256 : Int)),
          Value.int IntKind.u8 (intAt xs (2 : Nat) / (1099511627776 : Int) % (256 : Int)),
          Value.int IntKind.u8 (intAt xs (2 : Nat) / (281474976710656 : Int) % (256 : Int)),
          Value.int IntKind.u8 (intAt xs (2 : Nat) / (72057594037927936 : Int) % (256 : Int))]),
    [],
    [List.take (2 : Nat) (List.drop (0 : Nat) xs) =
        [Value.int IntKind.u64 (intAt xs (0 : Nat)), Value.int IntKind.u64 (intAt xs (1 : Nat))],
      List.take (2 : Nat) (List.drop (2 : Nat) xs) =
        [Value.int IntKind.u64 (intAt xs (2 : Nat)), Value.int IntKind.u64 (intAt xs (3 : Nat))]]) := by kernel_rfl
theorem oj_3 (xs : List Value) (c : Nat) : prjR 6 (runZ (idV id0) Try.prog 8 24 [.slice (some ⟨0, 0, none⟩) 3 c] [(0, ⟨.old, xs⟩)] 1 []) =
Res.ok
  ((Value.tuple
        (Array.mk
          [Value.slice (some (Addr.mk (6 : Nat) (0 : Nat) none)) (48 : Nat) (capBig + (6 : Nat)),
            Value.int IntKind.i64 (0 : Int)]),
      Rw.mk (Kd.room (1 : Nat) [Value.int IntKind.u8 (0 : Int)])
        [Value.int IntKind.u8 (intAt xs (1 : Nat) % (256 : Int)),
          Value.int IntKind.u8 (intAt xs (1 : Nat) / (256 : Int) % (256 : Int)),
          Value.int IntKind.u8 (intAt xs (1 : Nat) / (65536 : Int) % (256 : Int)),
          Value.int IntKind.u8 (intAt xs (1 : Nat) / (16777216 : Int) % (256 : Int)),
          Value.int IntKind.u8 (intAt xs (1 : Nat) / (4294967296 : Int) % (256 : Int)),
          Value.int IntKind.u8 (intAt xs (1 : Nat) / (1099511627776 : Int) % (256 : Int)),
          Value.int IntKind.u8 (intAt xs (1 : Nat) / (281474976710656 : Int) % (256 : Int)),
          Value.int IntKind.u8 (intAt xs (1 : Nat) / (72057594037927936 : Int) % (256 : Int)),
          Value.int IntKind.u8 (intAt xs (0 : Nat) % (256 : Int)),
          Value.int IntKind.u8 (intAt xs (0 : Nat) / (256 : Int) % (256 : Int)),
          Value.int IntKind.u8 (intAt xs (0 : Nat) / (65536 : Int) % (256 : Int)),
          Value.int IntKind.u8 (intAt xs (0 : Nat) / (16777216 : Int) % (256 : Int)),
          Value.int IntKind.u8 (intAt xs (0 : Nat) / (4294967296 : Int) % (256 : Int)),
          Value.int IntKind.u8 (intAt xs (0 : Nat) / (1099511627776 : Int) % (256 : Int)),
          Value.int IntKind.u8 (intAt xs (0 : Nat) / (281474976710656 : Int) % (256 : Int)),
          Value.int IntKind.u8 (intAt xs (0 : Nat) / (72057594037927936 : Int) % (256 : Int)),
          Value.int IntKind.u8 (intAt xs (3 : Nat) % (256 : Int)),
          Value.int IntKind.u8 (intAt xs (3 : Nat) / (256 : Int) % (256 : Int)),
          Value.int IntKind.u8 (intAt xs (3 : Nat) / (65536 : Int) % (256 : Int)),
          Value.int IntKind.u8 (intAt xs (3 : Nat) / (16777216 : Int) % (256 : Int)),
          Value.int IntKind.u8 (intAt xs (3 : Nat) / (4294967296 : Int) % (256 : Int)),
          Value.int IntKind.u8 (intAt xs (3 : Nat) / (1099511627776 : Int) % (256 : Int)),
          Value.int IntKind.u8 (intAt xs (3 : Nat) / (281474976710656 : Int) % (256 : Int)),
          Value.int IntKind.u8 (intAt xs (3 : Nat) / (72057594037927936 : Int) % (256 : Int)),
          Value.int IntKind.u8 (intAt xs (2 : Nat) % (256 : Int)),
          Value.int IntKind.u8 (intAt xs (2 : Nat) / (256 : Int) % (256 : Int)),
          Value.int IntKind.u8 (intAt xs (2 : Nat) / (65536 : Int) % (256 : Int)),
          Value.int IntKind.u8 (intAt xs (2 : Nat) / (16777216 : Int) % (256 : Int)),
          Value.int IntKind.u8 (intAt xs (2 : Nat) / (4294967296 : Int) % (256 : Int)),
          Value.int IntKind.u8 (intAt xs (2 : Nat) / (1099511627776 : Int) % (256 : Int)),
          Value.int IntKind.u8 (intAt xs (2 : Nat) / (281474976710656 : Int) % (256 : Int)),
          Value.int IntKind.u8 (intAt xs (2 : Nat) / (72057594037927936 : Int) % (256 : Int)),
          Value.int IntKind.u8 (intAt xs (5 : Nat) % (256 : Int)),
          Value.int IntKind.u8 (intAt xs (5 : Nat) / (256 : Int) % (256 : Int)),
          Value.int IntKind.u8 (intAt xs (5 : Nat) / (65536 : Int) % (256 : Int)),
          Value.int IntKind.u8 (intAt xs (5 : Nat) / (16777216 : Int) % (256 : Int)),
          Value.int IntKind.u8 (intAt xs (5 : Nat) / (4294967296 : Int) % (256 : Int)),
          Value.int IntKind.u8 (intAt xs (5 : Nat) / (1099511627776 : Int) % (256 : Int)),
          Value.int IntKind.u8 (intAt xs (5 : Nat) / (281474976710656 : Int) % (256 : Int)),
          Value.int IntKind.u8 (intAt xs (5 : Nat) / (72057594037927936 : Int) % (256 : Int)),
          Value.int IntKind.u8 (intAt xs (4 : Nat) % (256 : Int)),
          Value.int IntKind.u8 (intAt xs (4 : Nat) / (256 : Int) % (256 : Int)),
          Value.int IntKind.u8 (intAt xs (4 : Nat) / (65536 : Int) % (256 : Int)),
          Value.int IntKind.u8 (intAt xs (4 : Nat) / (16777216 : Int) % (256 : Int)),
          Value.int IntKind.u8 (intAt xs (4 : Nat) / (4294967296 : Int) % (256 : Int)),
          Value.int IntKind.u8 (intAt xs (4 : Nat) / (1099511627776 : Int) % (256 : Int)),
          Value.int IntKind.u8 (intAt xs (4 : Nat) / (281474976710656 : Int) % (256 : Int)),
          Value.int IntKind.u8 (intAt xs (4 : Nat) / (72057594037927936 : Int) % (256 : Int))]),
    [],
    [List.take (2 : Nat) (List.drop (0 : Nat) xs) =
        [Value.int IntKind.u64 (intAt xs (0 : Nat)), Value.int IntKind.u64 (intAt xs (1 : Nat))],
      List.take (2 : Nat) (List.drop (2 : Nat) xs) =
        [Value.int IntKind.u64 (intAt xs (2 : Nat)), Value.int IntKind.u64 (intAt xs (3 : Nat))],
      List.take (2 : Nat) (List.drop (4 : Nat) xs) =
        [Value.int IntKind.u64 (intAt xs (4 : Nat)), Value.int IntKind.u64 (intAt xs (5 : Nat))]]) := by kernel_rfl
theorem oj_4 (xs : List Value) (c : Nat) : prjR 8 (runZ (idV id0) Try.prog 8 24 [.slice (some ⟨0, 0, none⟩) 4 c] [(0, ⟨.old, xs⟩)] 1 []) =
Res.ok
  ((Value.tuple
        (Array.mk
          [Value.slice (some (Addr.mk (8 : Nat) (0 : Nat) none)) (64 : Nat) (capBig + (8 : Nat)),
            Value.int IntKind.i64 (0 : Int)]),
      Rw.mk (Kd.room (1 : Nat) [Value.int IntKind.u8 (0 : Int)])
        [Value.int IntKind.u8 (intAt xs (1 : Nat) % (256 : Int)),
          Value.int IntKind.u8 (intAt xs (1 : Nat) / (256 : Int) % (256 : Int)),
          Value.int IntKind.u8 (intAt xs (1 : Nat) / (65536 : Int) % (256 : Int)),
          Value.int IntKind.u8 (intAt xs (1 : Nat) / (16777216 : Int) % (256 : Int)),
          Value.int IntKind.u8 (intAt xs (1 : Nat) / (4294967296 : Int) % (256 : Int)),
          Value.int IntKind.u8 (intAt xs (1 : Nat) / (1099511627776 : Int) % (256 : Int)),
          Value.int IntKind.u8 (intAt xs (1 : Nat) / (281474976710656 : Int) % (256 : Int)),
          Value.int IntKind.u8 (intAt xs (1 : Nat) / (72057594037927936 : Int) % (256 : Int)),
          Value.int IntKind.u8 (intAt xs (0 : Nat) % (256 : Int)),
          Value.int IntKind.u8 (intAt xs (0 : Nat) / (256 : Int) % (256 : Int)),
          Value.int IntKind.u8 (intAt xs (0 : Nat) / (65536 : Int) % (256 : Int)),
          Value.int IntKind.u8 (intAt xs (0 : Nat) / (16777216 : Int) % (256 : Int)),
          Value.int IntKind.u8 (intAt xs (0 : Nat) / (4294967296 : Int) % (256 : Int)),
          Value.int IntKind.u8 (intAt xs (0 : Nat) / (1099511627776 : Int) % (256 : Int)),
          Value.int IntKind.u8 (intAt xs (0 : Nat) / (281474976710656 : Int) % (256 : Int)),
          Value.int IntKind.u8 (intAt xs (0 : Nat) / (72057594037927936 : Int) % (256 : Int)),
          Value.int IntKind.u8 (intAt xs (3 : Nat) % (256 : Int)),
          Value.int IntKind.u8 (intAt xs (3 : Nat) / (256 : Int) % (256 : Int)),
          Value.int IntKind.u8 (intAt xs (3 : Nat) / (65536 : Int) % (256 : Int)),
          Value.int IntKind.u8 (intAt xs (3 : Nat) / (16777216 : Int) % (256 : Int)),
          Value.int IntKind.u8 (intAt xs (3 : Nat) / (4294967296 : Int) % (256 : Int)),
          Value.int IntKind.u8 (intAt xs (3 : Nat) / (1099511627776 : Int) % (256 : Int)),
          Value.int IntKind.u8 (intAt xs (3 : Nat) / (281474976710656 : Int) % (256 : Int)),
          Value.int IntKind.u8 (intAt xs (3 : Nat) / (72057594037927936 : Int) % (256 : Int)),
          Value.int IntKind.u8 (intAt xs (2 : Nat) % (256 : Int)),
          Value.int IntKind.u8 (intAt xs (2 : Nat) / (256 : Int) % (256 : Int)),
          Value.int IntKind.u8 (intAt xs (2 : Nat) / (65536 : Int) % (256 : Int)),
          Value.int IntKind.u8 (intAt xs (2 : Nat) / (16777216 : Int) % (256 : Int)),
          Value.int IntKind.u8 (intAt xs (2 : Nat) / (4294967296 : Int) % (256 : Int)),
          Value.int IntKind.u8 (intAt xs (2 : Nat) / (1099511627776 : Int) % (256 : Int)),
          Value.int IntKind.u8 (intAt xs (2 : Nat) / (281474976710656 : Int) % (256 : Int)),
          Value.int IntKind.u8 (intAt xs (2 : Nat) / (72057594037927936 : Int) % (256 : Int)),
          Value.int IntKind.u8 (intAt xs (5 : Nat) % (256 : Int)),
          Value.int IntKind.u8 (intAt xs (5 : Nat) / (256 : Int) % (256 : Int)),
          Value.int IntKind.u8 (intAt xs (5 : Nat) / (65536 : Int) % (256 : Int)),
          Value.int IntKind.u8 (intAt xs (5 : Nat) / (16777216 : Int) % (256 : Int)),
          Value.int IntKind.u8 (intAt xs (5 : Nat) / (4294967296 : Int) % (256 : Int)),
          Value.int IntKind.u8 (intAt xs (5 : Nat) / (1099511627776 : Int) % (256 : Int)),
          Value.int IntKind.u8 (intAt xs (5 : Nat) / (281474976710656 : Int) % (256 : Int)),
          Value.int IntKind.u8 (intAt xs (5 : Nat) / (72057594037927936 : Int) % (256 : Int)),
          Value.int IntKind.u8 (intAt xs (4 : Nat) % (256 : Int)),
          Value.int IntKind.u8 (intAt xs (4 : Nat) / (256 : Int) % (256 : Int)),
          Value.int IntKind.u8 (intAt xs (4 : Nat) / (65536 : Int) % (256 : Int)),
          Value.int IntKind.u8 (intAt xs (4 : Nat) / (16777216 : Int) % (256 : Int)),
          Value.int IntKind.u8 (intAt xs (4 : Nat) / (4294967296 : Int) % (256 : Int)),
          Value.int IntKind.u8 (intAt xs (4 : Nat) / (1099511627776 : Int) % (256 : Int)),
          Value.int IntKind.u8 (intAt xs (4 : Nat) / (281474976710656 : Int) % (256 : Int)),
          Value.int IntKind.u8 (intAt xs (4 : Nat) / (72057594037927936 : Int) % (256 : Int)),
          Value.int IntKind.u8 (intAt xs (7 : Nat) % (256 : Int)),
          Value.int IntKind.u8 (intAt xs (7 : Nat) / (256 : Int) % (256 : Int)),
          Value.int IntKind.u8 (intAt xs (7 : Nat) / (65536 : Int) % (256 : Int)),
          Value.int IntKind.u8 (intAt xs (7 : Nat) / (16777216 : Int) % (256 : Int)),
          Value.int IntKind.u8 (intAt xs (7 : Nat) / (4294967296 : Int) % (256 : Int)),
          Value.int IntKind.u8 (intAt xs (7 : Nat) / (1099511627776 : Int) % (256 : Int)),
          Value.int IntKind.u8 (intAt xs (7 : Nat) / (281474976710656 : Int) % (256 : Int)),
          Value.int IntKind.u8 (intAt xs (7 : Nat) / (72057594037927936 : Int) % (256 : Int)),
          Value.int IntKind.u8 (intAt xs (6 : Nat) % (256 : Int)),
          Value.int IntKind.u8 (intAt xs (6 : Nat) / (256 : Int) % (256 : Int)),
          Value.int IntKind.u8 (intAt xs (6 : Nat) / (65536 : Int) % (256 : Int)),
          Value.int IntKind.u8 (intAt xs (6 : Nat) / (16777216 : Int) % (256 : Int)),
          Value.int IntKind.u8 (intAt xs (6 : Nat) / (4294967296 : Int) % (256 : Int)),
          Value.int IntKind.u8 (intAt xs (6 : Nat) / (1099511627776 : Int) % (256 : Int)),
          Value.int IntKind.u8 (intAt xs (6 : Nat) / (281474976710656 : Int) % (256 : Int)),
          Value.int IntKind.u8 (intAt xs (6 : Nat) / (72057594037927936 : Int) % (256 : Int))]),
    [],
    [List.take (2 : Nat) (List.drop (0 : Nat) xs) =
        [Value.int IntKind.u64 (intAt xs (0 : Nat)), Value.int IntKind.u64 (intAt xs (1 : Nat))],
      List.take (2 : Nat) (List.drop (2 : Nat) xs) =
        [Value.int IntKind.u64 (intAt xs (2 : Nat)), Value.int IntKind.u64 (intAt xs (3 : Nat))],
      List.take (2 : Nat) (List.drop (4 : Nat) xs) =
        [Value.int IntKind.u64 (intAt xs (4 : Nat)), Value.int IntKind.u64 (intAt xs (5 : Nat))],
      List.take (2 : Nat) (List.drop (6 : Nat) xs) =
        [Value.int IntKind.u64 (intAt xs (6 : Nat)), Value.int IntKind.u64 (intAt xs (7 : Nat))]]) := by kernel_rfl
theorem oj_5 (xs : List Value) (c : Nat) : prjR 10 (runZ (idV id0) Try.prog 8 24 [.slice (some ⟨0, 0, none⟩) 5 c] [(0, ⟨.old, xs⟩)] 1 []) =
Res.ok
  ((Value.tuple
        (Array.mk
          [Value.slice (some (Addr.mk (10 : Nat) (0 : Nat) none)) (80 : Nat) (capBig + (10 : Nat)),
            Value.int IntKind.i64 (0 : Int)]),
      Rw.mk (Kd.room (1 : Nat) [Value.int IntKind.u8 (0 : Int)])
        [Value.int IntKind.u8 (intAt xs (1 : Nat) % (256 : Int)),
          Value.int IntKind.u8 (intAt xs (1 : Nat) / (256 : Int) % (256 : Int)),
          Value.int IntKind.u8 (intAt xs (1 : Nat) / (65536 : Int) % (256 : Int)),
          Value.int IntKind.u8 (intAt xs (1 : Nat) / (16777216 : Int) % (256 : Int)),
          Value.int IntKind.u8 (intAt xs (1 : Nat) / (4294967296 : Int) % (256 : Int)),
          Value.int IntKind.u8 (intAt xs (1 : Nat) / (1099511627776 : Int) % (256 : Int)),
          Value.int IntKind.u8 (intAt xs (1 : Nat) / (281474976710656 : Int) % (256 : Int)),
          Value.int IntKind.u8 (intAt xs (1 : Nat) / (72057594037927936 : Int) % (256 : Int)),
          Value.int IntKind.u8 (intAt xs (0 : Nat) % (256 : Int)),
          Value.int IntKind.u8 (intAt xs (0 : Nat) / (256 : Int) % (256 : Int)),
          Value.int IntKind.u8 (intAt xs (0 : Nat) / (65536 : Int) % (256 : Int)),
          Value.int IntKind.u8 (intAt xs (0 : Nat) / (16777216 : Int) % (256 : Int)),
          Value.int IntKind.u8 (intAt xs (0 : Nat) / (4294967296 : Int) % (256 : Int)),
          Value.int IntKind.u8 (intAt xs (0 : Nat) / (1099511627776 : Int) % (256 : Int)),
          Value.int IntKind.u8 (intAt xs (0 : Nat) / (281474976710656 : Int) % (256 : Int)),
          Value.int IntKind.u8 (intAt xs (0 : Nat) / (72057594037927936 : Int) % (256 : Int)),
          Value.int IntKind.u8 (intAt xs (3 : Nat) % (256 : Int)),
          Value.int IntKind.u8 (intAt xs (3 : Nat) / (256 : Int) % (256 : Int)),
          Value.int IntKind.u8 (intAt xs (3 : Nat) / (65536 : Int) % (256 : Int)),
          Value.int IntKind.u8 (intAt xs (3 : Nat) / (16777216 : Int) % (256 : Int)),
          Value.int IntKind.u8 (intAt xs (3 : Nat) / (4294967296 : Int) % (256 : Int)),
          Value.int IntKind.u8 (intAt xs (3 : Nat) / (1099511627776 : Int) % (256 : Int)),
          Value.int IntKind.u8 (intAt xs (3 : Nat) / (281474976710656 : Int) % (256 : Int)),
          Value.int IntKind.u8 (intAt xs (3 : Nat) / (72057594037927936 : Int) % (256 : Int)),
          Value.int IntKind.u8 (intAt xs (2 : Nat) % (256 : Int)),
          Value.int IntKind.u8 (intAt xs (2 : Nat) / (256 : Int) % (256 : Int)),
          Value.int IntKind.u8 (intAt xs (2 : Nat) / (65536 : Int) % (256 : Int)),
          Value.int IntKind.u8 (intAt xs (2 : Nat) / (16777216 : Int) % (256 : Int)),
          Value.int IntKind.u8 (intAt xs (2 : Nat) / (4294967296 : Int) % (256 : Int)),
          Value.int IntKind.u8 (intAt xs (2 : Nat) / (1099511627776 : Int) % (256 : Int)),
          Value.int IntKind.u8 (intAt xs (2 : Nat) / (281474976710656 : Int) % (256 : Int)),
          Value.int IntKind.u8 (intAt xs (2 : Nat) / (72057594037927936 : Int) % (256 : Int)),
          Value.int IntKind.u8 (intAt xs (5 : Nat) % (256 : Int)),
          Value.int IntKind.u8 (intAt xs (5 : Nat) / (256 : Int) % (256 : Int)),
          Value.int IntKind.u8 (intAt xs (5 : Nat) / (65536 : Int) % (256 : Int)),
          Value.int IntKind.u8 (intAt xs (5 : Nat) / (16777216 : Int) % (256 : Int)),
          Value.int IntKind.u8 (intAt xs (5 : Nat) / (4294967296 : Int) % (256 : Int)),
          Value.int IntKind.u8 (intAt xs (5 : Nat) / (1099511627776 : Int) % (256 : Int)),
          Value.int IntKind.u8 (intAt xs (5 : Nat) / (281474976710656 : Int) % (256 : Int)),
          Value.int IntKind.u8 (intAt xs (5 : Nat) / (72057594037927936 : Int) % (256 : Int)),
          Value.int IntKind.u8 (intAt xs (4 : Nat) % (256 : Int)),
          Value.int IntKind.u8 (intAt xs (4 : Nat) / (256 : Int) % (256 : Int)),
          Value.int IntKind.u8 (intAt xs (4 : Nat) / (65536 : Int) % (256 : Int)),
          Value.int IntKind.u8 (intAt xs (4 : Nat) / (16777216 : Int) % (256 : Int)),
          Value.int IntKind.u8 (intAt xs (4 : Nat) / (4294967296 : Int) % (256 : Int)),
          Value.int IntKind.u8 (intAt xs (4 : Nat) / (1099511627776 : Int) % (256 : Int)),
          Value.int IntKind.u8 (intAt xs (4 : Nat) / (281474976710656 : Int) % (256 : Int)),
          Value.int IntKind.u8 (intAt xs (4 : Nat) / (72057594037927936 : Int) % (256 : Int)),
          Value.int IntKind.u8 (intAt xs (7 : Nat) % (256 : Int)),
          Value.int IntKind.u8 (intAt xs (7 : Nat) / (256 : Int) % (256 : Int)),
          Value.int IntKind.u8 (intAt xs (7 : Nat) / (65536 : Int) % (256 : Int)),
          Value.int IntKind.u8 (intAt xs (7 : Nat) / (16777216 : Int) % (256 : Int)),
          Value.int IntKind.u8 (intAt xs (7 : Nat) / (4294967296 : Int) % (256 : Int)),
          Value.int IntKind.u8 (intAt xs (7 : Nat) / (1099511627776 : Int) % (256 : Int)),
          Value.int IntKind.u8 (intAt xs (7 : Nat) / (281474976710656 : Int) % (256 : Int)),
          Value.int IntKind.u8 (intAt xs (7 : Nat) / (72057594037927936 : Int) % (256 : Int)),
          Value.int IntKind.u8 (intAt xs (6 : Nat) % (256 : Int)),
          Value.int IntKind.u8 (intAt xs (6 : Nat) / (256 : Int) % (256 : Int)),
          Value.int IntKind.u8 (intAt xs (6 : Nat) / (65536 : Int) % (256 : Int)),
          Value.int IntKind.u8 (intAt xs (6 : Nat) / (16777216 : Int) % (256 : Int)),
          Value.int IntKind.u8 (intAt xs (6 : Nat) / (4294967296 : Int) % (256 : Int)),
          Value.int IntKind.u8 (intAt xs (6 : Nat) / (1099511627776 : Int) % (256 : Int)),
          Value.int IntKind.u8 (intAt xs (6 : Nat) / (281474976710656 : Int) % (256 : Int)),
          Value.int IntKind.u8 (intAt xs (6 : Nat) / (72057594037927936 : Int) % (256 : Int)),
          Value.int IntKind.u8 (intAt xs (9 : Nat) % (256 : Int)),
          Value.int IntKind.u8 (intAt xs (9 : Nat) / (256 : Int) % (256 : Int)),
          Value.int IntKind.u8 (intAt xs (9 : Nat) / (65536 : Int) % (256 : Int)),
          Value.int IntKind.u8 (intAt xs (9 : Nat) / (16777216 : Int) % (256 : Int)),
          Value.int IntKind.u8 (intAt xs (9 : Nat) / (4294967296 : Int) % (256 : Int)),
          Value.int IntKind.u8 (intAt xs (9 : Nat) / (1099511627776 : Int) % (256 : Int)),
          Value.int IntKind.u8 (intAt xs (9 : Nat) / (281474976710656 : Int) % (256 : Int)),
          Value.int IntKind.u8 (intAt xs (9 : Nat) / (72057594037927936 : Int) % (256 : Int)),
          Value.int IntKind.u8 (intAt xs (8 : Nat) % (256 : Int)),
          Value.int IntKind.u8 (intAt xs (8 : Nat) / (256 : Int) % (256 : Int)),
          Value.int IntKind.u8 (intAt xs (8 : Nat) / (65536 : Int) % (256 : Int)),
          Value.int IntKind.u8 (intAt xs (8 : Nat) / (16777216 : Int) % (256 : Int)),
          Value.int IntKind.u8 (intAt xs (8 : Nat) / (4294967296 : Int) % (256 : Int)),
          Value.int IntKind.u8 (intAt xs (8 : Nat) / (1099511627776 : Int) % (256 : Int)),
          Value.int IntKind.u8 (intAt xs (8 : Nat) / (281474976710656 : Int) % (256 : Int)),
          Value.int IntKind.u8 (intAt xs (8 : Nat) / (72057594037927936 : Int) % (256 : Int))]),
    [],
    [List.take (2 : Nat) (List.drop (0 : Nat) xs) =
        [Value.int IntKind.u64 (intAt xs (0 : Nat)), Value.int IntKind.u64 (intAt xs (1 : Nat))],
      List.take (2 : Nat) (List.drop (2 : Nat) xs) =
        [Value.int IntKind.u64 (intAt xs (2 : Nat)), Value.int IntKind.u64 (intAt xs (3 : Nat))],
      List.take (2 : Nat) (List.drop (4 : Nat) xs) =
        [Value.int IntKind.u64 (intAt xs (4 : Nat)), Value.int IntKind.u64 (intAt xs (5 : Nat))],
      List.take (2 : Nat) (List.drop (6 : Nat) xs) =
        [Value.int IntKind.u64 (intAt xs (6 : Nat)), Value.int IntKind.u64 (intAt xs (7 : Nat))],
      List.take (2 : Nat) (List.drop (8 : Nat) xs) =
        [Value.int IntKind.u64 (intAt xs (8 : Nat)), Value.int IntKind.u64 (intAt xs (9 : Nat))]]) := by kernel_rfl
theorem oj_6 (xs : List Value) (c : Nat) : prjR 12 (runZ (idV id0) Try.prog 8 24 [.slice (some ⟨0, 0, none⟩) 6 c] [(0, ⟨.old, xs⟩)] 1 []) =
Res.ok
  ((Value.tuple
        (Array.mk
          [Value.slice (some (Addr.mk (12 : Nat) (0 : Nat) none)) (96 : Nat) (capBig + (12 : Nat)),
            Value.int IntKind.i64 (0 : Int)]),
      Rw.mk (Kd.room (1 : Nat) [Value.int IntKind.u8 (0 : Int)])
        [Value.int IntKind.u8 (intAt xs (1 : Nat) % (256 : Int)),
          Value.int IntKind.u8 (intAt xs (1 : Nat) / (256 : Int) % (256 : Int)),
          Value.int IntKind.u8 (intAt xs (1 : Nat) / (65536 : Int) % (256 : Int)),
          Value.int IntKind.u8 (intAt xs (1 : Nat) / (16777216 : Int) % (256 : Int)),
          Value.int IntKind.u8 (intAt xs (1 : Nat) / (4294967296 : Int) % (256 : Int)),
          Value.int IntKind.u8 (intAt xs (1 : Nat) / (1099511627776 : Int) % (256 : Int)),
          Value.int IntKind.u8 (intAt xs (1 : Nat) / (281474976710656 : Int) % (256 : Int)),
          Value.int IntKind.u8 (intAt xs (1 : Nat) / (72057594037927936 : Int) % (256 : Int)),
          Value.int IntKind.u8 (intAt xs (0 : Nat) % (256 : Int)),
          Value.int IntKind.u8 (intAt xs (0 : Nat) / (256 : Int) % (256 : Int)),
          Value.int IntKind.u8 (intAt xs (0 : Nat) / (65536 : Int) % (256 : Int)),
          Value.int IntKind.u8 (intAt xs (0 : Nat) / (16777216 : Int) % (256 : Int)),
          Value.int IntKind.u8 (intAt xs (0 : Nat) / (4294967296 : Int) % (256 : Int)),
          Value.int IntKind.u8 (intAt xs (0 : Nat) / (1099511627776 : Int) % (256 : Int)),
          Value.int IntKind.u8 (intAt xs (0 : Nat) / (281474976710656 : Int) % (256 : Int)),
          Value.int IntKind.u8 (intAt xs (0 : Nat) / (72057594037927936 : Int) % (256 : Int)),
          Value.int IntKind.u8 (intAt xs (3 : Nat) % (256 : Int)),
          Value.int IntKind.u8 (intAt xs (3 : Nat) / (256 : Int) % (256 : Int)),
          Value.int IntKind.u8 (intAt xs (3 : Nat) / (65536 : Int) % (256 : Int)),
          Value.int IntKind.u8 (intAt xs (3 : Nat) / (16777216 : Int) % (256 : Int)),
          Value.int IntKind.u8 (intAt xs (3 : Nat) / (4294967296 : Int) % (256 : Int)),
          Value.int IntKind.u8 (intAt xs (3 : Nat) / (1099511627776 : Int) % (256 : Int)),
          Value.int IntKind.u8 (intAt xs (3 : Nat) / (281474976710656 : Int) % (256 : Int)),
          Value.int IntKind.u8 (intAt xs (3 : Nat) / (72057594037927936 : Int) % (256 : Int)),
          Value.int IntKind.u8 (intAt xs (2 : Nat) % (256 : Int)),
          Value.int IntKind.u8 (intAt xs (2 : Nat) / (256 : Int) % (256 : Int)),
          Value.int IntKind.u8 (intAt xs (2 : Nat) / (65536 : Int) % (256 : Int)),
          Value.int IntKind.u8 (intAt xs (2 : Nat) / (16777216 : Int) % (256 : Int)),
          Value.int IntKind.u8 (intAt xs (2 : Nat) / (4294967296 : Int) % (256 : Int)),
          Value.int IntKind.u8 (intAt xs (2 : Nat) / (1099511627776 : Int) % (256 : Int)),
          Value.int IntKind.u8 (intAt xs (2 : Nat) / (281474976710656 : Int) % (256 : Int)),
          Value.int IntKind.u8 (intAt xs (2 : Nat) / (72057594037927936 : Int) % (256 : Int)),
          Value.int IntKind.u8 (intAt xs (5 : Nat) % (256 : Int)),
          Value.int IntKind.u8 (intAt xs (5 : Nat) / (256 : Int) % (256 : Int)),
          Value.int IntKind.u8 (intAt xs (5 : Nat) / (65536 : Int) % (256 : Int)),
          Value.int IntKind.u8 (intAt xs (5 : Nat) / (16777216 : Int) % (256 : Int)),
          Value.int IntKind.u8 (intAt xs (5 : Nat) / (4294967296 : Int) % (256 : Int)),
          Value.int IntKind.u8 (intAt xs (5 : Nat) / (1099511627776 : Int) % (256 : Int)),
          Value.int IntKind.u8 (intAt xs (5 : Nat) / (281474976710656 : Int) % (256 : Int)),
          Value.int IntKind.u8 (intAt xs (5 : Nat) / (72057594037927936 : Int) % (256 : Int)),
          Value.int IntKind.u8 (intAt xs (4 : Nat) % (256 : Int)),
          Value.int IntKind.u8 (intAt xs (4 : Nat) / (256 : Int) % (256 : Int)),
          Value.int IntKind.u8 (intAt xs (4 : Nat) / (65536 : Int) % (256 : Int)),
          Value.int IntKind.u8 (intAt xs (4 : Nat) / (16777216 : Int) % (256 : Int)),
          Value.int IntKind.u8 (intAt xs (4 : Nat) / (4294967296 : Int) % (256 : Int)),
          Value.int IntKind.u8 (intAt xs (4 : Nat) / (1099511627776 : Int) % (256 : Int)),
          Value.int IntKind.u8 (intAt xs (4 : Nat) / (281474976710656 : Int) % (256 : Int)),
          Value.int IntKind.u8 (intAt xs (4 : Nat) / (72057594037927936 : Int) % (256 : Int)),
          Value.int IntKind.u8 (intAt xs (7 : Nat) % (256 : Int)),
          Value.int IntKind.u8 (intAt xs (7 : Nat) / (256 : Int) % (256 : Int)),
          Value.int IntKind.u8 (intAt xs (7 : Nat) / (65536 : Int) % (256 : Int)),
          Value.int IntKind.u8 (intAt xs (7 : Nat) / (16777216 : Int) % (256 : Int)),
          Value.int IntKind.u8 (intAt xs (7 : Nat) / (4294967296 : Int) % (256 : Int)),
          Value.int IntKind.u8 (intAt xs (7 : Nat) / (1099511627776 : Int) % (256 : Int)),
          Value.int IntKind.u8 (intAt xs (7 : Nat) / (281474976710656 : Int) % (256 : Int)),
          Value.int IntKind.u8 (intAt xs (7 : Nat) / (72057594037927936 : Int) % (256 : Int)),
          Value.int IntKind.u8 (intAt xs (6 : Nat) % (256 : Int)),
          Value.int IntKind.u8 (intAt xs (6 : Nat) / (256 : Int) % (256 : Int)),
          Value.int IntKind.u8 (intAt xs (6 : Nat) / (65536 : Int) % (256 : Int)),
          Value.int IntKind.u8 (intAt xs (6 : Nat) / (16777216 : Int) % (256 : Int)),
          Value.int IntKind.u8 (intAt xs (6 : Nat) / (4294967296 : Int) % (256 : Int)),
          Value.int IntKind.u8 (intAt xs (6 : Nat) / (1099511627776 : Int) % (256 : Int)),
          Value.int IntKind.u8 (intAt xs (6 : Nat) / (281474976710656 : Int) % (256 : Int)),
          Value.int IntKind.u8 (intAt xs (6 : Nat) / (72057594037927936 : Int) % (256 : Int)),
          Value.int IntKind.u8 (intAt xs (9 : Nat) % (256 : Int)),
          Value.int IntKind.u8 (intAt xs (9 : Nat) / (256 : Int) % (256 : Int)),
          Value.int IntKind.u8 (intAt xs (9 : Nat) / (65536 : Int) % (256 : Int)),
          Value.int IntKind.u8 (intAt xs (9 : Nat) / (16777216 : Int) % (256 : Int)),
          Value.int IntKind.u8 (intAt xs (9 : Nat) / (4294967296 : Int) % (256 : Int)),
          Value.int IntKind.u8 (intAt xs (9 : Nat) / (1099511627776 : Int) % (256 : Int)),
          Value.int IntKind.u8 (intAt xs (9 : Nat) / (281474976710656 : Int) % (256 : Int)),
          Value.int IntKind.u8 (intAt xs (9 : Nat) / (72057594037927936 : Int) % (256 : Int)),
          Value.int IntKind.u8 (intAt xs (8 : Nat) % (256 : Int)),
          Value.int IntKind.u8 (intAt xs (8 : Nat) / (256 : Int) % (256 : Int)),
          Value.int IntKind.u8 (intAt xs (8 : Nat) / (65536 : Int) % (256 : Int)),
          Value.int IntKind.u8 (intAt xs (8 : Nat) / (16777216 : Int) % (256 : Int)),
          Value.int IntKind.u8 (intAt xs (8 : Nat) / (4294967296 : Int) % (256 : Int)),
          Value.int IntKind.u8 (intAt xs (8 : Nat) / (1099511627776 : Int) % (256 : Int)),
          Value.int IntKind.u8 (intAt xs (8 : Nat) / (281474976710656 : Int) % (256 : Int)),
          Value.int IntKind.u8 (intAt xs (8 : Nat) / (72057594037927936 : Int) % (256 : Int)),
          Value.int IntKind.u8 (intAt xs (11 : Nat) % (256 : Int)),
          Value.int IntKind.u8 (intAt xs (11 : Nat) / (256 : Int) % (256 : Int)),
          Value.int IntKind.u8 (intAt xs (11 : Nat) / (65536 : Int) % (256 : Int)),
          Value.int IntKind.u8 (intAt xs (11 : Nat) / (16777216 : Int) % (256 : Int)),
          Value.int IntKind.u8 (intAt xs (11 : Nat) / (4294967296 : Int) % (256 : Int)),
          Value.int IntKind.u8 (intAt xs (11 : Nat) / (1099511627776 : Int) % (256 : Int)),
          Value.int IntKind.u8 (intAt xs (11 : Nat) / (281474976710656 : Int) % (256 : Int)),
          Value.int IntKind.u8 (intAt xs (11 : Nat) / (72057594037927936 : Int) % (256 : Int)),
          Value.int IntKind.u8 (intAt xs (10 : Nat) % (256 : Int)),
          Value.int IntKind.u8 (intAt xs (10 : Nat) / (256 : Int) % (256 : Int)),
          Value.int IntKind.u8 (intAt xs (10 : Nat) / (65536 : Int) % (256 : Int)),
          Value.int IntKind.u8 (intAt xs (10 : Nat) / (16777216 : Int) % (256 : Int)),
          Value.int IntKind.u8 (intAt xs (10 : Nat) / (4294967296 : Int) % (256 : Int)),
          Value.int IntKind.u8 (intAt xs (10 : Nat) / (1099511627776 : Int) % (256 : Int)),
          Value.int IntKind.u8 (intAt xs (10 : Nat) / (281474976710656 : Int) % (256 : Int)),
          Value.int IntKind.u8 (intAt xs (10 : Nat) / (72057594037927936 : Int) % (256 : Int))]),
    [],
    [List.take (2 : Nat) (List.drop (0 : Nat) xs) =
        [Value.int IntKind.u64 (intAt xs (0 : Nat)), Value.int IntKind.u64 (intAt xs (1 : Nat))],
      List.take (2 : Nat) (List.drop (2 : Nat) xs) =
        [Value.int IntKind.u64 (intAt xs (2 : Nat)), Value.int IntKind.u64 (intAt xs (3 : Nat))],
      List.take (2 : Nat) (List.drop (4 : Nat) xs) =
        [Value.int IntKind.u64 (intAt xs (4 : Nat)), Value.int IntKind.u64 (intAt xs (5 : Nat))],
      List.take (2 : Nat) (List.drop (6 : Nat) xs) =
        [Value.int IntKind.u64 (intAt xs (6 : Nat)), Value.int IntKind.u64 (intAt xs (7 : Nat))],
      List.take (2 : Nat) (List.drop (8 : Nat) xs) =
        [Value.int IntKind.u64 (intAt xs (8 : Nat)), Value.int IntKind.u64 (intAt xs (9 : Nat))],
      List.take (2 : Nat) (List.drop (10 : Nat) xs) =
        [Value.int IntKind.u64 (intAt xs (10 : Nat)), Value.int IntKind.u64 (intAt xs (11 : Nat))]]) := by kernel_rfl
theorem oj_7 (xs : List Value) (c : Nat) : prjR 14 (runZ (idV id0) Try.prog 8 24 [.slice (some ⟨0, 0, none⟩) 7 c] [(0, ⟨.old, xs⟩)] 1 []) =
Res.ok
  ((Value.tuple
        (Array.mk
          [Value.slice (some (Addr.mk (14 : Nat) (0 : Nat) none)) (112 : Nat) (capBig + (14 : Nat)),
            Value.int IntKind.i64 (0 : Int)]),
      Rw.mk (Kd.room (1 : Nat) [Value.int IntKind.u8 (0 : Int)])
        [Value.int IntKind.u8 (intAt xs (1 : Nat) % (256 : Int)),
          Value.int IntKind.u8 (intAt xs (1 : Nat) / (256 : Int) % (256 : Int)),
          Value.int IntKind.u8 (intAt xs (1 : Nat) / (65536 : Int) % (256 : Int)),
          Value.int IntKind.u8 (intAt xs (1 : Nat) / (16777216 : Int) % (256 : Int)),
          Value.int IntKind.u8 (intAt xs (1 : Nat) / (4294967296 : Int) % (256 : Int)),
          Value.int IntKind.u8 (intAt xs (1 : Nat) / (1099511627776 : Int) % (256 : Int)),
          Value.int IntKind.u8 (intAt xs (1 : Nat) / (281474976710656 : Int) % (256 : Int)),
          Value.int IntKind.u8 (intAt xs (1 : Nat) / (72057594037927936 : Int) % (256 : Int)),
          Value.int IntKind.u8 (intAt xs (0 : Nat) % (256 : Int)),
          Value.int IntKind.u8 (intAt xs (0 : Nat) / (256 : Int) % (256 : Int)),
          Value.int IntKind.u8 (intAt xs (0 : Nat) / (65536 : Int) % (256 : Int)),
          Value.int IntKind.u8 (intAt xs (0 : Nat) / (16777216 : Int) % (256 : Int)),
          Value.int IntKind.u8 (intAt xs (0 : Nat) / (4294967296 : Int) % (256 : Int)),
          Value.int IntKind.u8 (intAt xs (0 : Nat) / (1099511627776 : Int) % (256 : Int)),
          Value.int IntKind.u8 (intAt xs (0 : Nat) / (281474976710656 : Int) % (256 : Int)),
          Value.int IntKind.u8 (intAt xs (0 : Nat) / (72057594037927936 : Int) % (256 : Int)),
          Value.int IntKind.u8 (intAt xs (3 : Nat) % (256 : Int)),
          Value.int IntKind.u8 (intAt xs (3 : Nat) / (256 : Int) % (256 : Int)),
          Value.int IntKind.u8 (intAt xs (3 : Nat) / (65536 : Int) % (256 : Int)),
          Value.int IntKind.u8 (intAt xs (3 : Nat) / (16777216 : Int) % (256 : Int)),
          Value.int IntKind.u8 (intAt xs (3 : Nat) / (4294967296 : Int) % (256 : Int)),
          Value.int IntKind.u8 (intAt xs (3 : Nat) / (1099511627776 : Int) % (256 : Int)),
          Value.int IntKind.u8 (intAt xs (3 : Nat) / (281474976710656 : Int) % (256 : Int)),
          Value.int IntKind.u8 (intAt xs (3 : Nat) / (72057594037927936 : Int) % (256 : Int)),
          Value.int IntKind.u8 (intAt xs (2 : Nat) % (256 : Int)),
          Value.int IntKind.u8 (intAt xs (2 : Nat) / (256 : Int) % (256 : Int)),
          Value.int IntKind.u8 (intAt xs (2 : Nat) / (65536 : Int) % (256 : Int)),
          Value.int IntKind.u8 (intAt xs (2 : Nat) / (16777216 : Int) % (256 : Int)),
          Value.int IntKind.u8 (intAt xs (2 : Nat) / (4294967296 : Int) % (256 : Int)),
          Value.int IntKind.u8 (intAt xs (2 : Nat) / (1099511627776 : Int) % (256 : Int)),
          Value.int IntKind.u8 (intAt xs (2 : Nat) / (281474976710656 : Int) % (256 : Int)),
          Value.int IntKind.u8 (intAt xs (2 : Nat) / (72057594037927936 : Int) % (256 : Int)),
          Value.int IntKind.u8 (intAt xs (5 : Nat) % (256 : Int)),
          Value.int IntKind.u8 (intAt xs (5 : Nat) / (256 : Int) % (256 : Int)),
          Value.int IntKind.u8 (intAt xs (5 : Nat) / (65536 : Int) % (256 : Int)),
          Value.int IntKind.u8 (intAt xs (5 : Nat) / (16777216 : Int) % (256 : Int)),
          Value.int IntKind.u8 (intAt xs (5 : Nat) / (4294967296 : Int) % (256 : Int)),
          Value.int IntKind.u8 (intAt xs (5 : Nat) / (1099511627776 : Int) % (256 : Int)),
          Value.int IntKind.u8 (intAt xs (5 : Nat) / (281474976710656 : Int) % (256 : Int)),
          Value.int IntKind.u8 (intAt xs (5 : Nat) / (72057594037927936 : Int) % (256 : Int)),
          Value.int IntKind.u8 (intAt xs (4 : Nat) % (256 : Int)),
          Value.int IntKind.u8 (intAt xs (4 : Nat) / (256 : Int) % (256 : Int)),
          Value.int IntKind.u8 (intAt xs (4 : Nat) / (65536 : Int) % (256 : Int)),
          Value.int IntKind.u8 (intAt xs (4 : Nat) / (16777216 : Int) % (256 : Int)),
          Value.int IntKind.u8 (intAt xs (4 : Nat) / (4294967296 : Int) % (256 : Int)),
          Value.int IntKind.u8 (intAt xs (4 : Nat) / (1099511627776 : Int) % (256 : Int)),
          Value.int IntKind.u8 (intAt xs (4 : Nat) / (281474976710656 : Int) % (256 : Int)),
          Value.int IntKind.u8 (intAt xs (4 : Nat) / (72057594037927936 : Int) % (256 : Int)),
          Value.int IntKind.u8 (intAt xs (7 : Nat) % (256 : Int)),
          Value.int IntKind.u8 (intAt xs (7 : Nat) / (256 : Int) % (256 : Int)),
          Value.int IntKind.u8 (intAt xs (7 : Nat) / (65536 : Int) % (256 : Int)),
          Value.int IntKind.u8 (intAt xs (7 : Nat) / (16777216 : Int) % (256 : Int)),
          Value.int IntKind.u8 (intAt xs (7 : Nat) / (4294967296 : Int) % (256 : Int)),
          Value.int IntKind.u8 (intAt xs (7 : Nat) / (1099511627776 : Int) % (256 : Int)),
          Value.int IntKind.u8 (intAt xs (7 : Nat) / (281474976710656 : Int) % (256 : Int)),
          Value.int IntKind.u8 (intAt xs (7 : Nat) / (72057594037927936 : Int) % (256 : Int)),
          Value.int IntKind.u8 (intAt xs (6 : Nat) % (256 : Int)),
          Value.int IntKind.u8 (intAt xs (6 : Nat) / (256 : Int) % (256 : Int)),
          Value.int IntKind.u8 (intAt xs (6 : Nat) / (65536 : Int) % (256 : Int)),
          Value.int IntKind.u8 (intAt xs (6 : Nat) / (16777216 : Int) % (256 : Int)),
          Value.int IntKind.u8 (intAt xs (6 : Nat) / (4294967296 : Int) % (256 : Int)),
          Value.int IntKind.u8 (intAt xs (6 : Nat) / (1099511627776 : Int) % (256 : Int)),
          Value.int IntKind.u8 (intAt xs (6 : Nat) / (281474976710656 : Int) % (256 : Int)),
          Value.int IntKind.u8 (intAt xs (6 : Nat) / (72057594037927936 : Int) % (256 : Int)),
          Value.int IntKind.u8 (intAt xs (9 : Nat) % (256 : Int)),
          Value.int IntKind.u8 (intAt xs (9 : Nat) / (256 : Int) % (256 : Int)),
          Value.int IntKind.u8 (intAt xs (9 : Nat) / (65536 : Int) % (256 : Int)),
          Value.int IntKind.u8 (intAt xs (9 : Nat) / (16777216 : Int) % (256 : Int)),
          Value.int IntKind.u8 (intAt xs (9 : Nat) / (4294967296 : Int) % (256 : Int)),
          Value.int IntKind.u8 (intAt xs (9 : Nat) / (1099511627776 : Int) % (256 : Int)),
          Value.int IntKind.u8 (intAt xs (9 : Nat) / (281474976710656 : Int) % (256 : Int)),
          Value.int IntKind.u8 (intAt xs (9 : Nat) / (72057594037927936 : Int) % (256 : Int)),
          Value.int IntKind.u8 (intAt xs (8 : Nat) % (256 : Int)),
          Value.int IntKind.u8 (intAt xs (8 : Nat) / (256 : Int) % (256 : Int)),
          Value.int IntKind.u8 (intAt xs (8 : Nat) / (65536 : Int) % (256 : Int)),
          Value.int IntKind.u8 (intAt xs (8 : Nat) / (16777216 : Int) % (256 : Int)),
          Value.int IntKind.u8 (intAt xs (8 : Nat) / (4294967296 : Int) % (256 : Int)),
          Value.int IntKind.u8 (intAt xs (8 : Nat) / (1099511627776 : Int) % (256 : Int)),
          Value.int IntKind.u8 (intAt xs (8 : Nat) / (281474976710656 : Int) % (256 : Int)),
          Value.int IntKind.u8 (intAt xs (8 : Nat) / (72057594037927936 : Int) % (256 : Int)),
          Value.int IntKind.u8 (intAt xs (11 : Nat) % (256 : Int)),
          Value.int IntKind.u8 (intAt xs (11 : Nat) / (256 : Int) % (256 : Int)),
          Value.int IntKind.u8 (intAt xs (11 : Nat) / (65536 : Int) % (256 : Int)),
          Value.int IntKind.u8 (intAt xs (11 : Nat) / (16777216 : Int) % (256 : Int)),
          Value.int IntKind.u8 (intAt xs (11 : Nat) / (4294967296 : Int) % (256 : Int)),
          Value.int IntKind.u8 (intAt xs (11 : Nat) / (1099511627776 : Int) % (256 : Int)),
          Value.int IntKind.u8 (intAt xs (11 : Nat) / (281474976710656 : Int) % (256 : Int)),
          Value.int IntKind.u8 (intAt xs (11 : Nat) / (72057594037927936 : Int) % (256 : Int)),
          Value.int IntKind.u8 (intAt xs (10 : Nat) % (256 : Int)),
          Value.int IntKind.u8 (intAt xs (10 : Nat) / (256 : Int) % (256 : Int)),
          Value.int IntKind.u8 (intAt xs (10 : Nat) / (65536 : Int) % (256 : Int)),
          Value.int IntKind.u8 (intAt xs (10 : Nat) / (16777216 : Int) % (256 : Int)),
          Value.int IntKind.u8 (intAt xs (10 : Nat) / (4294967296 : Int) % (256 : Int)),
          Value.int IntKind.u8 (intAt xs (10 : Nat) / (1099511627776 : Int) % (256 : Int)),
          Value.int IntKind.u8 (intAt xs (10 : Nat) / (281474976710656 : Int) % (256 : Int)),
          Value.int IntKind.u8 (intAt xs (10 : Nat) / (72057594037927936 : Int) % (256 : Int)),
          Value.int IntKind.u8 (intAt xs (13 : Nat) % (256 : Int)),
          Value.int IntKind.u8 (intAt xs (13 : Nat) / (256 : Int) % (256 : Int)),
          Value.int IntKind.u8 (intAt xs (13 : Nat) / (65536 : Int) % (256 : Int)),
          Value.int IntKind.u8 (intAt xs (13 : Nat) / (16777216 : Int) % (256 : Int)),
          Value.int IntKind.u8 (intAt xs (13 : Nat) / (4294967296 : Int) % (256 : Int)),
          Value.int IntKind.u8 (intAt xs (13 : Nat) / (1099511627776 : Int) % (256 : Int)),
          Value.int IntKind.u8 (intAt xs (13 : Nat) / (281474976710656 : Int) % (256 : Int)),
          Value.int IntKind.u8 (intAt xs (13 : Nat) / (72057594037927936 : Int) % (256 : Int)),
          Value.int IntKind.u8 (intAt xs (12 : Nat) % (256 : Int)),
          Value.int IntKind.u8 (intAt xs (12 : Nat) / (256 : Int) % (256 : Int)),
          Value.int IntKind.u8 (intAt xs (12 : Nat) / (65536 : Int) % (256 : Int)),
          Value.int IntKind.u8 (intAt xs (12 : Nat) / (16777216 : Int) % (256 : Int)),
          Value.int IntKind.u8 (intAt xs (12 : Nat) / (4294967296 : Int) % (256 : Int)),
          Value.int IntKind.u8 (intAt xs (12 : Nat) / (1099511627776 : Int) % (256 : Int)),
          Value.int IntKind.u8 (intAt xs (12 : Nat) / (281474976710656 : Int) % (256 : Int)),
          Value.int IntKind.u8 (intAt xs (12 : Nat) / (72057594037927936 : Int) % (256 : Int))]),
    [],
    [List.take (2 : Nat) (List.drop (0 : Nat) xs) =
        [Value.int IntKind.u64 (intAt xs (0 : Nat)), Value.int IntKind.u64 (intAt xs (1 : Nat))],
      List.take (2 : Nat) (List.drop (2 : Nat) xs) =
        [Value.int IntKind.u64 (intAt xs (2 : Nat)), Value.int IntKind.u64 (intAt xs (3 : Nat))],
      List.take (2 : Nat) (List.drop (4 : Nat) xs) =
        [Value.int IntKind.u64 (intAt xs (4 : Nat)), Value.int IntKind.u64 (intAt xs (5 : Nat))],
      List.take (2 : Nat) (List.drop (6 : Nat) xs) =
        [Value.int IntKind.u64 (intAt xs (6 : Nat)), Value.int IntKind.u64 (intAt xs (7 : Nat))],
      List.take (2 : Nat) (List.drop (8 : Nat) xs) =
        [Value.int IntKind.u64 (intAt xs (8 : Nat)), Value.int IntKind.u64 (intAt xs (9 : Nat))],
      List.take (2 : Nat) (List.drop (10 : Nat) xs) =
        [Value.int IntKind.u64 (intAt xs (10 : Nat)), Value.int IntKind.u64 (intAt xs (11 : Nat))],
      List.take (2 : Nat) (List.drop (12 : Nat) xs) =
        [Value.int IntKind.u64 (intAt xs (12 : Nat)), Value.int IntKind.u64 (intAt xs (13 : Nat))]]) := by kernel_rfl
theorem oj_8 (xs : List Value) (c : Nat) : prjR 16 (runZ (idV id0) Try.prog 8 24 [.slice (some ⟨0, 0, none⟩) 8 c] [(0, ⟨.old, xs⟩)] 1 []) =
Res.ok
  ((Value.tuple
        (Array.mk
          [Value.slice (some (Addr.mk (16 : Nat) (0 : Nat) none)) (128 : Nat) (capBig + (16 : Nat)),
            Value.int IntKind.i64 (0 : Int)]),
      Rw.mk (Kd.room (1 : Nat) [Value.int IntKind.u8 (0 : Int)])
        [Value.int IntKind.u8 (intAt xs (1 : Nat) % (256 : Int)),
          Value.int IntKind.u8 (intAt xs (1 : Nat) / (256 : Int) % (256 : Int)),
          Value.int IntKind.u8 (intAt xs (1 : Nat) / (65536 : Int) % (256 : Int)),
          Value.int IntKind.u8 (intAt xs (1 : Nat) / (16777216 : Int) % (256 : Int)),
          Value.int IntKind.u8 (intAt xs (1 : Nat) / (4294967296 : Int) % (256 : Int)),
          Value.int IntKind.u8 (intAt xs (1 : Nat) / (1099511627776 : Int) % (256 : Int)),
          Value.int IntKind.u8 (intAt xs (1 : Nat) / (281474976710656 : Int) % (256 : Int)),
          Value.int IntKind.u8 (intAt xs (1 : Nat) / (72057594037927936 : Int) % (256 : Int)),
          Value.int IntKind.u8 (intAt xs (0 : Nat) % (256 : Int)),
          Value.int IntKind.u8 (intAt xs (0 : Nat) / (256 : Int) % (256 : Int)),
          Value.int IntKind.u8 (intAt xs (0 : Nat) / (65536 : Int) % (256 : Int)),
          Value.int IntKind.u8 (intAt xs (0 : Nat) / (16777216 : Int) % (256 : Int)),
          Value.int IntKind.u8 (intAt xs (0 : Nat) / (4294967296 : Int) % (256 : Int)),
          Value.int IntKind.u8 (intAt xs (0 : Nat) / (1099511627776 : Int) % (256 : Int)),
          Value.int IntKind.u8 (intAt xs (0 : Nat) / (281474976710656 : Int) % (256 : Int)),
          Value.int IntKind.u8 (intAt xs (0 : Nat) / (72057594037927936 : Int) % (256 : Int)),
          Value.int IntKind.u8 (intAt xs (3 : Nat) % (256 : Int)),
          Value.int IntKind.u8 (intAt xs (3 : Nat) / (256 : Int) % (256 : Int)),
          Value.int IntKind.u8 (intAt xs (3 : Nat) / (65536 : Int) % (256 : Int)),
          Value.int IntKind.u8 (intAt xs (3 : Nat) / (16777216 : Int) % (256 : Int)),
          Value.int IntKind.u8 (intAt xs (3 : Nat) / (4294967296 : Int) % (256 : Int)),
          Value.int IntKind.u8 (intAt xs (3 : Nat) / (1099511627776 : Int) % (256 : Int)),
          Value.int IntKind.u8 (intAt xs (3 : Nat) / (281474976710656 : Int) % (256 : Int)),
          Value.int IntKind.u8 (intAt xs (3 : Nat) / (72057594037927936 : Int) % (256 : Int)),
          Value.int IntKind.u8 (intAt xs (2 : Nat) % (256 : Int)),
          Value.int IntKind.u8 (intAt xs (2 : Nat) / (256 : Int) % (256 : Int)),
          Value.int IntKind.u8 (intAt xs (2 : Nat) / (65536 : Int) % (256 : Int)),
          Value.int IntKind.u8 (intAt xs (2 : Nat) / (16777216 : Int) % (256 : Int)),
          Value.int IntKind.u8 (intAt xs (2 : Nat) / (4294967296 : Int) % (256 : Int)),
          Value.int IntKind.u8 (intAt xs (2 : Nat) / (1099511627776 : Int) % (256 : Int)),
          Value.int IntKind.u8 (intAt xs (2 : Nat) / (281474976710656 : Int) % (256 : Int)),
          Value.int IntKind.u8 (intAt xs (2 : Nat) / (72057594037927936 : Int) % (256 : Int)),
          Value.int IntKind.u8 (intAt xs (5 : Nat) % (256 : Int)),
          Value.int IntKind.u8 (intAt xs (5 : Nat) / (256 : Int) % (256 : Int)),
          Value.int IntKind.u8 (intAt xs (5 : Nat) / (65536 : Int) % (256 : Int)),
          Value.int IntKind.u8 (intAt xs (5 : Nat) / (16777216 : Int) % (256 : Int)),
          Value.int IntKind.u8 (intAt xs (5 : Nat) / (4294967296 : Int) % (256 : Int)),
          Value.int IntKind.u8 (intAt xs (5 : Nat) / (1099511627776 : Int) % (256 : Int)),
          Value.int IntKind.u8 (intAt xs (5 : Nat) / (281474976710656 : Int) % (256 : Int)),
          Value.int IntKind.u8 (intAt xs (5 : Nat) / (72057594037927936 : Int) % (256 : Int)),
          Value.int IntKind.u8 (intAt xs (4 : Nat) % (256 : Int)),
          Value.int IntKind.u8 (intAt xs (4 : Nat) / (256 : Int) % (256 : Int)),
          Value.int IntKind.u8 (intAt xs (4 : Nat) / (65536 : Int) % (256 : Int)),
          Value.int IntKind.u8 (intAt xs (4 : Nat) / (16777216 : Int) % (256 : Int)),
          Value.int IntKind.u8 (intAt xs (4 : Nat) / (4294967296 : Int) % (256 : Int)),
          Value.int IntKind.u8 (intAt xs (4 : Nat) / (1099511627776 : Int) % (256 : Int)),
          Value.int IntKind.u8 (intAt xs (4 : Nat) / (281474976710656 : Int) % (256 : Int)),
          Value.int IntKind.u8 (intAt xs (4 : Nat) / (72057594037927936 : Int) % (256 : Int)),
          Value.int IntKind.u8 (intAt xs (7 : Nat) % (256 : Int)),
          Value.int IntKind.u8 (intAt xs (7 : Nat) / (256 : Int) % (256 : Int)),
          Value.int IntKind.u8 (intAt xs (7 : Nat) / (65536 : Int) % (256 : Int)),
          Value.int IntKind.u8 (intAt xs (7 : Nat) / (16777216 : Int) % (256 : Int)),
          Value.int IntKind.u8 (intAt xs (7 : Nat) / (4294967296 : Int) % (256 : Int)),
          Value.int IntKind.u8 (intAt xs (7 : Nat) / (1099511627776 : Int) % (256 : Int)),
          Value.int IntKind.u8 (intAt xs (7 : Nat) / (281474976710656 : Int) % (256 : Int)),
          Value.int IntKind.u8 (intAt xs (7 : Nat) / (72057594037927936 : Int) % (256 : Int)),
          Value.int IntKind.u8 (intAt xs (6 : Nat) % (256 : Int)),
          Value.int IntKind.u8 (intAt xs (6 : Nat) / (256 : Int) % (256 : Int)),
          Value.int IntKind.u8 (intAt xs (6 : Nat) / (65536 : Int) % (256 : Int)),
          Value.int IntKind.u8 (intAt xs (6 : Nat) / (16777216 : Int) % (256 : Int)),
          Value.int IntKind.u8 (intAt xs (6 : Nat) / (4294967296 : Int) % (256 : Int)),
          Value.int IntKind.u8 (intAt xs (6 : Nat) / (1099511627776 : Int) % (256 : Int)),
          Value.int IntKind.u8 (intAt xs (6 : Nat) / (281474976710656 : Int) % (256 : Int)),
          Value.int IntKind.u8 (intAt xs (6 : Nat) / (72057594037927936 : Int) % (256 : Int)),
          Value.int IntKind.u8 (intAt xs (9 : Nat) % (256 : Int)),
          Value.int IntKind.u8 (intAt xs (9 : Nat) / (256 : Int) % (256 : Int)),
          Value.int IntKind.u8 (intAt xs (9 : Nat) / (65536 : Int) % (256 : Int)),
          Value.int IntKind.u8 (intAt xs (9 : Nat) / (16777216 : Int) % (256 : Int)),
          Value.int IntKind.u8 (intAt xs (9 : Nat) / (4294967296 : Int) % (256 : Int)),
          Value.int IntKind.u8 (intAt xs (9 : Nat) / (1099511627776 : Int) % (256 : Int)),
          Value.int IntKind.u8 (intAt xs (9 : Nat) / (281474976710656 : Int) % (256 : Int)),
          Value.int IntKind.u8 (intAt xs (9 : Nat) / (72057594037927936 : Int) % (256 : Int)),
          Value.int IntKind.u8 (intAt xs (8 : Nat) % (256 : Int)),
          Value.int IntKind.u8 (intAt xs (8 : Nat) / (256 : Int) % (256 : Int)),
          Value.int IntKind.u8 (intAt xs (8 : Nat) / (65536 : Int) % (256 : Int)),
          Value.int IntKind.u8 (intAt xs (8 : Nat) / (16777216 : Int) % (256 : Int)),
          Value.int IntKind.u8 (intAt xs (8 : Nat) / (4294967296 : Int) % (256 : Int)),
          Value.int IntKind.u8 (intAt xs (8 : Nat) / (1099511627776 : Int) % (256 : Int)),
          Value.int IntKind.u8 (intAt xs (8 : Nat) / (281474976710656 : Int) % (256 : Int)),
          Value.int IntKind.u8 (intAt xs (8 : Nat) / (72057594037927936 : Int) % (256 : Int)),
          Value.int IntKind.u8 (intAt xs (11 : Nat) % (256 : Int)),
          Value.int IntKind.u8 (intAt xs (11 : Nat) / (256 : Int) % (256 : Int)),
          Value.int IntKind.u8 (intAt xs (11 : Nat) / (65536 : Int) % (256 : Int)),
          Value.int IntKind.u8 (intAt xs (11 : Nat) / (16777216 : Int) % (256 : Int)),
          Value.int IntKind.u8 (intAt xs (11 : Nat) / (4294967296 : Int) % (256 : Int)),
          Value.int IntKind.u8 (intAt xs (11 : Nat) / (1099511627776 : Int) % (256 : Int)),
          Value.int IntKind.u8 (intAt xs (11 : Nat) / (281474976710656 : Int) % (256 : Int)),
          Value.int IntKind.u8 (intAt xs (11 : Nat) / (72057594037927936 : Int) % (256 : Int)),
          Value.int IntKind.u8 (intAt xs (10 : Nat) % (256 : Int)),
          Value.int IntKind.u8 (intAt xs (10 : Nat) / (256 : Int) % (256 : Int)),
          Value.int IntKind.u8 (intAt xs (10 : Nat) / (65536 : Int) % (256 : Int)),
          Value.int IntKind.u8 (intAt xs (10 : Nat) / (16777216 : Int) % (256 : Int)),
          Value.int IntKind.u8 (intAt xs (10 : Nat) / (4294967296 : Int) % (256 : Int)),
          Value.int IntKind.u8 (intAt xs (10 : Nat) / (1099511627776 : Int) % (256 : Int)),
          Value.int IntKind.u8 (intAt xs (10 : Nat) / (281474976710656 : Int) % (256 : Int)),
          Value.int IntKind.u8 (intAt xs (10 : Nat) / (72057594037927936 : Int) % (256 : Int)),
          Value.int IntKind.u8 (intAt xs (13 : Nat) % (256 : Int)),
          Value.int IntKind.u8 (intAt xs (13 : Nat) / (256 : Int) % (256 : Int)),
          Value.int IntKind.u8 (intAt xs (13 : Nat) / (65536 : Int) % (256 : Int)),
          Value.int IntKind.u8 (intAt xs (13 : Nat) / (16777216 : Int) % (256 : Int)),
          Value.int IntKind.u8 (intAt xs (13 : Nat) / (4294967296 : Int) % (256 : Int)),
          Value.int IntKind.u8 (intAt xs (13 : Nat) / (1099511627776 : Int) % (256 : Int)),
          Value.int IntKind.u8 (intAt xs (13 : Nat) / (281474976710656 : Int) % (256 : Int)),
          Value.int IntKind.u8 (intAt xs (13 : Nat) / (72057594037927936 : Int) % (256 : Int)),
          Value.int IntKind.u8 (intAt xs (12 : Nat) % (256 : Int)),
          Value.int IntKind.u8 (intAt xs (12 : Nat) / (256 : Int) % (256 : Int)),
          Value.int IntKind.u8 (intAt xs (12 : Nat) / (65536 : Int) % (256 : Int)),
          Value.int IntKind.u8 (intAt xs (12 : Nat) / (16777216 : Int) % (256 : Int)),
          Value.int IntKind.u8 (intAt xs (12 : Nat) / (4294967296 : Int) % (256 : Int)),
          Value.int IntKind.u8 (intAt xs (12 : Nat) / (1099511627776 : Int) % (256 : Int)),
          Value.int IntKind.u8 (intAt xs (12 : Nat) / (281474976710656 : Int) % (256 : Int)),
          Value.int IntKind.u8 (intAt xs (12 : Nat) / (72057594037927936 : Int) % (256 : Int)),
          Value.int IntKind.u8 (intAt xs (15 : Nat) % (256 : Int)),
          Value.int IntKind.u8 (intAt xs (15 : Nat) / (256 : Int) % (256 : Int)),
          Value.int IntKind.u8 (intAt xs (15 : Nat) / (65536 : Int) % (256 : Int)),
          Value.int IntKind.u8 (intAt xs (15 : Nat) / (16777216 : Int) % (256 : Int)),
          Value.int IntKind.u8 (intAt xs (15 : Nat) / (4294967296 : Int) % (256 : Int)),
          Value.int IntKind.u8 (intAt xs (15 : Nat) / (1099511627776 : Int) % (256 : Int)),
          Value.int IntKind.u8 (intAt xs (15 : Nat) / (281474976710656 : Int) % (256 : Int)),
          Value.int IntKind.u8 (intAt xs (15 : Nat) / (72057594037927936 : Int) % (256 : Int)),
          Value.int IntKind.u8 (intAt xs (14 : Nat) % (256 : Int)),
          Value.int IntKind.u8 (intAt xs (14 : Nat) / (256 : Int) % (256 : Int)),
          Value.int IntKind.u8 (intAt xs (14 : Nat) / (65536 : Int) % (256 : Int)),
          Value.int IntKind.u8 (intAt xs (14 : Nat) / (16777216 : Int) % (256 : Int)),
          Value.int IntKind.u8 (intAt xs (14 : Nat) / (4294967296 : Int) % (256 : Int)),
          Value.int IntKind.u8 (intAt xs (14 : Nat) / (1099511627776 : Int) % (256 : Int)),
          Value.int IntKind.u8 (intAt xs (14 : Nat) / (281474976710656 : Int) % (256 : Int)),
          Value.int IntKind.u8 (intAt xs (14 : Nat) / (72057594037927936 : Int) % (256 : Int))]),
    [],
    [List.take (2 : Nat) (List.drop (0 : Nat) xs) =
        [Value.int IntKind.u64 (intAt xs (0 : Nat)), Value.int IntKind.u64 (intAt xs (1 : Nat))],
      List.take (2 : Nat) (List.drop (2 : Nat) xs) =
        [Value.int IntKind.u64 (intAt xs (2 : Nat)), Value.int IntKind.u64 (intAt xs (3 : Nat))],
      List.take (2 : Nat) (List.drop (4 : Nat) xs) =
        [Value.int IntKind.u64 (intAt xs (4 : Nat)), Value.int IntKind.u64 (intAt xs (5 : Nat))],
      List.take (2 : Nat) (List.drop (6 : Nat) xs) =
        [Value.int IntKind.u64 (intAt xs (6 : Nat)), Value.int IntKind.u64 (intAt xs (7 : Nat))],
      List.take (2 : Nat) (List.drop (8 : Nat) xs) =
        [Value.int IntKind.u64 (intAt xs (8 : Nat)), Value.int IntKind.u64 (intAt xs (9 : Nat))],
      List.take (2 : Nat) (List.drop (10 : Nat) xs) =
        [Value.int IntKind.u64 (intAt xs (10 : Nat)), Value.int IntKind.u64 (intAt xs (11 : Nat))],
      List.take (2 : Nat) (List.drop (12 : Nat) xs) =
        [Value.int IntKind.u64 (intAt xs (12 : Nat)), Value.int IntKind.u64 (intAt xs (13 : Nat))],
      List.take (2 : Nat) (List.drop (14 : Nat) xs) =
        [Value.int IntKind.u64 (intAt xs (14 : Nat)), Value.int IntKind.u64 (intAt xs (15 : Nat))]]) := by kernel_rfl
/-! ### lists of IDs that are the same -/
def sEq2 : Spec2 := fun xs n ys m tp => some (⟨fun _ => .bool true, []⟩, tp, [Ints .u64 xs, ys = xs, m = n])
def iiB (P : Program) : Code := bodyIn P 25 4
theorem ii_more (inr : Bool) (xs : List Value) (n c d i : Nat) : prjZ [0, 1, 5] (codeZ (idV idT) Try.prog (runZ (idV idT) Try.prog 5) 25 inr 100000 (iiB Try.prog) (SL 26 (eeS n c d i)) [(0, ⟨.old, xs⟩), (1, ⟨.old, xs⟩)] 2 [true, false]) =
Res.ok
  ((Xt.normal, (26 : Nat),
      [((0 : Nat), Value.slice (some (Addr.mk (0 : Nat) (0 : Nat) none)) n c),
        ((1 : Nat), Value.slice (some (Addr.mk (1 : Nat) (0 : Nat) none)) n d),
        ((5 : Nat), Value.int IntKind.i64 (↑(i + (1 : Nat)) : Int))],
      [((0 : Nat), Rw.mk Kd.old xs), ((1 : Nat), Rw.mk Kd.old xs)], (2 : Nat), [], []),
    [],
    [decide ((↑i : Int) < (↑n : Int)) = true, (0 : Int) ≤ (↑i : Int) ∧ (↑i : Int) < (↑n : Int),
      List.take (2 : Nat) (List.drop (i * (2 : Nat)) xs) =
        [Value.int IntKind.u64 (intAt xs (i * (2 : Nat))),
          Value.int IntKind.u64 (intAt xs (i * (2 : Nat) + (1 : Nat)))],
      (0 : Int) ≤ (↑i : Int) ∧ (↑i : Int) < (↑n : Int),
      List.take (2 : Nat) (List.drop (i * (2 : Nat)) xs) =
        [Value.int IntKind.u64 (intAt xs (i * (2 : Nat))),
          Value.int IntKind.u64 (intAt xs (i * (2 : Nat) + (1 : Nat)))],
      (!(intAt xs (i * (2 : Nat)) == intAt xs (i * (2 : Nat)) &&
            (intAt xs (i * (2 : Nat) + (1 : Nat)) == intAt xs (i * (2 : Nat) + (1 : Nat)) && true))) =
        false,
      rg IntKind.i64 (↑(i + (1 : Nat)) : Int)]) := by kernel_rfl
theorem ii_done (inr : Bool) (xs : List Value) (n c d i : Nat) : prjZ [0] (codeZ (idV idT) Try.prog (runZ (idV idT) Try.prog 5) 25 inr 100000 (iiB Try.prog) (SL 26 (eeS n c d i)) [(0, ⟨.old, xs⟩), (1, ⟨.old, xs⟩)] 2 [false]) =
Res.ok
  ((Xt.exit (0 : Nat), (26 : Nat), [((0 : Nat), Value.slice (some (Addr.mk (0 : Nat) (0 : Nat) none)) n c)],
      [((0 : Nat), Rw.mk Kd.old xs), ((1 : Nat), Rw.mk Kd.old xs)], (2 : Nat), [], []),
    [], [decide ((↑i : Int) < (↑n : Int)) = false]) := by kernel_rfl
def iiSpec : LSpec := lspec (fun live h => match live, h with | [(_, .slice _ n c), (_, .slice _ _ d), _], [(_, r), _] => some (n, c, d, r.cs) | _, _ => none) (fun a => (eeS a.1 a.2.1 a.2.2.1 0, [(0, ⟨.old, a.2.2.2⟩), (1, ⟨.old, a.2.2.2⟩)], 2))
  (fun a tp => some ((.exit 0, [], [(0, ⟨.old, a.2.2.2⟩), (1, ⟨.old, a.2.2.2⟩)], 2, []), tp, [Ints .u64 a.2.2.2, a.2.2.2.length = a.1 * 2, a.1 ≤ a.2.1 ∧ a.2.1 ≤ 9223372036854775807, a.1 ≤ a.2.2.1 ∧ a.2.2.1 ≤ 9223372036854775807]))
def iiL (P : Program) : LFun := mkL 25 4 26 [0, 1, 5] (iiB P) iiSpec
def idW (P : Program) : Tv := { idV idT with L := iiL P }
theorem ii_ss (xs : List Value) (n c d : Nat) : runZ (idW Try.prog) Try.prog 5 25 [.slice (some ⟨0, 0, none⟩) n c, .slice (some ⟨1, 0, none⟩) n d] [(0, ⟨.old, xs⟩), (1, ⟨.old, xs⟩)] 2 [false] =
Res.ok
  ((Value.bool true, [((0 : Nat), Rw.mk Kd.old xs), ((1 : Nat), Rw.mk Kd.old xs)], (2 : Nat), []), [],
    [((↑n : Int) != (↑n : Int)) = false, iiB Try.prog = iiB Try.prog,
      [((0 : Nat), Value.slice (some (Addr.mk (0 : Nat) (0 : Nat) none)) n c),
          ((1 : Nat), Value.slice (some (Addr.mk (1 : Nat) (0 : Nat) none)) n d),
          ((5 : Nat), Value.int IntKind.i64 (0 : Int))] =
        eeS n c d (0 : Nat),
      [((0 : Nat), Rw.mk Kd.old xs), ((1 : Nat), Rw.mk Kd.old xs)] =
        [((0 : Nat), Rw.mk Kd.old xs), ((1 : Nat), Rw.mk Kd.old xs)],
      (2 : Nat) = (2 : Nat), Ints IntKind.u64 xs, List.length xs = n * (2 : Nat),
      n ≤ c ∧ c ≤ (9223372036854775807 : Nat), n ≤ d ∧ d ≤ (9223372036854775807 : Nat)]) := by kernel_rfl
theorem ii_nn  : runZ (idV idT) Try.prog 5 25 [.slice none 0 0, .slice none 0 0] [] 2 [false, false] =
Res.ok ((Value.bool true, [], (2 : Nat), []), [], [false = false, false = false]) := by kernel_rfl
theorem ii_sn (xs : List Value) (c : Nat) : runZ (idV idT) Try.prog 5 25 [.slice (some ⟨0, 0, none⟩) 0 c, .slice none 0 0] [(0, ⟨.old, xs⟩)] 2 [false, false] =
Res.ok ((Value.bool true, [((0 : Nat), Rw.mk Kd.old xs)], (2 : Nat), []), [], [false = false, false = false]) := by kernel_rfl
theorem ii_ns (ys : List Value) (d : Nat) : runZ (idV idT) Try.prog 5 25 [.slice none 0 0, .slice (some ⟨1, 0, none⟩) 0 d] [(1, ⟨.old, ys⟩)] 2 [false, false] =
Res.ok ((Value.bool true, [((1 : Nat), Rw.mk Kd.old ys)], (2 : Nat), []), [], [false = false, false = false]) := by kernel_rfl
def i2 (xs : List Value) (o : Nat) : List Value := [.int .u64 (r8 (((xs.drop o).take 16).drop 8)), .int .u64 (r8 ((xs.drop o).take 16))]
def idL (xs : List Value) : Nat → Nat → List Value
  | _, 0 => []
  | o, k + 1 => i2 xs o ++ idL xs (o + 16) k
def oiL (xs : List Value) : Nat → Nat → List Value
  | _, 0 => []
  | i, k + 1 => (d8 (intAt xs (i * 2 + 1)) ++ d8 (intAt xs (i * 2))) ++ oiL xs (i + 1) k
def sId : Spec1 := fun xs n tp => match tp with
  | true :: tp' => some (⟨fun _ => .tuple ⟨[.slice none 0 0, .int .i64 4]⟩, []⟩, tp', [decide (n % 16 = 0) = false])
  | false :: true :: tp' => some (⟨fun _ => .tuple ⟨[.slice none 0 0, .int .i64 3]⟩, []⟩, tp', [n % 16 = 0, decide (n ≤ 128) = false])
  | false :: false :: true :: tp' => some (⟨fun _ => .tuple ⟨[.slice none 0 0, .int .i64 0]⟩, []⟩, tp', [n = 0])
  | false :: false :: false :: tp' => some (⟨fun nx => .tuple ⟨[.slice (some ⟨nx, 0, none⟩) (n / 16) (capBig + nx), .int .i64 0]⟩, [idRow (idL xs 0 (n / 16))]⟩, tp', [Byts xs, n % 16 = 0, n ≤ 128, decide (n = 0) = false])
  | _ => none
def sOi : Spec1 := fun xs n tp => match tp with
  | true :: tp' => some (⟨fun _ => .tuple ⟨[.slice none 0 0, .int .i64 3]⟩, []⟩, tp', [decide (n ≤ 8) = false])
  | false :: true :: tp' => some (⟨fun _ => .tuple ⟨[.slice none 0 0, .int .i64 0]⟩, []⟩, tp', [n = 0])
  | false :: false :: tp' => some (⟨fun nx => .tuple ⟨[.slice (some ⟨nx, 0, none⟩) (n * 16) (capBig + nx), .int .i64 0]⟩, [byRow (oiL xs 0 n)]⟩, tp', [Ints .u64 xs, n ≤ 8, decide (n = 0) = false])
  | _ => none
theorem idL_len (xs : List Value) : ∀ k o, (idL xs o k).length = k * 2
  | 0, o => rfl
  | k + 1, o => by simp only [idL, List.length_append, idL_len xs k]; show 2 + k * 2 = (k + 1) * 2; omega
theorem idL_ints (xs : List Value) : ∀ k o, ∃ l : List Int, idL xs o k = l.map (Value.int .u64)
  | 0, o => ⟨[], rfl⟩
  | k + 1, o => by
      obtain ⟨l, hl⟩ := idL_ints xs k (o + 16)
      exact ⟨r8 (((xs.drop o).take 16).drop 8) :: r8 ((xs.drop o).take 16) :: l, by simp only [idL, i2, hl, List.map_cons, List.cons_append, List.nil_append]⟩
theorem idL_Ints (xs : List Value) (k o : Nat) : Ints .u64 (idL xs o k) := by obtain ⟨l, hl⟩ := idL_ints xs k o; rw [hl]; exact Ints.of
theorem d8_Byts (x : Int) : Byts (d8 x) := by
  have : d8 x = [x % 256, x / 256 % 256, x / 65536 % 256, x / 16777216 % 256, x / 4294967296 % 256, x / 1099511627776 % 256, x / 281474976710656 % 256, x / 72057594037927936 % 256].map (Value.int .u8) := rfl
  rw [this]
  refine Byts.of fun n hn => ?_
  simp only [List.mem_cons, List.not_mem_nil, or_false] at hn
  rcases hn with rfl | rfl | rfl | rfl | rfl | rfl | rfl | rfl <;> omega
theorem oiL_Byts (xs : List Value) : ∀ k i, Byts (oiL xs i k)
  | 0, i => Byts.nil
  | k + 1, i => ((d8_Byts _).app (d8_Byts _)).app (oiL_Byts xs k (i + 1))
theorem oiL_len (xs : List Value) : ∀ k i, (oiL xs i k).length = k * 16
  | 0, i => rfl
  | k + 1, i => by simp only [oiL, List.length_append, oiL_len xs k]; show 8 + 8 + k * 16 = (k + 1) * 16; omega
theorem Ints.take2 {k : IntKind} {xs : List Value} (h : Ints k xs) {o : Nat} (ho : o + 2 ≤ xs.length) : (xs.drop o).take 2 = [.int k (intAt xs o), .int k (intAt xs (o + 1))] := by
  rw [drop_get (h.get (i := o) (by omega)), drop_get (h.get (i := o + 1) (by omega))]
  rfl
theorem run_row {V : Tv} (hX : XOkZ V Try.prog) (hT : TOkZ V Try.prog) (hL : LOkZ V Try.prog) {k m : Nat} {f : FuncId} {args : List Value} {h : Hp} {nx : Nat} {tp tp' : Tape} {v : Value} {r : Rw} {ob : List Prop} (e : prjR m (runZ V Try.prog k f args h nx tp) = .ok ((v, r), tp', ob)) (ho : Alls ob) (hf : Nat.blt f yBig = true) : ∃ h' nx' d, Tri Try.prog f args h nx (v, h', nx', d) ∧ lk h' m = some r := by
  unfold prjR at e
  split at e
  · rename_i v0 h0 nx0 d0 tp0 ob0 hr
    split at e
    · rename_i r0 hl
      simp only [Res.ok.injEq, Prod.mk.injEq] at e
      obtain ⟨⟨rfl, rfl⟩, rfl, rfl⟩ := e
      exact ⟨_, _, _, run_tri hX hT hL hr ho hf, hl⟩
    · cases e
  · cases e
  · cases e
theorem mod16 {n : Nat} (h : n % 16 = 0) : (((n % 16 : Nat) : Int) != 0) = false := by rw [h]; rfl
theorem mod16' {n : Nat} (h : decide (n % 16 = 0) = false) : (((n % 16 : Nat) : Int) != 0) = true := by
  simp only [decide_eq_false_iff_not] at h
  simp only [bne_iff_ne, ne_eq]; omega
/-- A tuple with a new list, grown, of a run. -/
theorem ran_grown {P : Program} {f : FuncId} {args : List Value} {h : Hp} {nx : Nat} {size len m : Nat} {z cs ds : List Value} {e : Value} (H : ∃ h' nx' d, Tri P f args h nx (.tuple ⟨[.slice (some ⟨m, 0, none⟩) len (capBig + m), e]⟩, h', nx', d) ∧ lk h' m = some ⟨.room size z, ds⟩) (he : ds = cs) (hf : Fl cs) (hv : ∀ σ, renV σ e = some e) :
    Ran P f args h nx ⟨fun nx => .tuple ⟨[.slice (some ⟨nx, 0, none⟩) len (capBig + nx), e]⟩, [⟨.room size z, cs⟩]⟩ := by
  obtain ⟨h', nx', d, T, hl⟩ := H
  subst he
  exact ⟨_, _, _, _, fun _ => m, T, GrIs.grown hl hf hv⟩
theorem id_gok : GOk Try.prog 21 [.s 1] (gS sId) := by
  have hX : ∀ V : Tv, V.X = noXz → XOkZ V Try.prog := fun V e => noXz_ok e
  have hT : TOkZ (idV id0) Try.prog := T_okV rfl u8T_one
  have hT1 : TOkZ (syA (idV idT) 21) Try.prog := T_okV rfl u8T_one
  have hL : ∀ V : Tv, V.L = noL → LOkZ V Try.prog := fun V e => noL_okV e
  refine gS_ok (fun tp gr tp' ob hG ho => ?_) (fun xs n c tp gr tp' ob hG ho hfl hl0 hc => ?_)
  · unfold sId at hG
    split at hG
    case h_3 =>
      simp only [Option.some.injEq, Prod.mk.injEq] at hG
      obtain ⟨rfl, rfl, rfl⟩ := hG
      exact ⟨_, _, _, _, fun n => n, run_tri (hX _ rfl) hT (hL _ rfl) id_n (by simp [Alls]) rfl, GrIs.flat fun σ => rfl⟩
    all_goals (exfalso; simp only [Option.some.injEq, Prod.mk.injEq, reduceCtorEq] at hG)
    all_goals (obtain ⟨rfl, rfl, rfl⟩ := hG; simp [Alls] at ho)
  · unfold sId at hG
    split at hG
    case h_5 => cases hG
    all_goals (simp only [Option.some.injEq, Prod.mk.injEq] at hG; obtain ⟨rfl, rfl, rfl⟩ := hG)
    · obtain ⟨h, _⟩ := ho
      refine ⟨_, _, _, _, fun n => n, run_tri (hX _ rfl) hT1 (hL _ rfl) (id_bad xs n c) ?_ rfl, GrIs.flat fun σ => rfl⟩
      simp only [Alls]; repeat' (first | with_reducible exact trivial | with_reducible apply And.intro)
      all_goals first | with_reducible assumption | omega | with_reducible rfl | (exact mod16' h)
    · obtain ⟨h, h2, _⟩ := ho
      have h12 := mod16 h
      refine ⟨_, _, _, _, fun n => n, run_tri (hX _ rfl) hT1 (hL _ rfl) (id_long xs n c) ?_ rfl, GrIs.flat fun σ => rfl⟩
      simp only [decide_eq_false_iff_not] at h2
      simp only [Alls, decide_eq_true_eq]; repeat' (first | with_reducible exact trivial | with_reducible apply And.intro)
      all_goals first | with_reducible assumption | omega | with_reducible rfl | (skip)
    · obtain ⟨rfl, _⟩ := ho
      exact ⟨_, _, _, _, fun n => n, run_tri (hX _ rfl) hT (hL _ rfl) (id_0 xs c) (by simp [Alls]) rfl, GrIs.flat fun σ => rfl⟩
    · obtain ⟨hb, hm, hs, hz, _⟩ := ho
      have hz' : n ≠ 0 := by simpa using hz
      have hB0 := hb.take 16
      have hF0 := fl_byts hB0
      have hB : ∀ o, Byts ((xs.drop o).take 16) := fun o => (hb.drop o).take 16
      have hF : ∀ o, Fl ((xs.drop o).take 16) := fun o => fl_byts (hB o)
      have hr := fun k => (idL_Ints xs k 0).fl
      have : n = 16 ∨ n = 32 ∨ n = 48 ∨ n = 64 ∨ n = 80 ∨ n = 96 ∨ n = 112 ∨ n = 128 := by omega
      rcases this with rfl | rfl | rfl | rfl | rfl | rfl | rfl | rfl
      · refine ran_grown (run_row (hX _ rfl) hT (hL _ rfl) (id_1 xs c) ?_ rfl) rfl (hr 1) (fun σ => rfl)
        simp only [Alls]
        repeat' (first | with_reducible exact trivial | with_reducible apply And.intro)
        all_goals first | with_reducible assumption | omega | with_reducible rfl | (first | exact hB _ | exact hF _)
      · refine ran_grown (run_row (hX _ rfl) hT (hL _ rfl) (id_2 xs c) ?_ rfl) rfl (hr 2) (fun σ => rfl)
        simp only [Alls]
        repeat' (first | with_reducible exact trivial | with_reducible apply And.intro)
        all_goals first | with_reducible assumption | omega | with_reducible rfl | (first | exact hB _ | exact hF _)
      · refine ran_grown (run_row (hX _ rfl) hT (hL _ rfl) (id_3 xs c) ?_ rfl) rfl (hr 3) (fun σ => rfl)
        simp only [Alls]
        repeat' (first | with_reducible exact trivial | with_reducible apply And.intro)
        all_goals first | with_reducible assumption | omega | with_reducible rfl | (first | exact hB _ | exact hF _)
      · refine ran_grown (run_row (hX _ rfl) hT (hL _ rfl) (id_4 xs c) ?_ rfl) rfl (hr 4) (fun σ => rfl)
        simp only [Alls]
        repeat' (first | with_reducible exact trivial | with_reducible apply And.intro)
        all_goals first | with_reducible assumption | omega | with_reducible rfl | (first | exact hB _ | exact hF _)
      · refine ran_grown (run_row (hX _ rfl) hT (hL _ rfl) (id_5 xs c) ?_ rfl) rfl (hr 5) (fun σ => rfl)
        simp only [Alls]
        repeat' (first | with_reducible exact trivial | with_reducible apply And.intro)
        all_goals first | with_reducible assumption | omega | with_reducible rfl | (first | exact hB _ | exact hF _)
      · refine ran_grown (run_row (hX _ rfl) hT (hL _ rfl) (id_6 xs c) ?_ rfl) rfl (hr 6) (fun σ => rfl)
        simp only [Alls]
        repeat' (first | with_reducible exact trivial | with_reducible apply And.intro)
        all_goals first | with_reducible assumption | omega | with_reducible rfl | (first | exact hB _ | exact hF _)
      · refine ran_grown (run_row (hX _ rfl) hT (hL _ rfl) (id_7 xs c) ?_ rfl) rfl (hr 7) (fun σ => rfl)
        simp only [Alls]
        repeat' (first | with_reducible exact trivial | with_reducible apply And.intro)
        all_goals first | with_reducible assumption | omega | with_reducible rfl | (first | exact hB _ | exact hF _)
      · refine ran_grown (run_row (hX _ rfl) hT (hL _ rfl) (id_8 xs c) ?_ rfl) rfl (hr 8) (fun σ => rfl)
        simp only [Alls]
        repeat' (first | with_reducible exact trivial | with_reducible apply And.intro)
        all_goals first | with_reducible assumption | omega | with_reducible rfl | (first | exact hB _ | exact hF _)
theorem ir_gok : GOk Try.prog 22 [.s 1] (gS sId) := by
  have hX : ∀ V : Tv, V.X = noXz → XOkZ V Try.prog := fun V e => noXz_ok e
  have hT : TOkZ (idV id0) Try.prog := T_okV rfl u8T_one
  have hT1 : TOkZ (syA (idV idT) 22) Try.prog := T_okV rfl u8T_one
  have hL : ∀ V : Tv, V.L = noL → LOkZ V Try.prog := fun V e => noL_okV e
  refine gS_ok (fun tp gr tp' ob hG ho => ?_) (fun xs n c tp gr tp' ob hG ho hfl hl0 hc => ?_)
  · unfold sId at hG
    split at hG
    case h_3 =>
      simp only [Option.some.injEq, Prod.mk.injEq] at hG
      obtain ⟨rfl, rfl, rfl⟩ := hG
      exact ⟨_, _, _, _, fun n => n, run_tri (hX _ rfl) hT (hL _ rfl) ir_n (by simp [Alls]) rfl, GrIs.flat fun σ => rfl⟩
    all_goals (exfalso; simp only [Option.some.injEq, Prod.mk.injEq, reduceCtorEq] at hG)
    all_goals (obtain ⟨rfl, rfl, rfl⟩ := hG; simp [Alls] at ho)
  · unfold sId at hG
    split at hG
    case h_5 => cases hG
    all_goals (simp only [Option.some.injEq, Prod.mk.injEq] at hG; obtain ⟨rfl, rfl, rfl⟩ := hG)
    · obtain ⟨h, _⟩ := ho
      refine ⟨_, _, _, _, fun n => n, run_tri (hX _ rfl) hT1 (hL _ rfl) (ir_bad xs n c) ?_ rfl, GrIs.flat fun σ => rfl⟩
      simp only [Alls]; repeat' (first | with_reducible exact trivial | with_reducible apply And.intro)
      all_goals first | with_reducible assumption | omega | with_reducible rfl | (exact mod16' h)
    · obtain ⟨h, h2, _⟩ := ho
      have h12 := mod16 h
      refine ⟨_, _, _, _, fun n => n, run_tri (hX _ rfl) hT1 (hL _ rfl) (ir_long xs n c) ?_ rfl, GrIs.flat fun σ => rfl⟩
      simp only [decide_eq_false_iff_not] at h2
      simp only [Alls, decide_eq_true_eq]; repeat' (first | with_reducible exact trivial | with_reducible apply And.intro)
      all_goals first | with_reducible assumption | omega | with_reducible rfl | (skip)
    · obtain ⟨rfl, _⟩ := ho
      exact ⟨_, _, _, _, fun n => n, run_tri (hX _ rfl) hT (hL _ rfl) (ir_0 xs c) (by simp [Alls]) rfl, GrIs.flat fun σ => rfl⟩
    · obtain ⟨hb, hm, hs, hz, _⟩ := ho
      have hz' : n ≠ 0 := by simpa using hz
      have hB0 := hb.take 16
      have hF0 := fl_byts hB0
      have hB : ∀ o, Byts ((xs.drop o).take 16) := fun o => (hb.drop o).take 16
      have hF : ∀ o, Fl ((xs.drop o).take 16) := fun o => fl_byts (hB o)
      have hr := fun k => (idL_Ints xs k 0).fl
      have : n = 16 ∨ n = 32 ∨ n = 48 ∨ n = 64 ∨ n = 80 ∨ n = 96 ∨ n = 112 ∨ n = 128 := by omega
      rcases this with rfl | rfl | rfl | rfl | rfl | rfl | rfl | rfl
      · have a0 : ∀ v, loO (some v) 0 0 c 1 = 0 := fun v => (lo_at (by omega)).trans (by omega)
        refine ran_grown (run_row (hX _ rfl) hT (hL _ rfl) (ir_1 xs c) ?_ rfl) ?_ (hr 1) (fun σ => rfl)
        · simp only [Alls, a0, tkD_eq, adN_eq]
          repeat' (first | with_reducible exact trivial | with_reducible apply And.intro)
          all_goals first | with_reducible assumption | omega | with_reducible rfl | (first | exact hB _ | exact hF _)
        · rw [a0]
          rfl
      · have a0 : ∀ v, loO (some v) 0 0 c 1 = 0 := fun v => (lo_at (by omega)).trans (by omega)
        have a1 : ∀ v, loO (some v) 0 16 c 1 = 16 := fun v => (lo_at (by omega)).trans (by omega)
        refine ran_grown (run_row (hX _ rfl) hT (hL _ rfl) (ir_2 xs c) ?_ rfl) ?_ (hr 2) (fun σ => rfl)
        · simp only [Alls, a0, a1, tkD_eq, adN_eq]
          repeat' (first | with_reducible exact trivial | with_reducible apply And.intro)
          all_goals first | with_reducible assumption | omega | with_reducible rfl | (first | exact hB _ | exact hF _)
        · rw [a0, a1]
          rfl
      · have a0 : ∀ v, loO (some v) 0 0 c 1 = 0 := fun v => (lo_at (by omega)).trans (by omega)
        have a1 : ∀ v, loO (some v) 0 16 c 1 = 16 := fun v => (lo_at (by omega)).trans (by omega)
        have a2 : ∀ v, loO (some v) 0 32 c 1 = 32 := fun v => (lo_at (by omega)).trans (by omega)
        refine ran_grown (run_row (hX _ rfl) hT (hL _ rfl) (ir_3 xs c) ?_ rfl) ?_ (hr 3) (fun σ => rfl)
        · simp only [Alls, a0, a1, a2, tkD_eq, adN_eq]
          repeat' (first | with_reducible exact trivial | with_reducible apply And.intro)
          all_goals first | with_reducible assumption | omega | with_reducible rfl | (first | exact hB _ | exact hF _)
        · rw [a0, a1, a2]
          rfl
      · have a0 : ∀ v, loO (some v) 0 0 c 1 = 0 := fun v => (lo_at (by omega)).trans (by omega)
        have a1 : ∀ v, loO (some v) 0 16 c 1 = 16 := fun v => (lo_at (by omega)).trans (by omega)
        have a2 : ∀ v, loO (some v) 0 32 c 1 = 32 := fun v => (lo_at (by omega)).trans (by omega)
        have a3 : ∀ v, loO (some v) 0 48 c 1 = 48 := fun v => (lo_at (by omega)).trans (by omega)
        refine ran_grown (run_row (hX _ rfl) hT (hL _ rfl) (ir_4 xs c) ?_ rfl) ?_ (hr 4) (fun σ => rfl)
        · simp only [Alls, a0, a1, a2, a3, tkD_eq, adN_eq]
          repeat' (first | with_reducible exact trivial | with_reducible apply And.intro)
          all_goals first | with_reducible assumption | omega | with_reducible rfl | (first | exact hB _ | exact hF _)
        · rw [a0, a1, a2, a3]
          rfl
      · have a0 : ∀ v, loO (some v) 0 0 c 1 = 0 := fun v => (lo_at (by omega)).trans (by omega)
        have a1 : ∀ v, loO (some v) 0 16 c 1 = 16 := fun v => (lo_at (by omega)).trans (by omega)
        have a2 : ∀ v, loO (some v) 0 32 c 1 = 32 := fun v => (lo_at (by omega)).trans (by omega)
        have a3 : ∀ v, loO (some v) 0 48 c 1 = 48 := fun v => (lo_at (by omega)).trans (by omega)
        have a4 : ∀ v, loO (some v) 0 64 c 1 = 64 := fun v => (lo_at (by omega)).trans (by omega)
        refine ran_grown (run_row (hX _ rfl) hT (hL _ rfl) (ir_5 xs c) ?_ rfl) ?_ (hr 5) (fun σ => rfl)
        · simp only [Alls, a0, a1, a2, a3, a4, tkD_eq, adN_eq]
          repeat' (first | with_reducible exact trivial | with_reducible apply And.intro)
          all_goals first | with_reducible assumption | omega | with_reducible rfl | (first | exact hB _ | exact hF _)
        · rw [a0, a1, a2, a3, a4]
          rfl
      · have a0 : ∀ v, loO (some v) 0 0 c 1 = 0 := fun v => (lo_at (by omega)).trans (by omega)
        have a1 : ∀ v, loO (some v) 0 16 c 1 = 16 := fun v => (lo_at (by omega)).trans (by omega)
        have a2 : ∀ v, loO (some v) 0 32 c 1 = 32 := fun v => (lo_at (by omega)).trans (by omega)
        have a3 : ∀ v, loO (some v) 0 48 c 1 = 48 := fun v => (lo_at (by omega)).trans (by omega)
        have a4 : ∀ v, loO (some v) 0 64 c 1 = 64 := fun v => (lo_at (by omega)).trans (by omega)
        have a5 : ∀ v, loO (some v) 0 80 c 1 = 80 := fun v => (lo_at (by omega)).trans (by omega)
        refine ran_grown (run_row (hX _ rfl) hT (hL _ rfl) (ir_6 xs c) ?_ rfl) ?_ (hr 6) (fun σ => rfl)
        · simp only [Alls, a0, a1, a2, a3, a4, a5, tkD_eq, adN_eq]
          repeat' (first | with_reducible exact trivial | with_reducible apply And.intro)
          all_goals first | with_reducible assumption | omega | with_reducible rfl | (first | exact hB _ | exact hF _)
        · rw [a0, a1, a2, a3, a4, a5]
          rfl
      · have a0 : ∀ v, loO (some v) 0 0 c 1 = 0 := fun v => (lo_at (by omega)).trans (by omega)
        have a1 : ∀ v, loO (some v) 0 16 c 1 = 16 := fun v => (lo_at (by omega)).trans (by omega)
        have a2 : ∀ v, loO (some v) 0 32 c 1 = 32 := fun v => (lo_at (by omega)).trans (by omega)
        have a3 : ∀ v, loO (some v) 0 48 c 1 = 48 := fun v => (lo_at (by omega)).trans (by omega)
        have a4 : ∀ v, loO (some v) 0 64 c 1 = 64 := fun v => (lo_at (by omega)).trans (by omega)
        have a5 : ∀ v, loO (some v) 0 80 c 1 = 80 := fun v => (lo_at (by omega)).trans (by omega)
        have a6 : ∀ v, loO (some v) 0 96 c 1 = 96 := fun v => (lo_at (by omega)).trans (by omega)
        refine ran_grown (run_row (hX _ rfl) hT (hL _ rfl) (ir_7 xs c) ?_ rfl) ?_ (hr 7) (fun σ => rfl)
        · simp only [Alls, a0, a1, a2, a3, a4, a5, a6, tkD_eq, adN_eq]
          repeat' (first | with_reducible exact trivial | with_reducible apply And.intro)
          all_goals first | with_reducible assumption | omega | with_reducible rfl | (first | exact hB _ | exact hF _)
        · rw [a0, a1, a2, a3, a4, a5, a6]
          rfl
      · have a0 : ∀ v, loO (some v) 0 0 c 1 = 0 := fun v => (lo_at (by omega)).trans (by omega)
        have a1 : ∀ v, loO (some v) 0 16 c 1 = 16 := fun v => (lo_at (by omega)).trans (by omega)
        have a2 : ∀ v, loO (some v) 0 32 c 1 = 32 := fun v => (lo_at (by omega)).trans (by omega)
        have a3 : ∀ v, loO (some v) 0 48 c 1 = 48 := fun v => (lo_at (by omega)).trans (by omega)
        have a4 : ∀ v, loO (some v) 0 64 c 1 = 64 := fun v => (lo_at (by omega)).trans (by omega)
        have a5 : ∀ v, loO (some v) 0 80 c 1 = 80 := fun v => (lo_at (by omega)).trans (by omega)
        have a6 : ∀ v, loO (some v) 0 96 c 1 = 96 := fun v => (lo_at (by omega)).trans (by omega)
        have a7 : ∀ v, loO (some v) 0 112 c 1 = 112 := fun v => (lo_at (by omega)).trans (by omega)
        refine ran_grown (run_row (hX _ rfl) hT (hL _ rfl) (ir_8 xs c) ?_ rfl) ?_ (hr 8) (fun σ => rfl)
        · simp only [Alls, a0, a1, a2, a3, a4, a5, a6, a7, tkD_eq, adN_eq]
          repeat' (first | with_reducible exact trivial | with_reducible apply And.intro)
          all_goals first | with_reducible assumption | omega | with_reducible rfl | (first | exact hB _ | exact hF _)
        · rw [a0, a1, a2, a3, a4, a5, a6, a7]
          rfl
theorem oi_gok : GOk Try.prog 23 [.s 2] (gS sOi) := by
  have hX : ∀ V : Tv, V.X = noXz → XOkZ V Try.prog := fun V e => noXz_ok e
  have hT : TOkZ (idV id0) Try.prog := T_okV rfl u8T_one
  have hT1 : TOkZ (syA (idV idT) 23) Try.prog := T_okV rfl u8T_one
  have hL : ∀ V : Tv, V.L = noL → LOkZ V Try.prog := fun V e => noL_okV e
  refine gS_ok (fun tp gr tp' ob hG ho => ?_) (fun xs n c tp gr tp' ob hG ho hfl hl0 hc => ?_)
  · unfold sOi at hG
    split at hG
    case h_2 =>
      simp only [Option.some.injEq, Prod.mk.injEq] at hG
      obtain ⟨rfl, rfl, rfl⟩ := hG
      exact ⟨_, _, _, _, fun n => n, run_tri (hX _ rfl) hT (hL _ rfl) oi_n (by simp [Alls]) rfl, GrIs.flat fun σ => rfl⟩
    all_goals (exfalso; simp only [Option.some.injEq, Prod.mk.injEq, reduceCtorEq] at hG)
    all_goals (obtain ⟨rfl, rfl, rfl⟩ := hG; simp [Alls] at ho)
  · unfold sOi at hG
    split at hG
    case h_4 => cases hG
    all_goals (simp only [Option.some.injEq, Prod.mk.injEq] at hG; obtain ⟨rfl, rfl, rfl⟩ := hG)
    · obtain ⟨h, _⟩ := ho
      simp only [decide_eq_false_iff_not] at h
      refine ⟨_, _, _, _, fun n => n, run_tri (hX _ rfl) hT1 (hL _ rfl) (oi_long xs n c) ?_ rfl, GrIs.flat fun σ => rfl⟩
      simp only [Alls, decide_eq_true_eq]; repeat' (first | with_reducible exact trivial | with_reducible apply And.intro)
      all_goals first | with_reducible assumption | omega | with_reducible rfl | (skip)
    · obtain ⟨rfl, _⟩ := ho
      exact ⟨_, _, _, _, fun n => n, run_tri (hX _ rfl) hT (hL _ rfl) (oi_0 xs c) (by simp [Alls]) rfl, GrIs.flat fun σ => rfl⟩
    · obtain ⟨hx, hs, hz, _⟩ := ho
      have hz' : n ≠ 0 := by simpa using hz
      have : n = 1 ∨ n = 2 ∨ n = 3 ∨ n = 4 ∨ n = 5 ∨ n = 6 ∨ n = 7 ∨ n = 8 := by omega
      rcases this with rfl | rfl | rfl | rfl | rfl | rfl | rfl | rfl
      · refine ran_grown (run_row (hX _ rfl) hT (hL _ rfl) (oi_1 xs c) ?_ rfl) rfl (fl_byts (oiL_Byts xs 1 0)) (fun σ => rfl)
        simp only [Alls]
        repeat' (first | with_reducible exact trivial | with_reducible apply And.intro)
        all_goals first | with_reducible assumption | omega | with_reducible rfl | (exact hx.take2 (by omega))
      · refine ran_grown (run_row (hX _ rfl) hT (hL _ rfl) (oi_2 xs c) ?_ rfl) rfl (fl_byts (oiL_Byts xs 2 0)) (fun σ => rfl)
        simp only [Alls]
        repeat' (first | with_reducible exact trivial | with_reducible apply And.intro)
        all_goals first | with_reducible assumption | omega | with_reducible rfl | (exact hx.take2 (by omega))
      · refine ran_grown (run_row (hX _ rfl) hT (hL _ rfl) (oi_3 xs c) ?_ rfl) rfl (fl_byts (oiL_Byts xs 3 0)) (fun σ => rfl)
        simp only [Alls]
        repeat' (first | with_reducible exact trivial | with_reducible apply And.intro)
        all_goals first | with_reducible assumption | omega | with_reducible rfl | (exact hx.take2 (by omega))
      · refine ran_grown (run_row (hX _ rfl) hT (hL _ rfl) (oi_4 xs c) ?_ rfl) rfl (fl_byts (oiL_Byts xs 4 0)) (fun σ => rfl)
        simp only [Alls]
        repeat' (first | with_reducible exact trivial | with_reducible apply And.intro)
        all_goals first | with_reducible assumption | omega | with_reducible rfl | (exact hx.take2 (by omega))
      · refine ran_grown (run_row (hX _ rfl) hT (hL _ rfl) (oi_5 xs c) ?_ rfl) rfl (fl_byts (oiL_Byts xs 5 0)) (fun σ => rfl)
        simp only [Alls]
        repeat' (first | with_reducible exact trivial | with_reducible apply And.intro)
        all_goals first | with_reducible assumption | omega | with_reducible rfl | (exact hx.take2 (by omega))
      · refine ran_grown (run_row (hX _ rfl) hT (hL _ rfl) (oi_6 xs c) ?_ rfl) rfl (fl_byts (oiL_Byts xs 6 0)) (fun σ => rfl)
        simp only [Alls]
        repeat' (first | with_reducible exact trivial | with_reducible apply And.intro)
        all_goals first | with_reducible assumption | omega | with_reducible rfl | (exact hx.take2 (by omega))
      · refine ran_grown (run_row (hX _ rfl) hT (hL _ rfl) (oi_7 xs c) ?_ rfl) rfl (fl_byts (oiL_Byts xs 7 0)) (fun σ => rfl)
        simp only [Alls]
        repeat' (first | with_reducible exact trivial | with_reducible apply And.intro)
        all_goals first | with_reducible assumption | omega | with_reducible rfl | (exact hx.take2 (by omega))
      · refine ran_grown (run_row (hX _ rfl) hT (hL _ rfl) (oi_8 xs c) ?_ rfl) rfl (fl_byts (oiL_Byts xs 8 0)) (fun σ => rfl)
        simp only [Alls]
        repeat' (first | with_reducible exact trivial | with_reducible apply And.intro)
        all_goals first | with_reducible assumption | omega | with_reducible rfl | (exact hx.take2 (by omega))
theorem oj_gok : GOk Try.prog 24 [.s 2] (gS sOi) := by
  have hX : ∀ V : Tv, V.X = noXz → XOkZ V Try.prog := fun V e => noXz_ok e
  have hT : TOkZ (idV id0) Try.prog := T_okV rfl u8T_one
  have hT1 : TOkZ (syA (idV idT) 24) Try.prog := T_okV rfl u8T_one
  have hL : ∀ V : Tv, V.L = noL → LOkZ V Try.prog := fun V e => noL_okV e
  refine gS_ok (fun tp gr tp' ob hG ho => ?_) (fun xs n c tp gr tp' ob hG ho hfl hl0 hc => ?_)
  · unfold sOi at hG
    split at hG
    case h_2 =>
      simp only [Option.some.injEq, Prod.mk.injEq] at hG
      obtain ⟨rfl, rfl, rfl⟩ := hG
      exact ⟨_, _, _, _, fun n => n, run_tri (hX _ rfl) hT (hL _ rfl) oj_n (by simp [Alls]) rfl, GrIs.flat fun σ => rfl⟩
    all_goals (exfalso; simp only [Option.some.injEq, Prod.mk.injEq, reduceCtorEq] at hG)
    all_goals (obtain ⟨rfl, rfl, rfl⟩ := hG; simp [Alls] at ho)
  · unfold sOi at hG
    split at hG
    case h_4 => cases hG
    all_goals (simp only [Option.some.injEq, Prod.mk.injEq] at hG; obtain ⟨rfl, rfl, rfl⟩ := hG)
    · obtain ⟨h, _⟩ := ho
      simp only [decide_eq_false_iff_not] at h
      refine ⟨_, _, _, _, fun n => n, run_tri (hX _ rfl) hT1 (hL _ rfl) (oj_long xs n c) ?_ rfl, GrIs.flat fun σ => rfl⟩
      simp only [Alls, decide_eq_true_eq]; repeat' (first | with_reducible exact trivial | with_reducible apply And.intro)
      all_goals first | with_reducible assumption | omega | with_reducible rfl | (skip)
    · obtain ⟨rfl, _⟩ := ho
      exact ⟨_, _, _, _, fun n => n, run_tri (hX _ rfl) hT (hL _ rfl) (oj_0 xs c) (by simp [Alls]) rfl, GrIs.flat fun σ => rfl⟩
    · obtain ⟨hx, hs, hz, _⟩ := ho
      have hz' : n ≠ 0 := by simpa using hz
      have : n = 1 ∨ n = 2 ∨ n = 3 ∨ n = 4 ∨ n = 5 ∨ n = 6 ∨ n = 7 ∨ n = 8 := by omega
      rcases this with rfl | rfl | rfl | rfl | rfl | rfl | rfl | rfl
      · refine ran_grown (run_row (hX _ rfl) hT (hL _ rfl) (oj_1 xs c) ?_ rfl) rfl (fl_byts (oiL_Byts xs 1 0)) (fun σ => rfl)
        simp only [Alls]
        repeat' (first | with_reducible exact trivial | with_reducible apply And.intro)
        all_goals first | with_reducible assumption | omega | with_reducible rfl | (exact hx.take2 (by omega))
      · refine ran_grown (run_row (hX _ rfl) hT (hL _ rfl) (oj_2 xs c) ?_ rfl) rfl (fl_byts (oiL_Byts xs 2 0)) (fun σ => rfl)
        simp only [Alls]
        repeat' (first | with_reducible exact trivial | with_reducible apply And.intro)
        all_goals first | with_reducible assumption | omega | with_reducible rfl | (exact hx.take2 (by omega))
      · refine ran_grown (run_row (hX _ rfl) hT (hL _ rfl) (oj_3 xs c) ?_ rfl) rfl (fl_byts (oiL_Byts xs 3 0)) (fun σ => rfl)
        simp only [Alls]
        repeat' (first | with_reducible exact trivial | with_reducible apply And.intro)
        all_goals first | with_reducible assumption | omega | with_reducible rfl | (exact hx.take2 (by omega))
      · refine ran_grown (run_row (hX _ rfl) hT (hL _ rfl) (oj_4 xs c) ?_ rfl) rfl (fl_byts (oiL_Byts xs 4 0)) (fun σ => rfl)
        simp only [Alls]
        repeat' (first | with_reducible exact trivial | with_reducible apply And.intro)
        all_goals first | with_reducible assumption | omega | with_reducible rfl | (exact hx.take2 (by omega))
      · refine ran_grown (run_row (hX _ rfl) hT (hL _ rfl) (oj_5 xs c) ?_ rfl) rfl (fl_byts (oiL_Byts xs 5 0)) (fun σ => rfl)
        simp only [Alls]
        repeat' (first | with_reducible exact trivial | with_reducible apply And.intro)
        all_goals first | with_reducible assumption | omega | with_reducible rfl | (exact hx.take2 (by omega))
      · refine ran_grown (run_row (hX _ rfl) hT (hL _ rfl) (oj_6 xs c) ?_ rfl) rfl (fl_byts (oiL_Byts xs 6 0)) (fun σ => rfl)
        simp only [Alls]
        repeat' (first | with_reducible exact trivial | with_reducible apply And.intro)
        all_goals first | with_reducible assumption | omega | with_reducible rfl | (exact hx.take2 (by omega))
      · refine ran_grown (run_row (hX _ rfl) hT (hL _ rfl) (oj_7 xs c) ?_ rfl) rfl (fl_byts (oiL_Byts xs 7 0)) (fun σ => rfl)
        simp only [Alls]
        repeat' (first | with_reducible exact trivial | with_reducible apply And.intro)
        all_goals first | with_reducible assumption | omega | with_reducible rfl | (exact hx.take2 (by omega))
      · refine ran_grown (run_row (hX _ rfl) hT (hL _ rfl) (oj_8 xs c) ?_ rfl) rfl (fl_byts (oiL_Byts xs 8 0)) (fun σ => rfl)
        simp only [Alls]
        repeat' (first | with_reducible exact trivial | with_reducible apply And.intro)
        all_goals first | with_reducible assumption | omega | with_reducible rfl | (exact hx.take2 (by omega))
/-! ### lists of IDs that are the same -/
theorem ii_loop {inr : Bool} {h0 : Hp} {xs : List Value} (hx : Ints .u64 xs) {n c d : Nat} (hn : xs.length = n * 2) (hc : n ≤ c ∧ c ≤ 9223372036854775807) (hd : n ≤ d ∧ d ≤ 9223372036854775807) : ∀ (k i : Nat), i + k = n →
    LRuns inr Try.prog (iiB Try.prog) 2 2 h0 26 (eeS n c d i) [(0, ⟨.old, xs⟩), (1, ⟨.old, xs⟩)] 2 (.exit 0, [], [(0, ⟨.old, xs⟩), (1, ⟨.old, xs⟩)])
  | 0, i, hk => by
      have hX : XOkZ (idV idT) Try.prog := noXz_ok rfl
      have hT : TOkZ (idV idT) Try.prog := T_okV rfl u8T_one
      have hL : LOkZ (idV idT) Try.prog := noL_okV rfl
      refine LRuns.exit (code_runs hX hL (runZ_ok hX hT hL mixed 5) mixed (ii_done inr xs n c d i) ?_) (by intro e; cases e) rfl (by omega) (by omega) (fun n => n) trivial ?_ rfl
      · simp only [Alls, decide_eq_false_iff_not]
        repeat' (first | with_reducible exact trivial | with_reducible apply And.intro)
        all_goals first | with_reducible assumption | omega | with_reducible rfl | (skip)
      · exact ⟨rb_old (by omega) rfl hx.fl, rb_old (by omega) rfl hx.fl, trivial⟩
  | k + 1, i, hk => by
      have hX : XOkZ (idV idT) Try.prog := noXz_ok rfl
      have hT : TOkZ (idV idT) Try.prog := T_okV rfl u8T_one
      have hL : LOkZ (idV idT) Try.prog := noL_okV rfl
      have g3 := hx.take2 (o := i * 2) (by omega)
      refine LRuns.step (code_runs hX hL (runZ_ok hX hT hL mixed 5) mixed (ii_more inr xs n c d i) ?_) rfl (by omega) (by omega) (fun n => n) ?_ ?_ rfl (ii_loop hx hn hc hd k (i + 1) (by omega))
      · simp only [Alls, decide_eq_true_eq, rg, beq_self_eq_true, Bool.and_self, Bool.not_true]
        repeat' (first | with_reducible exact trivial | with_reducible apply And.intro)
        all_goals first | with_reducible assumption | omega | with_reducible rfl | (exact g3)
      · exact ⟨rfl, rb_slc rfl (by unfold capBig; omega), rfl, rb_slc rfl (by unfold capBig; omega), rfl, rfl, trivial⟩
      · exact ⟨rb_old (by omega) rfl hx.fl, rb_old (by omega) rfl hx.fl, trivial⟩
theorem ii_spec_ok : LSOk Try.prog 26 [0, 1, 5] (iiB Try.prog) iiSpec := by
  refine lspec_ok fun a tp xt l2 h2 nx2 d tp' ob hs ho inr ts hn hg => ?_
  obtain ⟨n, c, e, xs⟩ := a
  simp only at hs hg
  simp only [Option.some.injEq, Prod.mk.injEq] at hs
  obtain ⟨⟨rfl, rfl, rfl, rfl, rfl⟩, rfl, rfl⟩ := hs
  obtain ⟨hx, hl, hc, hd, _⟩ := ho
  have key := ii_loop (inr := inr) (h0 := [(0, ⟨.old, xs⟩), (1, ⟨.old, xs⟩)]) hx hl hc hd n 0 (by omega)
  refine LRuns.enter (l2 := eeS n c e 0) (h := [(0, ⟨.old, xs⟩), (1, ⟨.old, xs⟩)]) (h2 := [(0, ⟨.old, xs⟩), (1, ⟨.old, xs⟩)]) hn hg (Nat.le_refl 2) (by omega) (fun n => n) ?_ ⟨rb_old (by omega) rfl hx.fl, rb_old (by omega) rfl hx.fl, trivial⟩ rfl key ?_
  · exact ⟨rfl, rb_slc rfl (by unfold capBig; omega), rfl, rb_slc rfl (by unfold capBig; omega), rfl, rfl, trivial⟩
  · exact tidy_of (by omega) (fun n hn hd => rfl) rfl
theorem ii_gok : GOk Try.prog 25 [.s 2, .s 2] (gSS sEq2) := by
  have hX : ∀ V : Tv, V.X = noXz → XOkZ V Try.prog := fun V e => noXz_ok e
  have hT : TOkZ (idV idT) Try.prog := T_okV rfl u8T_one
  have hT1 : TOkZ (idW Try.prog) Try.prog := T_okV rfl u8T_one
  have hL : LOkZ (idW Try.prog) Try.prog := L_okV rfl (mkL_ok ii_spec_ok)
  have hL0 : LOkZ (idV idT) Try.prog := noL_okV rfl
  refine gSS_ok (fun tp gr tp' ob hG ho => ?_) (fun xs n c tp gr tp' ob hG ho hf hl hc => ?_) (fun ys m d tp gr tp' ob hG ho hf hl hc => ?_) (fun xs n c ys m d tp gr tp' ob hG ho hf hl hc hf2 hl2 hc2 => ?_) <;> (
    unfold sEq2 at hG
    simp only [Option.some.injEq, Prod.mk.injEq] at hG
    obtain ⟨rfl, rfl, rfl⟩ := hG
    obtain ⟨hx, h1, h2, _⟩ := ho)
  · exact ⟨_, _, _, _, fun n => n, run_tri (hX _ rfl) hT hL0 ii_nn (by simp [Alls]) rfl, GrIs.flat fun σ => rfl⟩
  · subst h2
    exact ⟨_, _, _, _, fun n => n, run_tri (hX _ rfl) hT hL0 (ii_sn xs c) (by simp [Alls]) rfl, GrIs.flat fun σ => rfl⟩
  · subst h2
    exact ⟨_, _, _, _, fun n => n, run_tri (hX _ rfl) hT hL0 (ii_ns ys d) (by simp [Alls]) rfl, GrIs.flat fun σ => rfl⟩
  · subst h2
    subst h1
    refine ⟨_, _, _, _, fun n => n, run_tri (hX _ rfl) hT1 hL (ii_ss ys m c d) ?_ rfl, GrIs.flat fun σ => rfl⟩
    have hne : (((m : Nat) : Int) != (m : Int)) = false := by simp
    simp only [Alls]
    repeat' (first | with_reducible exact trivial | with_reducible apply And.intro)
    all_goals first | with_reducible assumption | omega | with_reducible rfl | (rfl)
def idsT : TFun := orTz (mkT 21 [.s 1] (gS sId)) (orTz (mkT 22 [.s 1] (gS sId)) (orTz (mkT 23 [.s 2] (gS sOi)) (orTz (mkT 24 [.s 2] (gS sOi)) (orTz (mkT 25 [.s 2, .s 2] (gSS sEq2)) entT))))
theorem idsT_one : TOneZ Try.prog idsT := orTz_ok (mkT_one id_gok) (orTz_ok (mkT_one ir_gok) (orTz_ok (mkT_one oi_gok) (orTz_ok (mkT_one oj_gok) (orTz_ok (mkT_one ii_gok) entT_one))))
end Go.Proofs.Ytcmcelilollchaa
