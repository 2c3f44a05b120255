/-
  Chapter 23: entries of bytes, bytes of entries; the program's functions and the document's.
-/
import Derived.Test.YtcmcelilollchaaMsgA
namespace Go.Proofs.Ytcmcelilollchaa
set_option linter.unusedSimpArgs false
set_option linter.unusedVariables false
set_option linter.unusedSectionVars false
open Go Go.RowKit

def logT : TFun := orTz (mkT 27 [.s 3] gLog) (orTz (mkT 29 [.s 3] gLog) msgT)
def enV (L : LFun) : Tv := ⟨logT, noXz, L, fun f => bif Nat.beq f 9 then [8, 11, 28] else bif Nat.beq f 10 then [9, 13, 42] else bif Nat.beq f 13 then [10, 14, 25] else [], orSy (allSy 9 []) (orSy (allSy 10 []) (allSy 13 [])), fun _ => [], fun _ => 0⟩
def enB (P : Program) : Code := bodyIn P 9 4
def reB (P : Program) : Code := bodyIn P 10 5
def enS (o n c : Nat) (out : Value) : List (Nat × Value) := [(0, .slice (some ⟨0, o, none⟩) n c), (4, out)]
def enRow (ys : List Value) : Rw := ⟨.room 3 [.int .i64 0, .int .i64 0, .int .i64 0], ys⟩
theorem en_more0 (inr : Bool) (xs : List Value) (o n c : Nat) : prjZ [0, 4] (codeZ (enV noL) Try.prog (runZ (enV noL) Try.prog 5) 9 inr 100000 (enB Try.prog) (SL 30 (enS o n c (.slice none 0 0))) [(0, ⟨.old, xs⟩)] 1 [true]) =
Res.ok
  ((Xt.normal, (30 : Nat),
      [((0 : Nat),
          Value.slice
            (some (Addr.mk (0 : Nat) (loO (some (Value.int IntKind.i64 (12 : Int))) o (12 : Nat) c (1 : Nat)) none))
            (n - (12 : Nat)) (c - (12 : Nat))),
        ((4 : Nat), Value.slice (some (Addr.mk (2 : Nat) (0 : Nat) none)) (1 : Nat) (capBig + (2 : Nat)))],
      [((0 : Nat), Rw.mk Kd.old xs),
        ((1 : Nat),
          Rw.mk Kd.shut
            [Value.int IntKind.i64 (n4 (tkD o n xs)),
              Value.int IntKind.i64
                (n4 (tkD (loO (some (Value.int IntKind.i64 (4 : Int))) o (4 : Nat) c (1 : Nat)) (n - (4 : Nat)) xs)),
              Value.int IntKind.i64
                (n4 (tkD (loO (some (Value.int IntKind.i64 (8 : Int))) o (8 : Nat) c (1 : Nat)) (n - (8 : Nat)) xs))]),
        ((2 : Nat),
          Rw.mk
            (Kd.room (3 : Nat)
              [Value.int IntKind.i64 (0 : Int), Value.int IntKind.i64 (0 : Int), Value.int IntKind.i64 (0 : Int)])
            [Value.int IntKind.i64 (n4 (tkD o n xs)),
              Value.int IntKind.i64
                (n4 (tkD (loO (some (Value.int IntKind.i64 (4 : Int))) o (4 : Nat) c (1 : Nat)) (n - (4 : Nat)) xs)),
              Value.int IntKind.i64
                (n4 (tkD (loO (some (Value.int IntKind.i64 (8 : Int))) o (8 : Nat) c (1 : Nat)) (n - (8 : Nat)) xs))])],
      (3 : Nat), [], []),
    [],
    [decide ((↑n : Int) > (0 : Int)) = true, n ≤ c ∧ c ≤ (9223372036854775807 : Nat), adN o n ≤ List.length xs,
      Fl (tkD o n xs), Byts (tkD o n xs), (4 : Nat) ≤ n, c < (18446744073709551616 : Nat),
      (0 : Int) ≤ (4 : Int) ∧ (4 : Int) ≤ (↑n : Int),
      n - (4 : Nat) ≤ c - (4 : Nat) ∧ c - (4 : Nat) ≤ (9223372036854775807 : Nat),
      adN (loO (some (Value.int IntKind.i64 (4 : Int))) o (4 : Nat) c (1 : Nat)) (n - (4 : Nat)) ≤ List.length xs,
      Fl (tkD (loO (some (Value.int IntKind.i64 (4 : Int))) o (4 : Nat) c (1 : Nat)) (n - (4 : Nat)) xs),
      Byts (tkD (loO (some (Value.int IntKind.i64 (4 : Int))) o (4 : Nat) c (1 : Nat)) (n - (4 : Nat)) xs),
      (4 : Nat) ≤ n - (4 : Nat), c < (18446744073709551616 : Nat), (0 : Int) ≤ (8 : Int) ∧ (8 : Int) ≤ (↑n : Int),
      n - (8 : Nat) ≤ c - (8 : Nat) ∧ c - (8 : Nat) ≤ (9223372036854775807 : Nat),
      adN (loO (some (Value.int IntKind.i64 (8 : Int))) o (8 : Nat) c (1 : Nat)) (n - (8 : Nat)) ≤ List.length xs,
      Fl (tkD (loO (some (Value.int IntKind.i64 (8 : Int))) o (8 : Nat) c (1 : Nat)) (n - (8 : Nat)) xs),
      Byts (tkD (loO (some (Value.int IntKind.i64 (8 : Int))) o (8 : Nat) c (1 : Nat)) (n - (8 : Nat)) xs),
      (4 : Nat) ≤ n - (8 : Nat), (1 : Nat) ≠ (0 : Nat),
      (24 : Nat) ≤ (140737488355328 : Nat) ∧ (1 : Nat) ≤ (9223372036854775807 : Nat), (3 : Nat) ≤ (3 : Nat),
      true = true, c < (18446744073709551616 : Nat), (0 : Int) ≤ (12 : Int) ∧ (12 : Int) ≤ (↑n : Int)]) := by kernel_rfl
theorem en_more1 (inr : Bool) (xs ys : List Value) (o n c m : Nat) : prjZ [0, 4] (codeZ (enV noL) Try.prog (runZ (enV noL) Try.prog 5) 9 inr 100000 (enB Try.prog) (SL 30 (enS o n c (.slice (some ⟨1, 0, none⟩) m (capBig + 1)))) [(0, ⟨.old, xs⟩), (1, enRow ys)] 2 [true]) =
Res.ok
  ((Xt.normal, (30 : Nat),
      [((0 : Nat),
          Value.slice
            (some (Addr.mk (0 : Nat) (loO (some (Value.int IntKind.i64 (12 : Int))) o (12 : Nat) c (1 : Nat)) none))
            (n - (12 : Nat)) (c - (12 : Nat))),
        ((4 : Nat), Value.slice (some (Addr.mk (3 : Nat) (0 : Nat) none)) (m + (1 : Nat)) (capBig + (3 : Nat)))],
      [((0 : Nat), Rw.mk Kd.old xs),
        ((2 : Nat),
          Rw.mk Kd.shut
            [Value.int IntKind.i64 (n4 (tkD o n xs)),
              Value.int IntKind.i64
                (n4 (tkD (loO (some (Value.int IntKind.i64 (4 : Int))) o (4 : Nat) c (1 : Nat)) (n - (4 : Nat)) xs)),
              Value.int IntKind.i64
                (n4 (tkD (loO (some (Value.int IntKind.i64 (8 : Int))) o (8 : Nat) c (1 : Nat)) (n - (8 : Nat)) xs))]),
        ((3 : Nat),
          Rw.mk
            (Kd.room (3 : Nat)
              [Value.int IntKind.i64 (0 : Int), Value.int IntKind.i64 (0 : Int), Value.int IntKind.i64 (0 : Int)])
            (ys ++
              [Value.int IntKind.i64 (n4 (tkD o n xs)),
                Value.int IntKind.i64
                  (n4 (tkD (loO (some (Value.int IntKind.i64 (4 : Int))) o (4 : Nat) c (1 : Nat)) (n - (4 : Nat)) xs)),
                Value.int IntKind.i64
                  (n4
                    (tkD (loO (some (Value.int IntKind.i64 (8 : Int))) o (8 : Nat) c (1 : Nat)) (n - (8 : Nat))
                      xs))]))],
      (4 : Nat), [(1 : Nat)], []),
    [],
    [decide ((↑n : Int) > (0 : Int)) = true, n ≤ c ∧ c ≤ (9223372036854775807 : Nat), adN o n ≤ List.length xs,
      Fl (tkD o n xs), Byts (tkD o n xs), (4 : Nat) ≤ n, c < (18446744073709551616 : Nat),
      (0 : Int) ≤ (4 : Int) ∧ (4 : Int) ≤ (↑n : Int),
      n - (4 : Nat) ≤ c - (4 : Nat) ∧ c - (4 : Nat) ≤ (9223372036854775807 : Nat),
      adN (loO (some (Value.int IntKind.i64 (4 : Int))) o (4 : Nat) c (1 : Nat)) (n - (4 : Nat)) ≤ List.length xs,
      Fl (tkD (loO (some (Value.int IntKind.i64 (4 : Int))) o (4 : Nat) c (1 : Nat)) (n - (4 : Nat)) xs),
      Byts (tkD (loO (some (Value.int IntKind.i64 (4 : Int))) o (4 : Nat) c (1 : Nat)) (n - (4 : Nat)) xs),
      (4 : Nat) ≤ n - (4 : Nat), c < (18446744073709551616 : Nat), (0 : Int) ≤ (8 : Int) ∧ (8 : Int) ≤ (↑n : Int),
      n - (8 : Nat) ≤ c - (8 : Nat) ∧ c - (8 : Nat) ≤ (9223372036854775807 : Nat),
      adN (loO (some (Value.int IntKind.i64 (8 : Int))) o (8 : Nat) c (1 : Nat)) (n - (8 : Nat)) ≤ List.length xs,
      Fl (tkD (loO (some (Value.int IntKind.i64 (8 : Int))) o (8 : Nat) c (1 : Nat)) (n - (8 : Nat)) xs),
      Byts (tkD (loO (some (Value.int IntKind.i64 (8 : Int))) o (8 : Nat) c (1 : Nat)) (n - (8 : Nat)) xs),
      (4 : Nat) ≤ n - (8 : Nat), capBig + (1 : Nat) = capBig + (1 : Nat), List.length ys = m * (3 : Nat),
      (m + (1 : Nat)) * (24 : Nat) ≤ (140737488355328 : Nat) ∧ m + (1 : Nat) ≤ (9223372036854775807 : Nat),
      (3 : Nat) ≤ (3 : Nat), true = true, c < (18446744073709551616 : Nat),
      (0 : Int) ≤ (12 : Int) ∧ (12 : Int) ≤ (↑n : Int)]) := by kernel_rfl
theorem en_done0 (inr : Bool) (xs : List Value) (o n c : Nat) : prjZ [4] (codeZ (enV noL) Try.prog (runZ (enV noL) Try.prog 5) 9 inr 100000 (enB Try.prog) (SL 30 (enS o n c (.slice none 0 0))) [(0, ⟨.old, xs⟩)] 1 [false]) =
Res.ok
  ((Xt.exit (0 : Nat), (30 : Nat), [((4 : Nat), Value.slice none (0 : Nat) (0 : Nat))], [((0 : Nat), Rw.mk Kd.old xs)],
      (1 : Nat), [], []),
    [], [decide ((↑n : Int) > (0 : Int)) = false]) := by kernel_rfl
theorem en_done1 (inr : Bool) (xs ys : List Value) (o n c m : Nat) : prjZ [4] (codeZ (enV noL) Try.prog (runZ (enV noL) Try.prog 5) 9 inr 100000 (enB Try.prog) (SL 30 (enS o n c (.slice (some ⟨1, 0, none⟩) m (capBig + 1)))) [(0, ⟨.old, xs⟩), (1, enRow ys)] 2 [false]) =
Res.ok
  ((Xt.exit (0 : Nat), (30 : Nat),
      [((4 : Nat), Value.slice (some (Addr.mk (1 : Nat) (0 : Nat) none)) m (capBig + (1 : Nat)))],
      [((0 : Nat), Rw.mk Kd.old xs),
        ((1 : Nat),
          Rw.mk
            (Kd.room (3 : Nat)
              [Value.int IntKind.i64 (0 : Int), Value.int IntKind.i64 (0 : Int), Value.int IntKind.i64 (0 : Int)])
            ys)],
      (2 : Nat), [], []),
    [], [decide ((↑n : Int) > (0 : Int)) = false]) := by kernel_rfl
def reS (n c i : Nat) (out : Value) : List (Nat × Value) := [(0, .slice (some ⟨0, 0, none⟩) n c), (4, out), (5, .int .i64 (i : Int))]
theorem re_more0 (inr : Bool) (xs : List Value) (n c i : Nat) : prjZ [0, 4, 5] (codeZ (enV noL) Try.prog (runZ (enV noL) Try.prog 5) 10 inr 100000 (reB Try.prog) (SL 44 (reS n c i (.slice none 0 0))) [(0, ⟨.old, xs⟩)] 1 [true]) =
Res.ok
  ((Xt.normal, (44 : Nat),
      [((0 : Nat), Value.slice (some (Addr.mk (0 : Nat) (0 : Nat) none)) n c),
        ((4 : Nat), Value.slice (some (Addr.mk (2 : Nat) (0 : Nat) none)) (1 : Nat) (capBig + (2 : Nat))),
        ((5 : Nat), Value.int IntKind.i64 (↑(i + (12 : Nat)) : Int))],
      [((0 : Nat), Rw.mk Kd.old xs),
        ((1 : Nat),
          Rw.mk Kd.shut
            [Value.int IntKind.i64
                (n4
                  (tkD (loO (some (Value.int IntKind.i64 (↑i : Int))) (0 : Nat) i c (1 : Nat)) (sbN (i + (4 : Nat)) i)
                    xs)),
              Value.int IntKind.i64
                (n4
                  (tkD
                    (loO (some (Value.int IntKind.i64 (↑(i + (4 : Nat)) : Int))) (0 : Nat) (i + (4 : Nat)) c (1 : Nat))
                    (sbN (i + (8 : Nat)) (i + (4 : Nat))) xs)),
              Value.int IntKind.i64
                (n4
                  (tkD
                    (loO (some (Value.int IntKind.i64 (↑(i + (8 : Nat)) : Int))) (0 : Nat) (i + (8 : Nat)) c (1 : Nat))
                    (sbN (i + (12 : Nat)) (i + (8 : Nat))) xs))]),
        ((2 : Nat),
          Rw.mk
            (Kd.room (3 : Nat)
              [Value.int IntKind.i64 (0 : Int), Value.int IntKind.i64 (0 : Int), Value.int IntKind.i64 (0 : Int)])
            [Value.int IntKind.i64
                (n4
                  (tkD (loO (some (Value.int IntKind.i64 (↑i : Int))) (0 : Nat) i c (1 : Nat)) (sbN (i + (4 : Nat)) i)
                    xs)),
              Value.int IntKind.i64
                (n4
                  (tkD
                    (loO (some (Value.int IntKind.i64 (↑(i + (4 : Nat)) : Int))) (0 : Nat) (i + (4 : Nat)) c (1 : Nat))
                    (sbN (i + (8 : Nat)) (i + (4 : Nat))) xs)),
              Value.int IntKind.i64
                (n4
                  (tkD
                    (loO (some (Value.int IntKind.i64 (↑(i + (8 : Nat)) : Int))) (0 : Nat) (i + (8 : Nat)) c (1 : Nat))
                    (sbN (i + (12 : Nat)) (i + (8 : Nat))) xs))])],
      (3 : Nat), [], []),
    [],
    [decide ((↑i : Int) < (↑n : Int)) = true, rg IntKind.i64 (↑(i + (4 : Nat)) : Int), c < (18446744073709551616 : Nat),
      (0 : Int) ≤ (↑(i + (4 : Nat)) : Int) ∧ (↑(i + (4 : Nat)) : Int) ≤ (↑c : Int),
      (0 : Int) ≤ (↑i : Int) ∧ (↑i : Int) ≤ (↑(i + (4 : Nat)) : Int),
      sbN (i + (4 : Nat)) i ≤ sbN c i ∧ sbN c i ≤ (9223372036854775807 : Nat),
      adN (loO (some (Value.int IntKind.i64 (↑i : Int))) (0 : Nat) i c (1 : Nat)) (sbN (i + (4 : Nat)) i) ≤
        List.length xs,
      Fl (tkD (loO (some (Value.int IntKind.i64 (↑i : Int))) (0 : Nat) i c (1 : Nat)) (sbN (i + (4 : Nat)) i) xs),
      Byts (tkD (loO (some (Value.int IntKind.i64 (↑i : Int))) (0 : Nat) i c (1 : Nat)) (sbN (i + (4 : Nat)) i) xs),
      (4 : Nat) ≤ sbN (i + (4 : Nat)) i, rg IntKind.i64 (↑(i + (4 : Nat)) : Int),
      rg IntKind.i64 (↑(i + (8 : Nat)) : Int), c < (18446744073709551616 : Nat),
      (0 : Int) ≤ (↑(i + (8 : Nat)) : Int) ∧ (↑(i + (8 : Nat)) : Int) ≤ (↑c : Int),
      (0 : Int) ≤ (↑(i + (4 : Nat)) : Int) ∧ (↑(i + (4 : Nat)) : Int) ≤ (↑(i + (8 : Nat)) : Int),
      sbN (i + (8 : Nat)) (i + (4 : Nat)) ≤ sbN c (i + (4 : Nat)) ∧ sbN c (i + (4 : Nat)) ≤ (9223372036854775807 : Nat),
      adN (loO (some (Value.int IntKind.i64 (↑(i + (4 : Nat)) : Int))) (0 : Nat) (i + (4 : Nat)) c (1 : Nat))
          (sbN (i + (8 : Nat)) (i + (4 : Nat))) ≤
        List.length xs,
      Fl
        (tkD (loO (some (Value.int IntKind.i64 (↑(i + (4 : Nat)) : Int))) (0 : Nat) (i + (4 : Nat)) c (1 : Nat))
          (sbN (i + (8 : Nat)) (i + (4 : Nat))) xs),
      Byts
        (tkD (loO (some (Value.int IntKind.i64 (↑(i + (4 : Nat)) : Int))) (0 : Nat) (i + (4 : Nat)) c (1 : Nat))
          (sbN (i + (8 : Nat)) (i + (4 : Nat))) xs),
      (4 : Nat) ≤ sbN (i + (8 : Nat)) (i + (4 : Nat)), rg IntKind.i64 (↑(i + (8 : Nat)) : Int),
      rg IntKind.i64 (↑(i + (12 : Nat)) : Int), c < (18446744073709551616 : Nat),
      (0 : Int) ≤ (↑(i + (12 : Nat)) : Int) ∧ (↑(i + (12 : Nat)) : Int) ≤ (↑c : Int),
      (0 : Int) ≤ (↑(i + (8 : Nat)) : Int) ∧ (↑(i + (8 : Nat)) : Int) ≤ (↑(i + (12 : Nat)) : Int),
      sbN (i + (12 : Nat)) (i + (8 : Nat)) ≤ sbN c (i + (8 : Nat)) ∧
        sbN c (i + (8 : Nat)) ≤ (9223372036854775807 : Nat),
      adN (loO (some (Value.int IntKind.i64 (↑(i + (8 : Nat)) : Int))) (0 : Nat) (i + (8 : Nat)) c (1 : Nat))
          (sbN (i + (12 : Nat)) (i + (8 : Nat))) ≤
        List.length xs,
      Fl
        (tkD (loO (some (Value.int IntKind.i64 (↑(i + (8 : Nat)) : Int))) (0 : Nat) (i + (8 : Nat)) c (1 : Nat))
          (sbN (i + (12 : Nat)) (i + (8 : Nat))) xs),
      Byts
        (tkD (loO (some (Value.int IntKind.i64 (↑(i + (8 : Nat)) : Int))) (0 : Nat) (i + (8 : Nat)) c (1 : Nat))
          (sbN (i + (12 : Nat)) (i + (8 : Nat))) xs),
      (4 : Nat) ≤ sbN (i + (12 : Nat)) (i + (8 : Nat)), (1 : Nat) ≠ (0 : Nat),
      (24 : Nat) ≤ (140737488355328 : Nat) ∧ (1 : Nat) ≤ (9223372036854775807 : Nat), (3 : Nat) ≤ (3 : Nat),
      true = true, rg IntKind.i64 (↑(i + (12 : Nat)) : Int)]) := by kernel_rfl
theorem re_more1 (inr : Bool) (xs ys : List Value) (n c i m : Nat) : prjZ [0, 4, 5] (codeZ (enV noL) Try.prog (runZ (enV noL) Try.prog 5) 10 inr 100000 (reB Try.prog) (SL 44 (reS n c i (.slice (some ⟨1, 0, none⟩) m (capBig + 1)))) [(0, ⟨.old, xs⟩), (1, enRow ys)] 2 [true]) =
Res.ok
  ((Xt.normal, (44 : Nat),
      [((0 : Nat), Value.slice (some (Addr.mk (0 : Nat) (0 : Nat) none)) n c),
        ((4 : Nat), Value.slice (some (Addr.mk (3 : Nat) (0 : Nat) none)) (m + (1 : Nat)) (capBig + (3 : Nat))),
        ((5 : Nat), Value.int IntKind.i64 (↑(i + (12 : Nat)) : Int))],
      [((0 : Nat), Rw.mk Kd.old xs),
        ((2 : Nat),
          Rw.mk Kd.shut
            [Value.int IntKind.i64
                (n4
                  (tkD (loO (some (Value.int IntKind.i64 (↑i : Int))) (0 : Nat) i c (1 : Nat)) (sbN (i + (4 : Nat)) i)
                    xs)),
              Value.int IntKind.i64
                (n4
                  (tkD
                    (loO (some (Value.int IntKind.i64 (↑(i + (4 : Nat)) : Int))) (0 : Nat) (i + (4 : Nat)) c (1 : Nat))
                    (sbN (i + (8 : Nat)) (i + (4 : Nat))) xs)),
              Value.int IntKind.i64
                (n4
                  (tkD
                    (loO (some (Value.int IntKind.i64 (↑(i + (8 : Nat)) : Int))) (0 : Nat) (i + (8 : Nat)) c (1 : Nat))
                    (sbN (i + (12 : Nat)) (i + (8 : Nat))) xs))]),
        ((3 : Nat),
          Rw.mk
            (Kd.room (3 : Nat)
              [Value.int IntKind.i64 (0 : Int), Value.int IntKind.i64 (0 : Int), Value.int IntKind.i64 (0 : Int)])
            (ys ++
              [Value.int IntKind.i64
                  (n4
                    (tkD (loO (some (Value.int IntKind.i64 (↑i : Int))) (0 : Nat) i c (1 : Nat)) (sbN (i + (4 : Nat)) i)
                      xs)),
                Value.int IntKind.i64
                  (n4
                    (tkD
                      (loO (some (Value.int IntKind.i64 (↑(i + (4 : Nat)) : Int))) (0 : Nat) (i + (4 : Nat)) c
                        (1 : Nat))
                      (sbN (i + (8 : Nat)) (i + (4 : Nat))) xs)),
                Value.int IntKind.i64
                  (n4
                    (tkD
                      (loO (some (Value.int IntKind.i64 (↑(i + (8 : Nat)) : Int))) (0 : Nat) (i + (8 : Nat)) c
                        (1 : Nat))
                      (sbN (i + (12 : Nat)) (i + (8 : Nat))) xs))]))],
      (4 : Nat), [(1 : Nat)], []),
    [],
    [decide ((↑i : Int) < (↑n : Int)) = true, rg IntKind.i64 (↑(i + (4 : Nat)) : Int), c < (18446744073709551616 : Nat),
      (0 : Int) ≤ (↑(i + (4 : Nat)) : Int) ∧ (↑(i + (4 : Nat)) : Int) ≤ (↑c : Int),
      (0 : Int) ≤ (↑i : Int) ∧ (↑i : Int) ≤ (↑(i + (4 : Nat)) : Int),
      sbN (i + (4 : Nat)) i ≤ sbN c i ∧ sbN c i ≤ (9223372036854775807 : Nat),
      adN (loO (some (Value.int IntKind.i64 (↑i : Int))) (0 : Nat) i c (1 : Nat)) (sbN (i + (4 : Nat)) i) ≤
        List.length xs,
      Fl (tkD (loO (some (Value.int IntKind.i64 (↑i : Int))) (0 : Nat) i c (1 : Nat)) (sbN (i + (4 : Nat)) i) xs),
      Byts (tkD (loO (some (Value.int IntKind.i64 (↑i : Int))) (0 : Nat) i c (1 : Nat)) (sbN (i + (4 : Nat)) i) xs),
      (4 : Nat) ≤ sbN (i + (4 : Nat)) i, rg IntKind.i64 (↑(i + (4 : Nat)) : Int),
      rg IntKind.i64 (↑(i + (8 : Nat)) : Int), c < (18446744073709551616 : Nat),
      (0 : Int) ≤ (↑(i + (8 : Nat)) : Int) ∧ (↑(i + (8 : Nat)) : Int) ≤ (↑c : Int),
      (0 : Int) ≤ (↑(i + (4 : Nat)) : Int) ∧ (↑(i + (4 : Nat)) : Int) ≤ (↑(i + (8 : Nat)) : Int),
      sbN (i + (8 : Nat)) (i + (4 : Nat)) ≤ sbN c (i + (4 : Nat)) ∧ sbN c (i + (4 : Nat)) ≤ (9223372036854775807 : Nat),
      adN (loO (some (Value.int IntKind.i64 (↑(i + (4 : Nat)) : Int))) (0 : Nat) (i + (4 : Nat)) c (1 : Nat))
          (sbN (i + (8 : Nat)) (i + (4 : Nat))) ≤
        List.length xs,
      Fl
        (tkD (loO (some (Value.int IntKind.i64 (↑(i + (4 : Nat)) : Int))) (0 : Nat) (i + (4 : Nat)) c (1 : Nat))
          (sbN (i + (8 : Nat)) (i + (4 : Nat))) xs),
      Byts
        (tkD (loO (some (Value.int IntKind.i64 (↑(i + (4 : Nat)) : Int))) (0 : Nat) (i + (4 : Nat)) c (1 : Nat))
          (sbN (i + (8 : Nat)) (i + (4 : Nat))) xs),
      (4 : Nat) ≤ sbN (i + (8 : Nat)) (i + (4 : Nat)), rg IntKind.i64 (↑(i + (8 : Nat)) : Int),
      rg IntKind.i64 (↑(i + (12 : Nat)) : Int), c < (18446744073709551616 : Nat),
      (0 : Int) ≤ (↑(i + (12 : Nat)) : Int) ∧ (↑(i + (12 : Nat)) : Int) ≤ (↑c : Int),
      (0 : Int) ≤ (↑(i + (8 : Nat)) : Int) ∧ (↑(i + (8 : Nat)) : Int) ≤ (↑(i + (12 : Nat)) : Int),
      sbN (i + (12 : Nat)) (i + (8 : Nat)) ≤ sbN c (i + (8 : Nat)) ∧
        sbN c (i + (8 : Nat)) ≤ (9223372036854775807 : Nat),
      adN (loO (some (Value.int IntKind.i64 (↑(i + (8 : Nat)) : Int))) (0 : Nat) (i + (8 : Nat)) c (1 : Nat))
          (sbN (i + (12 : Nat)) (i + (8 : Nat))) ≤
        List.length xs,
      Fl
        (tkD (loO (some (Value.int IntKind.i64 (↑(i + (8 : Nat)) : Int))) (0 : Nat) (i + (8 : Nat)) c (1 : Nat))
          (sbN (i + (12 : Nat)) (i + (8 : Nat))) xs),
      Byts
        (tkD (loO (some (Value.int IntKind.i64 (↑(i + (8 : Nat)) : Int))) (0 : Nat) (i + (8 : Nat)) c (1 : Nat))
          (sbN (i + (12 : Nat)) (i + (8 : Nat))) xs),
      (4 : Nat) ≤ sbN (i + (12 : Nat)) (i + (8 : Nat)), capBig + (1 : Nat) = capBig + (1 : Nat),
      List.length ys = m * (3 : Nat),
      (m + (1 : Nat)) * (24 : Nat) ≤ (140737488355328 : Nat) ∧ m + (1 : Nat) ≤ (9223372036854775807 : Nat),
      (3 : Nat) ≤ (3 : Nat), true = true, rg IntKind.i64 (↑(i + (12 : Nat)) : Int)]) := by kernel_rfl
theorem re_done0 (inr : Bool) (xs : List Value) (n c i : Nat) : prjZ [4] (codeZ (enV noL) Try.prog (runZ (enV noL) Try.prog 5) 10 inr 100000 (reB Try.prog) (SL 44 (reS n c i (.slice none 0 0))) [(0, ⟨.old, xs⟩)] 1 [false]) =
Res.ok
  ((Xt.exit (0 : Nat), (44 : Nat), [((4 : Nat), Value.slice none (0 : Nat) (0 : Nat))], [((0 : Nat), Rw.mk Kd.old xs)],
      (1 : Nat), [], []),
    [], [decide ((↑i : Int) < (↑n : Int)) = false]) := by kernel_rfl
theorem re_done1 (inr : Bool) (xs ys : List Value) (n c i m : Nat) : prjZ [4] (codeZ (enV noL) Try.prog (runZ (enV noL) Try.prog 5) 10 inr 100000 (reB Try.prog) (SL 44 (reS n c i (.slice (some ⟨1, 0, none⟩) m (capBig + 1)))) [(0, ⟨.old, xs⟩), (1, enRow ys)] 2 [false]) =
Res.ok
  ((Xt.exit (0 : Nat), (44 : Nat),
      [((4 : Nat), Value.slice (some (Addr.mk (1 : Nat) (0 : Nat) none)) m (capBig + (1 : Nat)))],
      [((0 : Nat), Rw.mk Kd.old xs),
        ((1 : Nat),
          Rw.mk
            (Kd.room (3 : Nat)
              [Value.int IntKind.i64 (0 : Int), Value.int IntKind.i64 (0 : Int), Value.int IntKind.i64 (0 : Int)])
            ys)],
      (2 : Nat), [], []),
    [], [decide ((↑i : Int) < (↑n : Int)) = false]) := by kernel_rfl
def e3 (xs : List Value) (o : Nat) : List Value := [.int .i64 (n4 (xs.drop o)), .int .i64 (n4 (xs.drop (o + 4))), .int .i64 (n4 (xs.drop (o + 8)))]
def entL (xs : List Value) : Nat → Nat → List Value
  | _, 0 => []
  | o, k + 1 => e3 xs o ++ entL xs (o + 12) k
def enOk (xs : List Value) (n : Nat) : Bool := logL (entL xs 0 (n / 12)) (n / 12) 0 0 && decide (n / 12 ≤ 64)
def enSpec (S : Nat → Nat → List (Nat × Value)) : LSpec := lspec (fun live h => match live, h with | (_, .slice _ n c) :: _, [(_, r)] => some (n, c, r.cs) | _, _ => none) (fun a => (S a.1 a.2.1, [(0, ⟨.old, a.2.2⟩)], 1))
  (fun a tp => match tp with
    | true :: tp' => some ((.exit 0, [(4, .slice none 0 0)], [(0, ⟨.old, a.2.2⟩)], 4, []), tp', [a.1 = 0, Byts a.2.2, a.2.2.length = a.1, a.1 ≤ a.2.1 ∧ a.2.1 ≤ 9223372036854775807])
    | false :: tp' => some ((.exit 0, [(4, .slice (some ⟨1, 0, none⟩) (a.1 / 12) (capBig + 1))], [(0, ⟨.old, a.2.2⟩), (1, enRow (entL a.2.2 0 (a.1 / 12)))], 4, []), tp', [decide (a.1 = 0) = false, Byts a.2.2, a.1 % 12 = 0, a.2.2.length = a.1, a.1 ≤ a.2.1 ∧ a.2.1 ≤ 9223372036854775807, a.1 ≤ 4096])
    | [] => none)
def sEn : Spec1 := fun xs n tp => match tp with
  | true :: tp' => some (⟨fun _ => .tuple ⟨[.slice none 0 0, .int .i64 4]⟩, []⟩, tp', [Byts xs, decide (n % 12 = 0) = false])
  | false :: true :: tp' => some (⟨fun _ => .tuple ⟨[.slice none 0 0, .int .i64 0]⟩, []⟩, tp', [Byts xs, n = 0])
  | false :: false :: true :: tp' => some (⟨fun _ => .tuple ⟨[.slice none 0 0, .int .i64 4]⟩, []⟩, tp', [Byts xs, n % 12 = 0, decide (n = 0) = false, n ≤ 4096, enOk xs n = false])
  | false :: false :: false :: tp' => some (⟨fun nx => .tuple ⟨[.slice (some ⟨nx, 0, none⟩) (n / 12) (capBig + nx), .int .i64 0]⟩, [enRow (entL xs 0 (n / 12))]⟩, tp', [Byts xs, n % 12 = 0, decide (n = 0) = false, n ≤ 4096, enOk xs n = true])
  | _ => none
def enL (P : Program) : LFun := orL (mkL 9 4 30 [0, 4] (enB P) (enSpec fun n c => enS 0 n c (.slice none 0 0))) (mkL 10 5 44 [0, 4, 5] (reB P) (enSpec fun n c => reS n c 0 (.slice none 0 0)))
theorem en_bad (xs : List Value) (n c : Nat) : runZ (enV (enL Try.prog)) Try.prog 5 9 [.slice (some ⟨0, 0, none⟩) n c] [(0, ⟨.old, xs⟩)] 1 [true] =
Res.ok
  ((Value.tuple (Array.mk [Value.slice none (0 : Nat) (0 : Nat), Value.int IntKind.i64 (4 : Int)]),
      [((0 : Nat), Rw.mk Kd.old xs)], (1 : Nat), []),
    [], [(0 : Int) ≤ (↑n : Int) ∧ (0 : Int) < (12 : Int), ((↑(n % (12 : Nat)) : Int) != (0 : Int)) = true]) := by kernel_rfl
theorem en_nil (xs : List Value) (n c : Nat) : runZ (enV (enL Try.prog)) Try.prog 5 9 [.slice (some ⟨0, 0, none⟩) n c] [(0, ⟨.old, xs⟩)] 1 [false, true, false] =
Res.ok
  ((Value.tuple (Array.mk [Value.slice none (0 : Nat) (0 : Nat), Value.int IntKind.i64 (0 : Int)]),
      [((0 : Nat), Rw.mk Kd.old xs)], (4 : Nat), []),
    [],
    [(0 : Int) ≤ (↑n : Int) ∧ (0 : Int) < (12 : Int), ((↑(n % (12 : Nat)) : Int) != (0 : Int)) = false,
      enB Try.prog = enB Try.prog,
      [((0 : Nat), Value.slice (some (Addr.mk (0 : Nat) (0 : Nat) none)) n c),
          ((4 : Nat), Value.slice none (0 : Nat) (0 : Nat))] =
        enS (0 : Nat) n c (Value.slice none (0 : Nat) (0 : Nat)),
      [((0 : Nat), Rw.mk Kd.old xs)] = [((0 : Nat), Rw.mk Kd.old xs)], (1 : Nat) = (1 : Nat), n = (0 : Nat), Byts xs,
      List.length xs = n, n ≤ c ∧ c ≤ (9223372036854775807 : Nat), Ints IntKind.i64 [], false = false]) := by kernel_rfl
theorem en_not (xs : List Value) (n c : Nat) : runZ (enV (enL Try.prog)) Try.prog 5 9 [.slice (some ⟨0, 0, none⟩) n c] [(0, ⟨.old, xs⟩)] 1 [false, false, true] =
Res.ok
  ((Value.tuple (Array.mk [Value.slice none (0 : Nat) (0 : Nat), Value.int IntKind.i64 (4 : Int)]),
      [((0 : Nat), Rw.mk Kd.old xs)], (4 : Nat), []),
    [],
    [(0 : Int) ≤ (↑n : Int) ∧ (0 : Int) < (12 : Int), ((↑(n % (12 : Nat)) : Int) != (0 : Int)) = false,
      enB Try.prog = enB Try.prog,
      [((0 : Nat), Value.slice (some (Addr.mk (0 : Nat) (0 : Nat) none)) n c),
          ((4 : Nat), Value.slice none (0 : Nat) (0 : Nat))] =
        enS (0 : Nat) n c (Value.slice none (0 : Nat) (0 : Nat)),
      [((0 : Nat), Rw.mk Kd.old xs)] = [((0 : Nat), Rw.mk Kd.old xs)], (1 : Nat) = (1 : Nat),
      decide (n = (0 : Nat)) = false, Byts xs, n % (12 : Nat) = (0 : Nat), List.length xs = n,
      n ≤ c ∧ c ≤ (9223372036854775807 : Nat), n ≤ (4096 : Nat), capBig + (1 : Nat) = capBig + (1 : Nat),
      n / (12 : Nat) * (3 : Nat) ≤ List.length (entL xs (0 : Nat) (n / (12 : Nat))), (0 : Nat) < (3 : Nat),
      n / (12 : Nat) * (3 : Nat) ≤ List.length (entL xs (0 : Nat) (n / (12 : Nat))),
      Fl (List.take (n / (12 : Nat) * (3 : Nat)) (entL xs (0 : Nat) (n / (12 : Nat)))),
      Ints IntKind.i64 (List.take (n / (12 : Nat) * (3 : Nat)) (entL xs (0 : Nat) (n / (12 : Nat)))),
      (!(logL (List.take (n / (12 : Nat) * (3 : Nat)) (entL xs (0 : Nat) (n / (12 : Nat))))
              (avLen
                (Av.sl (List.take (n / (12 : Nat) * (3 : Nat)) (entL xs (0 : Nat) (n / (12 : Nat)))) (n / (12 : Nat))))
              (0 : Nat) (0 : Int) &&
            decide
              (avLen
                  (Av.sl (List.take (n / (12 : Nat) * (3 : Nat)) (entL xs (0 : Nat) (n / (12 : Nat))))
                    (n / (12 : Nat))) ≤
                (64 : Nat)))) =
        true]) := by kernel_rfl
theorem en_ok (xs : List Value) (n c : Nat) : runZ (enV (enL Try.prog)) Try.prog 5 9 [.slice (some ⟨0, 0, none⟩) n c] [(0, ⟨.old, xs⟩)] 1 [false, false, false] =
Res.ok
  ((Value.tuple
        (Array.mk
          [Value.slice (some (Addr.mk (1 : Nat) (0 : Nat) none)) (n / (12 : Nat)) (capBig + (1 : Nat)),
            Value.int IntKind.i64 (0 : Int)]),
      [((0 : Nat), Rw.mk Kd.old xs),
        ((1 : Nat),
          Rw.mk
            (Kd.room (3 : Nat)
              [Value.int IntKind.i64 (0 : Int), Value.int IntKind.i64 (0 : Int), Value.int IntKind.i64 (0 : Int)])
            (entL xs (0 : Nat) (n / (12 : Nat))))],
      (4 : Nat), []),
    [],
    [(0 : Int) ≤ (↑n : Int) ∧ (0 : Int) < (12 : Int), ((↑(n % (12 : Nat)) : Int) != (0 : Int)) = false,
      enB Try.prog = enB Try.prog,
      [((0 : Nat), Value.slice (some (Addr.mk (0 : Nat) (0 : Nat) none)) n c),
          ((4 : Nat), Value.slice none (0 : Nat) (0 : Nat))] =
        enS (0 : Nat) n c (Value.slice none (0 : Nat) (0 : Nat)),
      [((0 : Nat), Rw.mk Kd.old xs)] = [((0 : Nat), Rw.mk Kd.old xs)], (1 : Nat) = (1 : Nat),
      decide (n = (0 : Nat)) = false, Byts xs, n % (12 : Nat) = (0 : Nat), List.length xs = n,
      n ≤ c ∧ c ≤ (9223372036854775807 : Nat), n ≤ (4096 : Nat), capBig + (1 : Nat) = capBig + (1 : Nat),
      n / (12 : Nat) * (3 : Nat) ≤ List.length (entL xs (0 : Nat) (n / (12 : Nat))), (0 : Nat) < (3 : Nat),
      n / (12 : Nat) * (3 : Nat) ≤ List.length (entL xs (0 : Nat) (n / (12 : Nat))),
      Fl (List.take (n / (12 : Nat) * (3 : Nat)) (entL xs (0 : Nat) (n / (12 : Nat)))),
      Ints IntKind.i64 (List.take (n / (12 : Nat) * (3 : Nat)) (entL xs (0 : Nat) (n / (12 : Nat)))),
      (!(logL (List.take (n / (12 : Nat) * (3 : Nat)) (entL xs (0 : Nat) (n / (12 : Nat))))
              (avLen
                (Av.sl (List.take (n / (12 : Nat) * (3 : Nat)) (entL xs (0 : Nat) (n / (12 : Nat)))) (n / (12 : Nat))))
              (0 : Nat) (0 : Int) &&
            decide
              (avLen
                  (Av.sl (List.take (n / (12 : Nat) * (3 : Nat)) (entL xs (0 : Nat) (n / (12 : Nat))))
                    (n / (12 : Nat))) ≤
                (64 : Nat)))) =
        false]) := by kernel_rfl
theorem en_n  : runZ (enV noL) Try.prog 5 9 [.slice none 0 0] [] 1 [false, false, false] =
Res.ok
  ((Value.tuple (Array.mk [Value.slice none (0 : Nat) (0 : Nat), Value.int IntKind.i64 (0 : Int)]), [], (1 : Nat), []),
    [],
    [(0 : Int) ≤ (0 : Int) ∧ (0 : Int) < (12 : Int), false = false, false = false, Ints IntKind.i64 [], false = false]) := by kernel_rfl
theorem re_bad (xs : List Value) (n c : Nat) : runZ (enV (enL Try.prog)) Try.prog 5 10 [.slice (some ⟨0, 0, none⟩) n c] [(0, ⟨.old, xs⟩)] 1 [true] =
Res.ok
  ((Value.tuple (Array.mk [Value.slice none (0 : Nat) (0 : Nat), Value.int IntKind.i64 (4 : Int)]),
      [((0 : Nat), Rw.mk Kd.old xs)], (1 : Nat), []),
    [], [(0 : Int) ≤ (↑n : Int) ∧ (0 : Int) < (12 : Int), ((↑(n % (12 : Nat)) : Int) != (0 : Int)) = true]) := by kernel_rfl
theorem re_nil (xs : List Value) (n c : Nat) : runZ (enV (enL Try.prog)) Try.prog 5 10 [.slice (some ⟨0, 0, none⟩) n c] [(0, ⟨.old, xs⟩)] 1 [false, true, false] =
Res.ok
  ((Value.tuple (Array.mk [Value.slice none (0 : Nat) (0 : Nat), Value.int IntKind.i64 (0 : Int)]),
      [((0 : Nat), Rw.mk Kd.old xs)], (4 : Nat), []),
    [],
    [(0 : Int) ≤ (↑n : Int) ∧ (0 : Int) < (12 : Int), ((↑(n % (12 : Nat)) : Int) != (0 : Int)) = false,
      reB Try.prog = reB Try.prog,
      [((0 : Nat), Value.slice (some (Addr.mk (0 : Nat) (0 : Nat) none)) n c),
          ((4 : Nat), Value.slice none (0 : Nat) (0 : Nat)), ((5 : Nat), Value.int IntKind.i64 (0 : Int))] =
        reS n c (0 : Nat) (Value.slice none (0 : Nat) (0 : Nat)),
      [((0 : Nat), Rw.mk Kd.old xs)] = [((0 : Nat), Rw.mk Kd.old xs)], (1 : Nat) = (1 : Nat), n = (0 : Nat), Byts xs,
      List.length xs = n, n ≤ c ∧ c ≤ (9223372036854775807 : Nat), Ints IntKind.i64 [], false = false]) := by kernel_rfl
theorem re_not (xs : List Value) (n c : Nat) : runZ (enV (enL Try.prog)) Try.prog 5 10 [.slice (some ⟨0, 0, none⟩) n c] [(0, ⟨.old, xs⟩)] 1 [false, false, true] =
Res.ok
  ((Value.tuple (Array.mk [Value.slice none (0 : Nat) (0 : Nat), Value.int IntKind.i64 (4 : Int)]),
      [((0 : Nat), Rw.mk Kd.old xs)], (4 : Nat), []),
    [],
    [(0 : Int) ≤ (↑n : Int) ∧ (0 : Int) < (12 : Int), ((↑(n % (12 : Nat)) : Int) != (0 : Int)) = false,
      reB Try.prog = reB Try.prog,
      [((0 : Nat), Value.slice (some (Addr.mk (0 : Nat) (0 : Nat) none)) n c),
          ((4 : Nat), Value.slice none (0 : Nat) (0 : Nat)), ((5 : Nat), Value.int IntKind.i64 (0 : Int))] =
        reS n c (0 : Nat) (Value.slice none (0 : Nat) (0 : Nat)),
      [((0 : Nat), Rw.mk Kd.old xs)] = [((0 : Nat), Rw.mk Kd.old xs)], (1 : Nat) = (1 : Nat),
      decide (n = (0 : Nat)) = false, Byts xs, n % (12 : Nat) = (0 : Nat), List.length xs = n,
      n ≤ c ∧ c ≤ (9223372036854775807 : Nat), n ≤ (4096 : Nat), capBig + (1 : Nat) = capBig + (1 : Nat),
      n / (12 : Nat) * (3 : Nat) ≤ List.length (entL xs (0 : Nat) (n / (12 : Nat))), (0 : Nat) < (3 : Nat),
      n / (12 : Nat) * (3 : Nat) ≤ List.length (entL xs (0 : Nat) (n / (12 : Nat))),
      Fl (List.take (n / (12 : Nat) * (3 : Nat)) (entL xs (0 : Nat) (n / (12 : Nat)))),
      Ints IntKind.i64 (List.take (n / (12 : Nat) * (3 : Nat)) (entL xs (0 : Nat) (n / (12 : Nat)))),
      (!(logL (List.take (n / (12 : Nat) * (3 : Nat)) (entL xs (0 : Nat) (n / (12 : Nat))))
              (avLen
                (Av.sl (List.take (n / (12 : Nat) * (3 : Nat)) (entL xs (0 : Nat) (n / (12 : Nat)))) (n / (12 : Nat))))
              (0 : Nat) (0 : Int) &&
            decide
              (avLen
                  (Av.sl (List.take (n / (12 : Nat) * (3 : Nat)) (entL xs (0 : Nat) (n / (12 : Nat))))
                    (n / (12 : Nat))) ≤
                (64 : Nat)))) =
        true]) := by kernel_rfl
theorem re_ok (xs : List Value) (n c : Nat) : runZ (enV (enL Try.prog)) Try.prog 5 10 [.slice (some ⟨0, 0, none⟩) n c] [(0, ⟨.old, xs⟩)] 1 [false, false, false] =
Res.ok
  ((Value.tuple
        (Array.mk
          [Value.slice (some (Addr.mk (1 : Nat) (0 : Nat) none)) (n / (12 : Nat)) (capBig + (1 : Nat)),
            Value.int IntKind.i64 (0 : Int)]),
      [((0 : Nat), Rw.mk Kd.old xs),
        ((1 : Nat),
          Rw.mk
            (Kd.room (3 : Nat)
              [Value.int IntKind.i64 (0 : Int), Value.int IntKind.i64 (0 : Int), Value.int IntKind.i64 (0 : Int)])
            (entL xs (0 : Nat) (n / (12 : Nat))))],
      (4 : Nat), []),
    [],
    [(0 : Int) ≤ (↑n : Int) ∧ (0 : Int) < (12 : Int), ((↑(n % (12 : Nat)) : Int) != (0 : Int)) = false,
      reB Try.prog = reB Try.prog,
      [((0 : Nat), Value.slice (some (Addr.mk (0 : Nat) (0 : Nat) none)) n c),
          ((4 : Nat), Value.slice none (0 : Nat) (0 : Nat)), ((5 : Nat), Value.int IntKind.i64 (0 : Int))] =
        reS n c (0 : Nat) (Value.slice none (0 : Nat) (0 : Nat)),
      [((0 : Nat), Rw.mk Kd.old xs)] = [((0 : Nat), Rw.mk Kd.old xs)], (1 : Nat) = (1 : Nat),
      decide (n = (0 : Nat)) = false, Byts xs, n % (12 : Nat) = (0 : Nat), List.length xs = n,
      n ≤ c ∧ c ≤ (9223372036854775807 : Nat), n ≤ (4096 : Nat), capBig + (1 : Nat) = capBig + (1 : Nat),
      n / (12 : Nat) * (3 : Nat) ≤ List.length (entL xs (0 : Nat) (n / (12 : Nat))), (0 : Nat) < (3 : Nat),
      n / (12 : Nat) * (3 : Nat) ≤ List.length (entL xs (0 : Nat) (n / (12 : Nat))),
      Fl (List.take (n / (12 : Nat) * (3 : Nat)) (entL xs (0 : Nat) (n / (12 : Nat)))),
      Ints IntKind.i64 (List.take (n / (12 : Nat) * (3 : Nat)) (entL xs (0 : Nat) (n / (12 : Nat)))),
      (!(logL (List.take (n / (12 : Nat) * (3 : Nat)) (entL xs (0 : Nat) (n / (12 : Nat))))
              (avLen
                (Av.sl (List.take (n / (12 : Nat) * (3 : Nat)) (entL xs (0 : Nat) (n / (12 : Nat)))) (n / (12 : Nat))))
              (0 : Nat) (0 : Int) &&
            decide
              (avLen
                  (Av.sl (List.take (n / (12 : Nat) * (3 : Nat)) (entL xs (0 : Nat) (n / (12 : Nat))))
                    (n / (12 : Nat))) ≤
                (64 : Nat)))) =
        false]) := by kernel_rfl
theorem re_n  : runZ (enV noL) Try.prog 5 10 [.slice none 0 0] [] 1 [false, false, false] =
Res.ok
  ((Value.tuple (Array.mk [Value.slice none (0 : Nat) (0 : Nat), Value.int IntKind.i64 (0 : Int)]), [], (1 : Nat), []),
    [],
    [(0 : Int) ≤ (0 : Int) ∧ (0 : Int) < (12 : Int), false = false, false = false, Ints IntKind.i64 [], false = false]) := by kernel_rfl

theorem logT_one : TOneZ Try.prog logT := orTz_ok (mkT_one log_ok.1) (orTz_ok (mkT_one log_ok.2) msgT_one)

/-! ### entries of bytes -/
theorem n4_take {l : List Value} {n : Nat} (h : 4 ≤ n) : n4 (l.take n) = n4 l := by
  have : ∀ i, i < n → intAt (l.take n) i = intAt l i := fun i hi => by unfold intAt; rw [List.getElem?_take, if_pos hi]
  unfold n4
  rw [this 0 (by omega), this 1 (by omega), this 2 (by omega), this 3 (by omega)]
theorem entL_len (xs : List Value) : ∀ k o, (entL xs o k).length = k * 3
  | 0, o => rfl
  | k + 1, o => by simp only [entL, e3, List.length_append, entL_len xs k, List.length_cons, List.length_nil]; omega
theorem entL_ints (xs : List Value) : ∀ k o, ∃ l : List Int, entL xs o k = l.map (Value.int .i64)
  | 0, o => ⟨[], rfl⟩
  | k + 1, o => by
      obtain ⟨l, hl⟩ := entL_ints xs k (o + 12)
      exact ⟨n4 (xs.drop o) :: n4 (xs.drop (o + 4)) :: n4 (xs.drop (o + 8)) :: l, by simp only [entL, e3, hl, List.map_cons, List.cons_append, List.nil_append]⟩
theorem entL_Ints (xs : List Value) (k o : Nat) : Ints .i64 (entL xs o k) := by obtain ⟨l, hl⟩ := entL_ints xs k o; rw [hl]; exact Ints.of
theorem en_loop1 {inr : Bool} {h0 : Hp} {xs : List Value} (hb : Byts xs) : ∀ (k o c m : Nat) (ys : List Value), (k = 0 ∨ (o + k * 12 ≤ xs.length ∧ k * 12 ≤ c)) → c ≤ 9223372036854775807 → ys.length = m * 3 → m + k ≤ 1000 → Fl ys →
    LRuns inr Try.prog (enB Try.prog) 1 4 h0 30 (enS o (k * 12) c (.slice (some ⟨1, 0, none⟩) m (capBig + 1))) [(0, ⟨.old, xs⟩), (1, enRow ys)] 2
      (.exit 0, [(4, .slice (some ⟨1, 0, none⟩) (m + k) (capBig + 1))], [(0, ⟨.old, xs⟩), (1, enRow (ys ++ entL xs o k))])
  | 0, o, c, m, ys, hk, hc, hl, hm, hf => by
      have hX : XOkZ (enV noL) Try.prog := noXz_ok rfl
      have hT : TOkZ (enV noL) Try.prog := T_okV rfl logT_one
      have hL : LOkZ (enV noL) Try.prog := noL_okV rfl
      refine LRuns.exit (code_runs hX hL (runZ_ok hX hT hL mixed 5) mixed (en_done1 inr xs ys o (0 * 12) c m) ?_) (by intro e; cases e) rfl (by omega) (by omega) (fun n => n) ?_ ?_ rfl
      · simp [Alls]
      · exact ⟨rfl, rb_slg rfl rfl, trivial⟩
      · exact ⟨rb_old (by omega) rfl (fl_byts hb), rb_row (m := 1) rfl rfl rfl (by simp [entL]) (hf.app (Fl.of rfl)), trivial⟩
  | k + 1, o, c, m, ys, hk, hc, hl, hm, hf => by
      have hX : XOkZ (enV noL) Try.prog := noXz_ok rfl
      have hT : TOkZ (enV noL) Try.prog := T_okV rfl logT_one
      have hL : LOkZ (enV noL) Try.prog := noL_okV rfl
      obtain ⟨hk1, hk2⟩ : o + (k + 1) * 12 ≤ xs.length ∧ (k + 1) * 12 ≤ c := by omega
      have a4 : ∀ v, loO (some v) o 4 c 1 = o + 4 := fun v => lo_at (by omega)
      have a8 : ∀ v, loO (some v) o 8 c 1 = o + 8 := fun v => lo_at (by omega)
      have hex : Fl (ys ++ e3 xs o) := hf.app (Fl.of rfl)
      have nx := en_loop1 (inr := inr) (h0 := h0) hb k (loO (some (.int .i64 12)) o 12 c 1) (c - 12) (m + 1) (ys ++ e3 xs o)
        (by rcases Nat.eq_zero_or_pos k with h | h
            · exact .inl h
            · rw [lo_at (by omega)]; exact .inr ⟨by omega, by omega⟩) (by omega) (by simp [e3, hl]; omega) (by omega) hex
      have eL : entL xs (loO (some (.int .i64 12)) o 12 c 1) k = entL xs (o + 12) k := by
        rcases Nat.eq_zero_or_pos k with h | h
        · subst h; rfl
        · rw [lo_at (by omega)]
      rw [eL, show ys ++ e3 xs o ++ entL xs (o + 12) k = ys ++ entL xs o (k + 1) by simp only [entL, List.append_assoc], show m + 1 + k = m + (k + 1) by omega] at nx
      refine LRuns.step (code_runs hX hL (runZ_ok hX hT hL mixed 5) mixed (en_more1 inr xs ys o ((k + 1) * 12) c m) ?_) rfl (by omega) (Nat.le_refl _) (fun _ => 3) ?_ ?_ rfl nx
      · simp only [tkD_eq, adN_eq, sbN_eq, a4, a8, Alls, decide_eq_true_eq]
        have b0 := (hb.drop o).take ((k + 1) * 12)
        have b4 := (hb.drop (o + 4)).take ((k + 1) * 12 - 4)
        have b8 := (hb.drop (o + 8)).take ((k + 1) * 12 - 8)
        have f0 := fl_byts b0
        have f4 := fl_byts b4
        have f8 := fl_byts b8
        repeat' (first | with_reducible exact trivial | with_reducible apply And.intro)
        all_goals first | with_reducible assumption | omega | with_reducible rfl | (skip)
      · rw [show (k + 1) * 12 - 12 = k * 12 by omega]
        exact ⟨rfl, rb_slc rfl (by unfold capBig; omega), rfl, rb_slg rfl rfl, trivial⟩
      · refine ⟨rb_old (by omega) rfl (fl_byts hb), rb_row (m := 3) (ds := ys ++ [.int .i64 (n4 (tkD o ((k + 1) * 12) xs)), .int .i64 (n4 (tkD (loO (some (.int .i64 4)) o 4 c 1) ((k + 1) * 12 - 4) xs)), .int .i64 (n4 (tkD (loO (some (.int .i64 8)) o 8 c 1) ((k + 1) * 12 - 8) xs))]) rfl rfl rfl ?_ hex, trivial⟩
        rw [a4, a8, tkD_eq, tkD_eq, tkD_eq, n4_take (by omega), n4_take (by omega), n4_take (by omega)]
        rfl
theorem e3_Fl (xs : List Value) (o : Nat) : Fl (e3 xs o) := Fl.of rfl
theorem en_loop {inr : Bool} {h0 : Hp} {xs : List Value} (hb : Byts xs) (n c : Nat) (hn : n % 12 = 0) (hl : xs.length = n) (hc : n ≤ c ∧ c ≤ 9223372036854775807) (hs : n ≤ 4096) :
    LRuns inr Try.prog (enB Try.prog) 1 4 h0 30 (enS 0 n c (.slice none 0 0)) [(0, ⟨.old, xs⟩)] 1
      (bif decide (n = 0) then (.exit 0, [(4, .slice none 0 0)], [(0, ⟨.old, xs⟩)]) else (.exit 0, [(4, .slice (some ⟨1, 0, none⟩) (n / 12) (capBig + 1))], [(0, ⟨.old, xs⟩), (1, enRow (entL xs 0 (n / 12)))])) := by
  have hX : XOkZ (enV noL) Try.prog := noXz_ok rfl
  have hT : TOkZ (enV noL) Try.prog := T_okV rfl logT_one
  have hL : LOkZ (enV noL) Try.prog := noL_okV rfl
  by_cases h0' : n = 0
  · rw [decide_eq_true h0', cond_true]
    subst h0'
    refine LRuns.exit (code_runs hX hL (runZ_ok hX hT hL mixed 5) mixed (en_done0 inr xs 0 0 c) ?_) (by intro e; cases e) rfl (by omega) (by omega) (fun n => n) ?_ ?_ rfl
    · simp [Alls]
    · exact ⟨rfl, rfl, trivial⟩
    · exact ⟨rb_old (by omega) rfl (fl_byts hb), trivial⟩
  · rw [decide_eq_false h0', cond_false]
    have a4 : ∀ v, loO (some v) 0 4 c 1 = 0 + 4 := fun v => lo_at (by omega)
    have a8 : ∀ v, loO (some v) 0 8 c 1 = 0 + 8 := fun v => lo_at (by omega)
    obtain ⟨k, hk⟩ : ∃ k, n / 12 = k + 1 := ⟨n / 12 - 1, by omega⟩
    have hnk : n = (k + 1) * 12 := by omega
    have nx := en_loop1 (inr := inr) (h0 := h0) hb k (loO (some (.int .i64 12)) 0 12 c 1) (c - 12) 1 (e3 xs 0)
      (by rcases Nat.eq_zero_or_pos k with h | h
          · exact .inl h
          · rw [lo_at (by omega)]; exact .inr ⟨by omega, by omega⟩) (by omega) rfl (by omega) (e3_Fl _ _)
    have eL : entL xs (loO (some (.int .i64 12)) 0 12 c 1) k = entL xs (0 + 12) k := by
      rcases Nat.eq_zero_or_pos k with h | h
      · subst h; rfl
      · rw [lo_at (by omega)]
    rw [eL, show e3 xs 0 ++ entL xs (0 + 12) k = entL xs 0 (k + 1) from rfl, show 1 + k = n / 12 by omega, ← hk] at nx
    refine LRuns.stepTo (N' := 2) (code_runs hX hL (runZ_ok hX hT hL mixed 5) mixed (en_more0 inr xs 0 n c) ?_) rfl (by omega) (by omega) (by omega) (by omega) (fun _ => 2) ?_ ?_ rfl nx
    · simp only [tkD_eq, adN_eq, sbN_eq, a4, a8, Alls, decide_eq_true_eq]
      have b0 := (hb.drop 0).take n
      have b4 := (hb.drop (0 + 4)).take (n - 4)
      have b8 := (hb.drop (0 + 8)).take (n - 8)
      have f0 := fl_byts b0
      have f4 := fl_byts b4
      have f8 := fl_byts b8
      repeat' (first | with_reducible exact trivial | with_reducible apply And.intro)
      all_goals first | with_reducible assumption | omega | with_reducible rfl | (skip)
    · rw [show n - 12 = k * 12 by omega]
      exact ⟨rfl, rb_slc rfl (by unfold capBig; omega), rfl, rb_slg rfl rfl, trivial⟩
    · refine ⟨rb_old (by omega) rfl (fl_byts hb), rb_row (m := 2) (ds := [.int .i64 (n4 (tkD 0 n xs)), .int .i64 (n4 (tkD (loO (some (.int .i64 4)) 0 4 c 1) (n - 4) xs)), .int .i64 (n4 (tkD (loO (some (.int .i64 8)) 0 8 c 1) (n - 8) xs))]) rfl rfl rfl ?_ (e3_Fl _ _), trivial⟩
      rw [a4, a8, tkD_eq, tkD_eq, tkD_eq, n4_take (by omega), n4_take (by omega), n4_take (by omega)]
      rfl
theorem en_spec_ok : LSOk Try.prog 30 [0, 4] (enB Try.prog) (enSpec fun n c => enS 0 n c (.slice none 0 0)) := by
  refine lspec_ok fun a tp xt l2 h2 nx2 d tp' ob hs ho inr ts hn hg => ?_
  obtain ⟨n, c, xs⟩ := a
  simp only at hs hg
  have hrow : ∀ {xs : List Value}, Byts xs → RbL 1 1 (fun n => n) [(0, ⟨.old, xs⟩)] [(0, ⟨.old, xs⟩)] [(0, ⟨.old, xs⟩)] := fun hb => ⟨rb_old (by omega) rfl (fl_byts hb), trivial⟩
  split at hs
  · simp only [Option.some.injEq, Prod.mk.injEq] at hs
    obtain ⟨⟨rfl, rfl, rfl, rfl, rfl⟩, rfl, rfl⟩ := hs
    obtain ⟨h0, hb, hl, hc, _⟩ := ho
    have key := en_loop (inr := inr) (h0 := [(0, ⟨.old, xs⟩)]) hb n c (by omega) hl hc (by omega)
    rw [decide_eq_true h0, cond_true] at key
    refine LRuns.enter (l2 := enS 0 n c (.slice none 0 0)) hn hg (Nat.le_refl 1) (by omega) (fun n => n) ?_ (hrow hb) rfl key ?_
    · exact ⟨rfl, rb_slc rfl (by unfold capBig; omega), rfl, rfl, trivial⟩
    · exact tidy_of (by omega) (fun n hn hd => rfl) rfl
  · simp only [Option.some.injEq, Prod.mk.injEq] at hs
    obtain ⟨⟨rfl, rfl, rfl, rfl, rfl⟩, rfl, rfl⟩ := hs
    obtain ⟨h0, hb, hm, hl, hc, hs, _⟩ := ho
    have key := en_loop (inr := inr) (h0 := [(0, ⟨.old, xs⟩)]) hb n c hm hl hc hs
    rw [h0, cond_false] at key
    refine LRuns.enter (l2 := enS 0 n c (.slice none 0 0)) hn hg (Nat.le_refl 1) (by omega) (fun n => n) ?_ (hrow hb) rfl key ?_
    · exact ⟨rfl, rb_slc rfl (by unfold capBig; omega), rfl, rfl, trivial⟩
    · refine tidy_of (by omega) (fun n hn hd => ?_) rfl
      obtain rfl : n = 0 := by omega
      rfl
  · cases hs

theorem re_loop1 {inr : Bool} {h0 : Hp} {xs : List Value} (hb : Byts xs) {n c : Nat} (hn : xs.length = n) (hc : n ≤ c ∧ c ≤ 9223372036854775807) : ∀ (k i m : Nat) (ys : List Value), i + k * 12 = n → ys.length = m * 3 → m + k ≤ 1000 → Fl ys →
    LRuns inr Try.prog (reB Try.prog) 1 4 h0 44 (reS n c i (.slice (some ⟨1, 0, none⟩) m (capBig + 1))) [(0, ⟨.old, xs⟩), (1, enRow ys)] 2
      (.exit 0, [(4, .slice (some ⟨1, 0, none⟩) (m + k) (capBig + 1))], [(0, ⟨.old, xs⟩), (1, enRow (ys ++ entL xs i k))])
  | 0, i, m, ys, hk, hl, hm, hf => by
      have hX : XOkZ (enV noL) Try.prog := noXz_ok rfl
      have hT : TOkZ (enV noL) Try.prog := T_okV rfl logT_one
      have hL : LOkZ (enV noL) Try.prog := noL_okV rfl
      refine LRuns.exit (code_runs hX hL (runZ_ok hX hT hL mixed 5) mixed (re_done1 inr xs ys n c i m) ?_) (by intro e; cases e) rfl (by omega) (by omega) (fun n => n) ?_ ?_ rfl
      · simp only [Alls, decide_eq_false_iff_not]
        repeat' (first | with_reducible exact trivial | with_reducible apply And.intro)
        all_goals first | with_reducible assumption | omega | with_reducible rfl | (skip)
      · exact ⟨rfl, rb_slg rfl rfl, trivial⟩
      · exact ⟨rb_old (by omega) rfl (fl_byts hb), rb_row (m := 1) rfl rfl rfl (by simp [entL]) (hf.app (Fl.of rfl)), trivial⟩
  | k + 1, i, m, ys, hk, hl, hm, hf => by
      have hX : XOkZ (enV noL) Try.prog := noXz_ok rfl
      have hT : TOkZ (enV noL) Try.prog := T_okV rfl logT_one
      have hL : LOkZ (enV noL) Try.prog := noL_okV rfl
      have a0 : ∀ v, loO (some v) 0 i c 1 = 0 + i := fun v => lo_at (by omega)
      have a4 : ∀ v, loO (some v) 0 (i + 4) c 1 = 0 + (i + 4) := fun v => lo_at (by omega)
      have a8 : ∀ v, loO (some v) 0 (i + 8) c 1 = 0 + (i + 8) := fun v => lo_at (by omega)
      have hex : Fl (ys ++ e3 xs i) := hf.app (e3_Fl _ _)
      have nx := re_loop1 (inr := inr) (h0 := h0) hb hn hc k (i + 12) (m + 1) (ys ++ e3 xs i) (by omega) (by simp [e3, hl]; omega) (by omega) hex
      rw [show ys ++ e3 xs i ++ entL xs (i + 12) k = ys ++ entL xs i (k + 1) by simp only [entL, List.append_assoc], show m + 1 + k = m + (k + 1) by omega] at nx
      refine LRuns.step (code_runs hX hL (runZ_ok hX hT hL mixed 5) mixed (re_more1 inr xs ys n c i m) ?_) rfl (by omega) (Nat.le_refl _) (fun _ => 3) ?_ ?_ rfl nx
      · simp only [tkD_eq, adN_eq, sbN_eq, a0, a4, a8, Alls, decide_eq_true_eq, rg]
        have b0 := (hb.drop (0 + i)).take (i + 4 - i)
        have b4 := (hb.drop (0 + (i + 4))).take (i + 8 - (i + 4))
        have b8 := (hb.drop (0 + (i + 8))).take (i + 12 - (i + 8))
        have f0 := fl_byts b0
        have f4 := fl_byts b4
        have f8 := fl_byts b8
        repeat' (first | with_reducible exact trivial | with_reducible apply And.intro)
        all_goals first | with_reducible assumption | omega | with_reducible rfl | (skip)
      · exact ⟨rfl, rb_slc rfl (by unfold capBig; omega), rfl, rb_slg rfl rfl, rfl, rfl, trivial⟩
      · refine ⟨rb_old (by omega) rfl (fl_byts hb), rb_row (m := 3) (ds := ys ++ [.int .i64 (n4 (tkD (loO (some (.int .i64 (i : Int))) 0 i c 1) (sbN (i + 4) i) xs)), .int .i64 (n4 (tkD (loO (some (.int .i64 ((i + 4 : Nat) : Int))) 0 (i + 4) c 1) (sbN (i + 8) (i + 4)) xs)), .int .i64 (n4 (tkD (loO (some (.int .i64 ((i + 8 : Nat) : Int))) 0 (i + 8) c 1) (sbN (i + 12) (i + 8)) xs))]) rfl rfl rfl ?_ hex, trivial⟩
        rw [a0, a4, a8, tkD_eq, tkD_eq, tkD_eq, sbN_eq, sbN_eq, sbN_eq, n4_take (by omega), n4_take (by omega), n4_take (by omega), Nat.zero_add, Nat.zero_add, Nat.zero_add]
        rfl
theorem re_loop {inr : Bool} {h0 : Hp} {xs : List Value} (hb : Byts xs) (n c : Nat) (hn : n % 12 = 0) (hl : xs.length = n) (hc : n ≤ c ∧ c ≤ 9223372036854775807) (hs : n ≤ 4096) :
    LRuns inr Try.prog (reB Try.prog) 1 4 h0 44 (reS n c 0 (.slice none 0 0)) [(0, ⟨.old, xs⟩)] 1
      (bif decide (n = 0) then (.exit 0, [(4, .slice none 0 0)], [(0, ⟨.old, xs⟩)]) else (.exit 0, [(4, .slice (some ⟨1, 0, none⟩) (n / 12) (capBig + 1))], [(0, ⟨.old, xs⟩), (1, enRow (entL xs 0 (n / 12)))])) := by
  have hX : XOkZ (enV noL) Try.prog := noXz_ok rfl
  have hT : TOkZ (enV noL) Try.prog := T_okV rfl logT_one
  have hL : LOkZ (enV noL) Try.prog := noL_okV rfl
  by_cases h0' : n = 0
  · rw [decide_eq_true h0', cond_true]
    subst h0'
    refine LRuns.exit (code_runs hX hL (runZ_ok hX hT hL mixed 5) mixed (re_done0 inr xs 0 c 0) ?_) (by intro e; cases e) rfl (by omega) (by omega) (fun n => n) ?_ ?_ rfl
    · simp [Alls]
    · exact ⟨rfl, rfl, trivial⟩
    · exact ⟨rb_old (by omega) rfl (fl_byts hb), trivial⟩
  · rw [decide_eq_false h0', cond_false]
    have a0 : ∀ v, loO (some v) 0 0 c 1 = 0 + 0 := fun v => lo_at (by omega)
    have a4 : ∀ v, loO (some v) 0 (0 + 4) c 1 = 0 + (0 + 4) := fun v => lo_at (by omega)
    have a8 : ∀ v, loO (some v) 0 (0 + 8) c 1 = 0 + (0 + 8) := fun v => lo_at (by omega)
    obtain ⟨k, hk⟩ : ∃ k, n / 12 = k + 1 := ⟨n / 12 - 1, by omega⟩
    have nx := re_loop1 (inr := inr) (h0 := h0) hb hl hc k (0 + 12) 1 (e3 xs 0) (by omega) rfl (by omega) (e3_Fl _ _)
    rw [show e3 xs 0 ++ entL xs (0 + 12) k = entL xs 0 (k + 1) from rfl, show 1 + k = n / 12 by omega, ← hk] at nx
    refine LRuns.stepTo (N' := 2) (code_runs hX hL (runZ_ok hX hT hL mixed 5) mixed (re_more0 inr xs n c 0) ?_) rfl (by omega) (by omega) (by omega) (by omega) (fun _ => 2) ?_ ?_ rfl nx
    · simp only [tkD_eq, adN_eq, sbN_eq, a0, a4, a8, Alls, decide_eq_true_eq, rg]
      have b0 := (hb.drop (0 + 0)).take (0 + 4 - 0)
      have b4 := (hb.drop (0 + (0 + 4))).take (0 + 8 - (0 + 4))
      have b8 := (hb.drop (0 + (0 + 8))).take (0 + 12 - (0 + 8))
      have f0 := fl_byts b0
      have f4 := fl_byts b4
      have f8 := fl_byts b8
      repeat' (first | with_reducible exact trivial | with_reducible apply And.intro)
      all_goals first | with_reducible assumption | omega | with_reducible rfl | (skip)
    · exact ⟨rfl, rb_slc rfl (by unfold capBig; omega), rfl, rb_slg rfl rfl, rfl, rfl, trivial⟩
    · refine ⟨rb_old (by omega) rfl (fl_byts hb), rb_row (m := 2) (ds := [.int .i64 (n4 (tkD (loO (some (.int .i64 ((0 : Nat) : Int))) 0 0 c 1) (sbN (0 + 4) 0) xs)), .int .i64 (n4 (tkD (loO (some (.int .i64 ((0 + 4 : Nat) : Int))) 0 (0 + 4) c 1) (sbN (0 + 8) (0 + 4)) xs)), .int .i64 (n4 (tkD (loO (some (.int .i64 ((0 + 8 : Nat) : Int))) 0 (0 + 8) c 1) (sbN (0 + 12) (0 + 8)) xs))]) rfl rfl rfl ?_ (e3_Fl _ _), trivial⟩
      rw [a0, a4, a8, tkD_eq, tkD_eq, tkD_eq, sbN_eq, sbN_eq, sbN_eq, n4_take (by omega), n4_take (by omega), n4_take (by omega)]
      rfl
theorem re_spec_ok : LSOk Try.prog 44 [0, 4, 5] (reB Try.prog) (enSpec fun n c => reS n c 0 (.slice none 0 0)) := by
  refine lspec_ok fun a tp xt l2 h2 nx2 d tp' ob hs ho inr ts hn hg => ?_
  obtain ⟨n, c, xs⟩ := a
  simp only at hs hg
  have hrow : ∀ {xs : List Value}, Byts xs → RbL 1 1 (fun n => n) [(0, ⟨.old, xs⟩)] [(0, ⟨.old, xs⟩)] [(0, ⟨.old, xs⟩)] := fun hb => ⟨rb_old (by omega) rfl (fl_byts hb), trivial⟩
  split at hs
  · simp only [Option.some.injEq, Prod.mk.injEq] at hs
    obtain ⟨⟨rfl, rfl, rfl, rfl, rfl⟩, rfl, rfl⟩ := hs
    obtain ⟨h0, hb, hl, hc, _⟩ := ho
    have key := re_loop (inr := inr) (h0 := [(0, ⟨.old, xs⟩)]) hb n c (by omega) hl hc (by omega)
    rw [decide_eq_true h0, cond_true] at key
    refine LRuns.enter (l2 := reS n c 0 (.slice none 0 0)) hn hg (Nat.le_refl 1) (by omega) (fun n => n) ?_ (hrow hb) rfl key ?_
    · exact ⟨rfl, rb_slc rfl (by unfold capBig; omega), rfl, rfl, rfl, rfl, trivial⟩
    · exact tidy_of (by omega) (fun n hn hd => rfl) rfl
  · simp only [Option.some.injEq, Prod.mk.injEq] at hs
    obtain ⟨⟨rfl, rfl, rfl, rfl, rfl⟩, rfl, rfl⟩ := hs
    obtain ⟨h0, hb, hm, hl, hc, hs, _⟩ := ho
    have key := re_loop (inr := inr) (h0 := [(0, ⟨.old, xs⟩)]) hb n c hm hl hc hs
    rw [h0, cond_false] at key
    refine LRuns.enter (l2 := reS n c 0 (.slice none 0 0)) hn hg (Nat.le_refl 1) (by omega) (fun n => n) ?_ (hrow hb) rfl key ?_
    · exact ⟨rfl, rb_slc rfl (by unfold capBig; omega), rfl, rfl, rfl, rfl, trivial⟩
    · refine tidy_of (by omega) (fun n hn hd => ?_) rfl
      obtain rfl : n = 0 := by omega
      rfl
  · cases hs
theorem mod12 {n : Nat} (h : n % 12 = 0) : (((n % 12 : Nat) : Int) != 0) = false := by rw [h]; rfl
theorem mod12' {n : Nat} (h : decide (n % 12 = 0) = false) : (((n % 12 : Nat) : Int) != 0) = true := by
  simp only [decide_eq_false_iff_not] at h
  simp only [bne_iff_ne, ne_eq]; omega
/-- A tuple with a new list, grown. -/
theorem GrIs.grown {size len : Nat} {z cs : List Value} {e : Value} {h0' : Hp} {m : Nat} (hl : lk h0' m = some ⟨.room size z, cs⟩) (hf : Fl cs) (he : ∀ σ, renV σ e = some e) :
    GrIs ⟨fun nx => .tuple ⟨[.slice (some ⟨nx, 0, none⟩) len (capBig + nx), e]⟩, [⟨.room size z, cs⟩]⟩ (.tuple ⟨[.slice (some ⟨m, 0, none⟩) len (capBig + m), e]⟩) h0' (fun _ => m) := by
  refine ⟨fun nx => ?_, fun j r h => ?_, fun i j hi hj _ => ?_⟩
  · exact renV_tuple_mk (renL_mk (f2s_slice0 (g := fun _ => m) (by simp) len) (renL_mk (he _) rfl))
  · match j, h with
    | 0, h => cases h; exact ⟨hf, rfl, (fun e => by cases e), hl⟩
    | j + 1, h => simp at h
  · simp only [List.length_cons, List.length_nil] at hi hj; omega
theorem en_gok : GOk Try.prog 9 [.s 1] (gS sEn) := by
  have hX : ∀ L, XOkZ (enV L) Try.prog := fun L => noXz_ok rfl
  have hT : ∀ L, TOkZ (enV L) Try.prog := fun L => T_okV rfl logT_one
  have hL : LOkZ (enV (enL Try.prog)) Try.prog := L_okV rfl (orL_ok (mkL_ok en_spec_ok) (mkL_ok re_spec_ok))
  have hL0 : LOkZ (enV noL) Try.prog := noL_okV rfl
  refine gS_ok (fun tp gr tp' ob hG ho => ?_) (fun zs n c tp gr tp' ob hG ho hfl hl0 hc => ?_)
  · unfold sEn at hG
    split at hG
    case h_2 =>
      simp only [Option.some.injEq, Prod.mk.injEq] at hG
      obtain ⟨rfl, rfl, rfl⟩ := hG
      exact ⟨_, _, _, _, fun n => n, run_tri (hX _) (hT _) hL0 en_n (by simp [Alls, rg, Ints, intsOf]) rfl, GrIs.flat fun σ => rfl⟩
    all_goals (exfalso; simp only [Option.some.injEq, Prod.mk.injEq, reduceCtorEq] at hG)
    all_goals (obtain ⟨rfl, rfl, rfl⟩ := hG; simp [Alls] at ho)
  · have hl : zs.length = n := by omega
    have hel := entL_len zs (n / 12) 0
    have htk : (entL zs 0 (n / 12)).take (n / 12 * 3) = entL zs 0 (n / 12) := take_len hel
    have hei := entL_Ints zs (n / 12) 0
    have hef := hei.fl
    unfold sEn at hG
    split at hG
    case h_5 => cases hG
    all_goals (simp only [Option.some.injEq, Prod.mk.injEq] at hG; obtain ⟨rfl, rfl, rfl⟩ := hG)
    · obtain ⟨hb, h, _⟩ := ho
      refine ⟨_, _, _, _, fun n => n, run_tri (hX _) (hT _) hL (en_bad zs n c) ?_ rfl, GrIs.flat fun σ => rfl⟩
      simp only [Alls]; repeat' (first | with_reducible exact trivial | with_reducible apply And.intro)
      all_goals first | with_reducible assumption | omega | with_reducible rfl | (exact mod12' h)
    · obtain ⟨hb, h, _⟩ := ho
      have h12 := mod12 (n := n) (by omega)
      refine ⟨_, _, _, _, fun n => n, run_tri (hX _) (hT _) hL (en_nil zs n c) ?_ rfl, GrIs.flat fun σ => rfl⟩
      simp only [Alls]; repeat' (first | with_reducible exact trivial | with_reducible apply And.intro)
      all_goals first | with_reducible assumption | omega | with_reducible rfl | (rfl)
    · obtain ⟨hb, hm, hz, hs, hr, _⟩ := ho
      have h12 := mod12 hm
      have hr2 : (!enOk zs n) = true := by rw [hr]; rfl
      refine ⟨_, _, _, _, fun n => n, run_tri (hX _) (hT _) hL (en_not zs n c) ?_ rfl, GrIs.flat fun σ => rfl⟩
      simp only [htk, Alls]; repeat' (first | with_reducible exact trivial | with_reducible apply And.intro)
      all_goals first | with_reducible assumption | omega | with_reducible rfl | (first | exact hr2 | rfl)
    · obtain ⟨hb, hm, hz, hs, hr, _⟩ := ho
      have h12 := mod12 hm
      have hr2 : (!enOk zs n) = false := by rw [hr]; rfl
      refine ⟨_, _, _, _, fun _ => 1, run_tri (hX _) (hT _) hL (en_ok zs n c) ?_ rfl, GrIs.grown rfl hef fun σ => rfl⟩
      simp only [htk, Alls]; repeat' (first | with_reducible exact trivial | with_reducible apply And.intro)
      all_goals first | with_reducible assumption | omega | with_reducible rfl | (first | exact hr2 | rfl)
theorem re_gok : GOk Try.prog 10 [.s 1] (gS sEn) := by
  have hX : ∀ L, XOkZ (enV L) Try.prog := fun L => noXz_ok rfl
  have hT : ∀ L, TOkZ (enV L) Try.prog := fun L => T_okV rfl logT_one
  have hL : LOkZ (enV (enL Try.prog)) Try.prog := L_okV rfl (orL_ok (mkL_ok en_spec_ok) (mkL_ok re_spec_ok))
  have hL0 : LOkZ (enV noL) Try.prog := noL_okV rfl
  refine gS_ok (fun tp gr tp' ob hG ho => ?_) (fun zs n c tp gr tp' ob hG ho hfl hl0 hc => ?_)
  · unfold sEn at hG
    split at hG
    case h_2 =>
      simp only [Option.some.injEq, Prod.mk.injEq] at hG
      obtain ⟨rfl, rfl, rfl⟩ := hG
      exact ⟨_, _, _, _, fun n => n, run_tri (hX _) (hT _) hL0 re_n (by simp [Alls, rg, Ints, intsOf]) rfl, GrIs.flat fun σ => rfl⟩
    all_goals (exfalso; simp only [Option.some.injEq, Prod.mk.injEq, reduceCtorEq] at hG)
    all_goals (obtain ⟨rfl, rfl, rfl⟩ := hG; simp [Alls] at ho)
  · have hl : zs.length = n := by omega
    have hel := entL_len zs (n / 12) 0
    have htk : (entL zs 0 (n / 12)).take (n / 12 * 3) = entL zs 0 (n / 12) := take_len hel
    have hei := entL_Ints zs (n / 12) 0
    have hef := hei.fl
    unfold sEn at hG
    split at hG
    case h_5 => cases hG
    all_goals (simp only [Option.some.injEq, Prod.mk.injEq] at hG; obtain ⟨rfl, rfl, rfl⟩ := hG)
    · obtain ⟨hb, h, _⟩ := ho
      refine ⟨_, _, _, _, fun n => n, run_tri (hX _) (hT _) hL (re_bad zs n c) ?_ rfl, GrIs.flat fun σ => rfl⟩
      simp only [Alls]; repeat' (first | with_reducible exact trivial | with_reducible apply And.intro)
      all_goals first | with_reducible assumption | omega | with_reducible rfl | (exact mod12' h)
    · obtain ⟨hb, h, _⟩ := ho
      have h12 := mod12 (n := n) (by omega)
      refine ⟨_, _, _, _, fun n => n, run_tri (hX _) (hT _) hL (re_nil zs n c) ?_ rfl, GrIs.flat fun σ => rfl⟩
      simp only [Alls]; repeat' (first | with_reducible exact trivial | with_reducible apply And.intro)
      all_goals first | with_reducible assumption | omega | with_reducible rfl | (rfl)
    · obtain ⟨hb, hm, hz, hs, hr, _⟩ := ho
      have h12 := mod12 hm
      have hr2 : (!enOk zs n) = true := by rw [hr]; rfl
      refine ⟨_, _, _, _, fun n => n, run_tri (hX _) (hT _) hL (re_not zs n c) ?_ rfl, GrIs.flat fun σ => rfl⟩
      simp only [htk, Alls]; repeat' (first | with_reducible exact trivial | with_reducible apply And.intro)
      all_goals first | with_reducible assumption | omega | with_reducible rfl | (first | exact hr2 | rfl)
    · obtain ⟨hb, hm, hz, hs, hr, _⟩ := ho
      have h12 := mod12 hm
      have hr2 : (!enOk zs n) = false := by rw [hr]; rfl
      refine ⟨_, _, _, _, fun _ => 1, run_tri (hX _) (hT _) hL (re_ok zs n c) ?_ rfl, GrIs.grown rfl hef fun σ => rfl⟩
      simp only [htk, Alls]; repeat' (first | with_reducible exact trivial | with_reducible apply And.intro)
      all_goals first | with_reducible assumption | omega | with_reducible rfl | (first | exact hr2 | rfl)
end Go.Proofs.Ytcmcelilollchaa
