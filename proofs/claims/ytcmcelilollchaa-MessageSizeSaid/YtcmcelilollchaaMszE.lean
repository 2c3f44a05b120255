/-
  Chapter 23: message.Check: a contract.
-/
import Derived.Test.YtcmcelilollchaaMszD
namespace Go.Proofs.Ytcmcelilollchaa
set_option linter.unusedSimpArgs false
set_option linter.unusedVariables false
set_option linter.unusedSectionVars false
open Go Go.RowKit

theorem ca_b0 (f : Nat → Int) (n c : Nat) (xs : List Value) : prjV (runZ (ckV (ck4L Try.prog)) Try.prog 5 18 [.agg ⟨hdF f ++ [.slice (some ⟨0, 0, none⟩) n c]⟩] [(0, ⟨.old, xs⟩)] 1 [false, false, false, false]) =
Res.ok
  (Value.int IntKind.i64 (2 : Int), [],
    [okC (f (0 : Nat)) = false, false = false, false = false, false = false,
      ckC Try.prog (4 : Nat) = ckC Try.prog (4 : Nat),
      [((1 : Nat), Value.pointer (some (Addr.mk (1 : Nat) (0 : Nat) none))),
          ((3 : Nat), Value.pointer (some (Addr.mk (2 : Nat) (0 : Nat) none))), ((5 : Nat), Value.bool false)] =
        ckS false,
      (3 : Nat) ≤ (4 : Nat) ∧ (4 : Nat) ≤ (10 : Nat),
      CkOk
        (intAt
          [Value.int IntKind.i64 (f (0 : Nat)), Value.int IntKind.i64 (f (1 : Nat)),
            Value.int IntKind.i64 (f (2 : Nat)), Value.int IntKind.i64 (f (3 : Nat)),
            Value.int IntKind.i64 (f (4 : Nat)), Value.int IntKind.i64 (f (5 : Nat)),
            Value.int IntKind.i64 (f (6 : Nat)), Value.int IntKind.i64 (f (7 : Nat)),
            Value.int IntKind.i64 (f (8 : Nat)), Value.int IntKind.u64 (f (9 : Nat)),
            Value.int IntKind.u64 (f (10 : Nat)), Value.int IntKind.i64 (f (11 : Nat)),
            Value.int IntKind.i64 (f (12 : Nat)), Value.int IntKind.u64 (f (13 : Nat)),
            Value.int IntKind.i64 (f (14 : Nat)), Value.int IntKind.i64 (f (15 : Nat))])
        (unSa (Value.slice (some (Addr.mk (0 : Nat) (0 : Nat) none)) n c)
          [((3 : Nat),
              Rw.mk Kd.shut
                [Value.int IntKind.i64 (f (0 : Nat)), Value.int IntKind.i64 (f (1 : Nat)),
                  Value.int IntKind.i64 (f (2 : Nat)), Value.int IntKind.i64 (ow (f (0 : Nat)) (3 : Nat) (f (3 : Nat))),
                  Value.int IntKind.i64 (ow (f (0 : Nat)) (4 : Nat) (f (4 : Nat))),
                  Value.int IntKind.i64 (ow (f (0 : Nat)) (5 : Nat) (f (5 : Nat))),
                  Value.int IntKind.i64 (ow (f (0 : Nat)) (6 : Nat) (f (6 : Nat))),
                  Value.int IntKind.i64 (ow (f (0 : Nat)) (7 : Nat) (f (7 : Nat))),
                  Value.int IntKind.i64 (ow (f (0 : Nat)) (8 : Nat) (f (8 : Nat))),
                  Value.int IntKind.u64 (ow (f (0 : Nat)) (9 : Nat) (f (9 : Nat))),
                  Value.int IntKind.u64 (ow (f (0 : Nat)) (10 : Nat) (f (10 : Nat))),
                  Value.int IntKind.i64 (ow (f (0 : Nat)) (11 : Nat) (f (11 : Nat))),
                  Value.int IntKind.i64 (ow (f (0 : Nat)) (12 : Nat) (f (12 : Nat))),
                  Value.int IntKind.u64 (ow (f (0 : Nat)) (13 : Nat) (f (13 : Nat))),
                  Value.int IntKind.i64 (ow (f (0 : Nat)) (14 : Nat) (f (14 : Nat))),
                  Value.int IntKind.i64 (ow (f (0 : Nat)) (15 : Nat) (f (15 : Nat)))]),
            ((2 : Nat),
              Rw.mk Kd.shut
                [Value.int IntKind.i64 (f (0 : Nat)), Value.int IntKind.i64 (f (1 : Nat)),
                  Value.int IntKind.i64 (f (2 : Nat)), Value.int IntKind.i64 (f (3 : Nat)),
                  Value.int IntKind.i64 (f (4 : Nat)), Value.int IntKind.i64 (f (5 : Nat)),
                  Value.int IntKind.i64 (f (6 : Nat)), Value.int IntKind.i64 (f (7 : Nat)),
                  Value.int IntKind.i64 (f (8 : Nat)), Value.int IntKind.u64 (f (9 : Nat)),
                  Value.int IntKind.u64 (f (10 : Nat)), Value.int IntKind.i64 (f (11 : Nat)),
                  Value.int IntKind.i64 (f (12 : Nat)), Value.int IntKind.u64 (f (13 : Nat)),
                  Value.int IntKind.i64 (f (14 : Nat)), Value.int IntKind.i64 (f (15 : Nat))]),
            ((1 : Nat),
              Rw.mk Kd.shut
                [Value.int IntKind.i64 (f (0 : Nat)), Value.int IntKind.i64 (f (1 : Nat)),
                  Value.int IntKind.i64 (f (2 : Nat)), Value.int IntKind.i64 (f (3 : Nat)),
                  Value.int IntKind.i64 (f (4 : Nat)), Value.int IntKind.i64 (f (5 : Nat)),
                  Value.int IntKind.i64 (f (6 : Nat)), Value.int IntKind.i64 (f (7 : Nat)),
                  Value.int IntKind.i64 (f (8 : Nat)), Value.int IntKind.u64 (f (9 : Nat)),
                  Value.int IntKind.u64 (f (10 : Nat)), Value.int IntKind.i64 (f (11 : Nat)),
                  Value.int IntKind.i64 (f (12 : Nat)), Value.int IntKind.u64 (f (13 : Nat)),
                  Value.int IntKind.i64 (f (14 : Nat)), Value.int IntKind.i64 (f (15 : Nat)),
                  Value.slice (some (Addr.mk (0 : Nat) (0 : Nat) none)) n c]),
            ((0 : Nat), Rw.mk Kd.old xs)])
        [((3 : Nat),
            Rw.mk Kd.shut
              [Value.int IntKind.i64 (f (0 : Nat)), Value.int IntKind.i64 (f (1 : Nat)),
                Value.int IntKind.i64 (f (2 : Nat)), Value.int IntKind.i64 (ow (f (0 : Nat)) (3 : Nat) (f (3 : Nat))),
                Value.int IntKind.i64 (ow (f (0 : Nat)) (4 : Nat) (f (4 : Nat))),
                Value.int IntKind.i64 (ow (f (0 : Nat)) (5 : Nat) (f (5 : Nat))),
                Value.int IntKind.i64 (ow (f (0 : Nat)) (6 : Nat) (f (6 : Nat))),
                Value.int IntKind.i64 (ow (f (0 : Nat)) (7 : Nat) (f (7 : Nat))),
                Value.int IntKind.i64 (ow (f (0 : Nat)) (8 : Nat) (f (8 : Nat))),
                Value.int IntKind.u64 (ow (f (0 : Nat)) (9 : Nat) (f (9 : Nat))),
                Value.int IntKind.u64 (ow (f (0 : Nat)) (10 : Nat) (f (10 : Nat))),
                Value.int IntKind.i64 (ow (f (0 : Nat)) (11 : Nat) (f (11 : Nat))),
                Value.int IntKind.i64 (ow (f (0 : Nat)) (12 : Nat) (f (12 : Nat))),
                Value.int IntKind.u64 (ow (f (0 : Nat)) (13 : Nat) (f (13 : Nat))),
                Value.int IntKind.i64 (ow (f (0 : Nat)) (14 : Nat) (f (14 : Nat))),
                Value.int IntKind.i64 (ow (f (0 : Nat)) (15 : Nat) (f (15 : Nat)))]),
          ((2 : Nat),
            Rw.mk Kd.shut
              [Value.int IntKind.i64 (f (0 : Nat)), Value.int IntKind.i64 (f (1 : Nat)),
                Value.int IntKind.i64 (f (2 : Nat)), Value.int IntKind.i64 (f (3 : Nat)),
                Value.int IntKind.i64 (f (4 : Nat)), Value.int IntKind.i64 (f (5 : Nat)),
                Value.int IntKind.i64 (f (6 : Nat)), Value.int IntKind.i64 (f (7 : Nat)),
                Value.int IntKind.i64 (f (8 : Nat)), Value.int IntKind.u64 (f (9 : Nat)),
                Value.int IntKind.u64 (f (10 : Nat)), Value.int IntKind.i64 (f (11 : Nat)),
                Value.int IntKind.i64 (f (12 : Nat)), Value.int IntKind.u64 (f (13 : Nat)),
                Value.int IntKind.i64 (f (14 : Nat)), Value.int IntKind.i64 (f (15 : Nat))]),
          ((1 : Nat),
            Rw.mk Kd.shut
              [Value.int IntKind.i64 (f (0 : Nat)), Value.int IntKind.i64 (f (1 : Nat)),
                Value.int IntKind.i64 (f (2 : Nat)), Value.int IntKind.i64 (f (3 : Nat)),
                Value.int IntKind.i64 (f (4 : Nat)), Value.int IntKind.i64 (f (5 : Nat)),
                Value.int IntKind.i64 (f (6 : Nat)), Value.int IntKind.i64 (f (7 : Nat)),
                Value.int IntKind.i64 (f (8 : Nat)), Value.int IntKind.u64 (f (9 : Nat)),
                Value.int IntKind.u64 (f (10 : Nat)), Value.int IntKind.i64 (f (11 : Nat)),
                Value.int IntKind.i64 (f (12 : Nat)), Value.int IntKind.u64 (f (13 : Nat)),
                Value.int IntKind.i64 (f (14 : Nat)), Value.int IntKind.i64 (f (15 : Nat)),
                Value.slice (some (Addr.mk (0 : Nat) (0 : Nat) none)) n c]),
          ((0 : Nat), Rw.mk Kd.old xs)]]) := by kernel_rfl
theorem ca_n0 (f : Nat → Int) : prjV (runZ (ckV (ck4L Try.prog)) Try.prog 5 18 [.agg ⟨hdF f ++ [.slice none 0 0]⟩] [] 1 [false, false, false, false]) =
Res.ok
  (Value.int IntKind.i64 (2 : Int), [],
    [okC (f (0 : Nat)) = false, false = false, false = false, false = false,
      ckC Try.prog (4 : Nat) = ckC Try.prog (4 : Nat),
      [((1 : Nat), Value.pointer (some (Addr.mk (1 : Nat) (0 : Nat) none))),
          ((3 : Nat), Value.pointer (some (Addr.mk (2 : Nat) (0 : Nat) none))), ((5 : Nat), Value.bool false)] =
        ckS false,
      (3 : Nat) ≤ (4 : Nat) ∧ (4 : Nat) ≤ (10 : Nat),
      CkOk
        (intAt
          [Value.int IntKind.i64 (f (0 : Nat)), Value.int IntKind.i64 (f (1 : Nat)),
            Value.int IntKind.i64 (f (2 : Nat)), Value.int IntKind.i64 (f (3 : Nat)),
            Value.int IntKind.i64 (f (4 : Nat)), Value.int IntKind.i64 (f (5 : Nat)),
            Value.int IntKind.i64 (f (6 : Nat)), Value.int IntKind.i64 (f (7 : Nat)),
            Value.int IntKind.i64 (f (8 : Nat)), Value.int IntKind.u64 (f (9 : Nat)),
            Value.int IntKind.u64 (f (10 : Nat)), Value.int IntKind.i64 (f (11 : Nat)),
            Value.int IntKind.i64 (f (12 : Nat)), Value.int IntKind.u64 (f (13 : Nat)),
            Value.int IntKind.i64 (f (14 : Nat)), Value.int IntKind.i64 (f (15 : Nat))])
        (unSa (Value.slice none (0 : Nat) (0 : Nat))
          [((3 : Nat),
              Rw.mk Kd.shut
                [Value.int IntKind.i64 (f (0 : Nat)), Value.int IntKind.i64 (f (1 : Nat)),
                  Value.int IntKind.i64 (f (2 : Nat)), Value.int IntKind.i64 (ow (f (0 : Nat)) (3 : Nat) (f (3 : Nat))),
                  Value.int IntKind.i64 (ow (f (0 : Nat)) (4 : Nat) (f (4 : Nat))),
                  Value.int IntKind.i64 (ow (f (0 : Nat)) (5 : Nat) (f (5 : Nat))),
                  Value.int IntKind.i64 (ow (f (0 : Nat)) (6 : Nat) (f (6 : Nat))),
                  Value.int IntKind.i64 (ow (f (0 : Nat)) (7 : Nat) (f (7 : Nat))),
                  Value.int IntKind.i64 (ow (f (0 : Nat)) (8 : Nat) (f (8 : Nat))),
                  Value.int IntKind.u64 (ow (f (0 : Nat)) (9 : Nat) (f (9 : Nat))),
                  Value.int IntKind.u64 (ow (f (0 : Nat)) (10 : Nat) (f (10 : Nat))),
                  Value.int IntKind.i64 (ow (f (0 : Nat)) (11 : Nat) (f (11 : Nat))),
                  Value.int IntKind.i64 (ow (f (0 : Nat)) (12 : Nat) (f (12 : Nat))),
                  Value.int IntKind.u64 (ow (f (0 : Nat)) (13 : Nat) (f (13 : Nat))),
                  Value.int IntKind.i64 (ow (f (0 : Nat)) (14 : Nat) (f (14 : Nat))),
                  Value.int IntKind.i64 (ow (f (0 : Nat)) (15 : Nat) (f (15 : Nat)))]),
            ((2 : Nat),
              Rw.mk Kd.shut
                [Value.int IntKind.i64 (f (0 : Nat)), Value.int IntKind.i64 (f (1 : Nat)),
                  Value.int IntKind.i64 (f (2 : Nat)), Value.int IntKind.i64 (f (3 : Nat)),
                  Value.int IntKind.i64 (f (4 : Nat)), Value.int IntKind.i64 (f (5 : Nat)),
                  Value.int IntKind.i64 (f (6 : Nat)), Value.int IntKind.i64 (f (7 : Nat)),
                  Value.int IntKind.i64 (f (8 : Nat)), Value.int IntKind.u64 (f (9 : Nat)),
                  Value.int IntKind.u64 (f (10 : Nat)), Value.int IntKind.i64 (f (11 : Nat)),
                  Value.int IntKind.i64 (f (12 : Nat)), Value.int IntKind.u64 (f (13 : Nat)),
                  Value.int IntKind.i64 (f (14 : Nat)), Value.int IntKind.i64 (f (15 : Nat))]),
            ((1 : Nat),
              Rw.mk Kd.shut
                [Value.int IntKind.i64 (f (0 : Nat)), Value.int IntKind.i64 (f (1 : Nat)),
                  Value.int IntKind.i64 (f (2 : Nat)), Value.int IntKind.i64 (f (3 : Nat)),
                  Value.int IntKind.i64 (f (4 : Nat)), Value.int IntKind.i64 (f (5 : Nat)),
                  Value.int IntKind.i64 (f (6 : Nat)), Value.int IntKind.i64 (f (7 : Nat)),
                  Value.int IntKind.i64 (f (8 : Nat)), Value.int IntKind.u64 (f (9 : Nat)),
                  Value.int IntKind.u64 (f (10 : Nat)), Value.int IntKind.i64 (f (11 : Nat)),
                  Value.int IntKind.i64 (f (12 : Nat)), Value.int IntKind.u64 (f (13 : Nat)),
                  Value.int IntKind.i64 (f (14 : Nat)), Value.int IntKind.i64 (f (15 : Nat)),
                  Value.slice none (0 : Nat) (0 : Nat)])])
        [((3 : Nat),
            Rw.mk Kd.shut
              [Value.int IntKind.i64 (f (0 : Nat)), Value.int IntKind.i64 (f (1 : Nat)),
                Value.int IntKind.i64 (f (2 : Nat)), Value.int IntKind.i64 (ow (f (0 : Nat)) (3 : Nat) (f (3 : Nat))),
                Value.int IntKind.i64 (ow (f (0 : Nat)) (4 : Nat) (f (4 : Nat))),
                Value.int IntKind.i64 (ow (f (0 : Nat)) (5 : Nat) (f (5 : Nat))),
                Value.int IntKind.i64 (ow (f (0 : Nat)) (6 : Nat) (f (6 : Nat))),
                Value.int IntKind.i64 (ow (f (0 : Nat)) (7 : Nat) (f (7 : Nat))),
                Value.int IntKind.i64 (ow (f (0 : Nat)) (8 : Nat) (f (8 : Nat))),
                Value.int IntKind.u64 (ow (f (0 : Nat)) (9 : Nat) (f (9 : Nat))),
                Value.int IntKind.u64 (ow (f (0 : Nat)) (10 : Nat) (f (10 : Nat))),
                Value.int IntKind.i64 (ow (f (0 : Nat)) (11 : Nat) (f (11 : Nat))),
                Value.int IntKind.i64 (ow (f (0 : Nat)) (12 : Nat) (f (12 : Nat))),
                Value.int IntKind.u64 (ow (f (0 : Nat)) (13 : Nat) (f (13 : Nat))),
                Value.int IntKind.i64 (ow (f (0 : Nat)) (14 : Nat) (f (14 : Nat))),
                Value.int IntKind.i64 (ow (f (0 : Nat)) (15 : Nat) (f (15 : Nat)))]),
          ((2 : Nat),
            Rw.mk Kd.shut
              [Value.int IntKind.i64 (f (0 : Nat)), Value.int IntKind.i64 (f (1 : Nat)),
                Value.int IntKind.i64 (f (2 : Nat)), Value.int IntKind.i64 (f (3 : Nat)),
                Value.int IntKind.i64 (f (4 : Nat)), Value.int IntKind.i64 (f (5 : Nat)),
                Value.int IntKind.i64 (f (6 : Nat)), Value.int IntKind.i64 (f (7 : Nat)),
                Value.int IntKind.i64 (f (8 : Nat)), Value.int IntKind.u64 (f (9 : Nat)),
                Value.int IntKind.u64 (f (10 : Nat)), Value.int IntKind.i64 (f (11 : Nat)),
                Value.int IntKind.i64 (f (12 : Nat)), Value.int IntKind.u64 (f (13 : Nat)),
                Value.int IntKind.i64 (f (14 : Nat)), Value.int IntKind.i64 (f (15 : Nat))]),
          ((1 : Nat),
            Rw.mk Kd.shut
              [Value.int IntKind.i64 (f (0 : Nat)), Value.int IntKind.i64 (f (1 : Nat)),
                Value.int IntKind.i64 (f (2 : Nat)), Value.int IntKind.i64 (f (3 : Nat)),
                Value.int IntKind.i64 (f (4 : Nat)), Value.int IntKind.i64 (f (5 : Nat)),
                Value.int IntKind.i64 (f (6 : Nat)), Value.int IntKind.i64 (f (7 : Nat)),
                Value.int IntKind.i64 (f (8 : Nat)), Value.int IntKind.u64 (f (9 : Nat)),
                Value.int IntKind.u64 (f (10 : Nat)), Value.int IntKind.i64 (f (11 : Nat)),
                Value.int IntKind.i64 (f (12 : Nat)), Value.int IntKind.u64 (f (13 : Nat)),
                Value.int IntKind.i64 (f (14 : Nat)), Value.int IntKind.i64 (f (15 : Nat)),
                Value.slice none (0 : Nat) (0 : Nat)])]]) := by kernel_rfl
theorem ca_b1 (f : Nat → Int) (n c : Nat) (xs : List Value) : prjV (runZ (ckV (ck4L Try.prog)) Try.prog 5 18 [.agg ⟨hdF f ++ [.slice (some ⟨0, 0, none⟩) n c]⟩] [(0, ⟨.old, xs⟩)] 1 [true, false, false, false]) =
Res.ok
  (Value.int IntKind.i64 (2 : Int), [],
    [okC (f (0 : Nat)) = true,
      (bif true then
          f (0 : Nat) == f (0 : Nat) &&
            (f (1 : Nat) == f (1 : Nat) &&
              (f (2 : Nat) == f (2 : Nat) &&
                (ow (f (0 : Nat)) (3 : Nat) (f (3 : Nat)) == f (3 : Nat) &&
                  (ow (f (0 : Nat)) (4 : Nat) (f (4 : Nat)) == f (4 : Nat) &&
                    (ow (f (0 : Nat)) (5 : Nat) (f (5 : Nat)) == f (5 : Nat) &&
                      (ow (f (0 : Nat)) (6 : Nat) (f (6 : Nat)) == f (6 : Nat) &&
                        (ow (f (0 : Nat)) (7 : Nat) (f (7 : Nat)) == f (7 : Nat) &&
                          (ow (f (0 : Nat)) (8 : Nat) (f (8 : Nat)) == f (8 : Nat) &&
                            (ow (f (0 : Nat)) (9 : Nat) (f (9 : Nat)) == f (9 : Nat) &&
                                (ow (f (0 : Nat)) (10 : Nat) (f (10 : Nat)) == f (10 : Nat) && true) &&
                              (ow (f (0 : Nat)) (11 : Nat) (f (11 : Nat)) == f (11 : Nat) &&
                                (ow (f (0 : Nat)) (12 : Nat) (f (12 : Nat)) == f (12 : Nat) &&
                                  (ow (f (0 : Nat)) (13 : Nat) (f (13 : Nat)) == f (13 : Nat) &&
                                    (ow (f (0 : Nat)) (14 : Nat) (f (14 : Nat)) == f (14 : Nat) &&
                                      (ow (f (0 : Nat)) (15 : Nat) (f (15 : Nat)) == f (15 : Nat) && true))))))))))))))
        else false) =
        false,
      false = false, false = false, ckC Try.prog (4 : Nat) = ckC Try.prog (4 : Nat),
      [((1 : Nat), Value.pointer (some (Addr.mk (1 : Nat) (0 : Nat) none))),
          ((3 : Nat), Value.pointer (some (Addr.mk (2 : Nat) (0 : Nat) none))), ((5 : Nat), Value.bool false)] =
        ckS false,
      (3 : Nat) ≤ (4 : Nat) ∧ (4 : Nat) ≤ (10 : Nat),
      CkOk
        (intAt
          [Value.int IntKind.i64 (f (0 : Nat)), Value.int IntKind.i64 (f (1 : Nat)),
            Value.int IntKind.i64 (f (2 : Nat)), Value.int IntKind.i64 (f (3 : Nat)),
            Value.int IntKind.i64 (f (4 : Nat)), Value.int IntKind.i64 (f (5 : Nat)),
            Value.int IntKind.i64 (f (6 : Nat)), Value.int IntKind.i64 (f (7 : Nat)),
            Value.int IntKind.i64 (f (8 : Nat)), Value.int IntKind.u64 (f (9 : Nat)),
            Value.int IntKind.u64 (f (10 : Nat)), Value.int IntKind.i64 (f (11 : Nat)),
            Value.int IntKind.i64 (f (12 : Nat)), Value.int IntKind.u64 (f (13 : Nat)),
            Value.int IntKind.i64 (f (14 : Nat)), Value.int IntKind.i64 (f (15 : Nat))])
        (unSa (Value.slice (some (Addr.mk (0 : Nat) (0 : Nat) none)) n c)
          [((3 : Nat),
              Rw.mk Kd.shut
                [Value.int IntKind.i64 (f (0 : Nat)), Value.int IntKind.i64 (f (1 : Nat)),
                  Value.int IntKind.i64 (f (2 : Nat)), Value.int IntKind.i64 (ow (f (0 : Nat)) (3 : Nat) (f (3 : Nat))),
                  Value.int IntKind.i64 (ow (f (0 : Nat)) (4 : Nat) (f (4 : Nat))),
                  Value.int IntKind.i64 (ow (f (0 : Nat)) (5 : Nat) (f (5 : Nat))),
                  Value.int IntKind.i64 (ow (f (0 : Nat)) (6 : Nat) (f (6 : Nat))),
                  Value.int IntKind.i64 (ow (f (0 : Nat)) (7 : Nat) (f (7 : Nat))),
                  Value.int IntKind.i64 (ow (f (0 : Nat)) (8 : Nat) (f (8 : Nat))),
                  Value.int IntKind.u64 (ow (f (0 : Nat)) (9 : Nat) (f (9 : Nat))),
                  Value.int IntKind.u64 (ow (f (0 : Nat)) (10 : Nat) (f (10 : Nat))),
                  Value.int IntKind.i64 (ow (f (0 : Nat)) (11 : Nat) (f (11 : Nat))),
                  Value.int IntKind.i64 (ow (f (0 : Nat)) (12 : Nat) (f (12 : Nat))),
                  Value.int IntKind.u64 (ow (f (0 : Nat)) (13 : Nat) (f (13 : Nat))),
                  Value.int IntKind.i64 (ow (f (0 : Nat)) (14 : Nat) (f (14 : Nat))),
                  Value.int IntKind.i64 (ow (f (0 : Nat)) (15 : Nat) (f (15 : Nat)))]),
            ((2 : Nat),
              Rw.mk Kd.shut
                [Value.int IntKind.i64 (f (0 : Nat)), Value.int IntKind.i64 (f (1 : Nat)),
                  Value.int IntKind.i64 (f (2 : Nat)), Value.int IntKind.i64 (f (3 : Nat)),
                  Value.int IntKind.i64 (f (4 : Nat)), Value.int IntKind.i64 (f (5 : Nat)),
                  Value.int IntKind.i64 (f (6 : Nat)), Value.int IntKind.i64 (f (7 : Nat)),
                  Value.int IntKind.i64 (f (8 : Nat)), Value.int IntKind.u64 (f (9 : Nat)),
                  Value.int IntKind.u64 (f (10 : Nat)), Value.int IntKind.i64 (f (11 : Nat)),
                  Value.int IntKind.i64 (f (12 : Nat)), Value.int IntKind.u64 (f (13 : Nat)),
                  Value.int IntKind.i64 (f (14 : Nat)), Value.int IntKind.i64 (f (15 : Nat))]),
            ((1 : Nat),
              Rw.mk Kd.shut
                [Value.int IntKind.i64 (f (0 : Nat)), Value.int IntKind.i64 (f (1 : Nat)),
                  Value.int IntKind.i64 (f (2 : Nat)), Value.int IntKind.i64 (f (3 : Nat)),
                  Value.int IntKind.i64 (f (4 : Nat)), Value.int IntKind.i64 (f (5 : Nat)),
                  Value.int IntKind.i64 (f (6 : Nat)), Value.int IntKind.i64 (f (7 : Nat)),
                  Value.int IntKind.i64 (f (8 : Nat)), Value.int IntKind.u64 (f (9 : Nat)),
                  Value.int IntKind.u64 (f (10 : Nat)), Value.int IntKind.i64 (f (11 : Nat)),
                  Value.int IntKind.i64 (f (12 : Nat)), Value.int IntKind.u64 (f (13 : Nat)),
                  Value.int IntKind.i64 (f (14 : Nat)), Value.int IntKind.i64 (f (15 : Nat)),
                  Value.slice (some (Addr.mk (0 : Nat) (0 : Nat) none)) n c]),
            ((0 : Nat), Rw.mk Kd.old xs)])
        [((3 : Nat),
            Rw.mk Kd.shut
              [Value.int IntKind.i64 (f (0 : Nat)), Value.int IntKind.i64 (f (1 : Nat)),
                Value.int IntKind.i64 (f (2 : Nat)), Value.int IntKind.i64 (ow (f (0 : Nat)) (3 : Nat) (f (3 : Nat))),
                Value.int IntKind.i64 (ow (f (0 : Nat)) (4 : Nat) (f (4 : Nat))),
                Value.int IntKind.i64 (ow (f (0 : Nat)) (5 : Nat) (f (5 : Nat))),
                Value.int IntKind.i64 (ow (f (0 : Nat)) (6 : Nat) (f (6 : Nat))),
                Value.int IntKind.i64 (ow (f (0 : Nat)) (7 : Nat) (f (7 : Nat))),
                Value.int IntKind.i64 (ow (f (0 : Nat)) (8 : Nat) (f (8 : Nat))),
                Value.int IntKind.u64 (ow (f (0 : Nat)) (9 : Nat) (f (9 : Nat))),
                Value.int IntKind.u64 (ow (f (0 : Nat)) (10 : Nat) (f (10 : Nat))),
                Value.int IntKind.i64 (ow (f (0 : Nat)) (11 : Nat) (f (11 : Nat))),
                Value.int IntKind.i64 (ow (f (0 : Nat)) (12 : Nat) (f (12 : Nat))),
                Value.int IntKind.u64 (ow (f (0 : Nat)) (13 : Nat) (f (13 : Nat))),
                Value.int IntKind.i64 (ow (f (0 : Nat)) (14 : Nat) (f (14 : Nat))),
                Value.int IntKind.i64 (ow (f (0 : Nat)) (15 : Nat) (f (15 : Nat)))]),
          ((2 : Nat),
            Rw.mk Kd.shut
              [Value.int IntKind.i64 (f (0 : Nat)), Value.int IntKind.i64 (f (1 : Nat)),
                Value.int IntKind.i64 (f (2 : Nat)), Value.int IntKind.i64 (f (3 : Nat)),
                Value.int IntKind.i64 (f (4 : Nat)), Value.int IntKind.i64 (f (5 : Nat)),
                Value.int IntKind.i64 (f (6 : Nat)), Value.int IntKind.i64 (f (7 : Nat)),
                Value.int IntKind.i64 (f (8 : Nat)), Value.int IntKind.u64 (f (9 : Nat)),
                Value.int IntKind.u64 (f (10 : Nat)), Value.int IntKind.i64 (f (11 : Nat)),
                Value.int IntKind.i64 (f (12 : Nat)), Value.int IntKind.u64 (f (13 : Nat)),
                Value.int IntKind.i64 (f (14 : Nat)), Value.int IntKind.i64 (f (15 : Nat))]),
          ((1 : Nat),
            Rw.mk Kd.shut
              [Value.int IntKind.i64 (f (0 : Nat)), Value.int IntKind.i64 (f (1 : Nat)),
                Value.int IntKind.i64 (f (2 : Nat)), Value.int IntKind.i64 (f (3 : Nat)),
                Value.int IntKind.i64 (f (4 : Nat)), Value.int IntKind.i64 (f (5 : Nat)),
                Value.int IntKind.i64 (f (6 : Nat)), Value.int IntKind.i64 (f (7 : Nat)),
                Value.int IntKind.i64 (f (8 : Nat)), Value.int IntKind.u64 (f (9 : Nat)),
                Value.int IntKind.u64 (f (10 : Nat)), Value.int IntKind.i64 (f (11 : Nat)),
                Value.int IntKind.i64 (f (12 : Nat)), Value.int IntKind.u64 (f (13 : Nat)),
                Value.int IntKind.i64 (f (14 : Nat)), Value.int IntKind.i64 (f (15 : Nat)),
                Value.slice (some (Addr.mk (0 : Nat) (0 : Nat) none)) n c]),
          ((0 : Nat), Rw.mk Kd.old xs)]]) := by kernel_rfl
theorem ca_n1 (f : Nat → Int) : prjV (runZ (ckV (ck4L Try.prog)) Try.prog 5 18 [.agg ⟨hdF f ++ [.slice none 0 0]⟩] [] 1 [true, false, false, false]) =
Res.ok
  (Value.int IntKind.i64 (2 : Int), [],
    [okC (f (0 : Nat)) = true,
      (bif true then
          f (0 : Nat) == f (0 : Nat) &&
            (f (1 : Nat) == f (1 : Nat) &&
              (f (2 : Nat) == f (2 : Nat) &&
                (ow (f (0 : Nat)) (3 : Nat) (f (3 : Nat)) == f (3 : Nat) &&
                  (ow (f (0 : Nat)) (4 : Nat) (f (4 : Nat)) == f (4 : Nat) &&
                    (ow (f (0 : Nat)) (5 : Nat) (f (5 : Nat)) == f (5 : Nat) &&
                      (ow (f (0 : Nat)) (6 : Nat) (f (6 : Nat)) == f (6 : Nat) &&
                        (ow (f (0 : Nat)) (7 : Nat) (f (7 : Nat)) == f (7 : Nat) &&
                          (ow (f (0 : Nat)) (8 : Nat) (f (8 : Nat)) == f (8 : Nat) &&
                            (ow (f (0 : Nat)) (9 : Nat) (f (9 : Nat)) == f (9 : Nat) &&
                                (ow (f (0 : Nat)) (10 : Nat) (f (10 : Nat)) == f (10 : Nat) && true) &&
                              (ow (f (0 : Nat)) (11 : Nat) (f (11 : Nat)) == f (11 : Nat) &&
                                (ow (f (0 : Nat)) (12 : Nat) (f (12 : Nat)) == f (12 : Nat) &&
                                  (ow (f (0 : Nat)) (13 : Nat) (f (13 : Nat)) == f (13 : Nat) &&
                                    (ow (f (0 : Nat)) (14 : Nat) (f (14 : Nat)) == f (14 : Nat) &&
                                      (ow (f (0 : Nat)) (15 : Nat) (f (15 : Nat)) == f (15 : Nat) && true))))))))))))))
        else false) =
        false,
      false = false, false = false, ckC Try.prog (4 : Nat) = ckC Try.prog (4 : Nat),
      [((1 : Nat), Value.pointer (some (Addr.mk (1 : Nat) (0 : Nat) none))),
          ((3 : Nat), Value.pointer (some (Addr.mk (2 : Nat) (0 : Nat) none))), ((5 : Nat), Value.bool false)] =
        ckS false,
      (3 : Nat) ≤ (4 : Nat) ∧ (4 : Nat) ≤ (10 : Nat),
      CkOk
        (intAt
          [Value.int IntKind.i64 (f (0 : Nat)), Value.int IntKind.i64 (f (1 : Nat)),
            Value.int IntKind.i64 (f (2 : Nat)), Value.int IntKind.i64 (f (3 : Nat)),
            Value.int IntKind.i64 (f (4 : Nat)), Value.int IntKind.i64 (f (5 : Nat)),
            Value.int IntKind.i64 (f (6 : Nat)), Value.int IntKind.i64 (f (7 : Nat)),
            Value.int IntKind.i64 (f (8 : Nat)), Value.int IntKind.u64 (f (9 : Nat)),
            Value.int IntKind.u64 (f (10 : Nat)), Value.int IntKind.i64 (f (11 : Nat)),
            Value.int IntKind.i64 (f (12 : Nat)), Value.int IntKind.u64 (f (13 : Nat)),
            Value.int IntKind.i64 (f (14 : Nat)), Value.int IntKind.i64 (f (15 : Nat))])
        (unSa (Value.slice none (0 : Nat) (0 : Nat))
          [((3 : Nat),
              Rw.mk Kd.shut
                [Value.int IntKind.i64 (f (0 : Nat)), Value.int IntKind.i64 (f (1 : Nat)),
                  Value.int IntKind.i64 (f (2 : Nat)), Value.int IntKind.i64 (ow (f (0 : Nat)) (3 : Nat) (f (3 : Nat))),
                  Value.int IntKind.i64 (ow (f (0 : Nat)) (4 : Nat) (f (4 : Nat))),
                  Value.int IntKind.i64 (ow (f (0 : Nat)) (5 : Nat) (f (5 : Nat))),
                  Value.int IntKind.i64 (ow (f (0 : Nat)) (6 : Nat) (f (6 : Nat))),
                  Value.int IntKind.i64 (ow (f (0 : Nat)) (7 : Nat) (f (7 : Nat))),
                  Value.int IntKind.i64 (ow (f (0 : Nat)) (8 : Nat) (f (8 : Nat))),
                  Value.int IntKind.u64 (ow (f (0 : Nat)) (9 : Nat) (f (9 : Nat))),
                  Value.int IntKind.u64 (ow (f (0 : Nat)) (10 : Nat) (f (10 : Nat))),
                  Value.int IntKind.i64 (ow (f (0 : Nat)) (11 : Nat) (f (11 : Nat))),
                  Value.int IntKind.i64 (ow (f (0 : Nat)) (12 : Nat) (f (12 : Nat))),
                  Value.int IntKind.u64 (ow (f (0 : Nat)) (13 : Nat) (f (13 : Nat))),
                  Value.int IntKind.i64 (ow (f (0 : Nat)) (14 : Nat) (f (14 : Nat))),
                  Value.int IntKind.i64 (ow (f (0 : Nat)) (15 : Nat) (f (15 : Nat)))]),
            ((2 : Nat),
              Rw.mk Kd.shut
                [Value.int IntKind.i64 (f (0 : Nat)), Value.int IntKind.i64 (f (1 : Nat)),
                  Value.int IntKind.i64 (f (2 : Nat)), Value.int IntKind.i64 (f (3 : Nat)),
                  Value.int IntKind.i64 (f (4 : Nat)), Value.int IntKind.i64 (f (5 : Nat)),
                  Value.int IntKind.i64 (f (6 : Nat)), Value.int IntKind.i64 (f (7 : Nat)),
                  Value.int IntKind.i64 (f (8 : Nat)), Value.int IntKind.u64 (f (9 : Nat)),
                  Value.int IntKind.u64 (f (10 : Nat)), Value.int IntKind.i64 (f (11 : Nat)),
                  Value.int IntKind.i64 (f (12 : Nat)), Value.int IntKind.u64 (f (13 : Nat)),
                  Value.int IntKind.i64 (f (14 : Nat)), Value.int IntKind.i64 (f (15 : Nat))]),
            ((1 : Nat),
              Rw.mk Kd.shut
                [Value.int IntKind.i64 (f (0 : Nat)), Value.int IntKind.i64 (f (1 : Nat)),
                  Value.int IntKind.i64 (f (2 : Nat)), Value.int IntKind.i64 (f (3 : Nat)),
                  Value.int IntKind.i64 (f (4 : Nat)), Value.int IntKind.i64 (f (5 : Nat)),
                  Value.int IntKind.i64 (f (6 : Nat)), Value.int IntKind.i64 (f (7 : Nat)),
                  Value.int IntKind.i64 (f (8 : Nat)), Value.int IntKind.u64 (f (9 : Nat)),
                  Value.int IntKind.u64 (f (10 : Nat)), Value.int IntKind.i64 (f (11 : Nat)),
                  Value.int IntKind.i64 (f (12 : Nat)), Value.int IntKind.u64 (f (13 : Nat)),
                  Value.int IntKind.i64 (f (14 : Nat)), Value.int IntKind.i64 (f (15 : Nat)),
                  Value.slice none (0 : Nat) (0 : Nat)])])
        [((3 : Nat),
            Rw.mk Kd.shut
              [Value.int IntKind.i64 (f (0 : Nat)), Value.int IntKind.i64 (f (1 : Nat)),
                Value.int IntKind.i64 (f (2 : Nat)), Value.int IntKind.i64 (ow (f (0 : Nat)) (3 : Nat) (f (3 : Nat))),
                Value.int IntKind.i64 (ow (f (0 : Nat)) (4 : Nat) (f (4 : Nat))),
                Value.int IntKind.i64 (ow (f (0 : Nat)) (5 : Nat) (f (5 : Nat))),
                Value.int IntKind.i64 (ow (f (0 : Nat)) (6 : Nat) (f (6 : Nat))),
                Value.int IntKind.i64 (ow (f (0 : Nat)) (7 : Nat) (f (7 : Nat))),
                Value.int IntKind.i64 (ow (f (0 : Nat)) (8 : Nat) (f (8 : Nat))),
                Value.int IntKind.u64 (ow (f (0 : Nat)) (9 : Nat) (f (9 : Nat))),
                Value.int IntKind.u64 (ow (f (0 : Nat)) (10 : Nat) (f (10 : Nat))),
                Value.int IntKind.i64 (ow (f (0 : Nat)) (11 : Nat) (f (11 : Nat))),
                Value.int IntKind.i64 (ow (f (0 : Nat)) (12 : Nat) (f (12 : Nat))),
                Value.int IntKind.u64 (ow (f (0 : Nat)) (13 : Nat) (f (13 : Nat))),
                Value.int IntKind.i64 (ow (f (0 : Nat)) (14 : Nat) (f (14 : Nat))),
                Value.int IntKind.i64 (ow (f (0 : Nat)) (15 : Nat) (f (15 : Nat)))]),
          ((2 : Nat),
            Rw.mk Kd.shut
              [Value.int IntKind.i64 (f (0 : Nat)), Value.int IntKind.i64 (f (1 : Nat)),
                Value.int IntKind.i64 (f (2 : Nat)), Value.int IntKind.i64 (f (3 : Nat)),
                Value.int IntKind.i64 (f (4 : Nat)), Value.int IntKind.i64 (f (5 : Nat)),
                Value.int IntKind.i64 (f (6 : Nat)), Value.int IntKind.i64 (f (7 : Nat)),
                Value.int IntKind.i64 (f (8 : Nat)), Value.int IntKind.u64 (f (9 : Nat)),
                Value.int IntKind.u64 (f (10 : Nat)), Value.int IntKind.i64 (f (11 : Nat)),
                Value.int IntKind.i64 (f (12 : Nat)), Value.int IntKind.u64 (f (13 : Nat)),
                Value.int IntKind.i64 (f (14 : Nat)), Value.int IntKind.i64 (f (15 : Nat))]),
          ((1 : Nat),
            Rw.mk Kd.shut
              [Value.int IntKind.i64 (f (0 : Nat)), Value.int IntKind.i64 (f (1 : Nat)),
                Value.int IntKind.i64 (f (2 : Nat)), Value.int IntKind.i64 (f (3 : Nat)),
                Value.int IntKind.i64 (f (4 : Nat)), Value.int IntKind.i64 (f (5 : Nat)),
                Value.int IntKind.i64 (f (6 : Nat)), Value.int IntKind.i64 (f (7 : Nat)),
                Value.int IntKind.i64 (f (8 : Nat)), Value.int IntKind.u64 (f (9 : Nat)),
                Value.int IntKind.u64 (f (10 : Nat)), Value.int IntKind.i64 (f (11 : Nat)),
                Value.int IntKind.i64 (f (12 : Nat)), Value.int IntKind.u64 (f (13 : Nat)),
                Value.int IntKind.i64 (f (14 : Nat)), Value.int IntKind.i64 (f (15 : Nat)),
                Value.slice none (0 : Nat) (0 : Nat)])]]) := by kernel_rfl
theorem ca_b2 (f : Nat → Int) (n c : Nat) (xs : List Value) : prjV (runZ (ckV (ck4L Try.prog)) Try.prog 5 18 [.agg ⟨hdF f ++ [.slice (some ⟨0, 0, none⟩) n c]⟩] [(0, ⟨.old, xs⟩)] 1 [true, true, false, false]) =
Res.ok
  (Value.int IntKind.i64 (2 : Int), [],
    [okC (f (0 : Nat)) = true,
      (bif true then
          f (0 : Nat) == f (0 : Nat) &&
            (f (1 : Nat) == f (1 : Nat) &&
              (f (2 : Nat) == f (2 : Nat) &&
                (ow (f (0 : Nat)) (3 : Nat) (f (3 : Nat)) == f (3 : Nat) &&
                  (ow (f (0 : Nat)) (4 : Nat) (f (4 : Nat)) == f (4 : Nat) &&
                    (ow (f (0 : Nat)) (5 : Nat) (f (5 : Nat)) == f (5 : Nat) &&
                      (ow (f (0 : Nat)) (6 : Nat) (f (6 : Nat)) == f (6 : Nat) &&
                        (ow (f (0 : Nat)) (7 : Nat) (f (7 : Nat)) == f (7 : Nat) &&
                          (ow (f (0 : Nat)) (8 : Nat) (f (8 : Nat)) == f (8 : Nat) &&
                            (ow (f (0 : Nat)) (9 : Nat) (f (9 : Nat)) == f (9 : Nat) &&
                                (ow (f (0 : Nat)) (10 : Nat) (f (10 : Nat)) == f (10 : Nat) && true) &&
                              (ow (f (0 : Nat)) (11 : Nat) (f (11 : Nat)) == f (11 : Nat) &&
                                (ow (f (0 : Nat)) (12 : Nat) (f (12 : Nat)) == f (12 : Nat) &&
                                  (ow (f (0 : Nat)) (13 : Nat) (f (13 : Nat)) == f (13 : Nat) &&
                                    (ow (f (0 : Nat)) (14 : Nat) (f (14 : Nat)) == f (14 : Nat) &&
                                      (ow (f (0 : Nat)) (15 : Nat) (f (15 : Nat)) == f (15 : Nat) && true))))))))))))))
        else false) =
        true,
      (bif true then decide (f (1 : Nat) ≥ (0 : Int)) && decide (f (1 : Nat) ≤ (6 : Int)) else false) = false,
      false = false, ckC Try.prog (4 : Nat) = ckC Try.prog (4 : Nat),
      [((1 : Nat), Value.pointer (some (Addr.mk (1 : Nat) (0 : Nat) none))),
          ((3 : Nat), Value.pointer (some (Addr.mk (2 : Nat) (0 : Nat) none))), ((5 : Nat), Value.bool false)] =
        ckS false,
      (3 : Nat) ≤ (4 : Nat) ∧ (4 : Nat) ≤ (10 : Nat),
      CkOk
        (intAt
          [Value.int IntKind.i64 (f (0 : Nat)), Value.int IntKind.i64 (f (1 : Nat)),
            Value.int IntKind.i64 (f (2 : Nat)), Value.int IntKind.i64 (f (3 : Nat)),
            Value.int IntKind.i64 (f (4 : Nat)), Value.int IntKind.i64 (f (5 : Nat)),
            Value.int IntKind.i64 (f (6 : Nat)), Value.int IntKind.i64 (f (7 : Nat)),
            Value.int IntKind.i64 (f (8 : Nat)), Value.int IntKind.u64 (f (9 : Nat)),
            Value.int IntKind.u64 (f (10 : Nat)), Value.int IntKind.i64 (f (11 : Nat)),
            Value.int IntKind.i64 (f (12 : Nat)), Value.int IntKind.u64 (f (13 : Nat)),
            Value.int IntKind.i64 (f (14 : Nat)), Value.int IntKind.i64 (f (15 : Nat))])
        (unSa (Value.slice (some (Addr.mk (0 : Nat) (0 : Nat) none)) n c)
          (rowsN (4 : Nat) []
            [((3 : Nat),
                Rw.mk Kd.shut
                  [Value.int IntKind.i64 (f (0 : Nat)), Value.int IntKind.i64 (f (1 : Nat)),
                    Value.int IntKind.i64 (f (2 : Nat)),
                    Value.int IntKind.i64 (ow (f (0 : Nat)) (3 : Nat) (f (3 : Nat))),
                    Value.int IntKind.i64 (ow (f (0 : Nat)) (4 : Nat) (f (4 : Nat))),
                    Value.int IntKind.i64 (ow (f (0 : Nat)) (5 : Nat) (f (5 : Nat))),
                    Value.int IntKind.i64 (ow (f (0 : Nat)) (6 : Nat) (f (6 : Nat))),
                    Value.int IntKind.i64 (ow (f (0 : Nat)) (7 : Nat) (f (7 : Nat))),
                    Value.int IntKind.i64 (ow (f (0 : Nat)) (8 : Nat) (f (8 : Nat))),
                    Value.int IntKind.u64 (ow (f (0 : Nat)) (9 : Nat) (f (9 : Nat))),
                    Value.int IntKind.u64 (ow (f (0 : Nat)) (10 : Nat) (f (10 : Nat))),
                    Value.int IntKind.i64 (ow (f (0 : Nat)) (11 : Nat) (f (11 : Nat))),
                    Value.int IntKind.i64 (ow (f (0 : Nat)) (12 : Nat) (f (12 : Nat))),
                    Value.int IntKind.u64 (ow (f (0 : Nat)) (13 : Nat) (f (13 : Nat))),
                    Value.int IntKind.i64 (ow (f (0 : Nat)) (14 : Nat) (f (14 : Nat))),
                    Value.int IntKind.i64 (ow (f (0 : Nat)) (15 : Nat) (f (15 : Nat)))]),
              ((2 : Nat),
                Rw.mk Kd.shut
                  [Value.int IntKind.i64 (f (0 : Nat)), Value.int IntKind.i64 (f (1 : Nat)),
                    Value.int IntKind.i64 (f (2 : Nat)), Value.int IntKind.i64 (f (3 : Nat)),
                    Value.int IntKind.i64 (f (4 : Nat)), Value.int IntKind.i64 (f (5 : Nat)),
                    Value.int IntKind.i64 (f (6 : Nat)), Value.int IntKind.i64 (f (7 : Nat)),
                    Value.int IntKind.i64 (f (8 : Nat)), Value.int IntKind.u64 (f (9 : Nat)),
                    Value.int IntKind.u64 (f (10 : Nat)), Value.int IntKind.i64 (f (11 : Nat)),
                    Value.int IntKind.i64 (f (12 : Nat)), Value.int IntKind.u64 (f (13 : Nat)),
                    Value.int IntKind.i64 (f (14 : Nat)), Value.int IntKind.i64 (f (15 : Nat))]),
              ((1 : Nat),
                Rw.mk Kd.shut
                  [Value.int IntKind.i64 (f (0 : Nat)), Value.int IntKind.i64 (f (1 : Nat)),
                    Value.int IntKind.i64 (f (2 : Nat)), Value.int IntKind.i64 (f (3 : Nat)),
                    Value.int IntKind.i64 (f (4 : Nat)), Value.int IntKind.i64 (f (5 : Nat)),
                    Value.int IntKind.i64 (f (6 : Nat)), Value.int IntKind.i64 (f (7 : Nat)),
                    Value.int IntKind.i64 (f (8 : Nat)), Value.int IntKind.u64 (f (9 : Nat)),
                    Value.int IntKind.u64 (f (10 : Nat)), Value.int IntKind.i64 (f (11 : Nat)),
                    Value.int IntKind.i64 (f (12 : Nat)), Value.int IntKind.u64 (f (13 : Nat)),
                    Value.int IntKind.i64 (f (14 : Nat)), Value.int IntKind.i64 (f (15 : Nat)),
                    Value.slice (some (Addr.mk (0 : Nat) (0 : Nat) none)) n c]),
              ((0 : Nat), Rw.mk Kd.old xs)]))
        (rowsN (4 : Nat) []
          [((3 : Nat),
              Rw.mk Kd.shut
                [Value.int IntKind.i64 (f (0 : Nat)), Value.int IntKind.i64 (f (1 : Nat)),
                  Value.int IntKind.i64 (f (2 : Nat)), Value.int IntKind.i64 (ow (f (0 : Nat)) (3 : Nat) (f (3 : Nat))),
                  Value.int IntKind.i64 (ow (f (0 : Nat)) (4 : Nat) (f (4 : Nat))),
                  Value.int IntKind.i64 (ow (f (0 : Nat)) (5 : Nat) (f (5 : Nat))),
                  Value.int IntKind.i64 (ow (f (0 : Nat)) (6 : Nat) (f (6 : Nat))),
                  Value.int IntKind.i64 (ow (f (0 : Nat)) (7 : Nat) (f (7 : Nat))),
                  Value.int IntKind.i64 (ow (f (0 : Nat)) (8 : Nat) (f (8 : Nat))),
                  Value.int IntKind.u64 (ow (f (0 : Nat)) (9 : Nat) (f (9 : Nat))),
                  Value.int IntKind.u64 (ow (f (0 : Nat)) (10 : Nat) (f (10 : Nat))),
                  Value.int IntKind.i64 (ow (f (0 : Nat)) (11 : Nat) (f (11 : Nat))),
                  Value.int IntKind.i64 (ow (f (0 : Nat)) (12 : Nat) (f (12 : Nat))),
                  Value.int IntKind.u64 (ow (f (0 : Nat)) (13 : Nat) (f (13 : Nat))),
                  Value.int IntKind.i64 (ow (f (0 : Nat)) (14 : Nat) (f (14 : Nat))),
                  Value.int IntKind.i64 (ow (f (0 : Nat)) (15 : Nat) (f (15 : Nat)))]),
            ((2 : Nat),
              Rw.mk Kd.shut
                [Value.int IntKind.i64 (f (0 : Nat)), Value.int IntKind.i64 (f (1 : Nat)),
                  Value.int IntKind.i64 (f (2 : Nat)), Value.int IntKind.i64 (f (3 : Nat)),
                  Value.int IntKind.i64 (f (4 : Nat)), Value.int IntKind.i64 (f (5 : Nat)),
                  Value.int IntKind.i64 (f (6 : Nat)), Value.int IntKind.i64 (f (7 : Nat)),
                  Value.int IntKind.i64 (f (8 : Nat)), Value.int IntKind.u64 (f (9 : Nat)),
                  Value.int IntKind.u64 (f (10 : Nat)), Value.int IntKind.i64 (f (11 : Nat)),
                  Value.int IntKind.i64 (f (12 : Nat)), Value.int IntKind.u64 (f (13 : Nat)),
                  Value.int IntKind.i64 (f (14 : Nat)), Value.int IntKind.i64 (f (15 : Nat))]),
            ((1 : Nat),
              Rw.mk Kd.shut
                [Value.int IntKind.i64 (f (0 : Nat)), Value.int IntKind.i64 (f (1 : Nat)),
                  Value.int IntKind.i64 (f (2 : Nat)), Value.int IntKind.i64 (f (3 : Nat)),
                  Value.int IntKind.i64 (f (4 : Nat)), Value.int IntKind.i64 (f (5 : Nat)),
                  Value.int IntKind.i64 (f (6 : Nat)), Value.int IntKind.i64 (f (7 : Nat)),
                  Value.int IntKind.i64 (f (8 : Nat)), Value.int IntKind.u64 (f (9 : Nat)),
                  Value.int IntKind.u64 (f (10 : Nat)), Value.int IntKind.i64 (f (11 : Nat)),
                  Value.int IntKind.i64 (f (12 : Nat)), Value.int IntKind.u64 (f (13 : Nat)),
                  Value.int IntKind.i64 (f (14 : Nat)), Value.int IntKind.i64 (f (15 : Nat)),
                  Value.slice (some (Addr.mk (0 : Nat) (0 : Nat) none)) n c]),
            ((0 : Nat), Rw.mk Kd.old xs)])]) := by kernel_rfl
theorem ca_n2 (f : Nat → Int) : prjV (runZ (ckV (ck4L Try.prog)) Try.prog 5 18 [.agg ⟨hdF f ++ [.slice none 0 0]⟩] [] 1 [true, true, false, false]) =
Res.ok
  (Value.int IntKind.i64 (2 : Int), [],
    [okC (f (0 : Nat)) = true,
      (bif true then
          f (0 : Nat) == f (0 : Nat) &&
            (f (1 : Nat) == f (1 : Nat) &&
              (f (2 : Nat) == f (2 : Nat) &&
                (ow (f (0 : Nat)) (3 : Nat) (f (3 : Nat)) == f (3 : Nat) &&
                  (ow (f (0 : Nat)) (4 : Nat) (f (4 : Nat)) == f (4 : Nat) &&
                    (ow (f (0 : Nat)) (5 : Nat) (f (5 : Nat)) == f (5 : Nat) &&
                      (ow (f (0 : Nat)) (6 : Nat) (f (6 : Nat)) == f (6 : Nat) &&
                        (ow (f (0 : Nat)) (7 : Nat) (f (7 : Nat)) == f (7 : Nat) &&
                          (ow (f (0 : Nat)) (8 : Nat) (f (8 : Nat)) == f (8 : Nat) &&
                            (ow (f (0 : Nat)) (9 : Nat) (f (9 : Nat)) == f (9 : Nat) &&
                                (ow (f (0 : Nat)) (10 : Nat) (f (10 : Nat)) == f (10 : Nat) && true) &&
                              (ow (f (0 : Nat)) (11 : Nat) (f (11 : Nat)) == f (11 : Nat) &&
                                (ow (f (0 : Nat)) (12 : Nat) (f (12 : Nat)) == f (12 : Nat) &&
                                  (ow (f (0 : Nat)) (13 : Nat) (f (13 : Nat)) == f (13 : Nat) &&
                                    (ow (f (0 : Nat)) (14 : Nat) (f (14 : Nat)) == f (14 : Nat) &&
                                      (ow (f (0 : Nat)) (15 : Nat) (f (15 : Nat)) == f (15 : Nat) && true))))))))))))))
        else false) =
        true,
      (bif true then decide (f (1 : Nat) ≥ (0 : Int)) && decide (f (1 : Nat) ≤ (6 : Int)) else false) = false,
      false = false, ckC Try.prog (4 : Nat) = ckC Try.prog (4 : Nat),
      [((1 : Nat), Value.pointer (some (Addr.mk (1 : Nat) (0 : Nat) none))),
          ((3 : Nat), Value.pointer (some (Addr.mk (2 : Nat) (0 : Nat) none))), ((5 : Nat), Value.bool false)] =
        ckS false,
      (3 : Nat) ≤ (4 : Nat) ∧ (4 : Nat) ≤ (10 : Nat),
      CkOk
        (intAt
          [Value.int IntKind.i64 (f (0 : Nat)), Value.int IntKind.i64 (f (1 : Nat)),
            Value.int IntKind.i64 (f (2 : Nat)), Value.int IntKind.i64 (f (3 : Nat)),
            Value.int IntKind.i64 (f (4 : Nat)), Value.int IntKind.i64 (f (5 : Nat)),
            Value.int IntKind.i64 (f (6 : Nat)), Value.int IntKind.i64 (f (7 : Nat)),
            Value.int IntKind.i64 (f (8 : Nat)), Value.int IntKind.u64 (f (9 : Nat)),
            Value.int IntKind.u64 (f (10 : Nat)), Value.int IntKind.i64 (f (11 : Nat)),
            Value.int IntKind.i64 (f (12 : Nat)), Value.int IntKind.u64 (f (13 : Nat)),
            Value.int IntKind.i64 (f (14 : Nat)), Value.int IntKind.i64 (f (15 : Nat))])
        (unSa (Value.slice none (0 : Nat) (0 : Nat))
          (rowsN (4 : Nat) []
            [((3 : Nat),
                Rw.mk Kd.shut
                  [Value.int IntKind.i64 (f (0 : Nat)), Value.int IntKind.i64 (f (1 : Nat)),
                    Value.int IntKind.i64 (f (2 : Nat)),
                    Value.int IntKind.i64 (ow (f (0 : Nat)) (3 : Nat) (f (3 : Nat))),
                    Value.int IntKind.i64 (ow (f (0 : Nat)) (4 : Nat) (f (4 : Nat))),
                    Value.int IntKind.i64 (ow (f (0 : Nat)) (5 : Nat) (f (5 : Nat))),
                    Value.int IntKind.i64 (ow (f (0 : Nat)) (6 : Nat) (f (6 : Nat))),
                    Value.int IntKind.i64 (ow (f (0 : Nat)) (7 : Nat) (f (7 : Nat))),
                    Value.int IntKind.i64 (ow (f (0 : Nat)) (8 : Nat) (f (8 : Nat))),
                    Value.int IntKind.u64 (ow (f (0 : Nat)) (9 : Nat) (f (9 : Nat))),
                    Value.int IntKind.u64 (ow (f (0 : Nat)) (10 : Nat) (f (10 : Nat))),
                    Value.int IntKind.i64 (ow (f (0 : Nat)) (11 : Nat) (f (11 : Nat))),
                    Value.int IntKind.i64 (ow (f (0 : Nat)) (12 : Nat) (f (12 : Nat))),
                    Value.int IntKind.u64 (ow (f (0 : Nat)) (13 : Nat) (f (13 : Nat))),
                    Value.int IntKind.i64 (ow (f (0 : Nat)) (14 : Nat) (f (14 : Nat))),
                    Value.int IntKind.i64 (ow (f (0 : Nat)) (15 : Nat) (f (15 : Nat)))]),
              ((2 : Nat),
                Rw.mk Kd.shut
                  [Value.int IntKind.i64 (f (0 : Nat)), Value.int IntKind.i64 (f (1 : Nat)),
                    Value.int IntKind.i64 (f (2 : Nat)), Value.int IntKind.i64 (f (3 : Nat)),
                    Value.int IntKind.i64 (f (4 : Nat)), Value.int IntKind.i64 (f (5 : Nat)),
                    Value.int IntKind.i64 (f (6 : Nat)), Value.int IntKind.i64 (f (7 : Nat)),
                    Value.int IntKind.i64 (f (8 : Nat)), Value.int IntKind.u64 (f (9 : Nat)),
                    Value.int IntKind.u64 (f (10 : Nat)), Value.int IntKind.i64 (f (11 : Nat)),
                    Value.int IntKind.i64 (f (12 : Nat)), Value.int IntKind.u64 (f (13 : Nat)),
                    Value.int IntKind.i64 (f (14 : Nat)), Value.int IntKind.i64 (f (15 : Nat))]),
              ((1 : Nat),
                Rw.mk Kd.shut
                  [Value.int IntKind.i64 (f (0 : Nat)), Value.int IntKind.i64 (f (1 : Nat)),
                    Value.int IntKind.i64 (f (2 : Nat)), Value.int IntKind.i64 (f (3 : Nat)),
                    Value.int IntKind.i64 (f (4 : Nat)), Value.int IntKind.i64 (f (5 : Nat)),
                    Value.int IntKind.i64 (f (6 : Nat)), Value.int IntKind.i64 (f (7 : Nat)),
                    Value.int IntKind.i64 (f (8 : Nat)), Value.int IntKind.u64 (f (9 : Nat)),
                    Value.int IntKind.u64 (f (10 : Nat)), Value.int IntKind.i64 (f (11 : Nat)),
                    Value.int IntKind.i64 (f (12 : Nat)), Value.int IntKind.u64 (f (13 : Nat)),
                    Value.int IntKind.i64 (f (14 : Nat)), Value.int IntKind.i64 (f (15 : Nat)),
                    Value.slice none (0 : Nat) (0 : Nat)])]))
        (rowsN (4 : Nat) []
          [((3 : Nat),
              Rw.mk Kd.shut
                [Value.int IntKind.i64 (f (0 : Nat)), Value.int IntKind.i64 (f (1 : Nat)),
                  Value.int IntKind.i64 (f (2 : Nat)), Value.int IntKind.i64 (ow (f (0 : Nat)) (3 : Nat) (f (3 : Nat))),
                  Value.int IntKind.i64 (ow (f (0 : Nat)) (4 : Nat) (f (4 : Nat))),
                  Value.int IntKind.i64 (ow (f (0 : Nat)) (5 : Nat) (f (5 : Nat))),
                  Value.int IntKind.i64 (ow (f (0 : Nat)) (6 : Nat) (f (6 : Nat))),
                  Value.int IntKind.i64 (ow (f (0 : Nat)) (7 : Nat) (f (7 : Nat))),
                  Value.int IntKind.i64 (ow (f (0 : Nat)) (8 : Nat) (f (8 : Nat))),
                  Value.int IntKind.u64 (ow (f (0 : Nat)) (9 : Nat) (f (9 : Nat))),
                  Value.int IntKind.u64 (ow (f (0 : Nat)) (10 : Nat) (f (10 : Nat))),
                  Value.int IntKind.i64 (ow (f (0 : Nat)) (11 : Nat) (f (11 : Nat))),
                  Value.int IntKind.i64 (ow (f (0 : Nat)) (12 : Nat) (f (12 : Nat))),
                  Value.int IntKind.u64 (ow (f (0 : Nat)) (13 : Nat) (f (13 : Nat))),
                  Value.int IntKind.i64 (ow (f (0 : Nat)) (14 : Nat) (f (14 : Nat))),
                  Value.int IntKind.i64 (ow (f (0 : Nat)) (15 : Nat) (f (15 : Nat)))]),
            ((2 : Nat),
              Rw.mk Kd.shut
                [Value.int IntKind.i64 (f (0 : Nat)), Value.int IntKind.i64 (f (1 : Nat)),
                  Value.int IntKind.i64 (f (2 : Nat)), Value.int IntKind.i64 (f (3 : Nat)),
                  Value.int IntKind.i64 (f (4 : Nat)), Value.int IntKind.i64 (f (5 : Nat)),
                  Value.int IntKind.i64 (f (6 : Nat)), Value.int IntKind.i64 (f (7 : Nat)),
                  Value.int IntKind.i64 (f (8 : Nat)), Value.int IntKind.u64 (f (9 : Nat)),
                  Value.int IntKind.u64 (f (10 : Nat)), Value.int IntKind.i64 (f (11 : Nat)),
                  Value.int IntKind.i64 (f (12 : Nat)), Value.int IntKind.u64 (f (13 : Nat)),
                  Value.int IntKind.i64 (f (14 : Nat)), Value.int IntKind.i64 (f (15 : Nat))]),
            ((1 : Nat),
              Rw.mk Kd.shut
                [Value.int IntKind.i64 (f (0 : Nat)), Value.int IntKind.i64 (f (1 : Nat)),
                  Value.int IntKind.i64 (f (2 : Nat)), Value.int IntKind.i64 (f (3 : Nat)),
                  Value.int IntKind.i64 (f (4 : Nat)), Value.int IntKind.i64 (f (5 : Nat)),
                  Value.int IntKind.i64 (f (6 : Nat)), Value.int IntKind.i64 (f (7 : Nat)),
                  Value.int IntKind.i64 (f (8 : Nat)), Value.int IntKind.u64 (f (9 : Nat)),
                  Value.int IntKind.u64 (f (10 : Nat)), Value.int IntKind.i64 (f (11 : Nat)),
                  Value.int IntKind.i64 (f (12 : Nat)), Value.int IntKind.u64 (f (13 : Nat)),
                  Value.int IntKind.i64 (f (14 : Nat)), Value.int IntKind.i64 (f (15 : Nat)),
                  Value.slice none (0 : Nat) (0 : Nat)])])]) := by kernel_rfl
theorem ca_b3 (f : Nat → Int) (n c : Nat) (xs : List Value) : prjV (runZ (ckV (ck4L Try.prog)) Try.prog 5 18 [.agg ⟨hdF f ++ [.slice (some ⟨0, 0, none⟩) n c]⟩] [(0, ⟨.old, xs⟩)] 1 [true, true, true, false]) =
Res.ok
  (Value.int IntKind.i64 (2 : Int), [],
    [okC (f (0 : Nat)) = true,
      (bif true then
          f (0 : Nat) == f (0 : Nat) &&
            (f (1 : Nat) == f (1 : Nat) &&
              (f (2 : Nat) == f (2 : Nat) &&
                (ow (f (0 : Nat)) (3 : Nat) (f (3 : Nat)) == f (3 : Nat) &&
                  (ow (f (0 : Nat)) (4 : Nat) (f (4 : Nat)) == f (4 : Nat) &&
                    (ow (f (0 : Nat)) (5 : Nat) (f (5 : Nat)) == f (5 : Nat) &&
                      (ow (f (0 : Nat)) (6 : Nat) (f (6 : Nat)) == f (6 : Nat) &&
                        (ow (f (0 : Nat)) (7 : Nat) (f (7 : Nat)) == f (7 : Nat) &&
                          (ow (f (0 : Nat)) (8 : Nat) (f (8 : Nat)) == f (8 : Nat) &&
                            (ow (f (0 : Nat)) (9 : Nat) (f (9 : Nat)) == f (9 : Nat) &&
                                (ow (f (0 : Nat)) (10 : Nat) (f (10 : Nat)) == f (10 : Nat) && true) &&
                              (ow (f (0 : Nat)) (11 : Nat) (f (11 : Nat)) == f (11 : Nat) &&
                                (ow (f (0 : Nat)) (12 : Nat) (f (12 : Nat)) == f (12 : Nat) &&
                                  (ow (f (0 : Nat)) (13 : Nat) (f (13 : Nat)) == f (13 : Nat) &&
                                    (ow (f (0 : Nat)) (14 : Nat) (f (14 : Nat)) == f (14 : Nat) &&
                                      (ow (f (0 : Nat)) (15 : Nat) (f (15 : Nat)) == f (15 : Nat) && true))))))))))))))
        else false) =
        true,
      (bif true then decide (f (1 : Nat) ≥ (0 : Int)) && decide (f (1 : Nat) ≤ (6 : Int)) else false) = true,
      (bif true then f (2 : Nat) == (↑n : Int) else false) = false, ckC Try.prog (4 : Nat) = ckC Try.prog (4 : Nat),
      [((1 : Nat), Value.pointer (some (Addr.mk (1 : Nat) (0 : Nat) none))),
          ((3 : Nat), Value.pointer (some (Addr.mk (2 : Nat) (0 : Nat) none))), ((5 : Nat), Value.bool false)] =
        ckS false,
      (3 : Nat) ≤ (4 : Nat) ∧ (4 : Nat) ≤ (10 : Nat),
      CkOk
        (intAt
          [Value.int IntKind.i64 (f (0 : Nat)), Value.int IntKind.i64 (f (1 : Nat)),
            Value.int IntKind.i64 (f (2 : Nat)), Value.int IntKind.i64 (f (3 : Nat)),
            Value.int IntKind.i64 (f (4 : Nat)), Value.int IntKind.i64 (f (5 : Nat)),
            Value.int IntKind.i64 (f (6 : Nat)), Value.int IntKind.i64 (f (7 : Nat)),
            Value.int IntKind.i64 (f (8 : Nat)), Value.int IntKind.u64 (f (9 : Nat)),
            Value.int IntKind.u64 (f (10 : Nat)), Value.int IntKind.i64 (f (11 : Nat)),
            Value.int IntKind.i64 (f (12 : Nat)), Value.int IntKind.u64 (f (13 : Nat)),
            Value.int IntKind.i64 (f (14 : Nat)), Value.int IntKind.i64 (f (15 : Nat))])
        (unSa (Value.slice (some (Addr.mk (0 : Nat) (0 : Nat) none)) n c)
          (rowsN (4 : Nat) []
            [((3 : Nat),
                Rw.mk Kd.shut
                  [Value.int IntKind.i64 (f (0 : Nat)), Value.int IntKind.i64 (f (1 : Nat)),
                    Value.int IntKind.i64 (f (2 : Nat)),
                    Value.int IntKind.i64 (ow (f (0 : Nat)) (3 : Nat) (f (3 : Nat))),
                    Value.int IntKind.i64 (ow (f (0 : Nat)) (4 : Nat) (f (4 : Nat))),
                    Value.int IntKind.i64 (ow (f (0 : Nat)) (5 : Nat) (f (5 : Nat))),
                    Value.int IntKind.i64 (ow (f (0 : Nat)) (6 : Nat) (f (6 : Nat))),
                    Value.int IntKind.i64 (ow (f (0 : Nat)) (7 : Nat) (f (7 : Nat))),
                    Value.int IntKind.i64 (ow (f (0 : Nat)) (8 : Nat) (f (8 : Nat))),
                    Value.int IntKind.u64 (ow (f (0 : Nat)) (9 : Nat) (f (9 : Nat))),
                    Value.int IntKind.u64 (ow (f (0 : Nat)) (10 : Nat) (f (10 : Nat))),
                    Value.int IntKind.i64 (ow (f (0 : Nat)) (11 : Nat) (f (11 : Nat))),
                    Value.int IntKind.i64 (ow (f (0 : Nat)) (12 : Nat) (f (12 : Nat))),
                    Value.int IntKind.u64 (ow (f (0 : Nat)) (13 : Nat) (f (13 : Nat))),
                    Value.int IntKind.i64 (ow (f (0 : Nat)) (14 : Nat) (f (14 : Nat))),
                    Value.int IntKind.i64 (ow (f (0 : Nat)) (15 : Nat) (f (15 : Nat)))]),
              ((2 : Nat),
                Rw.mk Kd.shut
                  [Value.int IntKind.i64 (f (0 : Nat)), Value.int IntKind.i64 (f (1 : Nat)),
                    Value.int IntKind.i64 (f (2 : Nat)), Value.int IntKind.i64 (f (3 : Nat)),
                    Value.int IntKind.i64 (f (4 : Nat)), Value.int IntKind.i64 (f (5 : Nat)),
                    Value.int IntKind.i64 (f (6 : Nat)), Value.int IntKind.i64 (f (7 : Nat)),
                    Value.int IntKind.i64 (f (8 : Nat)), Value.int IntKind.u64 (f (9 : Nat)),
                    Value.int IntKind.u64 (f (10 : Nat)), Value.int IntKind.i64 (f (11 : Nat)),
                    Value.int IntKind.i64 (f (12 : Nat)), Value.int IntKind.u64 (f (13 : Nat)),
                    Value.int IntKind.i64 (f (14 : Nat)), Value.int IntKind.i64 (f (15 : Nat))]),
              ((1 : Nat),
                Rw.mk Kd.shut
                  [Value.int IntKind.i64 (f (0 : Nat)), Value.int IntKind.i64 (f (1 : Nat)),
                    Value.int IntKind.i64 (f (2 : Nat)), Value.int IntKind.i64 (f (3 : Nat)),
                    Value.int IntKind.i64 (f (4 : Nat)), Value.int IntKind.i64 (f (5 : Nat)),
                    Value.int IntKind.i64 (f (6 : Nat)), Value.int IntKind.i64 (f (7 : Nat)),
                    Value.int IntKind.i64 (f (8 : Nat)), Value.int IntKind.u64 (f (9 : Nat)),
                    Value.int IntKind.u64 (f (10 : Nat)), Value.int IntKind.i64 (f (11 : Nat)),
                    Value.int IntKind.i64 (f (12 : Nat)), Value.int IntKind.u64 (f (13 : Nat)),
                    Value.int IntKind.i64 (f (14 : Nat)), Value.int IntKind.i64 (f (15 : Nat)),
                    Value.slice (some (Addr.mk (0 : Nat) (0 : Nat) none)) n c]),
              ((0 : Nat), Rw.mk Kd.old xs)]))
        (rowsN (4 : Nat) []
          [((3 : Nat),
              Rw.mk Kd.shut
                [Value.int IntKind.i64 (f (0 : Nat)), Value.int IntKind.i64 (f (1 : Nat)),
                  Value.int IntKind.i64 (f (2 : Nat)), Value.int IntKind.i64 (ow (f (0 : Nat)) (3 : Nat) (f (3 : Nat))),
                  Value.int IntKind.i64 (ow (f (0 : Nat)) (4 : Nat) (f (4 : Nat))),
                  Value.int IntKind.i64 (ow (f (0 : Nat)) (5 : Nat) (f (5 : Nat))),
                  Value.int IntKind.i64 (ow (f (0 : Nat)) (6 : Nat) (f (6 : Nat))),
                  Value.int IntKind.i64 (ow (f (0 : Nat)) (7 : Nat) (f (7 : Nat))),
                  Value.int IntKind.i64 (ow (f (0 : Nat)) (8 : Nat) (f (8 : Nat))),
                  Value.int IntKind.u64 (ow (f (0 : Nat)) (9 : Nat) (f (9 : Nat))),
                  Value.int IntKind.u64 (ow (f (0 : Nat)) (10 : Nat) (f (10 : Nat))),
                  Value.int IntKind.i64 (ow (f (0 : Nat)) (11 : Nat) (f (11 : Nat))),
                  Value.int IntKind.i64 (ow (f (0 : Nat)) (12 : Nat) (f (12 : Nat))),
                  Value.int IntKind.u64 (ow (f (0 : Nat)) (13 : Nat) (f (13 : Nat))),
                  Value.int IntKind.i64 (ow (f (0 : Nat)) (14 : Nat) (f (14 : Nat))),
                  Value.int IntKind.i64 (ow (f (0 : Nat)) (15 : Nat) (f (15 : Nat)))]),
            ((2 : Nat),
              Rw.mk Kd.shut
                [Value.int IntKind.i64 (f (0 : Nat)), Value.int IntKind.i64 (f (1 : Nat)),
                  Value.int IntKind.i64 (f (2 : Nat)), Value.int IntKind.i64 (f (3 : Nat)),
                  Value.int IntKind.i64 (f (4 : Nat)), Value.int IntKind.i64 (f (5 : Nat)),
                  Value.int IntKind.i64 (f (6 : Nat)), Value.int IntKind.i64 (f (7 : Nat)),
                  Value.int IntKind.i64 (f (8 : Nat)), Value.int IntKind.u64 (f (9 : Nat)),
                  Value.int IntKind.u64 (f (10 : Nat)), Value.int IntKind.i64 (f (11 : Nat)),
                  Value.int IntKind.i64 (f (12 : Nat)), Value.int IntKind.u64 (f (13 : Nat)),
                  Value.int IntKind.i64 (f (14 : Nat)), Value.int IntKind.i64 (f (15 : Nat))]),
            ((1 : Nat),
              Rw.mk Kd.shut
                [Value.int IntKind.i64 (f (0 : Nat)), Value.int IntKind.i64 (f (1 : Nat)),
                  Value.int IntKind.i64 (f (2 : Nat)), Value.int IntKind.i64 (f (3 : Nat)),
                  Value.int IntKind.i64 (f (4 : Nat)), Value.int IntKind.i64 (f (5 : Nat)),
                  Value.int IntKind.i64 (f (6 : Nat)), Value.int IntKind.i64 (f (7 : Nat)),
                  Value.int IntKind.i64 (f (8 : Nat)), Value.int IntKind.u64 (f (9 : Nat)),
                  Value.int IntKind.u64 (f (10 : Nat)), Value.int IntKind.i64 (f (11 : Nat)),
                  Value.int IntKind.i64 (f (12 : Nat)), Value.int IntKind.u64 (f (13 : Nat)),
                  Value.int IntKind.i64 (f (14 : Nat)), Value.int IntKind.i64 (f (15 : Nat)),
                  Value.slice (some (Addr.mk (0 : Nat) (0 : Nat) none)) n c]),
            ((0 : Nat), Rw.mk Kd.old xs)])]) := by kernel_rfl
theorem ca_n3 (f : Nat → Int) : prjV (runZ (ckV (ck4L Try.prog)) Try.prog 5 18 [.agg ⟨hdF f ++ [.slice none 0 0]⟩] [] 1 [true, true, true, false]) =
Res.ok
  (Value.int IntKind.i64 (2 : Int), [],
    [okC (f (0 : Nat)) = true,
      (bif true then
          f (0 : Nat) == f (0 : Nat) &&
            (f (1 : Nat) == f (1 : Nat) &&
              (f (2 : Nat) == f (2 : Nat) &&
                (ow (f (0 : Nat)) (3 : Nat) (f (3 : Nat)) == f (3 : Nat) &&
                  (ow (f (0 : Nat)) (4 : Nat) (f (4 : Nat)) == f (4 : Nat) &&
                    (ow (f (0 : Nat)) (5 : Nat) (f (5 : Nat)) == f (5 : Nat) &&
                      (ow (f (0 : Nat)) (6 : Nat) (f (6 : Nat)) == f (6 : Nat) &&
                        (ow (f (0 : Nat)) (7 : Nat) (f (7 : Nat)) == f (7 : Nat) &&
                          (ow (f (0 : Nat)) (8 : Nat) (f (8 : Nat)) == f (8 : Nat) &&
                            (ow (f (0 : Nat)) (9 : Nat) (f (9 : Nat)) == f (9 : Nat) &&
                                (ow (f (0 : Nat)) (10 : Nat) (f (10 : Nat)) == f (10 : Nat) && true) &&
                              (ow (f (0 : Nat)) (11 : Nat) (f (11 : Nat)) == f (11 : Nat) &&
                                (ow (f (0 : Nat)) (12 : Nat) (f (12 : Nat)) == f (12 : Nat) &&
                                  (ow (f (0 : Nat)) (13 : Nat) (f (13 : Nat)) == f (13 : Nat) &&
                                    (ow (f (0 : Nat)) (14 : Nat) (f (14 : Nat)) == f (14 : Nat) &&
                                      (ow (f (0 : Nat)) (15 : Nat) (f (15 : Nat)) == f (15 : Nat) && true))))))))))))))
        else false) =
        true,
      (bif true then decide (f (1 : Nat) ≥ (0 : Int)) && decide (f (1 : Nat) ≤ (6 : Int)) else false) = true,
      (bif true then f (2 : Nat) == (0 : Int) else false) = false, ckC Try.prog (4 : Nat) = ckC Try.prog (4 : Nat),
      [((1 : Nat), Value.pointer (some (Addr.mk (1 : Nat) (0 : Nat) none))),
          ((3 : Nat), Value.pointer (some (Addr.mk (2 : Nat) (0 : Nat) none))), ((5 : Nat), Value.bool false)] =
        ckS false,
      (3 : Nat) ≤ (4 : Nat) ∧ (4 : Nat) ≤ (10 : Nat),
      CkOk
        (intAt
          [Value.int IntKind.i64 (f (0 : Nat)), Value.int IntKind.i64 (f (1 : Nat)),
            Value.int IntKind.i64 (f (2 : Nat)), Value.int IntKind.i64 (f (3 : Nat)),
            Value.int IntKind.i64 (f (4 : Nat)), Value.int IntKind.i64 (f (5 : Nat)),
            Value.int IntKind.i64 (f (6 : Nat)), Value.int IntKind.i64 (f (7 : Nat)),
            Value.int IntKind.i64 (f (8 : Nat)), Value.int IntKind.u64 (f (9 : Nat)),
            Value.int IntKind.u64 (f (10 : Nat)), Value.int IntKind.i64 (f (11 : Nat)),
            Value.int IntKind.i64 (f (12 : Nat)), Value.int IntKind.u64 (f (13 : Nat)),
            Value.int IntKind.i64 (f (14 : Nat)), Value.int IntKind.i64 (f (15 : Nat))])
        (unSa (Value.slice none (0 : Nat) (0 : Nat))
          (rowsN (4 : Nat) []
            [((3 : Nat),
                Rw.mk Kd.shut
                  [Value.int IntKind.i64 (f (0 : Nat)), Value.int IntKind.i64 (f (1 : Nat)),
                    Value.int IntKind.i64 (f (2 : Nat)),
                    Value.int IntKind.i64 (ow (f (0 : Nat)) (3 : Nat) (f (3 : Nat))),
                    Value.int IntKind.i64 (ow (f (0 : Nat)) (4 : Nat) (f (4 : Nat))),
                    Value.int IntKind.i64 (ow (f (0 : Nat)) (5 : Nat) (f (5 : Nat))),
                    Value.int IntKind.i64 (ow (f (0 : Nat)) (6 : Nat) (f (6 : Nat))),
                    Value.int IntKind.i64 (ow (f (0 : Nat)) (7 : Nat) (f (7 : Nat))),
                    Value.int IntKind.i64 (ow (f (0 : Nat)) (8 : Nat) (f (8 : Nat))),
                    Value.int IntKind.u64 (ow (f (0 : Nat)) (9 : Nat) (f (9 : Nat))),
                    Value.int IntKind.u64 (ow (f (0 : Nat)) (10 : Nat) (f (10 : Nat))),
                    Value.int IntKind.i64 (ow (f (0 : Nat)) (11 : Nat) (f (11 : Nat))),
                    Value.int IntKind.i64 (ow (f (0 : Nat)) (12 : Nat) (f (12 : Nat))),
                    Value.int IntKind.u64 (ow (f (0 : Nat)) (13 : Nat) (f (13 : Nat))),
                    Value.int IntKind.i64 (ow (f (0 : Nat)) (14 : Nat) (f (14 : Nat))),
                    Value.int IntKind.i64 (ow (f (0 : Nat)) (15 : Nat) (f (15 : Nat)))]),
              ((2 : Nat),
                Rw.mk Kd.shut
                  [Value.int IntKind.i64 (f (0 : Nat)), Value.int IntKind.i64 (f (1 : Nat)),
                    Value.int IntKind.i64 (f (2 : Nat)), Value.int IntKind.i64 (f (3 : Nat)),
                    Value.int IntKind.i64 (f (4 : Nat)), Value.int IntKind.i64 (f (5 : Nat)),
                    Value.int IntKind.i64 (f (6 : Nat)), Value.int IntKind.i64 (f (7 : Nat)),
                    Value.int IntKind.i64 (f (8 : Nat)), Value.int IntKind.u64 (f (9 : Nat)),
                    Value.int IntKind.u64 (f (10 : Nat)), Value.int IntKind.i64 (f (11 : Nat)),
                    Value.int IntKind.i64 (f (12 : Nat)), Value.int IntKind.u64 (f (13 : Nat)),
                    Value.int IntKind.i64 (f (14 : Nat)), Value.int IntKind.i64 (f (15 : Nat))]),
              ((1 : Nat),
                Rw.mk Kd.shut
                  [Value.int IntKind.i64 (f (0 : Nat)), Value.int IntKind.i64 (f (1 : Nat)),
                    Value.int IntKind.i64 (f (2 : Nat)), Value.int IntKind.i64 (f (3 : Nat)),
                    Value.int IntKind.i64 (f (4 : Nat)), Value.int IntKind.i64 (f (5 : Nat)),
                    Value.int IntKind.i64 (f (6 : Nat)), Value.int IntKind.i64 (f (7 : Nat)),
                    Value.int IntKind.i64 (f (8 : Nat)), Value.int IntKind.u64 (f (9 : Nat)),
                    Value.int IntKind.u64 (f (10 : Nat)), Value.int IntKind.i64 (f (11 : Nat)),
                    Value.int IntKind.i64 (f (12 : Nat)), Value.int IntKind.u64 (f (13 : Nat)),
                    Value.int IntKind.i64 (f (14 : Nat)), Value.int IntKind.i64 (f (15 : Nat)),
                    Value.slice none (0 : Nat) (0 : Nat)])]))
        (rowsN (4 : Nat) []
          [((3 : Nat),
              Rw.mk Kd.shut
                [Value.int IntKind.i64 (f (0 : Nat)), Value.int IntKind.i64 (f (1 : Nat)),
                  Value.int IntKind.i64 (f (2 : Nat)), Value.int IntKind.i64 (ow (f (0 : Nat)) (3 : Nat) (f (3 : Nat))),
                  Value.int IntKind.i64 (ow (f (0 : Nat)) (4 : Nat) (f (4 : Nat))),
                  Value.int IntKind.i64 (ow (f (0 : Nat)) (5 : Nat) (f (5 : Nat))),
                  Value.int IntKind.i64 (ow (f (0 : Nat)) (6 : Nat) (f (6 : Nat))),
                  Value.int IntKind.i64 (ow (f (0 : Nat)) (7 : Nat) (f (7 : Nat))),
                  Value.int IntKind.i64 (ow (f (0 : Nat)) (8 : Nat) (f (8 : Nat))),
                  Value.int IntKind.u64 (ow (f (0 : Nat)) (9 : Nat) (f (9 : Nat))),
                  Value.int IntKind.u64 (ow (f (0 : Nat)) (10 : Nat) (f (10 : Nat))),
                  Value.int IntKind.i64 (ow (f (0 : Nat)) (11 : Nat) (f (11 : Nat))),
                  Value.int IntKind.i64 (ow (f (0 : Nat)) (12 : Nat) (f (12 : Nat))),
                  Value.int IntKind.u64 (ow (f (0 : Nat)) (13 : Nat) (f (13 : Nat))),
                  Value.int IntKind.i64 (ow (f (0 : Nat)) (14 : Nat) (f (14 : Nat))),
                  Value.int IntKind.i64 (ow (f (0 : Nat)) (15 : Nat) (f (15 : Nat)))]),
            ((2 : Nat),
              Rw.mk Kd.shut
                [Value.int IntKind.i64 (f (0 : Nat)), Value.int IntKind.i64 (f (1 : Nat)),
                  Value.int IntKind.i64 (f (2 : Nat)), Value.int IntKind.i64 (f (3 : Nat)),
                  Value.int IntKind.i64 (f (4 : Nat)), Value.int IntKind.i64 (f (5 : Nat)),
                  Value.int IntKind.i64 (f (6 : Nat)), Value.int IntKind.i64 (f (7 : Nat)),
                  Value.int IntKind.i64 (f (8 : Nat)), Value.int IntKind.u64 (f (9 : Nat)),
                  Value.int IntKind.u64 (f (10 : Nat)), Value.int IntKind.i64 (f (11 : Nat)),
                  Value.int IntKind.i64 (f (12 : Nat)), Value.int IntKind.u64 (f (13 : Nat)),
                  Value.int IntKind.i64 (f (14 : Nat)), Value.int IntKind.i64 (f (15 : Nat))]),
            ((1 : Nat),
              Rw.mk Kd.shut
                [Value.int IntKind.i64 (f (0 : Nat)), Value.int IntKind.i64 (f (1 : Nat)),
                  Value.int IntKind.i64 (f (2 : Nat)), Value.int IntKind.i64 (f (3 : Nat)),
                  Value.int IntKind.i64 (f (4 : Nat)), Value.int IntKind.i64 (f (5 : Nat)),
                  Value.int IntKind.i64 (f (6 : Nat)), Value.int IntKind.i64 (f (7 : Nat)),
                  Value.int IntKind.i64 (f (8 : Nat)), Value.int IntKind.u64 (f (9 : Nat)),
                  Value.int IntKind.u64 (f (10 : Nat)), Value.int IntKind.i64 (f (11 : Nat)),
                  Value.int IntKind.i64 (f (12 : Nat)), Value.int IntKind.u64 (f (13 : Nat)),
                  Value.int IntKind.i64 (f (14 : Nat)), Value.int IntKind.i64 (f (15 : Nat)),
                  Value.slice none (0 : Nat) (0 : Nat)])])]) := by kernel_rfl
theorem ca_b4 (f : Nat → Int) (n c : Nat) (xs : List Value) : prjV (runZ (ckV (ck4L Try.prog)) Try.prog 5 18 [.agg ⟨hdF f ++ [.slice (some ⟨0, 0, none⟩) n c]⟩] [(0, ⟨.old, xs⟩)] 1 [true, true, true, true]) =
Res.ok
  (Value.int IntKind.i64
      (bif
          k21
            (intAt
              [Value.int IntKind.i64 (f (0 : Nat)), Value.int IntKind.i64 (f (1 : Nat)),
                Value.int IntKind.i64 (f (2 : Nat)), Value.int IntKind.i64 (f (3 : Nat)),
                Value.int IntKind.i64 (f (4 : Nat)), Value.int IntKind.i64 (f (5 : Nat)),
                Value.int IntKind.i64 (f (6 : Nat)), Value.int IntKind.i64 (f (7 : Nat)),
                Value.int IntKind.i64 (f (8 : Nat)), Value.int IntKind.u64 (f (9 : Nat)),
                Value.int IntKind.u64 (f (10 : Nat)), Value.int IntKind.i64 (f (11 : Nat)),
                Value.int IntKind.i64 (f (12 : Nat)), Value.int IntKind.u64 (f (13 : Nat)),
                Value.int IntKind.i64 (f (14 : Nat)), Value.int IntKind.i64 (f (15 : Nat))])
            (unSa (Value.slice (some (Addr.mk (0 : Nat) (0 : Nat) none)) n c)
              (rowsN (4 : Nat) []
                [((3 : Nat),
                    Rw.mk Kd.shut
                      [Value.int IntKind.i64 (f (0 : Nat)), Value.int IntKind.i64 (f (1 : Nat)),
                        Value.int IntKind.i64 (f (2 : Nat)),
                        Value.int IntKind.i64 (ow (f (0 : Nat)) (3 : Nat) (f (3 : Nat))),
                        Value.int IntKind.i64 (ow (f (0 : Nat)) (4 : Nat) (f (4 : Nat))),
                        Value.int IntKind.i64 (ow (f (0 : Nat)) (5 : Nat) (f (5 : Nat))),
                        Value.int IntKind.i64 (ow (f (0 : Nat)) (6 : Nat) (f (6 : Nat))),
                        Value.int IntKind.i64 (ow (f (0 : Nat)) (7 : Nat) (f (7 : Nat))),
                        Value.int IntKind.i64 (ow (f (0 : Nat)) (8 : Nat) (f (8 : Nat))),
                        Value.int IntKind.u64 (ow (f (0 : Nat)) (9 : Nat) (f (9 : Nat))),
                        Value.int IntKind.u64 (ow (f (0 : Nat)) (10 : Nat) (f (10 : Nat))),
                        Value.int IntKind.i64 (ow (f (0 : Nat)) (11 : Nat) (f (11 : Nat))),
                        Value.int IntKind.i64 (ow (f (0 : Nat)) (12 : Nat) (f (12 : Nat))),
                        Value.int IntKind.u64 (ow (f (0 : Nat)) (13 : Nat) (f (13 : Nat))),
                        Value.int IntKind.i64 (ow (f (0 : Nat)) (14 : Nat) (f (14 : Nat))),
                        Value.int IntKind.i64 (ow (f (0 : Nat)) (15 : Nat) (f (15 : Nat)))]),
                  ((2 : Nat),
                    Rw.mk Kd.shut
                      [Value.int IntKind.i64 (f (0 : Nat)), Value.int IntKind.i64 (f (1 : Nat)),
                        Value.int IntKind.i64 (f (2 : Nat)), Value.int IntKind.i64 (f (3 : Nat)),
                        Value.int IntKind.i64 (f (4 : Nat)), Value.int IntKind.i64 (f (5 : Nat)),
                        Value.int IntKind.i64 (f (6 : Nat)), Value.int IntKind.i64 (f (7 : Nat)),
                        Value.int IntKind.i64 (f (8 : Nat)), Value.int IntKind.u64 (f (9 : Nat)),
                        Value.int IntKind.u64 (f (10 : Nat)), Value.int IntKind.i64 (f (11 : Nat)),
                        Value.int IntKind.i64 (f (12 : Nat)), Value.int IntKind.u64 (f (13 : Nat)),
                        Value.int IntKind.i64 (f (14 : Nat)), Value.int IntKind.i64 (f (15 : Nat))]),
                  ((1 : Nat),
                    Rw.mk Kd.shut
                      [Value.int IntKind.i64 (f (0 : Nat)), Value.int IntKind.i64 (f (1 : Nat)),
                        Value.int IntKind.i64 (f (2 : Nat)), Value.int IntKind.i64 (f (3 : Nat)),
                        Value.int IntKind.i64 (f (4 : Nat)), Value.int IntKind.i64 (f (5 : Nat)),
                        Value.int IntKind.i64 (f (6 : Nat)), Value.int IntKind.i64 (f (7 : Nat)),
                        Value.int IntKind.i64 (f (8 : Nat)), Value.int IntKind.u64 (f (9 : Nat)),
                        Value.int IntKind.u64 (f (10 : Nat)), Value.int IntKind.i64 (f (11 : Nat)),
                        Value.int IntKind.i64 (f (12 : Nat)), Value.int IntKind.u64 (f (13 : Nat)),
                        Value.int IntKind.i64 (f (14 : Nat)), Value.int IntKind.i64 (f (15 : Nat)),
                        Value.slice (some (Addr.mk (0 : Nat) (0 : Nat) none)) n c]),
                  ((0 : Nat), Rw.mk Kd.old xs)]))
            ((bif true then decide ((↑n : Int) ≤ (1024 : Int)) else false) &&
                  List.all
                    (bf4
                      (intAt
                        [Value.int IntKind.i64 (f (0 : Nat)), Value.int IntKind.i64 (f (1 : Nat)),
                          Value.int IntKind.i64 (f (2 : Nat)), Value.int IntKind.i64 (f (3 : Nat)),
                          Value.int IntKind.i64 (f (4 : Nat)), Value.int IntKind.i64 (f (5 : Nat)),
                          Value.int IntKind.i64 (f (6 : Nat)), Value.int IntKind.i64 (f (7 : Nat)),
                          Value.int IntKind.i64 (f (8 : Nat)), Value.int IntKind.u64 (f (9 : Nat)),
                          Value.int IntKind.u64 (f (10 : Nat)), Value.int IntKind.i64 (f (11 : Nat)),
                          Value.int IntKind.i64 (f (12 : Nat)), Value.int IntKind.u64 (f (13 : Nat)),
                          Value.int IntKind.i64 (f (14 : Nat)), Value.int IntKind.i64 (f (15 : Nat))]))
                    id &&
                c9
                  (intAt
                    [Value.int IntKind.i64 (f (0 : Nat)), Value.int IntKind.i64 (f (1 : Nat)),
                      Value.int IntKind.i64 (f (2 : Nat)), Value.int IntKind.i64 (f (3 : Nat)),
                      Value.int IntKind.i64 (f (4 : Nat)), Value.int IntKind.i64 (f (5 : Nat)),
                      Value.int IntKind.i64 (f (6 : Nat)), Value.int IntKind.i64 (f (7 : Nat)),
                      Value.int IntKind.i64 (f (8 : Nat)), Value.int IntKind.u64 (f (9 : Nat)),
                      Value.int IntKind.u64 (f (10 : Nat)), Value.int IntKind.i64 (f (11 : Nat)),
                      Value.int IntKind.i64 (f (12 : Nat)), Value.int IntKind.u64 (f (13 : Nat)),
                      Value.int IntKind.i64 (f (14 : Nat)), Value.int IntKind.i64 (f (15 : Nat))]) &&
              c14
                (intAt
                  [Value.int IntKind.i64 (f (0 : Nat)), Value.int IntKind.i64 (f (1 : Nat)),
                    Value.int IntKind.i64 (f (2 : Nat)), Value.int IntKind.i64 (f (3 : Nat)),
                    Value.int IntKind.i64 (f (4 : Nat)), Value.int IntKind.i64 (f (5 : Nat)),
                    Value.int IntKind.i64 (f (6 : Nat)), Value.int IntKind.i64 (f (7 : Nat)),
                    Value.int IntKind.i64 (f (8 : Nat)), Value.int IntKind.u64 (f (9 : Nat)),
                    Value.int IntKind.u64 (f (10 : Nat)), Value.int IntKind.i64 (f (11 : Nat)),
                    Value.int IntKind.i64 (f (12 : Nat)), Value.int IntKind.u64 (f (13 : Nat)),
                    Value.int IntKind.i64 (f (14 : Nat)), Value.int IntKind.i64 (f (15 : Nat))])) then
        (0 : Int)
      else (2 : Int)),
    [],
    [okC (f (0 : Nat)) = true,
      (bif true then
          f (0 : Nat) == f (0 : Nat) &&
            (f (1 : Nat) == f (1 : Nat) &&
              (f (2 : Nat) == f (2 : Nat) &&
                (ow (f (0 : Nat)) (3 : Nat) (f (3 : Nat)) == f (3 : Nat) &&
                  (ow (f (0 : Nat)) (4 : Nat) (f (4 : Nat)) == f (4 : Nat) &&
                    (ow (f (0 : Nat)) (5 : Nat) (f (5 : Nat)) == f (5 : Nat) &&
                      (ow (f (0 : Nat)) (6 : Nat) (f (6 : Nat)) == f (6 : Nat) &&
                        (ow (f (0 : Nat)) (7 : Nat) (f (7 : Nat)) == f (7 : Nat) &&
                          (ow (f (0 : Nat)) (8 : Nat) (f (8 : Nat)) == f (8 : Nat) &&
                            (ow (f (0 : Nat)) (9 : Nat) (f (9 : Nat)) == f (9 : Nat) &&
                                (ow (f (0 : Nat)) (10 : Nat) (f (10 : Nat)) == f (10 : Nat) && true) &&
                              (ow (f (0 : Nat)) (11 : Nat) (f (11 : Nat)) == f (11 : Nat) &&
                                (ow (f (0 : Nat)) (12 : Nat) (f (12 : Nat)) == f (12 : Nat) &&
                                  (ow (f (0 : Nat)) (13 : Nat) (f (13 : Nat)) == f (13 : Nat) &&
                                    (ow (f (0 : Nat)) (14 : Nat) (f (14 : Nat)) == f (14 : Nat) &&
                                      (ow (f (0 : Nat)) (15 : Nat) (f (15 : Nat)) == f (15 : Nat) && true))))))))))))))
        else false) =
        true,
      (bif true then decide (f (1 : Nat) ≥ (0 : Int)) && decide (f (1 : Nat) ≤ (6 : Int)) else false) = true,
      (bif true then f (2 : Nat) == (↑n : Int) else false) = true, ckC Try.prog (4 : Nat) = ckC Try.prog (4 : Nat),
      [((1 : Nat), Value.pointer (some (Addr.mk (1 : Nat) (0 : Nat) none))),
          ((3 : Nat), Value.pointer (some (Addr.mk (2 : Nat) (0 : Nat) none))),
          ((5 : Nat), Value.bool (bif true then decide ((↑n : Int) ≤ (1024 : Int)) else false))] =
        ckS (bif true then decide ((↑n : Int) ≤ (1024 : Int)) else false),
      (3 : Nat) ≤ (4 : Nat) ∧ (4 : Nat) ≤ (10 : Nat),
      CkOk
        (intAt
          [Value.int IntKind.i64 (f (0 : Nat)), Value.int IntKind.i64 (f (1 : Nat)),
            Value.int IntKind.i64 (f (2 : Nat)), Value.int IntKind.i64 (f (3 : Nat)),
            Value.int IntKind.i64 (f (4 : Nat)), Value.int IntKind.i64 (f (5 : Nat)),
            Value.int IntKind.i64 (f (6 : Nat)), Value.int IntKind.i64 (f (7 : Nat)),
            Value.int IntKind.i64 (f (8 : Nat)), Value.int IntKind.u64 (f (9 : Nat)),
            Value.int IntKind.u64 (f (10 : Nat)), Value.int IntKind.i64 (f (11 : Nat)),
            Value.int IntKind.i64 (f (12 : Nat)), Value.int IntKind.u64 (f (13 : Nat)),
            Value.int IntKind.i64 (f (14 : Nat)), Value.int IntKind.i64 (f (15 : Nat))])
        (unSa (Value.slice (some (Addr.mk (0 : Nat) (0 : Nat) none)) n c)
          (rowsN (4 : Nat) []
            [((3 : Nat),
                Rw.mk Kd.shut
                  [Value.int IntKind.i64 (f (0 : Nat)), Value.int IntKind.i64 (f (1 : Nat)),
                    Value.int IntKind.i64 (f (2 : Nat)),
                    Value.int IntKind.i64 (ow (f (0 : Nat)) (3 : Nat) (f (3 : Nat))),
                    Value.int IntKind.i64 (ow (f (0 : Nat)) (4 : Nat) (f (4 : Nat))),
                    Value.int IntKind.i64 (ow (f (0 : Nat)) (5 : Nat) (f (5 : Nat))),
                    Value.int IntKind.i64 (ow (f (0 : Nat)) (6 : Nat) (f (6 : Nat))),
                    Value.int IntKind.i64 (ow (f (0 : Nat)) (7 : Nat) (f (7 : Nat))),
                    Value.int IntKind.i64 (ow (f (0 : Nat)) (8 : Nat) (f (8 : Nat))),
                    Value.int IntKind.u64 (ow (f (0 : Nat)) (9 : Nat) (f (9 : Nat))),
                    Value.int IntKind.u64 (ow (f (0 : Nat)) (10 : Nat) (f (10 : Nat))),
                    Value.int IntKind.i64 (ow (f (0 : Nat)) (11 : Nat) (f (11 : Nat))),
                    Value.int IntKind.i64 (ow (f (0 : Nat)) (12 : Nat) (f (12 : Nat))),
                    Value.int IntKind.u64 (ow (f (0 : Nat)) (13 : Nat) (f (13 : Nat))),
                    Value.int IntKind.i64 (ow (f (0 : Nat)) (14 : Nat) (f (14 : Nat))),
                    Value.int IntKind.i64 (ow (f (0 : Nat)) (15 : Nat) (f (15 : Nat)))]),
              ((2 : Nat),
                Rw.mk Kd.shut
                  [Value.int IntKind.i64 (f (0 : Nat)), Value.int IntKind.i64 (f (1 : Nat)),
                    Value.int IntKind.i64 (f (2 : Nat)), Value.int IntKind.i64 (f (3 : Nat)),
                    Value.int IntKind.i64 (f (4 : Nat)), Value.int IntKind.i64 (f (5 : Nat)),
                    Value.int IntKind.i64 (f (6 : Nat)), Value.int IntKind.i64 (f (7 : Nat)),
                    Value.int IntKind.i64 (f (8 : Nat)), Value.int IntKind.u64 (f (9 : Nat)),
                    Value.int IntKind.u64 (f (10 : Nat)), Value.int IntKind.i64 (f (11 : Nat)),
                    Value.int IntKind.i64 (f (12 : Nat)), Value.int IntKind.u64 (f (13 : Nat)),
                    Value.int IntKind.i64 (f (14 : Nat)), Value.int IntKind.i64 (f (15 : Nat))]),
              ((1 : Nat),
                Rw.mk Kd.shut
                  [Value.int IntKind.i64 (f (0 : Nat)), Value.int IntKind.i64 (f (1 : Nat)),
                    Value.int IntKind.i64 (f (2 : Nat)), Value.int IntKind.i64 (f (3 : Nat)),
                    Value.int IntKind.i64 (f (4 : Nat)), Value.int IntKind.i64 (f (5 : Nat)),
                    Value.int IntKind.i64 (f (6 : Nat)), Value.int IntKind.i64 (f (7 : Nat)),
                    Value.int IntKind.i64 (f (8 : Nat)), Value.int IntKind.u64 (f (9 : Nat)),
                    Value.int IntKind.u64 (f (10 : Nat)), Value.int IntKind.i64 (f (11 : Nat)),
                    Value.int IntKind.i64 (f (12 : Nat)), Value.int IntKind.u64 (f (13 : Nat)),
                    Value.int IntKind.i64 (f (14 : Nat)), Value.int IntKind.i64 (f (15 : Nat)),
                    Value.slice (some (Addr.mk (0 : Nat) (0 : Nat) none)) n c]),
              ((0 : Nat), Rw.mk Kd.old xs)]))
        (rowsN (4 : Nat) []
          [((3 : Nat),
              Rw.mk Kd.shut
                [Value.int IntKind.i64 (f (0 : Nat)), Value.int IntKind.i64 (f (1 : Nat)),
                  Value.int IntKind.i64 (f (2 : Nat)), Value.int IntKind.i64 (ow (f (0 : Nat)) (3 : Nat) (f (3 : Nat))),
                  Value.int IntKind.i64 (ow (f (0 : Nat)) (4 : Nat) (f (4 : Nat))),
                  Value.int IntKind.i64 (ow (f (0 : Nat)) (5 : Nat) (f (5 : Nat))),
                  Value.int IntKind.i64 (ow (f (0 : Nat)) (6 : Nat) (f (6 : Nat))),
                  Value.int IntKind.i64 (ow (f (0 : Nat)) (7 : Nat) (f (7 : Nat))),
                  Value.int IntKind.i64 (ow (f (0 : Nat)) (8 : Nat) (f (8 : Nat))),
                  Value.int IntKind.u64 (ow (f (0 : Nat)) (9 : Nat) (f (9 : Nat))),
                  Value.int IntKind.u64 (ow (f (0 : Nat)) (10 : Nat) (f (10 : Nat))),
                  Value.int IntKind.i64 (ow (f (0 : Nat)) (11 : Nat) (f (11 : Nat))),
                  Value.int IntKind.i64 (ow (f (0 : Nat)) (12 : Nat) (f (12 : Nat))),
                  Value.int IntKind.u64 (ow (f (0 : Nat)) (13 : Nat) (f (13 : Nat))),
                  Value.int IntKind.i64 (ow (f (0 : Nat)) (14 : Nat) (f (14 : Nat))),
                  Value.int IntKind.i64 (ow (f (0 : Nat)) (15 : Nat) (f (15 : Nat)))]),
            ((2 : Nat),
              Rw.mk Kd.shut
                [Value.int IntKind.i64 (f (0 : Nat)), Value.int IntKind.i64 (f (1 : Nat)),
                  Value.int IntKind.i64 (f (2 : Nat)), Value.int IntKind.i64 (f (3 : Nat)),
                  Value.int IntKind.i64 (f (4 : Nat)), Value.int IntKind.i64 (f (5 : Nat)),
                  Value.int IntKind.i64 (f (6 : Nat)), Value.int IntKind.i64 (f (7 : Nat)),
                  Value.int IntKind.i64 (f (8 : Nat)), Value.int IntKind.u64 (f (9 : Nat)),
                  Value.int IntKind.u64 (f (10 : Nat)), Value.int IntKind.i64 (f (11 : Nat)),
                  Value.int IntKind.i64 (f (12 : Nat)), Value.int IntKind.u64 (f (13 : Nat)),
                  Value.int IntKind.i64 (f (14 : Nat)), Value.int IntKind.i64 (f (15 : Nat))]),
            ((1 : Nat),
              Rw.mk Kd.shut
                [Value.int IntKind.i64 (f (0 : Nat)), Value.int IntKind.i64 (f (1 : Nat)),
                  Value.int IntKind.i64 (f (2 : Nat)), Value.int IntKind.i64 (f (3 : Nat)),
                  Value.int IntKind.i64 (f (4 : Nat)), Value.int IntKind.i64 (f (5 : Nat)),
                  Value.int IntKind.i64 (f (6 : Nat)), Value.int IntKind.i64 (f (7 : Nat)),
                  Value.int IntKind.i64 (f (8 : Nat)), Value.int IntKind.u64 (f (9 : Nat)),
                  Value.int IntKind.u64 (f (10 : Nat)), Value.int IntKind.i64 (f (11 : Nat)),
                  Value.int IntKind.i64 (f (12 : Nat)), Value.int IntKind.u64 (f (13 : Nat)),
                  Value.int IntKind.i64 (f (14 : Nat)), Value.int IntKind.i64 (f (15 : Nat)),
                  Value.slice (some (Addr.mk (0 : Nat) (0 : Nat) none)) n c]),
            ((0 : Nat), Rw.mk Kd.old xs)])]) := by kernel_rfl
theorem ca_n4 (f : Nat → Int) : prjV (runZ (ckV (ck4L Try.prog)) Try.prog 5 18 [.agg ⟨hdF f ++ [.slice none 0 0]⟩] [] 1 [true, true, true, true]) =
Res.ok
  (Value.int IntKind.i64
      (bif
          k21
            (intAt
              [Value.int IntKind.i64 (f (0 : Nat)), Value.int IntKind.i64 (f (1 : Nat)),
                Value.int IntKind.i64 (f (2 : Nat)), Value.int IntKind.i64 (f (3 : Nat)),
                Value.int IntKind.i64 (f (4 : Nat)), Value.int IntKind.i64 (f (5 : Nat)),
                Value.int IntKind.i64 (f (6 : Nat)), Value.int IntKind.i64 (f (7 : Nat)),
                Value.int IntKind.i64 (f (8 : Nat)), Value.int IntKind.u64 (f (9 : Nat)),
                Value.int IntKind.u64 (f (10 : Nat)), Value.int IntKind.i64 (f (11 : Nat)),
                Value.int IntKind.i64 (f (12 : Nat)), Value.int IntKind.u64 (f (13 : Nat)),
                Value.int IntKind.i64 (f (14 : Nat)), Value.int IntKind.i64 (f (15 : Nat))])
            (unSa (Value.slice none (0 : Nat) (0 : Nat))
              (rowsN (4 : Nat) []
                [((3 : Nat),
                    Rw.mk Kd.shut
                      [Value.int IntKind.i64 (f (0 : Nat)), Value.int IntKind.i64 (f (1 : Nat)),
                        Value.int IntKind.i64 (f (2 : Nat)),
                        Value.int IntKind.i64 (ow (f (0 : Nat)) (3 : Nat) (f (3 : Nat))),
                        Value.int IntKind.i64 (ow (f (0 : Nat)) (4 : Nat) (f (4 : Nat))),
                        Value.int IntKind.i64 (ow (f (0 : Nat)) (5 : Nat) (f (5 : Nat))),
                        Value.int IntKind.i64 (ow (f (0 : Nat)) (6 : Nat) (f (6 : Nat))),
                        Value.int IntKind.i64 (ow (f (0 : Nat)) (7 : Nat) (f (7 : Nat))),
                        Value.int IntKind.i64 (ow (f (0 : Nat)) (8 : Nat) (f (8 : Nat))),
                        Value.int IntKind.u64 (ow (f (0 : Nat)) (9 : Nat) (f (9 : Nat))),
                        Value.int IntKind.u64 (ow (f (0 : Nat)) (10 : Nat) (f (10 : Nat))),
                        Value.int IntKind.i64 (ow (f (0 : Nat)) (11 : Nat) (f (11 : Nat))),
                        Value.int IntKind.i64 (ow (f (0 : Nat)) (12 : Nat) (f (12 : Nat))),
                        Value.int IntKind.u64 (ow (f (0 : Nat)) (13 : Nat) (f (13 : Nat))),
                        Value.int IntKind.i64 (ow (f (0 : Nat)) (14 : Nat) (f (14 : Nat))),
                        Value.int IntKind.i64 (ow (f (0 : Nat)) (15 : Nat) (f (15 : Nat)))]),
                  ((2 : Nat),
                    Rw.mk Kd.shut
                      [Value.int IntKind.i64 (f (0 : Nat)), Value.int IntKind.i64 (f (1 : Nat)),
                        Value.int IntKind.i64 (f (2 : Nat)), Value.int IntKind.i64 (f (3 : Nat)),
                        Value.int IntKind.i64 (f (4 : Nat)), Value.int IntKind.i64 (f (5 : Nat)),
                        Value.int IntKind.i64 (f (6 : Nat)), Value.int IntKind.i64 (f (7 : Nat)),
                        Value.int IntKind.i64 (f (8 : Nat)), Value.int IntKind.u64 (f (9 : Nat)),
                        Value.int IntKind.u64 (f (10 : Nat)), Value.int IntKind.i64 (f (11 : Nat)),
                        Value.int IntKind.i64 (f (12 : Nat)), Value.int IntKind.u64 (f (13 : Nat)),
                        Value.int IntKind.i64 (f (14 : Nat)), Value.int IntKind.i64 (f (15 : Nat))]),
                  ((1 : Nat),
                    Rw.mk Kd.shut
                      [Value.int IntKind.i64 (f (0 : Nat)), Value.int IntKind.i64 (f (1 : Nat)),
                        Value.int IntKind.i64 (f (2 : Nat)), Value.int IntKind.i64 (f (3 : Nat)),
                        Value.int IntKind.i64 (f (4 : Nat)), Value.int IntKind.i64 (f (5 : Nat)),
                        Value.int IntKind.i64 (f (6 : Nat)), Value.int IntKind.i64 (f (7 : Nat)),
                        Value.int IntKind.i64 (f (8 : Nat)), Value.int IntKind.u64 (f (9 : Nat)),
                        Value.int IntKind.u64 (f (10 : Nat)), Value.int IntKind.i64 (f (11 : Nat)),
                        Value.int IntKind.i64 (f (12 : Nat)), Value.int IntKind.u64 (f (13 : Nat)),
                        Value.int IntKind.i64 (f (14 : Nat)), Value.int IntKind.i64 (f (15 : Nat)),
                        Value.slice none (0 : Nat) (0 : Nat)])]))
            (true &&
                  List.all
                    (bf4
                      (intAt
                        [Value.int IntKind.i64 (f (0 : Nat)), Value.int IntKind.i64 (f (1 : Nat)),
                          Value.int IntKind.i64 (f (2 : Nat)), Value.int IntKind.i64 (f (3 : Nat)),
                          Value.int IntKind.i64 (f (4 : Nat)), Value.int IntKind.i64 (f (5 : Nat)),
                          Value.int IntKind.i64 (f (6 : Nat)), Value.int IntKind.i64 (f (7 : Nat)),
                          Value.int IntKind.i64 (f (8 : Nat)), Value.int IntKind.u64 (f (9 : Nat)),
                          Value.int IntKind.u64 (f (10 : Nat)), Value.int IntKind.i64 (f (11 : Nat)),
                          Value.int IntKind.i64 (f (12 : Nat)), Value.int IntKind.u64 (f (13 : Nat)),
                          Value.int IntKind.i64 (f (14 : Nat)), Value.int IntKind.i64 (f (15 : Nat))]))
                    id &&
                c9
                  (intAt
                    [Value.int IntKind.i64 (f (0 : Nat)), Value.int IntKind.i64 (f (1 : Nat)),
                      Value.int IntKind.i64 (f (2 : Nat)), Value.int IntKind.i64 (f (3 : Nat)),
                      Value.int IntKind.i64 (f (4 : Nat)), Value.int IntKind.i64 (f (5 : Nat)),
                      Value.int IntKind.i64 (f (6 : Nat)), Value.int IntKind.i64 (f (7 : Nat)),
                      Value.int IntKind.i64 (f (8 : Nat)), Value.int IntKind.u64 (f (9 : Nat)),
                      Value.int IntKind.u64 (f (10 : Nat)), Value.int IntKind.i64 (f (11 : Nat)),
                      Value.int IntKind.i64 (f (12 : Nat)), Value.int IntKind.u64 (f (13 : Nat)),
                      Value.int IntKind.i64 (f (14 : Nat)), Value.int IntKind.i64 (f (15 : Nat))]) &&
              c14
                (intAt
                  [Value.int IntKind.i64 (f (0 : Nat)), Value.int IntKind.i64 (f (1 : Nat)),
                    Value.int IntKind.i64 (f (2 : Nat)), Value.int IntKind.i64 (f (3 : Nat)),
                    Value.int IntKind.i64 (f (4 : Nat)), Value.int IntKind.i64 (f (5 : Nat)),
                    Value.int IntKind.i64 (f (6 : Nat)), Value.int IntKind.i64 (f (7 : Nat)),
                    Value.int IntKind.i64 (f (8 : Nat)), Value.int IntKind.u64 (f (9 : Nat)),
                    Value.int IntKind.u64 (f (10 : Nat)), Value.int IntKind.i64 (f (11 : Nat)),
                    Value.int IntKind.i64 (f (12 : Nat)), Value.int IntKind.u64 (f (13 : Nat)),
                    Value.int IntKind.i64 (f (14 : Nat)), Value.int IntKind.i64 (f (15 : Nat))])) then
        (0 : Int)
      else (2 : Int)),
    [],
    [okC (f (0 : Nat)) = true,
      (bif true then
          f (0 : Nat) == f (0 : Nat) &&
            (f (1 : Nat) == f (1 : Nat) &&
              (f (2 : Nat) == f (2 : Nat) &&
                (ow (f (0 : Nat)) (3 : Nat) (f (3 : Nat)) == f (3 : Nat) &&
                  (ow (f (0 : Nat)) (4 : Nat) (f (4 : Nat)) == f (4 : Nat) &&
                    (ow (f (0 : Nat)) (5 : Nat) (f (5 : Nat)) == f (5 : Nat) &&
                      (ow (f (0 : Nat)) (6 : Nat) (f (6 : Nat)) == f (6 : Nat) &&
                        (ow (f (0 : Nat)) (7 : Nat) (f (7 : Nat)) == f (7 : Nat) &&
                          (ow (f (0 : Nat)) (8 : Nat) (f (8 : Nat)) == f (8 : Nat) &&
                            (ow (f (0 : Nat)) (9 : Nat) (f (9 : Nat)) == f (9 : Nat) &&
                                (ow (f (0 : Nat)) (10 : Nat) (f (10 : Nat)) == f (10 : Nat) && true) &&
                              (ow (f (0 : Nat)) (11 : Nat) (f (11 : Nat)) == f (11 : Nat) &&
                                (ow (f (0 : Nat)) (12 : Nat) (f (12 : Nat)) == f (12 : Nat) &&
                                  (ow (f (0 : Nat)) (13 : Nat) (f (13 : Nat)) == f (13 : Nat) &&
                                    (ow (f (0 : Nat)) (14 : Nat) (f (14 : Nat)) == f (14 : Nat) &&
                                      (ow (f (0 : Nat)) (15 : Nat) (f (15 : Nat)) == f (15 : Nat) && true))))))))))))))
        else false) =
        true,
      (bif true then decide (f (1 : Nat) ≥ (0 : Int)) && decide (f (1 : Nat) ≤ (6 : Int)) else false) = true,
      (bif true then f (2 : Nat) == (0 : Int) else false) = true, ckC Try.prog (4 : Nat) = ckC Try.prog (4 : Nat),
      [((1 : Nat), Value.pointer (some (Addr.mk (1 : Nat) (0 : Nat) none))),
          ((3 : Nat), Value.pointer (some (Addr.mk (2 : Nat) (0 : Nat) none))), ((5 : Nat), Value.bool true)] =
        ckS true,
      (3 : Nat) ≤ (4 : Nat) ∧ (4 : Nat) ≤ (10 : Nat),
      CkOk
        (intAt
          [Value.int IntKind.i64 (f (0 : Nat)), Value.int IntKind.i64 (f (1 : Nat)),
            Value.int IntKind.i64 (f (2 : Nat)), Value.int IntKind.i64 (f (3 : Nat)),
            Value.int IntKind.i64 (f (4 : Nat)), Value.int IntKind.i64 (f (5 : Nat)),
            Value.int IntKind.i64 (f (6 : Nat)), Value.int IntKind.i64 (f (7 : Nat)),
            Value.int IntKind.i64 (f (8 : Nat)), Value.int IntKind.u64 (f (9 : Nat)),
            Value.int IntKind.u64 (f (10 : Nat)), Value.int IntKind.i64 (f (11 : Nat)),
            Value.int IntKind.i64 (f (12 : Nat)), Value.int IntKind.u64 (f (13 : Nat)),
            Value.int IntKind.i64 (f (14 : Nat)), Value.int IntKind.i64 (f (15 : Nat))])
        (unSa (Value.slice none (0 : Nat) (0 : Nat))
          (rowsN (4 : Nat) []
            [((3 : Nat),
                Rw.mk Kd.shut
                  [Value.int IntKind.i64 (f (0 : Nat)), Value.int IntKind.i64 (f (1 : Nat)),
                    Value.int IntKind.i64 (f (2 : Nat)),
                    Value.int IntKind.i64 (ow (f (0 : Nat)) (3 : Nat) (f (3 : Nat))),
                    Value.int IntKind.i64 (ow (f (0 : Nat)) (4 : Nat) (f (4 : Nat))),
                    Value.int IntKind.i64 (ow (f (0 : Nat)) (5 : Nat) (f (5 : Nat))),
                    Value.int IntKind.i64 (ow (f (0 : Nat)) (6 : Nat) (f (6 : Nat))),
                    Value.int IntKind.i64 (ow (f (0 : Nat)) (7 : Nat) (f (7 : Nat))),
                    Value.int IntKind.i64 (ow (f (0 : Nat)) (8 : Nat) (f (8 : Nat))),
                    Value.int IntKind.u64 (ow (f (0 : Nat)) (9 : Nat) (f (9 : Nat))),
                    Value.int IntKind.u64 (ow (f (0 : Nat)) (10 : Nat) (f (10 : Nat))),
                    Value.int IntKind.i64 (ow (f (0 : Nat)) (11 : Nat) (f (11 : Nat))),
                    Value.int IntKind.i64 (ow (f (0 : Nat)) (12 : Nat) (f (12 : Nat))),
                    Value.int IntKind.u64 (ow (f (0 : Nat)) (13 : Nat) (f (13 : Nat))),
                    Value.int IntKind.i64 (ow (f (0 : Nat)) (14 : Nat) (f (14 : Nat))),
                    Value.int IntKind.i64 (ow (f (0 : Nat)) (15 : Nat) (f (15 : Nat)))]),
              ((2 : Nat),
                Rw.mk Kd.shut
                  [Value.int IntKind.i64 (f (0 : Nat)), Value.int IntKind.i64 (f (1 : Nat)),
                    Value.int IntKind.i64 (f (2 : Nat)), Value.int IntKind.i64 (f (3 : Nat)),
                    Value.int IntKind.i64 (f (4 : Nat)), Value.int IntKind.i64 (f (5 : Nat)),
                    Value.int IntKind.i64 (f (6 : Nat)), Value.int IntKind.i64 (f (7 : Nat)),
                    Value.int IntKind.i64 (f (8 : Nat)), Value.int IntKind.u64 (f (9 : Nat)),
                    Value.int IntKind.u64 (f (10 : Nat)), Value.int IntKind.i64 (f (11 : Nat)),
                    Value.int IntKind.i64 (f (12 : Nat)), Value.int IntKind.u64 (f (13 : Nat)),
                    Value.int IntKind.i64 (f (14 : Nat)), Value.int IntKind.i64 (f (15 : Nat))]),
              ((1 : Nat),
                Rw.mk Kd.shut
                  [Value.int IntKind.i64 (f (0 : Nat)), Value.int IntKind.i64 (f (1 : Nat)),
                    Value.int IntKind.i64 (f (2 : Nat)), Value.int IntKind.i64 (f (3 : Nat)),
                    Value.int IntKind.i64 (f (4 : Nat)), Value.int IntKind.i64 (f (5 : Nat)),
                    Value.int IntKind.i64 (f (6 : Nat)), Value.int IntKind.i64 (f (7 : Nat)),
                    Value.int IntKind.i64 (f (8 : Nat)), Value.int IntKind.u64 (f (9 : Nat)),
                    Value.int IntKind.u64 (f (10 : Nat)), Value.int IntKind.i64 (f (11 : Nat)),
                    Value.int IntKind.i64 (f (12 : Nat)), Value.int IntKind.u64 (f (13 : Nat)),
                    Value.int IntKind.i64 (f (14 : Nat)), Value.int IntKind.i64 (f (15 : Nat)),
                    Value.slice none (0 : Nat) (0 : Nat)])]))
        (rowsN (4 : Nat) []
          [((3 : Nat),
              Rw.mk Kd.shut
                [Value.int IntKind.i64 (f (0 : Nat)), Value.int IntKind.i64 (f (1 : Nat)),
                  Value.int IntKind.i64 (f (2 : Nat)), Value.int IntKind.i64 (ow (f (0 : Nat)) (3 : Nat) (f (3 : Nat))),
                  Value.int IntKind.i64 (ow (f (0 : Nat)) (4 : Nat) (f (4 : Nat))),
                  Value.int IntKind.i64 (ow (f (0 : Nat)) (5 : Nat) (f (5 : Nat))),
                  Value.int IntKind.i64 (ow (f (0 : Nat)) (6 : Nat) (f (6 : Nat))),
                  Value.int IntKind.i64 (ow (f (0 : Nat)) (7 : Nat) (f (7 : Nat))),
                  Value.int IntKind.i64 (ow (f (0 : Nat)) (8 : Nat) (f (8 : Nat))),
                  Value.int IntKind.u64 (ow (f (0 : Nat)) (9 : Nat) (f (9 : Nat))),
                  Value.int IntKind.u64 (ow (f (0 : Nat)) (10 : Nat) (f (10 : Nat))),
                  Value.int IntKind.i64 (ow (f (0 : Nat)) (11 : Nat) (f (11 : Nat))),
                  Value.int IntKind.i64 (ow (f (0 : Nat)) (12 : Nat) (f (12 : Nat))),
                  Value.int IntKind.u64 (ow (f (0 : Nat)) (13 : Nat) (f (13 : Nat))),
                  Value.int IntKind.i64 (ow (f (0 : Nat)) (14 : Nat) (f (14 : Nat))),
                  Value.int IntKind.i64 (ow (f (0 : Nat)) (15 : Nat) (f (15 : Nat)))]),
            ((2 : Nat),
              Rw.mk Kd.shut
                [Value.int IntKind.i64 (f (0 : Nat)), Value.int IntKind.i64 (f (1 : Nat)),
                  Value.int IntKind.i64 (f (2 : Nat)), Value.int IntKind.i64 (f (3 : Nat)),
                  Value.int IntKind.i64 (f (4 : Nat)), Value.int IntKind.i64 (f (5 : Nat)),
                  Value.int IntKind.i64 (f (6 : Nat)), Value.int IntKind.i64 (f (7 : Nat)),
                  Value.int IntKind.i64 (f (8 : Nat)), Value.int IntKind.u64 (f (9 : Nat)),
                  Value.int IntKind.u64 (f (10 : Nat)), Value.int IntKind.i64 (f (11 : Nat)),
                  Value.int IntKind.i64 (f (12 : Nat)), Value.int IntKind.u64 (f (13 : Nat)),
                  Value.int IntKind.i64 (f (14 : Nat)), Value.int IntKind.i64 (f (15 : Nat))]),
            ((1 : Nat),
              Rw.mk Kd.shut
                [Value.int IntKind.i64 (f (0 : Nat)), Value.int IntKind.i64 (f (1 : Nat)),
                  Value.int IntKind.i64 (f (2 : Nat)), Value.int IntKind.i64 (f (3 : Nat)),
                  Value.int IntKind.i64 (f (4 : Nat)), Value.int IntKind.i64 (f (5 : Nat)),
                  Value.int IntKind.i64 (f (6 : Nat)), Value.int IntKind.i64 (f (7 : Nat)),
                  Value.int IntKind.i64 (f (8 : Nat)), Value.int IntKind.u64 (f (9 : Nat)),
                  Value.int IntKind.u64 (f (10 : Nat)), Value.int IntKind.i64 (f (11 : Nat)),
                  Value.int IntKind.i64 (f (12 : Nat)), Value.int IntKind.u64 (f (13 : Nat)),
                  Value.int IntKind.i64 (f (14 : Nat)), Value.int IntKind.i64 (f (15 : Nat)),
                  Value.slice none (0 : Nat) (0 : Nat)])])]) := by kernel_rfl
/-- The header's fields are just those that its command has. -/
def sameB (f : Nat → Int) : Bool := (f 0 == f 0 && (f 1 == f 1 && (f 2 == f 2 && (ow (f 0) 3 (f 3) == f 3 && (ow (f 0) 4 (f 4) == f 4 && (ow (f 0) 5 (f 5) == f 5 && (ow (f 0) 6 (f 6) == f 6 && (ow (f 0) 7 (f 7) == f 7 && (ow (f 0) 8 (f 8) == f 8 && ((ow (f 0) 9 (f 9) == f 9 && (ow (f 0) 10 (f 10) == f 10 && true)) && (ow (f 0) 11 (f 11) == f 11 && (ow (f 0) 12 (f 12) == f 12 && (ow (f 0) 13 (f 13) == f 13 && (ow (f 0) 14 (f 14) == f 14 && (ow (f 0) 15 (f 15) == f 15 && true)))))))))))))))
def restB (f : Nat → Int) (n : Nat) (xs : List Value) (b : Bool) : Bool := k21 f ⟨true, n, 0, xs⟩ (((b && (bf4 f).all id) && c9 f) && c14 f)
def ckB (f : Nat → Int) (n : Nat) (xs : List Value) : Bool := okC (f 0) && (sameB f && (wB (f 1) 0 6 && ((f 2 == (n : Int)) && restB f n xs (decide ((n : Int) ≤ 1024)))))
def gCk : GSpec := fun av tp => match av with
  | [.ag pre xs n] => some (⟨fun _ => .int .i64 (bif ckB (intAt pre) n xs then 0 else 2), []⟩, tp, [pre = hdF (intAt pre), Byts xs, n ≤ 4096])
  | [.fl (.agg cs)] => some (⟨fun _ => .int .i64 (bif ckB (intAt cs.toList) 0 [] then 0 else 2), []⟩, tp, [cs.toList = hdF (intAt cs.toList) ++ [.slice none 0 0]])
  | _ => none
def szT : TFun := orTz (mkT 18 [.a 1] gCk) entT
def szV : Tv := ⟨szT, noXz, noL, fun f => bif Nat.beq f 4 then [14, 18, 27, 33, 39, 45, 50, 62, 68, 74, 79] else [], lsSy 4 [(13, 0), (17, 0), (26, 0), (31, 0), (37, 0), (43, 0), (49, 0), (67, 0), (71, 0), (77, 0), (82, 0)], fun _ => [], fun _ => 0⟩
theorem sz_bl (f : Nat → Int) (s : Int) (n c : Nat) (xs : List Value) : prjV (runZ szV Try.prog 5 4 [.agg ⟨hdF f ++ [.slice (some ⟨0, 0, none⟩) n c]⟩, .int .i64 s] [(0, ⟨.old, xs⟩)] 2 [true, true]) =
Res.ok (Value.bool true, [], [decide ((↑n : Int) > (1100 : Int)) = true, true = true]) := by kernel_rfl
theorem sz_nl (f : Nat → Int) (s : Int) : prjV (runZ szV Try.prog 5 4 [.agg ⟨hdF f ++ [.slice none 0 0]⟩, .int .i64 s] [] 2 [true, true]) =
Res.ok (Value.bool true, [], [false = true, true = true]) := by kernel_rfl
theorem sz_bx (f : Nat → Int) (s : Int) (n c : Nat) (xs : List Value) : prjV (runZ szV Try.prog 5 4 [.agg ⟨hdF f ++ [.slice (some ⟨0, 0, none⟩) n c]⟩, .int .i64 s] [(0, ⟨.old, xs⟩)] 2 [false, true]) =
Res.ok
  (Value.bool true, [],
    [decide ((↑n : Int) > (1100 : Int)) = false, n ≤ c ∧ c ≤ (9223372036854775807 : Nat), n ≤ List.length xs,
      Fl (List.take n xs),
      [Value.int IntKind.i64 (f (0 : Nat)), Value.int IntKind.i64 (f (1 : Nat)), Value.int IntKind.i64 (f (2 : Nat)),
          Value.int IntKind.i64 (f (3 : Nat)), Value.int IntKind.i64 (f (4 : Nat)), Value.int IntKind.i64 (f (5 : Nat)),
          Value.int IntKind.i64 (f (6 : Nat)), Value.int IntKind.i64 (f (7 : Nat)), Value.int IntKind.i64 (f (8 : Nat)),
          Value.int IntKind.u64 (f (9 : Nat)), Value.int IntKind.u64 (f (10 : Nat)),
          Value.int IntKind.i64 (f (11 : Nat)), Value.int IntKind.i64 (f (12 : Nat)),
          Value.int IntKind.u64 (f (13 : Nat)), Value.int IntKind.i64 (f (14 : Nat)),
          Value.int IntKind.i64 (f (15 : Nat))] =
        [Value.int IntKind.i64 (f (0 : Nat)), Value.int IntKind.i64 (f (1 : Nat)), Value.int IntKind.i64 (f (2 : Nat)),
          Value.int IntKind.i64 (f (3 : Nat)), Value.int IntKind.i64 (f (4 : Nat)), Value.int IntKind.i64 (f (5 : Nat)),
          Value.int IntKind.i64 (f (6 : Nat)), Value.int IntKind.i64 (f (7 : Nat)), Value.int IntKind.i64 (f (8 : Nat)),
          Value.int IntKind.u64 (f (9 : Nat)), Value.int IntKind.u64 (f (10 : Nat)),
          Value.int IntKind.i64 (f (11 : Nat)), Value.int IntKind.i64 (f (12 : Nat)),
          Value.int IntKind.u64 (f (13 : Nat)), Value.int IntKind.i64 (f (14 : Nat)),
          Value.int IntKind.i64 (f (15 : Nat))],
      Byts (List.take n xs), n ≤ (4096 : Nat),
      (bif false then true
        else
          (bif
                ckB
                  (intAt
                    [Value.int IntKind.i64 (f (0 : Nat)), Value.int IntKind.i64 (f (1 : Nat)),
                      Value.int IntKind.i64 (f (2 : Nat)), Value.int IntKind.i64 (f (3 : Nat)),
                      Value.int IntKind.i64 (f (4 : Nat)), Value.int IntKind.i64 (f (5 : Nat)),
                      Value.int IntKind.i64 (f (6 : Nat)), Value.int IntKind.i64 (f (7 : Nat)),
                      Value.int IntKind.i64 (f (8 : Nat)), Value.int IntKind.u64 (f (9 : Nat)),
                      Value.int IntKind.u64 (f (10 : Nat)), Value.int IntKind.i64 (f (11 : Nat)),
                      Value.int IntKind.i64 (f (12 : Nat)), Value.int IntKind.u64 (f (13 : Nat)),
                      Value.int IntKind.i64 (f (14 : Nat)), Value.int IntKind.i64 (f (15 : Nat))])
                  n (List.take n xs) then
              (0 : Int)
            else (2 : Int)) !=
            (0 : Int)) =
        true]) := by kernel_rfl
theorem sz_nx (f : Nat → Int) (s : Int) : prjV (runZ szV Try.prog 5 4 [.agg ⟨hdF f ++ [.slice none 0 0]⟩, .int .i64 s] [] 2 [false, true]) =
Res.ok
  (Value.bool true, [],
    [false = false,
      [Value.int IntKind.i64 (f (0 : Nat)), Value.int IntKind.i64 (f (1 : Nat)), Value.int IntKind.i64 (f (2 : Nat)),
          Value.int IntKind.i64 (f (3 : Nat)), Value.int IntKind.i64 (f (4 : Nat)), Value.int IntKind.i64 (f (5 : Nat)),
          Value.int IntKind.i64 (f (6 : Nat)), Value.int IntKind.i64 (f (7 : Nat)), Value.int IntKind.i64 (f (8 : Nat)),
          Value.int IntKind.u64 (f (9 : Nat)), Value.int IntKind.u64 (f (10 : Nat)),
          Value.int IntKind.i64 (f (11 : Nat)), Value.int IntKind.i64 (f (12 : Nat)),
          Value.int IntKind.u64 (f (13 : Nat)), Value.int IntKind.i64 (f (14 : Nat)),
          Value.int IntKind.i64 (f (15 : Nat)), Value.slice none (0 : Nat) (0 : Nat)] =
        [Value.int IntKind.i64 (f (0 : Nat)), Value.int IntKind.i64 (f (1 : Nat)), Value.int IntKind.i64 (f (2 : Nat)),
          Value.int IntKind.i64 (f (3 : Nat)), Value.int IntKind.i64 (f (4 : Nat)), Value.int IntKind.i64 (f (5 : Nat)),
          Value.int IntKind.i64 (f (6 : Nat)), Value.int IntKind.i64 (f (7 : Nat)), Value.int IntKind.i64 (f (8 : Nat)),
          Value.int IntKind.u64 (f (9 : Nat)), Value.int IntKind.u64 (f (10 : Nat)),
          Value.int IntKind.i64 (f (11 : Nat)), Value.int IntKind.i64 (f (12 : Nat)),
          Value.int IntKind.u64 (f (13 : Nat)), Value.int IntKind.i64 (f (14 : Nat)),
          Value.int IntKind.i64 (f (15 : Nat)), Value.slice none (0 : Nat) (0 : Nat)],
      (bif false then true
        else
          (bif
                ckB
                  (intAt
                    [Value.int IntKind.i64 (f (0 : Nat)), Value.int IntKind.i64 (f (1 : Nat)),
                      Value.int IntKind.i64 (f (2 : Nat)), Value.int IntKind.i64 (f (3 : Nat)),
                      Value.int IntKind.i64 (f (4 : Nat)), Value.int IntKind.i64 (f (5 : Nat)),
                      Value.int IntKind.i64 (f (6 : Nat)), Value.int IntKind.i64 (f (7 : Nat)),
                      Value.int IntKind.i64 (f (8 : Nat)), Value.int IntKind.u64 (f (9 : Nat)),
                      Value.int IntKind.u64 (f (10 : Nat)), Value.int IntKind.i64 (f (11 : Nat)),
                      Value.int IntKind.i64 (f (12 : Nat)), Value.int IntKind.u64 (f (13 : Nat)),
                      Value.int IntKind.i64 (f (14 : Nat)), Value.int IntKind.i64 (f (15 : Nat)),
                      Value.slice none (0 : Nat) (0 : Nat)])
                  (0 : Nat) [] then
              (0 : Int)
            else (2 : Int)) !=
            (0 : Int)) =
        true]) := by kernel_rfl
theorem sz_be (f : Nat → Int) (s : Int) (n c : Nat) (xs : List Value) : prjV (runZ szV Try.prog 5 4 [.agg ⟨hdF f ++ [.slice (some ⟨0, 0, none⟩) n c]⟩, .int .i64 s] [(0, ⟨.old, xs⟩)] 2 [false, false, false, false, false, false, false, true, true, true, true]) =
Res.ok
  (Value.bool
      (bif true then
        (bif
              ckB
                (intAt
                  [Value.int IntKind.i64 (f (0 : Nat)), Value.int IntKind.i64 (f (1 : Nat)),
                    Value.int IntKind.i64 (f (2 : Nat)), Value.int IntKind.i64 (f (3 : Nat)),
                    Value.int IntKind.i64 (f (4 : Nat)), Value.int IntKind.i64 (f (5 : Nat)),
                    Value.int IntKind.i64 (f (6 : Nat)), Value.int IntKind.i64 (1073741825 : Int),
                    Value.int IntKind.i64 (f (8 : Nat)), Value.int IntKind.u64 (f (9 : Nat)),
                    Value.int IntKind.u64 (f (10 : Nat)), Value.int IntKind.i64 (f (11 : Nat)),
                    Value.int IntKind.i64 (f (12 : Nat)), Value.int IntKind.u64 (f (13 : Nat)),
                    Value.int IntKind.i64 (f (14 : Nat)), Value.int IntKind.i64 (f (15 : Nat))])
                n (List.take n xs) then
            (0 : Int)
          else (2 : Int)) ==
          (2 : Int)
      else false),
    [],
    [decide ((↑n : Int) > (1100 : Int)) = false, n ≤ c ∧ c ≤ (9223372036854775807 : Nat), n ≤ List.length xs,
      Fl (List.take n xs),
      [Value.int IntKind.i64 (f (0 : Nat)), Value.int IntKind.i64 (f (1 : Nat)), Value.int IntKind.i64 (f (2 : Nat)),
          Value.int IntKind.i64 (f (3 : Nat)), Value.int IntKind.i64 (f (4 : Nat)), Value.int IntKind.i64 (f (5 : Nat)),
          Value.int IntKind.i64 (f (6 : Nat)), Value.int IntKind.i64 (f (7 : Nat)), Value.int IntKind.i64 (f (8 : Nat)),
          Value.int IntKind.u64 (f (9 : Nat)), Value.int IntKind.u64 (f (10 : Nat)),
          Value.int IntKind.i64 (f (11 : Nat)), Value.int IntKind.i64 (f (12 : Nat)),
          Value.int IntKind.u64 (f (13 : Nat)), Value.int IntKind.i64 (f (14 : Nat)),
          Value.int IntKind.i64 (f (15 : Nat))] =
        [Value.int IntKind.i64 (f (0 : Nat)), Value.int IntKind.i64 (f (1 : Nat)), Value.int IntKind.i64 (f (2 : Nat)),
          Value.int IntKind.i64 (f (3 : Nat)), Value.int IntKind.i64 (f (4 : Nat)), Value.int IntKind.i64 (f (5 : Nat)),
          Value.int IntKind.i64 (f (6 : Nat)), Value.int IntKind.i64 (f (7 : Nat)), Value.int IntKind.i64 (f (8 : Nat)),
          Value.int IntKind.u64 (f (9 : Nat)), Value.int IntKind.u64 (f (10 : Nat)),
          Value.int IntKind.i64 (f (11 : Nat)), Value.int IntKind.i64 (f (12 : Nat)),
          Value.int IntKind.u64 (f (13 : Nat)), Value.int IntKind.i64 (f (14 : Nat)),
          Value.int IntKind.i64 (f (15 : Nat))],
      Byts (List.take n xs), n ≤ (4096 : Nat),
      (bif false then true
        else
          (bif
                ckB
                  (intAt
                    [Value.int IntKind.i64 (f (0 : Nat)), Value.int IntKind.i64 (f (1 : Nat)),
                      Value.int IntKind.i64 (f (2 : Nat)), Value.int IntKind.i64 (f (3 : Nat)),
                      Value.int IntKind.i64 (f (4 : Nat)), Value.int IntKind.i64 (f (5 : Nat)),
                      Value.int IntKind.i64 (f (6 : Nat)), Value.int IntKind.i64 (f (7 : Nat)),
                      Value.int IntKind.i64 (f (8 : Nat)), Value.int IntKind.u64 (f (9 : Nat)),
                      Value.int IntKind.u64 (f (10 : Nat)), Value.int IntKind.i64 (f (11 : Nat)),
                      Value.int IntKind.i64 (f (12 : Nat)), Value.int IntKind.u64 (f (13 : Nat)),
                      Value.int IntKind.i64 (f (14 : Nat)), Value.int IntKind.i64 (f (15 : Nat))])
                  n (List.take n xs) then
              (0 : Int)
            else (2 : Int)) !=
            (0 : Int)) =
        false,
      (f (2 : Nat) != (↑n : Int)) = false, (bif false then true else decide (f (1 : Nat) < (0 : Int))) = false,
      (bif false then true else decide (f (1 : Nat) > (6 : Int))) = false,
      (bif false then true else decide (f (5 : Nat) < (0 : Int))) = false,
      (bif false then true else decide (f (3 : Nat) > (1073741824 : Int))) = false, true = true,
      (s == (↑n : Int)) = true, true = true, n ≤ c ∧ c ≤ (9223372036854775807 : Nat), n ≤ List.length xs,
      Fl (List.take n xs),
      [Value.int IntKind.i64 (f (0 : Nat)), Value.int IntKind.i64 (f (1 : Nat)), Value.int IntKind.i64 (f (2 : Nat)),
          Value.int IntKind.i64 (Int.negSucc (nat_lit 0)), Value.int IntKind.i64 (f (4 : Nat)),
          Value.int IntKind.i64 (f (5 : Nat)), Value.int IntKind.i64 (f (6 : Nat)), Value.int IntKind.i64 (f (7 : Nat)),
          Value.int IntKind.i64 (f (8 : Nat)), Value.int IntKind.u64 (f (9 : Nat)),
          Value.int IntKind.u64 (f (10 : Nat)), Value.int IntKind.i64 (f (11 : Nat)),
          Value.int IntKind.i64 (f (12 : Nat)), Value.int IntKind.u64 (f (13 : Nat)),
          Value.int IntKind.i64 (f (14 : Nat)), Value.int IntKind.i64 (f (15 : Nat))] =
        [Value.int IntKind.i64 (f (0 : Nat)), Value.int IntKind.i64 (f (1 : Nat)), Value.int IntKind.i64 (f (2 : Nat)),
          Value.int IntKind.i64 (Int.negSucc (nat_lit 0)), Value.int IntKind.i64 (f (4 : Nat)),
          Value.int IntKind.i64 (f (5 : Nat)), Value.int IntKind.i64 (f (6 : Nat)), Value.int IntKind.i64 (f (7 : Nat)),
          Value.int IntKind.i64 (f (8 : Nat)), Value.int IntKind.u64 (f (9 : Nat)),
          Value.int IntKind.u64 (f (10 : Nat)), Value.int IntKind.i64 (f (11 : Nat)),
          Value.int IntKind.i64 (f (12 : Nat)), Value.int IntKind.u64 (f (13 : Nat)),
          Value.int IntKind.i64 (f (14 : Nat)), Value.int IntKind.i64 (f (15 : Nat))],
      Byts (List.take n xs), n ≤ (4096 : Nat),
      (bif true then
          (bif
                ckB
                  (intAt
                    [Value.int IntKind.i64 (f (0 : Nat)), Value.int IntKind.i64 (f (1 : Nat)),
                      Value.int IntKind.i64 (f (2 : Nat)), Value.int IntKind.i64 (Int.negSucc (nat_lit 0)),
                      Value.int IntKind.i64 (f (4 : Nat)), Value.int IntKind.i64 (f (5 : Nat)),
                      Value.int IntKind.i64 (f (6 : Nat)), Value.int IntKind.i64 (f (7 : Nat)),
                      Value.int IntKind.i64 (f (8 : Nat)), Value.int IntKind.u64 (f (9 : Nat)),
                      Value.int IntKind.u64 (f (10 : Nat)), Value.int IntKind.i64 (f (11 : Nat)),
                      Value.int IntKind.i64 (f (12 : Nat)), Value.int IntKind.u64 (f (13 : Nat)),
                      Value.int IntKind.i64 (f (14 : Nat)), Value.int IntKind.i64 (f (15 : Nat))])
                  n (List.take n xs) then
              (0 : Int)
            else (2 : Int)) ==
            (2 : Int)
        else false) =
        true,
      n ≤ c ∧ c ≤ (9223372036854775807 : Nat), n ≤ List.length xs, Fl (List.take n xs),
      [Value.int IntKind.i64 (f (0 : Nat)), Value.int IntKind.i64 (f (1 : Nat)), Value.int IntKind.i64 (f (2 : Nat)),
          Value.int IntKind.i64 (f (3 : Nat)), Value.int IntKind.i64 (f (4 : Nat)), Value.int IntKind.i64 (f (5 : Nat)),
          Value.int IntKind.i64 (f (6 : Nat)), Value.int IntKind.i64 (1073741825 : Int),
          Value.int IntKind.i64 (f (8 : Nat)), Value.int IntKind.u64 (f (9 : Nat)),
          Value.int IntKind.u64 (f (10 : Nat)), Value.int IntKind.i64 (f (11 : Nat)),
          Value.int IntKind.i64 (f (12 : Nat)), Value.int IntKind.u64 (f (13 : Nat)),
          Value.int IntKind.i64 (f (14 : Nat)), Value.int IntKind.i64 (f (15 : Nat))] =
        [Value.int IntKind.i64 (f (0 : Nat)), Value.int IntKind.i64 (f (1 : Nat)), Value.int IntKind.i64 (f (2 : Nat)),
          Value.int IntKind.i64 (f (3 : Nat)), Value.int IntKind.i64 (f (4 : Nat)), Value.int IntKind.i64 (f (5 : Nat)),
          Value.int IntKind.i64 (f (6 : Nat)), Value.int IntKind.i64 (1073741825 : Int),
          Value.int IntKind.i64 (f (8 : Nat)), Value.int IntKind.u64 (f (9 : Nat)),
          Value.int IntKind.u64 (f (10 : Nat)), Value.int IntKind.i64 (f (11 : Nat)),
          Value.int IntKind.i64 (f (12 : Nat)), Value.int IntKind.u64 (f (13 : Nat)),
          Value.int IntKind.i64 (f (14 : Nat)), Value.int IntKind.i64 (f (15 : Nat))],
      Byts (List.take n xs), n ≤ (4096 : Nat)]) := by kernel_rfl
theorem sz_ne (f : Nat → Int) (s : Int) : prjV (runZ szV Try.prog 5 4 [.agg ⟨hdF f ++ [.slice none 0 0]⟩, .int .i64 s] [] 2 [false, false, false, false, false, false, false, true, true, true, true]) =
Res.ok
  (Value.bool
      (bif true then
        (bif
              ckB
                (intAt
                  [Value.int IntKind.i64 (f (0 : Nat)), Value.int IntKind.i64 (f (1 : Nat)),
                    Value.int IntKind.i64 (f (2 : Nat)), Value.int IntKind.i64 (f (3 : Nat)),
                    Value.int IntKind.i64 (f (4 : Nat)), Value.int IntKind.i64 (f (5 : Nat)),
                    Value.int IntKind.i64 (f (6 : Nat)), Value.int IntKind.i64 (1073741825 : Int),
                    Value.int IntKind.i64 (f (8 : Nat)), Value.int IntKind.u64 (f (9 : Nat)),
                    Value.int IntKind.u64 (f (10 : Nat)), Value.int IntKind.i64 (f (11 : Nat)),
                    Value.int IntKind.i64 (f (12 : Nat)), Value.int IntKind.u64 (f (13 : Nat)),
                    Value.int IntKind.i64 (f (14 : Nat)), Value.int IntKind.i64 (f (15 : Nat)),
                    Value.slice none (0 : Nat) (0 : Nat)])
                (0 : Nat) [] then
            (0 : Int)
          else (2 : Int)) ==
          (2 : Int)
      else false),
    [],
    [false = false,
      [Value.int IntKind.i64 (f (0 : Nat)), Value.int IntKind.i64 (f (1 : Nat)), Value.int IntKind.i64 (f (2 : Nat)),
          Value.int IntKind.i64 (f (3 : Nat)), Value.int IntKind.i64 (f (4 : Nat)), Value.int IntKind.i64 (f (5 : Nat)),
          Value.int IntKind.i64 (f (6 : Nat)), Value.int IntKind.i64 (f (7 : Nat)), Value.int IntKind.i64 (f (8 : Nat)),
          Value.int IntKind.u64 (f (9 : Nat)), Value.int IntKind.u64 (f (10 : Nat)),
          Value.int IntKind.i64 (f (11 : Nat)), Value.int IntKind.i64 (f (12 : Nat)),
          Value.int IntKind.u64 (f (13 : Nat)), Value.int IntKind.i64 (f (14 : Nat)),
          Value.int IntKind.i64 (f (15 : Nat)), Value.slice none (0 : Nat) (0 : Nat)] =
        [Value.int IntKind.i64 (f (0 : Nat)), Value.int IntKind.i64 (f (1 : Nat)), Value.int IntKind.i64 (f (2 : Nat)),
          Value.int IntKind.i64 (f (3 : Nat)), Value.int IntKind.i64 (f (4 : Nat)), Value.int IntKind.i64 (f (5 : Nat)),
          Value.int IntKind.i64 (f (6 : Nat)), Value.int IntKind.i64 (f (7 : Nat)), Value.int IntKind.i64 (f (8 : Nat)),
          Value.int IntKind.u64 (f (9 : Nat)), Value.int IntKind.u64 (f (10 : Nat)),
          Value.int IntKind.i64 (f (11 : Nat)), Value.int IntKind.i64 (f (12 : Nat)),
          Value.int IntKind.u64 (f (13 : Nat)), Value.int IntKind.i64 (f (14 : Nat)),
          Value.int IntKind.i64 (f (15 : Nat)), Value.slice none (0 : Nat) (0 : Nat)],
      (bif false then true
        else
          (bif
                ckB
                  (intAt
                    [Value.int IntKind.i64 (f (0 : Nat)), Value.int IntKind.i64 (f (1 : Nat)),
                      Value.int IntKind.i64 (f (2 : Nat)), Value.int IntKind.i64 (f (3 : Nat)),
                      Value.int IntKind.i64 (f (4 : Nat)), Value.int IntKind.i64 (f (5 : Nat)),
                      Value.int IntKind.i64 (f (6 : Nat)), Value.int IntKind.i64 (f (7 : Nat)),
                      Value.int IntKind.i64 (f (8 : Nat)), Value.int IntKind.u64 (f (9 : Nat)),
                      Value.int IntKind.u64 (f (10 : Nat)), Value.int IntKind.i64 (f (11 : Nat)),
                      Value.int IntKind.i64 (f (12 : Nat)), Value.int IntKind.u64 (f (13 : Nat)),
                      Value.int IntKind.i64 (f (14 : Nat)), Value.int IntKind.i64 (f (15 : Nat)),
                      Value.slice none (0 : Nat) (0 : Nat)])
                  (0 : Nat) [] then
              (0 : Int)
            else (2 : Int)) !=
            (0 : Int)) =
        false,
      (f (2 : Nat) != (0 : Int)) = false, (bif false then true else decide (f (1 : Nat) < (0 : Int))) = false,
      (bif false then true else decide (f (1 : Nat) > (6 : Int))) = false,
      (bif false then true else decide (f (5 : Nat) < (0 : Int))) = false,
      (bif false then true else decide (f (3 : Nat) > (1073741824 : Int))) = false, true = true,
      (s == (0 : Int)) = true, true = true,
      [Value.int IntKind.i64 (f (0 : Nat)), Value.int IntKind.i64 (f (1 : Nat)), Value.int IntKind.i64 (f (2 : Nat)),
          Value.int IntKind.i64 (Int.negSucc (nat_lit 0)), Value.int IntKind.i64 (f (4 : Nat)),
          Value.int IntKind.i64 (f (5 : Nat)), Value.int IntKind.i64 (f (6 : Nat)), Value.int IntKind.i64 (f (7 : Nat)),
          Value.int IntKind.i64 (f (8 : Nat)), Value.int IntKind.u64 (f (9 : Nat)),
          Value.int IntKind.u64 (f (10 : Nat)), Value.int IntKind.i64 (f (11 : Nat)),
          Value.int IntKind.i64 (f (12 : Nat)), Value.int IntKind.u64 (f (13 : Nat)),
          Value.int IntKind.i64 (f (14 : Nat)), Value.int IntKind.i64 (f (15 : Nat)),
          Value.slice none (0 : Nat) (0 : Nat)] =
        [Value.int IntKind.i64 (f (0 : Nat)), Value.int IntKind.i64 (f (1 : Nat)), Value.int IntKind.i64 (f (2 : Nat)),
          Value.int IntKind.i64 (Int.negSucc (nat_lit 0)), Value.int IntKind.i64 (f (4 : Nat)),
          Value.int IntKind.i64 (f (5 : Nat)), Value.int IntKind.i64 (f (6 : Nat)), Value.int IntKind.i64 (f (7 : Nat)),
          Value.int IntKind.i64 (f (8 : Nat)), Value.int IntKind.u64 (f (9 : Nat)),
          Value.int IntKind.u64 (f (10 : Nat)), Value.int IntKind.i64 (f (11 : Nat)),
          Value.int IntKind.i64 (f (12 : Nat)), Value.int IntKind.u64 (f (13 : Nat)),
          Value.int IntKind.i64 (f (14 : Nat)), Value.int IntKind.i64 (f (15 : Nat)),
          Value.slice none (0 : Nat) (0 : Nat)],
      (bif true then
          (bif
                ckB
                  (intAt
                    [Value.int IntKind.i64 (f (0 : Nat)), Value.int IntKind.i64 (f (1 : Nat)),
                      Value.int IntKind.i64 (f (2 : Nat)), Value.int IntKind.i64 (Int.negSucc (nat_lit 0)),
                      Value.int IntKind.i64 (f (4 : Nat)), Value.int IntKind.i64 (f (5 : Nat)),
                      Value.int IntKind.i64 (f (6 : Nat)), Value.int IntKind.i64 (f (7 : Nat)),
                      Value.int IntKind.i64 (f (8 : Nat)), Value.int IntKind.u64 (f (9 : Nat)),
                      Value.int IntKind.u64 (f (10 : Nat)), Value.int IntKind.i64 (f (11 : Nat)),
                      Value.int IntKind.i64 (f (12 : Nat)), Value.int IntKind.u64 (f (13 : Nat)),
                      Value.int IntKind.i64 (f (14 : Nat)), Value.int IntKind.i64 (f (15 : Nat)),
                      Value.slice none (0 : Nat) (0 : Nat)])
                  (0 : Nat) [] then
              (0 : Int)
            else (2 : Int)) ==
            (2 : Int)
        else false) =
        true,
      [Value.int IntKind.i64 (f (0 : Nat)), Value.int IntKind.i64 (f (1 : Nat)), Value.int IntKind.i64 (f (2 : Nat)),
          Value.int IntKind.i64 (f (3 : Nat)), Value.int IntKind.i64 (f (4 : Nat)), Value.int IntKind.i64 (f (5 : Nat)),
          Value.int IntKind.i64 (f (6 : Nat)), Value.int IntKind.i64 (1073741825 : Int),
          Value.int IntKind.i64 (f (8 : Nat)), Value.int IntKind.u64 (f (9 : Nat)),
          Value.int IntKind.u64 (f (10 : Nat)), Value.int IntKind.i64 (f (11 : Nat)),
          Value.int IntKind.i64 (f (12 : Nat)), Value.int IntKind.u64 (f (13 : Nat)),
          Value.int IntKind.i64 (f (14 : Nat)), Value.int IntKind.i64 (f (15 : Nat)),
          Value.slice none (0 : Nat) (0 : Nat)] =
        [Value.int IntKind.i64 (f (0 : Nat)), Value.int IntKind.i64 (f (1 : Nat)), Value.int IntKind.i64 (f (2 : Nat)),
          Value.int IntKind.i64 (f (3 : Nat)), Value.int IntKind.i64 (f (4 : Nat)), Value.int IntKind.i64 (f (5 : Nat)),
          Value.int IntKind.i64 (f (6 : Nat)), Value.int IntKind.i64 (1073741825 : Int),
          Value.int IntKind.i64 (f (8 : Nat)), Value.int IntKind.u64 (f (9 : Nat)),
          Value.int IntKind.u64 (f (10 : Nat)), Value.int IntKind.i64 (f (11 : Nat)),
          Value.int IntKind.i64 (f (12 : Nat)), Value.int IntKind.u64 (f (13 : Nat)),
          Value.int IntKind.i64 (f (14 : Nat)), Value.int IntKind.i64 (f (15 : Nat)),
          Value.slice none (0 : Nat) (0 : Nat)]]) := by kernel_rfl
theorem sz_bd (f : Nat → Int) (s : Int) (n c : Nat) (xs : List Value) : prjV (runZ szV Try.prog 5 4 [.agg ⟨hdF f ++ [.slice (some ⟨0, 0, none⟩) n c]⟩, .int .i64 s] [(0, ⟨.old, xs⟩)] 2 [false, false, false, false, false, false, false, true, false, true, true]) =
Res.ok
  (Value.bool
      (bif true then
        (bif
              ckB
                (intAt
                  [Value.int IntKind.i64 (f (0 : Nat)), Value.int IntKind.i64 (f (1 : Nat)),
                    Value.int IntKind.i64 (f (2 : Nat)), Value.int IntKind.i64 (f (3 : Nat)),
                    Value.int IntKind.i64 (f (4 : Nat)), Value.int IntKind.i64 (f (5 : Nat)),
                    Value.int IntKind.i64 (f (6 : Nat)), Value.int IntKind.i64 (1073741825 : Int),
                    Value.int IntKind.i64 (f (8 : Nat)), Value.int IntKind.u64 (f (9 : Nat)),
                    Value.int IntKind.u64 (f (10 : Nat)), Value.int IntKind.i64 (f (11 : Nat)),
                    Value.int IntKind.i64 (f (12 : Nat)), Value.int IntKind.u64 (f (13 : Nat)),
                    Value.int IntKind.i64 (f (14 : Nat)), Value.int IntKind.i64 (f (15 : Nat))])
                n (List.take n xs) then
            (0 : Int)
          else (2 : Int)) ==
          (2 : Int)
      else false),
    [],
    [decide ((↑n : Int) > (1100 : Int)) = false, n ≤ c ∧ c ≤ (9223372036854775807 : Nat), n ≤ List.length xs,
      Fl (List.take n xs),
      [Value.int IntKind.i64 (f (0 : Nat)), Value.int IntKind.i64 (f (1 : Nat)), Value.int IntKind.i64 (f (2 : Nat)),
          Value.int IntKind.i64 (f (3 : Nat)), Value.int IntKind.i64 (f (4 : Nat)), Value.int IntKind.i64 (f (5 : Nat)),
          Value.int IntKind.i64 (f (6 : Nat)), Value.int IntKind.i64 (f (7 : Nat)), Value.int IntKind.i64 (f (8 : Nat)),
          Value.int IntKind.u64 (f (9 : Nat)), Value.int IntKind.u64 (f (10 : Nat)),
          Value.int IntKind.i64 (f (11 : Nat)), Value.int IntKind.i64 (f (12 : Nat)),
          Value.int IntKind.u64 (f (13 : Nat)), Value.int IntKind.i64 (f (14 : Nat)),
          Value.int IntKind.i64 (f (15 : Nat))] =
        [Value.int IntKind.i64 (f (0 : Nat)), Value.int IntKind.i64 (f (1 : Nat)), Value.int IntKind.i64 (f (2 : Nat)),
          Value.int IntKind.i64 (f (3 : Nat)), Value.int IntKind.i64 (f (4 : Nat)), Value.int IntKind.i64 (f (5 : Nat)),
          Value.int IntKind.i64 (f (6 : Nat)), Value.int IntKind.i64 (f (7 : Nat)), Value.int IntKind.i64 (f (8 : Nat)),
          Value.int IntKind.u64 (f (9 : Nat)), Value.int IntKind.u64 (f (10 : Nat)),
          Value.int IntKind.i64 (f (11 : Nat)), Value.int IntKind.i64 (f (12 : Nat)),
          Value.int IntKind.u64 (f (13 : Nat)), Value.int IntKind.i64 (f (14 : Nat)),
          Value.int IntKind.i64 (f (15 : Nat))],
      Byts (List.take n xs), n ≤ (4096 : Nat),
      (bif false then true
        else
          (bif
                ckB
                  (intAt
                    [Value.int IntKind.i64 (f (0 : Nat)), Value.int IntKind.i64 (f (1 : Nat)),
                      Value.int IntKind.i64 (f (2 : Nat)), Value.int IntKind.i64 (f (3 : Nat)),
                      Value.int IntKind.i64 (f (4 : Nat)), Value.int IntKind.i64 (f (5 : Nat)),
                      Value.int IntKind.i64 (f (6 : Nat)), Value.int IntKind.i64 (f (7 : Nat)),
                      Value.int IntKind.i64 (f (8 : Nat)), Value.int IntKind.u64 (f (9 : Nat)),
                      Value.int IntKind.u64 (f (10 : Nat)), Value.int IntKind.i64 (f (11 : Nat)),
                      Value.int IntKind.i64 (f (12 : Nat)), Value.int IntKind.u64 (f (13 : Nat)),
                      Value.int IntKind.i64 (f (14 : Nat)), Value.int IntKind.i64 (f (15 : Nat))])
                  n (List.take n xs) then
              (0 : Int)
            else (2 : Int)) !=
            (0 : Int)) =
        false,
      (f (2 : Nat) != (↑n : Int)) = false, (bif false then true else decide (f (1 : Nat) < (0 : Int))) = false,
      (bif false then true else decide (f (1 : Nat) > (6 : Int))) = false,
      (bif false then true else decide (f (5 : Nat) < (0 : Int))) = false,
      (bif false then true else decide (f (3 : Nat) > (1073741824 : Int))) = false, true = true,
      (s == (↑n : Int)) = false, n ≤ c ∧ c ≤ (9223372036854775807 : Nat), n ≤ List.length xs, Fl (List.take n xs),
      [Value.int IntKind.i64 (f (0 : Nat)), Value.int IntKind.i64 (f (1 : Nat)), Value.int IntKind.i64 s,
          Value.int IntKind.i64 (f (3 : Nat)), Value.int IntKind.i64 (f (4 : Nat)), Value.int IntKind.i64 (f (5 : Nat)),
          Value.int IntKind.i64 (f (6 : Nat)), Value.int IntKind.i64 (f (7 : Nat)), Value.int IntKind.i64 (f (8 : Nat)),
          Value.int IntKind.u64 (f (9 : Nat)), Value.int IntKind.u64 (f (10 : Nat)),
          Value.int IntKind.i64 (f (11 : Nat)), Value.int IntKind.i64 (f (12 : Nat)),
          Value.int IntKind.u64 (f (13 : Nat)), Value.int IntKind.i64 (f (14 : Nat)),
          Value.int IntKind.i64 (f (15 : Nat))] =
        [Value.int IntKind.i64 (f (0 : Nat)), Value.int IntKind.i64 (f (1 : Nat)), Value.int IntKind.i64 s,
          Value.int IntKind.i64 (f (3 : Nat)), Value.int IntKind.i64 (f (4 : Nat)), Value.int IntKind.i64 (f (5 : Nat)),
          Value.int IntKind.i64 (f (6 : Nat)), Value.int IntKind.i64 (f (7 : Nat)), Value.int IntKind.i64 (f (8 : Nat)),
          Value.int IntKind.u64 (f (9 : Nat)), Value.int IntKind.u64 (f (10 : Nat)),
          Value.int IntKind.i64 (f (11 : Nat)), Value.int IntKind.i64 (f (12 : Nat)),
          Value.int IntKind.u64 (f (13 : Nat)), Value.int IntKind.i64 (f (14 : Nat)),
          Value.int IntKind.i64 (f (15 : Nat))],
      Byts (List.take n xs), n ≤ (4096 : Nat),
      (bif true then
          bif false then true
          else
            (bif
                  ckB
                    (intAt
                      [Value.int IntKind.i64 (f (0 : Nat)), Value.int IntKind.i64 (f (1 : Nat)),
                        Value.int IntKind.i64 s, Value.int IntKind.i64 (f (3 : Nat)),
                        Value.int IntKind.i64 (f (4 : Nat)), Value.int IntKind.i64 (f (5 : Nat)),
                        Value.int IntKind.i64 (f (6 : Nat)), Value.int IntKind.i64 (f (7 : Nat)),
                        Value.int IntKind.i64 (f (8 : Nat)), Value.int IntKind.u64 (f (9 : Nat)),
                        Value.int IntKind.u64 (f (10 : Nat)), Value.int IntKind.i64 (f (11 : Nat)),
                        Value.int IntKind.i64 (f (12 : Nat)), Value.int IntKind.u64 (f (13 : Nat)),
                        Value.int IntKind.i64 (f (14 : Nat)), Value.int IntKind.i64 (f (15 : Nat))])
                    n (List.take n xs) then
                (0 : Int)
              else (2 : Int)) ==
              (2 : Int)
        else false) =
        true,
      n ≤ c ∧ c ≤ (9223372036854775807 : Nat), n ≤ List.length xs, Fl (List.take n xs),
      [Value.int IntKind.i64 (f (0 : Nat)), Value.int IntKind.i64 (f (1 : Nat)), Value.int IntKind.i64 (f (2 : Nat)),
          Value.int IntKind.i64 (Int.negSucc (nat_lit 0)), Value.int IntKind.i64 (f (4 : Nat)),
          Value.int IntKind.i64 (f (5 : Nat)), Value.int IntKind.i64 (f (6 : Nat)), Value.int IntKind.i64 (f (7 : Nat)),
          Value.int IntKind.i64 (f (8 : Nat)), Value.int IntKind.u64 (f (9 : Nat)),
          Value.int IntKind.u64 (f (10 : Nat)), Value.int IntKind.i64 (f (11 : Nat)),
          Value.int IntKind.i64 (f (12 : Nat)), Value.int IntKind.u64 (f (13 : Nat)),
          Value.int IntKind.i64 (f (14 : Nat)), Value.int IntKind.i64 (f (15 : Nat))] =
        [Value.int IntKind.i64 (f (0 : Nat)), Value.int IntKind.i64 (f (1 : Nat)), Value.int IntKind.i64 (f (2 : Nat)),
          Value.int IntKind.i64 (Int.negSucc (nat_lit 0)), Value.int IntKind.i64 (f (4 : Nat)),
          Value.int IntKind.i64 (f (5 : Nat)), Value.int IntKind.i64 (f (6 : Nat)), Value.int IntKind.i64 (f (7 : Nat)),
          Value.int IntKind.i64 (f (8 : Nat)), Value.int IntKind.u64 (f (9 : Nat)),
          Value.int IntKind.u64 (f (10 : Nat)), Value.int IntKind.i64 (f (11 : Nat)),
          Value.int IntKind.i64 (f (12 : Nat)), Value.int IntKind.u64 (f (13 : Nat)),
          Value.int IntKind.i64 (f (14 : Nat)), Value.int IntKind.i64 (f (15 : Nat))],
      Byts (List.take n xs), n ≤ (4096 : Nat),
      (bif true then
          (bif
                ckB
                  (intAt
                    [Value.int IntKind.i64 (f (0 : Nat)), Value.int IntKind.i64 (f (1 : Nat)),
                      Value.int IntKind.i64 (f (2 : Nat)), Value.int IntKind.i64 (Int.negSucc (nat_lit 0)),
                      Value.int IntKind.i64 (f (4 : Nat)), Value.int IntKind.i64 (f (5 : Nat)),
                      Value.int IntKind.i64 (f (6 : Nat)), Value.int IntKind.i64 (f (7 : Nat)),
                      Value.int IntKind.i64 (f (8 : Nat)), Value.int IntKind.u64 (f (9 : Nat)),
                      Value.int IntKind.u64 (f (10 : Nat)), Value.int IntKind.i64 (f (11 : Nat)),
                      Value.int IntKind.i64 (f (12 : Nat)), Value.int IntKind.u64 (f (13 : Nat)),
                      Value.int IntKind.i64 (f (14 : Nat)), Value.int IntKind.i64 (f (15 : Nat))])
                  n (List.take n xs) then
              (0 : Int)
            else (2 : Int)) ==
            (2 : Int)
        else false) =
        true,
      n ≤ c ∧ c ≤ (9223372036854775807 : Nat), n ≤ List.length xs, Fl (List.take n xs),
      [Value.int IntKind.i64 (f (0 : Nat)), Value.int IntKind.i64 (f (1 : Nat)), Value.int IntKind.i64 (f (2 : Nat)),
          Value.int IntKind.i64 (f (3 : Nat)), Value.int IntKind.i64 (f (4 : Nat)), Value.int IntKind.i64 (f (5 : Nat)),
          Value.int IntKind.i64 (f (6 : Nat)), Value.int IntKind.i64 (1073741825 : Int),
          Value.int IntKind.i64 (f (8 : Nat)), Value.int IntKind.u64 (f (9 : Nat)),
          Value.int IntKind.u64 (f (10 : Nat)), Value.int IntKind.i64 (f (11 : Nat)),
          Value.int IntKind.i64 (f (12 : Nat)), Value.int IntKind.u64 (f (13 : Nat)),
          Value.int IntKind.i64 (f (14 : Nat)), Value.int IntKind.i64 (f (15 : Nat))] =
        [Value.int IntKind.i64 (f (0 : Nat)), Value.int IntKind.i64 (f (1 : Nat)), Value.int IntKind.i64 (f (2 : Nat)),
          Value.int IntKind.i64 (f (3 : Nat)), Value.int IntKind.i64 (f (4 : Nat)), Value.int IntKind.i64 (f (5 : Nat)),
          Value.int IntKind.i64 (f (6 : Nat)), Value.int IntKind.i64 (1073741825 : Int),
          Value.int IntKind.i64 (f (8 : Nat)), Value.int IntKind.u64 (f (9 : Nat)),
          Value.int IntKind.u64 (f (10 : Nat)), Value.int IntKind.i64 (f (11 : Nat)),
          Value.int IntKind.i64 (f (12 : Nat)), Value.int IntKind.u64 (f (13 : Nat)),
          Value.int IntKind.i64 (f (14 : Nat)), Value.int IntKind.i64 (f (15 : Nat))],
      Byts (List.take n xs), n ≤ (4096 : Nat)]) := by kernel_rfl
theorem sz_nd (f : Nat → Int) (s : Int) : prjV (runZ szV Try.prog 5 4 [.agg ⟨hdF f ++ [.slice none 0 0]⟩, .int .i64 s] [] 2 [false, false, false, false, false, false, false, true, false, true, true]) =
Res.ok
  (Value.bool
      (bif true then
        (bif
              ckB
                (intAt
                  [Value.int IntKind.i64 (f (0 : Nat)), Value.int IntKind.i64 (f (1 : Nat)),
                    Value.int IntKind.i64 (f (2 : Nat)), Value.int IntKind.i64 (f (3 : Nat)),
                    Value.int IntKind.i64 (f (4 : Nat)), Value.int IntKind.i64 (f (5 : Nat)),
                    Value.int IntKind.i64 (f (6 : Nat)), Value.int IntKind.i64 (1073741825 : Int),
                    Value.int IntKind.i64 (f (8 : Nat)), Value.int IntKind.u64 (f (9 : Nat)),
                    Value.int IntKind.u64 (f (10 : Nat)), Value.int IntKind.i64 (f (11 : Nat)),
                    Value.int IntKind.i64 (f (12 : Nat)), Value.int IntKind.u64 (f (13 : Nat)),
                    Value.int IntKind.i64 (f (14 : Nat)), Value.int IntKind.i64 (f (15 : Nat)),
                    Value.slice none (0 : Nat) (0 : Nat)])
                (0 : Nat) [] then
            (0 : Int)
          else (2 : Int)) ==
          (2 : Int)
      else false),
    [],
    [false = false,
      [Value.int IntKind.i64 (f (0 : Nat)), Value.int IntKind.i64 (f (1 : Nat)), Value.int IntKind.i64 (f (2 : Nat)),
          Value.int IntKind.i64 (f (3 : Nat)), Value.int IntKind.i64 (f (4 : Nat)), Value.int IntKind.i64 (f (5 : Nat)),
          Value.int IntKind.i64 (f (6 : Nat)), Value.int IntKind.i64 (f (7 : Nat)), Value.int IntKind.i64 (f (8 : Nat)),
          Value.int IntKind.u64 (f (9 : Nat)), Value.int IntKind.u64 (f (10 : Nat)),
          Value.int IntKind.i64 (f (11 : Nat)), Value.int IntKind.i64 (f (12 : Nat)),
          Value.int IntKind.u64 (f (13 : Nat)), Value.int IntKind.i64 (f (14 : Nat)),
          Value.int IntKind.i64 (f (15 : Nat)), Value.slice none (0 : Nat) (0 : Nat)] =
        [Value.int IntKind.i64 (f (0 : Nat)), Value.int IntKind.i64 (f (1 : Nat)), Value.int IntKind.i64 (f (2 : Nat)),
          Value.int IntKind.i64 (f (3 : Nat)), Value.int IntKind.i64 (f (4 : Nat)), Value.int IntKind.i64 (f (5 : Nat)),
          Value.int IntKind.i64 (f (6 : Nat)), Value.int IntKind.i64 (f (7 : Nat)), Value.int IntKind.i64 (f (8 : Nat)),
          Value.int IntKind.u64 (f (9 : Nat)), Value.int IntKind.u64 (f (10 : Nat)),
          Value.int IntKind.i64 (f (11 : Nat)), Value.int IntKind.i64 (f (12 : Nat)),
          Value.int IntKind.u64 (f (13 : Nat)), Value.int IntKind.i64 (f (14 : Nat)),
          Value.int IntKind.i64 (f (15 : Nat)), Value.slice none (0 : Nat) (0 : Nat)],
      (bif false then true
        else
          (bif
                ckB
                  (intAt
                    [Value.int IntKind.i64 (f (0 : Nat)), Value.int IntKind.i64 (f (1 : Nat)),
                      Value.int IntKind.i64 (f (2 : Nat)), Value.int IntKind.i64 (f (3 : Nat)),
                      Value.int IntKind.i64 (f (4 : Nat)), Value.int IntKind.i64 (f (5 : Nat)),
                      Value.int IntKind.i64 (f (6 : Nat)), Value.int IntKind.i64 (f (7 : Nat)),
                      Value.int IntKind.i64 (f (8 : Nat)), Value.int IntKind.u64 (f (9 : Nat)),
                      Value.int IntKind.u64 (f (10 : Nat)), Value.int IntKind.i64 (f (11 : Nat)),
                      Value.int IntKind.i64 (f (12 : Nat)), Value.int IntKind.u64 (f (13 : Nat)),
                      Value.int IntKind.i64 (f (14 : Nat)), Value.int IntKind.i64 (f (15 : Nat)),
                      Value.slice none (0 : Nat) (0 : Nat)])
                  (0 : Nat) [] then
              (0 : Int)
            else (2 : Int)) !=
            (0 : Int)) =
        false,
      (f (2 : Nat) != (0 : Int)) = false, (bif false then true else decide (f (1 : Nat) < (0 : Int))) = false,
      (bif false then true else decide (f (1 : Nat) > (6 : Int))) = false,
      (bif false then true else decide (f (5 : Nat) < (0 : Int))) = false,
      (bif false then true else decide (f (3 : Nat) > (1073741824 : Int))) = false, true = true,
      (s == (0 : Int)) = false,
      [Value.int IntKind.i64 (f (0 : Nat)), Value.int IntKind.i64 (f (1 : Nat)), Value.int IntKind.i64 s,
          Value.int IntKind.i64 (f (3 : Nat)), Value.int IntKind.i64 (f (4 : Nat)), Value.int IntKind.i64 (f (5 : Nat)),
          Value.int IntKind.i64 (f (6 : Nat)), Value.int IntKind.i64 (f (7 : Nat)), Value.int IntKind.i64 (f (8 : Nat)),
          Value.int IntKind.u64 (f (9 : Nat)), Value.int IntKind.u64 (f (10 : Nat)),
          Value.int IntKind.i64 (f (11 : Nat)), Value.int IntKind.i64 (f (12 : Nat)),
          Value.int IntKind.u64 (f (13 : Nat)), Value.int IntKind.i64 (f (14 : Nat)),
          Value.int IntKind.i64 (f (15 : Nat)), Value.slice none (0 : Nat) (0 : Nat)] =
        [Value.int IntKind.i64 (f (0 : Nat)), Value.int IntKind.i64 (f (1 : Nat)), Value.int IntKind.i64 s,
          Value.int IntKind.i64 (f (3 : Nat)), Value.int IntKind.i64 (f (4 : Nat)), Value.int IntKind.i64 (f (5 : Nat)),
          Value.int IntKind.i64 (f (6 : Nat)), Value.int IntKind.i64 (f (7 : Nat)), Value.int IntKind.i64 (f (8 : Nat)),
          Value.int IntKind.u64 (f (9 : Nat)), Value.int IntKind.u64 (f (10 : Nat)),
          Value.int IntKind.i64 (f (11 : Nat)), Value.int IntKind.i64 (f (12 : Nat)),
          Value.int IntKind.u64 (f (13 : Nat)), Value.int IntKind.i64 (f (14 : Nat)),
          Value.int IntKind.i64 (f (15 : Nat)), Value.slice none (0 : Nat) (0 : Nat)],
      (bif true then
          bif false then true
          else
            (bif
                  ckB
                    (intAt
                      [Value.int IntKind.i64 (f (0 : Nat)), Value.int IntKind.i64 (f (1 : Nat)),
                        Value.int IntKind.i64 s, Value.int IntKind.i64 (f (3 : Nat)),
                        Value.int IntKind.i64 (f (4 : Nat)), Value.int IntKind.i64 (f (5 : Nat)),
                        Value.int IntKind.i64 (f (6 : Nat)), Value.int IntKind.i64 (f (7 : Nat)),
                        Value.int IntKind.i64 (f (8 : Nat)), Value.int IntKind.u64 (f (9 : Nat)),
                        Value.int IntKind.u64 (f (10 : Nat)), Value.int IntKind.i64 (f (11 : Nat)),
                        Value.int IntKind.i64 (f (12 : Nat)), Value.int IntKind.u64 (f (13 : Nat)),
                        Value.int IntKind.i64 (f (14 : Nat)), Value.int IntKind.i64 (f (15 : Nat)),
                        Value.slice none (0 : Nat) (0 : Nat)])
                    (0 : Nat) [] then
                (0 : Int)
              else (2 : Int)) ==
              (2 : Int)
        else false) =
        true,
      [Value.int IntKind.i64 (f (0 : Nat)), Value.int IntKind.i64 (f (1 : Nat)), Value.int IntKind.i64 (f (2 : Nat)),
          Value.int IntKind.i64 (Int.negSucc (nat_lit 0)), Value.int IntKind.i64 (f (4 : Nat)),
          Value.int IntKind.i64 (f (5 : Nat)), Value.int IntKind.i64 (f (6 : Nat)), Value.int IntKind.i64 (f (7 : Nat)),
          Value.int IntKind.i64 (f (8 : Nat)), Value.int IntKind.u64 (f (9 : Nat)),
          Value.int IntKind.u64 (f (10 : Nat)), Value.int IntKind.i64 (f (11 : Nat)),
          Value.int IntKind.i64 (f (12 : Nat)), Value.int IntKind.u64 (f (13 : Nat)),
          Value.int IntKind.i64 (f (14 : Nat)), Value.int IntKind.i64 (f (15 : Nat)),
          Value.slice none (0 : Nat) (0 : Nat)] =
        [Value.int IntKind.i64 (f (0 : Nat)), Value.int IntKind.i64 (f (1 : Nat)), Value.int IntKind.i64 (f (2 : Nat)),
          Value.int IntKind.i64 (Int.negSucc (nat_lit 0)), Value.int IntKind.i64 (f (4 : Nat)),
          Value.int IntKind.i64 (f (5 : Nat)), Value.int IntKind.i64 (f (6 : Nat)), Value.int IntKind.i64 (f (7 : Nat)),
          Value.int IntKind.i64 (f (8 : Nat)), Value.int IntKind.u64 (f (9 : Nat)),
          Value.int IntKind.u64 (f (10 : Nat)), Value.int IntKind.i64 (f (11 : Nat)),
          Value.int IntKind.i64 (f (12 : Nat)), Value.int IntKind.u64 (f (13 : Nat)),
          Value.int IntKind.i64 (f (14 : Nat)), Value.int IntKind.i64 (f (15 : Nat)),
          Value.slice none (0 : Nat) (0 : Nat)],
      (bif true then
          (bif
                ckB
                  (intAt
                    [Value.int IntKind.i64 (f (0 : Nat)), Value.int IntKind.i64 (f (1 : Nat)),
                      Value.int IntKind.i64 (f (2 : Nat)), Value.int IntKind.i64 (Int.negSucc (nat_lit 0)),
                      Value.int IntKind.i64 (f (4 : Nat)), Value.int IntKind.i64 (f (5 : Nat)),
                      Value.int IntKind.i64 (f (6 : Nat)), Value.int IntKind.i64 (f (7 : Nat)),
                      Value.int IntKind.i64 (f (8 : Nat)), Value.int IntKind.u64 (f (9 : Nat)),
                      Value.int IntKind.u64 (f (10 : Nat)), Value.int IntKind.i64 (f (11 : Nat)),
                      Value.int IntKind.i64 (f (12 : Nat)), Value.int IntKind.u64 (f (13 : Nat)),
                      Value.int IntKind.i64 (f (14 : Nat)), Value.int IntKind.i64 (f (15 : Nat)),
                      Value.slice none (0 : Nat) (0 : Nat)])
                  (0 : Nat) [] then
              (0 : Int)
            else (2 : Int)) ==
            (2 : Int)
        else false) =
        true,
      [Value.int IntKind.i64 (f (0 : Nat)), Value.int IntKind.i64 (f (1 : Nat)), Value.int IntKind.i64 (f (2 : Nat)),
          Value.int IntKind.i64 (f (3 : Nat)), Value.int IntKind.i64 (f (4 : Nat)), Value.int IntKind.i64 (f (5 : Nat)),
          Value.int IntKind.i64 (f (6 : Nat)), Value.int IntKind.i64 (1073741825 : Int),
          Value.int IntKind.i64 (f (8 : Nat)), Value.int IntKind.u64 (f (9 : Nat)),
          Value.int IntKind.u64 (f (10 : Nat)), Value.int IntKind.i64 (f (11 : Nat)),
          Value.int IntKind.i64 (f (12 : Nat)), Value.int IntKind.u64 (f (13 : Nat)),
          Value.int IntKind.i64 (f (14 : Nat)), Value.int IntKind.i64 (f (15 : Nat)),
          Value.slice none (0 : Nat) (0 : Nat)] =
        [Value.int IntKind.i64 (f (0 : Nat)), Value.int IntKind.i64 (f (1 : Nat)), Value.int IntKind.i64 (f (2 : Nat)),
          Value.int IntKind.i64 (f (3 : Nat)), Value.int IntKind.i64 (f (4 : Nat)), Value.int IntKind.i64 (f (5 : Nat)),
          Value.int IntKind.i64 (f (6 : Nat)), Value.int IntKind.i64 (1073741825 : Int),
          Value.int IntKind.i64 (f (8 : Nat)), Value.int IntKind.u64 (f (9 : Nat)),
          Value.int IntKind.u64 (f (10 : Nat)), Value.int IntKind.i64 (f (11 : Nat)),
          Value.int IntKind.i64 (f (12 : Nat)), Value.int IntKind.u64 (f (13 : Nat)),
          Value.int IntKind.i64 (f (14 : Nat)), Value.int IntKind.i64 (f (15 : Nat)),
          Value.slice none (0 : Nat) (0 : Nat)]]) := by kernel_rfl
end Go.Proofs.Ytcmcelilollchaa
