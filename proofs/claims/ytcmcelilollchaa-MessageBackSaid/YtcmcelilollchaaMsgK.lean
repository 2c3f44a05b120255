/-
  Chapter 23: the statement MessageBack, in parts: the code from its regions 19, 14, 9 and 4 on.
-/
import Derived.Test.YtcmcelilollchaaMsgP
import Derived.Test.YtcmcelilollchaaKitT
import Derived.Test.YtcmcelilollchaaOpenSl
namespace Go.Proofs.Ytcmcelilollchaa
set_option linter.unusedSimpArgs false
set_option linter.unusedVariables false
set_option linter.unusedSectionVars false
open Go Go.RowKit

def bkV (L : LFun) : Tv := ⟨idsT, noXz, L, fun f => bif Nat.beq f 7 then [25, 29, 34, 63, 91, 110, 130] else [], allSy 7 [], fun _ => [], fun _ => 0⟩
def bkC (P : Program) (k : Nat) : Code := tailIn P 7 k
def bk2 (a : Sa) : List (Nat × Value) := [(2, saV 2 a), (7, .bool true)]
def bk12 (a b : Sa) : List (Nat × Value) := [(1, saV 1 a), (2, saV 2 b), (7, .bool true)]
def bk012 (a b c : Sa) : List (Nat × Value) := [(0, saV 0 a), (1, saV 1 b), (2, saV 2 c), (7, .bool true)]
theorem bk19_n (inr : Bool) : prjZ [6] (codeZ (bkV noL) Try.prog (runZ (bkV noL) Try.prog 5) 7 inr 100000 (bkC Try.prog 19) (SL 134 (bk2 ⟨false, 0, 0, []⟩)) (saH 2 ⟨false, 0, 0, []⟩ []) 40 ([false, true] ++ [false, true] ++ [true])) =
Res.ok
  ((Xt.ret, (134 : Nat), [((6 : Nat), Value.bool true)], [], (40 : Nat), [], []), [],
    [Byts [], (0 : Nat) = (0 : Nat), Ints IntKind.i64 [], (0 : Nat) = (0 : Nat), Byts [], Byts [], true = true]) := by kernel_rfl
theorem bk19_bad (inr : Bool) (xs2 : List Value) (n2 c2 : Nat) : prjZ [6] (codeZ (bkV noL) Try.prog (runZ (bkV noL) Try.prog 5) 7 inr 100000 (bkC Try.prog 19) (SL 134 (bk2 ⟨true, n2, c2, xs2⟩)) (saH 2 ⟨true, n2, c2, xs2⟩ []) 40 [true]) =
Res.ok
  ((Xt.ret, (134 : Nat), [((6 : Nat), Value.bool true)], [((2 : Nat), Rw.mk Kd.old xs2)], (40 : Nat), [], []), [],
    [n2 ≤ c2 ∧ c2 ≤ (9223372036854775807 : Nat), n2 ≤ List.length xs2, Fl (List.take n2 xs2), Byts (List.take n2 xs2),
      decide (avLen (Av.sl (List.take n2 xs2) n2) % (12 : Nat) = (0 : Nat)) = false]) := by kernel_rfl
theorem bk19_not (inr : Bool) (xs2 : List Value) (n2 c2 : Nat) : prjZ [6] (codeZ (bkV noL) Try.prog (runZ (bkV noL) Try.prog 5) 7 inr 100000 (bkC Try.prog 19) (SL 134 (bk2 ⟨true, n2, c2, xs2⟩)) (saH 2 ⟨true, n2, c2, xs2⟩ []) 40 [false, false, true]) =
Res.ok
  ((Xt.ret, (134 : Nat), [((6 : Nat), Value.bool true)], [((2 : Nat), Rw.mk Kd.old xs2)], (40 : Nat), [], []), [],
    [n2 ≤ c2 ∧ c2 ≤ (9223372036854775807 : Nat), n2 ≤ List.length xs2, Fl (List.take n2 xs2), Byts (List.take n2 xs2),
      avLen (Av.sl (List.take n2 xs2) n2) % (12 : Nat) = (0 : Nat),
      decide (avLen (Av.sl (List.take n2 xs2) n2) = (0 : Nat)) = false,
      avLen (Av.sl (List.take n2 xs2) n2) ≤ (4096 : Nat),
      enOk (List.take n2 xs2) (avLen (Av.sl (List.take n2 xs2) n2)) = false]) := by kernel_rfl
theorem bk19_nil (inr : Bool) (xs2 : List Value) (n2 c2 : Nat) : prjZ [6] (codeZ (bkV noL) Try.prog (runZ (bkV noL) Try.prog 5) 7 inr 100000 (bkC Try.prog 19) (SL 134 (bk2 ⟨true, n2, c2, xs2⟩)) (saH 2 ⟨true, n2, c2, xs2⟩ []) 40 ([false, true] ++ [false, true] ++ [true])) =
Res.ok
  ((Xt.ret, (134 : Nat), [((6 : Nat), Value.bool true)], [((2 : Nat), Rw.mk Kd.old xs2)], (40 : Nat), [], []), [],
    [n2 ≤ c2 ∧ c2 ≤ (9223372036854775807 : Nat), n2 ≤ List.length xs2, Fl (List.take n2 xs2), Byts (List.take n2 xs2),
      avLen (Av.sl (List.take n2 xs2) n2) = (0 : Nat), Ints IntKind.i64 [], (0 : Nat) = (0 : Nat),
      n2 ≤ c2 ∧ c2 ≤ (9223372036854775807 : Nat), n2 ≤ List.length xs2, Fl (List.take n2 xs2), Byts [],
      Byts (List.take n2 xs2), decide (intsOf [] = intsOf (List.take n2 xs2)) = true]) := by kernel_rfl
theorem bk19_ok (inr : Bool) (xs2 : List Value) (n2 c2 : Nat) : prjZ [6] (codeZ (bkV noL) Try.prog (runZ (bkV noL) Try.prog 5) 7 inr 100000 (bkC Try.prog 19) (SL 134 (bk2 ⟨true, n2, c2, xs2⟩)) (saH 2 ⟨true, n2, c2, xs2⟩ []) 40 ([false, false, false] ++ [false, false] ++ [true])) =
Res.ok
  ((Xt.ret, (134 : Nat), [((6 : Nat), Value.bool true)],
      [((41 : Nat),
          Rw.mk (Kd.room (1 : Nat) [Value.int IntKind.u8 (0 : Int)])
            (ofL
              (List.take (avLen (Av.sl (List.take n2 xs2) n2) / (12 : Nat) * (3 : Nat))
                (entL (List.take n2 xs2) (0 : Nat) (avLen (Av.sl (List.take n2 xs2) n2) / (12 : Nat))))
              (0 : Nat)
              (avLen
                (Av.sl
                  (List.take (avLen (Av.sl (List.take n2 xs2) n2) / (12 : Nat) * (3 : Nat))
                    (entL (List.take n2 xs2) (0 : Nat) (avLen (Av.sl (List.take n2 xs2) n2) / (12 : Nat))))
                  (avLen (Av.sl (List.take n2 xs2) n2) / (12 : Nat)))))),
        ((40 : Nat),
          Rw.mk
            (Kd.room (3 : Nat)
              [Value.int IntKind.i64 (0 : Int), Value.int IntKind.i64 (0 : Int), Value.int IntKind.i64 (0 : Int)])
            (entL (List.take n2 xs2) (0 : Nat) (avLen (Av.sl (List.take n2 xs2) n2) / (12 : Nat)))),
        ((2 : Nat), Rw.mk Kd.old xs2)],
      (42 : Nat), [], []),
    [],
    [n2 ≤ c2 ∧ c2 ≤ (9223372036854775807 : Nat), n2 ≤ List.length xs2, Fl (List.take n2 xs2), Byts (List.take n2 xs2),
      avLen (Av.sl (List.take n2 xs2) n2) % (12 : Nat) = (0 : Nat),
      decide (avLen (Av.sl (List.take n2 xs2) n2) = (0 : Nat)) = false,
      avLen (Av.sl (List.take n2 xs2) n2) ≤ (4096 : Nat),
      enOk (List.take n2 xs2) (avLen (Av.sl (List.take n2 xs2) n2)) = true, capBig + (40 : Nat) = capBig + (40 : Nat),
      avLen (Av.sl (List.take n2 xs2) n2) / (12 : Nat) * (3 : Nat) ≤
        List.length (entL (List.take n2 xs2) (0 : Nat) (avLen (Av.sl (List.take n2 xs2) n2) / (12 : Nat))),
      (0 : Nat) < (3 : Nat),
      avLen (Av.sl (List.take n2 xs2) n2) / (12 : Nat) * (3 : Nat) ≤
        List.length (entL (List.take n2 xs2) (0 : Nat) (avLen (Av.sl (List.take n2 xs2) n2) / (12 : Nat))),
      Fl
        (List.take (avLen (Av.sl (List.take n2 xs2) n2) / (12 : Nat) * (3 : Nat))
          (entL (List.take n2 xs2) (0 : Nat) (avLen (Av.sl (List.take n2 xs2) n2) / (12 : Nat)))),
      Ints IntKind.i64
        (List.take (avLen (Av.sl (List.take n2 xs2) n2) / (12 : Nat) * (3 : Nat))
          (entL (List.take n2 xs2) (0 : Nat) (avLen (Av.sl (List.take n2 xs2) n2) / (12 : Nat)))),
      decide
          (avLen
              (Av.sl
                (List.take (avLen (Av.sl (List.take n2 xs2) n2) / (12 : Nat) * (3 : Nat))
                  (entL (List.take n2 xs2) (0 : Nat) (avLen (Av.sl (List.take n2 xs2) n2) / (12 : Nat))))
                (avLen (Av.sl (List.take n2 xs2) n2) / (12 : Nat))) =
            (0 : Nat)) =
        false,
      logB
          (List.take (avLen (Av.sl (List.take n2 xs2) n2) / (12 : Nat) * (3 : Nat))
            (entL (List.take n2 xs2) (0 : Nat) (avLen (Av.sl (List.take n2 xs2) n2) / (12 : Nat))))
          (avLen
            (Av.sl
              (List.take (avLen (Av.sl (List.take n2 xs2) n2) / (12 : Nat) * (3 : Nat))
                (entL (List.take n2 xs2) (0 : Nat) (avLen (Av.sl (List.take n2 xs2) n2) / (12 : Nat))))
              (avLen (Av.sl (List.take n2 xs2) n2) / (12 : Nat)))) =
        true,
      capBig + (41 : Nat) = capBig + (41 : Nat),
      avLen
            (Av.sl
              (List.take (avLen (Av.sl (List.take n2 xs2) n2) / (12 : Nat) * (3 : Nat))
                (entL (List.take n2 xs2) (0 : Nat) (avLen (Av.sl (List.take n2 xs2) n2) / (12 : Nat))))
              (avLen (Av.sl (List.take n2 xs2) n2) / (12 : Nat))) *
          (12 : Nat) ≤
        List.length
          (ofL
            (List.take (avLen (Av.sl (List.take n2 xs2) n2) / (12 : Nat) * (3 : Nat))
              (entL (List.take n2 xs2) (0 : Nat) (avLen (Av.sl (List.take n2 xs2) n2) / (12 : Nat))))
            (0 : Nat)
            (avLen
              (Av.sl
                (List.take (avLen (Av.sl (List.take n2 xs2) n2) / (12 : Nat) * (3 : Nat))
                  (entL (List.take n2 xs2) (0 : Nat) (avLen (Av.sl (List.take n2 xs2) n2) / (12 : Nat))))
                (avLen (Av.sl (List.take n2 xs2) n2) / (12 : Nat))))),
      (0 : Nat) < (1 : Nat),
      avLen
            (Av.sl
              (List.take (avLen (Av.sl (List.take n2 xs2) n2) / (12 : Nat) * (3 : Nat))
                (entL (List.take n2 xs2) (0 : Nat) (avLen (Av.sl (List.take n2 xs2) n2) / (12 : Nat))))
              (avLen (Av.sl (List.take n2 xs2) n2) / (12 : Nat))) *
          (12 : Nat) ≤
        List.length
          (ofL
            (List.take (avLen (Av.sl (List.take n2 xs2) n2) / (12 : Nat) * (3 : Nat))
              (entL (List.take n2 xs2) (0 : Nat) (avLen (Av.sl (List.take n2 xs2) n2) / (12 : Nat))))
            (0 : Nat)
            (avLen
              (Av.sl
                (List.take (avLen (Av.sl (List.take n2 xs2) n2) / (12 : Nat) * (3 : Nat))
                  (entL (List.take n2 xs2) (0 : Nat) (avLen (Av.sl (List.take n2 xs2) n2) / (12 : Nat))))
                (avLen (Av.sl (List.take n2 xs2) n2) / (12 : Nat))))),
      Fl
        (List.take
          (avLen
              (Av.sl
                (List.take (avLen (Av.sl (List.take n2 xs2) n2) / (12 : Nat) * (3 : Nat))
                  (entL (List.take n2 xs2) (0 : Nat) (avLen (Av.sl (List.take n2 xs2) n2) / (12 : Nat))))
                (avLen (Av.sl (List.take n2 xs2) n2) / (12 : Nat))) *
            (12 : Nat))
          (ofL
            (List.take (avLen (Av.sl (List.take n2 xs2) n2) / (12 : Nat) * (3 : Nat))
              (entL (List.take n2 xs2) (0 : Nat) (avLen (Av.sl (List.take n2 xs2) n2) / (12 : Nat))))
            (0 : Nat)
            (avLen
              (Av.sl
                (List.take (avLen (Av.sl (List.take n2 xs2) n2) / (12 : Nat) * (3 : Nat))
                  (entL (List.take n2 xs2) (0 : Nat) (avLen (Av.sl (List.take n2 xs2) n2) / (12 : Nat))))
                (avLen (Av.sl (List.take n2 xs2) n2) / (12 : Nat)))))),
      n2 ≤ c2 ∧ c2 ≤ (9223372036854775807 : Nat), n2 ≤ List.length xs2, Fl (List.take n2 xs2),
      Byts
        (List.take
          (avLen
              (Av.sl
                (List.take (avLen (Av.sl (List.take n2 xs2) n2) / (12 : Nat) * (3 : Nat))
                  (entL (List.take n2 xs2) (0 : Nat) (avLen (Av.sl (List.take n2 xs2) n2) / (12 : Nat))))
                (avLen (Av.sl (List.take n2 xs2) n2) / (12 : Nat))) *
            (12 : Nat))
          (ofL
            (List.take (avLen (Av.sl (List.take n2 xs2) n2) / (12 : Nat) * (3 : Nat))
              (entL (List.take n2 xs2) (0 : Nat) (avLen (Av.sl (List.take n2 xs2) n2) / (12 : Nat))))
            (0 : Nat)
            (avLen
              (Av.sl
                (List.take (avLen (Av.sl (List.take n2 xs2) n2) / (12 : Nat) * (3 : Nat))
                  (entL (List.take n2 xs2) (0 : Nat) (avLen (Av.sl (List.take n2 xs2) n2) / (12 : Nat))))
                (avLen (Av.sl (List.take n2 xs2) n2) / (12 : Nat)))))),
      Byts (List.take n2 xs2),
      decide
          (intsOf
              (List.take
                (avLen
                    (Av.sl
                      (List.take (avLen (Av.sl (List.take n2 xs2) n2) / (12 : Nat) * (3 : Nat))
                        (entL (List.take n2 xs2) (0 : Nat) (avLen (Av.sl (List.take n2 xs2) n2) / (12 : Nat))))
                      (avLen (Av.sl (List.take n2 xs2) n2) / (12 : Nat))) *
                  (12 : Nat))
                (ofL
                  (List.take (avLen (Av.sl (List.take n2 xs2) n2) / (12 : Nat) * (3 : Nat))
                    (entL (List.take n2 xs2) (0 : Nat) (avLen (Av.sl (List.take n2 xs2) n2) / (12 : Nat))))
                  (0 : Nat)
                  (avLen
                    (Av.sl
                      (List.take (avLen (Av.sl (List.take n2 xs2) n2) / (12 : Nat) * (3 : Nat))
                        (entL (List.take n2 xs2) (0 : Nat) (avLen (Av.sl (List.take n2 xs2) n2) / (12 : Nat))))
                      (avLen (Av.sl (List.take n2 xs2) n2) / (12 : Nat)))))) =
            intsOf (List.take n2 xs2)) =
        true]) := by kernel_rfl
def bkP2 (live : List (Nat × Value)) (h : Hp) : Option Sa := match live with
  | [(_, v), _] => pkA 2 v h
  | _ => none
def bkR2 (a : Sa) (h : Hp) : List Prop := [rowAt h 2 a, SaOk Byts 1 1000 a]
def bk19L (P : Program) : LFun := mkS 7 19 134 [2, 7] (bkC P 19) (tlSpec bkP2 bk2 bkR2 40 60 [(6, .bool true)])
theorem bk14_n (inr : Bool) : prjZ [6] (codeZ (bkV (bk19L Try.prog)) Try.prog (runZ (bkV (bk19L Try.prog)) Try.prog 5) 7 inr 100000 (bkC Try.prog 14) (SL 134 (bk2 ⟨false, 0, 0, []⟩)) (saH 2 ⟨false, 0, 0, []⟩ []) 30 ([false, false, true] ++ [false, true] ++ [true])) =
Res.ok
  ((Xt.ret, (134 : Nat), [((6 : Nat), Value.bool true)], [], (60 : Nat), [], []), [],
    [(0 : Nat) = (0 : Nat), (0 : Nat) = (0 : Nat), Byts [], Byts [], true = true,
      bkC Try.prog (19 : Nat) = bkC Try.prog (19 : Nat),
      [((2 : Nat), Value.slice none (0 : Nat) (0 : Nat)), ((7 : Nat), Value.bool true)] =
        bk2 (Sa.mk false (0 : Nat) (0 : Nat) []),
      (3 : Nat) ≤ (30 : Nat) ∧ (30 : Nat) ≤ (40 : Nat),
      rowAt
        (rowsN (30 : Nat) []
          (rowsN (30 : Nat) [] (rowsN (30 : Nat) [] (saH (2 : Nat) (Sa.mk false (0 : Nat) (0 : Nat) []) []))))
        (2 : Nat) (Sa.mk false (0 : Nat) (0 : Nat) []),
      SaOk Byts (1 : Nat) (1000 : Nat) (Sa.mk false (0 : Nat) (0 : Nat) [])]) := by kernel_rfl
theorem bk14_bad (inr : Bool) (xs2 : List Value) (n2 c2 : Nat) : prjZ [6] (codeZ (bkV (bk19L Try.prog)) Try.prog (runZ (bkV (bk19L Try.prog)) Try.prog 5) 7 inr 100000 (bkC Try.prog 14) (SL 134 (bk2 ⟨true, n2, c2, xs2⟩)) (saH 2 ⟨true, n2, c2, xs2⟩ []) 30 [true]) =
Res.ok
  ((Xt.ret, (134 : Nat), [((6 : Nat), Value.bool true)], [((2 : Nat), Rw.mk Kd.old xs2)], (60 : Nat), [], []), [],
    [n2 ≤ c2 ∧ c2 ≤ (9223372036854775807 : Nat), n2 ≤ List.length xs2, Fl (List.take n2 xs2),
      decide (avLen (Av.sl (List.take n2 xs2) n2) % (16 : Nat) = (0 : Nat)) = false,
      bkC Try.prog (19 : Nat) = bkC Try.prog (19 : Nat),
      [((2 : Nat), Value.slice (some (Addr.mk (2 : Nat) (0 : Nat) none)) n2 c2), ((7 : Nat), Value.bool true)] =
        bk2 (Sa.mk true n2 c2 xs2),
      (3 : Nat) ≤ (30 : Nat) ∧ (30 : Nat) ≤ (40 : Nat),
      rowAt (rowsN (30 : Nat) [] (saH (2 : Nat) (Sa.mk true n2 c2 xs2) [])) (2 : Nat) (Sa.mk true n2 c2 xs2),
      SaOk Byts (1 : Nat) (1000 : Nat) (Sa.mk true n2 c2 xs2)]) := by kernel_rfl
theorem bk14_long (inr : Bool) (xs2 : List Value) (n2 c2 : Nat) : prjZ [6] (codeZ (bkV (bk19L Try.prog)) Try.prog (runZ (bkV (bk19L Try.prog)) Try.prog 5) 7 inr 100000 (bkC Try.prog 14) (SL 134 (bk2 ⟨true, n2, c2, xs2⟩)) (saH 2 ⟨true, n2, c2, xs2⟩ []) 30 [false, true]) =
Res.ok
  ((Xt.ret, (134 : Nat), [((6 : Nat), Value.bool true)], [((2 : Nat), Rw.mk Kd.old xs2)], (60 : Nat), [], []), [],
    [n2 ≤ c2 ∧ c2 ≤ (9223372036854775807 : Nat), n2 ≤ List.length xs2, Fl (List.take n2 xs2),
      avLen (Av.sl (List.take n2 xs2) n2) % (16 : Nat) = (0 : Nat),
      decide (avLen (Av.sl (List.take n2 xs2) n2) ≤ (128 : Nat)) = false,
      bkC Try.prog (19 : Nat) = bkC Try.prog (19 : Nat),
      [((2 : Nat), Value.slice (some (Addr.mk (2 : Nat) (0 : Nat) none)) n2 c2), ((7 : Nat), Value.bool true)] =
        bk2 (Sa.mk true n2 c2 xs2),
      (3 : Nat) ≤ (30 : Nat) ∧ (30 : Nat) ≤ (40 : Nat),
      rowAt (rowsN (30 : Nat) [] (saH (2 : Nat) (Sa.mk true n2 c2 xs2) [])) (2 : Nat) (Sa.mk true n2 c2 xs2),
      SaOk Byts (1 : Nat) (1000 : Nat) (Sa.mk true n2 c2 xs2)]) := by kernel_rfl
theorem bk14_nil (inr : Bool) (xs2 : List Value) (n2 c2 : Nat) : prjZ [6] (codeZ (bkV (bk19L Try.prog)) Try.prog (runZ (bkV (bk19L Try.prog)) Try.prog 5) 7 inr 100000 (bkC Try.prog 14) (SL 134 (bk2 ⟨true, n2, c2, xs2⟩)) (saH 2 ⟨true, n2, c2, xs2⟩ []) 30 ([false, false, true] ++ [false, true] ++ [true])) =
Res.ok
  ((Xt.ret, (134 : Nat), [((6 : Nat), Value.bool true)], [((2 : Nat), Rw.mk Kd.old xs2)], (60 : Nat), [], []), [],
    [n2 ≤ c2 ∧ c2 ≤ (9223372036854775807 : Nat), n2 ≤ List.length xs2, Fl (List.take n2 xs2),
      avLen (Av.sl (List.take n2 xs2) n2) = (0 : Nat), (0 : Nat) = (0 : Nat),
      n2 ≤ c2 ∧ c2 ≤ (9223372036854775807 : Nat), n2 ≤ List.length xs2, Fl (List.take n2 xs2), Byts [],
      Byts (List.take n2 xs2), decide (intsOf [] = intsOf (List.take n2 xs2)) = true,
      bkC Try.prog (19 : Nat) = bkC Try.prog (19 : Nat),
      [((2 : Nat), Value.slice (some (Addr.mk (2 : Nat) (0 : Nat) none)) n2 c2), ((7 : Nat), Value.bool true)] =
        bk2 (Sa.mk true n2 c2 xs2),
      (3 : Nat) ≤ (30 : Nat) ∧ (30 : Nat) ≤ (40 : Nat),
      rowAt (rowsN (30 : Nat) [] (rowsN (30 : Nat) [] (rowsN (30 : Nat) [] (saH (2 : Nat) (Sa.mk true n2 c2 xs2) []))))
        (2 : Nat) (Sa.mk true n2 c2 xs2),
      SaOk Byts (1 : Nat) (1000 : Nat) (Sa.mk true n2 c2 xs2)]) := by kernel_rfl
theorem bk14_ok (inr : Bool) (xs2 : List Value) (n2 c2 : Nat) : prjZ [6] (codeZ (bkV (bk19L Try.prog)) Try.prog (runZ (bkV (bk19L Try.prog)) Try.prog 5) 7 inr 100000 (bkC Try.prog 14) (SL 134 (bk2 ⟨true, n2, c2, xs2⟩)) (saH 2 ⟨true, n2, c2, xs2⟩ []) 30 ([false, false, false] ++ [false, false] ++ [true])) =
Res.ok
  ((Xt.ret, (134 : Nat), [((6 : Nat), Value.bool true)], [((2 : Nat), Rw.mk Kd.old xs2)], (60 : Nat),
      [(31 : Nat), (30 : Nat)], []),
    [],
    [n2 ≤ c2 ∧ c2 ≤ (9223372036854775807 : Nat), n2 ≤ List.length xs2, Fl (List.take n2 xs2), Byts (List.take n2 xs2),
      avLen (Av.sl (List.take n2 xs2) n2) % (16 : Nat) = (0 : Nat), avLen (Av.sl (List.take n2 xs2) n2) ≤ (128 : Nat),
      decide (avLen (Av.sl (List.take n2 xs2) n2) = (0 : Nat)) = false, capBig + (30 : Nat) = capBig + (30 : Nat),
      avLen (Av.sl (List.take n2 xs2) n2) / (16 : Nat) * (2 : Nat) ≤
        List.length (idL (List.take n2 xs2) (0 : Nat) (avLen (Av.sl (List.take n2 xs2) n2) / (16 : Nat))),
      (0 : Nat) < (2 : Nat),
      avLen (Av.sl (List.take n2 xs2) n2) / (16 : Nat) * (2 : Nat) ≤
        List.length (idL (List.take n2 xs2) (0 : Nat) (avLen (Av.sl (List.take n2 xs2) n2) / (16 : Nat))),
      Fl
        (List.take (avLen (Av.sl (List.take n2 xs2) n2) / (16 : Nat) * (2 : Nat))
          (idL (List.take n2 xs2) (0 : Nat) (avLen (Av.sl (List.take n2 xs2) n2) / (16 : Nat)))),
      Ints IntKind.u64
        (List.take (avLen (Av.sl (List.take n2 xs2) n2) / (16 : Nat) * (2 : Nat))
          (idL (List.take n2 xs2) (0 : Nat) (avLen (Av.sl (List.take n2 xs2) n2) / (16 : Nat)))),
      avLen
          (Av.sl
            (List.take (avLen (Av.sl (List.take n2 xs2) n2) / (16 : Nat) * (2 : Nat))
              (idL (List.take n2 xs2) (0 : Nat) (avLen (Av.sl (List.take n2 xs2) n2) / (16 : Nat))))
            (avLen (Av.sl (List.take n2 xs2) n2) / (16 : Nat))) ≤
        (8 : Nat),
      decide
          (avLen
              (Av.sl
                (List.take (avLen (Av.sl (List.take n2 xs2) n2) / (16 : Nat) * (2 : Nat))
                  (idL (List.take n2 xs2) (0 : Nat) (avLen (Av.sl (List.take n2 xs2) n2) / (16 : Nat))))
                (avLen (Av.sl (List.take n2 xs2) n2) / (16 : Nat))) =
            (0 : Nat)) =
        false,
      capBig + (31 : Nat) = capBig + (31 : Nat),
      avLen
            (Av.sl
              (List.take (avLen (Av.sl (List.take n2 xs2) n2) / (16 : Nat) * (2 : Nat))
                (idL (List.take n2 xs2) (0 : Nat) (avLen (Av.sl (List.take n2 xs2) n2) / (16 : Nat))))
              (avLen (Av.sl (List.take n2 xs2) n2) / (16 : Nat))) *
          (16 : Nat) ≤
        List.length
          (oiL
            (List.take (avLen (Av.sl (List.take n2 xs2) n2) / (16 : Nat) * (2 : Nat))
              (idL (List.take n2 xs2) (0 : Nat) (avLen (Av.sl (List.take n2 xs2) n2) / (16 : Nat))))
            (0 : Nat)
            (avLen
              (Av.sl
                (List.take (avLen (Av.sl (List.take n2 xs2) n2) / (16 : Nat) * (2 : Nat))
                  (idL (List.take n2 xs2) (0 : Nat) (avLen (Av.sl (List.take n2 xs2) n2) / (16 : Nat))))
                (avLen (Av.sl (List.take n2 xs2) n2) / (16 : Nat))))),
      (0 : Nat) < (1 : Nat),
      avLen
            (Av.sl
              (List.take (avLen (Av.sl (List.take n2 xs2) n2) / (16 : Nat) * (2 : Nat))
                (idL (List.take n2 xs2) (0 : Nat) (avLen (Av.sl (List.take n2 xs2) n2) / (16 : Nat))))
              (avLen (Av.sl (List.take n2 xs2) n2) / (16 : Nat))) *
          (16 : Nat) ≤
        List.length
          (oiL
            (List.take (avLen (Av.sl (List.take n2 xs2) n2) / (16 : Nat) * (2 : Nat))
              (idL (List.take n2 xs2) (0 : Nat) (avLen (Av.sl (List.take n2 xs2) n2) / (16 : Nat))))
            (0 : Nat)
            (avLen
              (Av.sl
                (List.take (avLen (Av.sl (List.take n2 xs2) n2) / (16 : Nat) * (2 : Nat))
                  (idL (List.take n2 xs2) (0 : Nat) (avLen (Av.sl (List.take n2 xs2) n2) / (16 : Nat))))
                (avLen (Av.sl (List.take n2 xs2) n2) / (16 : Nat))))),
      Fl
        (List.take
          (avLen
              (Av.sl
                (List.take (avLen (Av.sl (List.take n2 xs2) n2) / (16 : Nat) * (2 : Nat))
                  (idL (List.take n2 xs2) (0 : Nat) (avLen (Av.sl (List.take n2 xs2) n2) / (16 : Nat))))
                (avLen (Av.sl (List.take n2 xs2) n2) / (16 : Nat))) *
            (16 : Nat))
          (oiL
            (List.take (avLen (Av.sl (List.take n2 xs2) n2) / (16 : Nat) * (2 : Nat))
              (idL (List.take n2 xs2) (0 : Nat) (avLen (Av.sl (List.take n2 xs2) n2) / (16 : Nat))))
            (0 : Nat)
            (avLen
              (Av.sl
                (List.take (avLen (Av.sl (List.take n2 xs2) n2) / (16 : Nat) * (2 : Nat))
                  (idL (List.take n2 xs2) (0 : Nat) (avLen (Av.sl (List.take n2 xs2) n2) / (16 : Nat))))
                (avLen (Av.sl (List.take n2 xs2) n2) / (16 : Nat)))))),
      n2 ≤ c2 ∧ c2 ≤ (9223372036854775807 : Nat), n2 ≤ List.length xs2, Fl (List.take n2 xs2),
      Byts
        (List.take
          (avLen
              (Av.sl
                (List.take (avLen (Av.sl (List.take n2 xs2) n2) / (16 : Nat) * (2 : Nat))
                  (idL (List.take n2 xs2) (0 : Nat) (avLen (Av.sl (List.take n2 xs2) n2) / (16 : Nat))))
                (avLen (Av.sl (List.take n2 xs2) n2) / (16 : Nat))) *
            (16 : Nat))
          (oiL
            (List.take (avLen (Av.sl (List.take n2 xs2) n2) / (16 : Nat) * (2 : Nat))
              (idL (List.take n2 xs2) (0 : Nat) (avLen (Av.sl (List.take n2 xs2) n2) / (16 : Nat))))
            (0 : Nat)
            (avLen
              (Av.sl
                (List.take (avLen (Av.sl (List.take n2 xs2) n2) / (16 : Nat) * (2 : Nat))
                  (idL (List.take n2 xs2) (0 : Nat) (avLen (Av.sl (List.take n2 xs2) n2) / (16 : Nat))))
                (avLen (Av.sl (List.take n2 xs2) n2) / (16 : Nat)))))),
      Byts (List.take n2 xs2),
      decide
          (intsOf
              (List.take
                (avLen
                    (Av.sl
                      (List.take (avLen (Av.sl (List.take n2 xs2) n2) / (16 : Nat) * (2 : Nat))
                        (idL (List.take n2 xs2) (0 : Nat) (avLen (Av.sl (List.take n2 xs2) n2) / (16 : Nat))))
                      (avLen (Av.sl (List.take n2 xs2) n2) / (16 : Nat))) *
                  (16 : Nat))
                (oiL
                  (List.take (avLen (Av.sl (List.take n2 xs2) n2) / (16 : Nat) * (2 : Nat))
                    (idL (List.take n2 xs2) (0 : Nat) (avLen (Av.sl (List.take n2 xs2) n2) / (16 : Nat))))
                  (0 : Nat)
                  (avLen
                    (Av.sl
                      (List.take (avLen (Av.sl (List.take n2 xs2) n2) / (16 : Nat) * (2 : Nat))
                        (idL (List.take n2 xs2) (0 : Nat) (avLen (Av.sl (List.take n2 xs2) n2) / (16 : Nat))))
                      (avLen (Av.sl (List.take n2 xs2) n2) / (16 : Nat)))))) =
            intsOf (List.take n2 xs2)) =
        true,
      bkC Try.prog (19 : Nat) = bkC Try.prog (19 : Nat),
      [((2 : Nat), Value.slice (some (Addr.mk (2 : Nat) (0 : Nat) none)) n2 c2), ((7 : Nat), Value.bool true)] =
        bk2 (Sa.mk true n2 c2 xs2),
      (3 : Nat) ≤ (32 : Nat) ∧ (32 : Nat) ≤ (40 : Nat),
      rowAt
        (rowsN (32 : Nat) []
          (rowsN (31 : Nat)
            [byRow
                (oiL
                  (List.take (avLen (Av.sl (List.take n2 xs2) n2) / (16 : Nat) * (2 : Nat))
                    (idL (List.take n2 xs2) (0 : Nat) (avLen (Av.sl (List.take n2 xs2) n2) / (16 : Nat))))
                  (0 : Nat)
                  (avLen
                    (Av.sl
                      (List.take (avLen (Av.sl (List.take n2 xs2) n2) / (16 : Nat) * (2 : Nat))
                        (idL (List.take n2 xs2) (0 : Nat) (avLen (Av.sl (List.take n2 xs2) n2) / (16 : Nat))))
                      (avLen (Av.sl (List.take n2 xs2) n2) / (16 : Nat)))))]
            (rowsN (30 : Nat)
              [idRow (idL (List.take n2 xs2) (0 : Nat) (avLen (Av.sl (List.take n2 xs2) n2) / (16 : Nat)))]
              (saH (2 : Nat) (Sa.mk true n2 c2 xs2) []))))
        (2 : Nat) (Sa.mk true n2 c2 xs2),
      SaOk Byts (1 : Nat) (1000 : Nat) (Sa.mk true n2 c2 xs2)]) := by kernel_rfl
def bkP12 (live : List (Nat × Value)) (h : Hp) : Option (Sa × Sa) := match live with
  | [(_, u), (_, v), _] => (match pkA 1 u h, pkA 2 v h with | some a, some b => some (a, b) | _, _ => none)
  | _ => none
def bkR12 (a : Sa × Sa) (h : Hp) : List Prop := [rowAt h 1 a.1, rowAt h 2 a.2, SaOk (Ints .i64) 3 80 a.1, SaOk Byts 1 1000 a.2]
def bk14L (P : Program) : LFun := mkS 7 14 134 [2, 7] (bkC P 14) (tlSpec bkP2 bk2 bkR2 30 60 [(6, .bool true)])
theorem bk9_n0 (inr : Bool) : prjZ [6] (codeZ (bkV (bk14L Try.prog)) Try.prog (runZ (bkV (bk14L Try.prog)) Try.prog 5) 7 inr 100000 (bkC Try.prog 9) (SL 134 (bk12 ⟨false, 0, 0, []⟩ ⟨false, 0, 0, []⟩)) (saH 1 ⟨false, 0, 0, []⟩ (saH 2 ⟨false, 0, 0, []⟩ [])) 20 ([false, true] ++ [false, true] ++ [false])) =
Res.ok
  ((Xt.ret, (134 : Nat), [((6 : Nat), Value.bool true)], [], (60 : Nat), [], []), [],
    [Ints IntKind.i64 [], (0 : Nat) = (0 : Nat), Byts [], (0 : Nat) = (0 : Nat), Ints IntKind.i64 [], ([] : List Value) = [],
      (0 : Nat) = (0 : Nat), rg IntKind.i64 (0 : Int), false = false, bkC Try.prog (14 : Nat) = bkC Try.prog (14 : Nat),
      [((2 : Nat), Value.slice none (0 : Nat) (0 : Nat)), ((7 : Nat), Value.bool true)] =
        bk2 (Sa.mk false (0 : Nat) (0 : Nat) []),
      (3 : Nat) ≤ (20 : Nat) ∧ (20 : Nat) ≤ (30 : Nat),
      rowAt
        (rowsN (20 : Nat) []
          (rowsN (20 : Nat) []
            (rowsN (20 : Nat) []
              (saH (1 : Nat) (Sa.mk false (0 : Nat) (0 : Nat) [])
                (saH (2 : Nat) (Sa.mk false (0 : Nat) (0 : Nat) []) [])))))
        (2 : Nat) (Sa.mk false (0 : Nat) (0 : Nat) []),
      SaOk Byts (1 : Nat) (1000 : Nat) (Sa.mk false (0 : Nat) (0 : Nat) [])]) := by kernel_rfl
theorem bk9_n1 (inr : Bool) (xs2 : List Value) (n2 c2 : Nat) : prjZ [6] (codeZ (bkV (bk14L Try.prog)) Try.prog (runZ (bkV (bk14L Try.prog)) Try.prog 5) 7 inr 100000 (bkC Try.prog 9) (SL 134 (bk12 ⟨false, 0, 0, []⟩ ⟨true, n2, c2, xs2⟩)) (saH 1 ⟨false, 0, 0, []⟩ (saH 2 ⟨true, n2, c2, xs2⟩ [])) 20 ([false, true] ++ [false, true] ++ [false])) =
Res.ok
  ((Xt.ret, (134 : Nat), [((6 : Nat), Value.bool true)], [((2 : Nat), Rw.mk Kd.old xs2)], (60 : Nat), [], []), [],
    [Ints IntKind.i64 [], (0 : Nat) = (0 : Nat), Byts [], (0 : Nat) = (0 : Nat), Ints IntKind.i64 [], ([] : List Value) = [],
      (0 : Nat) = (0 : Nat), rg IntKind.i64 (0 : Int), false = false, bkC Try.prog (14 : Nat) = bkC Try.prog (14 : Nat),
      [((2 : Nat), Value.slice (some (Addr.mk (2 : Nat) (0 : Nat) none)) n2 c2), ((7 : Nat), Value.bool true)] =
        bk2 (Sa.mk true n2 c2 xs2),
      (3 : Nat) ≤ (20 : Nat) ∧ (20 : Nat) ≤ (30 : Nat),
      rowAt
        (rowsN (20 : Nat) []
          (rowsN (20 : Nat) []
            (rowsN (20 : Nat) []
              (saH (1 : Nat) (Sa.mk false (0 : Nat) (0 : Nat) []) (saH (2 : Nat) (Sa.mk true n2 c2 xs2) [])))))
        (2 : Nat) (Sa.mk true n2 c2 xs2),
      SaOk Byts (1 : Nat) (1000 : Nat) (Sa.mk true n2 c2 xs2)]) := by kernel_rfl
theorem bk9_bad0 (inr : Bool) (xs1 : List Value) (n1 c1 : Nat) : prjZ [6] (codeZ (bkV (bk14L Try.prog)) Try.prog (runZ (bkV (bk14L Try.prog)) Try.prog 5) 7 inr 100000 (bkC Try.prog 9) (SL 134 (bk12 ⟨true, n1, c1, xs1⟩ ⟨false, 0, 0, []⟩)) (saH 1 ⟨true, n1, c1, xs1⟩ (saH 2 ⟨false, 0, 0, []⟩ [])) 20 [true]) =
Res.ok
  ((Xt.ret, (134 : Nat), [((6 : Nat), Value.bool true)], [((1 : Nat), Rw.mk Kd.old xs1)], (60 : Nat), [], []), [],
    [n1 ≤ c1 ∧ c1 ≤ (9223372036854775807 : Nat), n1 * (3 : Nat) ≤ List.length xs1, Fl (List.take (n1 * (3 : Nat)) xs1),
      Ints IntKind.i64 (List.take (n1 * (3 : Nat)) xs1),
      logB (List.take (n1 * (3 : Nat)) xs1) (avLen (Av.sl (List.take (n1 * (3 : Nat)) xs1) n1)) = false,
      bkC Try.prog (14 : Nat) = bkC Try.prog (14 : Nat),
      [((2 : Nat), Value.slice none (0 : Nat) (0 : Nat)), ((7 : Nat), Value.bool true)] =
        bk2 (Sa.mk false (0 : Nat) (0 : Nat) []),
      (3 : Nat) ≤ (20 : Nat) ∧ (20 : Nat) ≤ (30 : Nat),
      rowAt
        (rowsN (20 : Nat) []
          (saH (1 : Nat) (Sa.mk true n1 c1 xs1) (saH (2 : Nat) (Sa.mk false (0 : Nat) (0 : Nat) []) [])))
        (2 : Nat) (Sa.mk false (0 : Nat) (0 : Nat) []),
      SaOk Byts (1 : Nat) (1000 : Nat) (Sa.mk false (0 : Nat) (0 : Nat) [])]) := by kernel_rfl
theorem bk9_bad1 (inr : Bool) (xs1 : List Value) (n1 c1 : Nat) (xs2 : List Value) (n2 c2 : Nat) : prjZ [6] (codeZ (bkV (bk14L Try.prog)) Try.prog (runZ (bkV (bk14L Try.prog)) Try.prog 5) 7 inr 100000 (bkC Try.prog 9) (SL 134 (bk12 ⟨true, n1, c1, xs1⟩ ⟨true, n2, c2, xs2⟩)) (saH 1 ⟨true, n1, c1, xs1⟩ (saH 2 ⟨true, n2, c2, xs2⟩ [])) 20 [true]) =
Res.ok
  ((Xt.ret, (134 : Nat), [((6 : Nat), Value.bool true)], [((1 : Nat), Rw.mk Kd.old xs1), ((2 : Nat), Rw.mk Kd.old xs2)],
      (60 : Nat), [], []),
    [],
    [n1 ≤ c1 ∧ c1 ≤ (9223372036854775807 : Nat), n1 * (3 : Nat) ≤ List.length xs1, Fl (List.take (n1 * (3 : Nat)) xs1),
      Ints IntKind.i64 (List.take (n1 * (3 : Nat)) xs1),
      logB (List.take (n1 * (3 : Nat)) xs1) (avLen (Av.sl (List.take (n1 * (3 : Nat)) xs1) n1)) = false,
      bkC Try.prog (14 : Nat) = bkC Try.prog (14 : Nat),
      [((2 : Nat), Value.slice (some (Addr.mk (2 : Nat) (0 : Nat) none)) n2 c2), ((7 : Nat), Value.bool true)] =
        bk2 (Sa.mk true n2 c2 xs2),
      (3 : Nat) ≤ (20 : Nat) ∧ (20 : Nat) ≤ (30 : Nat),
      rowAt (rowsN (20 : Nat) [] (saH (1 : Nat) (Sa.mk true n1 c1 xs1) (saH (2 : Nat) (Sa.mk true n2 c2 xs2) [])))
        (2 : Nat) (Sa.mk true n2 c2 xs2),
      SaOk Byts (1 : Nat) (1000 : Nat) (Sa.mk true n2 c2 xs2)]) := by kernel_rfl
theorem bk9_nil0 (inr : Bool) (xs1 : List Value) (n1 c1 : Nat) : prjZ [6] (codeZ (bkV (bk14L Try.prog)) Try.prog (runZ (bkV (bk14L Try.prog)) Try.prog 5) 7 inr 100000 (bkC Try.prog 9) (SL 134 (bk12 ⟨true, n1, c1, xs1⟩ ⟨false, 0, 0, []⟩)) (saH 1 ⟨true, n1, c1, xs1⟩ (saH 2 ⟨false, 0, 0, []⟩ [])) 20 ([false, true] ++ [false, true] ++ [false])) =
Res.ok
  ((Xt.ret, (134 : Nat), [((6 : Nat), Value.bool true)], [((1 : Nat), Rw.mk Kd.old xs1)], (60 : Nat), [], []), [],
    [n1 ≤ c1 ∧ c1 ≤ (9223372036854775807 : Nat), n1 * (3 : Nat) ≤ List.length xs1, Fl (List.take (n1 * (3 : Nat)) xs1),
      Ints IntKind.i64 (List.take (n1 * (3 : Nat)) xs1), avLen (Av.sl (List.take (n1 * (3 : Nat)) xs1) n1) = (0 : Nat),
      Byts [], (0 : Nat) = (0 : Nat), n1 ≤ c1 ∧ c1 ≤ (9223372036854775807 : Nat), n1 * (3 : Nat) ≤ List.length xs1,
      Fl (List.take (n1 * (3 : Nat)) xs1), Ints IntKind.i64 [], List.take (n1 * (3 : Nat)) xs1 = [],
      avLen (Av.sl (List.take (n1 * (3 : Nat)) xs1) n1) = (0 : Nat), rg IntKind.i64 (↑((12 : Nat) * n1) : Int),
      ((0 : Int) != (↑((12 : Nat) * n1) : Int)) = false, bkC Try.prog (14 : Nat) = bkC Try.prog (14 : Nat),
      [((2 : Nat), Value.slice none (0 : Nat) (0 : Nat)), ((7 : Nat), Value.bool true)] =
        bk2 (Sa.mk false (0 : Nat) (0 : Nat) []),
      (3 : Nat) ≤ (20 : Nat) ∧ (20 : Nat) ≤ (30 : Nat),
      rowAt
        (rowsN (20 : Nat) []
          (rowsN (20 : Nat) []
            (rowsN (20 : Nat) []
              (saH (1 : Nat) (Sa.mk true n1 c1 xs1) (saH (2 : Nat) (Sa.mk false (0 : Nat) (0 : Nat) []) [])))))
        (2 : Nat) (Sa.mk false (0 : Nat) (0 : Nat) []),
      SaOk Byts (1 : Nat) (1000 : Nat) (Sa.mk false (0 : Nat) (0 : Nat) [])]) := by kernel_rfl
theorem bk9_nil1 (inr : Bool) (xs1 : List Value) (n1 c1 : Nat) (xs2 : List Value) (n2 c2 : Nat) : prjZ [6] (codeZ (bkV (bk14L Try.prog)) Try.prog (runZ (bkV (bk14L Try.prog)) Try.prog 5) 7 inr 100000 (bkC Try.prog 9) (SL 134 (bk12 ⟨true, n1, c1, xs1⟩ ⟨true, n2, c2, xs2⟩)) (saH 1 ⟨true, n1, c1, xs1⟩ (saH 2 ⟨true, n2, c2, xs2⟩ [])) 20 ([false, true] ++ [false, true] ++ [false])) =
Res.ok
  ((Xt.ret, (134 : Nat), [((6 : Nat), Value.bool true)], [((1 : Nat), Rw.mk Kd.old xs1), ((2 : Nat), Rw.mk Kd.old xs2)],
      (60 : Nat), [], []),
    [],
    [n1 ≤ c1 ∧ c1 ≤ (9223372036854775807 : Nat), n1 * (3 : Nat) ≤ List.length xs1, Fl (List.take (n1 * (3 : Nat)) xs1),
      Ints IntKind.i64 (List.take (n1 * (3 : Nat)) xs1), avLen (Av.sl (List.take (n1 * (3 : Nat)) xs1) n1) = (0 : Nat),
      Byts [], (0 : Nat) = (0 : Nat), n1 ≤ c1 ∧ c1 ≤ (9223372036854775807 : Nat), n1 * (3 : Nat) ≤ List.length xs1,
      Fl (List.take (n1 * (3 : Nat)) xs1), Ints IntKind.i64 [], List.take (n1 * (3 : Nat)) xs1 = [],
      avLen (Av.sl (List.take (n1 * (3 : Nat)) xs1) n1) = (0 : Nat), rg IntKind.i64 (↑((12 : Nat) * n1) : Int),
      ((0 : Int) != (↑((12 : Nat) * n1) : Int)) = false, bkC Try.prog (14 : Nat) = bkC Try.prog (14 : Nat),
      [((2 : Nat), Value.slice (some (Addr.mk (2 : Nat) (0 : Nat) none)) n2 c2), ((7 : Nat), Value.bool true)] =
        bk2 (Sa.mk true n2 c2 xs2),
      (3 : Nat) ≤ (20 : Nat) ∧ (20 : Nat) ≤ (30 : Nat),
      rowAt
        (rowsN (20 : Nat) []
          (rowsN (20 : Nat) []
            (rowsN (20 : Nat) [] (saH (1 : Nat) (Sa.mk true n1 c1 xs1) (saH (2 : Nat) (Sa.mk true n2 c2 xs2) [])))))
        (2 : Nat) (Sa.mk true n2 c2 xs2),
      SaOk Byts (1 : Nat) (1000 : Nat) (Sa.mk true n2 c2 xs2)]) := by kernel_rfl
theorem bk9_ok0 (inr : Bool) (xs1 : List Value) (n1 c1 : Nat) : prjZ [6] (codeZ (bkV (bk14L Try.prog)) Try.prog (runZ (bkV (bk14L Try.prog)) Try.prog 5) 7 inr 100000 (bkC Try.prog 9) (SL 134 (bk12 ⟨true, n1, c1, xs1⟩ ⟨false, 0, 0, []⟩)) (saH 1 ⟨true, n1, c1, xs1⟩ (saH 2 ⟨false, 0, 0, []⟩ [])) 20 ([false, false] ++ [false, false, false] ++ [false])) =
Res.ok
  ((Xt.ret, (134 : Nat), [((6 : Nat), Value.bool true)], [((1 : Nat), Rw.mk Kd.old xs1)], (60 : Nat),
      [(21 : Nat), (20 : Nat)], []),
    [],
    [n1 ≤ c1 ∧ c1 ≤ (9223372036854775807 : Nat), n1 * (3 : Nat) ≤ List.length xs1, Fl (List.take (n1 * (3 : Nat)) xs1),
      Ints IntKind.i64 (List.take (n1 * (3 : Nat)) xs1),
      decide (avLen (Av.sl (List.take (n1 * (3 : Nat)) xs1) n1) = (0 : Nat)) = false,
      logB (List.take (n1 * (3 : Nat)) xs1) (avLen (Av.sl (List.take (n1 * (3 : Nat)) xs1) n1)) = true,
      capBig + (20 : Nat) = capBig + (20 : Nat),
      avLen (Av.sl (List.take (n1 * (3 : Nat)) xs1) n1) * (12 : Nat) ≤
        List.length
          (ofL (List.take (n1 * (3 : Nat)) xs1) (0 : Nat) (avLen (Av.sl (List.take (n1 * (3 : Nat)) xs1) n1))),
      (0 : Nat) < (1 : Nat),
      avLen (Av.sl (List.take (n1 * (3 : Nat)) xs1) n1) * (12 : Nat) ≤
        List.length
          (ofL (List.take (n1 * (3 : Nat)) xs1) (0 : Nat) (avLen (Av.sl (List.take (n1 * (3 : Nat)) xs1) n1))),
      Fl
        (List.take (avLen (Av.sl (List.take (n1 * (3 : Nat)) xs1) n1) * (12 : Nat))
          (ofL (List.take (n1 * (3 : Nat)) xs1) (0 : Nat) (avLen (Av.sl (List.take (n1 * (3 : Nat)) xs1) n1)))),
      Byts
        (List.take (avLen (Av.sl (List.take (n1 * (3 : Nat)) xs1) n1) * (12 : Nat))
          (ofL (List.take (n1 * (3 : Nat)) xs1) (0 : Nat) (avLen (Av.sl (List.take (n1 * (3 : Nat)) xs1) n1)))),
      avLen
            (Av.sl
              (List.take (avLen (Av.sl (List.take (n1 * (3 : Nat)) xs1) n1) * (12 : Nat))
                (ofL (List.take (n1 * (3 : Nat)) xs1) (0 : Nat) (avLen (Av.sl (List.take (n1 * (3 : Nat)) xs1) n1))))
              (avLen (Av.sl (List.take (n1 * (3 : Nat)) xs1) n1) * (12 : Nat))) %
          (12 : Nat) =
        (0 : Nat),
      decide
          (avLen
              (Av.sl
                (List.take (avLen (Av.sl (List.take (n1 * (3 : Nat)) xs1) n1) * (12 : Nat))
                  (ofL (List.take (n1 * (3 : Nat)) xs1) (0 : Nat) (avLen (Av.sl (List.take (n1 * (3 : Nat)) xs1) n1))))
                (avLen (Av.sl (List.take (n1 * (3 : Nat)) xs1) n1) * (12 : Nat))) =
            (0 : Nat)) =
        false,
      avLen
          (Av.sl
            (List.take (avLen (Av.sl (List.take (n1 * (3 : Nat)) xs1) n1) * (12 : Nat))
              (ofL (List.take (n1 * (3 : Nat)) xs1) (0 : Nat) (avLen (Av.sl (List.take (n1 * (3 : Nat)) xs1) n1))))
            (avLen (Av.sl (List.take (n1 * (3 : Nat)) xs1) n1) * (12 : Nat))) ≤
        (4096 : Nat),
      enOk
          (List.take (avLen (Av.sl (List.take (n1 * (3 : Nat)) xs1) n1) * (12 : Nat))
            (ofL (List.take (n1 * (3 : Nat)) xs1) (0 : Nat) (avLen (Av.sl (List.take (n1 * (3 : Nat)) xs1) n1))))
          (avLen
            (Av.sl
              (List.take (avLen (Av.sl (List.take (n1 * (3 : Nat)) xs1) n1) * (12 : Nat))
                (ofL (List.take (n1 * (3 : Nat)) xs1) (0 : Nat) (avLen (Av.sl (List.take (n1 * (3 : Nat)) xs1) n1))))
              (avLen (Av.sl (List.take (n1 * (3 : Nat)) xs1) n1) * (12 : Nat)))) =
        true,
      capBig + (21 : Nat) = capBig + (21 : Nat),
      avLen
              (Av.sl
                (List.take (avLen (Av.sl (List.take (n1 * (3 : Nat)) xs1) n1) * (12 : Nat))
                  (ofL (List.take (n1 * (3 : Nat)) xs1) (0 : Nat) (avLen (Av.sl (List.take (n1 * (3 : Nat)) xs1) n1))))
                (avLen (Av.sl (List.take (n1 * (3 : Nat)) xs1) n1) * (12 : Nat))) /
            (12 : Nat) *
          (3 : Nat) ≤
        List.length
          (entL
            (List.take (avLen (Av.sl (List.take (n1 * (3 : Nat)) xs1) n1) * (12 : Nat))
              (ofL (List.take (n1 * (3 : Nat)) xs1) (0 : Nat) (avLen (Av.sl (List.take (n1 * (3 : Nat)) xs1) n1))))
            (0 : Nat)
            (avLen
                (Av.sl
                  (List.take (avLen (Av.sl (List.take (n1 * (3 : Nat)) xs1) n1) * (12 : Nat))
                    (ofL (List.take (n1 * (3 : Nat)) xs1) (0 : Nat)
                      (avLen (Av.sl (List.take (n1 * (3 : Nat)) xs1) n1))))
                  (avLen (Av.sl (List.take (n1 * (3 : Nat)) xs1) n1) * (12 : Nat))) /
              (12 : Nat))),
      (0 : Nat) < (3 : Nat),
      avLen
              (Av.sl
                (List.take (avLen (Av.sl (List.take (n1 * (3 : Nat)) xs1) n1) * (12 : Nat))
                  (ofL (List.take (n1 * (3 : Nat)) xs1) (0 : Nat) (avLen (Av.sl (List.take (n1 * (3 : Nat)) xs1) n1))))
                (avLen (Av.sl (List.take (n1 * (3 : Nat)) xs1) n1) * (12 : Nat))) /
            (12 : Nat) *
          (3 : Nat) ≤
        List.length
          (entL
            (List.take (avLen (Av.sl (List.take (n1 * (3 : Nat)) xs1) n1) * (12 : Nat))
              (ofL (List.take (n1 * (3 : Nat)) xs1) (0 : Nat) (avLen (Av.sl (List.take (n1 * (3 : Nat)) xs1) n1))))
            (0 : Nat)
            (avLen
                (Av.sl
                  (List.take (avLen (Av.sl (List.take (n1 * (3 : Nat)) xs1) n1) * (12 : Nat))
                    (ofL (List.take (n1 * (3 : Nat)) xs1) (0 : Nat)
                      (avLen (Av.sl (List.take (n1 * (3 : Nat)) xs1) n1))))
                  (avLen (Av.sl (List.take (n1 * (3 : Nat)) xs1) n1) * (12 : Nat))) /
              (12 : Nat))),
      Fl
        (List.take
          (avLen
                (Av.sl
                  (List.take (avLen (Av.sl (List.take (n1 * (3 : Nat)) xs1) n1) * (12 : Nat))
                    (ofL (List.take (n1 * (3 : Nat)) xs1) (0 : Nat)
                      (avLen (Av.sl (List.take (n1 * (3 : Nat)) xs1) n1))))
                  (avLen (Av.sl (List.take (n1 * (3 : Nat)) xs1) n1) * (12 : Nat))) /
              (12 : Nat) *
            (3 : Nat))
          (entL
            (List.take (avLen (Av.sl (List.take (n1 * (3 : Nat)) xs1) n1) * (12 : Nat))
              (ofL (List.take (n1 * (3 : Nat)) xs1) (0 : Nat) (avLen (Av.sl (List.take (n1 * (3 : Nat)) xs1) n1))))
            (0 : Nat)
            (avLen
                (Av.sl
                  (List.take (avLen (Av.sl (List.take (n1 * (3 : Nat)) xs1) n1) * (12 : Nat))
                    (ofL (List.take (n1 * (3 : Nat)) xs1) (0 : Nat)
                      (avLen (Av.sl (List.take (n1 * (3 : Nat)) xs1) n1))))
                  (avLen (Av.sl (List.take (n1 * (3 : Nat)) xs1) n1) * (12 : Nat))) /
              (12 : Nat)))),
      n1 ≤ c1 ∧ c1 ≤ (9223372036854775807 : Nat), n1 * (3 : Nat) ≤ List.length xs1, Fl (List.take (n1 * (3 : Nat)) xs1),
      Ints IntKind.i64
        (List.take
          (avLen
                (Av.sl
                  (List.take (avLen (Av.sl (List.take (n1 * (3 : Nat)) xs1) n1) * (12 : Nat))
                    (ofL (List.take (n1 * (3 : Nat)) xs1) (0 : Nat)
                      (avLen (Av.sl (List.take (n1 * (3 : Nat)) xs1) n1))))
                  (avLen (Av.sl (List.take (n1 * (3 : Nat)) xs1) n1) * (12 : Nat))) /
              (12 : Nat) *
            (3 : Nat))
          (entL
            (List.take (avLen (Av.sl (List.take (n1 * (3 : Nat)) xs1) n1) * (12 : Nat))
              (ofL (List.take (n1 * (3 : Nat)) xs1) (0 : Nat) (avLen (Av.sl (List.take (n1 * (3 : Nat)) xs1) n1))))
            (0 : Nat)
            (avLen
                (Av.sl
                  (List.take (avLen (Av.sl (List.take (n1 * (3 : Nat)) xs1) n1) * (12 : Nat))
                    (ofL (List.take (n1 * (3 : Nat)) xs1) (0 : Nat)
                      (avLen (Av.sl (List.take (n1 * (3 : Nat)) xs1) n1))))
                  (avLen (Av.sl (List.take (n1 * (3 : Nat)) xs1) n1) * (12 : Nat))) /
              (12 : Nat)))),
      List.take (n1 * (3 : Nat)) xs1 =
        List.take
          (avLen
                (Av.sl
                  (List.take (avLen (Av.sl (List.take (n1 * (3 : Nat)) xs1) n1) * (12 : Nat))
                    (ofL (List.take (n1 * (3 : Nat)) xs1) (0 : Nat)
                      (avLen (Av.sl (List.take (n1 * (3 : Nat)) xs1) n1))))
                  (avLen (Av.sl (List.take (n1 * (3 : Nat)) xs1) n1) * (12 : Nat))) /
              (12 : Nat) *
            (3 : Nat))
          (entL
            (List.take (avLen (Av.sl (List.take (n1 * (3 : Nat)) xs1) n1) * (12 : Nat))
              (ofL (List.take (n1 * (3 : Nat)) xs1) (0 : Nat) (avLen (Av.sl (List.take (n1 * (3 : Nat)) xs1) n1))))
            (0 : Nat)
            (avLen
                (Av.sl
                  (List.take (avLen (Av.sl (List.take (n1 * (3 : Nat)) xs1) n1) * (12 : Nat))
                    (ofL (List.take (n1 * (3 : Nat)) xs1) (0 : Nat)
                      (avLen (Av.sl (List.take (n1 * (3 : Nat)) xs1) n1))))
                  (avLen (Av.sl (List.take (n1 * (3 : Nat)) xs1) n1) * (12 : Nat))) /
              (12 : Nat))),
      avLen (Av.sl (List.take (n1 * (3 : Nat)) xs1) n1) =
        avLen
          (Av.sl
            (List.take
              (avLen
                    (Av.sl
                      (List.take (avLen (Av.sl (List.take (n1 * (3 : Nat)) xs1) n1) * (12 : Nat))
                        (ofL (List.take (n1 * (3 : Nat)) xs1) (0 : Nat)
                          (avLen (Av.sl (List.take (n1 * (3 : Nat)) xs1) n1))))
                      (avLen (Av.sl (List.take (n1 * (3 : Nat)) xs1) n1) * (12 : Nat))) /
                  (12 : Nat) *
                (3 : Nat))
              (entL
                (List.take (avLen (Av.sl (List.take (n1 * (3 : Nat)) xs1) n1) * (12 : Nat))
                  (ofL (List.take (n1 * (3 : Nat)) xs1) (0 : Nat) (avLen (Av.sl (List.take (n1 * (3 : Nat)) xs1) n1))))
                (0 : Nat)
                (avLen
                    (Av.sl
                      (List.take (avLen (Av.sl (List.take (n1 * (3 : Nat)) xs1) n1) * (12 : Nat))
                        (ofL (List.take (n1 * (3 : Nat)) xs1) (0 : Nat)
                          (avLen (Av.sl (List.take (n1 * (3 : Nat)) xs1) n1))))
                      (avLen (Av.sl (List.take (n1 * (3 : Nat)) xs1) n1) * (12 : Nat))) /
                  (12 : Nat))))
            (avLen
                (Av.sl
                  (List.take (avLen (Av.sl (List.take (n1 * (3 : Nat)) xs1) n1) * (12 : Nat))
                    (ofL (List.take (n1 * (3 : Nat)) xs1) (0 : Nat)
                      (avLen (Av.sl (List.take (n1 * (3 : Nat)) xs1) n1))))
                  (avLen (Av.sl (List.take (n1 * (3 : Nat)) xs1) n1) * (12 : Nat))) /
              (12 : Nat))),
      rg IntKind.i64 (↑((12 : Nat) * n1) : Int),
      ((↑(avLen (Av.sl (List.take (n1 * (3 : Nat)) xs1) n1) * (12 : Nat)) : Int) != (↑((12 : Nat) * n1) : Int)) = false,
      bkC Try.prog (14 : Nat) = bkC Try.prog (14 : Nat),
      [((2 : Nat), Value.slice none (0 : Nat) (0 : Nat)), ((7 : Nat), Value.bool true)] =
        bk2 (Sa.mk false (0 : Nat) (0 : Nat) []),
      (3 : Nat) ≤ (22 : Nat) ∧ (22 : Nat) ≤ (30 : Nat),
      rowAt
        (rowsN (22 : Nat) []
          (rowsN (21 : Nat)
            [enRow
                (entL
                  (List.take (avLen (Av.sl (List.take (n1 * (3 : Nat)) xs1) n1) * (12 : Nat))
                    (ofL (List.take (n1 * (3 : Nat)) xs1) (0 : Nat)
                      (avLen (Av.sl (List.take (n1 * (3 : Nat)) xs1) n1))))
                  (0 : Nat)
                  (avLen
                      (Av.sl
                        (List.take (avLen (Av.sl (List.take (n1 * (3 : Nat)) xs1) n1) * (12 : Nat))
                          (ofL (List.take (n1 * (3 : Nat)) xs1) (0 : Nat)
                            (avLen (Av.sl (List.take (n1 * (3 : Nat)) xs1) n1))))
                        (avLen (Av.sl (List.take (n1 * (3 : Nat)) xs1) n1) * (12 : Nat))) /
                    (12 : Nat)))]
            (rowsN (20 : Nat)
              [byRow
                  (ofL (List.take (n1 * (3 : Nat)) xs1) (0 : Nat) (avLen (Av.sl (List.take (n1 * (3 : Nat)) xs1) n1)))]
              (saH (1 : Nat) (Sa.mk true n1 c1 xs1) (saH (2 : Nat) (Sa.mk false (0 : Nat) (0 : Nat) []) [])))))
        (2 : Nat) (Sa.mk false (0 : Nat) (0 : Nat) []),
      SaOk Byts (1 : Nat) (1000 : Nat) (Sa.mk false (0 : Nat) (0 : Nat) [])]) := by kernel_rfl
theorem bk9_ok1 (inr : Bool) (xs1 : List Value) (n1 c1 : Nat) (xs2 : List Value) (n2 c2 : Nat) : prjZ [6] (codeZ (bkV (bk14L Try.prog)) Try.prog (runZ (bkV (bk14L Try.prog)) Try.prog 5) 7 inr 100000 (bkC Try.prog 9) (SL 134 (bk12 ⟨true, n1, c1, xs1⟩ ⟨true, n2, c2, xs2⟩)) (saH 1 ⟨true, n1, c1, xs1⟩ (saH 2 ⟨true, n2, c2, xs2⟩ [])) 20 ([false, false] ++ [false, false, false] ++ [false])) =
Res.ok
  ((Xt.ret, (134 : Nat), [((6 : Nat), Value.bool true)], [((1 : Nat), Rw.mk Kd.old xs1), ((2 : Nat), Rw.mk Kd.old xs2)],
      (60 : Nat), [(21 : Nat), (20 : Nat)], []),
    [],
    [n1 ≤ c1 ∧ c1 ≤ (9223372036854775807 : Nat), n1 * (3 : Nat) ≤ List.length xs1, Fl (List.take (n1 * (3 : Nat)) xs1),
      Ints IntKind.i64 (List.take (n1 * (3 : Nat)) xs1),
      decide (avLen (Av.sl (List.take (n1 * (3 : Nat)) xs1) n1) = (0 : Nat)) = false,
      logB (List.take (n1 * (3 : Nat)) xs1) (avLen (Av.sl (List.take (n1 * (3 : Nat)) xs1) n1)) = true,
      capBig + (20 : Nat) = capBig + (20 : Nat),
      avLen (Av.sl (List.take (n1 * (3 : Nat)) xs1) n1) * (12 : Nat) ≤
        List.length
          (ofL (List.take (n1 * (3 : Nat)) xs1) (0 : Nat) (avLen (Av.sl (List.take (n1 * (3 : Nat)) xs1) n1))),
      (0 : Nat) < (1 : Nat),
      avLen (Av.sl (List.take (n1 * (3 : Nat)) xs1) n1) * (12 : Nat) ≤
        List.length
          (ofL (List.take (n1 * (3 : Nat)) xs1) (0 : Nat) (avLen (Av.sl (List.take (n1 * (3 : Nat)) xs1) n1))),
      Fl
        (List.take (avLen (Av.sl (List.take (n1 * (3 : Nat)) xs1) n1) * (12 : Nat))
          (ofL (List.take (n1 * (3 : Nat)) xs1) (0 : Nat) (avLen (Av.sl (List.take (n1 * (3 : Nat)) xs1) n1)))),
      Byts
        (List.take (avLen (Av.sl (List.take (n1 * (3 : Nat)) xs1) n1) * (12 : Nat))
          (ofL (List.take (n1 * (3 : Nat)) xs1) (0 : Nat) (avLen (Av.sl (List.take (n1 * (3 : Nat)) xs1) n1)))),
      avLen
            (Av.sl
              (List.take (avLen (Av.sl (List.take (n1 * (3 : Nat)) xs1) n1) * (12 : Nat))
                (ofL (List.take (n1 * (3 : Nat)) xs1) (0 : Nat) (avLen (Av.sl (List.take (n1 * (3 : Nat)) xs1) n1))))
              (avLen (Av.sl (List.take (n1 * (3 : Nat)) xs1) n1) * (12 : Nat))) %
          (12 : Nat) =
        (0 : Nat),
      decide
          (avLen
              (Av.sl
                (List.take (avLen (Av.sl (List.take (n1 * (3 : Nat)) xs1) n1) * (12 : Nat))
                  (ofL (List.take (n1 * (3 : Nat)) xs1) (0 : Nat) (avLen (Av.sl (List.take (n1 * (3 : Nat)) xs1) n1))))
                (avLen (Av.sl (List.take (n1 * (3 : Nat)) xs1) n1) * (12 : Nat))) =
            (0 : Nat)) =
        false,
      avLen
          (Av.sl
            (List.take (avLen (Av.sl (List.take (n1 * (3 : Nat)) xs1) n1) * (12 : Nat))
              (ofL (List.take (n1 * (3 : Nat)) xs1) (0 : Nat) (avLen (Av.sl (List.take (n1 * (3 : Nat)) xs1) n1))))
            (avLen (Av.sl (List.take (n1 * (3 : Nat)) xs1) n1) * (12 : Nat))) ≤
        (4096 : Nat),
      enOk
          (List.take (avLen (Av.sl (List.take (n1 * (3 : Nat)) xs1) n1) * (12 : Nat))
            (ofL (List.take (n1 * (3 : Nat)) xs1) (0 : Nat) (avLen (Av.sl (List.take (n1 * (3 : Nat)) xs1) n1))))
          (avLen
            (Av.sl
              (List.take (avLen (Av.sl (List.take (n1 * (3 : Nat)) xs1) n1) * (12 : Nat))
                (ofL (List.take (n1 * (3 : Nat)) xs1) (0 : Nat) (avLen (Av.sl (List.take (n1 * (3 : Nat)) xs1) n1))))
              (avLen (Av.sl (List.take (n1 * (3 : Nat)) xs1) n1) * (12 : Nat)))) =
        true,
      capBig + (21 : Nat) = capBig + (21 : Nat),
      avLen
              (Av.sl
                (List.take (avLen (Av.sl (List.take (n1 * (3 : Nat)) xs1) n1) * (12 : Nat))
                  (ofL (List.take (n1 * (3 : Nat)) xs1) (0 : Nat) (avLen (Av.sl (List.take (n1 * (3 : Nat)) xs1) n1))))
                (avLen (Av.sl (List.take (n1 * (3 : Nat)) xs1) n1) * (12 : Nat))) /
            (12 : Nat) *
          (3 : Nat) ≤
        List.length
          (entL
            (List.take (avLen (Av.sl (List.take (n1 * (3 : Nat)) xs1) n1) * (12 : Nat))
              (ofL (List.take (n1 * (3 : Nat)) xs1) (0 : Nat) (avLen (Av.sl (List.take (n1 * (3 : Nat)) xs1) n1))))
            (0 : Nat)
            (avLen
                (Av.sl
                  (List.take (avLen (Av.sl (List.take (n1 * (3 : Nat)) xs1) n1) * (12 : Nat))
                    (ofL (List.take (n1 * (3 : Nat)) xs1) (0 : Nat)
                      (avLen (Av.sl (List.take (n1 * (3 : Nat)) xs1) n1))))
                  (avLen (Av.sl (List.take (n1 * (3 : Nat)) xs1) n1) * (12 : Nat))) /
              (12 : Nat))),
      (0 : Nat) < (3 : Nat),
      avLen
              (Av.sl
                (List.take (avLen (Av.sl (List.take (n1 * (3 : Nat)) xs1) n1) * (12 : Nat))
                  (ofL (List.take (n1 * (3 : Nat)) xs1) (0 : Nat) (avLen (Av.sl (List.take (n1 * (3 : Nat)) xs1) n1))))
                (avLen (Av.sl (List.take (n1 * (3 : Nat)) xs1) n1) * (12 : Nat))) /
            (12 : Nat) *
          (3 : Nat) ≤
        List.length
          (entL
            (List.take (avLen (Av.sl (List.take (n1 * (3 : Nat)) xs1) n1) * (12 : Nat))
              (ofL (List.take (n1 * (3 : Nat)) xs1) (0 : Nat) (avLen (Av.sl (List.take (n1 * (3 : Nat)) xs1) n1))))
            (0 : Nat)
            (avLen
                (Av.sl
                  (List.take (avLen (Av.sl (List.take (n1 * (3 : Nat)) xs1) n1) * (12 : Nat))
                    (ofL (List.take (n1 * (3 : Nat)) xs1) (0 : Nat)
                      (avLen (Av.sl (List.take (n1 * (3 : Nat)) xs1) n1))))
                  (avLen (Av.sl (List.take (n1 * (3 : Nat)) xs1) n1) * (12 : Nat))) /
              (12 : Nat))),
      Fl
        (List.take
          (avLen
                (Av.sl
                  (List.take (avLen (Av.sl (List.take (n1 * (3 : Nat)) xs1) n1) * (12 : Nat))
                    (ofL (List.take (n1 * (3 : Nat)) xs1) (0 : Nat)
                      (avLen (Av.sl (List.take (n1 * (3 : Nat)) xs1) n1))))
                  (avLen (Av.sl (List.take (n1 * (3 : Nat)) xs1) n1) * (12 : Nat))) /
              (12 : Nat) *
            (3 : Nat))
          (entL
            (List.take (avLen (Av.sl (List.take (n1 * (3 : Nat)) xs1) n1) * (12 : Nat))
              (ofL (List.take (n1 * (3 : Nat)) xs1) (0 : Nat) (avLen (Av.sl (List.take (n1 * (3 : Nat)) xs1) n1))))
            (0 : Nat)
            (avLen
                (Av.sl
                  (List.take (avLen (Av.sl (List.take (n1 * (3 : Nat)) xs1) n1) * (12 : Nat))
                    (ofL (List.take (n1 * (3 : Nat)) xs1) (0 : Nat)
                      (avLen (Av.sl (List.take (n1 * (3 : Nat)) xs1) n1))))
                  (avLen (Av.sl (List.take (n1 * (3 : Nat)) xs1) n1) * (12 : Nat))) /
              (12 : Nat)))),
      n1 ≤ c1 ∧ c1 ≤ (9223372036854775807 : Nat), n1 * (3 : Nat) ≤ List.length xs1, Fl (List.take (n1 * (3 : Nat)) xs1),
      Ints IntKind.i64
        (List.take
          (avLen
                (Av.sl
                  (List.take (avLen (Av.sl (List.take (n1 * (3 : Nat)) xs1) n1) * (12 : Nat))
                    (ofL (List.take (n1 * (3 : Nat)) xs1) (0 : Nat)
                      (avLen (Av.sl (List.take (n1 * (3 : Nat)) xs1) n1))))
                  (avLen (Av.sl (List.take (n1 * (3 : Nat)) xs1) n1) * (12 : Nat))) /
              (12 : Nat) *
            (3 : Nat))
          (entL
            (List.take (avLen (Av.sl (List.take (n1 * (3 : Nat)) xs1) n1) * (12 : Nat))
              (ofL (List.take (n1 * (3 : Nat)) xs1) (0 : Nat) (avLen (Av.sl (List.take (n1 * (3 : Nat)) xs1) n1))))
            (0 : Nat)
            (avLen
                (Av.sl
                  (List.take (avLen (Av.sl (List.take (n1 * (3 : Nat)) xs1) n1) * (12 : Nat))
                    (ofL (List.take (n1 * (3 : Nat)) xs1) (0 : Nat)
                      (avLen (Av.sl (List.take (n1 * (3 : Nat)) xs1) n1))))
                  (avLen (Av.sl (List.take (n1 * (3 : Nat)) xs1) n1) * (12 : Nat))) /
              (12 : Nat)))),
      List.take (n1 * (3 : Nat)) xs1 =
        List.take
          (avLen
                (Av.sl
                  (List.take (avLen (Av.sl (List.take (n1 * (3 : Nat)) xs1) n1) * (12 : Nat))
                    (ofL (List.take (n1 * (3 : Nat)) xs1) (0 : Nat)
                      (avLen (Av.sl (List.take (n1 * (3 : Nat)) xs1) n1))))
                  (avLen (Av.sl (List.take (n1 * (3 : Nat)) xs1) n1) * (12 : Nat))) /
              (12 : Nat) *
            (3 : Nat))
          (entL
            (List.take (avLen (Av.sl (List.take (n1 * (3 : Nat)) xs1) n1) * (12 : Nat))
              (ofL (List.take (n1 * (3 : Nat)) xs1) (0 : Nat) (avLen (Av.sl (List.take (n1 * (3 : Nat)) xs1) n1))))
            (0 : Nat)
            (avLen
                (Av.sl
                  (List.take (avLen (Av.sl (List.take (n1 * (3 : Nat)) xs1) n1) * (12 : Nat))
                    (ofL (List.take (n1 * (3 : Nat)) xs1) (0 : Nat)
                      (avLen (Av.sl (List.take (n1 * (3 : Nat)) xs1) n1))))
                  (avLen (Av.sl (List.take (n1 * (3 : Nat)) xs1) n1) * (12 : Nat))) /
              (12 : Nat))),
      avLen (Av.sl (List.take (n1 * (3 : Nat)) xs1) n1) =
        avLen
          (Av.sl
            (List.take
              (avLen
                    (Av.sl
                      (List.take (avLen (Av.sl (List.take (n1 * (3 : Nat)) xs1) n1) * (12 : Nat))
                        (ofL (List.take (n1 * (3 : Nat)) xs1) (0 : Nat)
                          (avLen (Av.sl (List.take (n1 * (3 : Nat)) xs1) n1))))
                      (avLen (Av.sl (List.take (n1 * (3 : Nat)) xs1) n1) * (12 : Nat))) /
                  (12 : Nat) *
                (3 : Nat))
              (entL
                (List.take (avLen (Av.sl (List.take (n1 * (3 : Nat)) xs1) n1) * (12 : Nat))
                  (ofL (List.take (n1 * (3 : Nat)) xs1) (0 : Nat) (avLen (Av.sl (List.take (n1 * (3 : Nat)) xs1) n1))))
                (0 : Nat)
                (avLen
                    (Av.sl
                      (List.take (avLen (Av.sl (List.take (n1 * (3 : Nat)) xs1) n1) * (12 : Nat))
                        (ofL (List.take (n1 * (3 : Nat)) xs1) (0 : Nat)
                          (avLen (Av.sl (List.take (n1 * (3 : Nat)) xs1) n1))))
                      (avLen (Av.sl (List.take (n1 * (3 : Nat)) xs1) n1) * (12 : Nat))) /
                  (12 : Nat))))
            (avLen
                (Av.sl
                  (List.take (avLen (Av.sl (List.take (n1 * (3 : Nat)) xs1) n1) * (12 : Nat))
                    (ofL (List.take (n1 * (3 : Nat)) xs1) (0 : Nat)
                      (avLen (Av.sl (List.take (n1 * (3 : Nat)) xs1) n1))))
                  (avLen (Av.sl (List.take (n1 * (3 : Nat)) xs1) n1) * (12 : Nat))) /
              (12 : Nat))),
      rg IntKind.i64 (↑((12 : Nat) * n1) : Int),
      ((↑(avLen (Av.sl (List.take (n1 * (3 : Nat)) xs1) n1) * (12 : Nat)) : Int) != (↑((12 : Nat) * n1) : Int)) = false,
      bkC Try.prog (14 : Nat) = bkC Try.prog (14 : Nat),
      [((2 : Nat), Value.slice (some (Addr.mk (2 : Nat) (0 : Nat) none)) n2 c2), ((7 : Nat), Value.bool true)] =
        bk2 (Sa.mk true n2 c2 xs2),
      (3 : Nat) ≤ (22 : Nat) ∧ (22 : Nat) ≤ (30 : Nat),
      rowAt
        (rowsN (22 : Nat) []
          (rowsN (21 : Nat)
            [enRow
                (entL
                  (List.take (avLen (Av.sl (List.take (n1 * (3 : Nat)) xs1) n1) * (12 : Nat))
                    (ofL (List.take (n1 * (3 : Nat)) xs1) (0 : Nat)
                      (avLen (Av.sl (List.take (n1 * (3 : Nat)) xs1) n1))))
                  (0 : Nat)
                  (avLen
                      (Av.sl
                        (List.take (avLen (Av.sl (List.take (n1 * (3 : Nat)) xs1) n1) * (12 : Nat))
                          (ofL (List.take (n1 * (3 : Nat)) xs1) (0 : Nat)
                            (avLen (Av.sl (List.take (n1 * (3 : Nat)) xs1) n1))))
                        (avLen (Av.sl (List.take (n1 * (3 : Nat)) xs1) n1) * (12 : Nat))) /
                    (12 : Nat)))]
            (rowsN (20 : Nat)
              [byRow
                  (ofL (List.take (n1 * (3 : Nat)) xs1) (0 : Nat) (avLen (Av.sl (List.take (n1 * (3 : Nat)) xs1) n1)))]
              (saH (1 : Nat) (Sa.mk true n1 c1 xs1) (saH (2 : Nat) (Sa.mk true n2 c2 xs2) [])))))
        (2 : Nat) (Sa.mk true n2 c2 xs2),
      SaOk Byts (1 : Nat) (1000 : Nat) (Sa.mk true n2 c2 xs2)]) := by kernel_rfl
def bkP012 (live : List (Nat × Value)) (h : Hp) : Option (Sa × Sa × Sa) := match live with
  | [(_, t), (_, u), (_, v), _] => (match pkA 0 t h, pkA 1 u h, pkA 2 v h with | some a, some b, some c => some (a, b, c) | _, _, _ => none)
  | _ => none
def bkR012 (a : Sa × Sa × Sa) (h : Hp) : List Prop := [rowAt h 0 a.1, rowAt h 1 a.2.1, rowAt h 2 a.2.2, SaOk U64s 2 20 a.1, SaOk (Ints .i64) 3 80 a.2.1, SaOk Byts 1 1000 a.2.2]
def bk9L (P : Program) : LFun := mkS 7 9 134 [1, 2, 7] (bkC P 9) (tlSpec bkP12 (fun a => bk12 a.1 a.2) bkR12 20 60 [(6, .bool true)])
theorem bk4_n00 (inr : Bool) : prjZ [6] (codeZ (bkV (bk9L Try.prog)) Try.prog (runZ (bkV (bk9L Try.prog)) Try.prog 5) 7 inr 100000 (bkC Try.prog 4) (SL 134 (bk012 ⟨false, 0, 0, []⟩ ⟨false, 0, 0, []⟩ ⟨false, 0, 0, []⟩)) (saH 0 ⟨false, 0, 0, []⟩ (saH 1 ⟨false, 0, 0, []⟩ (saH 2 ⟨false, 0, 0, []⟩ []))) 10 ([false, true] ++ [false, false, true] ++ [false])) =
Res.ok
  ((Xt.ret, (134 : Nat), [((6 : Nat), Value.bool true)], [], (60 : Nat), [], []), [],
    [(0 : Nat) = (0 : Nat), (0 : Nat) = (0 : Nat), Ints IntKind.u64 [], ([] : List Value) = [], (0 : Nat) = (0 : Nat),
      rg IntKind.i64 (0 : Int), false = false, bkC Try.prog (9 : Nat) = bkC Try.prog (9 : Nat),
      [((1 : Nat), Value.slice none (0 : Nat) (0 : Nat)), ((2 : Nat), Value.slice none (0 : Nat) (0 : Nat)),
          ((7 : Nat), Value.bool true)] =
        bk12 (Sa.mk false (0 : Nat) (0 : Nat) []) (Sa.mk false (0 : Nat) (0 : Nat) []),
      (3 : Nat) ≤ (10 : Nat) ∧ (10 : Nat) ≤ (20 : Nat),
      rowAt
        (rowsN (10 : Nat) []
          (rowsN (10 : Nat) []
            (rowsN (10 : Nat) []
              (saH (0 : Nat) (Sa.mk false (0 : Nat) (0 : Nat) [])
                (saH (1 : Nat) (Sa.mk false (0 : Nat) (0 : Nat) [])
                  (saH (2 : Nat) (Sa.mk false (0 : Nat) (0 : Nat) []) []))))))
        (1 : Nat) (Sa.mk false (0 : Nat) (0 : Nat) []),
      rowAt
        (rowsN (10 : Nat) []
          (rowsN (10 : Nat) []
            (rowsN (10 : Nat) []
              (saH (0 : Nat) (Sa.mk false (0 : Nat) (0 : Nat) [])
                (saH (1 : Nat) (Sa.mk false (0 : Nat) (0 : Nat) [])
                  (saH (2 : Nat) (Sa.mk false (0 : Nat) (0 : Nat) []) []))))))
        (2 : Nat) (Sa.mk false (0 : Nat) (0 : Nat) []),
      SaOk (Ints IntKind.i64) (3 : Nat) (80 : Nat) (Sa.mk false (0 : Nat) (0 : Nat) []),
      SaOk Byts (1 : Nat) (1000 : Nat) (Sa.mk false (0 : Nat) (0 : Nat) [])]) := by kernel_rfl
theorem bk4_n01 (inr : Bool) (xs2 : List Value) (n2 c2 : Nat) : prjZ [6] (codeZ (bkV (bk9L Try.prog)) Try.prog (runZ (bkV (bk9L Try.prog)) Try.prog 5) 7 inr 100000 (bkC Try.prog 4) (SL 134 (bk012 ⟨false, 0, 0, []⟩ ⟨false, 0, 0, []⟩ ⟨true, n2, c2, xs2⟩)) (saH 0 ⟨false, 0, 0, []⟩ (saH 1 ⟨false, 0, 0, []⟩ (saH 2 ⟨true, n2, c2, xs2⟩ []))) 10 ([false, true] ++ [false, false, true] ++ [false])) =
Res.ok
  ((Xt.ret, (134 : Nat), [((6 : Nat), Value.bool true)], [((2 : Nat), Rw.mk Kd.old xs2)], (60 : Nat), [], []), [],
    [(0 : Nat) = (0 : Nat), (0 : Nat) = (0 : Nat), Ints IntKind.u64 [], ([] : List Value) = [], (0 : Nat) = (0 : Nat),
      rg IntKind.i64 (0 : Int), false = false, bkC Try.prog (9 : Nat) = bkC Try.prog (9 : Nat),
      [((1 : Nat), Value.slice none (0 : Nat) (0 : Nat)),
          ((2 : Nat), Value.slice (some (Addr.mk (2 : Nat) (0 : Nat) none)) n2 c2), ((7 : Nat), Value.bool true)] =
        bk12 (Sa.mk false (0 : Nat) (0 : Nat) []) (Sa.mk true n2 c2 xs2),
      (3 : Nat) ≤ (10 : Nat) ∧ (10 : Nat) ≤ (20 : Nat),
      rowAt
        (rowsN (10 : Nat) []
          (rowsN (10 : Nat) []
            (rowsN (10 : Nat) []
              (saH (0 : Nat) (Sa.mk false (0 : Nat) (0 : Nat) [])
                (saH (1 : Nat) (Sa.mk false (0 : Nat) (0 : Nat) []) (saH (2 : Nat) (Sa.mk true n2 c2 xs2) []))))))
        (1 : Nat) (Sa.mk false (0 : Nat) (0 : Nat) []),
      rowAt
        (rowsN (10 : Nat) []
          (rowsN (10 : Nat) []
            (rowsN (10 : Nat) []
              (saH (0 : Nat) (Sa.mk false (0 : Nat) (0 : Nat) [])
                (saH (1 : Nat) (Sa.mk false (0 : Nat) (0 : Nat) []) (saH (2 : Nat) (Sa.mk true n2 c2 xs2) []))))))
        (2 : Nat) (Sa.mk true n2 c2 xs2),
      SaOk (Ints IntKind.i64) (3 : Nat) (80 : Nat) (Sa.mk false (0 : Nat) (0 : Nat) []),
      SaOk Byts (1 : Nat) (1000 : Nat) (Sa.mk true n2 c2 xs2)]) := by kernel_rfl
theorem bk4_n10 (inr : Bool) (xs1 : List Value) (n1 c1 : Nat) : prjZ [6] (codeZ (bkV (bk9L Try.prog)) Try.prog (runZ (bkV (bk9L Try.prog)) Try.prog 5) 7 inr 100000 (bkC Try.prog 4) (SL 134 (bk012 ⟨false, 0, 0, []⟩ ⟨true, n1, c1, xs1⟩ ⟨false, 0, 0, []⟩)) (saH 0 ⟨false, 0, 0, []⟩ (saH 1 ⟨true, n1, c1, xs1⟩ (saH 2 ⟨false, 0, 0, []⟩ []))) 10 ([false, true] ++ [false, false, true] ++ [false])) =
Res.ok
  ((Xt.ret, (134 : Nat), [((6 : Nat), Value.bool true)], [((1 : Nat), Rw.mk Kd.old xs1)], (60 : Nat), [], []), [],
    [(0 : Nat) = (0 : Nat), (0 : Nat) = (0 : Nat), Ints IntKind.u64 [], ([] : List Value) = [], (0 : Nat) = (0 : Nat),
      rg IntKind.i64 (0 : Int), false = false, bkC Try.prog (9 : Nat) = bkC Try.prog (9 : Nat),
      [((1 : Nat), Value.slice (some (Addr.mk (1 : Nat) (0 : Nat) none)) n1 c1),
          ((2 : Nat), Value.slice none (0 : Nat) (0 : Nat)), ((7 : Nat), Value.bool true)] =
        bk12 (Sa.mk true n1 c1 xs1) (Sa.mk false (0 : Nat) (0 : Nat) []),
      (3 : Nat) ≤ (10 : Nat) ∧ (10 : Nat) ≤ (20 : Nat),
      rowAt
        (rowsN (10 : Nat) []
          (rowsN (10 : Nat) []
            (rowsN (10 : Nat) []
              (saH (0 : Nat) (Sa.mk false (0 : Nat) (0 : Nat) [])
                (saH (1 : Nat) (Sa.mk true n1 c1 xs1) (saH (2 : Nat) (Sa.mk false (0 : Nat) (0 : Nat) []) []))))))
        (1 : Nat) (Sa.mk true n1 c1 xs1),
      rowAt
        (rowsN (10 : Nat) []
          (rowsN (10 : Nat) []
            (rowsN (10 : Nat) []
              (saH (0 : Nat) (Sa.mk false (0 : Nat) (0 : Nat) [])
                (saH (1 : Nat) (Sa.mk true n1 c1 xs1) (saH (2 : Nat) (Sa.mk false (0 : Nat) (0 : Nat) []) []))))))
        (2 : Nat) (Sa.mk false (0 : Nat) (0 : Nat) []),
      SaOk (Ints IntKind.i64) (3 : Nat) (80 : Nat) (Sa.mk true n1 c1 xs1),
      SaOk Byts (1 : Nat) (1000 : Nat) (Sa.mk false (0 : Nat) (0 : Nat) [])]) := by kernel_rfl
theorem bk4_n11 (inr : Bool) (xs1 : List Value) (n1 c1 : Nat) (xs2 : List Value) (n2 c2 : Nat) : prjZ [6] (codeZ (bkV (bk9L Try.prog)) Try.prog (runZ (bkV (bk9L Try.prog)) Try.prog 5) 7 inr 100000 (bkC Try.prog 4) (SL 134 (bk012 ⟨false, 0, 0, []⟩ ⟨true, n1, c1, xs1⟩ ⟨true, n2, c2, xs2⟩)) (saH 0 ⟨false, 0, 0, []⟩ (saH 1 ⟨true, n1, c1, xs1⟩ (saH 2 ⟨true, n2, c2, xs2⟩ []))) 10 ([false, true] ++ [false, false, true] ++ [false])) =
Res.ok
  ((Xt.ret, (134 : Nat), [((6 : Nat), Value.bool true)], [((1 : Nat), Rw.mk Kd.old xs1), ((2 : Nat), Rw.mk Kd.old xs2)],
      (60 : Nat), [], []),
    [],
    [(0 : Nat) = (0 : Nat), (0 : Nat) = (0 : Nat), Ints IntKind.u64 [], ([] : List Value) = [], (0 : Nat) = (0 : Nat),
      rg IntKind.i64 (0 : Int), false = false, bkC Try.prog (9 : Nat) = bkC Try.prog (9 : Nat),
      [((1 : Nat), Value.slice (some (Addr.mk (1 : Nat) (0 : Nat) none)) n1 c1),
          ((2 : Nat), Value.slice (some (Addr.mk (2 : Nat) (0 : Nat) none)) n2 c2), ((7 : Nat), Value.bool true)] =
        bk12 (Sa.mk true n1 c1 xs1) (Sa.mk true n2 c2 xs2),
      (3 : Nat) ≤ (10 : Nat) ∧ (10 : Nat) ≤ (20 : Nat),
      rowAt
        (rowsN (10 : Nat) []
          (rowsN (10 : Nat) []
            (rowsN (10 : Nat) []
              (saH (0 : Nat) (Sa.mk false (0 : Nat) (0 : Nat) [])
                (saH (1 : Nat) (Sa.mk true n1 c1 xs1) (saH (2 : Nat) (Sa.mk true n2 c2 xs2) []))))))
        (1 : Nat) (Sa.mk true n1 c1 xs1),
      rowAt
        (rowsN (10 : Nat) []
          (rowsN (10 : Nat) []
            (rowsN (10 : Nat) []
              (saH (0 : Nat) (Sa.mk false (0 : Nat) (0 : Nat) [])
                (saH (1 : Nat) (Sa.mk true n1 c1 xs1) (saH (2 : Nat) (Sa.mk true n2 c2 xs2) []))))))
        (2 : Nat) (Sa.mk true n2 c2 xs2),
      SaOk (Ints IntKind.i64) (3 : Nat) (80 : Nat) (Sa.mk true n1 c1 xs1),
      SaOk Byts (1 : Nat) (1000 : Nat) (Sa.mk true n2 c2 xs2)]) := by kernel_rfl
theorem bk4_long00 (inr : Bool) (xs0 : List Value) (n0 c0 : Nat) : prjZ [6] (codeZ (bkV (bk9L Try.prog)) Try.prog (runZ (bkV (bk9L Try.prog)) Try.prog 5) 7 inr 100000 (bkC Try.prog 4) (SL 134 (bk012 ⟨true, n0, c0, xs0⟩ ⟨false, 0, 0, []⟩ ⟨false, 0, 0, []⟩)) (saH 0 ⟨true, n0, c0, xs0⟩ (saH 1 ⟨false, 0, 0, []⟩ (saH 2 ⟨false, 0, 0, []⟩ []))) 10 [true]) =
Res.ok
  ((Xt.ret, (134 : Nat), [((6 : Nat), Value.bool true)], [((0 : Nat), Rw.mk Kd.old xs0)], (60 : Nat), [], []), [],
    [n0 ≤ c0 ∧ c0 ≤ (9223372036854775807 : Nat), n0 * (2 : Nat) ≤ List.length xs0, Fl (List.take (n0 * (2 : Nat)) xs0),
      decide (avLen (Av.sl (List.take (n0 * (2 : Nat)) xs0) n0) ≤ (8 : Nat)) = false,
      bkC Try.prog (9 : Nat) = bkC Try.prog (9 : Nat),
      [((1 : Nat), Value.slice none (0 : Nat) (0 : Nat)), ((2 : Nat), Value.slice none (0 : Nat) (0 : Nat)),
          ((7 : Nat), Value.bool true)] =
        bk12 (Sa.mk false (0 : Nat) (0 : Nat) []) (Sa.mk false (0 : Nat) (0 : Nat) []),
      (3 : Nat) ≤ (10 : Nat) ∧ (10 : Nat) ≤ (20 : Nat),
      rowAt
        (rowsN (10 : Nat) []
          (saH (0 : Nat) (Sa.mk true n0 c0 xs0)
            (saH (1 : Nat) (Sa.mk false (0 : Nat) (0 : Nat) [])
              (saH (2 : Nat) (Sa.mk false (0 : Nat) (0 : Nat) []) []))))
        (1 : Nat) (Sa.mk false (0 : Nat) (0 : Nat) []),
      rowAt
        (rowsN (10 : Nat) []
          (saH (0 : Nat) (Sa.mk true n0 c0 xs0)
            (saH (1 : Nat) (Sa.mk false (0 : Nat) (0 : Nat) [])
              (saH (2 : Nat) (Sa.mk false (0 : Nat) (0 : Nat) []) []))))
        (2 : Nat) (Sa.mk false (0 : Nat) (0 : Nat) []),
      SaOk (Ints IntKind.i64) (3 : Nat) (80 : Nat) (Sa.mk false (0 : Nat) (0 : Nat) []),
      SaOk Byts (1 : Nat) (1000 : Nat) (Sa.mk false (0 : Nat) (0 : Nat) [])]) := by kernel_rfl
theorem bk4_long01 (inr : Bool) (xs0 : List Value) (n0 c0 : Nat) (xs2 : List Value) (n2 c2 : Nat) : prjZ [6] (codeZ (bkV (bk9L Try.prog)) Try.prog (runZ (bkV (bk9L Try.prog)) Try.prog 5) 7 inr 100000 (bkC Try.prog 4) (SL 134 (bk012 ⟨true, n0, c0, xs0⟩ ⟨false, 0, 0, []⟩ ⟨true, n2, c2, xs2⟩)) (saH 0 ⟨true, n0, c0, xs0⟩ (saH 1 ⟨false, 0, 0, []⟩ (saH 2 ⟨true, n2, c2, xs2⟩ []))) 10 [true]) =
Res.ok
  ((Xt.ret, (134 : Nat), [((6 : Nat), Value.bool true)], [((0 : Nat), Rw.mk Kd.old xs0), ((2 : Nat), Rw.mk Kd.old xs2)],
      (60 : Nat), [], []),
    [],
    [n0 ≤ c0 ∧ c0 ≤ (9223372036854775807 : Nat), n0 * (2 : Nat) ≤ List.length xs0, Fl (List.take (n0 * (2 : Nat)) xs0),
      decide (avLen (Av.sl (List.take (n0 * (2 : Nat)) xs0) n0) ≤ (8 : Nat)) = false,
      bkC Try.prog (9 : Nat) = bkC Try.prog (9 : Nat),
      [((1 : Nat), Value.slice none (0 : Nat) (0 : Nat)),
          ((2 : Nat), Value.slice (some (Addr.mk (2 : Nat) (0 : Nat) none)) n2 c2), ((7 : Nat), Value.bool true)] =
        bk12 (Sa.mk false (0 : Nat) (0 : Nat) []) (Sa.mk true n2 c2 xs2),
      (3 : Nat) ≤ (10 : Nat) ∧ (10 : Nat) ≤ (20 : Nat),
      rowAt
        (rowsN (10 : Nat) []
          (saH (0 : Nat) (Sa.mk true n0 c0 xs0)
            (saH (1 : Nat) (Sa.mk false (0 : Nat) (0 : Nat) []) (saH (2 : Nat) (Sa.mk true n2 c2 xs2) []))))
        (1 : Nat) (Sa.mk false (0 : Nat) (0 : Nat) []),
      rowAt
        (rowsN (10 : Nat) []
          (saH (0 : Nat) (Sa.mk true n0 c0 xs0)
            (saH (1 : Nat) (Sa.mk false (0 : Nat) (0 : Nat) []) (saH (2 : Nat) (Sa.mk true n2 c2 xs2) []))))
        (2 : Nat) (Sa.mk true n2 c2 xs2),
      SaOk (Ints IntKind.i64) (3 : Nat) (80 : Nat) (Sa.mk false (0 : Nat) (0 : Nat) []),
      SaOk Byts (1 : Nat) (1000 : Nat) (Sa.mk true n2 c2 xs2)]) := by kernel_rfl
theorem bk4_long10 (inr : Bool) (xs0 : List Value) (n0 c0 : Nat) (xs1 : List Value) (n1 c1 : Nat) : prjZ [6] (codeZ (bkV (bk9L Try.prog)) Try.prog (runZ (bkV (bk9L Try.prog)) Try.prog 5) 7 inr 100000 (bkC Try.prog 4) (SL 134 (bk012 ⟨true, n0, c0, xs0⟩ ⟨true, n1, c1, xs1⟩ ⟨false, 0, 0, []⟩)) (saH 0 ⟨true, n0, c0, xs0⟩ (saH 1 ⟨true, n1, c1, xs1⟩ (saH 2 ⟨false, 0, 0, []⟩ []))) 10 [true]) =
Res.ok
  ((Xt.ret, (134 : Nat), [((6 : Nat), Value.bool true)], [((0 : Nat), Rw.mk Kd.old xs0), ((1 : Nat), Rw.mk Kd.old xs1)],
      (60 : Nat), [], []),
    [],
    [n0 ≤ c0 ∧ c0 ≤ (9223372036854775807 : Nat), n0 * (2 : Nat) ≤ List.length xs0, Fl (List.take (n0 * (2 : Nat)) xs0),
      decide (avLen (Av.sl (List.take (n0 * (2 : Nat)) xs0) n0) ≤ (8 : Nat)) = false,
      bkC Try.prog (9 : Nat) = bkC Try.prog (9 : Nat),
      [((1 : Nat), Value.slice (some (Addr.mk (1 : Nat) (0 : Nat) none)) n1 c1),
          ((2 : Nat), Value.slice none (0 : Nat) (0 : Nat)), ((7 : Nat), Value.bool true)] =
        bk12 (Sa.mk true n1 c1 xs1) (Sa.mk false (0 : Nat) (0 : Nat) []),
      (3 : Nat) ≤ (10 : Nat) ∧ (10 : Nat) ≤ (20 : Nat),
      rowAt
        (rowsN (10 : Nat) []
          (saH (0 : Nat) (Sa.mk true n0 c0 xs0)
            (saH (1 : Nat) (Sa.mk true n1 c1 xs1) (saH (2 : Nat) (Sa.mk false (0 : Nat) (0 : Nat) []) []))))
        (1 : Nat) (Sa.mk true n1 c1 xs1),
      rowAt
        (rowsN (10 : Nat) []
          (saH (0 : Nat) (Sa.mk true n0 c0 xs0)
            (saH (1 : Nat) (Sa.mk true n1 c1 xs1) (saH (2 : Nat) (Sa.mk false (0 : Nat) (0 : Nat) []) []))))
        (2 : Nat) (Sa.mk false (0 : Nat) (0 : Nat) []),
      SaOk (Ints IntKind.i64) (3 : Nat) (80 : Nat) (Sa.mk true n1 c1 xs1),
      SaOk Byts (1 : Nat) (1000 : Nat) (Sa.mk false (0 : Nat) (0 : Nat) [])]) := by kernel_rfl
theorem bk4_long11 (inr : Bool) (xs0 : List Value) (n0 c0 : Nat) (xs1 : List Value) (n1 c1 : Nat) (xs2 : List Value) (n2 c2 : Nat) : prjZ [6] (codeZ (bkV (bk9L Try.prog)) Try.prog (runZ (bkV (bk9L Try.prog)) Try.prog 5) 7 inr 100000 (bkC Try.prog 4) (SL 134 (bk012 ⟨true, n0, c0, xs0⟩ ⟨true, n1, c1, xs1⟩ ⟨true, n2, c2, xs2⟩)) (saH 0 ⟨true, n0, c0, xs0⟩ (saH 1 ⟨true, n1, c1, xs1⟩ (saH 2 ⟨true, n2, c2, xs2⟩ []))) 10 [true]) =
Res.ok
  ((Xt.ret, (134 : Nat), [((6 : Nat), Value.bool true)],
      [((0 : Nat), Rw.mk Kd.old xs0), ((1 : Nat), Rw.mk Kd.old xs1), ((2 : Nat), Rw.mk Kd.old xs2)], (60 : Nat), [],
      []),
    [],
    [n0 ≤ c0 ∧ c0 ≤ (9223372036854775807 : Nat), n0 * (2 : Nat) ≤ List.length xs0, Fl (List.take (n0 * (2 : Nat)) xs0),
      decide (avLen (Av.sl (List.take (n0 * (2 : Nat)) xs0) n0) ≤ (8 : Nat)) = false,
      bkC Try.prog (9 : Nat) = bkC Try.prog (9 : Nat),
      [((1 : Nat), Value.slice (some (Addr.mk (1 : Nat) (0 : Nat) none)) n1 c1),
          ((2 : Nat), Value.slice (some (Addr.mk (2 : Nat) (0 : Nat) none)) n2 c2), ((7 : Nat), Value.bool true)] =
        bk12 (Sa.mk true n1 c1 xs1) (Sa.mk true n2 c2 xs2),
      (3 : Nat) ≤ (10 : Nat) ∧ (10 : Nat) ≤ (20 : Nat),
      rowAt
        (rowsN (10 : Nat) []
          (saH (0 : Nat) (Sa.mk true n0 c0 xs0)
            (saH (1 : Nat) (Sa.mk true n1 c1 xs1) (saH (2 : Nat) (Sa.mk true n2 c2 xs2) []))))
        (1 : Nat) (Sa.mk true n1 c1 xs1),
      rowAt
        (rowsN (10 : Nat) []
          (saH (0 : Nat) (Sa.mk true n0 c0 xs0)
            (saH (1 : Nat) (Sa.mk true n1 c1 xs1) (saH (2 : Nat) (Sa.mk true n2 c2 xs2) []))))
        (2 : Nat) (Sa.mk true n2 c2 xs2),
      SaOk (Ints IntKind.i64) (3 : Nat) (80 : Nat) (Sa.mk true n1 c1 xs1),
      SaOk Byts (1 : Nat) (1000 : Nat) (Sa.mk true n2 c2 xs2)]) := by kernel_rfl
theorem bk4_nil00 (inr : Bool) (xs0 : List Value) (n0 c0 : Nat) : prjZ [6] (codeZ (bkV (bk9L Try.prog)) Try.prog (runZ (bkV (bk9L Try.prog)) Try.prog 5) 7 inr 100000 (bkC Try.prog 4) (SL 134 (bk012 ⟨true, n0, c0, xs0⟩ ⟨false, 0, 0, []⟩ ⟨false, 0, 0, []⟩)) (saH 0 ⟨true, n0, c0, xs0⟩ (saH 1 ⟨false, 0, 0, []⟩ (saH 2 ⟨false, 0, 0, []⟩ []))) 10 ([false, true] ++ [false, false, true] ++ [false])) =
Res.ok
  ((Xt.ret, (134 : Nat), [((6 : Nat), Value.bool true)], [((0 : Nat), Rw.mk Kd.old xs0)], (60 : Nat), [], []), [],
    [n0 ≤ c0 ∧ c0 ≤ (9223372036854775807 : Nat), n0 * (2 : Nat) ≤ List.length xs0, Fl (List.take (n0 * (2 : Nat)) xs0),
      avLen (Av.sl (List.take (n0 * (2 : Nat)) xs0) n0) = (0 : Nat), (0 : Nat) = (0 : Nat),
      n0 ≤ c0 ∧ c0 ≤ (9223372036854775807 : Nat), n0 * (2 : Nat) ≤ List.length xs0, Fl (List.take (n0 * (2 : Nat)) xs0),
      Ints IntKind.u64 [], List.take (n0 * (2 : Nat)) xs0 = [],
      avLen (Av.sl (List.take (n0 * (2 : Nat)) xs0) n0) = (0 : Nat), rg IntKind.i64 (↑((16 : Nat) * n0) : Int),
      ((0 : Int) != (↑((16 : Nat) * n0) : Int)) = false, bkC Try.prog (9 : Nat) = bkC Try.prog (9 : Nat),
      [((1 : Nat), Value.slice none (0 : Nat) (0 : Nat)), ((2 : Nat), Value.slice none (0 : Nat) (0 : Nat)),
          ((7 : Nat), Value.bool true)] =
        bk12 (Sa.mk false (0 : Nat) (0 : Nat) []) (Sa.mk false (0 : Nat) (0 : Nat) []),
      (3 : Nat) ≤ (10 : Nat) ∧ (10 : Nat) ≤ (20 : Nat),
      rowAt
        (rowsN (10 : Nat) []
          (rowsN (10 : Nat) []
            (rowsN (10 : Nat) []
              (saH (0 : Nat) (Sa.mk true n0 c0 xs0)
                (saH (1 : Nat) (Sa.mk false (0 : Nat) (0 : Nat) [])
                  (saH (2 : Nat) (Sa.mk false (0 : Nat) (0 : Nat) []) []))))))
        (1 : Nat) (Sa.mk false (0 : Nat) (0 : Nat) []),
      rowAt
        (rowsN (10 : Nat) []
          (rowsN (10 : Nat) []
            (rowsN (10 : Nat) []
              (saH (0 : Nat) (Sa.mk true n0 c0 xs0)
                (saH (1 : Nat) (Sa.mk false (0 : Nat) (0 : Nat) [])
                  (saH (2 : Nat) (Sa.mk false (0 : Nat) (0 : Nat) []) []))))))
        (2 : Nat) (Sa.mk false (0 : Nat) (0 : Nat) []),
      SaOk (Ints IntKind.i64) (3 : Nat) (80 : Nat) (Sa.mk false (0 : Nat) (0 : Nat) []),
      SaOk Byts (1 : Nat) (1000 : Nat) (Sa.mk false (0 : Nat) (0 : Nat) [])]) := by kernel_rfl
theorem bk4_nil01 (inr : Bool) (xs0 : List Value) (n0 c0 : Nat) (xs2 : List Value) (n2 c2 : Nat) : prjZ [6] (codeZ (bkV (bk9L Try.prog)) Try.prog (runZ (bkV (bk9L Try.prog)) Try.prog 5) 7 inr 100000 (bkC Try.prog 4) (SL 134 (bk012 ⟨true, n0, c0, xs0⟩ ⟨false, 0, 0, []⟩ ⟨true, n2, c2, xs2⟩)) (saH 0 ⟨true, n0, c0, xs0⟩ (saH 1 ⟨false, 0, 0, []⟩ (saH 2 ⟨true, n2, c2, xs2⟩ []))) 10 ([false, true] ++ [false, false, true] ++ [false])) =
Res.ok
  ((Xt.ret, (134 : Nat), [((6 : Nat), Value.bool true)], [((0 : Nat), Rw.mk Kd.old xs0), ((2 : Nat), Rw.mk Kd.old xs2)],
      (60 : Nat), [], []),
    [],
    [n0 ≤ c0 ∧ c0 ≤ (9223372036854775807 : Nat), n0 * (2 : Nat) ≤ List.length xs0, Fl (List.take (n0 * (2 : Nat)) xs0),
      avLen (Av.sl (List.take (n0 * (2 : Nat)) xs0) n0) = (0 : Nat), (0 : Nat) = (0 : Nat),
      n0 ≤ c0 ∧ c0 ≤ (9223372036854775807 : Nat), n0 * (2 : Nat) ≤ List.length xs0, Fl (List.take (n0 * (2 : Nat)) xs0),
      Ints IntKind.u64 [], List.take (n0 * (2 : Nat)) xs0 = [],
      avLen (Av.sl (List.take (n0 * (2 : Nat)) xs0) n0) = (0 : Nat), rg IntKind.i64 (↑((16 : Nat) * n0) : Int),
      ((0 : Int) != (↑((16 : Nat) * n0) : Int)) = false, bkC Try.prog (9 : Nat) = bkC Try.prog (9 : Nat),
      [((1 : Nat), Value.slice none (0 : Nat) (0 : Nat)),
          ((2 : Nat), Value.slice (some (Addr.mk (2 : Nat) (0 : Nat) none)) n2 c2), ((7 : Nat), Value.bool true)] =
        bk12 (Sa.mk false (0 : Nat) (0 : Nat) []) (Sa.mk true n2 c2 xs2),
      (3 : Nat) ≤ (10 : Nat) ∧ (10 : Nat) ≤ (20 : Nat),
      rowAt
        (rowsN (10 : Nat) []
          (rowsN (10 : Nat) []
            (rowsN (10 : Nat) []
              (saH (0 : Nat) (Sa.mk true n0 c0 xs0)
                (saH (1 : Nat) (Sa.mk false (0 : Nat) (0 : Nat) []) (saH (2 : Nat) (Sa.mk true n2 c2 xs2) []))))))
        (1 : Nat) (Sa.mk false (0 : Nat) (0 : Nat) []),
      rowAt
        (rowsN (10 : Nat) []
          (rowsN (10 : Nat) []
            (rowsN (10 : Nat) []
              (saH (0 : Nat) (Sa.mk true n0 c0 xs0)
                (saH (1 : Nat) (Sa.mk false (0 : Nat) (0 : Nat) []) (saH (2 : Nat) (Sa.mk true n2 c2 xs2) []))))))
        (2 : Nat) (Sa.mk true n2 c2 xs2),
      SaOk (Ints IntKind.i64) (3 : Nat) (80 : Nat) (Sa.mk false (0 : Nat) (0 : Nat) []),
      SaOk Byts (1 : Nat) (1000 : Nat) (Sa.mk true n2 c2 xs2)]) := by kernel_rfl
theorem bk4_nil10 (inr : Bool) (xs0 : List Value) (n0 c0 : Nat) (xs1 : List Value) (n1 c1 : Nat) : prjZ [6] (codeZ (bkV (bk9L Try.prog)) Try.prog (runZ (bkV (bk9L Try.prog)) Try.prog 5) 7 inr 100000 (bkC Try.prog 4) (SL 134 (bk012 ⟨true, n0, c0, xs0⟩ ⟨true, n1, c1, xs1⟩ ⟨false, 0, 0, []⟩)) (saH 0 ⟨true, n0, c0, xs0⟩ (saH 1 ⟨true, n1, c1, xs1⟩ (saH 2 ⟨false, 0, 0, []⟩ []))) 10 ([false, true] ++ [false, false, true] ++ [false])) =
Res.ok
  ((Xt.ret, (134 : Nat), [((6 : Nat), Value.bool true)], [((0 : Nat), Rw.mk Kd.old xs0), ((1 : Nat), Rw.mk Kd.old xs1)],
      (60 : Nat), [], []),
    [],
    [n0 ≤ c0 ∧ c0 ≤ (9223372036854775807 : Nat), n0 * (2 : Nat) ≤ List.length xs0, Fl (List.take (n0 * (2 : Nat)) xs0),
      avLen (Av.sl (List.take (n0 * (2 : Nat)) xs0) n0) = (0 : Nat), (0 : Nat) = (0 : Nat),
      n0 ≤ c0 ∧ c0 ≤ (9223372036854775807 : Nat), n0 * (2 : Nat) ≤ List.length xs0, Fl (List.take (n0 * (2 : Nat)) xs0),
      Ints IntKind.u64 [], List.take (n0 * (2 : Nat)) xs0 = [],
      avLen (Av.sl (List.take (n0 * (2 : Nat)) xs0) n0) = (0 : Nat), rg IntKind.i64 (↑((16 : Nat) * n0) : Int),
      ((0 : Int) != (↑((16 : Nat) * n0) : Int)) = false, bkC Try.prog (9 : Nat) = bkC Try.prog (9 : Nat),
      [((1 : Nat), Value.slice (some (Addr.mk (1 : Nat) (0 : Nat) none)) n1 c1),
          ((2 : Nat), Value.slice none (0 : Nat) (0 : Nat)), ((7 : Nat), Value.bool true)] =
        bk12 (Sa.mk true n1 c1 xs1) (Sa.mk false (0 : Nat) (0 : Nat) []),
      (3 : Nat) ≤ (10 : Nat) ∧ (10 : Nat) ≤ (20 : Nat),
      rowAt
        (rowsN (10 : Nat) []
          (rowsN (10 : Nat) []
            (rowsN (10 : Nat) []
              (saH (0 : Nat) (Sa.mk true n0 c0 xs0)
                (saH (1 : Nat) (Sa.mk true n1 c1 xs1) (saH (2 : Nat) (Sa.mk false (0 : Nat) (0 : Nat) []) []))))))
        (1 : Nat) (Sa.mk true n1 c1 xs1),
      rowAt
        (rowsN (10 : Nat) []
          (rowsN (10 : Nat) []
            (rowsN (10 : Nat) []
              (saH (0 : Nat) (Sa.mk true n0 c0 xs0)
                (saH (1 : Nat) (Sa.mk true n1 c1 xs1) (saH (2 : Nat) (Sa.mk false (0 : Nat) (0 : Nat) []) []))))))
        (2 : Nat) (Sa.mk false (0 : Nat) (0 : Nat) []),
      SaOk (Ints IntKind.i64) (3 : Nat) (80 : Nat) (Sa.mk true n1 c1 xs1),
      SaOk Byts (1 : Nat) (1000 : Nat) (Sa.mk false (0 : Nat) (0 : Nat) [])]) := by kernel_rfl
theorem bk4_nil11 (inr : Bool) (xs0 : List Value) (n0 c0 : Nat) (xs1 : List Value) (n1 c1 : Nat) (xs2 : List Value) (n2 c2 : Nat) : prjZ [6] (codeZ (bkV (bk9L Try.prog)) Try.prog (runZ (bkV (bk9L Try.prog)) Try.prog 5) 7 inr 100000 (bkC Try.prog 4) (SL 134 (bk012 ⟨true, n0, c0, xs0⟩ ⟨true, n1, c1, xs1⟩ ⟨true, n2, c2, xs2⟩)) (saH 0 ⟨true, n0, c0, xs0⟩ (saH 1 ⟨true, n1, c1, xs1⟩ (saH 2 ⟨true, n2, c2, xs2⟩ []))) 10 ([false, true] ++ [false, false, true] ++ [false])) =
Res.ok
  ((Xt.ret, (134 : Nat), [((6 : Nat), Value.bool true)],
      [((0 : Nat), Rw.mk Kd.old xs0), ((1 : Nat), Rw.mk Kd.old xs1), ((2 : Nat), Rw.mk Kd.old xs2)], (60 : Nat), [],
      []),
    [],
    [n0 ≤ c0 ∧ c0 ≤ (9223372036854775807 : Nat), n0 * (2 : Nat) ≤ List.length xs0, Fl (List.take (n0 * (2 : Nat)) xs0),
      avLen (Av.sl (List.take (n0 * (2 : Nat)) xs0) n0) = (0 : Nat), (0 : Nat) = (0 : Nat),
      n0 ≤ c0 ∧ c0 ≤ (9223372036854775807 : Nat), n0 * (2 : Nat) ≤ List.length xs0, Fl (List.take (n0 * (2 : Nat)) xs0),
      Ints IntKind.u64 [], List.take (n0 * (2 : Nat)) xs0 = [],
      avLen (Av.sl (List.take (n0 * (2 : Nat)) xs0) n0) = (0 : Nat), rg IntKind.i64 (↑((16 : Nat) * n0) : Int),
      ((0 : Int) != (↑((16 : Nat) * n0) : Int)) = false, bkC Try.prog (9 : Nat) = bkC Try.prog (9 : Nat),
      [((1 : Nat), Value.slice (some (Addr.mk (1 : Nat) (0 : Nat) none)) n1 c1),
          ((2 : Nat), Value.slice (some (Addr.mk (2 : Nat) (0 : Nat) none)) n2 c2), ((7 : Nat), Value.bool true)] =
        bk12 (Sa.mk true n1 c1 xs1) (Sa.mk true n2 c2 xs2),
      (3 : Nat) ≤ (10 : Nat) ∧ (10 : Nat) ≤ (20 : Nat),
      rowAt
        (rowsN (10 : Nat) []
          (rowsN (10 : Nat) []
            (rowsN (10 : Nat) []
              (saH (0 : Nat) (Sa.mk true n0 c0 xs0)
                (saH (1 : Nat) (Sa.mk true n1 c1 xs1) (saH (2 : Nat) (Sa.mk true n2 c2 xs2) []))))))
        (1 : Nat) (Sa.mk true n1 c1 xs1),
      rowAt
        (rowsN (10 : Nat) []
          (rowsN (10 : Nat) []
            (rowsN (10 : Nat) []
              (saH (0 : Nat) (Sa.mk true n0 c0 xs0)
                (saH (1 : Nat) (Sa.mk true n1 c1 xs1) (saH (2 : Nat) (Sa.mk true n2 c2 xs2) []))))))
        (2 : Nat) (Sa.mk true n2 c2 xs2),
      SaOk (Ints IntKind.i64) (3 : Nat) (80 : Nat) (Sa.mk true n1 c1 xs1),
      SaOk Byts (1 : Nat) (1000 : Nat) (Sa.mk true n2 c2 xs2)]) := by kernel_rfl
theorem bk4_ok00 (inr : Bool) (xs0 : List Value) (n0 c0 : Nat) : prjZ [6] (codeZ (bkV (bk9L Try.prog)) Try.prog (runZ (bkV (bk9L Try.prog)) Try.prog 5) 7 inr 100000 (bkC Try.prog 4) (SL 134 (bk012 ⟨true, n0, c0, xs0⟩ ⟨false, 0, 0, []⟩ ⟨false, 0, 0, []⟩)) (saH 0 ⟨true, n0, c0, xs0⟩ (saH 1 ⟨false, 0, 0, []⟩ (saH 2 ⟨false, 0, 0, []⟩ []))) 10 ([false, false] ++ [false, false, false] ++ [false])) =
Res.ok
  ((Xt.ret, (134 : Nat), [((6 : Nat), Value.bool true)], [((0 : Nat), Rw.mk Kd.old xs0)], (60 : Nat),
      [(11 : Nat), (10 : Nat)], []),
    [],
    [n0 ≤ c0 ∧ c0 ≤ (9223372036854775807 : Nat), n0 * (2 : Nat) ≤ List.length xs0, Fl (List.take (n0 * (2 : Nat)) xs0),
      Ints IntKind.u64 (List.take (n0 * (2 : Nat)) xs0), avLen (Av.sl (List.take (n0 * (2 : Nat)) xs0) n0) ≤ (8 : Nat),
      decide (avLen (Av.sl (List.take (n0 * (2 : Nat)) xs0) n0) = (0 : Nat)) = false,
      capBig + (10 : Nat) = capBig + (10 : Nat),
      avLen (Av.sl (List.take (n0 * (2 : Nat)) xs0) n0) * (16 : Nat) ≤
        List.length
          (oiL (List.take (n0 * (2 : Nat)) xs0) (0 : Nat) (avLen (Av.sl (List.take (n0 * (2 : Nat)) xs0) n0))),
      (0 : Nat) < (1 : Nat),
      avLen (Av.sl (List.take (n0 * (2 : Nat)) xs0) n0) * (16 : Nat) ≤
        List.length
          (oiL (List.take (n0 * (2 : Nat)) xs0) (0 : Nat) (avLen (Av.sl (List.take (n0 * (2 : Nat)) xs0) n0))),
      Fl
        (List.take (avLen (Av.sl (List.take (n0 * (2 : Nat)) xs0) n0) * (16 : Nat))
          (oiL (List.take (n0 * (2 : Nat)) xs0) (0 : Nat) (avLen (Av.sl (List.take (n0 * (2 : Nat)) xs0) n0)))),
      Byts
        (List.take (avLen (Av.sl (List.take (n0 * (2 : Nat)) xs0) n0) * (16 : Nat))
          (oiL (List.take (n0 * (2 : Nat)) xs0) (0 : Nat) (avLen (Av.sl (List.take (n0 * (2 : Nat)) xs0) n0)))),
      avLen
            (Av.sl
              (List.take (avLen (Av.sl (List.take (n0 * (2 : Nat)) xs0) n0) * (16 : Nat))
                (oiL (List.take (n0 * (2 : Nat)) xs0) (0 : Nat) (avLen (Av.sl (List.take (n0 * (2 : Nat)) xs0) n0))))
              (avLen (Av.sl (List.take (n0 * (2 : Nat)) xs0) n0) * (16 : Nat))) %
          (16 : Nat) =
        (0 : Nat),
      avLen
          (Av.sl
            (List.take (avLen (Av.sl (List.take (n0 * (2 : Nat)) xs0) n0) * (16 : Nat))
              (oiL (List.take (n0 * (2 : Nat)) xs0) (0 : Nat) (avLen (Av.sl (List.take (n0 * (2 : Nat)) xs0) n0))))
            (avLen (Av.sl (List.take (n0 * (2 : Nat)) xs0) n0) * (16 : Nat))) ≤
        (128 : Nat),
      decide
          (avLen
              (Av.sl
                (List.take (avLen (Av.sl (List.take (n0 * (2 : Nat)) xs0) n0) * (16 : Nat))
                  (oiL (List.take (n0 * (2 : Nat)) xs0) (0 : Nat) (avLen (Av.sl (List.take (n0 * (2 : Nat)) xs0) n0))))
                (avLen (Av.sl (List.take (n0 * (2 : Nat)) xs0) n0) * (16 : Nat))) =
            (0 : Nat)) =
        false,
      capBig + (11 : Nat) = capBig + (11 : Nat),
      avLen
              (Av.sl
                (List.take (avLen (Av.sl (List.take (n0 * (2 : Nat)) xs0) n0) * (16 : Nat))
                  (oiL (List.take (n0 * (2 : Nat)) xs0) (0 : Nat) (avLen (Av.sl (List.take (n0 * (2 : Nat)) xs0) n0))))
                (avLen (Av.sl (List.take (n0 * (2 : Nat)) xs0) n0) * (16 : Nat))) /
            (16 : Nat) *
          (2 : Nat) ≤
        List.length
          (idL
            (List.take (avLen (Av.sl (List.take (n0 * (2 : Nat)) xs0) n0) * (16 : Nat))
              (oiL (List.take (n0 * (2 : Nat)) xs0) (0 : Nat) (avLen (Av.sl (List.take (n0 * (2 : Nat)) xs0) n0))))
            (0 : Nat)
            (avLen
                (Av.sl
                  (List.take (avLen (Av.sl (List.take (n0 * (2 : Nat)) xs0) n0) * (16 : Nat))
                    (oiL (List.take (n0 * (2 : Nat)) xs0) (0 : Nat)
                      (avLen (Av.sl (List.take (n0 * (2 : Nat)) xs0) n0))))
                  (avLen (Av.sl (List.take (n0 * (2 : Nat)) xs0) n0) * (16 : Nat))) /
              (16 : Nat))),
      (0 : Nat) < (2 : Nat),
      avLen
              (Av.sl
                (List.take (avLen (Av.sl (List.take (n0 * (2 : Nat)) xs0) n0) * (16 : Nat))
                  (oiL (List.take (n0 * (2 : Nat)) xs0) (0 : Nat) (avLen (Av.sl (List.take (n0 * (2 : Nat)) xs0) n0))))
                (avLen (Av.sl (List.take (n0 * (2 : Nat)) xs0) n0) * (16 : Nat))) /
            (16 : Nat) *
          (2 : Nat) ≤
        List.length
          (idL
            (List.take (avLen (Av.sl (List.take (n0 * (2 : Nat)) xs0) n0) * (16 : Nat))
              (oiL (List.take (n0 * (2 : Nat)) xs0) (0 : Nat) (avLen (Av.sl (List.take (n0 * (2 : Nat)) xs0) n0))))
            (0 : Nat)
            (avLen
                (Av.sl
                  (List.take (avLen (Av.sl (List.take (n0 * (2 : Nat)) xs0) n0) * (16 : Nat))
                    (oiL (List.take (n0 * (2 : Nat)) xs0) (0 : Nat)
                      (avLen (Av.sl (List.take (n0 * (2 : Nat)) xs0) n0))))
                  (avLen (Av.sl (List.take (n0 * (2 : Nat)) xs0) n0) * (16 : Nat))) /
              (16 : Nat))),
      Fl
        (List.take
          (avLen
                (Av.sl
                  (List.take (avLen (Av.sl (List.take (n0 * (2 : Nat)) xs0) n0) * (16 : Nat))
                    (oiL (List.take (n0 * (2 : Nat)) xs0) (0 : Nat)
                      (avLen (Av.sl (List.take (n0 * (2 : Nat)) xs0) n0))))
                  (avLen (Av.sl (List.take (n0 * (2 : Nat)) xs0) n0) * (16 : Nat))) /
              (16 : Nat) *
            (2 : Nat))
          (idL
            (List.take (avLen (Av.sl (List.take (n0 * (2 : Nat)) xs0) n0) * (16 : Nat))
              (oiL (List.take (n0 * (2 : Nat)) xs0) (0 : Nat) (avLen (Av.sl (List.take (n0 * (2 : Nat)) xs0) n0))))
            (0 : Nat)
            (avLen
                (Av.sl
                  (List.take (avLen (Av.sl (List.take (n0 * (2 : Nat)) xs0) n0) * (16 : Nat))
                    (oiL (List.take (n0 * (2 : Nat)) xs0) (0 : Nat)
                      (avLen (Av.sl (List.take (n0 * (2 : Nat)) xs0) n0))))
                  (avLen (Av.sl (List.take (n0 * (2 : Nat)) xs0) n0) * (16 : Nat))) /
              (16 : Nat)))),
      n0 ≤ c0 ∧ c0 ≤ (9223372036854775807 : Nat), n0 * (2 : Nat) ≤ List.length xs0, Fl (List.take (n0 * (2 : Nat)) xs0),
      Ints IntKind.u64
        (List.take
          (avLen
                (Av.sl
                  (List.take (avLen (Av.sl (List.take (n0 * (2 : Nat)) xs0) n0) * (16 : Nat))
                    (oiL (List.take (n0 * (2 : Nat)) xs0) (0 : Nat)
                      (avLen (Av.sl (List.take (n0 * (2 : Nat)) xs0) n0))))
                  (avLen (Av.sl (List.take (n0 * (2 : Nat)) xs0) n0) * (16 : Nat))) /
              (16 : Nat) *
            (2 : Nat))
          (idL
            (List.take (avLen (Av.sl (List.take (n0 * (2 : Nat)) xs0) n0) * (16 : Nat))
              (oiL (List.take (n0 * (2 : Nat)) xs0) (0 : Nat) (avLen (Av.sl (List.take (n0 * (2 : Nat)) xs0) n0))))
            (0 : Nat)
            (avLen
                (Av.sl
                  (List.take (avLen (Av.sl (List.take (n0 * (2 : Nat)) xs0) n0) * (16 : Nat))
                    (oiL (List.take (n0 * (2 : Nat)) xs0) (0 : Nat)
                      (avLen (Av.sl (List.take (n0 * (2 : Nat)) xs0) n0))))
                  (avLen (Av.sl (List.take (n0 * (2 : Nat)) xs0) n0) * (16 : Nat))) /
              (16 : Nat)))),
      List.take (n0 * (2 : Nat)) xs0 =
        List.take
          (avLen
                (Av.sl
                  (List.take (avLen (Av.sl (List.take (n0 * (2 : Nat)) xs0) n0) * (16 : Nat))
                    (oiL (List.take (n0 * (2 : Nat)) xs0) (0 : Nat)
                      (avLen (Av.sl (List.take (n0 * (2 : Nat)) xs0) n0))))
                  (avLen (Av.sl (List.take (n0 * (2 : Nat)) xs0) n0) * (16 : Nat))) /
              (16 : Nat) *
            (2 : Nat))
          (idL
            (List.take (avLen (Av.sl (List.take (n0 * (2 : Nat)) xs0) n0) * (16 : Nat))
              (oiL (List.take (n0 * (2 : Nat)) xs0) (0 : Nat) (avLen (Av.sl (List.take (n0 * (2 : Nat)) xs0) n0))))
            (0 : Nat)
            (avLen
                (Av.sl
                  (List.take (avLen (Av.sl (List.take (n0 * (2 : Nat)) xs0) n0) * (16 : Nat))
                    (oiL (List.take (n0 * (2 : Nat)) xs0) (0 : Nat)
                      (avLen (Av.sl (List.take (n0 * (2 : Nat)) xs0) n0))))
                  (avLen (Av.sl (List.take (n0 * (2 : Nat)) xs0) n0) * (16 : Nat))) /
              (16 : Nat))),
      avLen (Av.sl (List.take (n0 * (2 : Nat)) xs0) n0) =
        avLen
          (Av.sl
            (List.take
              (avLen
                    (Av.sl
                      (List.take (avLen (Av.sl (List.take (n0 * (2 : Nat)) xs0) n0) * (16 : Nat))
                        (oiL (List.take (n0 * (2 : Nat)) xs0) (0 : Nat)
                          (avLen (Av.sl (List.take (n0 * (2 : Nat)) xs0) n0))))
                      (avLen (Av.sl (List.take (n0 * (2 : Nat)) xs0) n0) * (16 : Nat))) /
                  (16 : Nat) *
                (2 : Nat))
              (idL
                (List.take (avLen (Av.sl (List.take (n0 * (2 : Nat)) xs0) n0) * (16 : Nat))
                  (oiL (List.take (n0 * (2 : Nat)) xs0) (0 : Nat) (avLen (Av.sl (List.take (n0 * (2 : Nat)) xs0) n0))))
                (0 : Nat)
                (avLen
                    (Av.sl
                      (List.take (avLen (Av.sl (List.take (n0 * (2 : Nat)) xs0) n0) * (16 : Nat))
                        (oiL (List.take (n0 * (2 : Nat)) xs0) (0 : Nat)
                          (avLen (Av.sl (List.take (n0 * (2 : Nat)) xs0) n0))))
                      (avLen (Av.sl (List.take (n0 * (2 : Nat)) xs0) n0) * (16 : Nat))) /
                  (16 : Nat))))
            (avLen
                (Av.sl
                  (List.take (avLen (Av.sl (List.take (n0 * (2 : Nat)) xs0) n0) * (16 : Nat))
                    (oiL (List.take (n0 * (2 : Nat)) xs0) (0 : Nat)
                      (avLen (Av.sl (List.take (n0 * (2 : Nat)) xs0) n0))))
                  (avLen (Av.sl (List.take (n0 * (2 : Nat)) xs0) n0) * (16 : Nat))) /
              (16 : Nat))),
      rg IntKind.i64 (↑((16 : Nat) * n0) : Int),
      ((↑(avLen (Av.sl (List.take (n0 * (2 : Nat)) xs0) n0) * (16 : Nat)) : Int) != (↑((16 : Nat) * n0) : Int)) = false,
      bkC Try.prog (9 : Nat) = bkC Try.prog (9 : Nat),
      [((1 : Nat), Value.slice none (0 : Nat) (0 : Nat)), ((2 : Nat), Value.slice none (0 : Nat) (0 : Nat)),
          ((7 : Nat), Value.bool true)] =
        bk12 (Sa.mk false (0 : Nat) (0 : Nat) []) (Sa.mk false (0 : Nat) (0 : Nat) []),
      (3 : Nat) ≤ (12 : Nat) ∧ (12 : Nat) ≤ (20 : Nat),
      rowAt
        (rowsN (12 : Nat) []
          (rowsN (11 : Nat)
            [idRow
                (idL
                  (List.take (avLen (Av.sl (List.take (n0 * (2 : Nat)) xs0) n0) * (16 : Nat))
                    (oiL (List.take (n0 * (2 : Nat)) xs0) (0 : Nat)
                      (avLen (Av.sl (List.take (n0 * (2 : Nat)) xs0) n0))))
                  (0 : Nat)
                  (avLen
                      (Av.sl
                        (List.take (avLen (Av.sl (List.take (n0 * (2 : Nat)) xs0) n0) * (16 : Nat))
                          (oiL (List.take (n0 * (2 : Nat)) xs0) (0 : Nat)
                            (avLen (Av.sl (List.take (n0 * (2 : Nat)) xs0) n0))))
                        (avLen (Av.sl (List.take (n0 * (2 : Nat)) xs0) n0) * (16 : Nat))) /
                    (16 : Nat)))]
            (rowsN (10 : Nat)
              [byRow
                  (oiL (List.take (n0 * (2 : Nat)) xs0) (0 : Nat) (avLen (Av.sl (List.take (n0 * (2 : Nat)) xs0) n0)))]
              (saH (0 : Nat) (Sa.mk true n0 c0 xs0)
                (saH (1 : Nat) (Sa.mk false (0 : Nat) (0 : Nat) [])
                  (saH (2 : Nat) (Sa.mk false (0 : Nat) (0 : Nat) []) []))))))
        (1 : Nat) (Sa.mk false (0 : Nat) (0 : Nat) []),
      rowAt
        (rowsN (12 : Nat) []
          (rowsN (11 : Nat)
            [idRow
                (idL
                  (List.take (avLen (Av.sl (List.take (n0 * (2 : Nat)) xs0) n0) * (16 : Nat))
                    (oiL (List.take (n0 * (2 : Nat)) xs0) (0 : Nat)
                      (avLen (Av.sl (List.take (n0 * (2 : Nat)) xs0) n0))))
                  (0 : Nat)
                  (avLen
                      (Av.sl
                        (List.take (avLen (Av.sl (List.take (n0 * (2 : Nat)) xs0) n0) * (16 : Nat))
                          (oiL (List.take (n0 * (2 : Nat)) xs0) (0 : Nat)
                            (avLen (Av.sl (List.take (n0 * (2 : Nat)) xs0) n0))))
                        (avLen (Av.sl (List.take (n0 * (2 : Nat)) xs0) n0) * (16 : Nat))) /
                    (16 : Nat)))]
            (rowsN (10 : Nat)
              [byRow
                  (oiL (List.take (n0 * (2 : Nat)) xs0) (0 : Nat) (avLen (Av.sl (List.take (n0 * (2 : Nat)) xs0) n0)))]
              (saH (0 : Nat) (Sa.mk true n0 c0 xs0)
                (saH (1 : Nat) (Sa.mk false (0 : Nat) (0 : Nat) [])
                  (saH (2 : Nat) (Sa.mk false (0 : Nat) (0 : Nat) []) []))))))
        (2 : Nat) (Sa.mk false (0 : Nat) (0 : Nat) []),
      SaOk (Ints IntKind.i64) (3 : Nat) (80 : Nat) (Sa.mk false (0 : Nat) (0 : Nat) []),
      SaOk Byts (1 : Nat) (1000 : Nat) (Sa.mk false (0 : Nat) (0 : Nat) [])]) := by kernel_rfl
theorem bk4_ok01 (inr : Bool) (xs0 : List Value) (n0 c0 : Nat) (xs2 : List Value) (n2 c2 : Nat) : prjZ [6] (codeZ (bkV (bk9L Try.prog)) Try.prog (runZ (bkV (bk9L Try.prog)) Try.prog 5) 7 inr 100000 (bkC Try.prog 4) (SL 134 (bk012 ⟨true, n0, c0, xs0⟩ ⟨false, 0, 0, []⟩ ⟨true, n2, c2, xs2⟩)) (saH 0 ⟨true, n0, c0, xs0⟩ (saH 1 ⟨false, 0, 0, []⟩ (saH 2 ⟨true, n2, c2, xs2⟩ []))) 10 ([false, false] ++ [false, false, false] ++ [false])) =
Res.ok
  ((Xt.ret, (134 : Nat), [((6 : Nat), Value.bool true)], [((0 : Nat), Rw.mk Kd.old xs0), ((2 : Nat), Rw.mk Kd.old xs2)],
      (60 : Nat), [(11 : Nat), (10 : Nat)], []),
    [],
    [n0 ≤ c0 ∧ c0 ≤ (9223372036854775807 : Nat), n0 * (2 : Nat) ≤ List.length xs0, Fl (List.take (n0 * (2 : Nat)) xs0),
      Ints IntKind.u64 (List.take (n0 * (2 : Nat)) xs0), avLen (Av.sl (List.take (n0 * (2 : Nat)) xs0) n0) ≤ (8 : Nat),
      decide (avLen (Av.sl (List.take (n0 * (2 : Nat)) xs0) n0) = (0 : Nat)) = false,
      capBig + (10 : Nat) = capBig + (10 : Nat),
      avLen (Av.sl (List.take (n0 * (2 : Nat)) xs0) n0) * (16 : Nat) ≤
        List.length
          (oiL (List.take (n0 * (2 : Nat)) xs0) (0 : Nat) (avLen (Av.sl (List.take (n0 * (2 : Nat)) xs0) n0))),
      (0 : Nat) < (1 : Nat),
      avLen (Av.sl (List.take (n0 * (2 : Nat)) xs0) n0) * (16 : Nat) ≤
        List.length
          (oiL (List.take (n0 * (2 : Nat)) xs0) (0 : Nat) (avLen (Av.sl (List.take (n0 * (2 : Nat)) xs0) n0))),
      Fl
        (List.take (avLen (Av.sl (List.take (n0 * (2 : Nat)) xs0) n0) * (16 : Nat))
          (oiL (List.take (n0 * (2 : Nat)) xs0) (0 : Nat) (avLen (Av.sl (List.take (n0 * (2 : Nat)) xs0) n0)))),
      Byts
        (List.take (avLen (Av.sl (List.take (n0 * (2 : Nat)) xs0) n0) * (16 : Nat))
          (oiL (List.take (n0 * (2 : Nat)) xs0) (0 : Nat) (avLen (Av.sl (List.take (n0 * (2 : Nat)) xs0) n0)))),
      avLen
            (Av.sl
              (List.take (avLen (Av.sl (List.take (n0 * (2 : Nat)) xs0) n0) * (16 : Nat))
                (oiL (List.take (n0 * (2 : Nat)) xs0) (0 : Nat) (avLen (Av.sl (List.take (n0 * (2 : Nat)) xs0) n0))))
              (avLen (Av.sl (List.take (n0 * (2 : Nat)) xs0) n0) * (16 : Nat))) %
          (16 : Nat) =
        (0 : Nat),
      avLen
          (Av.sl
            (List.take (avLen (Av.sl (List.take (n0 * (2 : Nat)) xs0) n0) * (16 : Nat))
              (oiL (List.take (n0 * (2 : Nat)) xs0) (0 : Nat) (avLen (Av.sl (List.take (n0 * (2 : Nat)) xs0) n0))))
            (avLen (Av.sl (List.take (n0 * (2 : Nat)) xs0) n0) * (16 : Nat))) ≤
        (128 : Nat),
      decide
          (avLen
              (Av.sl
                (List.take (avLen (Av.sl (List.take (n0 * (2 : Nat)) xs0) n0) * (16 : Nat))
                  (oiL (List.take (n0 * (2 : Nat)) xs0) (0 : Nat) (avLen (Av.sl (List.take (n0 * (2 : Nat)) xs0) n0))))
                (avLen (Av.sl (List.take (n0 * (2 : Nat)) xs0) n0) * (16 : Nat))) =
            (0 : Nat)) =
        false,
      capBig + (11 : Nat) = capBig + (11 : Nat),
      avLen
              (Av.sl
                (List.take (avLen (Av.sl (List.take (n0 * (2 : Nat)) xs0) n0) * (16 : Nat))
                  (oiL (List.take (n0 * (2 : Nat)) xs0) (0 : Nat) (avLen (Av.sl (List.take (n0 * (2 : Nat)) xs0) n0))))
                (avLen (Av.sl (List.take (n0 * (2 : Nat)) xs0) n0) * (16 : Nat))) /
            (16 : Nat) *
          (2 : Nat) ≤
        List.length
          (idL
            (List.take (avLen (Av.sl (List.take (n0 * (2 : Nat)) xs0) n0) * (16 : Nat))
              (oiL (List.take (n0 * (2 : Nat)) xs0) (0 : Nat) (avLen (Av.sl (List.take (n0 * (2 : Nat)) xs0) n0))))
            (0 : Nat)
            (avLen
                (Av.sl
                  (List.take (avLen (Av.sl (List.take (n0 * (2 : Nat)) xs0) n0) * (16 : Nat))
                    (oiL (List.take (n0 * (2 : Nat)) xs0) (0 : Nat)
                      (avLen (Av.sl (List.take (n0 * (2 : Nat)) xs0) n0))))
                  (avLen (Av.sl (List.take (n0 * (2 : Nat)) xs0) n0) * (16 : Nat))) /
              (16 : Nat))),
      (0 : Nat) < (2 : Nat),
      avLen
              (Av.sl
                (List.take (avLen (Av.sl (List.take (n0 * (2 : Nat)) xs0) n0) * (16 : Nat))
                  (oiL (List.take (n0 * (2 : Nat)) xs0) (0 : Nat) (avLen (Av.sl (List.take (n0 * (2 : Nat)) xs0) n0))))
                (avLen (Av.sl (List.take (n0 * (2 : Nat)) xs0) n0) * (16 : Nat))) /
            (16 : Nat) *
          (2 : Nat) ≤
        List.length
          (idL
            (List.take (avLen (Av.sl (List.take (n0 * (2 : Nat)) xs0) n0) * (16 : Nat))
              (oiL (List.take (n0 * (2 : Nat)) xs0) (0 : Nat) (avLen (Av.sl (List.take (n0 * (2 : Nat)) xs0) n0))))
            (0 : Nat)
            (avLen
                (Av.sl
                  (List.take (avLen (Av.sl (List.take (n0 * (2 : Nat)) xs0) n0) * (16 : Nat))
                    (oiL (List.take (n0 * (2 : Nat)) xs0) (0 : Nat)
                      (avLen (Av.sl (List.take (n0 * (2 : Nat)) xs0) n0))))
                  (avLen (Av.sl (List.take (n0 * (2 : Nat)) xs0) n0) * (16 : Nat))) /
              (16 : Nat))),
      Fl
        (List.take
          (avLen
                (Av.sl
                  (List.take (avLen (Av.sl (List.take (n0 * (2 : Nat)) xs0) n0) * (16 : Nat))
                    (oiL (List.take (n0 * (2 : Nat)) xs0) (0 : Nat)
                      (avLen (Av.sl (List.take (n0 * (2 : Nat)) xs0) n0))))
                  (avLen (Av.sl (List.take (n0 * (2 : Nat)) xs0) n0) * (16 : Nat))) /
              (16 : Nat) *
            (2 : Nat))
          (idL
            (List.take (avLen (Av.sl (List.take (n0 * (2 : Nat)) xs0) n0) * (16 : Nat))
              (oiL (List.take (n0 * (2 : Nat)) xs0) (0 : Nat) (avLen (Av.sl (List.take (n0 * (2 : Nat)) xs0) n0))))
            (0 : Nat)
            (avLen
                (Av.sl
                  (List.take (avLen (Av.sl (List.take (n0 * (2 : Nat)) xs0) n0) * (16 : Nat))
                    (oiL (List.take (n0 * (2 : Nat)) xs0) (0 : Nat)
                      (avLen (Av.sl (List.take (n0 * (2 : Nat)) xs0) n0))))
                  (avLen (Av.sl (List.take (n0 * (2 : Nat)) xs0) n0) * (16 : Nat))) /
              (16 : Nat)))),
      n0 ≤ c0 ∧ c0 ≤ (9223372036854775807 : Nat), n0 * (2 : Nat) ≤ List.length xs0, Fl (List.take (n0 * (2 : Nat)) xs0),
      Ints IntKind.u64
        (List.take
          (avLen
                (Av.sl
                  (List.take (avLen (Av.sl (List.take (n0 * (2 : Nat)) xs0) n0) * (16 : Nat))
                    (oiL (List.take (n0 * (2 : Nat)) xs0) (0 : Nat)
                      (avLen (Av.sl (List.take (n0 * (2 : Nat)) xs0) n0))))
                  (avLen (Av.sl (List.take (n0 * (2 : Nat)) xs0) n0) * (16 : Nat))) /
              (16 : Nat) *
            (2 : Nat))
          (idL
            (List.take (avLen (Av.sl (List.take (n0 * (2 : Nat)) xs0) n0) * (16 : Nat))
              (oiL (List.take (n0 * (2 : Nat)) xs0) (0 : Nat) (avLen (Av.sl (List.take (n0 * (2 : Nat)) xs0) n0))))
            (0 : Nat)
            (avLen
                (Av.sl
                  (List.take (avLen (Av.sl (List.take (n0 * (2 : Nat)) xs0) n0) * (16 : Nat))
                    (oiL (List.take (n0 * (2 : Nat)) xs0) (0 : Nat)
                      (avLen (Av.sl (List.take (n0 * (2 : Nat)) xs0) n0))))
                  (avLen (Av.sl (List.take (n0 * (2 : Nat)) xs0) n0) * (16 : Nat))) /
              (16 : Nat)))),
      List.take (n0 * (2 : Nat)) xs0 =
        List.take
          (avLen
                (Av.sl
                  (List.take (avLen (Av.sl (List.take (n0 * (2 : Nat)) xs0) n0) * (16 : Nat))
                    (oiL (List.take (n0 * (2 : Nat)) xs0) (0 : Nat)
                      (avLen (Av.sl (List.take (n0 * (2 : Nat)) xs0) n0))))
                  (avLen (Av.sl (List.take (n0 * (2 : Nat)) xs0) n0) * (16 : Nat))) /
              (16 : Nat) *
            (2 : Nat))
          (idL
            (List.take (avLen (Av.sl (List.take (n0 * (2 : Nat)) xs0) n0) * (16 : Nat))
              (oiL (List.take (n0 * (2 : Nat)) xs0) (0 : Nat) (avLen (Av.sl (List.take (n0 * (2 : Nat)) xs0) n0))))
            (0 : Nat)
            (avLen
                (Av.sl
                  (List.take (avLen (Av.sl (List.take (n0 * (2 : Nat)) xs0) n0) * (16 : Nat))
                    (oiL (List.take (n0 * (2 : Nat)) xs0) (0 : Nat)
                      (avLen (Av.sl (List.take (n0 * (2 : Nat)) xs0) n0))))
                  (avLen (Av.sl (List.take (n0 * (2 : Nat)) xs0) n0) * (16 : Nat))) /
              (16 : Nat))),
      avLen (Av.sl (List.take (n0 * (2 : Nat)) xs0) n0) =
        avLen
          (Av.sl
            (List.take
              (avLen
                    (Av.sl
                      (List.take (avLen (Av.sl (List.take (n0 * (2 : Nat)) xs0) n0) * (16 : Nat))
                        (oiL (List.take (n0 * (2 : Nat)) xs0) (0 : Nat)
                          (avLen (Av.sl (List.take (n0 * (2 : Nat)) xs0) n0))))
                      (avLen (Av.sl (List.take (n0 * (2 : Nat)) xs0) n0) * (16 : Nat))) /
                  (16 : Nat) *
                (2 : Nat))
              (idL
                (List.take (avLen (Av.sl (List.take (n0 * (2 : Nat)) xs0) n0) * (16 : Nat))
                  (oiL (List.take (n0 * (2 : Nat)) xs0) (0 : Nat) (avLen (Av.sl (List.take (n0 * (2 : Nat)) xs0) n0))))
                (0 : Nat)
                (avLen
                    (Av.sl
                      (List.take (avLen (Av.sl (List.take (n0 * (2 : Nat)) xs0) n0) * (16 : Nat))
                        (oiL (List.take (n0 * (2 : Nat)) xs0) (0 : Nat)
                          (avLen (Av.sl (List.take (n0 * (2 : Nat)) xs0) n0))))
                      (avLen (Av.sl (List.take (n0 * (2 : Nat)) xs0) n0) * (16 : Nat))) /
                  (16 : Nat))))
            (avLen
                (Av.sl
                  (List.take (avLen (Av.sl (List.take (n0 * (2 : Nat)) xs0) n0) * (16 : Nat))
                    (oiL (List.take (n0 * (2 : Nat)) xs0) (0 : Nat)
                      (avLen (Av.sl (List.take (n0 * (2 : Nat)) xs0) n0))))
                  (avLen (Av.sl (List.take (n0 * (2 : Nat)) xs0) n0) * (16 : Nat))) /
              (16 : Nat))),
      rg IntKind.i64 (↑((16 : Nat) * n0) : Int),
      ((↑(avLen (Av.sl (List.take (n0 * (2 : Nat)) xs0) n0) * (16 : Nat)) : Int) != (↑((16 : Nat) * n0) : Int)) = false,
      bkC Try.prog (9 : Nat) = bkC Try.prog (9 : Nat),
      [((1 : Nat), Value.slice none (0 : Nat) (0 : Nat)),
          ((2 : Nat), Value.slice (some (Addr.mk (2 : Nat) (0 : Nat) none)) n2 c2), ((7 : Nat), Value.bool true)] =
        bk12 (Sa.mk false (0 : Nat) (0 : Nat) []) (Sa.mk true n2 c2 xs2),
      (3 : Nat) ≤ (12 : Nat) ∧ (12 : Nat) ≤ (20 : Nat),
      rowAt
        (rowsN (12 : Nat) []
          (rowsN (11 : Nat)
            [idRow
                (idL
                  (List.take (avLen (Av.sl (List.take (n0 * (2 : Nat)) xs0) n0) * (16 : Nat))
                    (oiL (List.take (n0 * (2 : Nat)) xs0) (0 : Nat)
                      (avLen (Av.sl (List.take (n0 * (2 : Nat)) xs0) n0))))
                  (0 : Nat)
                  (avLen
                      (Av.sl
                        (List.take (avLen (Av.sl (List.take (n0 * (2 : Nat)) xs0) n0) * (16 : Nat))
                          (oiL (List.take (n0 * (2 : Nat)) xs0) (0 : Nat)
                            (avLen (Av.sl (List.take (n0 * (2 : Nat)) xs0) n0))))
                        (avLen (Av.sl (List.take (n0 * (2 : Nat)) xs0) n0) * (16 : Nat))) /
                    (16 : Nat)))]
            (rowsN (10 : Nat)
              [byRow
                  (oiL (List.take (n0 * (2 : Nat)) xs0) (0 : Nat) (avLen (Av.sl (List.take (n0 * (2 : Nat)) xs0) n0)))]
              (saH (0 : Nat) (Sa.mk true n0 c0 xs0)
                (saH (1 : Nat) (Sa.mk false (0 : Nat) (0 : Nat) []) (saH (2 : Nat) (Sa.mk true n2 c2 xs2) []))))))
        (1 : Nat) (Sa.mk false (0 : Nat) (0 : Nat) []),
      rowAt
        (rowsN (12 : Nat) []
          (rowsN (11 : Nat)
            [idRow
                (idL
                  (List.take (avLen (Av.sl (List.take (n0 * (2 : Nat)) xs0) n0) * (16 : Nat))
                    (oiL (List.take (n0 * (2 : Nat)) xs0) (0 : Nat)
                      (avLen (Av.sl (List.take (n0 * (2 : Nat)) xs0) n0))))
                  (0 : Nat)
                  (avLen
                      (Av.sl
                        (List.take (avLen (Av.sl (List.take (n0 * (2 : Nat)) xs0) n0) * (16 : Nat))
                          (oiL (List.take (n0 * (2 : Nat)) xs0) (0 : Nat)
                            (avLen (Av.sl (List.take (n0 * (2 : Nat)) xs0) n0))))
                        (avLen (Av.sl (List.take (n0 * (2 : Nat)) xs0) n0) * (16 : Nat))) /
                    (16 : Nat)))]
            (rowsN (10 : Nat)
              [byRow
                  (oiL (List.take (n0 * (2 : Nat)) xs0) (0 : Nat) (avLen (Av.sl (List.take (n0 * (2 : Nat)) xs0) n0)))]
              (saH (0 : Nat) (Sa.mk true n0 c0 xs0)
                (saH (1 : Nat) (Sa.mk false (0 : Nat) (0 : Nat) []) (saH (2 : Nat) (Sa.mk true n2 c2 xs2) []))))))
        (2 : Nat) (Sa.mk true n2 c2 xs2),
      SaOk (Ints IntKind.i64) (3 : Nat) (80 : Nat) (Sa.mk false (0 : Nat) (0 : Nat) []),
      SaOk Byts (1 : Nat) (1000 : Nat) (Sa.mk true n2 c2 xs2)]) := by kernel_rfl
theorem bk4_ok10 (inr : Bool) (xs0 : List Value) (n0 c0 : Nat) (xs1 : List Value) (n1 c1 : Nat) : prjZ [6] (codeZ (bkV (bk9L Try.prog)) Try.prog (runZ (bkV (bk9L Try.prog)) Try.prog 5) 7 inr 100000 (bkC Try.prog 4) (SL 134 (bk012 ⟨true, n0, c0, xs0⟩ ⟨true, n1, c1, xs1⟩ ⟨false, 0, 0, []⟩)) (saH 0 ⟨true, n0, c0, xs0⟩ (saH 1 ⟨true, n1, c1, xs1⟩ (saH 2 ⟨false, 0, 0, []⟩ []))) 10 ([false, false] ++ [false, false, false] ++ [false])) =
Res.ok
  ((Xt.ret, (134 : Nat), [((6 : Nat), Value.bool true)], [((0 : Nat), Rw.mk Kd.old xs0), ((1 : Nat), Rw.mk Kd.old xs1)],
      (60 : Nat), [(11 : Nat), (10 : Nat)], []),
    [],
    [n0 ≤ c0 ∧ c0 ≤ (9223372036854775807 : Nat), n0 * (2 : Nat) ≤ List.length xs0, Fl (List.take (n0 * (2 : Nat)) xs0),
      Ints IntKind.u64 (List.take (n0 * (2 : Nat)) xs0), avLen (Av.sl (List.take (n0 * (2 : Nat)) xs0) n0) ≤ (8 : Nat),
      decide (avLen (Av.sl (List.take (n0 * (2 : Nat)) xs0) n0) = (0 : Nat)) = false,
      capBig + (10 : Nat) = capBig + (10 : Nat),
      avLen (Av.sl (List.take (n0 * (2 : Nat)) xs0) n0) * (16 : Nat) ≤
        List.length
          (oiL (List.take (n0 * (2 : Nat)) xs0) (0 : Nat) (avLen (Av.sl (List.take (n0 * (2 : Nat)) xs0) n0))),
      (0 : Nat) < (1 : Nat),
      avLen (Av.sl (List.take (n0 * (2 : Nat)) xs0) n0) * (16 : Nat) ≤
        List.length
          (oiL (List.take (n0 * (2 : Nat)) xs0) (0 : Nat) (avLen (Av.sl (List.take (n0 * (2 : Nat)) xs0) n0))),
      Fl
        (List.take (avLen (Av.sl (List.take (n0 * (2 : Nat)) xs0) n0) * (16 : Nat))
          (oiL (List.take (n0 * (2 : Nat)) xs0) (0 : Nat) (avLen (Av.sl (List.take (n0 * (2 : Nat)) xs0) n0)))),
      Byts
        (List.take (avLen (Av.sl (List.take (n0 * (2 : Nat)) xs0) n0) * (16 : Nat))
          (oiL (List.take (n0 * (2 : Nat)) xs0) (0 : Nat) (avLen (Av.sl (List.take (n0 * (2 : Nat)) xs0) n0)))),
      avLen
            (Av.sl
              (List.take (avLen (Av.sl (List.take (n0 * (2 : Nat)) xs0) n0) * (16 : Nat))
                (oiL (List.take (n0 * (2 : Nat)) xs0) (0 : Nat) (avLen (Av.sl (List.take (n0 * (2 : Nat)) xs0) n0))))
              (avLen (Av.sl (List.take (n0 * (2 : Nat)) xs0) n0) * (16 : Nat))) %
          (16 : Nat) =
        (0 : Nat),
      avLen
          (Av.sl
            (List.take (avLen (Av.sl (List.take (n0 * (2 : Nat)) xs0) n0) * (16 : Nat))
              (oiL (List.take (n0 * (2 : Nat)) xs0) (0 : Nat) (avLen (Av.sl (List.take (n0 * (2 : Nat)) xs0) n0))))
            (avLen (Av.sl (List.take (n0 * (2 : Nat)) xs0) n0) * (16 : Nat))) ≤
        (128 : Nat),
      decide
          (avLen
              (Av.sl
                (List.take (avLen (Av.sl (List.take (n0 * (2 : Nat)) xs0) n0) * (16 : Nat))
                  (oiL (List.take (n0 * (2 : Nat)) xs0) (0 : Nat) (avLen (Av.sl (List.take (n0 * (2 : Nat)) xs0) n0))))
                (avLen (Av.sl (List.take (n0 * (2 : Nat)) xs0) n0) * (16 : Nat))) =
            (0 : Nat)) =
        false,
      capBig + (11 : Nat) = capBig + (11 : Nat),
      avLen
              (Av.sl
                (List.take (avLen (Av.sl (List.take (n0 * (2 : Nat)) xs0) n0) * (16 : Nat))
                  (oiL (List.take (n0 * (2 : Nat)) xs0) (0 : Nat) (avLen (Av.sl (List.take (n0 * (2 : Nat)) xs0) n0))))
                (avLen (Av.sl (List.take (n0 * (2 : Nat)) xs0) n0) * (16 : Nat))) /
            (16 : Nat) *
          (2 : Nat) ≤
        List.length
          (idL
            (List.take (avLen (Av.sl (List.take (n0 * (2 : Nat)) xs0) n0) * (16 : Nat))
              (oiL (List.take (n0 * (2 : Nat)) xs0) (0 : Nat) (avLen (Av.sl (List.take (n0 * (2 : Nat)) xs0) n0))))
            (0 : Nat)
            (avLen
                (Av.sl
                  (List.take (avLen (Av.sl (List.take (n0 * (2 : Nat)) xs0) n0) * (16 : Nat))
                    (oiL (List.take (n0 * (2 : Nat)) xs0) (0 : Nat)
                      (avLen (Av.sl (List.take (n0 * (2 : Nat)) xs0) n0))))
                  (avLen (Av.sl (List.take (n0 * (2 : Nat)) xs0) n0) * (16 : Nat))) /
              (16 : Nat))),
      (0 : Nat) < (2 : Nat),
      avLen
              (Av.sl
                (List.take (avLen (Av.sl (List.take (n0 * (2 : Nat)) xs0) n0) * (16 : Nat))
                  (oiL (List.take (n0 * (2 : Nat)) xs0) (0 : Nat) (avLen (Av.sl (List.take (n0 * (2 : Nat)) xs0) n0))))
                (avLen (Av.sl (List.take (n0 * (2 : Nat)) xs0) n0) * (16 : Nat))) /
            (16 : Nat) *
          (2 : Nat) ≤
        List.length
          (idL
            (List.take (avLen (Av.sl (List.take (n0 * (2 : Nat)) xs0) n0) * (16 : Nat))
              (oiL (List.take (n0 * (2 : Nat)) xs0) (0 : Nat) (avLen (Av.sl (List.take (n0 * (2 : Nat)) xs0) n0))))
            (0 : Nat)
            (avLen
                (Av.sl
                  (List.take (avLen (Av.sl (List.take (n0 * (2 : Nat)) xs0) n0) * (16 : Nat))
                    (oiL (List.take (n0 * (2 : Nat)) xs0) (0 : Nat)
                      (avLen (Av.sl (List.take (n0 * (2 : Nat)) xs0) n0))))
                  (avLen (Av.sl (List.take (n0 * (2 : Nat)) xs0) n0) * (16 : Nat))) /
              (16 : Nat))),
      Fl
        (List.take
          (avLen
                (Av.sl
                  (List.take (avLen (Av.sl (List.take (n0 * (2 : Nat)) xs0) n0) * (16 : Nat))
                    (oiL (List.take (n0 * (2 : Nat)) xs0) (0 : Nat)
                      (avLen (Av.sl (List.take (n0 * (2 : Nat)) xs0) n0))))
                  (avLen (Av.sl (List.take (n0 * (2 : Nat)) xs0) n0) * (16 : Nat))) /
              (16 : Nat) *
            (2 : Nat))
          (idL
            (List.take (avLen (Av.sl (List.take (n0 * (2 : Nat)) xs0) n0) * (16 : Nat))
              (oiL (List.take (n0 * (2 : Nat)) xs0) (0 : Nat) (avLen (Av.sl (List.take (n0 * (2 : Nat)) xs0) n0))))
            (0 : Nat)
            (avLen
                (Av.sl
                  (List.take (avLen (Av.sl (List.take (n0 * (2 : Nat)) xs0) n0) * (16 : Nat))
                    (oiL (List.take (n0 * (2 : Nat)) xs0) (0 : Nat)
                      (avLen (Av.sl (List.take (n0 * (2 : Nat)) xs0) n0))))
                  (avLen (Av.sl (List.take (n0 * (2 : Nat)) xs0) n0) * (16 : Nat))) /
              (16 : Nat)))),
      n0 ≤ c0 ∧ c0 ≤ (9223372036854775807 : Nat), n0 * (2 : Nat) ≤ List.length xs0, Fl (List.take (n0 * (2 : Nat)) xs0),
      Ints IntKind.u64
        (List.take
          (avLen
                (Av.sl
                  (List.take (avLen (Av.sl (List.take (n0 * (2 : Nat)) xs0) n0) * (16 : Nat))
                    (oiL (List.take (n0 * (2 : Nat)) xs0) (0 : Nat)
                      (avLen (Av.sl (List.take (n0 * (2 : Nat)) xs0) n0))))
                  (avLen (Av.sl (List.take (n0 * (2 : Nat)) xs0) n0) * (16 : Nat))) /
              (16 : Nat) *
            (2 : Nat))
          (idL
            (List.take (avLen (Av.sl (List.take (n0 * (2 : Nat)) xs0) n0) * (16 : Nat))
              (oiL (List.take (n0 * (2 : Nat)) xs0) (0 : Nat) (avLen (Av.sl (List.take (n0 * (2 : Nat)) xs0) n0))))
            (0 : Nat)
            (avLen
                (Av.sl
                  (List.take (avLen (Av.sl (List.take (n0 * (2 : Nat)) xs0) n0) * (16 : Nat))
                    (oiL (List.take (n0 * (2 : Nat)) xs0) (0 : Nat)
                      (avLen (Av.sl (List.take (n0 * (2 : Nat)) xs0) n0))))
                  (avLen (Av.sl (List.take (n0 * (2 : Nat)) xs0) n0) * (16 : Nat))) /
              (16 : Nat)))),
      List.take (n0 * (2 : Nat)) xs0 =
        List.take
          (avLen
                (Av.sl
                  (List.take (avLen (Av.sl (List.take (n0 * (2 : Nat)) xs0) n0) * (16 : Nat))
                    (oiL (List.take (n0 * (2 : Nat)) xs0) (0 : Nat)
                      (avLen (Av.sl (List.take (n0 * (2 : Nat)) xs0) n0))))
                  (avLen (Av.sl (List.take (n0 * (2 : Nat)) xs0) n0) * (16 : Nat))) /
              (16 : Nat) *
            (2 : Nat))
          (idL
            (List.take (avLen (Av.sl (List.take (n0 * (2 : Nat)) xs0) n0) * (16 : Nat))
              (oiL (List.take (n0 * (2 : Nat)) xs0) (0 : Nat) (avLen (Av.sl (List.take (n0 * (2 : Nat)) xs0) n0))))
            (0 : Nat)
            (avLen
                (Av.sl
                  (List.take (avLen (Av.sl (List.take (n0 * (2 : Nat)) xs0) n0) * (16 : Nat))
                    (oiL (List.take (n0 * (2 : Nat)) xs0) (0 : Nat)
                      (avLen (Av.sl (List.take (n0 * (2 : Nat)) xs0) n0))))
                  (avLen (Av.sl (List.take (n0 * (2 : Nat)) xs0) n0) * (16 : Nat))) /
              (16 : Nat))),
      avLen (Av.sl (List.take (n0 * (2 : Nat)) xs0) n0) =
        avLen
          (Av.sl
            (List.take
              (avLen
                    (Av.sl
                      (List.take (avLen (Av.sl (List.take (n0 * (2 : Nat)) xs0) n0) * (16 : Nat))
                        (oiL (List.take (n0 * (2 : Nat)) xs0) (0 : Nat)
                          (avLen (Av.sl (List.take (n0 * (2 : Nat)) xs0) n0))))
                      (avLen (Av.sl (List.take (n0 * (2 : Nat)) xs0) n0) * (16 : Nat))) /
                  (16 : Nat) *
                (2 : Nat))
              (idL
                (List.take (avLen (Av.sl (List.take (n0 * (2 : Nat)) xs0) n0) * (16 : Nat))
                  (oiL (List.take (n0 * (2 : Nat)) xs0) (0 : Nat) (avLen (Av.sl (List.take (n0 * (2 : Nat)) xs0) n0))))
                (0 : Nat)
                (avLen
                    (Av.sl
                      (List.take (avLen (Av.sl (List.take (n0 * (2 : Nat)) xs0) n0) * (16 : Nat))
                        (oiL (List.take (n0 * (2 : Nat)) xs0) (0 : Nat)
                          (avLen (Av.sl (List.take (n0 * (2 : Nat)) xs0) n0))))
                      (avLen (Av.sl (List.take (n0 * (2 : Nat)) xs0) n0) * (16 : Nat))) /
                  (16 : Nat))))
            (avLen
                (Av.sl
                  (List.take (avLen (Av.sl (List.take (n0 * (2 : Nat)) xs0) n0) * (16 : Nat))
                    (oiL (List.take (n0 * (2 : Nat)) xs0) (0 : Nat)
                      (avLen (Av.sl (List.take (n0 * (2 : Nat)) xs0) n0))))
                  (avLen (Av.sl (List.take (n0 * (2 : Nat)) xs0) n0) * (16 : Nat))) /
              (16 : Nat))),
      rg IntKind.i64 (↑((16 : Nat) * n0) : Int),
      ((↑(avLen (Av.sl (List.take (n0 * (2 : Nat)) xs0) n0) * (16 : Nat)) : Int) != (↑((16 : Nat) * n0) : Int)) = false,
      bkC Try.prog (9 : Nat) = bkC Try.prog (9 : Nat),
      [((1 : Nat), Value.slice (some (Addr.mk (1 : Nat) (0 : Nat) none)) n1 c1),
          ((2 : Nat), Value.slice none (0 : Nat) (0 : Nat)), ((7 : Nat), Value.bool true)] =
        bk12 (Sa.mk true n1 c1 xs1) (Sa.mk false (0 : Nat) (0 : Nat) []),
      (3 : Nat) ≤ (12 : Nat) ∧ (12 : Nat) ≤ (20 : Nat),
      rowAt
        (rowsN (12 : Nat) []
          (rowsN (11 : Nat)
            [idRow
                (idL
                  (List.take (avLen (Av.sl (List.take (n0 * (2 : Nat)) xs0) n0) * (16 : Nat))
                    (oiL (List.take (n0 * (2 : Nat)) xs0) (0 : Nat)
                      (avLen (Av.sl (List.take (n0 * (2 : Nat)) xs0) n0))))
                  (0 : Nat)
                  (avLen
                      (Av.sl
                        (List.take (avLen (Av.sl (List.take (n0 * (2 : Nat)) xs0) n0) * (16 : Nat))
                          (oiL (List.take (n0 * (2 : Nat)) xs0) (0 : Nat)
                            (avLen (Av.sl (List.take (n0 * (2 : Nat)) xs0) n0))))
                        (avLen (Av.sl (List.take (n0 * (2 : Nat)) xs0) n0) * (16 : Nat))) /
                    (16 : Nat)))]
            (rowsN (10 : Nat)
              [byRow
                  (oiL (List.take (n0 * (2 : Nat)) xs0) (0 : Nat) (avLen (Av.sl (List.take (n0 * (2 : Nat)) xs0) n0)))]
              (saH (0 : Nat) (Sa.mk true n0 c0 xs0)
                (saH (1 : Nat) (Sa.mk true n1 c1 xs1) (saH (2 : Nat) (Sa.mk false (0 : Nat) (0 : Nat) []) []))))))
        (1 : Nat) (Sa.mk true n1 c1 xs1),
      rowAt
        (rowsN (12 : Nat) []
          (rowsN (11 : Nat)
            [idRow
                (idL
                  (List.take (avLen (Av.sl (List.take (n0 * (2 : Nat)) xs0) n0) * (16 : Nat))
                    (oiL (List.take (n0 * (2 : Nat)) xs0) (0 : Nat)
                      (avLen (Av.sl (List.take (n0 * (2 : Nat)) xs0) n0))))
                  (0 : Nat)
                  (avLen
                      (Av.sl
                        (List.take (avLen (Av.sl (List.take (n0 * (2 : Nat)) xs0) n0) * (16 : Nat))
                          (oiL (List.take (n0 * (2 : Nat)) xs0) (0 : Nat)
                            (avLen (Av.sl (List.take (n0 * (2 : Nat)) xs0) n0))))
                        (avLen (Av.sl (List.take (n0 * (2 : Nat)) xs0) n0) * (16 : Nat))) /
                    (16 : Nat)))]
            (rowsN (10 : Nat)
              [byRow
                  (oiL (List.take (n0 * (2 : Nat)) xs0) (0 : Nat) (avLen (Av.sl (List.take (n0 * (2 : Nat)) xs0) n0)))]
              (saH (0 : Nat) (Sa.mk true n0 c0 xs0)
                (saH (1 : Nat) (Sa.mk true n1 c1 xs1) (saH (2 : Nat) (Sa.mk false (0 : Nat) (0 : Nat) []) []))))))
        (2 : Nat) (Sa.mk false (0 : Nat) (0 : Nat) []),
      SaOk (Ints IntKind.i64) (3 : Nat) (80 : Nat) (Sa.mk true n1 c1 xs1),
      SaOk Byts (1 : Nat) (1000 : Nat) (Sa.mk false (0 : Nat) (0 : Nat) [])]) := by kernel_rfl
theorem bk4_ok11 (inr : Bool) (xs0 : List Value) (n0 c0 : Nat) (xs1 : List Value) (n1 c1 : Nat) (xs2 : List Value) (n2 c2 : Nat) : prjZ [6] (codeZ (bkV (bk9L Try.prog)) Try.prog (runZ (bkV (bk9L Try.prog)) Try.prog 5) 7 inr 100000 (bkC Try.prog 4) (SL 134 (bk012 ⟨true, n0, c0, xs0⟩ ⟨true, n1, c1, xs1⟩ ⟨true, n2, c2, xs2⟩)) (saH 0 ⟨true, n0, c0, xs0⟩ (saH 1 ⟨true, n1, c1, xs1⟩ (saH 2 ⟨true, n2, c2, xs2⟩ []))) 10 ([false, false] ++ [false, false, false] ++ [false])) =
Res.ok
  ((Xt.ret, (134 : Nat), [((6 : Nat), Value.bool true)],
      [((0 : Nat), Rw.mk Kd.old xs0), ((1 : Nat), Rw.mk Kd.old xs1), ((2 : Nat), Rw.mk Kd.old xs2)], (60 : Nat),
      [(11 : Nat), (10 : Nat)], []),
    [],
    [n0 ≤ c0 ∧ c0 ≤ (9223372036854775807 : Nat), n0 * (2 : Nat) ≤ List.length xs0, Fl (List.take (n0 * (2 : Nat)) xs0),
      Ints IntKind.u64 (List.take (n0 * (2 : Nat)) xs0), avLen (Av.sl (List.take (n0 * (2 : Nat)) xs0) n0) ≤ (8 : Nat),
      decide (avLen (Av.sl (List.take (n0 * (2 : Nat)) xs0) n0) = (0 : Nat)) = false,
      capBig + (10 : Nat) = capBig + (10 : Nat),
      avLen (Av.sl (List.take (n0 * (2 : Nat)) xs0) n0) * (16 : Nat) ≤
        List.length
          (oiL (List.take (n0 * (2 : Nat)) xs0) (0 : Nat) (avLen (Av.sl (List.take (n0 * (2 : Nat)) xs0) n0))),
      (0 : Nat) < (1 : Nat),
      avLen (Av.sl (List.take (n0 * (2 : Nat)) xs0) n0) * (16 : Nat) ≤
        List.length
          (oiL (List.take (n0 * (2 : Nat)) xs0) (0 : Nat) (avLen (Av.sl (List.take (n0 * (2 : Nat)) xs0) n0))),
      Fl
        (List.take (avLen (Av.sl (List.take (n0 * (2 : Nat)) xs0) n0) * (16 : Nat))
          (oiL (List.take (n0 * (2 : Nat)) xs0) (0 : Nat) (avLen (Av.sl (List.take (n0 * (2 : Nat)) xs0) n0)))),
      Byts
        (List.take (avLen (Av.sl (List.take (n0 * (2 : Nat)) xs0) n0) * (16 : Nat))
          (oiL (List.take (n0 * (2 : Nat)) xs0) (0 : Nat) (avLen (Av.sl (List.take (n0 * (2 : Nat)) xs0) n0)))),
      avLen
            (Av.sl
              (List.take (avLen (Av.sl (List.take (n0 * (2 : Nat)) xs0) n0) * (16 : Nat))
                (oiL (List.take (n0 * (2 : Nat)) xs0) (0 : Nat) (avLen (Av.sl (List.take (n0 * (2 : Nat)) xs0) n0))))
              (avLen (Av.sl (List.take (n0 * (2 : Nat)) xs0) n0) * (16 : Nat))) %
          (16 : Nat) =
        (0 : Nat),
      avLen
          (Av.sl
            (List.take (avLen (Av.sl (List.take (n0 * (2 : Nat)) xs0) n0) * (16 : Nat))
              (oiL (List.take (n0 * (2 : Nat)) xs0) (0 : Nat) (avLen (Av.sl (List.take (n0 * (2 : Nat)) xs0) n0))))
            (avLen (Av.sl (List.take (n0 * (2 : Nat)) xs0) n0) * (16 : Nat))) ≤
        (128 : Nat),
      decide
          (avLen
              (Av.sl
                (List.take (avLen (Av.sl (List.take (n0 * (2 : Nat)) xs0) n0) * (16 : Nat))
                  (oiL (List.take (n0 * (2 : Nat)) xs0) (0 : Nat) (avLen (Av.sl (List.take (n0 * (2 : Nat)) xs0) n0))))
                (avLen (Av.sl (List.take (n0 * (2 : Nat)) xs0) n0) * (16 : Nat))) =
            (0 : Nat)) =
        false,
      capBig + (11 : Nat) = capBig + (11 : Nat),
      avLen
              (Av.sl
                (List.take (avLen (Av.sl (List.take (n0 * (2 : Nat)) xs0) n0) * (16 : Nat))
                  (oiL (List.take (n0 * (2 : Nat)) xs0) (0 : Nat) (avLen (Av.sl (List.take (n0 * (2 : Nat)) xs0) n0))))
                (avLen (Av.sl (List.take (n0 * (2 : Nat)) xs0) n0) * (16 : Nat))) /
            (16 : Nat) *
          (2 : Nat) ≤
        List.length
          (idL
            (List.take (avLen (Av.sl (List.take (n0 * (2 : Nat)) xs0) n0) * (16 : Nat))
              (oiL (List.take (n0 * (2 : Nat)) xs0) (0 : Nat) (avLen (Av.sl (List.take (n0 * (2 : Nat)) xs0) n0))))
            (0 : Nat)
            (avLen
                (Av.sl
                  (List.take (avLen (Av.sl (List.take (n0 * (2 : Nat)) xs0) n0) * (16 : Nat))
                    (oiL (List.take (n0 * (2 : Nat)) xs0) (0 : Nat)
                      (avLen (Av.sl (List.take (n0 * (2 : Nat)) xs0) n0))))
                  (avLen (Av.sl (List.take (n0 * (2 : Nat)) xs0) n0) * (16 : Nat))) /
              (16 : Nat))),
      (0 : Nat) < (2 : Nat),
      avLen
              (Av.sl
                (List.take (avLen (Av.sl (List.take (n0 * (2 : Nat)) xs0) n0) * (16 : Nat))
                  (oiL (List.take (n0 * (2 : Nat)) xs0) (0 : Nat) (avLen (Av.sl (List.take (n0 * (2 : Nat)) xs0) n0))))
                (avLen (Av.sl (List.take (n0 * (2 : Nat)) xs0) n0) * (16 : Nat))) /
            (16 : Nat) *
          (2 : Nat) ≤
        List.length
          (idL
            (List.take (avLen (Av.sl (List.take (n0 * (2 : Nat)) xs0) n0) * (16 : Nat))
              (oiL (List.take (n0 * (2 : Nat)) xs0) (0 : Nat) (avLen (Av.sl (List.take (n0 * (2 : Nat)) xs0) n0))))
            (0 : Nat)
            (avLen
                (Av.sl
                  (List.take (avLen (Av.sl (List.take (n0 * (2 : Nat)) xs0) n0) * (16 : Nat))
                    (oiL (List.take (n0 * (2 : Nat)) xs0) (0 : Nat)
                      (avLen (Av.sl (List.take (n0 * (2 : Nat)) xs0) n0))))
                  (avLen (Av.sl (List.take (n0 * (2 : Nat)) xs0) n0) * (16 : Nat))) /
              (16 : Nat))),
      Fl
        (List.take
          (avLen
                (Av.sl
                  (List.take (avLen (Av.sl (List.take (n0 * (2 : Nat)) xs0) n0) * (16 : Nat))
                    (oiL (List.take (n0 * (2 : Nat)) xs0) (0 : Nat)
                      (avLen (Av.sl (List.take (n0 * (2 : Nat)) xs0) n0))))
                  (avLen (Av.sl (List.take (n0 * (2 : Nat)) xs0) n0) * (16 : Nat))) /
              (16 : Nat) *
            (2 : Nat))
          (idL
            (List.take (avLen (Av.sl (List.take (n0 * (2 : Nat)) xs0) n0) * (16 : Nat))
              (oiL (List.take (n0 * (2 : Nat)) xs0) (0 : Nat) (avLen (Av.sl (List.take (n0 * (2 : Nat)) xs0) n0))))
            (0 : Nat)
            (avLen
                (Av.sl
                  (List.take (avLen (Av.sl (List.take (n0 * (2 : Nat)) xs0) n0) * (16 : Nat))
                    (oiL (List.take (n0 * (2 : Nat)) xs0) (0 : Nat)
                      (avLen (Av.sl (List.take (n0 * (2 : Nat)) xs0) n0))))
                  (avLen (Av.sl (List.take (n0 * (2 : Nat)) xs0) n0) * (16 : Nat))) /
              (16 : Nat)))),
      n0 ≤ c0 ∧ c0 ≤ (9223372036854775807 : Nat), n0 * (2 : Nat) ≤ List.length xs0, Fl (List.take (n0 * (2 : Nat)) xs0),
      Ints IntKind.u64
        (List.take
          (avLen
                (Av.sl
                  (List.take (avLen (Av.sl (List.take (n0 * (2 : Nat)) xs0) n0) * (16 : Nat))
                    (oiL (List.take (n0 * (2 : Nat)) xs0) (0 : Nat)
                      (avLen (Av.sl (List.take (n0 * (2 : Nat)) xs0) n0))))
                  (avLen (Av.sl (List.take (n0 * (2 : Nat)) xs0) n0) * (16 : Nat))) /
              (16 : Nat) *
            (2 : Nat))
          (idL
            (List.take (avLen (Av.sl (List.take (n0 * (2 : Nat)) xs0) n0) * (16 : Nat))
              (oiL (List.take (n0 * (2 : Nat)) xs0) (0 : Nat) (avLen (Av.sl (List.take (n0 * (2 : Nat)) xs0) n0))))
            (0 : Nat)
            (avLen
                (Av.sl
                  (List.take (avLen (Av.sl (List.take (n0 * (2 : Nat)) xs0) n0) * (16 : Nat))
                    (oiL (List.take (n0 * (2 : Nat)) xs0) (0 : Nat)
                      (avLen (Av.sl (List.take (n0 * (2 : Nat)) xs0) n0))))
                  (avLen (Av.sl (List.take (n0 * (2 : Nat)) xs0) n0) * (16 : Nat))) /
              (16 : Nat)))),
      List.take (n0 * (2 : Nat)) xs0 =
        List.take
          (avLen
                (Av.sl
                  (List.take (avLen (Av.sl (List.take (n0 * (2 : Nat)) xs0) n0) * (16 : Nat))
                    (oiL (List.take (n0 * (2 : Nat)) xs0) (0 : Nat)
                      (avLen (Av.sl (List.take (n0 * (2 : Nat)) xs0) n0))))
                  (avLen (Av.sl (List.take (n0 * (2 : Nat)) xs0) n0) * (16 : Nat))) /
              (16 : Nat) *
            (2 : Nat))
          (idL
            (List.take (avLen (Av.sl (List.take (n0 * (2 : Nat)) xs0) n0) * (16 : Nat))
              (oiL (List.take (n0 * (2 : Nat)) xs0) (0 : Nat) (avLen (Av.sl (List.take (n0 * (2 : Nat)) xs0) n0))))
            (0 : Nat)
            (avLen
                (Av.sl
                  (List.take (avLen (Av.sl (List.take (n0 * (2 : Nat)) xs0) n0) * (16 : Nat))
                    (oiL (List.take (n0 * (2 : Nat)) xs0) (0 : Nat)
                      (avLen (Av.sl (List.take (n0 * (2 : Nat)) xs0) n0))))
                  (avLen (Av.sl (List.take (n0 * (2 : Nat)) xs0) n0) * (16 : Nat))) /
              (16 : Nat))),
      avLen (Av.sl (List.take (n0 * (2 : Nat)) xs0) n0) =
        avLen
          (Av.sl
            (List.take
              (avLen
                    (Av.sl
                      (List.take (avLen (Av.sl (List.take (n0 * (2 : Nat)) xs0) n0) * (16 : Nat))
                        (oiL (List.take (n0 * (2 : Nat)) xs0) (0 : Nat)
                          (avLen (Av.sl (List.take (n0 * (2 : Nat)) xs0) n0))))
                      (avLen (Av.sl (List.take (n0 * (2 : Nat)) xs0) n0) * (16 : Nat))) /
                  (16 : Nat) *
                (2 : Nat))
              (idL
                (List.take (avLen (Av.sl (List.take (n0 * (2 : Nat)) xs0) n0) * (16 : Nat))
                  (oiL (List.take (n0 * (2 : Nat)) xs0) (0 : Nat) (avLen (Av.sl (List.take (n0 * (2 : Nat)) xs0) n0))))
                (0 : Nat)
                (avLen
                    (Av.sl
                      (List.take (avLen (Av.sl (List.take (n0 * (2 : Nat)) xs0) n0) * (16 : Nat))
                        (oiL (List.take (n0 * (2 : Nat)) xs0) (0 : Nat)
                          (avLen (Av.sl (List.take (n0 * (2 : Nat)) xs0) n0))))
                      (avLen (Av.sl (List.take (n0 * (2 : Nat)) xs0) n0) * (16 : Nat))) /
                  (16 : Nat))))
            (avLen
                (Av.sl
                  (List.take (avLen (Av.sl (List.take (n0 * (2 : Nat)) xs0) n0) * (16 : Nat))
                    (oiL (List.take (n0 * (2 : Nat)) xs0) (0 : Nat)
                      (avLen (Av.sl (List.take (n0 * (2 : Nat)) xs0) n0))))
                  (avLen (Av.sl (List.take (n0 * (2 : Nat)) xs0) n0) * (16 : Nat))) /
              (16 : Nat))),
      rg IntKind.i64 (↑((16 : Nat) * n0) : Int),
      ((↑(avLen (Av.sl (List.take (n0 * (2 : Nat)) xs0) n0) * (16 : Nat)) : Int) != (↑((16 : Nat) * n0) : Int)) = false,
      bkC Try.prog (9 : Nat) = bkC Try.prog (9 : Nat),
      [((1 : Nat), Value.slice (some (Addr.mk (1 : Nat) (0 : Nat) none)) n1 c1),
          ((2 : Nat), Value.slice (some (Addr.mk (2 : Nat) (0 : Nat) none)) n2 c2), ((7 : Nat), Value.bool true)] =
        bk12 (Sa.mk true n1 c1 xs1) (Sa.mk true n2 c2 xs2),
      (3 : Nat) ≤ (12 : Nat) ∧ (12 : Nat) ≤ (20 : Nat),
      rowAt
        (rowsN (12 : Nat) []
          (rowsN (11 : Nat)
            [idRow
                (idL
                  (List.take (avLen (Av.sl (List.take (n0 * (2 : Nat)) xs0) n0) * (16 : Nat))
                    (oiL (List.take (n0 * (2 : Nat)) xs0) (0 : Nat)
                      (avLen (Av.sl (List.take (n0 * (2 : Nat)) xs0) n0))))
                  (0 : Nat)
                  (avLen
                      (Av.sl
                        (List.take (avLen (Av.sl (List.take (n0 * (2 : Nat)) xs0) n0) * (16 : Nat))
                          (oiL (List.take (n0 * (2 : Nat)) xs0) (0 : Nat)
                            (avLen (Av.sl (List.take (n0 * (2 : Nat)) xs0) n0))))
                        (avLen (Av.sl (List.take (n0 * (2 : Nat)) xs0) n0) * (16 : Nat))) /
                    (16 : Nat)))]
            (rowsN (10 : Nat)
              [byRow
                  (oiL (List.take (n0 * (2 : Nat)) xs0) (0 : Nat) (avLen (Av.sl (List.take (n0 * (2 : Nat)) xs0) n0)))]
              (saH (0 : Nat) (Sa.mk true n0 c0 xs0)
                (saH (1 : Nat) (Sa.mk true n1 c1 xs1) (saH (2 : Nat) (Sa.mk true n2 c2 xs2) []))))))
        (1 : Nat) (Sa.mk true n1 c1 xs1),
      rowAt
        (rowsN (12 : Nat) []
          (rowsN (11 : Nat)
            [idRow
                (idL
                  (List.take (avLen (Av.sl (List.take (n0 * (2 : Nat)) xs0) n0) * (16 : Nat))
                    (oiL (List.take (n0 * (2 : Nat)) xs0) (0 : Nat)
                      (avLen (Av.sl (List.take (n0 * (2 : Nat)) xs0) n0))))
                  (0 : Nat)
                  (avLen
                      (Av.sl
                        (List.take (avLen (Av.sl (List.take (n0 * (2 : Nat)) xs0) n0) * (16 : Nat))
                          (oiL (List.take (n0 * (2 : Nat)) xs0) (0 : Nat)
                            (avLen (Av.sl (List.take (n0 * (2 : Nat)) xs0) n0))))
                        (avLen (Av.sl (List.take (n0 * (2 : Nat)) xs0) n0) * (16 : Nat))) /
                    (16 : Nat)))]
            (rowsN (10 : Nat)
              [byRow
                  (oiL (List.take (n0 * (2 : Nat)) xs0) (0 : Nat) (avLen (Av.sl (List.take (n0 * (2 : Nat)) xs0) n0)))]
              (saH (0 : Nat) (Sa.mk true n0 c0 xs0)
                (saH (1 : Nat) (Sa.mk true n1 c1 xs1) (saH (2 : Nat) (Sa.mk true n2 c2 xs2) []))))))
        (2 : Nat) (Sa.mk true n2 c2 xs2),
      SaOk (Ints IntKind.i64) (3 : Nat) (80 : Nat) (Sa.mk true n1 c1 xs1),
      SaOk Byts (1 : Nat) (1000 : Nat) (Sa.mk true n2 c2 xs2)]) := by kernel_rfl
def bk4L (P : Program) : LFun := mkS 7 4 134 [0, 1, 2, 7] (bkC P 4) (tlSpec bkP012 (fun a => bk012 a.1 a.2.1 a.2.2) bkR012 10 60 [(6, .bool true)])
theorem bk_go000  : runZ (bkV (bk4L Try.prog)) Try.prog 5 7 [saV 0 ⟨false, 0, 0, []⟩, saV 1 ⟨false, 0, 0, []⟩, saV 2 ⟨false, 0, 0, []⟩] (saH 0 ⟨false, 0, 0, []⟩ (saH 1 ⟨false, 0, 0, []⟩ (saH 2 ⟨false, 0, 0, []⟩ []))) 3 [false, false, false] =
Res.ok
  ((Value.bool true, [], (60 : Nat), []), [],
    [false = false, false = false, false = false, bkC Try.prog (4 : Nat) = bkC Try.prog (4 : Nat),
      [((0 : Nat), Value.slice none (0 : Nat) (0 : Nat)), ((1 : Nat), Value.slice none (0 : Nat) (0 : Nat)),
          ((2 : Nat), Value.slice none (0 : Nat) (0 : Nat)), ((7 : Nat), Value.bool true)] =
        bk012 (Sa.mk false (0 : Nat) (0 : Nat) []) (Sa.mk false (0 : Nat) (0 : Nat) [])
          (Sa.mk false (0 : Nat) (0 : Nat) []),
      (3 : Nat) ≤ (3 : Nat) ∧ (3 : Nat) ≤ (10 : Nat),
      rowAt
        (rowsN (3 : Nat) []
          (saH (0 : Nat) (Sa.mk false (0 : Nat) (0 : Nat) [])
            (saH (1 : Nat) (Sa.mk false (0 : Nat) (0 : Nat) [])
              (saH (2 : Nat) (Sa.mk false (0 : Nat) (0 : Nat) []) []))))
        (0 : Nat) (Sa.mk false (0 : Nat) (0 : Nat) []),
      rowAt
        (rowsN (3 : Nat) []
          (saH (0 : Nat) (Sa.mk false (0 : Nat) (0 : Nat) [])
            (saH (1 : Nat) (Sa.mk false (0 : Nat) (0 : Nat) [])
              (saH (2 : Nat) (Sa.mk false (0 : Nat) (0 : Nat) []) []))))
        (1 : Nat) (Sa.mk false (0 : Nat) (0 : Nat) []),
      rowAt
        (rowsN (3 : Nat) []
          (saH (0 : Nat) (Sa.mk false (0 : Nat) (0 : Nat) [])
            (saH (1 : Nat) (Sa.mk false (0 : Nat) (0 : Nat) [])
              (saH (2 : Nat) (Sa.mk false (0 : Nat) (0 : Nat) []) []))))
        (2 : Nat) (Sa.mk false (0 : Nat) (0 : Nat) []),
      SaOk U64s (2 : Nat) (20 : Nat) (Sa.mk false (0 : Nat) (0 : Nat) []),
      SaOk (Ints IntKind.i64) (3 : Nat) (80 : Nat) (Sa.mk false (0 : Nat) (0 : Nat) []),
      SaOk Byts (1 : Nat) (1000 : Nat) (Sa.mk false (0 : Nat) (0 : Nat) [])]) := by kernel_rfl
theorem bk_go001 (xs2 : List Value) (n2 c2 : Nat) : runZ (bkV (bk4L Try.prog)) Try.prog 5 7 [saV 0 ⟨false, 0, 0, []⟩, saV 1 ⟨false, 0, 0, []⟩, saV 2 ⟨true, n2, c2, xs2⟩] (saH 0 ⟨false, 0, 0, []⟩ (saH 1 ⟨false, 0, 0, []⟩ (saH 2 ⟨true, n2, c2, xs2⟩ []))) 3 [false, false, false] =
Res.ok
  ((Value.bool true, [((2 : Nat), Rw.mk Kd.old xs2)], (60 : Nat), []), [],
    [false = false, false = false, decide ((↑n2 : Int) > (1000 : Int)) = false,
      bkC Try.prog (4 : Nat) = bkC Try.prog (4 : Nat),
      [((0 : Nat), Value.slice none (0 : Nat) (0 : Nat)), ((1 : Nat), Value.slice none (0 : Nat) (0 : Nat)),
          ((2 : Nat), Value.slice (some (Addr.mk (2 : Nat) (0 : Nat) none)) n2 c2), ((7 : Nat), Value.bool true)] =
        bk012 (Sa.mk false (0 : Nat) (0 : Nat) []) (Sa.mk false (0 : Nat) (0 : Nat) []) (Sa.mk true n2 c2 xs2),
      (3 : Nat) ≤ (3 : Nat) ∧ (3 : Nat) ≤ (10 : Nat),
      rowAt
        (rowsN (3 : Nat) []
          (saH (0 : Nat) (Sa.mk false (0 : Nat) (0 : Nat) [])
            (saH (1 : Nat) (Sa.mk false (0 : Nat) (0 : Nat) []) (saH (2 : Nat) (Sa.mk true n2 c2 xs2) []))))
        (0 : Nat) (Sa.mk false (0 : Nat) (0 : Nat) []),
      rowAt
        (rowsN (3 : Nat) []
          (saH (0 : Nat) (Sa.mk false (0 : Nat) (0 : Nat) [])
            (saH (1 : Nat) (Sa.mk false (0 : Nat) (0 : Nat) []) (saH (2 : Nat) (Sa.mk true n2 c2 xs2) []))))
        (1 : Nat) (Sa.mk false (0 : Nat) (0 : Nat) []),
      rowAt
        (rowsN (3 : Nat) []
          (saH (0 : Nat) (Sa.mk false (0 : Nat) (0 : Nat) [])
            (saH (1 : Nat) (Sa.mk false (0 : Nat) (0 : Nat) []) (saH (2 : Nat) (Sa.mk true n2 c2 xs2) []))))
        (2 : Nat) (Sa.mk true n2 c2 xs2),
      SaOk U64s (2 : Nat) (20 : Nat) (Sa.mk false (0 : Nat) (0 : Nat) []),
      SaOk (Ints IntKind.i64) (3 : Nat) (80 : Nat) (Sa.mk false (0 : Nat) (0 : Nat) []),
      SaOk Byts (1 : Nat) (1000 : Nat) (Sa.mk true n2 c2 xs2)]) := by kernel_rfl
theorem bk_b001 (xs2 : List Value) (n2 c2 : Nat) : runZ (bkV (bk4L Try.prog)) Try.prog 5 7 [saV 0 ⟨false, 0, 0, []⟩, saV 1 ⟨false, 0, 0, []⟩, saV 2 ⟨true, n2, c2, xs2⟩] (saH 0 ⟨false, 0, 0, []⟩ (saH 1 ⟨false, 0, 0, []⟩ (saH 2 ⟨true, n2, c2, xs2⟩ []))) 3 [false, false, true] =
Res.ok
  ((Value.bool true, [((2 : Nat), Rw.mk Kd.old xs2)], (3 : Nat), []), [],
    [false = false, false = false, decide ((↑n2 : Int) > (1000 : Int)) = true]) := by kernel_rfl
theorem bk_go010 (xs1 : List Value) (n1 c1 : Nat) : runZ (bkV (bk4L Try.prog)) Try.prog 5 7 [saV 0 ⟨false, 0, 0, []⟩, saV 1 ⟨true, n1, c1, xs1⟩, saV 2 ⟨false, 0, 0, []⟩] (saH 0 ⟨false, 0, 0, []⟩ (saH 1 ⟨true, n1, c1, xs1⟩ (saH 2 ⟨false, 0, 0, []⟩ []))) 3 [false, false, false] =
Res.ok
  ((Value.bool true, [((1 : Nat), Rw.mk Kd.old xs1)], (60 : Nat), []), [],
    [false = false, decide ((↑n1 : Int) > (80 : Int)) = false, false = false,
      bkC Try.prog (4 : Nat) = bkC Try.prog (4 : Nat),
      [((0 : Nat), Value.slice none (0 : Nat) (0 : Nat)),
          ((1 : Nat), Value.slice (some (Addr.mk (1 : Nat) (0 : Nat) none)) n1 c1),
          ((2 : Nat), Value.slice none (0 : Nat) (0 : Nat)), ((7 : Nat), Value.bool true)] =
        bk012 (Sa.mk false (0 : Nat) (0 : Nat) []) (Sa.mk true n1 c1 xs1) (Sa.mk false (0 : Nat) (0 : Nat) []),
      (3 : Nat) ≤ (3 : Nat) ∧ (3 : Nat) ≤ (10 : Nat),
      rowAt
        (rowsN (3 : Nat) []
          (saH (0 : Nat) (Sa.mk false (0 : Nat) (0 : Nat) [])
            (saH (1 : Nat) (Sa.mk true n1 c1 xs1) (saH (2 : Nat) (Sa.mk false (0 : Nat) (0 : Nat) []) []))))
        (0 : Nat) (Sa.mk false (0 : Nat) (0 : Nat) []),
      rowAt
        (rowsN (3 : Nat) []
          (saH (0 : Nat) (Sa.mk false (0 : Nat) (0 : Nat) [])
            (saH (1 : Nat) (Sa.mk true n1 c1 xs1) (saH (2 : Nat) (Sa.mk false (0 : Nat) (0 : Nat) []) []))))
        (1 : Nat) (Sa.mk true n1 c1 xs1),
      rowAt
        (rowsN (3 : Nat) []
          (saH (0 : Nat) (Sa.mk false (0 : Nat) (0 : Nat) [])
            (saH (1 : Nat) (Sa.mk true n1 c1 xs1) (saH (2 : Nat) (Sa.mk false (0 : Nat) (0 : Nat) []) []))))
        (2 : Nat) (Sa.mk false (0 : Nat) (0 : Nat) []),
      SaOk U64s (2 : Nat) (20 : Nat) (Sa.mk false (0 : Nat) (0 : Nat) []),
      SaOk (Ints IntKind.i64) (3 : Nat) (80 : Nat) (Sa.mk true n1 c1 xs1),
      SaOk Byts (1 : Nat) (1000 : Nat) (Sa.mk false (0 : Nat) (0 : Nat) [])]) := by kernel_rfl
theorem bk_m010 (xs1 : List Value) (n1 c1 : Nat) : runZ (bkV (bk4L Try.prog)) Try.prog 5 7 [saV 0 ⟨false, 0, 0, []⟩, saV 1 ⟨true, n1, c1, xs1⟩, saV 2 ⟨false, 0, 0, []⟩] (saH 0 ⟨false, 0, 0, []⟩ (saH 1 ⟨true, n1, c1, xs1⟩ (saH 2 ⟨false, 0, 0, []⟩ []))) 3 [false, true] =
Res.ok
  ((Value.bool true, [((1 : Nat), Rw.mk Kd.old xs1)], (3 : Nat), []), [],
    [false = false, decide ((↑n1 : Int) > (80 : Int)) = true]) := by kernel_rfl
theorem bk_go011 (xs1 : List Value) (n1 c1 : Nat) (xs2 : List Value) (n2 c2 : Nat) : runZ (bkV (bk4L Try.prog)) Try.prog 5 7 [saV 0 ⟨false, 0, 0, []⟩, saV 1 ⟨true, n1, c1, xs1⟩, saV 2 ⟨true, n2, c2, xs2⟩] (saH 0 ⟨false, 0, 0, []⟩ (saH 1 ⟨true, n1, c1, xs1⟩ (saH 2 ⟨true, n2, c2, xs2⟩ []))) 3 [false, false, false] =
Res.ok
  ((Value.bool true, [((1 : Nat), Rw.mk Kd.old xs1), ((2 : Nat), Rw.mk Kd.old xs2)], (60 : Nat), []), [],
    [false = false, decide ((↑n1 : Int) > (80 : Int)) = false, decide ((↑n2 : Int) > (1000 : Int)) = false,
      bkC Try.prog (4 : Nat) = bkC Try.prog (4 : Nat),
      [((0 : Nat), Value.slice none (0 : Nat) (0 : Nat)),
          ((1 : Nat), Value.slice (some (Addr.mk (1 : Nat) (0 : Nat) none)) n1 c1),
          ((2 : Nat), Value.slice (some (Addr.mk (2 : Nat) (0 : Nat) none)) n2 c2), ((7 : Nat), Value.bool true)] =
        bk012 (Sa.mk false (0 : Nat) (0 : Nat) []) (Sa.mk true n1 c1 xs1) (Sa.mk true n2 c2 xs2),
      (3 : Nat) ≤ (3 : Nat) ∧ (3 : Nat) ≤ (10 : Nat),
      rowAt
        (rowsN (3 : Nat) []
          (saH (0 : Nat) (Sa.mk false (0 : Nat) (0 : Nat) [])
            (saH (1 : Nat) (Sa.mk true n1 c1 xs1) (saH (2 : Nat) (Sa.mk true n2 c2 xs2) []))))
        (0 : Nat) (Sa.mk false (0 : Nat) (0 : Nat) []),
      rowAt
        (rowsN (3 : Nat) []
          (saH (0 : Nat) (Sa.mk false (0 : Nat) (0 : Nat) [])
            (saH (1 : Nat) (Sa.mk true n1 c1 xs1) (saH (2 : Nat) (Sa.mk true n2 c2 xs2) []))))
        (1 : Nat) (Sa.mk true n1 c1 xs1),
      rowAt
        (rowsN (3 : Nat) []
          (saH (0 : Nat) (Sa.mk false (0 : Nat) (0 : Nat) [])
            (saH (1 : Nat) (Sa.mk true n1 c1 xs1) (saH (2 : Nat) (Sa.mk true n2 c2 xs2) []))))
        (2 : Nat) (Sa.mk true n2 c2 xs2),
      SaOk U64s (2 : Nat) (20 : Nat) (Sa.mk false (0 : Nat) (0 : Nat) []),
      SaOk (Ints IntKind.i64) (3 : Nat) (80 : Nat) (Sa.mk true n1 c1 xs1),
      SaOk Byts (1 : Nat) (1000 : Nat) (Sa.mk true n2 c2 xs2)]) := by kernel_rfl
theorem bk_m011 (xs1 : List Value) (n1 c1 : Nat) (xs2 : List Value) (n2 c2 : Nat) : runZ (bkV (bk4L Try.prog)) Try.prog 5 7 [saV 0 ⟨false, 0, 0, []⟩, saV 1 ⟨true, n1, c1, xs1⟩, saV 2 ⟨true, n2, c2, xs2⟩] (saH 0 ⟨false, 0, 0, []⟩ (saH 1 ⟨true, n1, c1, xs1⟩ (saH 2 ⟨true, n2, c2, xs2⟩ []))) 3 [false, true] =
Res.ok
  ((Value.bool true, [((1 : Nat), Rw.mk Kd.old xs1), ((2 : Nat), Rw.mk Kd.old xs2)], (3 : Nat), []), [],
    [false = false, decide ((↑n1 : Int) > (80 : Int)) = true]) := by kernel_rfl
theorem bk_b011 (xs1 : List Value) (n1 c1 : Nat) (xs2 : List Value) (n2 c2 : Nat) : runZ (bkV (bk4L Try.prog)) Try.prog 5 7 [saV 0 ⟨false, 0, 0, []⟩, saV 1 ⟨true, n1, c1, xs1⟩, saV 2 ⟨true, n2, c2, xs2⟩] (saH 0 ⟨false, 0, 0, []⟩ (saH 1 ⟨true, n1, c1, xs1⟩ (saH 2 ⟨true, n2, c2, xs2⟩ []))) 3 [false, false, true] =
Res.ok
  ((Value.bool true, [((1 : Nat), Rw.mk Kd.old xs1), ((2 : Nat), Rw.mk Kd.old xs2)], (3 : Nat), []), [],
    [false = false, decide ((↑n1 : Int) > (80 : Int)) = false, decide ((↑n2 : Int) > (1000 : Int)) = true]) := by kernel_rfl
theorem bk_go100 (xs0 : List Value) (n0 c0 : Nat) : runZ (bkV (bk4L Try.prog)) Try.prog 5 7 [saV 0 ⟨true, n0, c0, xs0⟩, saV 1 ⟨false, 0, 0, []⟩, saV 2 ⟨false, 0, 0, []⟩] (saH 0 ⟨true, n0, c0, xs0⟩ (saH 1 ⟨false, 0, 0, []⟩ (saH 2 ⟨false, 0, 0, []⟩ []))) 3 [false, false, false] =
Res.ok
  ((Value.bool true, [((0 : Nat), Rw.mk Kd.old xs0)], (60 : Nat), []), [],
    [decide ((↑n0 : Int) > (20 : Int)) = false, false = false, false = false,
      bkC Try.prog (4 : Nat) = bkC Try.prog (4 : Nat),
      [((0 : Nat), Value.slice (some (Addr.mk (0 : Nat) (0 : Nat) none)) n0 c0),
          ((1 : Nat), Value.slice none (0 : Nat) (0 : Nat)), ((2 : Nat), Value.slice none (0 : Nat) (0 : Nat)),
          ((7 : Nat), Value.bool true)] =
        bk012 (Sa.mk true n0 c0 xs0) (Sa.mk false (0 : Nat) (0 : Nat) []) (Sa.mk false (0 : Nat) (0 : Nat) []),
      (3 : Nat) ≤ (3 : Nat) ∧ (3 : Nat) ≤ (10 : Nat),
      rowAt
        (rowsN (3 : Nat) []
          (saH (0 : Nat) (Sa.mk true n0 c0 xs0)
            (saH (1 : Nat) (Sa.mk false (0 : Nat) (0 : Nat) [])
              (saH (2 : Nat) (Sa.mk false (0 : Nat) (0 : Nat) []) []))))
        (0 : Nat) (Sa.mk true n0 c0 xs0),
      rowAt
        (rowsN (3 : Nat) []
          (saH (0 : Nat) (Sa.mk true n0 c0 xs0)
            (saH (1 : Nat) (Sa.mk false (0 : Nat) (0 : Nat) [])
              (saH (2 : Nat) (Sa.mk false (0 : Nat) (0 : Nat) []) []))))
        (1 : Nat) (Sa.mk false (0 : Nat) (0 : Nat) []),
      rowAt
        (rowsN (3 : Nat) []
          (saH (0 : Nat) (Sa.mk true n0 c0 xs0)
            (saH (1 : Nat) (Sa.mk false (0 : Nat) (0 : Nat) [])
              (saH (2 : Nat) (Sa.mk false (0 : Nat) (0 : Nat) []) []))))
        (2 : Nat) (Sa.mk false (0 : Nat) (0 : Nat) []),
      SaOk U64s (2 : Nat) (20 : Nat) (Sa.mk true n0 c0 xs0),
      SaOk (Ints IntKind.i64) (3 : Nat) (80 : Nat) (Sa.mk false (0 : Nat) (0 : Nat) []),
      SaOk Byts (1 : Nat) (1000 : Nat) (Sa.mk false (0 : Nat) (0 : Nat) [])]) := by kernel_rfl
theorem bk_l100 (xs0 : List Value) (n0 c0 : Nat) : runZ (bkV (bk4L Try.prog)) Try.prog 5 7 [saV 0 ⟨true, n0, c0, xs0⟩, saV 1 ⟨false, 0, 0, []⟩, saV 2 ⟨false, 0, 0, []⟩] (saH 0 ⟨true, n0, c0, xs0⟩ (saH 1 ⟨false, 0, 0, []⟩ (saH 2 ⟨false, 0, 0, []⟩ []))) 3 [true] =
Res.ok
  ((Value.bool true, [((0 : Nat), Rw.mk Kd.old xs0)], (3 : Nat), []), [], [decide ((↑n0 : Int) > (20 : Int)) = true]) := by kernel_rfl
theorem bk_go101 (xs0 : List Value) (n0 c0 : Nat) (xs2 : List Value) (n2 c2 : Nat) : runZ (bkV (bk4L Try.prog)) Try.prog 5 7 [saV 0 ⟨true, n0, c0, xs0⟩, saV 1 ⟨false, 0, 0, []⟩, saV 2 ⟨true, n2, c2, xs2⟩] (saH 0 ⟨true, n0, c0, xs0⟩ (saH 1 ⟨false, 0, 0, []⟩ (saH 2 ⟨true, n2, c2, xs2⟩ []))) 3 [false, false, false] =
Res.ok
  ((Value.bool true, [((0 : Nat), Rw.mk Kd.old xs0), ((2 : Nat), Rw.mk Kd.old xs2)], (60 : Nat), []), [],
    [decide ((↑n0 : Int) > (20 : Int)) = false, false = false, decide ((↑n2 : Int) > (1000 : Int)) = false,
      bkC Try.prog (4 : Nat) = bkC Try.prog (4 : Nat),
      [((0 : Nat), Value.slice (some (Addr.mk (0 : Nat) (0 : Nat) none)) n0 c0),
          ((1 : Nat), Value.slice none (0 : Nat) (0 : Nat)),
          ((2 : Nat), Value.slice (some (Addr.mk (2 : Nat) (0 : Nat) none)) n2 c2), ((7 : Nat), Value.bool true)] =
        bk012 (Sa.mk true n0 c0 xs0) (Sa.mk false (0 : Nat) (0 : Nat) []) (Sa.mk true n2 c2 xs2),
      (3 : Nat) ≤ (3 : Nat) ∧ (3 : Nat) ≤ (10 : Nat),
      rowAt
        (rowsN (3 : Nat) []
          (saH (0 : Nat) (Sa.mk true n0 c0 xs0)
            (saH (1 : Nat) (Sa.mk false (0 : Nat) (0 : Nat) []) (saH (2 : Nat) (Sa.mk true n2 c2 xs2) []))))
        (0 : Nat) (Sa.mk true n0 c0 xs0),
      rowAt
        (rowsN (3 : Nat) []
          (saH (0 : Nat) (Sa.mk true n0 c0 xs0)
            (saH (1 : Nat) (Sa.mk false (0 : Nat) (0 : Nat) []) (saH (2 : Nat) (Sa.mk true n2 c2 xs2) []))))
        (1 : Nat) (Sa.mk false (0 : Nat) (0 : Nat) []),
      rowAt
        (rowsN (3 : Nat) []
          (saH (0 : Nat) (Sa.mk true n0 c0 xs0)
            (saH (1 : Nat) (Sa.mk false (0 : Nat) (0 : Nat) []) (saH (2 : Nat) (Sa.mk true n2 c2 xs2) []))))
        (2 : Nat) (Sa.mk true n2 c2 xs2),
      SaOk U64s (2 : Nat) (20 : Nat) (Sa.mk true n0 c0 xs0),
      SaOk (Ints IntKind.i64) (3 : Nat) (80 : Nat) (Sa.mk false (0 : Nat) (0 : Nat) []),
      SaOk Byts (1 : Nat) (1000 : Nat) (Sa.mk true n2 c2 xs2)]) := by kernel_rfl
theorem bk_l101 (xs0 : List Value) (n0 c0 : Nat) (xs2 : List Value) (n2 c2 : Nat) : runZ (bkV (bk4L Try.prog)) Try.prog 5 7 [saV 0 ⟨true, n0, c0, xs0⟩, saV 1 ⟨false, 0, 0, []⟩, saV 2 ⟨true, n2, c2, xs2⟩] (saH 0 ⟨true, n0, c0, xs0⟩ (saH 1 ⟨false, 0, 0, []⟩ (saH 2 ⟨true, n2, c2, xs2⟩ []))) 3 [true] =
Res.ok
  ((Value.bool true, [((0 : Nat), Rw.mk Kd.old xs0), ((2 : Nat), Rw.mk Kd.old xs2)], (3 : Nat), []), [],
    [decide ((↑n0 : Int) > (20 : Int)) = true]) := by kernel_rfl
theorem bk_b101 (xs0 : List Value) (n0 c0 : Nat) (xs2 : List Value) (n2 c2 : Nat) : runZ (bkV (bk4L Try.prog)) Try.prog 5 7 [saV 0 ⟨true, n0, c0, xs0⟩, saV 1 ⟨false, 0, 0, []⟩, saV 2 ⟨true, n2, c2, xs2⟩] (saH 0 ⟨true, n0, c0, xs0⟩ (saH 1 ⟨false, 0, 0, []⟩ (saH 2 ⟨true, n2, c2, xs2⟩ []))) 3 [false, false, true] =
Res.ok
  ((Value.bool true, [((0 : Nat), Rw.mk Kd.old xs0), ((2 : Nat), Rw.mk Kd.old xs2)], (3 : Nat), []), [],
    [decide ((↑n0 : Int) > (20 : Int)) = false, false = false, decide ((↑n2 : Int) > (1000 : Int)) = true]) := by kernel_rfl
theorem bk_go110 (xs0 : List Value) (n0 c0 : Nat) (xs1 : List Value) (n1 c1 : Nat) : runZ (bkV (bk4L Try.prog)) Try.prog 5 7 [saV 0 ⟨true, n0, c0, xs0⟩, saV 1 ⟨true, n1, c1, xs1⟩, saV 2 ⟨false, 0, 0, []⟩] (saH 0 ⟨true, n0, c0, xs0⟩ (saH 1 ⟨true, n1, c1, xs1⟩ (saH 2 ⟨false, 0, 0, []⟩ []))) 3 [false, false, false] =
Res.ok
  ((Value.bool true, [((0 : Nat), Rw.mk Kd.old xs0), ((1 : Nat), Rw.mk Kd.old xs1)], (60 : Nat), []), [],
    [decide ((↑n0 : Int) > (20 : Int)) = false, decide ((↑n1 : Int) > (80 : Int)) = false, false = false,
      bkC Try.prog (4 : Nat) = bkC Try.prog (4 : Nat),
      [((0 : Nat), Value.slice (some (Addr.mk (0 : Nat) (0 : Nat) none)) n0 c0),
          ((1 : Nat), Value.slice (some (Addr.mk (1 : Nat) (0 : Nat) none)) n1 c1),
          ((2 : Nat), Value.slice none (0 : Nat) (0 : Nat)), ((7 : Nat), Value.bool true)] =
        bk012 (Sa.mk true n0 c0 xs0) (Sa.mk true n1 c1 xs1) (Sa.mk false (0 : Nat) (0 : Nat) []),
      (3 : Nat) ≤ (3 : Nat) ∧ (3 : Nat) ≤ (10 : Nat),
      rowAt
        (rowsN (3 : Nat) []
          (saH (0 : Nat) (Sa.mk true n0 c0 xs0)
            (saH (1 : Nat) (Sa.mk true n1 c1 xs1) (saH (2 : Nat) (Sa.mk false (0 : Nat) (0 : Nat) []) []))))
        (0 : Nat) (Sa.mk true n0 c0 xs0),
      rowAt
        (rowsN (3 : Nat) []
          (saH (0 : Nat) (Sa.mk true n0 c0 xs0)
            (saH (1 : Nat) (Sa.mk true n1 c1 xs1) (saH (2 : Nat) (Sa.mk false (0 : Nat) (0 : Nat) []) []))))
        (1 : Nat) (Sa.mk true n1 c1 xs1),
      rowAt
        (rowsN (3 : Nat) []
          (saH (0 : Nat) (Sa.mk true n0 c0 xs0)
            (saH (1 : Nat) (Sa.mk true n1 c1 xs1) (saH (2 : Nat) (Sa.mk false (0 : Nat) (0 : Nat) []) []))))
        (2 : Nat) (Sa.mk false (0 : Nat) (0 : Nat) []),
      SaOk U64s (2 : Nat) (20 : Nat) (Sa.mk true n0 c0 xs0),
      SaOk (Ints IntKind.i64) (3 : Nat) (80 : Nat) (Sa.mk true n1 c1 xs1),
      SaOk Byts (1 : Nat) (1000 : Nat) (Sa.mk false (0 : Nat) (0 : Nat) [])]) := by kernel_rfl
theorem bk_l110 (xs0 : List Value) (n0 c0 : Nat) (xs1 : List Value) (n1 c1 : Nat) : runZ (bkV (bk4L Try.prog)) Try.prog 5 7 [saV 0 ⟨true, n0, c0, xs0⟩, saV 1 ⟨true, n1, c1, xs1⟩, saV 2 ⟨false, 0, 0, []⟩] (saH 0 ⟨true, n0, c0, xs0⟩ (saH 1 ⟨true, n1, c1, xs1⟩ (saH 2 ⟨false, 0, 0, []⟩ []))) 3 [true] =
Res.ok
  ((Value.bool true, [((0 : Nat), Rw.mk Kd.old xs0), ((1 : Nat), Rw.mk Kd.old xs1)], (3 : Nat), []), [],
    [decide ((↑n0 : Int) > (20 : Int)) = true]) := by kernel_rfl
theorem bk_m110 (xs0 : List Value) (n0 c0 : Nat) (xs1 : List Value) (n1 c1 : Nat) : runZ (bkV (bk4L Try.prog)) Try.prog 5 7 [saV 0 ⟨true, n0, c0, xs0⟩, saV 1 ⟨true, n1, c1, xs1⟩, saV 2 ⟨false, 0, 0, []⟩] (saH 0 ⟨true, n0, c0, xs0⟩ (saH 1 ⟨true, n1, c1, xs1⟩ (saH 2 ⟨false, 0, 0, []⟩ []))) 3 [false, true] =
Res.ok
  ((Value.bool true, [((0 : Nat), Rw.mk Kd.old xs0), ((1 : Nat), Rw.mk Kd.old xs1)], (3 : Nat), []), [],
    [decide ((↑n0 : Int) > (20 : Int)) = false, decide ((↑n1 : Int) > (80 : Int)) = true]) := by kernel_rfl
theorem bk_go111 (xs0 : List Value) (n0 c0 : Nat) (xs1 : List Value) (n1 c1 : Nat) (xs2 : List Value) (n2 c2 : Nat) : runZ (bkV (bk4L Try.prog)) Try.prog 5 7 [saV 0 ⟨true, n0, c0, xs0⟩, saV 1 ⟨true, n1, c1, xs1⟩, saV 2 ⟨true, n2, c2, xs2⟩] (saH 0 ⟨true, n0, c0, xs0⟩ (saH 1 ⟨true, n1, c1, xs1⟩ (saH 2 ⟨true, n2, c2, xs2⟩ []))) 3 [false, false, false] =
Res.ok
  ((Value.bool true, [((0 : Nat), Rw.mk Kd.old xs0), ((1 : Nat), Rw.mk Kd.old xs1), ((2 : Nat), Rw.mk Kd.old xs2)],
      (60 : Nat), []),
    [],
    [decide ((↑n0 : Int) > (20 : Int)) = false, decide ((↑n1 : Int) > (80 : Int)) = false,
      decide ((↑n2 : Int) > (1000 : Int)) = false, bkC Try.prog (4 : Nat) = bkC Try.prog (4 : Nat),
      [((0 : Nat), Value.slice (some (Addr.mk (0 : Nat) (0 : Nat) none)) n0 c0),
          ((1 : Nat), Value.slice (some (Addr.mk (1 : Nat) (0 : Nat) none)) n1 c1),
          ((2 : Nat), Value.slice (some (Addr.mk (2 : Nat) (0 : Nat) none)) n2 c2), ((7 : Nat), Value.bool true)] =
        bk012 (Sa.mk true n0 c0 xs0) (Sa.mk true n1 c1 xs1) (Sa.mk true n2 c2 xs2),
      (3 : Nat) ≤ (3 : Nat) ∧ (3 : Nat) ≤ (10 : Nat),
      rowAt
        (rowsN (3 : Nat) []
          (saH (0 : Nat) (Sa.mk true n0 c0 xs0)
            (saH (1 : Nat) (Sa.mk true n1 c1 xs1) (saH (2 : Nat) (Sa.mk true n2 c2 xs2) []))))
        (0 : Nat) (Sa.mk true n0 c0 xs0),
      rowAt
        (rowsN (3 : Nat) []
          (saH (0 : Nat) (Sa.mk true n0 c0 xs0)
            (saH (1 : Nat) (Sa.mk true n1 c1 xs1) (saH (2 : Nat) (Sa.mk true n2 c2 xs2) []))))
        (1 : Nat) (Sa.mk true n1 c1 xs1),
      rowAt
        (rowsN (3 : Nat) []
          (saH (0 : Nat) (Sa.mk true n0 c0 xs0)
            (saH (1 : Nat) (Sa.mk true n1 c1 xs1) (saH (2 : Nat) (Sa.mk true n2 c2 xs2) []))))
        (2 : Nat) (Sa.mk true n2 c2 xs2),
      SaOk U64s (2 : Nat) (20 : Nat) (Sa.mk true n0 c0 xs0),
      SaOk (Ints IntKind.i64) (3 : Nat) (80 : Nat) (Sa.mk true n1 c1 xs1),
      SaOk Byts (1 : Nat) (1000 : Nat) (Sa.mk true n2 c2 xs2)]) := by kernel_rfl
theorem bk_l111 (xs0 : List Value) (n0 c0 : Nat) (xs1 : List Value) (n1 c1 : Nat) (xs2 : List Value) (n2 c2 : Nat) : runZ (bkV (bk4L Try.prog)) Try.prog 5 7 [saV 0 ⟨true, n0, c0, xs0⟩, saV 1 ⟨true, n1, c1, xs1⟩, saV 2 ⟨true, n2, c2, xs2⟩] (saH 0 ⟨true, n0, c0, xs0⟩ (saH 1 ⟨true, n1, c1, xs1⟩ (saH 2 ⟨true, n2, c2, xs2⟩ []))) 3 [true] =
Res.ok
  ((Value.bool true, [((0 : Nat), Rw.mk Kd.old xs0), ((1 : Nat), Rw.mk Kd.old xs1), ((2 : Nat), Rw.mk Kd.old xs2)],
      (3 : Nat), []),
    [], [decide ((↑n0 : Int) > (20 : Int)) = true]) := by kernel_rfl
theorem bk_m111 (xs0 : List Value) (n0 c0 : Nat) (xs1 : List Value) (n1 c1 : Nat) (xs2 : List Value) (n2 c2 : Nat) : runZ (bkV (bk4L Try.prog)) Try.prog 5 7 [saV 0 ⟨true, n0, c0, xs0⟩, saV 1 ⟨true, n1, c1, xs1⟩, saV 2 ⟨true, n2, c2, xs2⟩] (saH 0 ⟨true, n0, c0, xs0⟩ (saH 1 ⟨true, n1, c1, xs1⟩ (saH 2 ⟨true, n2, c2, xs2⟩ []))) 3 [false, true] =
Res.ok
  ((Value.bool true, [((0 : Nat), Rw.mk Kd.old xs0), ((1 : Nat), Rw.mk Kd.old xs1), ((2 : Nat), Rw.mk Kd.old xs2)],
      (3 : Nat), []),
    [], [decide ((↑n0 : Int) > (20 : Int)) = false, decide ((↑n1 : Int) > (80 : Int)) = true]) := by kernel_rfl
theorem bk_b111 (xs0 : List Value) (n0 c0 : Nat) (xs1 : List Value) (n1 c1 : Nat) (xs2 : List Value) (n2 c2 : Nat) : runZ (bkV (bk4L Try.prog)) Try.prog 5 7 [saV 0 ⟨true, n0, c0, xs0⟩, saV 1 ⟨true, n1, c1, xs1⟩, saV 2 ⟨true, n2, c2, xs2⟩] (saH 0 ⟨true, n0, c0, xs0⟩ (saH 1 ⟨true, n1, c1, xs1⟩ (saH 2 ⟨true, n2, c2, xs2⟩ []))) 3 [false, false, true] =
Res.ok
  ((Value.bool true, [((0 : Nat), Rw.mk Kd.old xs0), ((1 : Nat), Rw.mk Kd.old xs1), ((2 : Nat), Rw.mk Kd.old xs2)],
      (3 : Nat), []),
    [],
    [decide ((↑n0 : Int) > (20 : Int)) = false, decide ((↑n1 : Int) > (80 : Int)) = false,
      decide ((↑n2 : Int) > (1000 : Int)) = true]) := by kernel_rfl
theorem bk_names {k0 k1 k2 : Nat} {a b c : Sa} {lo : Nat} (h0 : k0 < lo) (h1 : k1 < lo) (h2 : k2 < lo) : ∀ n, n ∈ (saH k0 a (saH k1 b (saH k2 c []))).map (·.1) → n < lo := by
  intro n
  unfold saH
  cases a.b <;> cases b.b <;> cases c.b <;> intro hn <;> simp only [cond_true, cond_false, List.map_cons, List.map_nil, List.mem_cons, List.not_mem_nil, or_false] at hn <;> omega
theorem bk19_ok_ : SSOk Try.prog 134 [2, 7] (bkC Try.prog 19) (tlSpec bkP2 bk2 bkR2 40 60 [(6, .bool true)]) := by
  have hX : ∀ L, XOkZ (bkV L) Try.prog := fun L => noXz_ok rfl
  have hT : ∀ L, TOkZ (bkV L) Try.prog := fun L => T_okV rfl idsT_one
  have hL : LOkZ (bkV noL) Try.prog := noL_okV rfl
  refine tlSpec_ok (fun a h nx h3 hN ho => ?_) (by omega)
  obtain ⟨hrow, hok, _⟩ := ho
  obtain ⟨b, n, c, zs⟩ := a
  have hb : Byts zs := hok.r
  have hl : zs.length = n := by have := hok.l; simp only at this; omega
  have hc : n ≤ c ∧ c ≤ 9223372036854775807 := hok.c
  have hm : n ≤ 1000 := hok.m
  have e1 : zs.take n = zs := take_len hl
  have hel := entL_len zs (n / 12) 0
  have e2 : (entL zs 0 (n / 12)).take (n / 12 * 3) = entL zs 0 (n / 12) := take_len hel
  have hol := ofL_len (entL zs 0 (n / 12)) (n / 12) 0
  have e3 : (ofL (entL zs 0 (n / 12)) 0 (n / 12)).take (n / 12 * 12) = ofL (entL zs 0 (n / 12)) 0 (n / 12) := take_len hol
  have e4 : True := trivial
  have f1 := fl_byts hb
  have i2 := entL_Ints zs (n / 12) 0
  have f2 := i2.fl
  have b3 := ofL_Byts (entL zs 0 (n / 12)) (n / 12) 0
  have f3 := fl_byts b3
  have key : ∃ hC, TailAt Try.prog (bkC Try.prog 19) 60 134 (bk2 ⟨b, n, c, zs⟩) hC 40 (.ret, [(6, .bool true)]) ∧ hC = saH 2 ⟨b, n, c, zs⟩ [] := by
    refine ⟨_, ?_, rfl⟩
    cases b with
    | false =>
      obtain ⟨r1, r2, r3⟩ := hok.z rfl
      simp only at r1 r2 r3
      subst r1; subst r2; subst r3
      refine tail_of (fun inr => code_runs (hX _) hL (runZ_ok (hX _) (hT _) hL mixed 5) mixed (bk19_n inr) ?_) rfl (by omega) fun σ => rfl
      simp only [Alls, avLen, Nat.zero_add, List.take_zero, List.nil_append, List.length_nil, Nat.zero_mul, Nat.zero_div, e1, e2, e3, e4]
      repeat' (first | with_reducible exact trivial | with_reducible apply And.intro)
      all_goals first | with_reducible assumption | omega | with_reducible rfl | (first | exact k0 | exact k1 | exact k2 | exact k3 | fail | exact decide_eq_true rfl | exact Byts.nil | exact Fl.of rfl | rfl | (simp [Ints, intsOf]; done))
    | true =>
      cases k0 : decide (n % 12 = 0)
      · refine tail_of (fun inr => code_runs (hX _) hL (runZ_ok (hX _) (hT _) hL mixed 5) mixed (bk19_bad inr zs n c) ?_) rfl (by omega) fun σ => rfl
        simp only [Alls, avLen, Nat.zero_add, List.take_zero, List.nil_append, List.length_nil, Nat.zero_mul, Nat.zero_div, e1, e2, e3, e4]
        repeat' (first | with_reducible exact trivial | with_reducible apply And.intro)
        all_goals first | with_reducible assumption | omega | with_reducible rfl | (first | exact k0 | exact k1 | exact k2 | exact k3 | fail | exact decide_eq_true rfl | exact Byts.nil | exact Fl.of rfl | rfl | (simp [Ints, intsOf]; done))
      have k0' : n % 12 = 0 := by simpa using k0
      cases k1 : decide (n = 0)
      · have k1' : n ≠ 0 := by simpa using k1
        cases k2 : enOk zs n
        · refine tail_of (fun inr => code_runs (hX _) hL (runZ_ok (hX _) (hT _) hL mixed 5) mixed (bk19_not inr zs n c) ?_) rfl (by omega) fun σ => rfl
          simp only [Alls, avLen, Nat.zero_add, List.take_zero, List.nil_append, List.length_nil, Nat.zero_mul, Nat.zero_div, e1, e2, e3, e4]
          repeat' (first | with_reducible exact trivial | with_reducible apply And.intro)
          all_goals first | with_reducible assumption | omega | with_reducible rfl | (first | exact k0 | exact k1 | exact k2 | exact k3 | fail | exact decide_eq_true rfl | exact Byts.nil | exact Fl.of rfl | rfl | (simp [Ints, intsOf]; done))
        · have k3 : decide (n / 12 = 0) = false := by simp only [decide_eq_false_iff_not]; omega
          have hp : ofL (entL zs 0 (n / 12)) 0 (n / 12) = zs := by
            rw [ofL_entL hb _ _ (by omega)]
            simp only [List.drop_zero]
            exact take_len (by omega)
          have k4 : logB (entL zs 0 (n / 12)) (n / 12) = true := k2
          refine tail_of (fun inr => code_runs (hX _) hL (runZ_ok (hX _) (hT _) hL mixed 5) mixed (bk19_ok inr zs n c) ?_) rfl (by omega) fun σ => rfl
          simp only [Alls, avLen, Nat.zero_add, List.take_zero, List.nil_append, List.length_nil, Nat.zero_mul, Nat.zero_div, e1, e2, e3, e4]
          repeat' (first | with_reducible exact trivial | with_reducible apply And.intro)
          all_goals first | with_reducible assumption | omega | with_reducible rfl | (first | exact k0 | exact k1 | exact k2 | exact k3 | (first | exact k4 | (rw [hp]; exact decide_eq_true rfl)) | exact decide_eq_true rfl | exact Byts.nil | exact Fl.of rfl | rfl | (simp [Ints, intsOf]; done))
      · obtain rfl : n = 0 := by simpa using k1
        obtain rfl : zs = [] := List.length_eq_zero_iff.1 hl
        refine tail_of (fun inr => code_runs (hX _) hL (runZ_ok (hX _) (hT _) hL mixed 5) mixed (bk19_nil inr [] 0 c) ?_) rfl (by omega) fun σ => rfl
        simp only [Alls, avLen, Nat.zero_add, List.take_zero, List.nil_append, List.length_nil, Nat.zero_mul, Nat.zero_div, e1, e2, e3, e4]
        repeat' (first | with_reducible exact trivial | with_reducible apply And.intro)
        all_goals first | with_reducible assumption | omega | with_reducible rfl | (first | exact k0 | exact k1 | exact k2 | exact k3 | fail | exact decide_eq_true rfl | exact Byts.nil | exact Fl.of rfl | rfl | (simp [Ints, intsOf]; done))
  obtain ⟨hC, T, rfl⟩ := key
  refine ⟨_, T, ⟨rfl, saV_rb (fun _ => sgf_old (by omega)) hok.c.2, rfl, rfl, trivial⟩, saH_rb (by omega) hrow f1 trivial, injN_of (fun m hm => ?_) ?_⟩
  · unfold saH at hm; cases b <;> simp only [cond_true, cond_false, List.map_cons, List.map_nil, List.mem_cons, List.not_mem_nil, or_false] at hm; omega
  · unfold saH; cases b <;> rfl
theorem bk14_ok_ : SSOk Try.prog 134 [2, 7] (bkC Try.prog 14) (tlSpec bkP2 bk2 bkR2 30 60 [(6, .bool true)]) := by
  have hX : ∀ L, XOkZ (bkV L) Try.prog := fun L => noXz_ok rfl
  have hT : ∀ L, TOkZ (bkV L) Try.prog := fun L => T_okV rfl idsT_one
  have hL : LOkZ (bkV (bk19L Try.prog)) Try.prog := L_okV rfl (mkS_ok bk19_ok_)
  refine tlSpec_ok (fun a h nx h3 hN ho => ?_) (by omega)
  obtain ⟨hrow, hok, _⟩ := ho
  obtain ⟨b, n, c, zs⟩ := a
  have hb : Byts zs := hok.r
  have hl : zs.length = n := by have := hok.l; simp only at this; omega
  have hc : n ≤ c ∧ c ≤ 9223372036854775807 := hok.c
  have hm : n ≤ 1000 := hok.m
  have e1 : zs.take n = zs := take_len hl
  have hel := idL_len zs (n / 16) 0
  have e2 : (idL zs 0 (n / 16)).take (n / 16 * 2) = idL zs 0 (n / 16) := take_len hel
  have hol := oiL_len (idL zs 0 (n / 16)) (n / 16) 0
  have e3 : (oiL (idL zs 0 (n / 16)) 0 (n / 16)).take (n / 16 * 16) = oiL (idL zs 0 (n / 16)) 0 (n / 16) := take_len hol
  have e4 : True := trivial
  have f1 := fl_byts hb
  have i2 := idL_Ints zs (n / 16) 0
  have f2 := i2.fl
  have b3 := oiL_Byts (idL zs 0 (n / 16)) (n / 16) 0
  have f3 := fl_byts b3
  have key : ∃ hC, TailAt Try.prog (bkC Try.prog 14) 60 134 (bk2 ⟨b, n, c, zs⟩) hC 30 (.ret, [(6, .bool true)]) ∧ hC = saH 2 ⟨b, n, c, zs⟩ [] := by
    refine ⟨_, ?_, rfl⟩
    cases b with
    | false =>
      obtain ⟨r1, r2, r3⟩ := hok.z rfl
      simp only at r1 r2 r3
      subst r1; subst r2; subst r3
      refine tail_of (fun inr => code_runs (hX _) hL (runZ_ok (hX _) (hT _) hL mixed 5) mixed (bk14_n inr) ?_) rfl (by omega) fun σ => rfl
      simp only [Alls, avLen, Nat.zero_add, List.take_zero, List.nil_append, List.length_nil, Nat.zero_mul, Nat.zero_div, e1, e2, e3, e4]
      repeat' (first | with_reducible exact trivial | with_reducible apply And.intro)
      all_goals first | with_reducible assumption | omega | with_reducible rfl | (first | exact k0 | exact k1 | exact k2 | exact k3 | (first | exact fun _ => rfl | exact hok | exact fun e => by cases e) | exact decide_eq_true rfl | exact Byts.nil | exact Fl.of rfl | rfl | (simp [Ints, intsOf]; done))
    | true =>
      have hro : ∀ r : Bool, True := fun _ => trivial
      have hrow' := hrow rfl
      cases k0 : decide (n % 16 = 0)
      · refine tail_of (fun inr => code_runs (hX _) hL (runZ_ok (hX _) (hT _) hL mixed 5) mixed (bk14_bad inr zs n c) ?_) rfl (by omega) fun σ => rfl
        simp only [Alls, avLen, Nat.zero_add, List.take_zero, List.nil_append, List.length_nil, Nat.zero_mul, Nat.zero_div, e1, e2, e3, e4]
        repeat' (first | with_reducible exact trivial | with_reducible apply And.intro)
        all_goals first | with_reducible assumption | omega | with_reducible rfl | (first | exact k0 | exact k1 | exact k2 | exact k3 | (first | exact fun _ => rfl | exact hok) | exact decide_eq_true rfl | exact Byts.nil | exact Fl.of rfl | rfl | (simp [Ints, intsOf]; done))
      have k0' : n % 16 = 0 := by simpa using k0
      cases k2 : decide (n ≤ 128)
      · refine tail_of (fun inr => code_runs (hX _) hL (runZ_ok (hX _) (hT _) hL mixed 5) mixed (bk14_long inr zs n c) ?_) rfl (by omega) fun σ => rfl
        simp only [Alls, avLen, Nat.zero_add, List.take_zero, List.nil_append, List.length_nil, Nat.zero_mul, Nat.zero_div, e1, e2, e3, e4]
        repeat' (first | with_reducible exact trivial | with_reducible apply And.intro)
        all_goals first | with_reducible assumption | omega | with_reducible rfl | (first | exact k0 | exact k1 | exact k2 | exact k3 | (first | exact fun _ => rfl | exact hok) | exact decide_eq_true rfl | exact Byts.nil | exact Fl.of rfl | rfl | (simp [Ints, intsOf]; done))
      have k2' : n ≤ 128 := by simpa using k2
      cases k1 : decide (n = 0)
      · have k1' : n ≠ 0 := by simpa using k1
        have k3 : decide (n / 16 = 0) = false := by simp only [decide_eq_false_iff_not]; omega
        have hp : oiL (idL zs 0 (n / 16)) 0 (n / 16) = zs := by
          rw [oiL_idL hb _ _ (by omega)]
          simp only [List.drop_zero]
          exact take_len (by omega)
        refine tail_of (fun inr => code_runs (hX _) hL (runZ_ok (hX _) (hT _) hL mixed 5) mixed (bk14_ok inr zs n c) ?_) rfl (by omega) fun σ => rfl
        simp only [Alls, avLen, Nat.zero_add, List.take_zero, List.nil_append, List.length_nil, Nat.zero_mul, Nat.zero_div, e1, e2, e3, e4]
        repeat' (first | with_reducible exact trivial | with_reducible apply And.intro)
        all_goals first | with_reducible assumption | omega | with_reducible rfl | (first | exact k0 | exact k1 | exact k2 | exact k3 | (first | (rw [hp]; exact decide_eq_true rfl) | exact fun _ => rfl | exact hok) | exact decide_eq_true rfl | exact Byts.nil | exact Fl.of rfl | rfl | (simp [Ints, intsOf]; done))
      · obtain rfl : n = 0 := by simpa using k1
        obtain rfl : zs = [] := List.length_eq_zero_iff.1 hl
        refine tail_of (fun inr => code_runs (hX _) hL (runZ_ok (hX _) (hT _) hL mixed 5) mixed (bk14_nil inr [] 0 c) ?_) rfl (by omega) fun σ => rfl
        simp only [Alls, avLen, Nat.zero_add, List.take_zero, List.nil_append, List.length_nil, Nat.zero_mul, Nat.zero_div, e1, e2, e3, e4]
        repeat' (first | with_reducible exact trivial | with_reducible apply And.intro)
        all_goals first | with_reducible assumption | omega | with_reducible rfl | (first | exact k0 | exact k1 | exact k2 | exact k3 | (first | exact fun _ => rfl | exact hok | exact fun e => by cases e) | exact decide_eq_true rfl | exact Byts.nil | exact Fl.of rfl | rfl | (simp [Ints, intsOf]; done))
  obtain ⟨hC, T, rfl⟩ := key
  refine ⟨_, T, ⟨rfl, saV_rb (fun _ => sgf_old (by omega)) hok.c.2, rfl, rfl, trivial⟩, saH_rb (by omega) hrow f1 trivial, injN_of (fun m hm => ?_) ?_⟩
  · unfold saH at hm; cases b <;> simp only [cond_true, cond_false, List.map_cons, List.map_nil, List.mem_cons, List.not_mem_nil, or_false] at hm; omega
  · unfold saH; cases b <;> rfl
theorem bk9_ok_ : SSOk Try.prog 134 [1, 2, 7] (bkC Try.prog 9) (tlSpec bkP12 (fun a => bk12 a.1 a.2) bkR12 20 60 [(6, .bool true)]) := by
  have hX : ∀ L, XOkZ (bkV L) Try.prog := fun L => noXz_ok rfl
  have hT : ∀ L, TOkZ (bkV L) Try.prog := fun L => T_okV rfl idsT_one
  have hL : LOkZ (bkV (bk14L Try.prog)) Try.prog := L_okV rfl (mkS_ok bk14_ok_)
  refine tlSpec_ok (fun a h nx h3 hN ho => ?_) (by omega)
  obtain ⟨⟨b1, m, c, ys⟩, b2, n2, c2, zs⟩ := a
  obtain ⟨hrow1, hrow2, hok1, hok2, _⟩ := ho
  simp only at hrow1 hrow2 hok1 hok2
  have hy : Ints .i64 ys := hok1.r
  have hl : ys.length = m * 3 := hok1.l
  have hc : m ≤ c ∧ c ≤ 9223372036854775807 := hok1.c
  have hm : m ≤ 80 := hok1.m
  have e1 : ys.take (m * 3) = ys := take_len hl
  have hol := ofL_len ys m 0
  have e2 : (ofL ys 0 m).take (m * 12) = ofL ys 0 m := take_len hol
  have e4 : m * 12 / 12 = m := by omega
  have f1 := hy.fl
  have b3 := ofL_Byts ys m 0
  have f3 := fl_byts b3
  have hz2 : Byts zs := hok2.r
  have key : ∃ hC, TailAt Try.prog (bkC Try.prog 9) 60 134 (bk12 ⟨b1, m, c, ys⟩ ⟨b2, n2, c2, zs⟩) hC 20 (.ret, [(6, .bool true)]) ∧ hC = saH 1 ⟨b1, m, c, ys⟩ (saH 2 ⟨b2, n2, c2, zs⟩ []) := by
    refine ⟨_, ?_, rfl⟩
    cases b1 with
    | false =>
      have e3 : True := trivial
      obtain ⟨r1, r2, r3⟩ := hok1.z rfl
      simp only at r1 r2 r3
      subst r1; subst r2; subst r3
      cases b2 with
      | false =>
        obtain ⟨q1, q2, q3⟩ := hok2.z rfl
        simp only at q1 q2 q3
        subst q1; subst q2; subst q3
        refine tail_of (fun inr => code_runs (hX _) hL (runZ_ok (hX _) (hT _) hL mixed 5) mixed (bk9_n0 inr) ?_) rfl (by omega) fun σ => rfl
        simp only [Alls, avLen, Nat.zero_add, List.take_zero, List.nil_append, List.length_nil, Nat.zero_mul, Nat.zero_div, e1, e2, e3, e4]
        repeat' (first | with_reducible exact trivial | with_reducible apply And.intro)
        all_goals first | with_reducible assumption | omega | with_reducible rfl | (first | exact k0 | exact k1 | exact k2 | exact k3 | (first | exact fun _ => rfl | exact hok2 | (intro e; cases e) | (simp only [rg]; omega)) | exact decide_eq_true rfl | exact Byts.nil | exact Fl.of rfl | rfl | (simp [Ints, intsOf]; done))
      | true =>
        refine tail_of (fun inr => code_runs (hX _) hL (runZ_ok (hX _) (hT _) hL mixed 5) mixed (bk9_n1 inr zs n2 c2) ?_) rfl (by omega) fun σ => rfl
        simp only [Alls, avLen, Nat.zero_add, List.take_zero, List.nil_append, List.length_nil, Nat.zero_mul, Nat.zero_div, e1, e2, e3, e4]
        repeat' (first | with_reducible exact trivial | with_reducible apply And.intro)
        all_goals first | with_reducible assumption | omega | with_reducible rfl | (first | exact k0 | exact k1 | exact k2 | exact k3 | (first | exact fun _ => rfl | exact hok2 | (intro e; cases e) | (simp only [rg]; omega)) | exact decide_eq_true rfl | exact Byts.nil | exact Fl.of rfl | rfl | (simp [Ints, intsOf]; done))
    | true =>
      cases k0 : logB ys m
      · have e3 : True := trivial
        cases b2 with
        | false =>
          obtain ⟨q1, q2, q3⟩ := hok2.z rfl
          simp only at q1 q2 q3
          subst q1; subst q2; subst q3
          refine tail_of (fun inr => code_runs (hX _) hL (runZ_ok (hX _) (hT _) hL mixed 5) mixed (bk9_bad0 inr ys m c) ?_) rfl (by omega) fun σ => rfl
          simp only [Alls, avLen, Nat.zero_add, List.take_zero, List.nil_append, List.length_nil, Nat.zero_mul, Nat.zero_div, e1, e2, e3, e4]
          repeat' (first | with_reducible exact trivial | with_reducible apply And.intro)
          all_goals first | with_reducible assumption | omega | with_reducible rfl | (first | exact k0 | exact k1 | exact k2 | exact k3 | (first | exact fun _ => rfl | exact hok2 | (intro e; cases e) | (simp only [rg]; omega)) | exact decide_eq_true rfl | exact Byts.nil | exact Fl.of rfl | rfl | (simp [Ints, intsOf]; done))
        | true =>
          refine tail_of (fun inr => code_runs (hX _) hL (runZ_ok (hX _) (hT _) hL mixed 5) mixed (bk9_bad1 inr ys m c zs n2 c2) ?_) rfl (by omega) fun σ => rfl
          simp only [Alls, avLen, Nat.zero_add, List.take_zero, List.nil_append, List.length_nil, Nat.zero_mul, Nat.zero_div, e1, e2, e3, e4]
          repeat' (first | with_reducible exact trivial | with_reducible apply And.intro)
          all_goals first | with_reducible assumption | omega | with_reducible rfl | (first | exact k0 | exact k1 | exact k2 | exact k3 | (first | exact fun _ => rfl | exact hok2 | (intro e; cases e) | (simp only [rg]; omega)) | exact decide_eq_true rfl | exact Byts.nil | exact Fl.of rfl | rfl | (simp [Ints, intsOf]; done))
      cases k1 : decide (m = 0)
      · have k1' : m ≠ 0 := by simpa using k1
        obtain ⟨hlog, h64⟩ := logB_true k0
        have e3 : entL (ofL ys 0 m) 0 m = ys := by
          rw [entL_ofL hy m 0 (by omega) fun j h1 h2 => log_bounds m 0 0 hlog (by omega) j h1 (by omega)]
          simp only [Nat.zero_mul, List.drop_zero]
          exact e1
        have k2 : enOk (ofL ys 0 m) (m * 12) = true := by unfold enOk; rw [e4, e3]; exact k0
        have hne : (((m * 12 : Nat) : Int) != ((12 * m : Nat) : Int)) = false := by rw [Nat.mul_comm]; simp
        have k3 : decide (m * 12 = 0) = false := by simp only [decide_eq_false_iff_not]; omega
        cases b2 with
        | false =>
          obtain ⟨q1, q2, q3⟩ := hok2.z rfl
          simp only at q1 q2 q3
          subst q1; subst q2; subst q3
          refine tail_of (fun inr => code_runs (hX _) hL (runZ_ok (hX _) (hT _) hL mixed 5) mixed (bk9_ok0 inr ys m c) ?_) rfl (by omega) fun σ => rfl
          simp only [Alls, avLen, Nat.zero_add, List.take_zero, List.nil_append, List.length_nil, Nat.zero_mul, Nat.zero_div, e1, e2, e3, e4]
          repeat' (first | with_reducible exact trivial | with_reducible apply And.intro)
          all_goals first | with_reducible assumption | omega | with_reducible rfl | (first | exact k0 | exact k1 | exact k2 | exact k3 | (first | exact hne | exact fun _ => rfl | exact hok2 | (intro e; cases e) | (simp only [rg]; omega)) | exact decide_eq_true rfl | exact Byts.nil | exact Fl.of rfl | rfl | (simp [Ints, intsOf]; done))
        | true =>
          refine tail_of (fun inr => code_runs (hX _) hL (runZ_ok (hX _) (hT _) hL mixed 5) mixed (bk9_ok1 inr ys m c zs n2 c2) ?_) rfl (by omega) fun σ => rfl
          simp only [Alls, avLen, Nat.zero_add, List.take_zero, List.nil_append, List.length_nil, Nat.zero_mul, Nat.zero_div, e1, e2, e3, e4]
          repeat' (first | with_reducible exact trivial | with_reducible apply And.intro)
          all_goals first | with_reducible assumption | omega | with_reducible rfl | (first | exact k0 | exact k1 | exact k2 | exact k3 | (first | exact hne | exact fun _ => rfl | exact hok2 | (intro e; cases e) | (simp only [rg]; omega)) | exact decide_eq_true rfl | exact Byts.nil | exact Fl.of rfl | rfl | (simp [Ints, intsOf]; done))
      · have e3 : True := trivial
        obtain rfl : m = 0 := by simpa using k1
        obtain rfl : ys = [] := List.length_eq_zero_iff.1 hl
        cases b2 with
        | false =>
          obtain ⟨q1, q2, q3⟩ := hok2.z rfl
          simp only at q1 q2 q3
          subst q1; subst q2; subst q3
          refine tail_of (fun inr => code_runs (hX _) hL (runZ_ok (hX _) (hT _) hL mixed 5) mixed (bk9_nil0 inr [] 0 c) ?_) rfl (by omega) fun σ => rfl
          simp only [Alls, avLen, Nat.zero_add, List.take_zero, List.nil_append, List.length_nil, Nat.zero_mul, Nat.zero_div, e1, e2, e3, e4]
          repeat' (first | with_reducible exact trivial | with_reducible apply And.intro)
          all_goals first | with_reducible assumption | omega | with_reducible rfl | (first | exact k0 | exact k1 | exact k2 | exact k3 | (first | exact fun _ => rfl | exact hok2 | (intro e; cases e) | (simp only [rg]; omega)) | exact decide_eq_true rfl | exact Byts.nil | exact Fl.of rfl | rfl | (simp [Ints, intsOf]; done))
        | true =>
          refine tail_of (fun inr => code_runs (hX _) hL (runZ_ok (hX _) (hT _) hL mixed 5) mixed (bk9_nil1 inr [] 0 c zs n2 c2) ?_) rfl (by omega) fun σ => rfl
          simp only [Alls, avLen, Nat.zero_add, List.take_zero, List.nil_append, List.length_nil, Nat.zero_mul, Nat.zero_div, e1, e2, e3, e4]
          repeat' (first | with_reducible exact trivial | with_reducible apply And.intro)
          all_goals first | with_reducible assumption | omega | with_reducible rfl | (first | exact k0 | exact k1 | exact k2 | exact k3 | (first | exact fun _ => rfl | exact hok2 | (intro e; cases e) | (simp only [rg]; omega)) | exact decide_eq_true rfl | exact Byts.nil | exact Fl.of rfl | rfl | (simp [Ints, intsOf]; done))
  obtain ⟨hC, T, rfl⟩ := key
  refine ⟨_, T, ⟨rfl, saV_rb (fun _ => sgf_old (by omega)) hok1.c.2, rfl, saV_rb (fun _ => sgf_old (by omega)) hok2.c.2, rfl, rfl, trivial⟩, saH_rb (by omega) hrow1 f1 (saH_rb (by omega) hrow2 (fl_byts hz2) trivial), injN_of (bk_names (k0 := 1) (k1 := 2) (k2 := 2) (c := ⟨false, 0, 0, []⟩) (by omega) (by omega) (by omega)) ?_⟩
  unfold saH; cases b1 <;> cases b2 <;> rfl
theorem bk4_ok_ : SSOk Try.prog 134 [0, 1, 2, 7] (bkC Try.prog 4) (tlSpec bkP012 (fun a => bk012 a.1 a.2.1 a.2.2) bkR012 10 60 [(6, .bool true)]) := by
  have hX : ∀ L, XOkZ (bkV L) Try.prog := fun L => noXz_ok rfl
  have hT : ∀ L, TOkZ (bkV L) Try.prog := fun L => T_okV rfl idsT_one
  have hL : LOkZ (bkV (bk9L Try.prog)) Try.prog := L_okV rfl (mkS_ok bk9_ok_)
  refine tlSpec_ok (fun a h nx h3 hN ho => ?_) (by omega)
  obtain ⟨⟨b0, m, c, ys⟩, ⟨b1, n1, c1, ws⟩, b2, n2, c2, zs⟩ := a
  obtain ⟨hrow0, hrow1, hrow2, hok0, hok1, hok2, _⟩ := ho
  simp only at hrow0 hrow1 hrow2 hok0 hok1 hok2
  have hu : U64s ys := hok0.r
  have hy := hu.1
  have hl : ys.length = m * 2 := hok0.l
  have hc : m ≤ c ∧ c ≤ 9223372036854775807 := hok0.c
  have hm : m ≤ 20 := hok0.m
  have e1 : ys.take (m * 2) = ys := take_len hl
  have hol := oiL_len ys m 0
  have e2 : (oiL ys 0 m).take (m * 16) = oiL ys 0 m := take_len hol
  have e4 : m * 16 / 16 = m := by omega
  have f1 := hy.fl
  have b3 := oiL_Byts ys m 0
  have f3 := fl_byts b3
  have hz1 : Ints .i64 ws := hok1.r
  have hz2 : Byts zs := hok2.r
  have key : ∃ hC, TailAt Try.prog (bkC Try.prog 4) 60 134 (bk012 ⟨b0, m, c, ys⟩ ⟨b1, n1, c1, ws⟩ ⟨b2, n2, c2, zs⟩) hC 10 (.ret, [(6, .bool true)]) ∧ hC = saH 0 ⟨b0, m, c, ys⟩ (saH 1 ⟨b1, n1, c1, ws⟩ (saH 2 ⟨b2, n2, c2, zs⟩ [])) := by
    refine ⟨_, ?_, rfl⟩
    cases b0 with
    | false =>
      have e3 : True := trivial
      obtain ⟨r1, r2, r3⟩ := hok0.z rfl
      simp only at r1 r2 r3
      subst r1; subst r2; subst r3
      cases b1 with
      | false =>
        obtain ⟨p1, p2, p3⟩ := hok1.z rfl
        simp only at p1 p2 p3
        subst p1; subst p2; subst p3
        cases b2 with
        | false =>
          obtain ⟨q1, q2, q3⟩ := hok2.z rfl
          simp only at q1 q2 q3
          subst q1; subst q2; subst q3
          refine tail_of (fun inr => code_runs (hX _) hL (runZ_ok (hX _) (hT _) hL mixed 5) mixed (bk4_n00 inr) ?_) rfl (by omega) fun σ => rfl
          simp only [Alls, avLen, Nat.zero_add, List.take_zero, List.nil_append, List.length_nil, Nat.zero_mul, Nat.zero_div, e1, e2, e3, e4]
          repeat' (first | with_reducible exact trivial | with_reducible apply And.intro)
          all_goals first | with_reducible assumption | omega | with_reducible rfl | (first | exact k0 | exact k1 | exact k2 | exact k3 | (first | exact fun _ => rfl | exact hok1 | exact hok2 | (intro e; cases e) | (simp only [rg]; omega)) | exact decide_eq_true rfl | exact Byts.nil | exact Fl.of rfl | rfl | (simp [Ints, intsOf]; done))
        | true =>
          refine tail_of (fun inr => code_runs (hX _) hL (runZ_ok (hX _) (hT _) hL mixed 5) mixed (bk4_n01 inr zs n2 c2) ?_) rfl (by omega) fun σ => rfl
          simp only [Alls, avLen, Nat.zero_add, List.take_zero, List.nil_append, List.length_nil, Nat.zero_mul, Nat.zero_div, e1, e2, e3, e4]
          repeat' (first | with_reducible exact trivial | with_reducible apply And.intro)
          all_goals first | with_reducible assumption | omega | with_reducible rfl | (first | exact k0 | exact k1 | exact k2 | exact k3 | (first | exact fun _ => rfl | exact hok1 | exact hok2 | (intro e; cases e) | (simp only [rg]; omega)) | exact decide_eq_true rfl | exact Byts.nil | exact Fl.of rfl | rfl | (simp [Ints, intsOf]; done))
      | true =>
        cases b2 with
        | false =>
          obtain ⟨q1, q2, q3⟩ := hok2.z rfl
          simp only at q1 q2 q3
          subst q1; subst q2; subst q3
          refine tail_of (fun inr => code_runs (hX _) hL (runZ_ok (hX _) (hT _) hL mixed 5) mixed (bk4_n10 inr ws n1 c1) ?_) rfl (by omega) fun σ => rfl
          simp only [Alls, avLen, Nat.zero_add, List.take_zero, List.nil_append, List.length_nil, Nat.zero_mul, Nat.zero_div, e1, e2, e3, e4]
          repeat' (first | with_reducible exact trivial | with_reducible apply And.intro)
          all_goals first | with_reducible assumption | omega | with_reducible rfl | (first | exact k0 | exact k1 | exact k2 | exact k3 | (first | exact fun _ => rfl | exact hok1 | exact hok2 | (intro e; cases e) | (simp only [rg]; omega)) | exact decide_eq_true rfl | exact Byts.nil | exact Fl.of rfl | rfl | (simp [Ints, intsOf]; done))
        | true =>
          refine tail_of (fun inr => code_runs (hX _) hL (runZ_ok (hX _) (hT _) hL mixed 5) mixed (bk4_n11 inr ws n1 c1 zs n2 c2) ?_) rfl (by omega) fun σ => rfl
          simp only [Alls, avLen, Nat.zero_add, List.take_zero, List.nil_append, List.length_nil, Nat.zero_mul, Nat.zero_div, e1, e2, e3, e4]
          repeat' (first | with_reducible exact trivial | with_reducible apply And.intro)
          all_goals first | with_reducible assumption | omega | with_reducible rfl | (first | exact k0 | exact k1 | exact k2 | exact k3 | (first | exact fun _ => rfl | exact hok1 | exact hok2 | (intro e; cases e) | (simp only [rg]; omega)) | exact decide_eq_true rfl | exact Byts.nil | exact Fl.of rfl | rfl | (simp [Ints, intsOf]; done))
    | true =>
      cases k0 : decide (m ≤ 8)
      · have e3 : True := trivial
        cases b1 with
        | false =>
          obtain ⟨p1, p2, p3⟩ := hok1.z rfl
          simp only at p1 p2 p3
          subst p1; subst p2; subst p3
          cases b2 with
          | false =>
            obtain ⟨q1, q2, q3⟩ := hok2.z rfl
            simp only at q1 q2 q3
            subst q1; subst q2; subst q3
            refine tail_of (fun inr => code_runs (hX _) hL (runZ_ok (hX _) (hT _) hL mixed 5) mixed (bk4_long00 inr ys m c) ?_) rfl (by omega) fun σ => rfl
            simp only [Alls, avLen, Nat.zero_add, List.take_zero, List.nil_append, List.length_nil, Nat.zero_mul, Nat.zero_div, e1, e2, e3, e4]
            repeat' (first | with_reducible exact trivial | with_reducible apply And.intro)
            all_goals first | with_reducible assumption | omega | with_reducible rfl | (first | exact k0 | exact k1 | exact k2 | exact k3 | (first | exact fun _ => rfl | exact hok1 | exact hok2 | (intro e; cases e) | (simp only [rg]; omega)) | exact decide_eq_true rfl | exact Byts.nil | exact Fl.of rfl | rfl | (simp [Ints, intsOf]; done))
          | true =>
            refine tail_of (fun inr => code_runs (hX _) hL (runZ_ok (hX _) (hT _) hL mixed 5) mixed (bk4_long01 inr ys m c zs n2 c2) ?_) rfl (by omega) fun σ => rfl
            simp only [Alls, avLen, Nat.zero_add, List.take_zero, List.nil_append, List.length_nil, Nat.zero_mul, Nat.zero_div, e1, e2, e3, e4]
            repeat' (first | with_reducible exact trivial | with_reducible apply And.intro)
            all_goals first | with_reducible assumption | omega | with_reducible rfl | (first | exact k0 | exact k1 | exact k2 | exact k3 | (first | exact fun _ => rfl | exact hok1 | exact hok2 | (intro e; cases e) | (simp only [rg]; omega)) | exact decide_eq_true rfl | exact Byts.nil | exact Fl.of rfl | rfl | (simp [Ints, intsOf]; done))
        | true =>
          cases b2 with
          | false =>
            obtain ⟨q1, q2, q3⟩ := hok2.z rfl
            simp only at q1 q2 q3
            subst q1; subst q2; subst q3
            refine tail_of (fun inr => code_runs (hX _) hL (runZ_ok (hX _) (hT _) hL mixed 5) mixed (bk4_long10 inr ys m c ws n1 c1) ?_) rfl (by omega) fun σ => rfl
            simp only [Alls, avLen, Nat.zero_add, List.take_zero, List.nil_append, List.length_nil, Nat.zero_mul, Nat.zero_div, e1, e2, e3, e4]
            repeat' (first | with_reducible exact trivial | with_reducible apply And.intro)
            all_goals first | with_reducible assumption | omega | with_reducible rfl | (first | exact k0 | exact k1 | exact k2 | exact k3 | (first | exact fun _ => rfl | exact hok1 | exact hok2 | (intro e; cases e) | (simp only [rg]; omega)) | exact decide_eq_true rfl | exact Byts.nil | exact Fl.of rfl | rfl | (simp [Ints, intsOf]; done))
          | true =>
            refine tail_of (fun inr => code_runs (hX _) hL (runZ_ok (hX _) (hT _) hL mixed 5) mixed (bk4_long11 inr ys m c ws n1 c1 zs n2 c2) ?_) rfl (by omega) fun σ => rfl
            simp only [Alls, avLen, Nat.zero_add, List.take_zero, List.nil_append, List.length_nil, Nat.zero_mul, Nat.zero_div, e1, e2, e3, e4]
            repeat' (first | with_reducible exact trivial | with_reducible apply And.intro)
            all_goals first | with_reducible assumption | omega | with_reducible rfl | (first | exact k0 | exact k1 | exact k2 | exact k3 | (first | exact fun _ => rfl | exact hok1 | exact hok2 | (intro e; cases e) | (simp only [rg]; omega)) | exact decide_eq_true rfl | exact Byts.nil | exact Fl.of rfl | rfl | (simp [Ints, intsOf]; done))
      have k0' : m ≤ 8 := by simpa using k0
      cases k1 : decide (m = 0)
      · have k1' : m ≠ 0 := by simpa using k1
        have e3 : idL (oiL ys 0 m) 0 m = ys := by
          rw [idL_oiL hu m 0 (by omega)]
          simp only [Nat.zero_mul, List.drop_zero]
          exact e1
        have hne : (((m * 16 : Nat) : Int) != ((16 * m : Nat) : Int)) = false := by rw [Nat.mul_comm]; simp
        have k3 : decide (m * 16 = 0) = false := by simp only [decide_eq_false_iff_not]; omega
        cases b1 with
        | false =>
          obtain ⟨p1, p2, p3⟩ := hok1.z rfl
          simp only at p1 p2 p3
          subst p1; subst p2; subst p3
          cases b2 with
          | false =>
            obtain ⟨q1, q2, q3⟩ := hok2.z rfl
            simp only at q1 q2 q3
            subst q1; subst q2; subst q3
            refine tail_of (fun inr => code_runs (hX _) hL (runZ_ok (hX _) (hT _) hL mixed 5) mixed (bk4_ok00 inr ys m c) ?_) rfl (by omega) fun σ => rfl
            simp only [Alls, avLen, Nat.zero_add, List.take_zero, List.nil_append, List.length_nil, Nat.zero_mul, Nat.zero_div, e1, e2, e3, e4]
            repeat' (first | with_reducible exact trivial | with_reducible apply And.intro)
            all_goals first | with_reducible assumption | omega | with_reducible rfl | (first | exact k0 | exact k1 | exact k2 | exact k3 | (first | exact hne | exact fun _ => rfl | exact hok1 | exact hok2 | (intro e; cases e) | (simp only [rg]; omega)) | exact decide_eq_true rfl | exact Byts.nil | exact Fl.of rfl | rfl | (simp [Ints, intsOf]; done))
          | true =>
            refine tail_of (fun inr => code_runs (hX _) hL (runZ_ok (hX _) (hT _) hL mixed 5) mixed (bk4_ok01 inr ys m c zs n2 c2) ?_) rfl (by omega) fun σ => rfl
            simp only [Alls, avLen, Nat.zero_add, List.take_zero, List.nil_append, List.length_nil, Nat.zero_mul, Nat.zero_div, e1, e2, e3, e4]
            repeat' (first | with_reducible exact trivial | with_reducible apply And.intro)
            all_goals first | with_reducible assumption | omega | with_reducible rfl | (first | exact k0 | exact k1 | exact k2 | exact k3 | (first | exact hne | exact fun _ => rfl | exact hok1 | exact hok2 | (intro e; cases e) | (simp only [rg]; omega)) | exact decide_eq_true rfl | exact Byts.nil | exact Fl.of rfl | rfl | (simp [Ints, intsOf]; done))
        | true =>
          cases b2 with
          | false =>
            obtain ⟨q1, q2, q3⟩ := hok2.z rfl
            simp only at q1 q2 q3
            subst q1; subst q2; subst q3
            refine tail_of (fun inr => code_runs (hX _) hL (runZ_ok (hX _) (hT _) hL mixed 5) mixed (bk4_ok10 inr ys m c ws n1 c1) ?_) rfl (by omega) fun σ => rfl
            simp only [Alls, avLen, Nat.zero_add, List.take_zero, List.nil_append, List.length_nil, Nat.zero_mul, Nat.zero_div, e1, e2, e3, e4]
            repeat' (first | with_reducible exact trivial | with_reducible apply And.intro)
            all_goals first | with_reducible assumption | omega | with_reducible rfl | (first | exact k0 | exact k1 | exact k2 | exact k3 | (first | exact hne | exact fun _ => rfl | exact hok1 | exact hok2 | (intro e; cases e) | (simp only [rg]; omega)) | exact decide_eq_true rfl | exact Byts.nil | exact Fl.of rfl | rfl | (simp [Ints, intsOf]; done))
          | true =>
            refine tail_of (fun inr => code_runs (hX _) hL (runZ_ok (hX _) (hT _) hL mixed 5) mixed (bk4_ok11 inr ys m c ws n1 c1 zs n2 c2) ?_) rfl (by omega) fun σ => rfl
            simp only [Alls, avLen, Nat.zero_add, List.take_zero, List.nil_append, List.length_nil, Nat.zero_mul, Nat.zero_div, e1, e2, e3, e4]
            repeat' (first | with_reducible exact trivial | with_reducible apply And.intro)
            all_goals first | with_reducible assumption | omega | with_reducible rfl | (first | exact k0 | exact k1 | exact k2 | exact k3 | (first | exact hne | exact fun _ => rfl | exact hok1 | exact hok2 | (intro e; cases e) | (simp only [rg]; omega)) | exact decide_eq_true rfl | exact Byts.nil | exact Fl.of rfl | rfl | (simp [Ints, intsOf]; done))
      · have e3 : True := trivial
        obtain rfl : m = 0 := by simpa using k1
        obtain rfl : ys = [] := List.length_eq_zero_iff.1 hl
        cases b1 with
        | false =>
          obtain ⟨p1, p2, p3⟩ := hok1.z rfl
          simp only at p1 p2 p3
          subst p1; subst p2; subst p3
          cases b2 with
          | false =>
            obtain ⟨q1, q2, q3⟩ := hok2.z rfl
            simp only at q1 q2 q3
            subst q1; subst q2; subst q3
            refine tail_of (fun inr => code_runs (hX _) hL (runZ_ok (hX _) (hT _) hL mixed 5) mixed (bk4_nil00 inr [] 0 c) ?_) rfl (by omega) fun σ => rfl
            simp only [Alls, avLen, Nat.zero_add, List.take_zero, List.nil_append, List.length_nil, Nat.zero_mul, Nat.zero_div, e1, e2, e3, e4]
            repeat' (first | with_reducible exact trivial | with_reducible apply And.intro)
            all_goals first | with_reducible assumption | omega | with_reducible rfl | (first | exact k0 | exact k1 | exact k2 | exact k3 | (first | exact fun _ => rfl | exact hok1 | exact hok2 | (intro e; cases e) | (simp only [rg]; omega)) | exact decide_eq_true rfl | exact Byts.nil | exact Fl.of rfl | rfl | (simp [Ints, intsOf]; done))
          | true =>
            refine tail_of (fun inr => code_runs (hX _) hL (runZ_ok (hX _) (hT _) hL mixed 5) mixed (bk4_nil01 inr [] 0 c zs n2 c2) ?_) rfl (by omega) fun σ => rfl
            simp only [Alls, avLen, Nat.zero_add, List.take_zero, List.nil_append, List.length_nil, Nat.zero_mul, Nat.zero_div, e1, e2, e3, e4]
            repeat' (first | with_reducible exact trivial | with_reducible apply And.intro)
            all_goals first | with_reducible assumption | omega | with_reducible rfl | (first | exact k0 | exact k1 | exact k2 | exact k3 | (first | exact fun _ => rfl | exact hok1 | exact hok2 | (intro e; cases e) | (simp only [rg]; omega)) | exact decide_eq_true rfl | exact Byts.nil | exact Fl.of rfl | rfl | (simp [Ints, intsOf]; done))
        | true =>
          cases b2 with
          | false =>
            obtain ⟨q1, q2, q3⟩ := hok2.z rfl
            simp only at q1 q2 q3
            subst q1; subst q2; subst q3
            refine tail_of (fun inr => code_runs (hX _) hL (runZ_ok (hX _) (hT _) hL mixed 5) mixed (bk4_nil10 inr [] 0 c ws n1 c1) ?_) rfl (by omega) fun σ => rfl
            simp only [Alls, avLen, Nat.zero_add, List.take_zero, List.nil_append, List.length_nil, Nat.zero_mul, Nat.zero_div, e1, e2, e3, e4]
            repeat' (first | with_reducible exact trivial | with_reducible apply And.intro)
            all_goals first | with_reducible assumption | omega | with_reducible rfl | (first | exact k0 | exact k1 | exact k2 | exact k3 | (first | exact fun _ => rfl | exact hok1 | exact hok2 | (intro e; cases e) | (simp only [rg]; omega)) | exact decide_eq_true rfl | exact Byts.nil | exact Fl.of rfl | rfl | (simp [Ints, intsOf]; done))
          | true =>
            refine tail_of (fun inr => code_runs (hX _) hL (runZ_ok (hX _) (hT _) hL mixed 5) mixed (bk4_nil11 inr [] 0 c ws n1 c1 zs n2 c2) ?_) rfl (by omega) fun σ => rfl
            simp only [Alls, avLen, Nat.zero_add, List.take_zero, List.nil_append, List.length_nil, Nat.zero_mul, Nat.zero_div, e1, e2, e3, e4]
            repeat' (first | with_reducible exact trivial | with_reducible apply And.intro)
            all_goals first | with_reducible assumption | omega | with_reducible rfl | (first | exact k0 | exact k1 | exact k2 | exact k3 | (first | exact fun _ => rfl | exact hok1 | exact hok2 | (intro e; cases e) | (simp only [rg]; omega)) | exact decide_eq_true rfl | exact Byts.nil | exact Fl.of rfl | rfl | (simp [Ints, intsOf]; done))
  obtain ⟨hC, T, rfl⟩ := key
  refine ⟨_, T, ⟨rfl, saV_rb (fun _ => sgf_old (by omega)) hok0.c.2, rfl, saV_rb (fun _ => sgf_old (by omega)) hok1.c.2, rfl, saV_rb (fun _ => sgf_old (by omega)) hok2.c.2, rfl, rfl, trivial⟩, saH_rb (by omega) hrow0 f1 (saH_rb (by omega) hrow1 hz1.fl (saH_rb (by omega) hrow2 (fl_byts hz2) trivial)), injN_of (bk_names (by omega) (by omega) (by omega)) ?_⟩
  unfold saH; cases b0 <;> cases b1 <;> cases b2 <;> rfl
theorem back_run {a0 a1 a2 : Sa} (h0 : SaOk U64s 2 9223372036854775807 a0) (h1 : SaOk (Ints .i64) 3 9223372036854775807 a1) (h2 : SaOk Byts 1 9223372036854775807 a2) :
    ∃ h' nx' d, Tri Try.prog 7 [saV 0 a0, saV 1 a1, saV 2 a2] (saH 0 a0 (saH 1 a1 (saH 2 a2 []))) 3 (.bool true, h', nx', d) := by
  have hX : XOkZ (bkV (bk4L Try.prog)) Try.prog := noXz_ok rfl
  have hT : TOkZ (bkV (bk4L Try.prog)) Try.prog := T_okV rfl idsT_one
  have hL : LOkZ (bkV (bk4L Try.prog)) Try.prog := L_okV rfl (mkS_ok bk4_ok_)
  have c0 := h0.c
  have c1 := h1.c
  have c2 := h2.c
  obtain ⟨b0, n0, k0, xs0⟩ := a0
  obtain ⟨b1, n1, k1, xs1⟩ := a1
  obtain ⟨b2, n2, k2, xs2⟩ := a2
  simp only at c0 c1 c2
  by_cases g0 : n0 ≤ 20
  case neg =>
    have e0 : b0 = true := by cases b0 with | true => rfl | false => have := (h0.z rfl).1; simp only at this; omega
    subst e0
    cases b1 <;> cases b2
    · obtain ⟨p1, p2, p3⟩ := h1.z rfl
      simp only at p1 p2 p3
      subst p1; subst p2; subst p3
      obtain ⟨p1, p2, p3⟩ := h2.z rfl
      simp only at p1 p2 p3
      subst p1; subst p2; subst p3
      refine ⟨_, _, _, run_tri hX hT hL (bk_l100 xs0 n0 k0) ?_ rfl⟩
      simp only [Alls, decide_eq_true_eq]
      repeat' (first | with_reducible exact trivial | with_reducible apply And.intro)
      all_goals first | with_reducible assumption | omega | with_reducible rfl | (first | rfl | (simp only [decide_eq_false_iff_not]; omega))
    · obtain ⟨p1, p2, p3⟩ := h1.z rfl
      simp only at p1 p2 p3
      subst p1; subst p2; subst p3
      refine ⟨_, _, _, run_tri hX hT hL (bk_l101 xs0 n0 k0 xs2 n2 k2) ?_ rfl⟩
      simp only [Alls, decide_eq_true_eq]
      repeat' (first | with_reducible exact trivial | with_reducible apply And.intro)
      all_goals first | with_reducible assumption | omega | with_reducible rfl | (first | rfl | (simp only [decide_eq_false_iff_not]; omega))
    · obtain ⟨p1, p2, p3⟩ := h2.z rfl
      simp only at p1 p2 p3
      subst p1; subst p2; subst p3
      refine ⟨_, _, _, run_tri hX hT hL (bk_l110 xs0 n0 k0 xs1 n1 k1) ?_ rfl⟩
      simp only [Alls, decide_eq_true_eq]
      repeat' (first | with_reducible exact trivial | with_reducible apply And.intro)
      all_goals first | with_reducible assumption | omega | with_reducible rfl | (first | rfl | (simp only [decide_eq_false_iff_not]; omega))
    · refine ⟨_, _, _, run_tri hX hT hL (bk_l111 xs0 n0 k0 xs1 n1 k1 xs2 n2 k2) ?_ rfl⟩
      simp only [Alls, decide_eq_true_eq]
      repeat' (first | with_reducible exact trivial | with_reducible apply And.intro)
      all_goals first | with_reducible assumption | omega | with_reducible rfl | (first | rfl | (simp only [decide_eq_false_iff_not]; omega))
  have g0' : decide ((n0 : Int) > 20) = false := by simp only [decide_eq_false_iff_not]; omega
  by_cases g1 : n1 ≤ 80
  case neg =>
    have e1 : b1 = true := by cases b1 with | true => rfl | false => have := (h1.z rfl).1; simp only at this; omega
    subst e1
    cases b0 <;> cases b2
    · obtain ⟨p1, p2, p3⟩ := h0.z rfl
      simp only at p1 p2 p3
      subst p1; subst p2; subst p3
      obtain ⟨p1, p2, p3⟩ := h2.z rfl
      simp only at p1 p2 p3
      subst p1; subst p2; subst p3
      refine ⟨_, _, _, run_tri hX hT hL (bk_m010 xs1 n1 k1) ?_ rfl⟩
      simp only [Alls, decide_eq_true_eq]
      repeat' (first | with_reducible exact trivial | with_reducible apply And.intro)
      all_goals first | with_reducible assumption | omega | with_reducible rfl | (first | rfl | (simp only [decide_eq_false_iff_not]; omega))
    · obtain ⟨p1, p2, p3⟩ := h0.z rfl
      simp only at p1 p2 p3
      subst p1; subst p2; subst p3
      refine ⟨_, _, _, run_tri hX hT hL (bk_m011 xs1 n1 k1 xs2 n2 k2) ?_ rfl⟩
      simp only [Alls, decide_eq_true_eq]
      repeat' (first | with_reducible exact trivial | with_reducible apply And.intro)
      all_goals first | with_reducible assumption | omega | with_reducible rfl | (first | rfl | (simp only [decide_eq_false_iff_not]; omega))
    · obtain ⟨p1, p2, p3⟩ := h2.z rfl
      simp only at p1 p2 p3
      subst p1; subst p2; subst p3
      refine ⟨_, _, _, run_tri hX hT hL (bk_m110 xs0 n0 k0 xs1 n1 k1) ?_ rfl⟩
      simp only [Alls, decide_eq_true_eq]
      repeat' (first | with_reducible exact trivial | with_reducible apply And.intro)
      all_goals first | with_reducible assumption | omega | with_reducible rfl | (first | rfl | (simp only [decide_eq_false_iff_not]; omega))
    · refine ⟨_, _, _, run_tri hX hT hL (bk_m111 xs0 n0 k0 xs1 n1 k1 xs2 n2 k2) ?_ rfl⟩
      simp only [Alls, decide_eq_true_eq]
      repeat' (first | with_reducible exact trivial | with_reducible apply And.intro)
      all_goals first | with_reducible assumption | omega | with_reducible rfl | (first | rfl | (simp only [decide_eq_false_iff_not]; omega))
  have g1' : decide ((n1 : Int) > 80) = false := by simp only [decide_eq_false_iff_not]; omega
  by_cases g2 : n2 ≤ 1000
  case neg =>
    have e2 : b2 = true := by cases b2 with | true => rfl | false => have := (h2.z rfl).1; simp only at this; omega
    subst e2
    cases b0 <;> cases b1
    · obtain ⟨p1, p2, p3⟩ := h0.z rfl
      simp only at p1 p2 p3
      subst p1; subst p2; subst p3
      obtain ⟨p1, p2, p3⟩ := h1.z rfl
      simp only at p1 p2 p3
      subst p1; subst p2; subst p3
      refine ⟨_, _, _, run_tri hX hT hL (bk_b001 xs2 n2 k2) ?_ rfl⟩
      simp only [Alls, decide_eq_true_eq]
      repeat' (first | with_reducible exact trivial | with_reducible apply And.intro)
      all_goals first | with_reducible assumption | omega | with_reducible rfl | (first | rfl | (simp only [decide_eq_false_iff_not]; omega))
    · obtain ⟨p1, p2, p3⟩ := h0.z rfl
      simp only at p1 p2 p3
      subst p1; subst p2; subst p3
      refine ⟨_, _, _, run_tri hX hT hL (bk_b011 xs1 n1 k1 xs2 n2 k2) ?_ rfl⟩
      simp only [Alls, decide_eq_true_eq]
      repeat' (first | with_reducible exact trivial | with_reducible apply And.intro)
      all_goals first | with_reducible assumption | omega | with_reducible rfl | (first | rfl | (simp only [decide_eq_false_iff_not]; omega))
    · obtain ⟨p1, p2, p3⟩ := h1.z rfl
      simp only at p1 p2 p3
      subst p1; subst p2; subst p3
      refine ⟨_, _, _, run_tri hX hT hL (bk_b101 xs0 n0 k0 xs2 n2 k2) ?_ rfl⟩
      simp only [Alls, decide_eq_true_eq]
      repeat' (first | with_reducible exact trivial | with_reducible apply And.intro)
      all_goals first | with_reducible assumption | omega | with_reducible rfl | (first | rfl | (simp only [decide_eq_false_iff_not]; omega))
    · refine ⟨_, _, _, run_tri hX hT hL (bk_b111 xs0 n0 k0 xs1 n1 k1 xs2 n2 k2) ?_ rfl⟩
      simp only [Alls, decide_eq_true_eq]
      repeat' (first | with_reducible exact trivial | with_reducible apply And.intro)
      all_goals first | with_reducible assumption | omega | with_reducible rfl | (first | rfl | (simp only [decide_eq_false_iff_not]; omega))
  have g2' : decide ((n2 : Int) > 1000) = false := by simp only [decide_eq_false_iff_not]; omega
  have o0 : SaOk U64s 2 20 ⟨b0, n0, k0, xs0⟩ := ⟨h0.r, h0.l, h0.c, g0, h0.z⟩
  have o1 : SaOk (Ints .i64) 3 80 ⟨b1, n1, k1, xs1⟩ := ⟨h1.r, h1.l, h1.c, g1, h1.z⟩
  have o2 : SaOk Byts 1 1000 ⟨b2, n2, k2, xs2⟩ := ⟨h2.r, h2.l, h2.c, g2, h2.z⟩
  cases b0 <;> cases b1 <;> cases b2
  · obtain ⟨p1, p2, p3⟩ := h0.z rfl
    simp only at p1 p2 p3
    subst p1; subst p2; subst p3
    obtain ⟨p1, p2, p3⟩ := h1.z rfl
    simp only at p1 p2 p3
    subst p1; subst p2; subst p3
    obtain ⟨p1, p2, p3⟩ := h2.z rfl
    simp only at p1 p2 p3
    subst p1; subst p2; subst p3
    refine ⟨_, _, _, run_tri hX hT hL (bk_go000) ?_ rfl⟩
    simp only [Alls]
    repeat' (first | with_reducible exact trivial | with_reducible apply And.intro)
    all_goals first | with_reducible assumption | omega | with_reducible rfl | (first | exact o0 | exact o1 | exact o2 | exact fun _ => rfl | (intro e; cases e) | rfl)
  · obtain ⟨p1, p2, p3⟩ := h0.z rfl
    simp only at p1 p2 p3
    subst p1; subst p2; subst p3
    obtain ⟨p1, p2, p3⟩ := h1.z rfl
    simp only at p1 p2 p3
    subst p1; subst p2; subst p3
    refine ⟨_, _, _, run_tri hX hT hL (bk_go001 xs2 n2 k2) ?_ rfl⟩
    simp only [Alls]
    repeat' (first | with_reducible exact trivial | with_reducible apply And.intro)
    all_goals first | with_reducible assumption | omega | with_reducible rfl | (first | exact o0 | exact o1 | exact o2 | exact fun _ => rfl | (intro e; cases e) | rfl)
  · obtain ⟨p1, p2, p3⟩ := h0.z rfl
    simp only at p1 p2 p3
    subst p1; subst p2; subst p3
    obtain ⟨p1, p2, p3⟩ := h2.z rfl
    simp only at p1 p2 p3
    subst p1; subst p2; subst p3
    refine ⟨_, _, _, run_tri hX hT hL (bk_go010 xs1 n1 k1) ?_ rfl⟩
    simp only [Alls]
    repeat' (first | with_reducible exact trivial | with_reducible apply And.intro)
    all_goals first | with_reducible assumption | omega | with_reducible rfl | (first | exact o0 | exact o1 | exact o2 | exact fun _ => rfl | (intro e; cases e) | rfl)
  · obtain ⟨p1, p2, p3⟩ := h0.z rfl
    simp only at p1 p2 p3
    subst p1; subst p2; subst p3
    refine ⟨_, _, _, run_tri hX hT hL (bk_go011 xs1 n1 k1 xs2 n2 k2) ?_ rfl⟩
    simp only [Alls]
    repeat' (first | with_reducible exact trivial | with_reducible apply And.intro)
    all_goals first | with_reducible assumption | omega | with_reducible rfl | (first | exact o0 | exact o1 | exact o2 | exact fun _ => rfl | (intro e; cases e) | rfl)
  · obtain ⟨p1, p2, p3⟩ := h1.z rfl
    simp only at p1 p2 p3
    subst p1; subst p2; subst p3
    obtain ⟨p1, p2, p3⟩ := h2.z rfl
    simp only at p1 p2 p3
    subst p1; subst p2; subst p3
    refine ⟨_, _, _, run_tri hX hT hL (bk_go100 xs0 n0 k0) ?_ rfl⟩
    simp only [Alls]
    repeat' (first | with_reducible exact trivial | with_reducible apply And.intro)
    all_goals first | with_reducible assumption | omega | with_reducible rfl | (first | exact o0 | exact o1 | exact o2 | exact fun _ => rfl | (intro e; cases e) | rfl)
  · obtain ⟨p1, p2, p3⟩ := h1.z rfl
    simp only at p1 p2 p3
    subst p1; subst p2; subst p3
    refine ⟨_, _, _, run_tri hX hT hL (bk_go101 xs0 n0 k0 xs2 n2 k2) ?_ rfl⟩
    simp only [Alls]
    repeat' (first | with_reducible exact trivial | with_reducible apply And.intro)
    all_goals first | with_reducible assumption | omega | with_reducible rfl | (first | exact o0 | exact o1 | exact o2 | exact fun _ => rfl | (intro e; cases e) | rfl)
  · obtain ⟨p1, p2, p3⟩ := h2.z rfl
    simp only at p1 p2 p3
    subst p1; subst p2; subst p3
    refine ⟨_, _, _, run_tri hX hT hL (bk_go110 xs0 n0 k0 xs1 n1 k1) ?_ rfl⟩
    simp only [Alls]
    repeat' (first | with_reducible exact trivial | with_reducible apply And.intro)
    all_goals first | with_reducible assumption | omega | with_reducible rfl | (first | exact o0 | exact o1 | exact o2 | exact fun _ => rfl | (intro e; cases e) | rfl)
  · refine ⟨_, _, _, run_tri hX hT hL (bk_go111 xs0 n0 k0 xs1 n1 k1 xs2 n2 k2) ?_ rfl⟩
    simp only [Alls]
    repeat' (first | with_reducible exact trivial | with_reducible apply And.intro)
    all_goals first | with_reducible assumption | omega | with_reducible rfl | (first | exact o0 | exact o1 | exact o2 | exact fun _ => rfl | (intro e; cases e) | rfl)
end Go.Proofs.Ytcmcelilollchaa
