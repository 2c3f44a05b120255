/-
  Chapter 23: the statement MessageLogs, run at any lists.
-/
import Derived.Test.YtcmcelilollchaaMsgC
import Derived.Test.YtcmcelilollchaaOpenSl
namespace Go.Proofs.Ytcmcelilollchaa
set_option linter.unusedSimpArgs false
set_option linter.unusedVariables false
set_option linter.unusedSectionVars false
open Go Go.RowKit

def lawT (P : Program) : TFun := orTz (mkT 16 [.c 1, .s 1] gKept) (orTz overT entT)
def llV (md : Nat) (P : Program) : Tv := ⟨lawT P, noXz, noL, fun f => bif Nat.beq f 3 then [16, 20, 58, 70] else [], allSy 3 [(37, md)], fun _ => [], fun _ => 0⟩
def llA (n c : Nat) : Value := .slice (some ⟨0, 0, none⟩) n c
def llE (m d : Nat) : Value := .slice (some ⟨1, 0, none⟩) m d
theorem ll_ss_l1 (xs ys : List Value) (n c m d : Nat) : runZ (llV 0 Try.prog) Try.prog 5 3 [llA n c, llE m d] [(0, ⟨.old, xs⟩), (1, ⟨.old, ys⟩)] 2 [true] =
Res.ok
  ((Value.bool true, [((0 : Nat), Rw.mk Kd.old xs), ((1 : Nat), Rw.mk Kd.old ys)], (2 : Nat), []), [],
    [decide ((↑n : Int) > (1000 : Int)) = true]) := by kernel_rfl
theorem ll_ss_l2 (xs ys : List Value) (n c m d : Nat) : runZ (llV 0 Try.prog) Try.prog 5 3 [llA n c, llE m d] [(0, ⟨.old, xs⟩), (1, ⟨.old, ys⟩)] 2 [false, true] =
Res.ok
  ((Value.bool true, [((0 : Nat), Rw.mk Kd.old xs), ((1 : Nat), Rw.mk Kd.old ys)], (2 : Nat), []), [],
    [decide ((↑n : Int) > (1000 : Int)) = false, decide ((↑m : Int) > (80 : Int)) = true]) := by kernel_rfl
theorem ll_ns_l2 (ys : List Value) (m d : Nat) : runZ (llV 0 Try.prog) Try.prog 5 3 [.slice none 0 0, llE m d] [(1, ⟨.old, ys⟩)] 2 [false, true] =
Res.ok
  ((Value.bool true, [((1 : Nat), Rw.mk Kd.old ys)], (2 : Nat), []), [],
    [false = false, decide ((↑m : Int) > (80 : Int)) = true]) := by kernel_rfl
theorem ll_sn_l1 (xs : List Value) (n c : Nat) : runZ (llV 0 Try.prog) Try.prog 5 3 [llA n c, .slice none 0 0] [(0, ⟨.old, xs⟩)] 2 [true] =
Res.ok
  ((Value.bool true, [((0 : Nat), Rw.mk Kd.old xs)], (2 : Nat), []), [], [decide ((↑n : Int) > (1000 : Int)) = true]) := by kernel_rfl
theorem ll_n_bad0 (xs : List Value) (n c : Nat) : runZ (llV 4 Try.prog) Try.prog 5 3 [llA n c, .slice none 0 0] [(0, ⟨.old, xs⟩)] 2 ([false, false] ++ [true] ++ [true] ++ [false, true] ++ [false, true] ++ [true, true]) =
Res.ok
  ((Value.bool true, [((0 : Nat), Rw.mk Kd.old xs)], (4 : Nat), []), [],
    [decide ((↑n : Int) > (1000 : Int)) = false, false = false, n ≤ c ∧ c ≤ (9223372036854775807 : Nat),
      n ≤ List.length xs, Fl (List.take n xs), Byts (List.take n xs),
      avLen (Av.sl (List.take n xs) n) ≤ (1099511627776 : Nat),
      avLen (Av.sl (List.take n xs) n) ≤ avLen (Av.sl (List.take n xs) n) + (3 : Nat) ∧
        avLen (Av.sl (List.take n xs) n) + (3 : Nat) ≤ (9223372036854775807 : Nat),
      avLen (Av.sl (List.take n xs) n) ≤ List.length (List.take n xs ++ mk3 (avLen (Av.sl (List.take n xs) n))),
      Fl (List.take (avLen (Av.sl (List.take n xs) n)) (List.take n xs ++ mk3 (avLen (Av.sl (List.take n xs) n)))),
      Byts (List.take (avLen (Av.sl (List.take n xs) n)) (List.take n xs ++ mk3 (avLen (Av.sl (List.take n xs) n)))),
      decide
          (avLen
                (Av.sl
                  (List.take (avLen (Av.sl (List.take n xs) n))
                    (List.take n xs ++ mk3 (avLen (Av.sl (List.take n xs) n))))
                  (avLen (Av.sl (List.take n xs) n))) %
              (12 : Nat) =
            (0 : Nat)) =
        false,
      n ≤ c ∧ c ≤ (9223372036854775807 : Nat), n ≤ List.length xs, Fl (List.take n xs), Byts (List.take n xs),
      decide (avLen (Av.sl (List.take n xs) n) % (12 : Nat) = (0 : Nat)) = false,
      (0 : Nat) ≤ (0 : Nat) ∧ (0 : Nat) ≤ (9223372036854775807 : Nat), (0 : Nat) ≤ (0 : Nat),
      Fl
        (List.take (0 : Nat)
          (splice
            (zrep [Value.int IntKind.i64 (0 : Int), Value.int IntKind.i64 (0 : Int), Value.int IntKind.i64 (0 : Int)]
              (0 : Nat))
            (0 : Nat) [])),
      Ints IntKind.i64
        (List.take (0 : Nat)
          (splice
            (zrep [Value.int IntKind.i64 (0 : Int), Value.int IntKind.i64 (0 : Int), Value.int IntKind.i64 (0 : Int)]
              (0 : Nat))
            (0 : Nat) [])),
      (0 : Nat) = (0 : Nat), Ints IntKind.i64 [], (0 : Nat) = (0 : Nat), Ints IntKind.i64 [], ([] : List Value) = [],
      (0 : Nat) = (0 : Nat), Byts [], Byts [], true = true,
      avLen (Av.sl (List.take n xs) n) + (3 : Nat) ≤ (9223372036854775807 : Nat),
      avLen (Av.sl (List.take n xs) n) + (3 : Nat) ≤
        List.length (List.take n xs ++ mk3 (avLen (Av.sl (List.take n xs) n))),
      Fl
        (List.take (avLen (Av.sl (List.take n xs) n) + (3 : Nat))
          (List.take n xs ++ mk3 (avLen (Av.sl (List.take n xs) n)))),
      n ≤ c ∧ c ≤ (9223372036854775807 : Nat), n ≤ List.length xs, Fl (List.take n xs),
      Byts
        (List.take (avLen (Av.sl (List.take n xs) n) + (3 : Nat))
          (List.take n xs ++ mk3 (avLen (Av.sl (List.take n xs) n)))),
      Byts (List.take n xs), avLen (Av.sl (List.take n xs) n) = avLen (Av.sl (List.take n xs) n),
      avLen (Av.sl (List.take n xs) n) + (3 : Nat) = avLen (Av.sl (List.take n xs) n) + (3 : Nat),
      avLen (Av.sl (List.take n xs) n) ≤ (1099511627776 : Nat),
      decide
          (intsOf
              (List.take (avLen (Av.sl (List.take n xs) n) + (3 : Nat))
                (List.take n xs ++ mk3 (avLen (Av.sl (List.take n xs) n)))) =
            intsOf (List.take n xs ++ mk3 (avLen (Av.sl (List.take n xs) n)))) =
        true]) := by kernel_rfl
theorem ll_e_bad0 (xs ys : List Value) (n c d : Nat) : runZ (llV 4 Try.prog) Try.prog 5 3 [llA n c, llE 0 d] [(0, ⟨.old, xs⟩), (1, ⟨.old, ys⟩)] 2 ([false, false] ++ [true] ++ [true] ++ [false, true] ++ [false, true] ++ [true, true]) =
Res.ok
  ((Value.bool true, [((0 : Nat), Rw.mk Kd.old xs), ((1 : Nat), Rw.mk Kd.old ys)], (4 : Nat), []), [],
    [decide ((↑n : Int) > (1000 : Int)) = false, false = false, n ≤ c ∧ c ≤ (9223372036854775807 : Nat),
      n ≤ List.length xs, Fl (List.take n xs), Byts (List.take n xs),
      avLen (Av.sl (List.take n xs) n) ≤ (1099511627776 : Nat),
      avLen (Av.sl (List.take n xs) n) ≤ avLen (Av.sl (List.take n xs) n) + (3 : Nat) ∧
        avLen (Av.sl (List.take n xs) n) + (3 : Nat) ≤ (9223372036854775807 : Nat),
      avLen (Av.sl (List.take n xs) n) ≤ List.length (List.take n xs ++ mk3 (avLen (Av.sl (List.take n xs) n))),
      Fl (List.take (avLen (Av.sl (List.take n xs) n)) (List.take n xs ++ mk3 (avLen (Av.sl (List.take n xs) n)))),
      Byts (List.take (avLen (Av.sl (List.take n xs) n)) (List.take n xs ++ mk3 (avLen (Av.sl (List.take n xs) n)))),
      decide
          (avLen
                (Av.sl
                  (List.take (avLen (Av.sl (List.take n xs) n))
                    (List.take n xs ++ mk3 (avLen (Av.sl (List.take n xs) n))))
                  (avLen (Av.sl (List.take n xs) n))) %
              (12 : Nat) =
            (0 : Nat)) =
        false,
      n ≤ c ∧ c ≤ (9223372036854775807 : Nat), n ≤ List.length xs, Fl (List.take n xs), Byts (List.take n xs),
      decide (avLen (Av.sl (List.take n xs) n) % (12 : Nat) = (0 : Nat)) = false,
      (0 : Nat) ≤ (0 : Nat) ∧ (0 : Nat) ≤ (9223372036854775807 : Nat), (0 : Nat) ≤ (0 : Nat),
      Fl
        (List.take (0 : Nat)
          (splice
            (zrep [Value.int IntKind.i64 (0 : Int), Value.int IntKind.i64 (0 : Int), Value.int IntKind.i64 (0 : Int)]
              (0 : Nat))
            (0 : Nat) (List.take (0 : Nat) (List.drop (0 : Nat) ys)))),
      Ints IntKind.i64
        (List.take (0 : Nat)
          (splice
            (zrep [Value.int IntKind.i64 (0 : Int), Value.int IntKind.i64 (0 : Int), Value.int IntKind.i64 (0 : Int)]
              (0 : Nat))
            (0 : Nat) (List.take (0 : Nat) (List.drop (0 : Nat) ys)))),
      (0 : Nat) = (0 : Nat), (0 : Nat) ≤ d ∧ d ≤ (9223372036854775807 : Nat), (0 : Nat) ≤ List.length ys,
      Fl (List.take (0 : Nat) ys), Ints IntKind.i64 (List.take (0 : Nat) ys), (0 : Nat) = (0 : Nat),
      Ints IntKind.i64 [], ([] : List Value) = [], (0 : Nat) = (0 : Nat), Byts [], Byts [], true = true,
      avLen (Av.sl (List.take n xs) n) + (3 : Nat) ≤ (9223372036854775807 : Nat),
      avLen (Av.sl (List.take n xs) n) + (3 : Nat) ≤
        List.length (List.take n xs ++ mk3 (avLen (Av.sl (List.take n xs) n))),
      Fl
        (List.take (avLen (Av.sl (List.take n xs) n) + (3 : Nat))
          (List.take n xs ++ mk3 (avLen (Av.sl (List.take n xs) n)))),
      n ≤ c ∧ c ≤ (9223372036854775807 : Nat), n ≤ List.length xs, Fl (List.take n xs),
      Byts
        (List.take (avLen (Av.sl (List.take n xs) n) + (3 : Nat))
          (List.take n xs ++ mk3 (avLen (Av.sl (List.take n xs) n)))),
      Byts (List.take n xs), avLen (Av.sl (List.take n xs) n) = avLen (Av.sl (List.take n xs) n),
      avLen (Av.sl (List.take n xs) n) + (3 : Nat) = avLen (Av.sl (List.take n xs) n) + (3 : Nat),
      avLen (Av.sl (List.take n xs) n) ≤ (1099511627776 : Nat),
      decide
          (intsOf
              (List.take (avLen (Av.sl (List.take n xs) n) + (3 : Nat))
                (List.take n xs ++ mk3 (avLen (Av.sl (List.take n xs) n)))) =
            intsOf (List.take n xs ++ mk3 (avLen (Av.sl (List.take n xs) n)))) =
        true]) := by kernel_rfl
theorem ll_b_bad0 (xs ys : List Value) (n c m d : Nat) : runZ (llV 2 Try.prog) Try.prog 5 3 [llA n c, llE m d] [(0, ⟨.old, xs⟩), (1, ⟨.old, ys⟩)] 2 ([false, false] ++ [true] ++ [true] ++ [true] ++ [true] ++ [true, true]) =
Res.ok
  ((Value.bool true, [((0 : Nat), Rw.mk Kd.old xs), ((1 : Nat), Rw.mk Kd.old ys)], (5 : Nat), []), [],
    [decide ((↑n : Int) > (1000 : Int)) = false, decide ((↑m : Int) > (80 : Int)) = false,
      n ≤ c ∧ c ≤ (9223372036854775807 : Nat), n ≤ List.length xs, Fl (List.take n xs), Byts (List.take n xs),
      avLen (Av.sl (List.take n xs) n) ≤ (1099511627776 : Nat),
      avLen (Av.sl (List.take n xs) n) ≤ avLen (Av.sl (List.take n xs) n) + (3 : Nat) ∧
        avLen (Av.sl (List.take n xs) n) + (3 : Nat) ≤ (9223372036854775807 : Nat),
      avLen (Av.sl (List.take n xs) n) ≤ List.length (List.take n xs ++ mk3 (avLen (Av.sl (List.take n xs) n))),
      Fl (List.take (avLen (Av.sl (List.take n xs) n)) (List.take n xs ++ mk3 (avLen (Av.sl (List.take n xs) n)))),
      Byts (List.take (avLen (Av.sl (List.take n xs) n)) (List.take n xs ++ mk3 (avLen (Av.sl (List.take n xs) n)))),
      decide
          (avLen
                (Av.sl
                  (List.take (avLen (Av.sl (List.take n xs) n))
                    (List.take n xs ++ mk3 (avLen (Av.sl (List.take n xs) n))))
                  (avLen (Av.sl (List.take n xs) n))) %
              (12 : Nat) =
            (0 : Nat)) =
        false,
      n ≤ c ∧ c ≤ (9223372036854775807 : Nat), n ≤ List.length xs, Fl (List.take n xs), Byts (List.take n xs),
      decide (avLen (Av.sl (List.take n xs) n) % (12 : Nat) = (0 : Nat)) = false,
      (0 : Nat) < (18446744073709551616 : Nat), (0 : Nat) < (0 : Nat) + m, (0 : Nat) ≤ (0 : Nat),
      ((0 : Nat) + m) * (24 : Nat) ≤ (140737488355328 : Nat) ∧ (0 : Nat) + m ≤ (9223372036854775807 : Nat),
      m * (3 : Nat) ≤ List.length ys, all1 (List.take (m * (3 : Nat)) ys) = true,
      capBig + (4 : Nat) = capBig + (4 : Nat),
      ((0 : Nat) + m) * (3 : Nat) ≤
        List.length
          (List.take (0 : Nat)
              (zrep [Value.int IntKind.i64 (0 : Int), Value.int IntKind.i64 (0 : Int), Value.int IntKind.i64 (0 : Int)]
                (0 : Nat)) ++
            List.take (m * (3 : Nat)) ys),
      (0 : Nat) < (3 : Nat),
      ((0 : Nat) + m) * (3 : Nat) ≤
        List.length
          (List.take (0 : Nat)
              (zrep [Value.int IntKind.i64 (0 : Int), Value.int IntKind.i64 (0 : Int), Value.int IntKind.i64 (0 : Int)]
                (0 : Nat)) ++
            List.take (m * (3 : Nat)) ys),
      Fl
        (List.take (((0 : Nat) + m) * (3 : Nat))
          (List.take (0 : Nat)
              (zrep [Value.int IntKind.i64 (0 : Int), Value.int IntKind.i64 (0 : Int), Value.int IntKind.i64 (0 : Int)]
                (0 : Nat)) ++
            List.take (m * (3 : Nat)) ys)),
      Ints IntKind.i64
        (List.take (((0 : Nat) + m) * (3 : Nat))
          (List.take (0 : Nat)
              (zrep [Value.int IntKind.i64 (0 : Int), Value.int IntKind.i64 (0 : Int), Value.int IntKind.i64 (0 : Int)]
                (0 : Nat)) ++
            List.take (m * (3 : Nat)) ys)),
      logB
          (List.take (((0 : Nat) + m) * (3 : Nat))
            (List.take (0 : Nat)
                (zrep
                  [Value.int IntKind.i64 (0 : Int), Value.int IntKind.i64 (0 : Int), Value.int IntKind.i64 (0 : Int)]
                  (0 : Nat)) ++
              List.take (m * (3 : Nat)) ys))
          (avLen
            (Av.sl
              (List.take (((0 : Nat) + m) * (3 : Nat))
                (List.take (0 : Nat)
                    (zrep
                      [Value.int IntKind.i64 (0 : Int), Value.int IntKind.i64 (0 : Int),
                        Value.int IntKind.i64 (0 : Int)]
                      (0 : Nat)) ++
                  List.take (m * (3 : Nat)) ys))
              ((0 : Nat) + m))) =
        false,
      m ≤ d ∧ d ≤ (9223372036854775807 : Nat), m * (3 : Nat) ≤ List.length ys, Fl (List.take (m * (3 : Nat)) ys),
      Ints IntKind.i64 (List.take (m * (3 : Nat)) ys),
      logB (List.take (m * (3 : Nat)) ys) (avLen (Av.sl (List.take (m * (3 : Nat)) ys) m)) = false, Ints IntKind.i64 [],
      ([] : List Value) = [], (0 : Nat) = (0 : Nat), Byts [], Byts [], true = true,
      avLen (Av.sl (List.take n xs) n) + (3 : Nat) ≤ (9223372036854775807 : Nat),
      avLen (Av.sl (List.take n xs) n) + (3 : Nat) ≤
        List.length (List.take n xs ++ mk3 (avLen (Av.sl (List.take n xs) n))),
      Fl
        (List.take (avLen (Av.sl (List.take n xs) n) + (3 : Nat))
          (List.take n xs ++ mk3 (avLen (Av.sl (List.take n xs) n)))),
      n ≤ c ∧ c ≤ (9223372036854775807 : Nat), n ≤ List.length xs, Fl (List.take n xs),
      Byts
        (List.take (avLen (Av.sl (List.take n xs) n) + (3 : Nat))
          (List.take n xs ++ mk3 (avLen (Av.sl (List.take n xs) n)))),
      Byts (List.take n xs), avLen (Av.sl (List.take n xs) n) = avLen (Av.sl (List.take n xs) n),
      avLen (Av.sl (List.take n xs) n) + (3 : Nat) = avLen (Av.sl (List.take n xs) n) + (3 : Nat),
      avLen (Av.sl (List.take n xs) n) ≤ (1099511627776 : Nat),
      decide
          (intsOf
              (List.take (avLen (Av.sl (List.take n xs) n) + (3 : Nat))
                (List.take n xs ++ mk3 (avLen (Av.sl (List.take n xs) n)))) =
            intsOf (List.take n xs ++ mk3 (avLen (Av.sl (List.take n xs) n)))) =
        true]) := by kernel_rfl
theorem ll_g_bad0 (xs ys : List Value) (n c m d : Nat) : runZ (llV 2 Try.prog) Try.prog 5 3 [llA n c, llE m d] [(0, ⟨.old, xs⟩), (1, ⟨.old, ys⟩)] 2 ([false, false] ++ [true] ++ [true] ++ [false, false] ++ [false, false] ++ [true, true]) =
Res.ok
  ((Value.bool true, [((0 : Nat), Rw.mk Kd.old xs), ((1 : Nat), Rw.mk Kd.old ys)], (7 : Nat), []), [],
    [decide ((↑n : Int) > (1000 : Int)) = false, decide ((↑m : Int) > (80 : Int)) = false,
      n ≤ c ∧ c ≤ (9223372036854775807 : Nat), n ≤ List.length xs, Fl (List.take n xs), Byts (List.take n xs),
      avLen (Av.sl (List.take n xs) n) ≤ (1099511627776 : Nat),
      avLen (Av.sl (List.take n xs) n) ≤ avLen (Av.sl (List.take n xs) n) + (3 : Nat) ∧
        avLen (Av.sl (List.take n xs) n) + (3 : Nat) ≤ (9223372036854775807 : Nat),
      avLen (Av.sl (List.take n xs) n) ≤ List.length (List.take n xs ++ mk3 (avLen (Av.sl (List.take n xs) n))),
      Fl (List.take (avLen (Av.sl (List.take n xs) n)) (List.take n xs ++ mk3 (avLen (Av.sl (List.take n xs) n)))),
      Byts (List.take (avLen (Av.sl (List.take n xs) n)) (List.take n xs ++ mk3 (avLen (Av.sl (List.take n xs) n)))),
      decide
          (avLen
                (Av.sl
                  (List.take (avLen (Av.sl (List.take n xs) n))
                    (List.take n xs ++ mk3 (avLen (Av.sl (List.take n xs) n))))
                  (avLen (Av.sl (List.take n xs) n))) %
              (12 : Nat) =
            (0 : Nat)) =
        false,
      n ≤ c ∧ c ≤ (9223372036854775807 : Nat), n ≤ List.length xs, Fl (List.take n xs), Byts (List.take n xs),
      decide (avLen (Av.sl (List.take n xs) n) % (12 : Nat) = (0 : Nat)) = false,
      (0 : Nat) < (18446744073709551616 : Nat), (0 : Nat) < (0 : Nat) + m, (0 : Nat) ≤ (0 : Nat),
      ((0 : Nat) + m) * (24 : Nat) ≤ (140737488355328 : Nat) ∧ (0 : Nat) + m ≤ (9223372036854775807 : Nat),
      m * (3 : Nat) ≤ List.length ys, all1 (List.take (m * (3 : Nat)) ys) = true,
      capBig + (4 : Nat) = capBig + (4 : Nat),
      ((0 : Nat) + m) * (3 : Nat) ≤
        List.length
          (List.take (0 : Nat)
              (zrep [Value.int IntKind.i64 (0 : Int), Value.int IntKind.i64 (0 : Int), Value.int IntKind.i64 (0 : Int)]
                (0 : Nat)) ++
            List.take (m * (3 : Nat)) ys),
      (0 : Nat) < (3 : Nat),
      ((0 : Nat) + m) * (3 : Nat) ≤
        List.length
          (List.take (0 : Nat)
              (zrep [Value.int IntKind.i64 (0 : Int), Value.int IntKind.i64 (0 : Int), Value.int IntKind.i64 (0 : Int)]
                (0 : Nat)) ++
            List.take (m * (3 : Nat)) ys),
      Fl
        (List.take (((0 : Nat) + m) * (3 : Nat))
          (List.take (0 : Nat)
              (zrep [Value.int IntKind.i64 (0 : Int), Value.int IntKind.i64 (0 : Int), Value.int IntKind.i64 (0 : Int)]
                (0 : Nat)) ++
            List.take (m * (3 : Nat)) ys)),
      Ints IntKind.i64
        (List.take (((0 : Nat) + m) * (3 : Nat))
          (List.take (0 : Nat)
              (zrep [Value.int IntKind.i64 (0 : Int), Value.int IntKind.i64 (0 : Int), Value.int IntKind.i64 (0 : Int)]
                (0 : Nat)) ++
            List.take (m * (3 : Nat)) ys)),
      decide
          (avLen
              (Av.sl
                (List.take (((0 : Nat) + m) * (3 : Nat))
                  (List.take (0 : Nat)
                      (zrep
                        [Value.int IntKind.i64 (0 : Int), Value.int IntKind.i64 (0 : Int),
                          Value.int IntKind.i64 (0 : Int)]
                        (0 : Nat)) ++
                    List.take (m * (3 : Nat)) ys))
                ((0 : Nat) + m)) =
            (0 : Nat)) =
        false,
      logB
          (List.take (((0 : Nat) + m) * (3 : Nat))
            (List.take (0 : Nat)
                (zrep
                  [Value.int IntKind.i64 (0 : Int), Value.int IntKind.i64 (0 : Int), Value.int IntKind.i64 (0 : Int)]
                  (0 : Nat)) ++
              List.take (m * (3 : Nat)) ys))
          (avLen
            (Av.sl
              (List.take (((0 : Nat) + m) * (3 : Nat))
                (List.take (0 : Nat)
                    (zrep
                      [Value.int IntKind.i64 (0 : Int), Value.int IntKind.i64 (0 : Int),
                        Value.int IntKind.i64 (0 : Int)]
                      (0 : Nat)) ++
                  List.take (m * (3 : Nat)) ys))
              ((0 : Nat) + m))) =
        true,
      m ≤ d ∧ d ≤ (9223372036854775807 : Nat), m * (3 : Nat) ≤ List.length ys, Fl (List.take (m * (3 : Nat)) ys),
      Ints IntKind.i64 (List.take (m * (3 : Nat)) ys),
      decide (avLen (Av.sl (List.take (m * (3 : Nat)) ys) m) = (0 : Nat)) = false,
      logB (List.take (m * (3 : Nat)) ys) (avLen (Av.sl (List.take (m * (3 : Nat)) ys) m)) = true, Ints IntKind.i64 [],
      ([] : List Value) = [], (0 : Nat) = (0 : Nat), capBig + (5 : Nat) = capBig + (5 : Nat),
      avLen
            (Av.sl
              (List.take (((0 : Nat) + m) * (3 : Nat))
                (List.take (0 : Nat)
                    (zrep
                      [Value.int IntKind.i64 (0 : Int), Value.int IntKind.i64 (0 : Int),
                        Value.int IntKind.i64 (0 : Int)]
                      (0 : Nat)) ++
                  List.take (m * (3 : Nat)) ys))
              ((0 : Nat) + m)) *
          (12 : Nat) ≤
        List.length
          (ofL
            (List.take (((0 : Nat) + m) * (3 : Nat))
              (List.take (0 : Nat)
                  (zrep
                    [Value.int IntKind.i64 (0 : Int), Value.int IntKind.i64 (0 : Int), Value.int IntKind.i64 (0 : Int)]
                    (0 : Nat)) ++
                List.take (m * (3 : Nat)) ys))
            (0 : Nat)
            (avLen
              (Av.sl
                (List.take (((0 : Nat) + m) * (3 : Nat))
                  (List.take (0 : Nat)
                      (zrep
                        [Value.int IntKind.i64 (0 : Int), Value.int IntKind.i64 (0 : Int),
                          Value.int IntKind.i64 (0 : Int)]
                        (0 : Nat)) ++
                    List.take (m * (3 : Nat)) ys))
                ((0 : Nat) + m)))),
      (0 : Nat) < (1 : Nat),
      avLen
            (Av.sl
              (List.take (((0 : Nat) + m) * (3 : Nat))
                (List.take (0 : Nat)
                    (zrep
                      [Value.int IntKind.i64 (0 : Int), Value.int IntKind.i64 (0 : Int),
                        Value.int IntKind.i64 (0 : Int)]
                      (0 : Nat)) ++
                  List.take (m * (3 : Nat)) ys))
              ((0 : Nat) + m)) *
          (12 : Nat) ≤
        List.length
          (ofL
            (List.take (((0 : Nat) + m) * (3 : Nat))
              (List.take (0 : Nat)
                  (zrep
                    [Value.int IntKind.i64 (0 : Int), Value.int IntKind.i64 (0 : Int), Value.int IntKind.i64 (0 : Int)]
                    (0 : Nat)) ++
                List.take (m * (3 : Nat)) ys))
            (0 : Nat)
            (avLen
              (Av.sl
                (List.take (((0 : Nat) + m) * (3 : Nat))
                  (List.take (0 : Nat)
                      (zrep
                        [Value.int IntKind.i64 (0 : Int), Value.int IntKind.i64 (0 : Int),
                          Value.int IntKind.i64 (0 : Int)]
                        (0 : Nat)) ++
                    List.take (m * (3 : Nat)) ys))
                ((0 : Nat) + m)))),
      Fl
        (List.take
          (avLen
              (Av.sl
                (List.take (((0 : Nat) + m) * (3 : Nat))
                  (List.take (0 : Nat)
                      (zrep
                        [Value.int IntKind.i64 (0 : Int), Value.int IntKind.i64 (0 : Int),
                          Value.int IntKind.i64 (0 : Int)]
                        (0 : Nat)) ++
                    List.take (m * (3 : Nat)) ys))
                ((0 : Nat) + m)) *
            (12 : Nat))
          (ofL
            (List.take (((0 : Nat) + m) * (3 : Nat))
              (List.take (0 : Nat)
                  (zrep
                    [Value.int IntKind.i64 (0 : Int), Value.int IntKind.i64 (0 : Int), Value.int IntKind.i64 (0 : Int)]
                    (0 : Nat)) ++
                List.take (m * (3 : Nat)) ys))
            (0 : Nat)
            (avLen
              (Av.sl
                (List.take (((0 : Nat) + m) * (3 : Nat))
                  (List.take (0 : Nat)
                      (zrep
                        [Value.int IntKind.i64 (0 : Int), Value.int IntKind.i64 (0 : Int),
                          Value.int IntKind.i64 (0 : Int)]
                        (0 : Nat)) ++
                    List.take (m * (3 : Nat)) ys))
                ((0 : Nat) + m))))),
      capBig + (6 : Nat) = capBig + (6 : Nat),
      avLen (Av.sl (List.take (m * (3 : Nat)) ys) m) * (12 : Nat) ≤
        List.length (ofL (List.take (m * (3 : Nat)) ys) (0 : Nat) (avLen (Av.sl (List.take (m * (3 : Nat)) ys) m))),
      (0 : Nat) < (1 : Nat),
      avLen (Av.sl (List.take (m * (3 : Nat)) ys) m) * (12 : Nat) ≤
        List.length (ofL (List.take (m * (3 : Nat)) ys) (0 : Nat) (avLen (Av.sl (List.take (m * (3 : Nat)) ys) m))),
      Fl
        (List.take (avLen (Av.sl (List.take (m * (3 : Nat)) ys) m) * (12 : Nat))
          (ofL (List.take (m * (3 : Nat)) ys) (0 : Nat) (avLen (Av.sl (List.take (m * (3 : Nat)) ys) m)))),
      Byts
        (List.take
          (avLen
              (Av.sl
                (List.take (((0 : Nat) + m) * (3 : Nat))
                  (List.take (0 : Nat)
                      (zrep
                        [Value.int IntKind.i64 (0 : Int), Value.int IntKind.i64 (0 : Int),
                          Value.int IntKind.i64 (0 : Int)]
                        (0 : Nat)) ++
                    List.take (m * (3 : Nat)) ys))
                ((0 : Nat) + m)) *
            (12 : Nat))
          (ofL
            (List.take (((0 : Nat) + m) * (3 : Nat))
              (List.take (0 : Nat)
                  (zrep
                    [Value.int IntKind.i64 (0 : Int), Value.int IntKind.i64 (0 : Int), Value.int IntKind.i64 (0 : Int)]
                    (0 : Nat)) ++
                List.take (m * (3 : Nat)) ys))
            (0 : Nat)
            (avLen
              (Av.sl
                (List.take (((0 : Nat) + m) * (3 : Nat))
                  (List.take (0 : Nat)
                      (zrep
                        [Value.int IntKind.i64 (0 : Int), Value.int IntKind.i64 (0 : Int),
                          Value.int IntKind.i64 (0 : Int)]
                        (0 : Nat)) ++
                    List.take (m * (3 : Nat)) ys))
                ((0 : Nat) + m))))),
      Byts
        (List.take (avLen (Av.sl (List.take (m * (3 : Nat)) ys) m) * (12 : Nat))
          (ofL (List.take (m * (3 : Nat)) ys) (0 : Nat) (avLen (Av.sl (List.take (m * (3 : Nat)) ys) m)))),
      decide
          (intsOf
              (List.take
                (avLen
                    (Av.sl
                      (List.take (((0 : Nat) + m) * (3 : Nat))
                        (List.take (0 : Nat)
                            (zrep
                              [Value.int IntKind.i64 (0 : Int), Value.int IntKind.i64 (0 : Int),
                                Value.int IntKind.i64 (0 : Int)]
                              (0 : Nat)) ++
                          List.take (m * (3 : Nat)) ys))
                      ((0 : Nat) + m)) *
                  (12 : Nat))
                (ofL
                  (List.take (((0 : Nat) + m) * (3 : Nat))
                    (List.take (0 : Nat)
                        (zrep
                          [Value.int IntKind.i64 (0 : Int), Value.int IntKind.i64 (0 : Int),
                            Value.int IntKind.i64 (0 : Int)]
                          (0 : Nat)) ++
                      List.take (m * (3 : Nat)) ys))
                  (0 : Nat)
                  (avLen
                    (Av.sl
                      (List.take (((0 : Nat) + m) * (3 : Nat))
                        (List.take (0 : Nat)
                            (zrep
                              [Value.int IntKind.i64 (0 : Int), Value.int IntKind.i64 (0 : Int),
                                Value.int IntKind.i64 (0 : Int)]
                              (0 : Nat)) ++
                          List.take (m * (3 : Nat)) ys))
                      ((0 : Nat) + m))))) =
            intsOf
              (List.take (avLen (Av.sl (List.take (m * (3 : Nat)) ys) m) * (12 : Nat))
                (ofL (List.take (m * (3 : Nat)) ys) (0 : Nat) (avLen (Av.sl (List.take (m * (3 : Nat)) ys) m))))) =
        true,
      (0 : Nat) = (0 : Nat), capBig + (5 : Nat) = capBig + (5 : Nat),
      avLen
            (Av.sl
              (List.take (((0 : Nat) + m) * (3 : Nat))
                (List.take (0 : Nat)
                    (zrep
                      [Value.int IntKind.i64 (0 : Int), Value.int IntKind.i64 (0 : Int),
                        Value.int IntKind.i64 (0 : Int)]
                      (0 : Nat)) ++
                  List.take (m * (3 : Nat)) ys))
              ((0 : Nat) + m)) *
          (12 : Nat) ≤
        List.length
          (ofL
            (List.take (((0 : Nat) + m) * (3 : Nat))
              (List.take (0 : Nat)
                  (zrep
                    [Value.int IntKind.i64 (0 : Int), Value.int IntKind.i64 (0 : Int), Value.int IntKind.i64 (0 : Int)]
                    (0 : Nat)) ++
                List.take (m * (3 : Nat)) ys))
            (0 : Nat)
            (avLen
              (Av.sl
                (List.take (((0 : Nat) + m) * (3 : Nat))
                  (List.take (0 : Nat)
                      (zrep
                        [Value.int IntKind.i64 (0 : Int), Value.int IntKind.i64 (0 : Int),
                          Value.int IntKind.i64 (0 : Int)]
                        (0 : Nat)) ++
                    List.take (m * (3 : Nat)) ys))
                ((0 : Nat) + m)))),
      Byts
        (ofL
          (List.take (((0 : Nat) + m) * (3 : Nat))
            (List.take (0 : Nat)
                (zrep
                  [Value.int IntKind.i64 (0 : Int), Value.int IntKind.i64 (0 : Int), Value.int IntKind.i64 (0 : Int)]
                  (0 : Nat)) ++
              List.take (m * (3 : Nat)) ys))
          (0 : Nat)
          (avLen
            (Av.sl
              (List.take (((0 : Nat) + m) * (3 : Nat))
                (List.take (0 : Nat)
                    (zrep
                      [Value.int IntKind.i64 (0 : Int), Value.int IntKind.i64 (0 : Int),
                        Value.int IntKind.i64 (0 : Int)]
                      (0 : Nat)) ++
                  List.take (m * (3 : Nat)) ys))
              ((0 : Nat) + m)))),
      avLen (Av.sl (List.take n xs) n) + (3 : Nat) ≤ (9223372036854775807 : Nat),
      avLen (Av.sl (List.take n xs) n) + (3 : Nat) ≤
        List.length (List.take n xs ++ mk3 (avLen (Av.sl (List.take n xs) n))),
      Fl
        (List.take (avLen (Av.sl (List.take n xs) n) + (3 : Nat))
          (List.take n xs ++ mk3 (avLen (Av.sl (List.take n xs) n)))),
      n ≤ c ∧ c ≤ (9223372036854775807 : Nat), n ≤ List.length xs, Fl (List.take n xs),
      Byts
        (List.take (avLen (Av.sl (List.take n xs) n) + (3 : Nat))
          (List.take n xs ++ mk3 (avLen (Av.sl (List.take n xs) n)))),
      Byts (List.take n xs), avLen (Av.sl (List.take n xs) n) = avLen (Av.sl (List.take n xs) n),
      avLen (Av.sl (List.take n xs) n) + (3 : Nat) = avLen (Av.sl (List.take n xs) n) + (3 : Nat),
      avLen (Av.sl (List.take n xs) n) ≤ (1099511627776 : Nat),
      decide
          (intsOf
              (List.take (avLen (Av.sl (List.take n xs) n) + (3 : Nat))
                (List.take n xs ++ mk3 (avLen (Av.sl (List.take n xs) n)))) =
            intsOf (List.take n xs ++ mk3 (avLen (Av.sl (List.take n xs) n)))) =
        true]) := by kernel_rfl
theorem ll_n_nil0 (xs : List Value) (n c : Nat) : runZ (llV 4 Try.prog) Try.prog 5 3 [llA n c, .slice none 0 0] [(0, ⟨.old, xs⟩)] 2 ([false, false] ++ [false, true] ++ [false, true] ++ [false, true] ++ [false, true] ++ [true, true]) =
Res.ok
  ((Value.bool true, [((0 : Nat), Rw.mk Kd.old xs)], (4 : Nat), []), [],
    [decide ((↑n : Int) > (1000 : Int)) = false, false = false, n ≤ c ∧ c ≤ (9223372036854775807 : Nat),
      n ≤ List.length xs, Fl (List.take n xs), Byts (List.take n xs),
      avLen (Av.sl (List.take n xs) n) ≤ (1099511627776 : Nat),
      avLen (Av.sl (List.take n xs) n) ≤ avLen (Av.sl (List.take n xs) n) + (3 : Nat) ∧
        avLen (Av.sl (List.take n xs) n) + (3 : Nat) ≤ (9223372036854775807 : Nat),
      avLen (Av.sl (List.take n xs) n) ≤ List.length (List.take n xs ++ mk3 (avLen (Av.sl (List.take n xs) n))),
      Fl (List.take (avLen (Av.sl (List.take n xs) n)) (List.take n xs ++ mk3 (avLen (Av.sl (List.take n xs) n)))),
      Byts (List.take (avLen (Av.sl (List.take n xs) n)) (List.take n xs ++ mk3 (avLen (Av.sl (List.take n xs) n)))),
      avLen
          (Av.sl
            (List.take (avLen (Av.sl (List.take n xs) n)) (List.take n xs ++ mk3 (avLen (Av.sl (List.take n xs) n))))
            (avLen (Av.sl (List.take n xs) n))) =
        (0 : Nat),
      n ≤ c ∧ c ≤ (9223372036854775807 : Nat), n ≤ List.length xs, Fl (List.take n xs), Byts (List.take n xs),
      avLen (Av.sl (List.take n xs) n) = (0 : Nat), (0 : Nat) ≤ (0 : Nat) ∧ (0 : Nat) ≤ (9223372036854775807 : Nat),
      (0 : Nat) ≤ (0 : Nat),
      Fl
        (List.take (0 : Nat)
          (splice
            (zrep [Value.int IntKind.i64 (0 : Int), Value.int IntKind.i64 (0 : Int), Value.int IntKind.i64 (0 : Int)]
              (0 : Nat))
            (0 : Nat) [])),
      Ints IntKind.i64
        (List.take (0 : Nat)
          (splice
            (zrep [Value.int IntKind.i64 (0 : Int), Value.int IntKind.i64 (0 : Int), Value.int IntKind.i64 (0 : Int)]
              (0 : Nat))
            (0 : Nat) [])),
      (0 : Nat) = (0 : Nat), Ints IntKind.i64 [], (0 : Nat) = (0 : Nat), Ints IntKind.i64 [], ([] : List Value) = [],
      (0 : Nat) = (0 : Nat), Byts [], Byts [], true = true,
      avLen (Av.sl (List.take n xs) n) + (3 : Nat) ≤ (9223372036854775807 : Nat),
      avLen (Av.sl (List.take n xs) n) + (3 : Nat) ≤
        List.length (List.take n xs ++ mk3 (avLen (Av.sl (List.take n xs) n))),
      Fl
        (List.take (avLen (Av.sl (List.take n xs) n) + (3 : Nat))
          (List.take n xs ++ mk3 (avLen (Av.sl (List.take n xs) n)))),
      n ≤ c ∧ c ≤ (9223372036854775807 : Nat), n ≤ List.length xs, Fl (List.take n xs),
      Byts
        (List.take (avLen (Av.sl (List.take n xs) n) + (3 : Nat))
          (List.take n xs ++ mk3 (avLen (Av.sl (List.take n xs) n)))),
      Byts (List.take n xs), avLen (Av.sl (List.take n xs) n) = avLen (Av.sl (List.take n xs) n),
      avLen (Av.sl (List.take n xs) n) + (3 : Nat) = avLen (Av.sl (List.take n xs) n) + (3 : Nat),
      avLen (Av.sl (List.take n xs) n) ≤ (1099511627776 : Nat),
      decide
          (intsOf
              (List.take (avLen (Av.sl (List.take n xs) n) + (3 : Nat))
                (List.take n xs ++ mk3 (avLen (Av.sl (List.take n xs) n)))) =
            intsOf (List.take n xs ++ mk3 (avLen (Av.sl (List.take n xs) n)))) =
        true]) := by kernel_rfl
theorem ll_e_nil0 (xs ys : List Value) (n c d : Nat) : runZ (llV 4 Try.prog) Try.prog 5 3 [llA n c, llE 0 d] [(0, ⟨.old, xs⟩), (1, ⟨.old, ys⟩)] 2 ([false, false] ++ [false, true] ++ [false, true] ++ [false, true] ++ [false, true] ++ [true, true]) =
Res.ok
  ((Value.bool true, [((0 : Nat), Rw.mk Kd.old xs), ((1 : Nat), Rw.mk Kd.old ys)], (4 : Nat), []), [],
    [decide ((↑n : Int) > (1000 : Int)) = false, false = false, n ≤ c ∧ c ≤ (9223372036854775807 : Nat),
      n ≤ List.length xs, Fl (List.take n xs), Byts (List.take n xs),
      avLen (Av.sl (List.take n xs) n) ≤ (1099511627776 : Nat),
      avLen (Av.sl (List.take n xs) n) ≤ avLen (Av.sl (List.take n xs) n) + (3 : Nat) ∧
        avLen (Av.sl (List.take n xs) n) + (3 : Nat) ≤ (9223372036854775807 : Nat),
      avLen (Av.sl (List.take n xs) n) ≤ List.length (List.take n xs ++ mk3 (avLen (Av.sl (List.take n xs) n))),
      Fl (List.take (avLen (Av.sl (List.take n xs) n)) (List.take n xs ++ mk3 (avLen (Av.sl (List.take n xs) n)))),
      Byts (List.take (avLen (Av.sl (List.take n xs) n)) (List.take n xs ++ mk3 (avLen (Av.sl (List.take n xs) n)))),
      avLen
          (Av.sl
            (List.take (avLen (Av.sl (List.take n xs) n)) (List.take n xs ++ mk3 (avLen (Av.sl (List.take n xs) n))))
            (avLen (Av.sl (List.take n xs) n))) =
        (0 : Nat),
      n ≤ c ∧ c ≤ (9223372036854775807 : Nat), n ≤ List.length xs, Fl (List.take n xs), Byts (List.take n xs),
      avLen (Av.sl (List.take n xs) n) = (0 : Nat), (0 : Nat) ≤ (0 : Nat) ∧ (0 : Nat) ≤ (9223372036854775807 : Nat),
      (0 : Nat) ≤ (0 : Nat),
      Fl
        (List.take (0 : Nat)
          (splice
            (zrep [Value.int IntKind.i64 (0 : Int), Value.int IntKind.i64 (0 : Int), Value.int IntKind.i64 (0 : Int)]
              (0 : Nat))
            (0 : Nat) (List.take (0 : Nat) (List.drop (0 : Nat) ys)))),
      Ints IntKind.i64
        (List.take (0 : Nat)
          (splice
            (zrep [Value.int IntKind.i64 (0 : Int), Value.int IntKind.i64 (0 : Int), Value.int IntKind.i64 (0 : Int)]
              (0 : Nat))
            (0 : Nat) (List.take (0 : Nat) (List.drop (0 : Nat) ys)))),
      (0 : Nat) = (0 : Nat), (0 : Nat) ≤ d ∧ d ≤ (9223372036854775807 : Nat), (0 : Nat) ≤ List.length ys,
      Fl (List.take (0 : Nat) ys), Ints IntKind.i64 (List.take (0 : Nat) ys), (0 : Nat) = (0 : Nat),
      Ints IntKind.i64 [], ([] : List Value) = [], (0 : Nat) = (0 : Nat), Byts [], Byts [], true = true,
      avLen (Av.sl (List.take n xs) n) + (3 : Nat) ≤ (9223372036854775807 : Nat),
      avLen (Av.sl (List.take n xs) n) + (3 : Nat) ≤
        List.length (List.take n xs ++ mk3 (avLen (Av.sl (List.take n xs) n))),
      Fl
        (List.take (avLen (Av.sl (List.take n xs) n) + (3 : Nat))
          (List.take n xs ++ mk3 (avLen (Av.sl (List.take n xs) n)))),
      n ≤ c ∧ c ≤ (9223372036854775807 : Nat), n ≤ List.length xs, Fl (List.take n xs),
      Byts
        (List.take (avLen (Av.sl (List.take n xs) n) + (3 : Nat))
          (List.take n xs ++ mk3 (avLen (Av.sl (List.take n xs) n)))),
      Byts (List.take n xs), avLen (Av.sl (List.take n xs) n) = avLen (Av.sl (List.take n xs) n),
      avLen (Av.sl (List.take n xs) n) + (3 : Nat) = avLen (Av.sl (List.take n xs) n) + (3 : Nat),
      avLen (Av.sl (List.take n xs) n) ≤ (1099511627776 : Nat),
      decide
          (intsOf
              (List.take (avLen (Av.sl (List.take n xs) n) + (3 : Nat))
                (List.take n xs ++ mk3 (avLen (Av.sl (List.take n xs) n)))) =
            intsOf (List.take n xs ++ mk3 (avLen (Av.sl (List.take n xs) n)))) =
        true]) := by kernel_rfl
theorem ll_b_nil0 (xs ys : List Value) (n c m d : Nat) : runZ (llV 2 Try.prog) Try.prog 5 3 [llA n c, llE m d] [(0, ⟨.old, xs⟩), (1, ⟨.old, ys⟩)] 2 ([false, false] ++ [false, true] ++ [false, true] ++ [true] ++ [true] ++ [true, true]) =
Res.ok
  ((Value.bool true, [((0 : Nat), Rw.mk Kd.old xs), ((1 : Nat), Rw.mk Kd.old ys)], (5 : Nat), []), [],
    [decide ((↑n : Int) > (1000 : Int)) = false, decide ((↑m : Int) > (80 : Int)) = false,
      n ≤ c ∧ c ≤ (9223372036854775807 : Nat), n ≤ List.length xs, Fl (List.take n xs), Byts (List.take n xs),
      avLen (Av.sl (List.take n xs) n) ≤ (1099511627776 : Nat),
      avLen (Av.sl (List.take n xs) n) ≤ avLen (Av.sl (List.take n xs) n) + (3 : Nat) ∧
        avLen (Av.sl (List.take n xs) n) + (3 : Nat) ≤ (9223372036854775807 : Nat),
      avLen (Av.sl (List.take n xs) n) ≤ List.length (List.take n xs ++ mk3 (avLen (Av.sl (List.take n xs) n))),
      Fl (List.take (avLen (Av.sl (List.take n xs) n)) (List.take n xs ++ mk3 (avLen (Av.sl (List.take n xs) n)))),
      Byts (List.take (avLen (Av.sl (List.take n xs) n)) (List.take n xs ++ mk3 (avLen (Av.sl (List.take n xs) n)))),
      avLen
          (Av.sl
            (List.take (avLen (Av.sl (List.take n xs) n)) (List.take n xs ++ mk3 (avLen (Av.sl (List.take n xs) n))))
            (avLen (Av.sl (List.take n xs) n))) =
        (0 : Nat),
      n ≤ c ∧ c ≤ (9223372036854775807 : Nat), n ≤ List.length xs, Fl (List.take n xs), Byts (List.take n xs),
      avLen (Av.sl (List.take n xs) n) = (0 : Nat), (0 : Nat) < (18446744073709551616 : Nat), (0 : Nat) < (0 : Nat) + m,
      (0 : Nat) ≤ (0 : Nat),
      ((0 : Nat) + m) * (24 : Nat) ≤ (140737488355328 : Nat) ∧ (0 : Nat) + m ≤ (9223372036854775807 : Nat),
      m * (3 : Nat) ≤ List.length ys, all1 (List.take (m * (3 : Nat)) ys) = true,
      capBig + (4 : Nat) = capBig + (4 : Nat),
      ((0 : Nat) + m) * (3 : Nat) ≤
        List.length
          (List.take (0 : Nat)
              (zrep [Value.int IntKind.i64 (0 : Int), Value.int IntKind.i64 (0 : Int), Value.int IntKind.i64 (0 : Int)]
                (0 : Nat)) ++
            List.take (m * (3 : Nat)) ys),
      (0 : Nat) < (3 : Nat),
      ((0 : Nat) + m) * (3 : Nat) ≤
        List.length
          (List.take (0 : Nat)
              (zrep [Value.int IntKind.i64 (0 : Int), Value.int IntKind.i64 (0 : Int), Value.int IntKind.i64 (0 : Int)]
                (0 : Nat)) ++
            List.take (m * (3 : Nat)) ys),
      Fl
        (List.take (((0 : Nat) + m) * (3 : Nat))
          (List.take (0 : Nat)
              (zrep [Value.int IntKind.i64 (0 : Int), Value.int IntKind.i64 (0 : Int), Value.int IntKind.i64 (0 : Int)]
                (0 : Nat)) ++
            List.take (m * (3 : Nat)) ys)),
      Ints IntKind.i64
        (List.take (((0 : Nat) + m) * (3 : Nat))
          (List.take (0 : Nat)
              (zrep [Value.int IntKind.i64 (0 : Int), Value.int IntKind.i64 (0 : Int), Value.int IntKind.i64 (0 : Int)]
                (0 : Nat)) ++
            List.take (m * (3 : Nat)) ys)),
      logB
          (List.take (((0 : Nat) + m) * (3 : Nat))
            (List.take (0 : Nat)
                (zrep
                  [Value.int IntKind.i64 (0 : Int), Value.int IntKind.i64 (0 : Int), Value.int IntKind.i64 (0 : Int)]
                  (0 : Nat)) ++
              List.take (m * (3 : Nat)) ys))
          (avLen
            (Av.sl
              (List.take (((0 : Nat) + m) * (3 : Nat))
                (List.take (0 : Nat)
                    (zrep
                      [Value.int IntKind.i64 (0 : Int), Value.int IntKind.i64 (0 : Int),
                        Value.int IntKind.i64 (0 : Int)]
                      (0 : Nat)) ++
                  List.take (m * (3 : Nat)) ys))
              ((0 : Nat) + m))) =
        false,
      m ≤ d ∧ d ≤ (9223372036854775807 : Nat), m * (3 : Nat) ≤ List.length ys, Fl (List.take (m * (3 : Nat)) ys),
      Ints IntKind.i64 (List.take (m * (3 : Nat)) ys),
      logB (List.take (m * (3 : Nat)) ys) (avLen (Av.sl (List.take (m * (3 : Nat)) ys) m)) = false, Ints IntKind.i64 [],
      ([] : List Value) = [], (0 : Nat) = (0 : Nat), Byts [], Byts [], true = true,
      avLen (Av.sl (List.take n xs) n) + (3 : Nat) ≤ (9223372036854775807 : Nat),
      avLen (Av.sl (List.take n xs) n) + (3 : Nat) ≤
        List.length (List.take n xs ++ mk3 (avLen (Av.sl (List.take n xs) n))),
      Fl
        (List.take (avLen (Av.sl (List.take n xs) n) + (3 : Nat))
          (List.take n xs ++ mk3 (avLen (Av.sl (List.take n xs) n)))),
      n ≤ c ∧ c ≤ (9223372036854775807 : Nat), n ≤ List.length xs, Fl (List.take n xs),
      Byts
        (List.take (avLen (Av.sl (List.take n xs) n) + (3 : Nat))
          (List.take n xs ++ mk3 (avLen (Av.sl (List.take n xs) n)))),
      Byts (List.take n xs), avLen (Av.sl (List.take n xs) n) = avLen (Av.sl (List.take n xs) n),
      avLen (Av.sl (List.take n xs) n) + (3 : Nat) = avLen (Av.sl (List.take n xs) n) + (3 : Nat),
      avLen (Av.sl (List.take n xs) n) ≤ (1099511627776 : Nat),
      decide
          (intsOf
              (List.take (avLen (Av.sl (List.take n xs) n) + (3 : Nat))
                (List.take n xs ++ mk3 (avLen (Av.sl (List.take n xs) n)))) =
            intsOf (List.take n xs ++ mk3 (avLen (Av.sl (List.take n xs) n)))) =
        true]) := by kernel_rfl
theorem ll_g_nil0 (xs ys : List Value) (n c m d : Nat) : runZ (llV 2 Try.prog) Try.prog 5 3 [llA n c, llE m d] [(0, ⟨.old, xs⟩), (1, ⟨.old, ys⟩)] 2 ([false, false] ++ [false, true] ++ [false, true] ++ [false, false] ++ [false, false] ++ [true, true]) =
Res.ok
  ((Value.bool true, [((0 : Nat), Rw.mk Kd.old xs), ((1 : Nat), Rw.mk Kd.old ys)], (7 : Nat), []), [],
    [decide ((↑n : Int) > (1000 : Int)) = false, decide ((↑m : Int) > (80 : Int)) = false,
      n ≤ c ∧ c ≤ (9223372036854775807 : Nat), n ≤ List.length xs, Fl (List.take n xs), Byts (List.take n xs),
      avLen (Av.sl (List.take n xs) n) ≤ (1099511627776 : Nat),
      avLen (Av.sl (List.take n xs) n) ≤ avLen (Av.sl (List.take n xs) n) + (3 : Nat) ∧
        avLen (Av.sl (List.take n xs) n) + (3 : Nat) ≤ (9223372036854775807 : Nat),
      avLen (Av.sl (List.take n xs) n) ≤ List.length (List.take n xs ++ mk3 (avLen (Av.sl (List.take n xs) n))),
      Fl (List.take (avLen (Av.sl (List.take n xs) n)) (List.take n xs ++ mk3 (avLen (Av.sl (List.take n xs) n)))),
      Byts (List.take (avLen (Av.sl (List.take n xs) n)) (List.take n xs ++ mk3 (avLen (Av.sl (List.take n xs) n)))),
      avLen
          (Av.sl
            (List.take (avLen (Av.sl (List.take n xs) n)) (List.take n xs ++ mk3 (avLen (Av.sl (List.take n xs) n))))
            (avLen (Av.sl (List.take n xs) n))) =
        (0 : Nat),
      n ≤ c ∧ c ≤ (9223372036854775807 : Nat), n ≤ List.length xs, Fl (List.take n xs), Byts (List.take n xs),
      avLen (Av.sl (List.take n xs) n) = (0 : Nat), (0 : Nat) < (18446744073709551616 : Nat), (0 : Nat) < (0 : Nat) + m,
      (0 : Nat) ≤ (0 : Nat),
      ((0 : Nat) + m) * (24 : Nat) ≤ (140737488355328 : Nat) ∧ (0 : Nat) + m ≤ (9223372036854775807 : Nat),
      m * (3 : Nat) ≤ List.length ys, all1 (List.take (m * (3 : Nat)) ys) = true,
      capBig + (4 : Nat) = capBig + (4 : Nat),
      ((0 : Nat) + m) * (3 : Nat) ≤
        List.length
          (List.take (0 : Nat)
              (zrep [Value.int IntKind.i64 (0 : Int), Value.int IntKind.i64 (0 : Int), Value.int IntKind.i64 (0 : Int)]
                (0 : Nat)) ++
            List.take (m * (3 : Nat)) ys),
      (0 : Nat) < (3 : Nat),
      ((0 : Nat) + m) * (3 : Nat) ≤
        List.length
          (List.take (0 : Nat)
              (zrep [Value.int IntKind.i64 (0 : Int), Value.int IntKind.i64 (0 : Int), Value.int IntKind.i64 (0 : Int)]
                (0 : Nat)) ++
            List.take (m * (3 : Nat)) ys),
      Fl
        (List.take (((0 : Nat) + m) * (3 : Nat))
          (List.take (0 : Nat)
              (zrep [Value.int IntKind.i64 (0 : Int), Value.int IntKind.i64 (0 : Int), Value.int IntKind.i64 (0 : Int)]
                (0 : Nat)) ++
            List.take (m * (3 : Nat)) ys)),
      Ints IntKind.i64
        (List.take (((0 : Nat) + m) * (3 : Nat))
          (List.take (0 : Nat)
              (zrep [Value.int IntKind.i64 (0 : Int), Value.int IntKind.i64 (0 : Int), Value.int IntKind.i64 (0 : Int)]
                (0 : Nat)) ++
            List.take (m * (3 : Nat)) ys)),
      decide
          (avLen
              (Av.sl
                (List.take (((0 : Nat) + m) * (3 : Nat))
                  (List.take (0 : Nat)
                      (zrep
                        [Value.int IntKind.i64 (0 : Int), Value.int IntKind.i64 (0 : Int),
                          Value.int IntKind.i64 (0 : Int)]
                        (0 : Nat)) ++
                    List.take (m * (3 : Nat)) ys))
                ((0 : Nat) + m)) =
            (0 : Nat)) =
        false,
      logB
          (List.take (((0 : Nat) + m) * (3 : Nat))
            (List.take (0 : Nat)
                (zrep
                  [Value.int IntKind.i64 (0 : Int), Value.int IntKind.i64 (0 : Int), Value.int IntKind.i64 (0 : Int)]
                  (0 : Nat)) ++
              List.take (m * (3 : Nat)) ys))
          (avLen
            (Av.sl
              (List.take (((0 : Nat) + m) * (3 : Nat))
                (List.take (0 : Nat)
                    (zrep
                      [Value.int IntKind.i64 (0 : Int), Value.int IntKind.i64 (0 : Int),
                        Value.int IntKind.i64 (0 : Int)]
                      (0 : Nat)) ++
                  List.take (m * (3 : Nat)) ys))
              ((0 : Nat) + m))) =
        true,
      m ≤ d ∧ d ≤ (9223372036854775807 : Nat), m * (3 : Nat) ≤ List.length ys, Fl (List.take (m * (3 : Nat)) ys),
      Ints IntKind.i64 (List.take (m * (3 : Nat)) ys),
      decide (avLen (Av.sl (List.take (m * (3 : Nat)) ys) m) = (0 : Nat)) = false,
      logB (List.take (m * (3 : Nat)) ys) (avLen (Av.sl (List.take (m * (3 : Nat)) ys) m)) = true, Ints IntKind.i64 [],
      ([] : List Value) = [], (0 : Nat) = (0 : Nat), capBig + (5 : Nat) = capBig + (5 : Nat),
      avLen
            (Av.sl
              (List.take (((0 : Nat) + m) * (3 : Nat))
                (List.take (0 : Nat)
                    (zrep
                      [Value.int IntKind.i64 (0 : Int), Value.int IntKind.i64 (0 : Int),
                        Value.int IntKind.i64 (0 : Int)]
                      (0 : Nat)) ++
                  List.take (m * (3 : Nat)) ys))
              ((0 : Nat) + m)) *
          (12 : Nat) ≤
        List.length
          (ofL
            (List.take (((0 : Nat) + m) * (3 : Nat))
              (List.take (0 : Nat)
                  (zrep
                    [Value.int IntKind.i64 (0 : Int), Value.int IntKind.i64 (0 : Int), Value.int IntKind.i64 (0 : Int)]
                    (0 : Nat)) ++
                List.take (m * (3 : Nat)) ys))
            (0 : Nat)
            (avLen
              (Av.sl
                (List.take (((0 : Nat) + m) * (3 : Nat))
                  (List.take (0 : Nat)
                      (zrep
                        [Value.int IntKind.i64 (0 : Int), Value.int IntKind.i64 (0 : Int),
                          Value.int IntKind.i64 (0 : Int)]
                        (0 : Nat)) ++
                    List.take (m * (3 : Nat)) ys))
                ((0 : Nat) + m)))),
      (0 : Nat) < (1 : Nat),
      avLen
            (Av.sl
              (List.take (((0 : Nat) + m) * (3 : Nat))
                (List.take (0 : Nat)
                    (zrep
                      [Value.int IntKind.i64 (0 : Int), Value.int IntKind.i64 (0 : Int),
                        Value.int IntKind.i64 (0 : Int)]
                      (0 : Nat)) ++
                  List.take (m * (3 : Nat)) ys))
              ((0 : Nat) + m)) *
          (12 : Nat) ≤
        List.length
          (ofL
            (List.take (((0 : Nat) + m) * (3 : Nat))
              (List.take (0 : Nat)
                  (zrep
                    [Value.int IntKind.i64 (0 : Int), Value.int IntKind.i64 (0 : Int), Value.int IntKind.i64 (0 : Int)]
                    (0 : Nat)) ++
                List.take (m * (3 : Nat)) ys))
            (0 : Nat)
            (avLen
              (Av.sl
                (List.take (((0 : Nat) + m) * (3 : Nat))
                  (List.take (0 : Nat)
                      (zrep
                        [Value.int IntKind.i64 (0 : Int), Value.int IntKind.i64 (0 : Int),
                          Value.int IntKind.i64 (0 : Int)]
                        (0 : Nat)) ++
                    List.take (m * (3 : Nat)) ys))
                ((0 : Nat) + m)))),
      Fl
        (List.take
          (avLen
              (Av.sl
                (List.take (((0 : Nat) + m) * (3 : Nat))
                  (List.take (0 : Nat)
                      (zrep
                        [Value.int IntKind.i64 (0 : Int), Value.int IntKind.i64 (0 : Int),
                          Value.int IntKind.i64 (0 : Int)]
                        (0 : Nat)) ++
                    List.take (m * (3 : Nat)) ys))
                ((0 : Nat) + m)) *
            (12 : Nat))
          (ofL
            (List.take (((0 : Nat) + m) * (3 : Nat))
              (List.take (0 : Nat)
                  (zrep
                    [Value.int IntKind.i64 (0 : Int), Value.int IntKind.i64 (0 : Int), Value.int IntKind.i64 (0 : Int)]
                    (0 : Nat)) ++
                List.take (m * (3 : Nat)) ys))
            (0 : Nat)
            (avLen
              (Av.sl
                (List.take (((0 : Nat) + m) * (3 : Nat))
                  (List.take (0 : Nat)
                      (zrep
                        [Value.int IntKind.i64 (0 : Int), Value.int IntKind.i64 (0 : Int),
                          Value.int IntKind.i64 (0 : Int)]
                        (0 : Nat)) ++
                    List.take (m * (3 : Nat)) ys))
                ((0 : Nat) + m))))),
      capBig + (6 : Nat) = capBig + (6 : Nat),
      avLen (Av.sl (List.take (m * (3 : Nat)) ys) m) * (12 : Nat) ≤
        List.length (ofL (List.take (m * (3 : Nat)) ys) (0 : Nat) (avLen (Av.sl (List.take (m * (3 : Nat)) ys) m))),
      (0 : Nat) < (1 : Nat),
      avLen (Av.sl (List.take (m * (3 : Nat)) ys) m) * (12 : Nat) ≤
        List.length (ofL (List.take (m * (3 : Nat)) ys) (0 : Nat) (avLen (Av.sl (List.take (m * (3 : Nat)) ys) m))),
      Fl
        (List.take (avLen (Av.sl (List.take (m * (3 : Nat)) ys) m) * (12 : Nat))
          (ofL (List.take (m * (3 : Nat)) ys) (0 : Nat) (avLen (Av.sl (List.take (m * (3 : Nat)) ys) m)))),
      Byts
        (List.take
          (avLen
              (Av.sl
                (List.take (((0 : Nat) + m) * (3 : Nat))
                  (List.take (0 : Nat)
                      (zrep
                        [Value.int IntKind.i64 (0 : Int), Value.int IntKind.i64 (0 : Int),
                          Value.int IntKind.i64 (0 : Int)]
                        (0 : Nat)) ++
                    List.take (m * (3 : Nat)) ys))
                ((0 : Nat) + m)) *
            (12 : Nat))
          (ofL
            (List.take (((0 : Nat) + m) * (3 : Nat))
              (List.take (0 : Nat)
                  (zrep
                    [Value.int IntKind.i64 (0 : Int), Value.int IntKind.i64 (0 : Int), Value.int IntKind.i64 (0 : Int)]
                    (0 : Nat)) ++
                List.take (m * (3 : Nat)) ys))
            (0 : Nat)
            (avLen
              (Av.sl
                (List.take (((0 : Nat) + m) * (3 : Nat))
                  (List.take (0 : Nat)
                      (zrep
                        [Value.int IntKind.i64 (0 : Int), Value.int IntKind.i64 (0 : Int),
                          Value.int IntKind.i64 (0 : Int)]
                        (0 : Nat)) ++
                    List.take (m * (3 : Nat)) ys))
                ((0 : Nat) + m))))),
      Byts
        (List.take (avLen (Av.sl (List.take (m * (3 : Nat)) ys) m) * (12 : Nat))
          (ofL (List.take (m * (3 : Nat)) ys) (0 : Nat) (avLen (Av.sl (List.take (m * (3 : Nat)) ys) m)))),
      decide
          (intsOf
              (List.take
                (avLen
                    (Av.sl
                      (List.take (((0 : Nat) + m) * (3 : Nat))
                        (List.take (0 : Nat)
                            (zrep
                              [Value.int IntKind.i64 (0 : Int), Value.int IntKind.i64 (0 : Int),
                                Value.int IntKind.i64 (0 : Int)]
                              (0 : Nat)) ++
                          List.take (m * (3 : Nat)) ys))
                      ((0 : Nat) + m)) *
                  (12 : Nat))
                (ofL
                  (List.take (((0 : Nat) + m) * (3 : Nat))
                    (List.take (0 : Nat)
                        (zrep
                          [Value.int IntKind.i64 (0 : Int), Value.int IntKind.i64 (0 : Int),
                            Value.int IntKind.i64 (0 : Int)]
                          (0 : Nat)) ++
                      List.take (m * (3 : Nat)) ys))
                  (0 : Nat)
                  (avLen
                    (Av.sl
                      (List.take (((0 : Nat) + m) * (3 : Nat))
                        (List.take (0 : Nat)
                            (zrep
                              [Value.int IntKind.i64 (0 : Int), Value.int IntKind.i64 (0 : Int),
                                Value.int IntKind.i64 (0 : Int)]
                              (0 : Nat)) ++
                          List.take (m * (3 : Nat)) ys))
                      ((0 : Nat) + m))))) =
            intsOf
              (List.take (avLen (Av.sl (List.take (m * (3 : Nat)) ys) m) * (12 : Nat))
                (ofL (List.take (m * (3 : Nat)) ys) (0 : Nat) (avLen (Av.sl (List.take (m * (3 : Nat)) ys) m))))) =
        true,
      (0 : Nat) = (0 : Nat), capBig + (5 : Nat) = capBig + (5 : Nat),
      avLen
            (Av.sl
              (List.take (((0 : Nat) + m) * (3 : Nat))
                (List.take (0 : Nat)
                    (zrep
                      [Value.int IntKind.i64 (0 : Int), Value.int IntKind.i64 (0 : Int),
                        Value.int IntKind.i64 (0 : Int)]
                      (0 : Nat)) ++
                  List.take (m * (3 : Nat)) ys))
              ((0 : Nat) + m)) *
          (12 : Nat) ≤
        List.length
          (ofL
            (List.take (((0 : Nat) + m) * (3 : Nat))
              (List.take (0 : Nat)
                  (zrep
                    [Value.int IntKind.i64 (0 : Int), Value.int IntKind.i64 (0 : Int), Value.int IntKind.i64 (0 : Int)]
                    (0 : Nat)) ++
                List.take (m * (3 : Nat)) ys))
            (0 : Nat)
            (avLen
              (Av.sl
                (List.take (((0 : Nat) + m) * (3 : Nat))
                  (List.take (0 : Nat)
                      (zrep
                        [Value.int IntKind.i64 (0 : Int), Value.int IntKind.i64 (0 : Int),
                          Value.int IntKind.i64 (0 : Int)]
                        (0 : Nat)) ++
                    List.take (m * (3 : Nat)) ys))
                ((0 : Nat) + m)))),
      Byts
        (ofL
          (List.take (((0 : Nat) + m) * (3 : Nat))
            (List.take (0 : Nat)
                (zrep
                  [Value.int IntKind.i64 (0 : Int), Value.int IntKind.i64 (0 : Int), Value.int IntKind.i64 (0 : Int)]
                  (0 : Nat)) ++
              List.take (m * (3 : Nat)) ys))
          (0 : Nat)
          (avLen
            (Av.sl
              (List.take (((0 : Nat) + m) * (3 : Nat))
                (List.take (0 : Nat)
                    (zrep
                      [Value.int IntKind.i64 (0 : Int), Value.int IntKind.i64 (0 : Int),
                        Value.int IntKind.i64 (0 : Int)]
                      (0 : Nat)) ++
                  List.take (m * (3 : Nat)) ys))
              ((0 : Nat) + m)))),
      avLen (Av.sl (List.take n xs) n) + (3 : Nat) ≤ (9223372036854775807 : Nat),
      avLen (Av.sl (List.take n xs) n) + (3 : Nat) ≤
        List.length (List.take n xs ++ mk3 (avLen (Av.sl (List.take n xs) n))),
      Fl
        (List.take (avLen (Av.sl (List.take n xs) n) + (3 : Nat))
          (List.take n xs ++ mk3 (avLen (Av.sl (List.take n xs) n)))),
      n ≤ c ∧ c ≤ (9223372036854775807 : Nat), n ≤ List.length xs, Fl (List.take n xs),
      Byts
        (List.take (avLen (Av.sl (List.take n xs) n) + (3 : Nat))
          (List.take n xs ++ mk3 (avLen (Av.sl (List.take n xs) n)))),
      Byts (List.take n xs), avLen (Av.sl (List.take n xs) n) = avLen (Av.sl (List.take n xs) n),
      avLen (Av.sl (List.take n xs) n) + (3 : Nat) = avLen (Av.sl (List.take n xs) n) + (3 : Nat),
      avLen (Av.sl (List.take n xs) n) ≤ (1099511627776 : Nat),
      decide
          (intsOf
              (List.take (avLen (Av.sl (List.take n xs) n) + (3 : Nat))
                (List.take n xs ++ mk3 (avLen (Av.sl (List.take n xs) n)))) =
            intsOf (List.take n xs ++ mk3 (avLen (Av.sl (List.take n xs) n)))) =
        true]) := by kernel_rfl
theorem ll_n_not0 (xs : List Value) (n c : Nat) : runZ (llV 4 Try.prog) Try.prog 5 3 [llA n c, .slice none 0 0] [(0, ⟨.old, xs⟩)] 2 ([false, false] ++ [false, false, true] ++ [false, false, true] ++ [false, true] ++ [false, true] ++ [true, true]) =
Res.ok
  ((Value.bool true, [((0 : Nat), Rw.mk Kd.old xs)], (4 : Nat), []), [],
    [decide ((↑n : Int) > (1000 : Int)) = false, false = false, n ≤ c ∧ c ≤ (9223372036854775807 : Nat),
      n ≤ List.length xs, Fl (List.take n xs), Byts (List.take n xs),
      avLen (Av.sl (List.take n xs) n) ≤ (1099511627776 : Nat),
      avLen (Av.sl (List.take n xs) n) ≤ avLen (Av.sl (List.take n xs) n) + (3 : Nat) ∧
        avLen (Av.sl (List.take n xs) n) + (3 : Nat) ≤ (9223372036854775807 : Nat),
      avLen (Av.sl (List.take n xs) n) ≤ List.length (List.take n xs ++ mk3 (avLen (Av.sl (List.take n xs) n))),
      Fl (List.take (avLen (Av.sl (List.take n xs) n)) (List.take n xs ++ mk3 (avLen (Av.sl (List.take n xs) n)))),
      Byts (List.take (avLen (Av.sl (List.take n xs) n)) (List.take n xs ++ mk3 (avLen (Av.sl (List.take n xs) n)))),
      avLen
            (Av.sl
              (List.take (avLen (Av.sl (List.take n xs) n)) (List.take n xs ++ mk3 (avLen (Av.sl (List.take n xs) n))))
              (avLen (Av.sl (List.take n xs) n))) %
          (12 : Nat) =
        (0 : Nat),
      decide
          (avLen
              (Av.sl
                (List.take (avLen (Av.sl (List.take n xs) n))
                  (List.take n xs ++ mk3 (avLen (Av.sl (List.take n xs) n))))
                (avLen (Av.sl (List.take n xs) n))) =
            (0 : Nat)) =
        false,
      avLen
          (Av.sl
            (List.take (avLen (Av.sl (List.take n xs) n)) (List.take n xs ++ mk3 (avLen (Av.sl (List.take n xs) n))))
            (avLen (Av.sl (List.take n xs) n))) ≤
        (4096 : Nat),
      enOk (List.take (avLen (Av.sl (List.take n xs) n)) (List.take n xs ++ mk3 (avLen (Av.sl (List.take n xs) n))))
          (avLen
            (Av.sl
              (List.take (avLen (Av.sl (List.take n xs) n)) (List.take n xs ++ mk3 (avLen (Av.sl (List.take n xs) n))))
              (avLen (Av.sl (List.take n xs) n)))) =
        false,
      n ≤ c ∧ c ≤ (9223372036854775807 : Nat), n ≤ List.length xs, Fl (List.take n xs), Byts (List.take n xs),
      avLen (Av.sl (List.take n xs) n) % (12 : Nat) = (0 : Nat),
      decide (avLen (Av.sl (List.take n xs) n) = (0 : Nat)) = false, avLen (Av.sl (List.take n xs) n) ≤ (4096 : Nat),
      enOk (List.take n xs) (avLen (Av.sl (List.take n xs) n)) = false,
      (0 : Nat) ≤ (0 : Nat) ∧ (0 : Nat) ≤ (9223372036854775807 : Nat), (0 : Nat) ≤ (0 : Nat),
      Fl
        (List.take (0 : Nat)
          (splice
            (zrep [Value.int IntKind.i64 (0 : Int), Value.int IntKind.i64 (0 : Int), Value.int IntKind.i64 (0 : Int)]
              (0 : Nat))
            (0 : Nat) [])),
      Ints IntKind.i64
        (List.take (0 : Nat)
          (splice
            (zrep [Value.int IntKind.i64 (0 : Int), Value.int IntKind.i64 (0 : Int), Value.int IntKind.i64 (0 : Int)]
              (0 : Nat))
            (0 : Nat) [])),
      (0 : Nat) = (0 : Nat), Ints IntKind.i64 [], (0 : Nat) = (0 : Nat), Ints IntKind.i64 [], ([] : List Value) = [],
      (0 : Nat) = (0 : Nat), Byts [], Byts [], true = true,
      avLen (Av.sl (List.take n xs) n) + (3 : Nat) ≤ (9223372036854775807 : Nat),
      avLen (Av.sl (List.take n xs) n) + (3 : Nat) ≤
        List.length (List.take n xs ++ mk3 (avLen (Av.sl (List.take n xs) n))),
      Fl
        (List.take (avLen (Av.sl (List.take n xs) n) + (3 : Nat))
          (List.take n xs ++ mk3 (avLen (Av.sl (List.take n xs) n)))),
      n ≤ c ∧ c ≤ (9223372036854775807 : Nat), n ≤ List.length xs, Fl (List.take n xs),
      Byts
        (List.take (avLen (Av.sl (List.take n xs) n) + (3 : Nat))
          (List.take n xs ++ mk3 (avLen (Av.sl (List.take n xs) n)))),
      Byts (List.take n xs), avLen (Av.sl (List.take n xs) n) = avLen (Av.sl (List.take n xs) n),
      avLen (Av.sl (List.take n xs) n) + (3 : Nat) = avLen (Av.sl (List.take n xs) n) + (3 : Nat),
      avLen (Av.sl (List.take n xs) n) ≤ (1099511627776 : Nat),
      decide
          (intsOf
              (List.take (avLen (Av.sl (List.take n xs) n) + (3 : Nat))
                (List.take n xs ++ mk3 (avLen (Av.sl (List.take n xs) n)))) =
            intsOf (List.take n xs ++ mk3 (avLen (Av.sl (List.take n xs) n)))) =
        true]) := by kernel_rfl
theorem ll_e_not0 (xs ys : List Value) (n c d : Nat) : runZ (llV 4 Try.prog) Try.prog 5 3 [llA n c, llE 0 d] [(0, ⟨.old, xs⟩), (1, ⟨.old, ys⟩)] 2 ([false, false] ++ [false, false, true] ++ [false, false, true] ++ [false, true] ++ [false, true] ++ [true, true]) =
Res.ok
  ((Value.bool true, [((0 : Nat), Rw.mk Kd.old xs), ((1 : Nat), Rw.mk Kd.old ys)], (4 : Nat), []), [],
    [decide ((↑n : Int) > (1000 : Int)) = false, false = false, n ≤ c ∧ c ≤ (9223372036854775807 : Nat),
      n ≤ List.length xs, Fl (List.take n xs), Byts (List.take n xs),
      avLen (Av.sl (List.take n xs) n) ≤ (1099511627776 : Nat),
      avLen (Av.sl (List.take n xs) n) ≤ avLen (Av.sl (List.take n xs) n) + (3 : Nat) ∧
        avLen (Av.sl (List.take n xs) n) + (3 : Nat) ≤ (9223372036854775807 : Nat),
      avLen (Av.sl (List.take n xs) n) ≤ List.length (List.take n xs ++ mk3 (avLen (Av.sl (List.take n xs) n))),
      Fl (List.take (avLen (Av.sl (List.take n xs) n)) (List.take n xs ++ mk3 (avLen (Av.sl (List.take n xs) n)))),
      Byts (List.take (avLen (Av.sl (List.take n xs) n)) (List.take n xs ++ mk3 (avLen (Av.sl (List.take n xs) n)))),
      avLen
            (Av.sl
              (List.take (avLen (Av.sl (List.take n xs) n)) (List.take n xs ++ mk3 (avLen (Av.sl (List.take n xs) n))))
              (avLen (Av.sl (List.take n xs) n))) %
          (12 : Nat) =
        (0 : Nat),
      decide
          (avLen
              (Av.sl
                (List.take (avLen (Av.sl (List.take n xs) n))
                  (List.take n xs ++ mk3 (avLen (Av.sl (List.take n xs) n))))
                (avLen (Av.sl (List.take n xs) n))) =
            (0 : Nat)) =
        false,
      avLen
          (Av.sl
            (List.take (avLen (Av.sl (List.take n xs) n)) (List.take n xs ++ mk3 (avLen (Av.sl (List.take n xs) n))))
            (avLen (Av.sl (List.take n xs) n))) ≤
        (4096 : Nat),
      enOk (List.take (avLen (Av.sl (List.take n xs) n)) (List.take n xs ++ mk3 (avLen (Av.sl (List.take n xs) n))))
          (avLen
            (Av.sl
              (List.take (avLen (Av.sl (List.take n xs) n)) (List.take n xs ++ mk3 (avLen (Av.sl (List.take n xs) n))))
              (avLen (Av.sl (List.take n xs) n)))) =
        false,
      n ≤ c ∧ c ≤ (9223372036854775807 : Nat), n ≤ List.length xs, Fl (List.take n xs), Byts (List.take n xs),
      avLen (Av.sl (List.take n xs) n) % (12 : Nat) = (0 : Nat),
      decide (avLen (Av.sl (List.take n xs) n) = (0 : Nat)) = false, avLen (Av.sl (List.take n xs) n) ≤ (4096 : Nat),
      enOk (List.take n xs) (avLen (Av.sl (List.take n xs) n)) = false,
      (0 : Nat) ≤ (0 : Nat) ∧ (0 : Nat) ≤ (9223372036854775807 : Nat), (0 : Nat) ≤ (0 : Nat),
      Fl
        (List.take (0 : Nat)
          (splice
            (zrep [Value.int IntKind.i64 (0 : Int), Value.int IntKind.i64 (0 : Int), Value.int IntKind.i64 (0 : Int)]
              (0 : Nat))
            (0 : Nat) (List.take (0 : Nat) (List.drop (0 : Nat) ys)))),
      Ints IntKind.i64
        (List.take (0 : Nat)
          (splice
            (zrep [Value.int IntKind.i64 (0 : Int), Value.int IntKind.i64 (0 : Int), Value.int IntKind.i64 (0 : Int)]
              (0 : Nat))
            (0 : Nat) (List.take (0 : Nat) (List.drop (0 : Nat) ys)))),
      (0 : Nat) = (0 : Nat), (0 : Nat) ≤ d ∧ d ≤ (9223372036854775807 : Nat), (0 : Nat) ≤ List.length ys,
      Fl (List.take (0 : Nat) ys), Ints IntKind.i64 (List.take (0 : Nat) ys), (0 : Nat) = (0 : Nat),
      Ints IntKind.i64 [], ([] : List Value) = [], (0 : Nat) = (0 : Nat), Byts [], Byts [], true = true,
      avLen (Av.sl (List.take n xs) n) + (3 : Nat) ≤ (9223372036854775807 : Nat),
      avLen (Av.sl (List.take n xs) n) + (3 : Nat) ≤
        List.length (List.take n xs ++ mk3 (avLen (Av.sl (List.take n xs) n))),
      Fl
        (List.take (avLen (Av.sl (List.take n xs) n) + (3 : Nat))
          (List.take n xs ++ mk3 (avLen (Av.sl (List.take n xs) n)))),
      n ≤ c ∧ c ≤ (9223372036854775807 : Nat), n ≤ List.length xs, Fl (List.take n xs),
      Byts
        (List.take (avLen (Av.sl (List.take n xs) n) + (3 : Nat))
          (List.take n xs ++ mk3 (avLen (Av.sl (List.take n xs) n)))),
      Byts (List.take n xs), avLen (Av.sl (List.take n xs) n) = avLen (Av.sl (List.take n xs) n),
      avLen (Av.sl (List.take n xs) n) + (3 : Nat) = avLen (Av.sl (List.take n xs) n) + (3 : Nat),
      avLen (Av.sl (List.take n xs) n) ≤ (1099511627776 : Nat),
      decide
          (intsOf
              (List.take (avLen (Av.sl (List.take n xs) n) + (3 : Nat))
                (List.take n xs ++ mk3 (avLen (Av.sl (List.take n xs) n)))) =
            intsOf (List.take n xs ++ mk3 (avLen (Av.sl (List.take n xs) n)))) =
        true]) := by kernel_rfl
theorem ll_b_not0 (xs ys : List Value) (n c m d : Nat) : runZ (llV 2 Try.prog) Try.prog 5 3 [llA n c, llE m d] [(0, ⟨.old, xs⟩), (1, ⟨.old, ys⟩)] 2 ([false, false] ++ [false, false, true] ++ [false, false, true] ++ [true] ++ [true] ++ [true, true]) =
Res.ok
  ((Value.bool true, [((0 : Nat), Rw.mk Kd.old xs), ((1 : Nat), Rw.mk Kd.old ys)], (5 : Nat), []), [],
    [decide ((↑n : Int) > (1000 : Int)) = false, decide ((↑m : Int) > (80 : Int)) = false,
      n ≤ c ∧ c ≤ (9223372036854775807 : Nat), n ≤ List.length xs, Fl (List.take n xs), Byts (List.take n xs),
      avLen (Av.sl (List.take n xs) n) ≤ (1099511627776 : Nat),
      avLen (Av.sl (List.take n xs) n) ≤ avLen (Av.sl (List.take n xs) n) + (3 : Nat) ∧
        avLen (Av.sl (List.take n xs) n) + (3 : Nat) ≤ (9223372036854775807 : Nat),
      avLen (Av.sl (List.take n xs) n) ≤ List.length (List.take n xs ++ mk3 (avLen (Av.sl (List.take n xs) n))),
      Fl (List.take (avLen (Av.sl (List.take n xs) n)) (List.take n xs ++ mk3 (avLen (Av.sl (List.take n xs) n)))),
      Byts (List.take (avLen (Av.sl (List.take n xs) n)) (List.take n xs ++ mk3 (avLen (Av.sl (List.take n xs) n)))),
      avLen
            (Av.sl
              (List.take (avLen (Av.sl (List.take n xs) n)) (List.take n xs ++ mk3 (avLen (Av.sl (List.take n xs) n))))
              (avLen (Av.sl (List.take n xs) n))) %
          (12 : Nat) =
        (0 : Nat),
      decide
          (avLen
              (Av.sl
                (List.take (avLen (Av.sl (List.take n xs) n))
                  (List.take n xs ++ mk3 (avLen (Av.sl (List.take n xs) n))))
                (avLen (Av.sl (List.take n xs) n))) =
            (0 : Nat)) =
        false,
      avLen
          (Av.sl
            (List.take (avLen (Av.sl (List.take n xs) n)) (List.take n xs ++ mk3 (avLen (Av.sl (List.take n xs) n))))
            (avLen (Av.sl (List.take n xs) n))) ≤
        (4096 : Nat),
      enOk (List.take (avLen (Av.sl (List.take n xs) n)) (List.take n xs ++ mk3 (avLen (Av.sl (List.take n xs) n))))
          (avLen
            (Av.sl
              (List.take (avLen (Av.sl (List.take n xs) n)) (List.take n xs ++ mk3 (avLen (Av.sl (List.take n xs) n))))
              (avLen (Av.sl (List.take n xs) n)))) =
        false,
      n ≤ c ∧ c ≤ (9223372036854775807 : Nat), n ≤ List.length xs, Fl (List.take n xs), Byts (List.take n xs),
      avLen (Av.sl (List.take n xs) n) % (12 : Nat) = (0 : Nat),
      decide (avLen (Av.sl (List.take n xs) n) = (0 : Nat)) = false, avLen (Av.sl (List.take n xs) n) ≤ (4096 : Nat),
      enOk (List.take n xs) (avLen (Av.sl (List.take n xs) n)) = false, (0 : Nat) < (18446744073709551616 : Nat),
      (0 : Nat) < (0 : Nat) + m, (0 : Nat) ≤ (0 : Nat),
      ((0 : Nat) + m) * (24 : Nat) ≤ (140737488355328 : Nat) ∧ (0 : Nat) + m ≤ (9223372036854775807 : Nat),
      m * (3 : Nat) ≤ List.length ys, all1 (List.take (m * (3 : Nat)) ys) = true,
      capBig + (4 : Nat) = capBig + (4 : Nat),
      ((0 : Nat) + m) * (3 : Nat) ≤
        List.length
          (List.take (0 : Nat)
              (zrep [Value.int IntKind.i64 (0 : Int), Value.int IntKind.i64 (0 : Int), Value.int IntKind.i64 (0 : Int)]
                (0 : Nat)) ++
            List.take (m * (3 : Nat)) ys),
      (0 : Nat) < (3 : Nat),
      ((0 : Nat) + m) * (3 : Nat) ≤
        List.length
          (List.take (0 : Nat)
              (zrep [Value.int IntKind.i64 (0 : Int), Value.int IntKind.i64 (0 : Int), Value.int IntKind.i64 (0 : Int)]
                (0 : Nat)) ++
            List.take (m * (3 : Nat)) ys),
      Fl
        (List.take (((0 : Nat) + m) * (3 : Nat))
          (List.take (0 : Nat)
              (zrep [Value.int IntKind.i64 (0 : Int), Value.int IntKind.i64 (0 : Int), Value.int IntKind.i64 (0 : Int)]
                (0 : Nat)) ++
            List.take (m * (3 : Nat)) ys)),
      Ints IntKind.i64
        (List.take (((0 : Nat) + m) * (3 : Nat))
          (List.take (0 : Nat)
              (zrep [Value.int IntKind.i64 (0 : Int), Value.int IntKind.i64 (0 : Int), Value.int IntKind.i64 (0 : Int)]
                (0 : Nat)) ++
            List.take (m * (3 : Nat)) ys)),
      logB
          (List.take (((0 : Nat) + m) * (3 : Nat))
            (List.take (0 : Nat)
                (zrep
                  [Value.int IntKind.i64 (0 : Int), Value.int IntKind.i64 (0 : Int), Value.int IntKind.i64 (0 : Int)]
                  (0 : Nat)) ++
              List.take (m * (3 : Nat)) ys))
          (avLen
            (Av.sl
              (List.take (((0 : Nat) + m) * (3 : Nat))
                (List.take (0 : Nat)
                    (zrep
                      [Value.int IntKind.i64 (0 : Int), Value.int IntKind.i64 (0 : Int),
                        Value.int IntKind.i64 (0 : Int)]
                      (0 : Nat)) ++
                  List.take (m * (3 : Nat)) ys))
              ((0 : Nat) + m))) =
        false,
      m ≤ d ∧ d ≤ (9223372036854775807 : Nat), m * (3 : Nat) ≤ List.length ys, Fl (List.take (m * (3 : Nat)) ys),
      Ints IntKind.i64 (List.take (m * (3 : Nat)) ys),
      logB (List.take (m * (3 : Nat)) ys) (avLen (Av.sl (List.take (m * (3 : Nat)) ys) m)) = false, Ints IntKind.i64 [],
      ([] : List Value) = [], (0 : Nat) = (0 : Nat), Byts [], Byts [], true = true,
      avLen (Av.sl (List.take n xs) n) + (3 : Nat) ≤ (9223372036854775807 : Nat),
      avLen (Av.sl (List.take n xs) n) + (3 : Nat) ≤
        List.length (List.take n xs ++ mk3 (avLen (Av.sl (List.take n xs) n))),
      Fl
        (List.take (avLen (Av.sl (List.take n xs) n) + (3 : Nat))
          (List.take n xs ++ mk3 (avLen (Av.sl (List.take n xs) n)))),
      n ≤ c ∧ c ≤ (9223372036854775807 : Nat), n ≤ List.length xs, Fl (List.take n xs),
      Byts
        (List.take (avLen (Av.sl (List.take n xs) n) + (3 : Nat))
          (List.take n xs ++ mk3 (avLen (Av.sl (List.take n xs) n)))),
      Byts (List.take n xs), avLen (Av.sl (List.take n xs) n) = avLen (Av.sl (List.take n xs) n),
      avLen (Av.sl (List.take n xs) n) + (3 : Nat) = avLen (Av.sl (List.take n xs) n) + (3 : Nat),
      avLen (Av.sl (List.take n xs) n) ≤ (1099511627776 : Nat),
      decide
          (intsOf
              (List.take (avLen (Av.sl (List.take n xs) n) + (3 : Nat))
                (List.take n xs ++ mk3 (avLen (Av.sl (List.take n xs) n)))) =
            intsOf (List.take n xs ++ mk3 (avLen (Av.sl (List.take n xs) n)))) =
        true]) := by kernel_rfl
theorem ll_g_not0 (xs ys : List Value) (n c m d : Nat) : runZ (llV 2 Try.prog) Try.prog 5 3 [llA n c, llE m d] [(0, ⟨.old, xs⟩), (1, ⟨.old, ys⟩)] 2 ([false, false] ++ [false, false, true] ++ [false, false, true] ++ [false, false] ++ [false, false] ++ [true, true]) =
Res.ok
  ((Value.bool true, [((0 : Nat), Rw.mk Kd.old xs), ((1 : Nat), Rw.mk Kd.old ys)], (7 : Nat), []), [],
    [decide ((↑n : Int) > (1000 : Int)) = false, decide ((↑m : Int) > (80 : Int)) = false,
      n ≤ c ∧ c ≤ (9223372036854775807 : Nat), n ≤ List.length xs, Fl (List.take n xs), Byts (List.take n xs),
      avLen (Av.sl (List.take n xs) n) ≤ (1099511627776 : Nat),
      avLen (Av.sl (List.take n xs) n) ≤ avLen (Av.sl (List.take n xs) n) + (3 : Nat) ∧
        avLen (Av.sl (List.take n xs) n) + (3 : Nat) ≤ (9223372036854775807 : Nat),
      avLen (Av.sl (List.take n xs) n) ≤ List.length (List.take n xs ++ mk3 (avLen (Av.sl (List.take n xs) n))),
      Fl (List.take (avLen (Av.sl (List.take n xs) n)) (List.take n xs ++ mk3 (avLen (Av.sl (List.take n xs) n)))),
      Byts (List.take (avLen (Av.sl (List.take n xs) n)) (List.take n xs ++ mk3 (avLen (Av.sl (List.take n xs) n)))),
      avLen
            (Av.sl
              (List.take (avLen (Av.sl (List.take n xs) n)) (List.take n xs ++ mk3 (avLen (Av.sl (List.take n xs) n))))
              (avLen (Av.sl (List.take n xs) n))) %
          (12 : Nat) =
        (0 : Nat),
      decide
          (avLen
              (Av.sl
                (List.take (avLen (Av.sl (List.take n xs) n))
                  (List.take n xs ++ mk3 (avLen (Av.sl (List.take n xs) n))))
                (avLen (Av.sl (List.take n xs) n))) =
            (0 : Nat)) =
        false,
      avLen
          (Av.sl
            (List.take (avLen (Av.sl (List.take n xs) n)) (List.take n xs ++ mk3 (avLen (Av.sl (List.take n xs) n))))
            (avLen (Av.sl (List.take n xs) n))) ≤
        (4096 : Nat),
      enOk (List.take (avLen (Av.sl (List.take n xs) n)) (List.take n xs ++ mk3 (avLen (Av.sl (List.take n xs) n))))
          (avLen
            (Av.sl
              (List.take (avLen (Av.sl (List.take n xs) n)) (List.take n xs ++ mk3 (avLen (Av.sl (List.take n xs) n))))
              (avLen (Av.sl (List.take n xs) n)))) =
        false,
      n ≤ c ∧ c ≤ (9223372036854775807 : Nat), n ≤ List.length xs, Fl (List.take n xs), Byts (List.take n xs),
      avLen (Av.sl (List.take n xs) n) % (12 : Nat) = (0 : Nat),
      decide (avLen (Av.sl (List.take n xs) n) = (0 : Nat)) = false, avLen (Av.sl (List.take n xs) n) ≤ (4096 : Nat),
      enOk (List.take n xs) (avLen (Av.sl (List.take n xs) n)) = false, (0 : Nat) < (18446744073709551616 : Nat),
      (0 : Nat) < (0 : Nat) + m, (0 : Nat) ≤ (0 : Nat),
      ((0 : Nat) + m) * (24 : Nat) ≤ (140737488355328 : Nat) ∧ (0 : Nat) + m ≤ (9223372036854775807 : Nat),
      m * (3 : Nat) ≤ List.length ys, all1 (List.take (m * (3 : Nat)) ys) = true,
      capBig + (4 : Nat) = capBig + (4 : Nat),
      ((0 : Nat) + m) * (3 : Nat) ≤
        List.length
          (List.take (0 : Nat)
              (zrep [Value.int IntKind.i64 (0 : Int), Value.int IntKind.i64 (0 : Int), Value.int IntKind.i64 (0 : Int)]
                (0 : Nat)) ++
            List.take (m * (3 : Nat)) ys),
      (0 : Nat) < (3 : Nat),
      ((0 : Nat) + m) * (3 : Nat) ≤
        List.length
          (List.take (0 : Nat)
              (zrep [Value.int IntKind.i64 (0 : Int), Value.int IntKind.i64 (0 : Int), Value.int IntKind.i64 (0 : Int)]
                (0 : Nat)) ++
            List.take (m * (3 : Nat)) ys),
      Fl
        (List.take (((0 : Nat) + m) * (3 : Nat))
          (List.take (0 : Nat)
              (zrep [Value.int IntKind.i64 (0 : Int), Value.int IntKind.i64 (0 : Int), Value.int IntKind.i64 (0 : Int)]
                (0 : Nat)) ++
            List.take (m * (3 : Nat)) ys)),
      Ints IntKind.i64
        (List.take (((0 : Nat) + m) * (3 : Nat))
          (List.take (0 : Nat)
              (zrep [Value.int IntKind.i64 (0 : Int), Value.int IntKind.i64 (0 : Int), Value.int IntKind.i64 (0 : Int)]
                (0 : Nat)) ++
            List.take (m * (3 : Nat)) ys)),
      decide
          (avLen
              (Av.sl
                (List.take (((0 : Nat) + m) * (3 : Nat))
                  (List.take (0 : Nat)
                      (zrep
                        [Value.int IntKind.i64 (0 : Int), Value.int IntKind.i64 (0 : Int),
                          Value.int IntKind.i64 (0 : Int)]
                        (0 : Nat)) ++
                    List.take (m * (3 : Nat)) ys))
                ((0 : Nat) + m)) =
            (0 : Nat)) =
        false,
      logB
          (List.take (((0 : Nat) + m) * (3 : Nat))
            (List.take (0 : Nat)
                (zrep
                  [Value.int IntKind.i64 (0 : Int), Value.int IntKind.i64 (0 : Int), Value.int IntKind.i64 (0 : Int)]
                  (0 : Nat)) ++
              List.take (m * (3 : Nat)) ys))
          (avLen
            (Av.sl
              (List.take (((0 : Nat) + m) * (3 : Nat))
                (List.take (0 : Nat)
                    (zrep
                      [Value.int IntKind.i64 (0 : Int), Value.int IntKind.i64 (0 : Int),
                        Value.int IntKind.i64 (0 : Int)]
                      (0 : Nat)) ++
                  List.take (m * (3 : Nat)) ys))
              ((0 : Nat) + m))) =
        true,
      m ≤ d ∧ d ≤ (9223372036854775807 : Nat), m * (3 : Nat) ≤ List.length ys, Fl (List.take (m * (3 : Nat)) ys),
      Ints IntKind.i64 (List.take (m * (3 : Nat)) ys),
      decide (avLen (Av.sl (List.take (m * (3 : Nat)) ys) m) = (0 : Nat)) = false,
      logB (List.take (m * (3 : Nat)) ys) (avLen (Av.sl (List.take (m * (3 : Nat)) ys) m)) = true, Ints IntKind.i64 [],
      ([] : List Value) = [], (0 : Nat) = (0 : Nat), capBig + (5 : Nat) = capBig + (5 : Nat),
      avLen
            (Av.sl
              (List.take (((0 : Nat) + m) * (3 : Nat))
                (List.take (0 : Nat)
                    (zrep
                      [Value.int IntKind.i64 (0 : Int), Value.int IntKind.i64 (0 : Int),
                        Value.int IntKind.i64 (0 : Int)]
                      (0 : Nat)) ++
                  List.take (m * (3 : Nat)) ys))
              ((0 : Nat) + m)) *
          (12 : Nat) ≤
        List.length
          (ofL
            (List.take (((0 : Nat) + m) * (3 : Nat))
              (List.take (0 : Nat)
                  (zrep
                    [Value.int IntKind.i64 (0 : Int), Value.int IntKind.i64 (0 : Int), Value.int IntKind.i64 (0 : Int)]
                    (0 : Nat)) ++
                List.take (m * (3 : Nat)) ys))
            (0 : Nat)
            (avLen
              (Av.sl
                (List.take (((0 : Nat) + m) * (3 : Nat))
                  (List.take (0 : Nat)
                      (zrep
                        [Value.int IntKind.i64 (0 : Int), Value.int IntKind.i64 (0 : Int),
                          Value.int IntKind.i64 (0 : Int)]
                        (0 : Nat)) ++
                    List.take (m * (3 : Nat)) ys))
                ((0 : Nat) + m)))),
      (0 : Nat) < (1 : Nat),
      avLen
            (Av.sl
              (List.take (((0 : Nat) + m) * (3 : Nat))
                (List.take (0 : Nat)
                    (zrep
                      [Value.int IntKind.i64 (0 : Int), Value.int IntKind.i64 (0 : Int),
                        Value.int IntKind.i64 (0 : Int)]
                      (0 : Nat)) ++
                  List.take (m * (3 : Nat)) ys))
              ((0 : Nat) + m)) *
          (12 : Nat) ≤
        List.length
          (ofL
            (List.take (((0 : Nat) + m) * (3 : Nat))
              (List.take (0 : Nat)
                  (zrep
                    [Value.int IntKind.i64 (0 : Int), Value.int IntKind.i64 (0 : Int), Value.int IntKind.i64 (0 : Int)]
                    (0 : Nat)) ++
                List.take (m * (3 : Nat)) ys))
            (0 : Nat)
            (avLen
              (Av.sl
                (List.take (((0 : Nat) + m) * (3 : Nat))
                  (List.take (0 : Nat)
                      (zrep
                        [Value.int IntKind.i64 (0 : Int), Value.int IntKind.i64 (0 : Int),
                          Value.int IntKind.i64 (0 : Int)]
                        (0 : Nat)) ++
                    List.take (m * (3 : Nat)) ys))
                ((0 : Nat) + m)))),
      Fl
        (List.take
          (avLen
              (Av.sl
                (List.take (((0 : Nat) + m) * (3 : Nat))
                  (List.take (0 : Nat)
                      (zrep
                        [Value.int IntKind.i64 (0 : Int), Value.int IntKind.i64 (0 : Int),
                          Value.int IntKind.i64 (0 : Int)]
                        (0 : Nat)) ++
                    List.take (m * (3 : Nat)) ys))
                ((0 : Nat) + m)) *
            (12 : Nat))
          (ofL
            (List.take (((0 : Nat) + m) * (3 : Nat))
              (List.take (0 : Nat)
                  (zrep
                    [Value.int IntKind.i64 (0 : Int), Value.int IntKind.i64 (0 : Int), Value.int IntKind.i64 (0 : Int)]
                    (0 : Nat)) ++
                List.take (m * (3 : Nat)) ys))
            (0 : Nat)
            (avLen
              (Av.sl
                (List.take (((0 : Nat) + m) * (3 : Nat))
                  (List.take (0 : Nat)
                      (zrep
                        [Value.int IntKind.i64 (0 : Int), Value.int IntKind.i64 (0 : Int),
                          Value.int IntKind.i64 (0 : Int)]
                        (0 : Nat)) ++
                    List.take (m * (3 : Nat)) ys))
                ((0 : Nat) + m))))),
      capBig + (6 : Nat) = capBig + (6 : Nat),
      avLen (Av.sl (List.take (m * (3 : Nat)) ys) m) * (12 : Nat) ≤
        List.length (ofL (List.take (m * (3 : Nat)) ys) (0 : Nat) (avLen (Av.sl (List.take (m * (3 : Nat)) ys) m))),
      (0 : Nat) < (1 : Nat),
      avLen (Av.sl (List.take (m * (3 : Nat)) ys) m) * (12 : Nat) ≤
        List.length (ofL (List.take (m * (3 : Nat)) ys) (0 : Nat) (avLen (Av.sl (List.take (m * (3 : Nat)) ys) m))),
      Fl
        (List.take (avLen (Av.sl (List.take (m * (3 : Nat)) ys) m) * (12 : Nat))
          (ofL (List.take (m * (3 : Nat)) ys) (0 : Nat) (avLen (Av.sl (List.take (m * (3 : Nat)) ys) m)))),
      Byts
        (List.take
          (avLen
              (Av.sl
                (List.take (((0 : Nat) + m) * (3 : Nat))
                  (List.take (0 : Nat)
                      (zrep
                        [Value.int IntKind.i64 (0 : Int), Value.int IntKind.i64 (0 : Int),
                          Value.int IntKind.i64 (0 : Int)]
                        (0 : Nat)) ++
                    List.take (m * (3 : Nat)) ys))
                ((0 : Nat) + m)) *
            (12 : Nat))
          (ofL
            (List.take (((0 : Nat) + m) * (3 : Nat))
              (List.take (0 : Nat)
                  (zrep
                    [Value.int IntKind.i64 (0 : Int), Value.int IntKind.i64 (0 : Int), Value.int IntKind.i64 (0 : Int)]
                    (0 : Nat)) ++
                List.take (m * (3 : Nat)) ys))
            (0 : Nat)
            (avLen
              (Av.sl
                (List.take (((0 : Nat) + m) * (3 : Nat))
                  (List.take (0 : Nat)
                      (zrep
                        [Value.int IntKind.i64 (0 : Int), Value.int IntKind.i64 (0 : Int),
                          Value.int IntKind.i64 (0 : Int)]
                        (0 : Nat)) ++
                    List.take (m * (3 : Nat)) ys))
                ((0 : Nat) + m))))),
      Byts
        (List.take (avLen (Av.sl (List.take (m * (3 : Nat)) ys) m) * (12 : Nat))
          (ofL (List.take (m * (3 : Nat)) ys) (0 : Nat) (avLen (Av.sl (List.take (m * (3 : Nat)) ys) m)))),
      decide
          (intsOf
              (List.take
                (avLen
                    (Av.sl
                      (List.take (((0 : Nat) + m) * (3 : Nat))
                        (List.take (0 : Nat)
                            (zrep
                              [Value.int IntKind.i64 (0 : Int), Value.int IntKind.i64 (0 : Int),
                                Value.int IntKind.i64 (0 : Int)]
                              (0 : Nat)) ++
                          List.take (m * (3 : Nat)) ys))
                      ((0 : Nat) + m)) *
                  (12 : Nat))
                (ofL
                  (List.take (((0 : Nat) + m) * (3 : Nat))
                    (List.take (0 : Nat)
                        (zrep
                          [Value.int IntKind.i64 (0 : Int), Value.int IntKind.i64 (0 : Int),
                            Value.int IntKind.i64 (0 : Int)]
                          (0 : Nat)) ++
                      List.take (m * (3 : Nat)) ys))
                  (0 : Nat)
                  (avLen
                    (Av.sl
                      (List.take (((0 : Nat) + m) * (3 : Nat))
                        (List.take (0 : Nat)
                            (zrep
                              [Value.int IntKind.i64 (0 : Int), Value.int IntKind.i64 (0 : Int),
                                Value.int IntKind.i64 (0 : Int)]
                              (0 : Nat)) ++
                          List.take (m * (3 : Nat)) ys))
                      ((0 : Nat) + m))))) =
            intsOf
              (List.take (avLen (Av.sl (List.take (m * (3 : Nat)) ys) m) * (12 : Nat))
                (ofL (List.take (m * (3 : Nat)) ys) (0 : Nat) (avLen (Av.sl (List.take (m * (3 : Nat)) ys) m))))) =
        true,
      (0 : Nat) = (0 : Nat), capBig + (5 : Nat) = capBig + (5 : Nat),
      avLen
            (Av.sl
              (List.take (((0 : Nat) + m) * (3 : Nat))
                (List.take (0 : Nat)
                    (zrep
                      [Value.int IntKind.i64 (0 : Int), Value.int IntKind.i64 (0 : Int),
                        Value.int IntKind.i64 (0 : Int)]
                      (0 : Nat)) ++
                  List.take (m * (3 : Nat)) ys))
              ((0 : Nat) + m)) *
          (12 : Nat) ≤
        List.length
          (ofL
            (List.take (((0 : Nat) + m) * (3 : Nat))
              (List.take (0 : Nat)
                  (zrep
                    [Value.int IntKind.i64 (0 : Int), Value.int IntKind.i64 (0 : Int), Value.int IntKind.i64 (0 : Int)]
                    (0 : Nat)) ++
                List.take (m * (3 : Nat)) ys))
            (0 : Nat)
            (avLen
              (Av.sl
                (List.take (((0 : Nat) + m) * (3 : Nat))
                  (List.take (0 : Nat)
                      (zrep
                        [Value.int IntKind.i64 (0 : Int), Value.int IntKind.i64 (0 : Int),
                          Value.int IntKind.i64 (0 : Int)]
                        (0 : Nat)) ++
                    List.take (m * (3 : Nat)) ys))
                ((0 : Nat) + m)))),
      Byts
        (ofL
          (List.take (((0 : Nat) + m) * (3 : Nat))
            (List.take (0 : Nat)
                (zrep
                  [Value.int IntKind.i64 (0 : Int), Value.int IntKind.i64 (0 : Int), Value.int IntKind.i64 (0 : Int)]
                  (0 : Nat)) ++
              List.take (m * (3 : Nat)) ys))
          (0 : Nat)
          (avLen
            (Av.sl
              (List.take (((0 : Nat) + m) * (3 : Nat))
                (List.take (0 : Nat)
                    (zrep
                      [Value.int IntKind.i64 (0 : Int), Value.int IntKind.i64 (0 : Int),
                        Value.int IntKind.i64 (0 : Int)]
                      (0 : Nat)) ++
                  List.take (m * (3 : Nat)) ys))
              ((0 : Nat) + m)))),
      avLen (Av.sl (List.take n xs) n) + (3 : Nat) ≤ (9223372036854775807 : Nat),
      avLen (Av.sl (List.take n xs) n) + (3 : Nat) ≤
        List.length (List.take n xs ++ mk3 (avLen (Av.sl (List.take n xs) n))),
      Fl
        (List.take (avLen (Av.sl (List.take n xs) n) + (3 : Nat))
          (List.take n xs ++ mk3 (avLen (Av.sl (List.take n xs) n)))),
      n ≤ c ∧ c ≤ (9223372036854775807 : Nat), n ≤ List.length xs, Fl (List.take n xs),
      Byts
        (List.take (avLen (Av.sl (List.take n xs) n) + (3 : Nat))
          (List.take n xs ++ mk3 (avLen (Av.sl (List.take n xs) n)))),
      Byts (List.take n xs), avLen (Av.sl (List.take n xs) n) = avLen (Av.sl (List.take n xs) n),
      avLen (Av.sl (List.take n xs) n) + (3 : Nat) = avLen (Av.sl (List.take n xs) n) + (3 : Nat),
      avLen (Av.sl (List.take n xs) n) ≤ (1099511627776 : Nat),
      decide
          (intsOf
              (List.take (avLen (Av.sl (List.take n xs) n) + (3 : Nat))
                (List.take n xs ++ mk3 (avLen (Av.sl (List.take n xs) n)))) =
            intsOf (List.take n xs ++ mk3 (avLen (Av.sl (List.take n xs) n)))) =
        true]) := by kernel_rfl
theorem ll_n_ok0 (xs : List Value) (n c : Nat) : runZ (llV 4 Try.prog) Try.prog 5 3 [llA n c, .slice none 0 0] [(0, ⟨.old, xs⟩)] 2 ([false, false] ++ [false, false, false] ++ [false, false, false] ++ [false, true] ++ [false, true] ++ [true, true]) =
Res.ok
  ((Value.bool true, [((0 : Nat), Rw.mk Kd.old xs)], (6 : Nat), []), [],
    [decide ((↑n : Int) > (1000 : Int)) = false, false = false, n ≤ c ∧ c ≤ (9223372036854775807 : Nat),
      n ≤ List.length xs, Fl (List.take n xs), Byts (List.take n xs),
      avLen (Av.sl (List.take n xs) n) ≤ (1099511627776 : Nat),
      avLen (Av.sl (List.take n xs) n) ≤ avLen (Av.sl (List.take n xs) n) + (3 : Nat) ∧
        avLen (Av.sl (List.take n xs) n) + (3 : Nat) ≤ (9223372036854775807 : Nat),
      avLen (Av.sl (List.take n xs) n) ≤ List.length (List.take n xs ++ mk3 (avLen (Av.sl (List.take n xs) n))),
      Fl (List.take (avLen (Av.sl (List.take n xs) n)) (List.take n xs ++ mk3 (avLen (Av.sl (List.take n xs) n)))),
      Byts (List.take (avLen (Av.sl (List.take n xs) n)) (List.take n xs ++ mk3 (avLen (Av.sl (List.take n xs) n)))),
      avLen
            (Av.sl
              (List.take (avLen (Av.sl (List.take n xs) n)) (List.take n xs ++ mk3 (avLen (Av.sl (List.take n xs) n))))
              (avLen (Av.sl (List.take n xs) n))) %
          (12 : Nat) =
        (0 : Nat),
      decide
          (avLen
              (Av.sl
                (List.take (avLen (Av.sl (List.take n xs) n))
                  (List.take n xs ++ mk3 (avLen (Av.sl (List.take n xs) n))))
                (avLen (Av.sl (List.take n xs) n))) =
            (0 : Nat)) =
        false,
      avLen
          (Av.sl
            (List.take (avLen (Av.sl (List.take n xs) n)) (List.take n xs ++ mk3 (avLen (Av.sl (List.take n xs) n))))
            (avLen (Av.sl (List.take n xs) n))) ≤
        (4096 : Nat),
      enOk (List.take (avLen (Av.sl (List.take n xs) n)) (List.take n xs ++ mk3 (avLen (Av.sl (List.take n xs) n))))
          (avLen
            (Av.sl
              (List.take (avLen (Av.sl (List.take n xs) n)) (List.take n xs ++ mk3 (avLen (Av.sl (List.take n xs) n))))
              (avLen (Av.sl (List.take n xs) n)))) =
        true,
      n ≤ c ∧ c ≤ (9223372036854775807 : Nat), n ≤ List.length xs, Fl (List.take n xs), Byts (List.take n xs),
      avLen (Av.sl (List.take n xs) n) % (12 : Nat) = (0 : Nat),
      decide (avLen (Av.sl (List.take n xs) n) = (0 : Nat)) = false, avLen (Av.sl (List.take n xs) n) ≤ (4096 : Nat),
      enOk (List.take n xs) (avLen (Av.sl (List.take n xs) n)) = true,
      (0 : Nat) ≤ (0 : Nat) ∧ (0 : Nat) ≤ (9223372036854775807 : Nat), (0 : Nat) ≤ (0 : Nat),
      Fl
        (List.take (0 : Nat)
          (splice
            (zrep [Value.int IntKind.i64 (0 : Int), Value.int IntKind.i64 (0 : Int), Value.int IntKind.i64 (0 : Int)]
              (0 : Nat))
            (0 : Nat) [])),
      Ints IntKind.i64
        (List.take (0 : Nat)
          (splice
            (zrep [Value.int IntKind.i64 (0 : Int), Value.int IntKind.i64 (0 : Int), Value.int IntKind.i64 (0 : Int)]
              (0 : Nat))
            (0 : Nat) [])),
      (0 : Nat) = (0 : Nat), Ints IntKind.i64 [], (0 : Nat) = (0 : Nat), capBig + (3 : Nat) = capBig + (3 : Nat),
      avLen
              (Av.sl
                (List.take (avLen (Av.sl (List.take n xs) n))
                  (List.take n xs ++ mk3 (avLen (Av.sl (List.take n xs) n))))
                (avLen (Av.sl (List.take n xs) n))) /
            (12 : Nat) *
          (3 : Nat) ≤
        List.length
          (entL
            (List.take (avLen (Av.sl (List.take n xs) n)) (List.take n xs ++ mk3 (avLen (Av.sl (List.take n xs) n))))
            (0 : Nat)
            (avLen
                (Av.sl
                  (List.take (avLen (Av.sl (List.take n xs) n))
                    (List.take n xs ++ mk3 (avLen (Av.sl (List.take n xs) n))))
                  (avLen (Av.sl (List.take n xs) n))) /
              (12 : Nat))),
      (0 : Nat) < (3 : Nat),
      avLen
              (Av.sl
                (List.take (avLen (Av.sl (List.take n xs) n))
                  (List.take n xs ++ mk3 (avLen (Av.sl (List.take n xs) n))))
                (avLen (Av.sl (List.take n xs) n))) /
            (12 : Nat) *
          (3 : Nat) ≤
        List.length
          (entL
            (List.take (avLen (Av.sl (List.take n xs) n)) (List.take n xs ++ mk3 (avLen (Av.sl (List.take n xs) n))))
            (0 : Nat)
            (avLen
                (Av.sl
                  (List.take (avLen (Av.sl (List.take n xs) n))
                    (List.take n xs ++ mk3 (avLen (Av.sl (List.take n xs) n))))
                  (avLen (Av.sl (List.take n xs) n))) /
              (12 : Nat))),
      Fl
        (List.take
          (avLen
                (Av.sl
                  (List.take (avLen (Av.sl (List.take n xs) n))
                    (List.take n xs ++ mk3 (avLen (Av.sl (List.take n xs) n))))
                  (avLen (Av.sl (List.take n xs) n))) /
              (12 : Nat) *
            (3 : Nat))
          (entL
            (List.take (avLen (Av.sl (List.take n xs) n)) (List.take n xs ++ mk3 (avLen (Av.sl (List.take n xs) n))))
            (0 : Nat)
            (avLen
                (Av.sl
                  (List.take (avLen (Av.sl (List.take n xs) n))
                    (List.take n xs ++ mk3 (avLen (Av.sl (List.take n xs) n))))
                  (avLen (Av.sl (List.take n xs) n))) /
              (12 : Nat)))),
      capBig + (4 : Nat) = capBig + (4 : Nat),
      avLen (Av.sl (List.take n xs) n) / (12 : Nat) * (3 : Nat) ≤
        List.length (entL (List.take n xs) (0 : Nat) (avLen (Av.sl (List.take n xs) n) / (12 : Nat))),
      (0 : Nat) < (3 : Nat),
      avLen (Av.sl (List.take n xs) n) / (12 : Nat) * (3 : Nat) ≤
        List.length (entL (List.take n xs) (0 : Nat) (avLen (Av.sl (List.take n xs) n) / (12 : Nat))),
      Fl
        (List.take (avLen (Av.sl (List.take n xs) n) / (12 : Nat) * (3 : Nat))
          (entL (List.take n xs) (0 : Nat) (avLen (Av.sl (List.take n xs) n) / (12 : Nat)))),
      Ints IntKind.i64
        (List.take
          (avLen
                (Av.sl
                  (List.take (avLen (Av.sl (List.take n xs) n))
                    (List.take n xs ++ mk3 (avLen (Av.sl (List.take n xs) n))))
                  (avLen (Av.sl (List.take n xs) n))) /
              (12 : Nat) *
            (3 : Nat))
          (entL
            (List.take (avLen (Av.sl (List.take n xs) n)) (List.take n xs ++ mk3 (avLen (Av.sl (List.take n xs) n))))
            (0 : Nat)
            (avLen
                (Av.sl
                  (List.take (avLen (Av.sl (List.take n xs) n))
                    (List.take n xs ++ mk3 (avLen (Av.sl (List.take n xs) n))))
                  (avLen (Av.sl (List.take n xs) n))) /
              (12 : Nat)))),
      List.take (avLen (Av.sl (List.take n xs) n) / (12 : Nat) * (3 : Nat))
          (entL (List.take n xs) (0 : Nat) (avLen (Av.sl (List.take n xs) n) / (12 : Nat))) =
        List.take
          (avLen
                (Av.sl
                  (List.take (avLen (Av.sl (List.take n xs) n))
                    (List.take n xs ++ mk3 (avLen (Av.sl (List.take n xs) n))))
                  (avLen (Av.sl (List.take n xs) n))) /
              (12 : Nat) *
            (3 : Nat))
          (entL
            (List.take (avLen (Av.sl (List.take n xs) n)) (List.take n xs ++ mk3 (avLen (Av.sl (List.take n xs) n))))
            (0 : Nat)
            (avLen
                (Av.sl
                  (List.take (avLen (Av.sl (List.take n xs) n))
                    (List.take n xs ++ mk3 (avLen (Av.sl (List.take n xs) n))))
                  (avLen (Av.sl (List.take n xs) n))) /
              (12 : Nat))),
      avLen
          (Av.sl
            (List.take (avLen (Av.sl (List.take n xs) n) / (12 : Nat) * (3 : Nat))
              (entL (List.take n xs) (0 : Nat) (avLen (Av.sl (List.take n xs) n) / (12 : Nat))))
            (avLen (Av.sl (List.take n xs) n) / (12 : Nat))) =
        avLen
          (Av.sl
            (List.take
              (avLen
                    (Av.sl
                      (List.take (avLen (Av.sl (List.take n xs) n))
                        (List.take n xs ++ mk3 (avLen (Av.sl (List.take n xs) n))))
                      (avLen (Av.sl (List.take n xs) n))) /
                  (12 : Nat) *
                (3 : Nat))
              (entL
                (List.take (avLen (Av.sl (List.take n xs) n))
                  (List.take n xs ++ mk3 (avLen (Av.sl (List.take n xs) n))))
                (0 : Nat)
                (avLen
                    (Av.sl
                      (List.take (avLen (Av.sl (List.take n xs) n))
                        (List.take n xs ++ mk3 (avLen (Av.sl (List.take n xs) n))))
                      (avLen (Av.sl (List.take n xs) n))) /
                  (12 : Nat))))
            (avLen
                (Av.sl
                  (List.take (avLen (Av.sl (List.take n xs) n))
                    (List.take n xs ++ mk3 (avLen (Av.sl (List.take n xs) n))))
                  (avLen (Av.sl (List.take n xs) n))) /
              (12 : Nat))),
      Byts [], Byts [], true = true, avLen (Av.sl (List.take n xs) n) + (3 : Nat) ≤ (9223372036854775807 : Nat),
      avLen (Av.sl (List.take n xs) n) + (3 : Nat) ≤
        List.length (List.take n xs ++ mk3 (avLen (Av.sl (List.take n xs) n))),
      Fl
        (List.take (avLen (Av.sl (List.take n xs) n) + (3 : Nat))
          (List.take n xs ++ mk3 (avLen (Av.sl (List.take n xs) n)))),
      n ≤ c ∧ c ≤ (9223372036854775807 : Nat), n ≤ List.length xs, Fl (List.take n xs),
      Byts
        (List.take (avLen (Av.sl (List.take n xs) n) + (3 : Nat))
          (List.take n xs ++ mk3 (avLen (Av.sl (List.take n xs) n)))),
      Byts (List.take n xs), avLen (Av.sl (List.take n xs) n) = avLen (Av.sl (List.take n xs) n),
      avLen (Av.sl (List.take n xs) n) + (3 : Nat) = avLen (Av.sl (List.take n xs) n) + (3 : Nat),
      avLen (Av.sl (List.take n xs) n) ≤ (1099511627776 : Nat),
      decide
          (intsOf
              (List.take (avLen (Av.sl (List.take n xs) n) + (3 : Nat))
                (List.take n xs ++ mk3 (avLen (Av.sl (List.take n xs) n)))) =
            intsOf (List.take n xs ++ mk3 (avLen (Av.sl (List.take n xs) n)))) =
        true]) := by kernel_rfl
theorem ll_e_ok0 (xs ys : List Value) (n c d : Nat) : runZ (llV 4 Try.prog) Try.prog 5 3 [llA n c, llE 0 d] [(0, ⟨.old, xs⟩), (1, ⟨.old, ys⟩)] 2 ([false, false] ++ [false, false, false] ++ [false, false, false] ++ [false, true] ++ [false, true] ++ [true, true]) =
Res.ok
  ((Value.bool true, [((0 : Nat), Rw.mk Kd.old xs), ((1 : Nat), Rw.mk Kd.old ys)], (6 : Nat), []), [],
    [decide ((↑n : Int) > (1000 : Int)) = false, false = false, n ≤ c ∧ c ≤ (9223372036854775807 : Nat),
      n ≤ List.length xs, Fl (List.take n xs), Byts (List.take n xs),
      avLen (Av.sl (List.take n xs) n) ≤ (1099511627776 : Nat),
      avLen (Av.sl (List.take n xs) n) ≤ avLen (Av.sl (List.take n xs) n) + (3 : Nat) ∧
        avLen (Av.sl (List.take n xs) n) + (3 : Nat) ≤ (9223372036854775807 : Nat),
      avLen (Av.sl (List.take n xs) n) ≤ List.length (List.take n xs ++ mk3 (avLen (Av.sl (List.take n xs) n))),
      Fl (List.take (avLen (Av.sl (List.take n xs) n)) (List.take n xs ++ mk3 (avLen (Av.sl (List.take n xs) n)))),
      Byts (List.take (avLen (Av.sl (List.take n xs) n)) (List.take n xs ++ mk3 (avLen (Av.sl (List.take n xs) n)))),
      avLen
            (Av.sl
              (List.take (avLen (Av.sl (List.take n xs) n)) (List.take n xs ++ mk3 (avLen (Av.sl (List.take n xs) n))))
              (avLen (Av.sl (List.take n xs) n))) %
          (12 : Nat) =
        (0 : Nat),
      decide
          (avLen
              (Av.sl
                (List.take (avLen (Av.sl (List.take n xs) n))
                  (List.take n xs ++ mk3 (avLen (Av.sl (List.take n xs) n))))
                (avLen (Av.sl (List.take n xs) n))) =
            (0 : Nat)) =
        false,
      avLen
          (Av.sl
            (List.take (avLen (Av.sl (List.take n xs) n)) (List.take n xs ++ mk3 (avLen (Av.sl (List.take n xs) n))))
            (avLen (Av.sl (List.take n xs) n))) ≤
        (4096 : Nat),
      enOk (List.take (avLen (Av.sl (List.take n xs) n)) (List.take n xs ++ mk3 (avLen (Av.sl (List.take n xs) n))))
          (avLen
            (Av.sl
              (List.take (avLen (Av.sl (List.take n xs) n)) (List.take n xs ++ mk3 (avLen (Av.sl (List.take n xs) n))))
              (avLen (Av.sl (List.take n xs) n)))) =
        true,
      n ≤ c ∧ c ≤ (9223372036854775807 : Nat), n ≤ List.length xs, Fl (List.take n xs), Byts (List.take n xs),
      avLen (Av.sl (List.take n xs) n) % (12 : Nat) = (0 : Nat),
      decide (avLen (Av.sl (List.take n xs) n) = (0 : Nat)) = false, avLen (Av.sl (List.take n xs) n) ≤ (4096 : Nat),
      enOk (List.take n xs) (avLen (Av.sl (List.take n xs) n)) = true,
      (0 : Nat) ≤ (0 : Nat) ∧ (0 : Nat) ≤ (9223372036854775807 : Nat), (0 : Nat) ≤ (0 : Nat),
      Fl
        (List.take (0 : Nat)
          (splice
            (zrep [Value.int IntKind.i64 (0 : Int), Value.int IntKind.i64 (0 : Int), Value.int IntKind.i64 (0 : Int)]
              (0 : Nat))
            (0 : Nat) (List.take (0 : Nat) (List.drop (0 : Nat) ys)))),
      Ints IntKind.i64
        (List.take (0 : Nat)
          (splice
            (zrep [Value.int IntKind.i64 (0 : Int), Value.int IntKind.i64 (0 : Int), Value.int IntKind.i64 (0 : Int)]
              (0 : Nat))
            (0 : Nat) (List.take (0 : Nat) (List.drop (0 : Nat) ys)))),
      (0 : Nat) = (0 : Nat), (0 : Nat) ≤ d ∧ d ≤ (9223372036854775807 : Nat), (0 : Nat) ≤ List.length ys,
      Fl (List.take (0 : Nat) ys), Ints IntKind.i64 (List.take (0 : Nat) ys), (0 : Nat) = (0 : Nat),
      capBig + (3 : Nat) = capBig + (3 : Nat),
      avLen
              (Av.sl
                (List.take (avLen (Av.sl (List.take n xs) n))
                  (List.take n xs ++ mk3 (avLen (Av.sl (List.take n xs) n))))
                (avLen (Av.sl (List.take n xs) n))) /
            (12 : Nat) *
          (3 : Nat) ≤
        List.length
          (entL
            (List.take (avLen (Av.sl (List.take n xs) n)) (List.take n xs ++ mk3 (avLen (Av.sl (List.take n xs) n))))
            (0 : Nat)
            (avLen
                (Av.sl
                  (List.take (avLen (Av.sl (List.take n xs) n))
                    (List.take n xs ++ mk3 (avLen (Av.sl (List.take n xs) n))))
                  (avLen (Av.sl (List.take n xs) n))) /
              (12 : Nat))),
      (0 : Nat) < (3 : Nat),
      avLen
              (Av.sl
                (List.take (avLen (Av.sl (List.take n xs) n))
                  (List.take n xs ++ mk3 (avLen (Av.sl (List.take n xs) n))))
                (avLen (Av.sl (List.take n xs) n))) /
            (12 : Nat) *
          (3 : Nat) ≤
        List.length
          (entL
            (List.take (avLen (Av.sl (List.take n xs) n)) (List.take n xs ++ mk3 (avLen (Av.sl (List.take n xs) n))))
            (0 : Nat)
            (avLen
                (Av.sl
                  (List.take (avLen (Av.sl (List.take n xs) n))
                    (List.take n xs ++ mk3 (avLen (Av.sl (List.take n xs) n))))
                  (avLen (Av.sl (List.take n xs) n))) /
              (12 : Nat))),
      Fl
        (List.take
          (avLen
                (Av.sl
                  (List.take (avLen (Av.sl (List.take n xs) n))
                    (List.take n xs ++ mk3 (avLen (Av.sl (List.take n xs) n))))
                  (avLen (Av.sl (List.take n xs) n))) /
              (12 : Nat) *
            (3 : Nat))
          (entL
            (List.take (avLen (Av.sl (List.take n xs) n)) (List.take n xs ++ mk3 (avLen (Av.sl (List.take n xs) n))))
            (0 : Nat)
            (avLen
                (Av.sl
                  (List.take (avLen (Av.sl (List.take n xs) n))
                    (List.take n xs ++ mk3 (avLen (Av.sl (List.take n xs) n))))
                  (avLen (Av.sl (List.take n xs) n))) /
              (12 : Nat)))),
      capBig + (4 : Nat) = capBig + (4 : Nat),
      avLen (Av.sl (List.take n xs) n) / (12 : Nat) * (3 : Nat) ≤
        List.length (entL (List.take n xs) (0 : Nat) (avLen (Av.sl (List.take n xs) n) / (12 : Nat))),
      (0 : Nat) < (3 : Nat),
      avLen (Av.sl (List.take n xs) n) / (12 : Nat) * (3 : Nat) ≤
        List.length (entL (List.take n xs) (0 : Nat) (avLen (Av.sl (List.take n xs) n) / (12 : Nat))),
      Fl
        (List.take (avLen (Av.sl (List.take n xs) n) / (12 : Nat) * (3 : Nat))
          (entL (List.take n xs) (0 : Nat) (avLen (Av.sl (List.take n xs) n) / (12 : Nat)))),
      Ints IntKind.i64
        (List.take
          (avLen
                (Av.sl
                  (List.take (avLen (Av.sl (List.take n xs) n))
                    (List.take n xs ++ mk3 (avLen (Av.sl (List.take n xs) n))))
                  (avLen (Av.sl (List.take n xs) n))) /
              (12 : Nat) *
            (3 : Nat))
          (entL
            (List.take (avLen (Av.sl (List.take n xs) n)) (List.take n xs ++ mk3 (avLen (Av.sl (List.take n xs) n))))
            (0 : Nat)
            (avLen
                (Av.sl
                  (List.take (avLen (Av.sl (List.take n xs) n))
                    (List.take n xs ++ mk3 (avLen (Av.sl (List.take n xs) n))))
                  (avLen (Av.sl (List.take n xs) n))) /
              (12 : Nat)))),
      List.take (avLen (Av.sl (List.take n xs) n) / (12 : Nat) * (3 : Nat))
          (entL (List.take n xs) (0 : Nat) (avLen (Av.sl (List.take n xs) n) / (12 : Nat))) =
        List.take
          (avLen
                (Av.sl
                  (List.take (avLen (Av.sl (List.take n xs) n))
                    (List.take n xs ++ mk3 (avLen (Av.sl (List.take n xs) n))))
                  (avLen (Av.sl (List.take n xs) n))) /
              (12 : Nat) *
            (3 : Nat))
          (entL
            (List.take (avLen (Av.sl (List.take n xs) n)) (List.take n xs ++ mk3 (avLen (Av.sl (List.take n xs) n))))
            (0 : Nat)
            (avLen
                (Av.sl
                  (List.take (avLen (Av.sl (List.take n xs) n))
                    (List.take n xs ++ mk3 (avLen (Av.sl (List.take n xs) n))))
                  (avLen (Av.sl (List.take n xs) n))) /
              (12 : Nat))),
      avLen
          (Av.sl
            (List.take (avLen (Av.sl (List.take n xs) n) / (12 : Nat) * (3 : Nat))
              (entL (List.take n xs) (0 : Nat) (avLen (Av.sl (List.take n xs) n) / (12 : Nat))))
            (avLen (Av.sl (List.take n xs) n) / (12 : Nat))) =
        avLen
          (Av.sl
            (List.take
              (avLen
                    (Av.sl
                      (List.take (avLen (Av.sl (List.take n xs) n))
                        (List.take n xs ++ mk3 (avLen (Av.sl (List.take n xs) n))))
                      (avLen (Av.sl (List.take n xs) n))) /
                  (12 : Nat) *
                (3 : Nat))
              (entL
                (List.take (avLen (Av.sl (List.take n xs) n))
                  (List.take n xs ++ mk3 (avLen (Av.sl (List.take n xs) n))))
                (0 : Nat)
                (avLen
                    (Av.sl
                      (List.take (avLen (Av.sl (List.take n xs) n))
                        (List.take n xs ++ mk3 (avLen (Av.sl (List.take n xs) n))))
                      (avLen (Av.sl (List.take n xs) n))) /
                  (12 : Nat))))
            (avLen
                (Av.sl
                  (List.take (avLen (Av.sl (List.take n xs) n))
                    (List.take n xs ++ mk3 (avLen (Av.sl (List.take n xs) n))))
                  (avLen (Av.sl (List.take n xs) n))) /
              (12 : Nat))),
      Byts [], Byts [], true = true, avLen (Av.sl (List.take n xs) n) + (3 : Nat) ≤ (9223372036854775807 : Nat),
      avLen (Av.sl (List.take n xs) n) + (3 : Nat) ≤
        List.length (List.take n xs ++ mk3 (avLen (Av.sl (List.take n xs) n))),
      Fl
        (List.take (avLen (Av.sl (List.take n xs) n) + (3 : Nat))
          (List.take n xs ++ mk3 (avLen (Av.sl (List.take n xs) n)))),
      n ≤ c ∧ c ≤ (9223372036854775807 : Nat), n ≤ List.length xs, Fl (List.take n xs),
      Byts
        (List.take (avLen (Av.sl (List.take n xs) n) + (3 : Nat))
          (List.take n xs ++ mk3 (avLen (Av.sl (List.take n xs) n)))),
      Byts (List.take n xs), avLen (Av.sl (List.take n xs) n) = avLen (Av.sl (List.take n xs) n),
      avLen (Av.sl (List.take n xs) n) + (3 : Nat) = avLen (Av.sl (List.take n xs) n) + (3 : Nat),
      avLen (Av.sl (List.take n xs) n) ≤ (1099511627776 : Nat),
      decide
          (intsOf
              (List.take (avLen (Av.sl (List.take n xs) n) + (3 : Nat))
                (List.take n xs ++ mk3 (avLen (Av.sl (List.take n xs) n)))) =
            intsOf (List.take n xs ++ mk3 (avLen (Av.sl (List.take n xs) n)))) =
        true]) := by kernel_rfl
theorem ll_b_ok0 (xs ys : List Value) (n c m d : Nat) : runZ (llV 2 Try.prog) Try.prog 5 3 [llA n c, llE m d] [(0, ⟨.old, xs⟩), (1, ⟨.old, ys⟩)] 2 ([false, false] ++ [false, false, false] ++ [false, false, false] ++ [true] ++ [true] ++ [true, true]) =
Res.ok
  ((Value.bool true, [((0 : Nat), Rw.mk Kd.old xs), ((1 : Nat), Rw.mk Kd.old ys)], (7 : Nat), []), [],
    [decide ((↑n : Int) > (1000 : Int)) = false, decide ((↑m : Int) > (80 : Int)) = false,
      n ≤ c ∧ c ≤ (9223372036854775807 : Nat), n ≤ List.length xs, Fl (List.take n xs), Byts (List.take n xs),
      avLen (Av.sl (List.take n xs) n) ≤ (1099511627776 : Nat),
      avLen (Av.sl (List.take n xs) n) ≤ avLen (Av.sl (List.take n xs) n) + (3 : Nat) ∧
        avLen (Av.sl (List.take n xs) n) + (3 : Nat) ≤ (9223372036854775807 : Nat),
      avLen (Av.sl (List.take n xs) n) ≤ List.length (List.take n xs ++ mk3 (avLen (Av.sl (List.take n xs) n))),
      Fl (List.take (avLen (Av.sl (List.take n xs) n)) (List.take n xs ++ mk3 (avLen (Av.sl (List.take n xs) n)))),
      Byts (List.take (avLen (Av.sl (List.take n xs) n)) (List.take n xs ++ mk3 (avLen (Av.sl (List.take n xs) n)))),
      avLen
            (Av.sl
              (List.take (avLen (Av.sl (List.take n xs) n)) (List.take n xs ++ mk3 (avLen (Av.sl (List.take n xs) n))))
              (avLen (Av.sl (List.take n xs) n))) %
          (12 : Nat) =
        (0 : Nat),
      decide
          (avLen
              (Av.sl
                (List.take (avLen (Av.sl (List.take n xs) n))
                  (List.take n xs ++ mk3 (avLen (Av.sl (List.take n xs) n))))
                (avLen (Av.sl (List.take n xs) n))) =
            (0 : Nat)) =
        false,
      avLen
          (Av.sl
            (List.take (avLen (Av.sl (List.take n xs) n)) (List.take n xs ++ mk3 (avLen (Av.sl (List.take n xs) n))))
            (avLen (Av.sl (List.take n xs) n))) ≤
        (4096 : Nat),
      enOk (List.take (avLen (Av.sl (List.take n xs) n)) (List.take n xs ++ mk3 (avLen (Av.sl (List.take n xs) n))))
          (avLen
            (Av.sl
              (List.take (avLen (Av.sl (List.take n xs) n)) (List.take n xs ++ mk3 (avLen (Av.sl (List.take n xs) n))))
              (avLen (Av.sl (List.take n xs) n)))) =
        true,
      n ≤ c ∧ c ≤ (9223372036854775807 : Nat), n ≤ List.length xs, Fl (List.take n xs), Byts (List.take n xs),
      avLen (Av.sl (List.take n xs) n) % (12 : Nat) = (0 : Nat),
      decide (avLen (Av.sl (List.take n xs) n) = (0 : Nat)) = false, avLen (Av.sl (List.take n xs) n) ≤ (4096 : Nat),
      enOk (List.take n xs) (avLen (Av.sl (List.take n xs) n)) = true, (0 : Nat) < (18446744073709551616 : Nat),
      (0 : Nat) < (0 : Nat) + m, (0 : Nat) ≤ (0 : Nat),
      ((0 : Nat) + m) * (24 : Nat) ≤ (140737488355328 : Nat) ∧ (0 : Nat) + m ≤ (9223372036854775807 : Nat),
      m * (3 : Nat) ≤ List.length ys, all1 (List.take (m * (3 : Nat)) ys) = true,
      capBig + (6 : Nat) = capBig + (6 : Nat),
      ((0 : Nat) + m) * (3 : Nat) ≤
        List.length
          (List.take (0 : Nat)
              (zrep [Value.int IntKind.i64 (0 : Int), Value.int IntKind.i64 (0 : Int), Value.int IntKind.i64 (0 : Int)]
                (0 : Nat)) ++
            List.take (m * (3 : Nat)) ys),
      (0 : Nat) < (3 : Nat),
      ((0 : Nat) + m) * (3 : Nat) ≤
        List.length
          (List.take (0 : Nat)
              (zrep [Value.int IntKind.i64 (0 : Int), Value.int IntKind.i64 (0 : Int), Value.int IntKind.i64 (0 : Int)]
                (0 : Nat)) ++
            List.take (m * (3 : Nat)) ys),
      Fl
        (List.take (((0 : Nat) + m) * (3 : Nat))
          (List.take (0 : Nat)
              (zrep [Value.int IntKind.i64 (0 : Int), Value.int IntKind.i64 (0 : Int), Value.int IntKind.i64 (0 : Int)]
                (0 : Nat)) ++
            List.take (m * (3 : Nat)) ys)),
      Ints IntKind.i64
        (List.take (((0 : Nat) + m) * (3 : Nat))
          (List.take (0 : Nat)
              (zrep [Value.int IntKind.i64 (0 : Int), Value.int IntKind.i64 (0 : Int), Value.int IntKind.i64 (0 : Int)]
                (0 : Nat)) ++
            List.take (m * (3 : Nat)) ys)),
      logB
          (List.take (((0 : Nat) + m) * (3 : Nat))
            (List.take (0 : Nat)
                (zrep
                  [Value.int IntKind.i64 (0 : Int), Value.int IntKind.i64 (0 : Int), Value.int IntKind.i64 (0 : Int)]
                  (0 : Nat)) ++
              List.take (m * (3 : Nat)) ys))
          (avLen
            (Av.sl
              (List.take (((0 : Nat) + m) * (3 : Nat))
                (List.take (0 : Nat)
                    (zrep
                      [Value.int IntKind.i64 (0 : Int), Value.int IntKind.i64 (0 : Int),
                        Value.int IntKind.i64 (0 : Int)]
                      (0 : Nat)) ++
                  List.take (m * (3 : Nat)) ys))
              ((0 : Nat) + m))) =
        false,
      m ≤ d ∧ d ≤ (9223372036854775807 : Nat), m * (3 : Nat) ≤ List.length ys, Fl (List.take (m * (3 : Nat)) ys),
      Ints IntKind.i64 (List.take (m * (3 : Nat)) ys),
      logB (List.take (m * (3 : Nat)) ys) (avLen (Av.sl (List.take (m * (3 : Nat)) ys) m)) = false,
      capBig + (3 : Nat) = capBig + (3 : Nat),
      avLen
              (Av.sl
                (List.take (avLen (Av.sl (List.take n xs) n))
                  (List.take n xs ++ mk3 (avLen (Av.sl (List.take n xs) n))))
                (avLen (Av.sl (List.take n xs) n))) /
            (12 : Nat) *
          (3 : Nat) ≤
        List.length
          (entL
            (List.take (avLen (Av.sl (List.take n xs) n)) (List.take n xs ++ mk3 (avLen (Av.sl (List.take n xs) n))))
            (0 : Nat)
            (avLen
                (Av.sl
                  (List.take (avLen (Av.sl (List.take n xs) n))
                    (List.take n xs ++ mk3 (avLen (Av.sl (List.take n xs) n))))
                  (avLen (Av.sl (List.take n xs) n))) /
              (12 : Nat))),
      (0 : Nat) < (3 : Nat),
      avLen
              (Av.sl
                (List.take (avLen (Av.sl (List.take n xs) n))
                  (List.take n xs ++ mk3 (avLen (Av.sl (List.take n xs) n))))
                (avLen (Av.sl (List.take n xs) n))) /
            (12 : Nat) *
          (3 : Nat) ≤
        List.length
          (entL
            (List.take (avLen (Av.sl (List.take n xs) n)) (List.take n xs ++ mk3 (avLen (Av.sl (List.take n xs) n))))
            (0 : Nat)
            (avLen
                (Av.sl
                  (List.take (avLen (Av.sl (List.take n xs) n))
                    (List.take n xs ++ mk3 (avLen (Av.sl (List.take n xs) n))))
                  (avLen (Av.sl (List.take n xs) n))) /
              (12 : Nat))),
      Fl
        (List.take
          (avLen
                (Av.sl
                  (List.take (avLen (Av.sl (List.take n xs) n))
                    (List.take n xs ++ mk3 (avLen (Av.sl (List.take n xs) n))))
                  (avLen (Av.sl (List.take n xs) n))) /
              (12 : Nat) *
            (3 : Nat))
          (entL
            (List.take (avLen (Av.sl (List.take n xs) n)) (List.take n xs ++ mk3 (avLen (Av.sl (List.take n xs) n))))
            (0 : Nat)
            (avLen
                (Av.sl
                  (List.take (avLen (Av.sl (List.take n xs) n))
                    (List.take n xs ++ mk3 (avLen (Av.sl (List.take n xs) n))))
                  (avLen (Av.sl (List.take n xs) n))) /
              (12 : Nat)))),
      capBig + (4 : Nat) = capBig + (4 : Nat),
      avLen (Av.sl (List.take n xs) n) / (12 : Nat) * (3 : Nat) ≤
        List.length (entL (List.take n xs) (0 : Nat) (avLen (Av.sl (List.take n xs) n) / (12 : Nat))),
      (0 : Nat) < (3 : Nat),
      avLen (Av.sl (List.take n xs) n) / (12 : Nat) * (3 : Nat) ≤
        List.length (entL (List.take n xs) (0 : Nat) (avLen (Av.sl (List.take n xs) n) / (12 : Nat))),
      Fl
        (List.take (avLen (Av.sl (List.take n xs) n) / (12 : Nat) * (3 : Nat))
          (entL (List.take n xs) (0 : Nat) (avLen (Av.sl (List.take n xs) n) / (12 : Nat)))),
      Ints IntKind.i64
        (List.take
          (avLen
                (Av.sl
                  (List.take (avLen (Av.sl (List.take n xs) n))
                    (List.take n xs ++ mk3 (avLen (Av.sl (List.take n xs) n))))
                  (avLen (Av.sl (List.take n xs) n))) /
              (12 : Nat) *
            (3 : Nat))
          (entL
            (List.take (avLen (Av.sl (List.take n xs) n)) (List.take n xs ++ mk3 (avLen (Av.sl (List.take n xs) n))))
            (0 : Nat)
            (avLen
                (Av.sl
                  (List.take (avLen (Av.sl (List.take n xs) n))
                    (List.take n xs ++ mk3 (avLen (Av.sl (List.take n xs) n))))
                  (avLen (Av.sl (List.take n xs) n))) /
              (12 : Nat)))),
      List.take (avLen (Av.sl (List.take n xs) n) / (12 : Nat) * (3 : Nat))
          (entL (List.take n xs) (0 : Nat) (avLen (Av.sl (List.take n xs) n) / (12 : Nat))) =
        List.take
          (avLen
                (Av.sl
                  (List.take (avLen (Av.sl (List.take n xs) n))
                    (List.take n xs ++ mk3 (avLen (Av.sl (List.take n xs) n))))
                  (avLen (Av.sl (List.take n xs) n))) /
              (12 : Nat) *
            (3 : Nat))
          (entL
            (List.take (avLen (Av.sl (List.take n xs) n)) (List.take n xs ++ mk3 (avLen (Av.sl (List.take n xs) n))))
            (0 : Nat)
            (avLen
                (Av.sl
                  (List.take (avLen (Av.sl (List.take n xs) n))
                    (List.take n xs ++ mk3 (avLen (Av.sl (List.take n xs) n))))
                  (avLen (Av.sl (List.take n xs) n))) /
              (12 : Nat))),
      avLen
          (Av.sl
            (List.take (avLen (Av.sl (List.take n xs) n) / (12 : Nat) * (3 : Nat))
              (entL (List.take n xs) (0 : Nat) (avLen (Av.sl (List.take n xs) n) / (12 : Nat))))
            (avLen (Av.sl (List.take n xs) n) / (12 : Nat))) =
        avLen
          (Av.sl
            (List.take
              (avLen
                    (Av.sl
                      (List.take (avLen (Av.sl (List.take n xs) n))
                        (List.take n xs ++ mk3 (avLen (Av.sl (List.take n xs) n))))
                      (avLen (Av.sl (List.take n xs) n))) /
                  (12 : Nat) *
                (3 : Nat))
              (entL
                (List.take (avLen (Av.sl (List.take n xs) n))
                  (List.take n xs ++ mk3 (avLen (Av.sl (List.take n xs) n))))
                (0 : Nat)
                (avLen
                    (Av.sl
                      (List.take (avLen (Av.sl (List.take n xs) n))
                        (List.take n xs ++ mk3 (avLen (Av.sl (List.take n xs) n))))
                      (avLen (Av.sl (List.take n xs) n))) /
                  (12 : Nat))))
            (avLen
                (Av.sl
                  (List.take (avLen (Av.sl (List.take n xs) n))
                    (List.take n xs ++ mk3 (avLen (Av.sl (List.take n xs) n))))
                  (avLen (Av.sl (List.take n xs) n))) /
              (12 : Nat))),
      Byts [], Byts [], true = true, avLen (Av.sl (List.take n xs) n) + (3 : Nat) ≤ (9223372036854775807 : Nat),
      avLen (Av.sl (List.take n xs) n) + (3 : Nat) ≤
        List.length (List.take n xs ++ mk3 (avLen (Av.sl (List.take n xs) n))),
      Fl
        (List.take (avLen (Av.sl (List.take n xs) n) + (3 : Nat))
          (List.take n xs ++ mk3 (avLen (Av.sl (List.take n xs) n)))),
      n ≤ c ∧ c ≤ (9223372036854775807 : Nat), n ≤ List.length xs, Fl (List.take n xs),
      Byts
        (List.take (avLen (Av.sl (List.take n xs) n) + (3 : Nat))
          (List.take n xs ++ mk3 (avLen (Av.sl (List.take n xs) n)))),
      Byts (List.take n xs), avLen (Av.sl (List.take n xs) n) = avLen (Av.sl (List.take n xs) n),
      avLen (Av.sl (List.take n xs) n) + (3 : Nat) = avLen (Av.sl (List.take n xs) n) + (3 : Nat),
      avLen (Av.sl (List.take n xs) n) ≤ (1099511627776 : Nat),
      decide
          (intsOf
              (List.take (avLen (Av.sl (List.take n xs) n) + (3 : Nat))
                (List.take n xs ++ mk3 (avLen (Av.sl (List.take n xs) n)))) =
            intsOf (List.take n xs ++ mk3 (avLen (Av.sl (List.take n xs) n)))) =
        true]) := by kernel_rfl
theorem ll_g_ok0 (xs ys : List Value) (n c m d : Nat) : runZ (llV 2 Try.prog) Try.prog 5 3 [llA n c, llE m d] [(0, ⟨.old, xs⟩), (1, ⟨.old, ys⟩)] 2 ([false, false] ++ [false, false, false] ++ [false, false, false] ++ [false, false] ++ [false, false] ++ [true, true]) =
Res.ok
  ((Value.bool true, [((0 : Nat), Rw.mk Kd.old xs), ((1 : Nat), Rw.mk Kd.old ys)], (9 : Nat), []), [],
    [decide ((↑n : Int) > (1000 : Int)) = false, decide ((↑m : Int) > (80 : Int)) = false,
      n ≤ c ∧ c ≤ (9223372036854775807 : Nat), n ≤ List.length xs, Fl (List.take n xs), Byts (List.take n xs),
      avLen (Av.sl (List.take n xs) n) ≤ (1099511627776 : Nat),
      avLen (Av.sl (List.take n xs) n) ≤ avLen (Av.sl (List.take n xs) n) + (3 : Nat) ∧
        avLen (Av.sl (List.take n xs) n) + (3 : Nat) ≤ (9223372036854775807 : Nat),
      avLen (Av.sl (List.take n xs) n) ≤ List.length (List.take n xs ++ mk3 (avLen (Av.sl (List.take n xs) n))),
      Fl (List.take (avLen (Av.sl (List.take n xs) n)) (List.take n xs ++ mk3 (avLen (Av.sl (List.take n xs) n)))),
      Byts (List.take (avLen (Av.sl (List.take n xs) n)) (List.take n xs ++ mk3 (avLen (Av.sl (List.take n xs) n)))),
      avLen
            (Av.sl
              (List.take (avLen (Av.sl (List.take n xs) n)) (List.take n xs ++ mk3 (avLen (Av.sl (List.take n xs) n))))
              (avLen (Av.sl (List.take n xs) n))) %
          (12 : Nat) =
        (0 : Nat),
      decide
          (avLen
              (Av.sl
                (List.take (avLen (Av.sl (List.take n xs) n))
                  (List.take n xs ++ mk3 (avLen (Av.sl (List.take n xs) n))))
                (avLen (Av.sl (List.take n xs) n))) =
            (0 : Nat)) =
        false,
      avLen
          (Av.sl
            (List.take (avLen (Av.sl (List.take n xs) n)) (List.take n xs ++ mk3 (avLen (Av.sl (List.take n xs) n))))
            (avLen (Av.sl (List.take n xs) n))) ≤
        (4096 : Nat),
      enOk (List.take (avLen (Av.sl (List.take n xs) n)) (List.take n xs ++ mk3 (avLen (Av.sl (List.take n xs) n))))
          (avLen
            (Av.sl
              (List.take (avLen (Av.sl (List.take n xs) n)) (List.take n xs ++ mk3 (avLen (Av.sl (List.take n xs) n))))
              (avLen (Av.sl (List.take n xs) n)))) =
        true,
      n ≤ c ∧ c ≤ (9223372036854775807 : Nat), n ≤ List.length xs, Fl (List.take n xs), Byts (List.take n xs),
      avLen (Av.sl (List.take n xs) n) % (12 : Nat) = (0 : Nat),
      decide (avLen (Av.sl (List.take n xs) n) = (0 : Nat)) = false, avLen (Av.sl (List.take n xs) n) ≤ (4096 : Nat),
      enOk (List.take n xs) (avLen (Av.sl (List.take n xs) n)) = true, (0 : Nat) < (18446744073709551616 : Nat),
      (0 : Nat) < (0 : Nat) + m, (0 : Nat) ≤ (0 : Nat),
      ((0 : Nat) + m) * (24 : Nat) ≤ (140737488355328 : Nat) ∧ (0 : Nat) + m ≤ (9223372036854775807 : Nat),
      m * (3 : Nat) ≤ List.length ys, all1 (List.take (m * (3 : Nat)) ys) = true,
      capBig + (6 : Nat) = capBig + (6 : Nat),
      ((0 : Nat) + m) * (3 : Nat) ≤
        List.length
          (List.take (0 : Nat)
              (zrep [Value.int IntKind.i64 (0 : Int), Value.int IntKind.i64 (0 : Int), Value.int IntKind.i64 (0 : Int)]
                (0 : Nat)) ++
            List.take (m * (3 : Nat)) ys),
      (0 : Nat) < (3 : Nat),
      ((0 : Nat) + m) * (3 : Nat) ≤
        List.length
          (List.take (0 : Nat)
              (zrep [Value.int IntKind.i64 (0 : Int), Value.int IntKind.i64 (0 : Int), Value.int IntKind.i64 (0 : Int)]
                (0 : Nat)) ++
            List.take (m * (3 : Nat)) ys),
      Fl
        (List.take (((0 : Nat) + m) * (3 : Nat))
          (List.take (0 : Nat)
              (zrep [Value.int IntKind.i64 (0 : Int), Value.int IntKind.i64 (0 : Int), Value.int IntKind.i64 (0 : Int)]
                (0 : Nat)) ++
            List.take (m * (3 : Nat)) ys)),
      Ints IntKind.i64
        (List.take (((0 : Nat) + m) * (3 : Nat))
          (List.take (0 : Nat)
              (zrep [Value.int IntKind.i64 (0 : Int), Value.int IntKind.i64 (0 : Int), Value.int IntKind.i64 (0 : Int)]
                (0 : Nat)) ++
            List.take (m * (3 : Nat)) ys)),
      decide
          (avLen
              (Av.sl
                (List.take (((0 : Nat) + m) * (3 : Nat))
                  (List.take (0 : Nat)
                      (zrep
                        [Value.int IntKind.i64 (0 : Int), Value.int IntKind.i64 (0 : Int),
                          Value.int IntKind.i64 (0 : Int)]
                        (0 : Nat)) ++
                    List.take (m * (3 : Nat)) ys))
                ((0 : Nat) + m)) =
            (0 : Nat)) =
        false,
      logB
          (List.take (((0 : Nat) + m) * (3 : Nat))
            (List.take (0 : Nat)
                (zrep
                  [Value.int IntKind.i64 (0 : Int), Value.int IntKind.i64 (0 : Int), Value.int IntKind.i64 (0 : Int)]
                  (0 : Nat)) ++
              List.take (m * (3 : Nat)) ys))
          (avLen
            (Av.sl
              (List.take (((0 : Nat) + m) * (3 : Nat))
                (List.take (0 : Nat)
                    (zrep
                      [Value.int IntKind.i64 (0 : Int), Value.int IntKind.i64 (0 : Int),
                        Value.int IntKind.i64 (0 : Int)]
                      (0 : Nat)) ++
                  List.take (m * (3 : Nat)) ys))
              ((0 : Nat) + m))) =
        true,
      m ≤ d ∧ d ≤ (9223372036854775807 : Nat), m * (3 : Nat) ≤ List.length ys, Fl (List.take (m * (3 : Nat)) ys),
      Ints IntKind.i64 (List.take (m * (3 : Nat)) ys),
      decide (avLen (Av.sl (List.take (m * (3 : Nat)) ys) m) = (0 : Nat)) = false,
      logB (List.take (m * (3 : Nat)) ys) (avLen (Av.sl (List.take (m * (3 : Nat)) ys) m)) = true,
      capBig + (3 : Nat) = capBig + (3 : Nat),
      avLen
              (Av.sl
                (List.take (avLen (Av.sl (List.take n xs) n))
                  (List.take n xs ++ mk3 (avLen (Av.sl (List.take n xs) n))))
                (avLen (Av.sl (List.take n xs) n))) /
            (12 : Nat) *
          (3 : Nat) ≤
        List.length
          (entL
            (List.take (avLen (Av.sl (List.take n xs) n)) (List.take n xs ++ mk3 (avLen (Av.sl (List.take n xs) n))))
            (0 : Nat)
            (avLen
                (Av.sl
                  (List.take (avLen (Av.sl (List.take n xs) n))
                    (List.take n xs ++ mk3 (avLen (Av.sl (List.take n xs) n))))
                  (avLen (Av.sl (List.take n xs) n))) /
              (12 : Nat))),
      (0 : Nat) < (3 : Nat),
      avLen
              (Av.sl
                (List.take (avLen (Av.sl (List.take n xs) n))
                  (List.take n xs ++ mk3 (avLen (Av.sl (List.take n xs) n))))
                (avLen (Av.sl (List.take n xs) n))) /
            (12 : Nat) *
          (3 : Nat) ≤
        List.length
          (entL
            (List.take (avLen (Av.sl (List.take n xs) n)) (List.take n xs ++ mk3 (avLen (Av.sl (List.take n xs) n))))
            (0 : Nat)
            (avLen
                (Av.sl
                  (List.take (avLen (Av.sl (List.take n xs) n))
                    (List.take n xs ++ mk3 (avLen (Av.sl (List.take n xs) n))))
                  (avLen (Av.sl (List.take n xs) n))) /
              (12 : Nat))),
      Fl
        (List.take
          (avLen
                (Av.sl
                  (List.take (avLen (Av.sl (List.take n xs) n))
                    (List.take n xs ++ mk3 (avLen (Av.sl (List.take n xs) n))))
                  (avLen (Av.sl (List.take n xs) n))) /
              (12 : Nat) *
            (3 : Nat))
          (entL
            (List.take (avLen (Av.sl (List.take n xs) n)) (List.take n xs ++ mk3 (avLen (Av.sl (List.take n xs) n))))
            (0 : Nat)
            (avLen
                (Av.sl
                  (List.take (avLen (Av.sl (List.take n xs) n))
                    (List.take n xs ++ mk3 (avLen (Av.sl (List.take n xs) n))))
                  (avLen (Av.sl (List.take n xs) n))) /
              (12 : Nat)))),
      capBig + (4 : Nat) = capBig + (4 : Nat),
      avLen (Av.sl (List.take n xs) n) / (12 : Nat) * (3 : Nat) ≤
        List.length (entL (List.take n xs) (0 : Nat) (avLen (Av.sl (List.take n xs) n) / (12 : Nat))),
      (0 : Nat) < (3 : Nat),
      avLen (Av.sl (List.take n xs) n) / (12 : Nat) * (3 : Nat) ≤
        List.length (entL (List.take n xs) (0 : Nat) (avLen (Av.sl (List.take n xs) n) / (12 : Nat))),
      Fl
        (List.take (avLen (Av.sl (List.take n xs) n) / (12 : Nat) * (3 : Nat))
          (entL (List.take n xs) (0 : Nat) (avLen (Av.sl (List.take n xs) n) / (12 : Nat)))),
      Ints IntKind.i64
        (List.take
          (avLen
                (Av.sl
                  (List.take (avLen (Av.sl (List.take n xs) n))
                    (List.take n xs ++ mk3 (avLen (Av.sl (List.take n xs) n))))
                  (avLen (Av.sl (List.take n xs) n))) /
              (12 : Nat) *
            (3 : Nat))
          (entL
            (List.take (avLen (Av.sl (List.take n xs) n)) (List.take n xs ++ mk3 (avLen (Av.sl (List.take n xs) n))))
            (0 : Nat)
            (avLen
                (Av.sl
                  (List.take (avLen (Av.sl (List.take n xs) n))
                    (List.take n xs ++ mk3 (avLen (Av.sl (List.take n xs) n))))
                  (avLen (Av.sl (List.take n xs) n))) /
              (12 : Nat)))),
      List.take (avLen (Av.sl (List.take n xs) n) / (12 : Nat) * (3 : Nat))
          (entL (List.take n xs) (0 : Nat) (avLen (Av.sl (List.take n xs) n) / (12 : Nat))) =
        List.take
          (avLen
                (Av.sl
                  (List.take (avLen (Av.sl (List.take n xs) n))
                    (List.take n xs ++ mk3 (avLen (Av.sl (List.take n xs) n))))
                  (avLen (Av.sl (List.take n xs) n))) /
              (12 : Nat) *
            (3 : Nat))
          (entL
            (List.take (avLen (Av.sl (List.take n xs) n)) (List.take n xs ++ mk3 (avLen (Av.sl (List.take n xs) n))))
            (0 : Nat)
            (avLen
                (Av.sl
                  (List.take (avLen (Av.sl (List.take n xs) n))
                    (List.take n xs ++ mk3 (avLen (Av.sl (List.take n xs) n))))
                  (avLen (Av.sl (List.take n xs) n))) /
              (12 : Nat))),
      avLen
          (Av.sl
            (List.take (avLen (Av.sl (List.take n xs) n) / (12 : Nat) * (3 : Nat))
              (entL (List.take n xs) (0 : Nat) (avLen (Av.sl (List.take n xs) n) / (12 : Nat))))
            (avLen (Av.sl (List.take n xs) n) / (12 : Nat))) =
        avLen
          (Av.sl
            (List.take
              (avLen
                    (Av.sl
                      (List.take (avLen (Av.sl (List.take n xs) n))
                        (List.take n xs ++ mk3 (avLen (Av.sl (List.take n xs) n))))
                      (avLen (Av.sl (List.take n xs) n))) /
                  (12 : Nat) *
                (3 : Nat))
              (entL
                (List.take (avLen (Av.sl (List.take n xs) n))
                  (List.take n xs ++ mk3 (avLen (Av.sl (List.take n xs) n))))
                (0 : Nat)
                (avLen
                    (Av.sl
                      (List.take (avLen (Av.sl (List.take n xs) n))
                        (List.take n xs ++ mk3 (avLen (Av.sl (List.take n xs) n))))
                      (avLen (Av.sl (List.take n xs) n))) /
                  (12 : Nat))))
            (avLen
                (Av.sl
                  (List.take (avLen (Av.sl (List.take n xs) n))
                    (List.take n xs ++ mk3 (avLen (Av.sl (List.take n xs) n))))
                  (avLen (Av.sl (List.take n xs) n))) /
              (12 : Nat))),
      capBig + (7 : Nat) = capBig + (7 : Nat),
      avLen
            (Av.sl
              (List.take (((0 : Nat) + m) * (3 : Nat))
                (List.take (0 : Nat)
                    (zrep
                      [Value.int IntKind.i64 (0 : Int), Value.int IntKind.i64 (0 : Int),
                        Value.int IntKind.i64 (0 : Int)]
                      (0 : Nat)) ++
                  List.take (m * (3 : Nat)) ys))
              ((0 : Nat) + m)) *
          (12 : Nat) ≤
        List.length
          (ofL
            (List.take (((0 : Nat) + m) * (3 : Nat))
              (List.take (0 : Nat)
                  (zrep
                    [Value.int IntKind.i64 (0 : Int), Value.int IntKind.i64 (0 : Int), Value.int IntKind.i64 (0 : Int)]
                    (0 : Nat)) ++
                List.take (m * (3 : Nat)) ys))
            (0 : Nat)
            (avLen
              (Av.sl
                (List.take (((0 : Nat) + m) * (3 : Nat))
                  (List.take (0 : Nat)
                      (zrep
                        [Value.int IntKind.i64 (0 : Int), Value.int IntKind.i64 (0 : Int),
                          Value.int IntKind.i64 (0 : Int)]
                        (0 : Nat)) ++
                    List.take (m * (3 : Nat)) ys))
                ((0 : Nat) + m)))),
      (0 : Nat) < (1 : Nat),
      avLen
            (Av.sl
              (List.take (((0 : Nat) + m) * (3 : Nat))
                (List.take (0 : Nat)
                    (zrep
                      [Value.int IntKind.i64 (0 : Int), Value.int IntKind.i64 (0 : Int),
                        Value.int IntKind.i64 (0 : Int)]
                      (0 : Nat)) ++
                  List.take (m * (3 : Nat)) ys))
              ((0 : Nat) + m)) *
          (12 : Nat) ≤
        List.length
          (ofL
            (List.take (((0 : Nat) + m) * (3 : Nat))
              (List.take (0 : Nat)
                  (zrep
                    [Value.int IntKind.i64 (0 : Int), Value.int IntKind.i64 (0 : Int), Value.int IntKind.i64 (0 : Int)]
                    (0 : Nat)) ++
                List.take (m * (3 : Nat)) ys))
            (0 : Nat)
            (avLen
              (Av.sl
                (List.take (((0 : Nat) + m) * (3 : Nat))
                  (List.take (0 : Nat)
                      (zrep
                        [Value.int IntKind.i64 (0 : Int), Value.int IntKind.i64 (0 : Int),
                          Value.int IntKind.i64 (0 : Int)]
                        (0 : Nat)) ++
                    List.take (m * (3 : Nat)) ys))
                ((0 : Nat) + m)))),
      Fl
        (List.take
          (avLen
              (Av.sl
                (List.take (((0 : Nat) + m) * (3 : Nat))
                  (List.take (0 : Nat)
                      (zrep
                        [Value.int IntKind.i64 (0 : Int), Value.int IntKind.i64 (0 : Int),
                          Value.int IntKind.i64 (0 : Int)]
                        (0 : Nat)) ++
                    List.take (m * (3 : Nat)) ys))
                ((0 : Nat) + m)) *
            (12 : Nat))
          (ofL
            (List.take (((0 : Nat) + m) * (3 : Nat))
              (List.take (0 : Nat)
                  (zrep
                    [Value.int IntKind.i64 (0 : Int), Value.int IntKind.i64 (0 : Int), Value.int IntKind.i64 (0 : Int)]
                    (0 : Nat)) ++
                List.take (m * (3 : Nat)) ys))
            (0 : Nat)
            (avLen
              (Av.sl
                (List.take (((0 : Nat) + m) * (3 : Nat))
                  (List.take (0 : Nat)
                      (zrep
                        [Value.int IntKind.i64 (0 : Int), Value.int IntKind.i64 (0 : Int),
                          Value.int IntKind.i64 (0 : Int)]
                        (0 : Nat)) ++
                    List.take (m * (3 : Nat)) ys))
                ((0 : Nat) + m))))),
      capBig + (8 : Nat) = capBig + (8 : Nat),
      avLen (Av.sl (List.take (m * (3 : Nat)) ys) m) * (12 : Nat) ≤
        List.length (ofL (List.take (m * (3 : Nat)) ys) (0 : Nat) (avLen (Av.sl (List.take (m * (3 : Nat)) ys) m))),
      (0 : Nat) < (1 : Nat),
      avLen (Av.sl (List.take (m * (3 : Nat)) ys) m) * (12 : Nat) ≤
        List.length (ofL (List.take (m * (3 : Nat)) ys) (0 : Nat) (avLen (Av.sl (List.take (m * (3 : Nat)) ys) m))),
      Fl
        (List.take (avLen (Av.sl (List.take (m * (3 : Nat)) ys) m) * (12 : Nat))
          (ofL (List.take (m * (3 : Nat)) ys) (0 : Nat) (avLen (Av.sl (List.take (m * (3 : Nat)) ys) m)))),
      Byts
        (List.take
          (avLen
              (Av.sl
                (List.take (((0 : Nat) + m) * (3 : Nat))
                  (List.take (0 : Nat)
                      (zrep
                        [Value.int IntKind.i64 (0 : Int), Value.int IntKind.i64 (0 : Int),
                          Value.int IntKind.i64 (0 : Int)]
                        (0 : Nat)) ++
                    List.take (m * (3 : Nat)) ys))
                ((0 : Nat) + m)) *
            (12 : Nat))
          (ofL
            (List.take (((0 : Nat) + m) * (3 : Nat))
              (List.take (0 : Nat)
                  (zrep
                    [Value.int IntKind.i64 (0 : Int), Value.int IntKind.i64 (0 : Int), Value.int IntKind.i64 (0 : Int)]
                    (0 : Nat)) ++
                List.take (m * (3 : Nat)) ys))
            (0 : Nat)
            (avLen
              (Av.sl
                (List.take (((0 : Nat) + m) * (3 : Nat))
                  (List.take (0 : Nat)
                      (zrep
                        [Value.int IntKind.i64 (0 : Int), Value.int IntKind.i64 (0 : Int),
                          Value.int IntKind.i64 (0 : Int)]
                        (0 : Nat)) ++
                    List.take (m * (3 : Nat)) ys))
                ((0 : Nat) + m))))),
      Byts
        (List.take (avLen (Av.sl (List.take (m * (3 : Nat)) ys) m) * (12 : Nat))
          (ofL (List.take (m * (3 : Nat)) ys) (0 : Nat) (avLen (Av.sl (List.take (m * (3 : Nat)) ys) m)))),
      decide
          (intsOf
              (List.take
                (avLen
                    (Av.sl
                      (List.take (((0 : Nat) + m) * (3 : Nat))
                        (List.take (0 : Nat)
                            (zrep
                              [Value.int IntKind.i64 (0 : Int), Value.int IntKind.i64 (0 : Int),
                                Value.int IntKind.i64 (0 : Int)]
                              (0 : Nat)) ++
                          List.take (m * (3 : Nat)) ys))
                      ((0 : Nat) + m)) *
                  (12 : Nat))
                (ofL
                  (List.take (((0 : Nat) + m) * (3 : Nat))
                    (List.take (0 : Nat)
                        (zrep
                          [Value.int IntKind.i64 (0 : Int), Value.int IntKind.i64 (0 : Int),
                            Value.int IntKind.i64 (0 : Int)]
                          (0 : Nat)) ++
                      List.take (m * (3 : Nat)) ys))
                  (0 : Nat)
                  (avLen
                    (Av.sl
                      (List.take (((0 : Nat) + m) * (3 : Nat))
                        (List.take (0 : Nat)
                            (zrep
                              [Value.int IntKind.i64 (0 : Int), Value.int IntKind.i64 (0 : Int),
                                Value.int IntKind.i64 (0 : Int)]
                              (0 : Nat)) ++
                          List.take (m * (3 : Nat)) ys))
                      ((0 : Nat) + m))))) =
            intsOf
              (List.take (avLen (Av.sl (List.take (m * (3 : Nat)) ys) m) * (12 : Nat))
                (ofL (List.take (m * (3 : Nat)) ys) (0 : Nat) (avLen (Av.sl (List.take (m * (3 : Nat)) ys) m))))) =
        true,
      (0 : Nat) = (0 : Nat), capBig + (7 : Nat) = capBig + (7 : Nat),
      avLen
            (Av.sl
              (List.take (((0 : Nat) + m) * (3 : Nat))
                (List.take (0 : Nat)
                    (zrep
                      [Value.int IntKind.i64 (0 : Int), Value.int IntKind.i64 (0 : Int),
                        Value.int IntKind.i64 (0 : Int)]
                      (0 : Nat)) ++
                  List.take (m * (3 : Nat)) ys))
              ((0 : Nat) + m)) *
          (12 : Nat) ≤
        List.length
          (ofL
            (List.take (((0 : Nat) + m) * (3 : Nat))
              (List.take (0 : Nat)
                  (zrep
                    [Value.int IntKind.i64 (0 : Int), Value.int IntKind.i64 (0 : Int), Value.int IntKind.i64 (0 : Int)]
                    (0 : Nat)) ++
                List.take (m * (3 : Nat)) ys))
            (0 : Nat)
            (avLen
              (Av.sl
                (List.take (((0 : Nat) + m) * (3 : Nat))
                  (List.take (0 : Nat)
                      (zrep
                        [Value.int IntKind.i64 (0 : Int), Value.int IntKind.i64 (0 : Int),
                          Value.int IntKind.i64 (0 : Int)]
                        (0 : Nat)) ++
                    List.take (m * (3 : Nat)) ys))
                ((0 : Nat) + m)))),
      Byts
        (ofL
          (List.take (((0 : Nat) + m) * (3 : Nat))
            (List.take (0 : Nat)
                (zrep
                  [Value.int IntKind.i64 (0 : Int), Value.int IntKind.i64 (0 : Int), Value.int IntKind.i64 (0 : Int)]
                  (0 : Nat)) ++
              List.take (m * (3 : Nat)) ys))
          (0 : Nat)
          (avLen
            (Av.sl
              (List.take (((0 : Nat) + m) * (3 : Nat))
                (List.take (0 : Nat)
                    (zrep
                      [Value.int IntKind.i64 (0 : Int), Value.int IntKind.i64 (0 : Int),
                        Value.int IntKind.i64 (0 : Int)]
                      (0 : Nat)) ++
                  List.take (m * (3 : Nat)) ys))
              ((0 : Nat) + m)))),
      avLen (Av.sl (List.take n xs) n) + (3 : Nat) ≤ (9223372036854775807 : Nat),
      avLen (Av.sl (List.take n xs) n) + (3 : Nat) ≤
        List.length (List.take n xs ++ mk3 (avLen (Av.sl (List.take n xs) n))),
      Fl
        (List.take (avLen (Av.sl (List.take n xs) n) + (3 : Nat))
          (List.take n xs ++ mk3 (avLen (Av.sl (List.take n xs) n)))),
      n ≤ c ∧ c ≤ (9223372036854775807 : Nat), n ≤ List.length xs, Fl (List.take n xs),
      Byts
        (List.take (avLen (Av.sl (List.take n xs) n) + (3 : Nat))
          (List.take n xs ++ mk3 (avLen (Av.sl (List.take n xs) n)))),
      Byts (List.take n xs), avLen (Av.sl (List.take n xs) n) = avLen (Av.sl (List.take n xs) n),
      avLen (Av.sl (List.take n xs) n) + (3 : Nat) = avLen (Av.sl (List.take n xs) n) + (3 : Nat),
      avLen (Av.sl (List.take n xs) n) ≤ (1099511627776 : Nat),
      decide
          (intsOf
              (List.take (avLen (Av.sl (List.take n xs) n) + (3 : Nat))
                (List.take n xs ++ mk3 (avLen (Av.sl (List.take n xs) n)))) =
            intsOf (List.take n xs ++ mk3 (avLen (Av.sl (List.take n xs) n)))) =
        true]) := by kernel_rfl
theorem ll_n_n  : runZ (llV 4 Try.prog) Try.prog 5 3 [.slice none 0 0, .slice none 0 0] [] 2 ([false, false] ++ [false, true] ++ [false, true] ++ [false, true] ++ [false, true] ++ [true, true]) =
Res.ok
  ((Value.bool true, [], (4 : Nat), []), [],
    [false = false, false = false, Byts [], (0 : Nat) ≤ (1099511627776 : Nat),
      (0 : Nat) ≤ (3 : Nat) ∧ (3 : Nat) ≤ (9223372036854775807 : Nat), (0 : Nat) ≤ (3 : Nat),
      Fl (List.take (0 : Nat) ([] ++ mk3 (0 : Nat))), Byts (List.take (0 : Nat) ([] ++ mk3 (0 : Nat))),
      (0 : Nat) = (0 : Nat), Byts [], (0 : Nat) = (0 : Nat),
      (0 : Nat) ≤ (0 : Nat) ∧ (0 : Nat) ≤ (9223372036854775807 : Nat), (0 : Nat) ≤ (0 : Nat),
      Fl
        (List.take (0 : Nat)
          (splice
            (zrep [Value.int IntKind.i64 (0 : Int), Value.int IntKind.i64 (0 : Int), Value.int IntKind.i64 (0 : Int)]
              (0 : Nat))
            (0 : Nat) [])),
      Ints IntKind.i64
        (List.take (0 : Nat)
          (splice
            (zrep [Value.int IntKind.i64 (0 : Int), Value.int IntKind.i64 (0 : Int), Value.int IntKind.i64 (0 : Int)]
              (0 : Nat))
            (0 : Nat) [])),
      (0 : Nat) = (0 : Nat), Ints IntKind.i64 [], (0 : Nat) = (0 : Nat), Ints IntKind.i64 [], ([] : List Value) = [],
      (0 : Nat) = (0 : Nat), Byts [], Byts [], true = true, (3 : Nat) ≤ (9223372036854775807 : Nat),
      (3 : Nat) ≤ (3 : Nat), Fl (List.take (3 : Nat) ([] ++ mk3 (0 : Nat))),
      Byts (List.take (3 : Nat) ([] ++ mk3 (0 : Nat))), Byts [], (0 : Nat) = (0 : Nat), (3 : Nat) = (3 : Nat),
      (0 : Nat) ≤ (1099511627776 : Nat), true = true]) := by kernel_rfl
theorem ll_e_n (ys : List Value) (d : Nat) : runZ (llV 4 Try.prog) Try.prog 5 3 [.slice none 0 0, llE 0 d] [(1, ⟨.old, ys⟩)] 2 ([false, false] ++ [false, true] ++ [false, true] ++ [false, true] ++ [false, true] ++ [true, true]) =
Res.ok
  ((Value.bool true, [((1 : Nat), Rw.mk Kd.old ys)], (4 : Nat), []), [],
    [false = false, false = false, Byts [], (0 : Nat) ≤ (1099511627776 : Nat),
      (0 : Nat) ≤ (3 : Nat) ∧ (3 : Nat) ≤ (9223372036854775807 : Nat), (0 : Nat) ≤ (3 : Nat),
      Fl (List.take (0 : Nat) ([] ++ mk3 (0 : Nat))), Byts (List.take (0 : Nat) ([] ++ mk3 (0 : Nat))),
      (0 : Nat) = (0 : Nat), Byts [], (0 : Nat) = (0 : Nat),
      (0 : Nat) ≤ (0 : Nat) ∧ (0 : Nat) ≤ (9223372036854775807 : Nat), (0 : Nat) ≤ (0 : Nat),
      Fl
        (List.take (0 : Nat)
          (splice
            (zrep [Value.int IntKind.i64 (0 : Int), Value.int IntKind.i64 (0 : Int), Value.int IntKind.i64 (0 : Int)]
              (0 : Nat))
            (0 : Nat) (List.take (0 : Nat) (List.drop (0 : Nat) ys)))),
      Ints IntKind.i64
        (List.take (0 : Nat)
          (splice
            (zrep [Value.int IntKind.i64 (0 : Int), Value.int IntKind.i64 (0 : Int), Value.int IntKind.i64 (0 : Int)]
              (0 : Nat))
            (0 : Nat) (List.take (0 : Nat) (List.drop (0 : Nat) ys)))),
      (0 : Nat) = (0 : Nat), (0 : Nat) ≤ d ∧ d ≤ (9223372036854775807 : Nat), (0 : Nat) ≤ List.length ys,
      Fl (List.take (0 : Nat) ys), Ints IntKind.i64 (List.take (0 : Nat) ys), (0 : Nat) = (0 : Nat),
      Ints IntKind.i64 [], ([] : List Value) = [], (0 : Nat) = (0 : Nat), Byts [], Byts [], true = true,
      (3 : Nat) ≤ (9223372036854775807 : Nat), (3 : Nat) ≤ (3 : Nat), Fl (List.take (3 : Nat) ([] ++ mk3 (0 : Nat))),
      Byts (List.take (3 : Nat) ([] ++ mk3 (0 : Nat))), Byts [], (0 : Nat) = (0 : Nat), (3 : Nat) = (3 : Nat),
      (0 : Nat) ≤ (1099511627776 : Nat), true = true]) := by kernel_rfl
theorem ll_b_n (ys : List Value) (m d : Nat) : runZ (llV 2 Try.prog) Try.prog 5 3 [.slice none 0 0, llE m d] [(1, ⟨.old, ys⟩)] 2 ([false, false] ++ [false, true] ++ [false, true] ++ [true] ++ [true] ++ [true, true]) =
Res.ok
  ((Value.bool true, [((1 : Nat), Rw.mk Kd.old ys)], (5 : Nat), []), [],
    [false = false, decide ((↑m : Int) > (80 : Int)) = false, Byts [], (0 : Nat) ≤ (1099511627776 : Nat),
      (0 : Nat) ≤ (3 : Nat) ∧ (3 : Nat) ≤ (9223372036854775807 : Nat), (0 : Nat) ≤ (3 : Nat),
      Fl (List.take (0 : Nat) ([] ++ mk3 (0 : Nat))), Byts (List.take (0 : Nat) ([] ++ mk3 (0 : Nat))),
      (0 : Nat) = (0 : Nat), Byts [], (0 : Nat) = (0 : Nat), (0 : Nat) < (18446744073709551616 : Nat),
      (0 : Nat) < (0 : Nat) + m, (0 : Nat) ≤ (0 : Nat),
      ((0 : Nat) + m) * (24 : Nat) ≤ (140737488355328 : Nat) ∧ (0 : Nat) + m ≤ (9223372036854775807 : Nat),
      m * (3 : Nat) ≤ List.length ys, all1 (List.take (m * (3 : Nat)) ys) = true,
      capBig + (4 : Nat) = capBig + (4 : Nat),
      ((0 : Nat) + m) * (3 : Nat) ≤
        List.length
          (List.take (0 : Nat)
              (zrep [Value.int IntKind.i64 (0 : Int), Value.int IntKind.i64 (0 : Int), Value.int IntKind.i64 (0 : Int)]
                (0 : Nat)) ++
            List.take (m * (3 : Nat)) ys),
      (0 : Nat) < (3 : Nat),
      ((0 : Nat) + m) * (3 : Nat) ≤
        List.length
          (List.take (0 : Nat)
              (zrep [Value.int IntKind.i64 (0 : Int), Value.int IntKind.i64 (0 : Int), Value.int IntKind.i64 (0 : Int)]
                (0 : Nat)) ++
            List.take (m * (3 : Nat)) ys),
      Fl
        (List.take (((0 : Nat) + m) * (3 : Nat))
          (List.take (0 : Nat)
              (zrep [Value.int IntKind.i64 (0 : Int), Value.int IntKind.i64 (0 : Int), Value.int IntKind.i64 (0 : Int)]
                (0 : Nat)) ++
            List.take (m * (3 : Nat)) ys)),
      Ints IntKind.i64
        (List.take (((0 : Nat) + m) * (3 : Nat))
          (List.take (0 : Nat)
              (zrep [Value.int IntKind.i64 (0 : Int), Value.int IntKind.i64 (0 : Int), Value.int IntKind.i64 (0 : Int)]
                (0 : Nat)) ++
            List.take (m * (3 : Nat)) ys)),
      logB
          (List.take (((0 : Nat) + m) * (3 : Nat))
            (List.take (0 : Nat)
                (zrep
                  [Value.int IntKind.i64 (0 : Int), Value.int IntKind.i64 (0 : Int), Value.int IntKind.i64 (0 : Int)]
                  (0 : Nat)) ++
              List.take (m * (3 : Nat)) ys))
          (avLen
            (Av.sl
              (List.take (((0 : Nat) + m) * (3 : Nat))
                (List.take (0 : Nat)
                    (zrep
                      [Value.int IntKind.i64 (0 : Int), Value.int IntKind.i64 (0 : Int),
                        Value.int IntKind.i64 (0 : Int)]
                      (0 : Nat)) ++
                  List.take (m * (3 : Nat)) ys))
              ((0 : Nat) + m))) =
        false,
      m ≤ d ∧ d ≤ (9223372036854775807 : Nat), m * (3 : Nat) ≤ List.length ys, Fl (List.take (m * (3 : Nat)) ys),
      Ints IntKind.i64 (List.take (m * (3 : Nat)) ys),
      logB (List.take (m * (3 : Nat)) ys) (avLen (Av.sl (List.take (m * (3 : Nat)) ys) m)) = false, Ints IntKind.i64 [],
      ([] : List Value) = [], (0 : Nat) = (0 : Nat), Byts [], Byts [], true = true, (3 : Nat) ≤ (9223372036854775807 : Nat),
      (3 : Nat) ≤ (3 : Nat), Fl (List.take (3 : Nat) ([] ++ mk3 (0 : Nat))),
      Byts (List.take (3 : Nat) ([] ++ mk3 (0 : Nat))), Byts [], (0 : Nat) = (0 : Nat), (3 : Nat) = (3 : Nat),
      (0 : Nat) ≤ (1099511627776 : Nat), true = true]) := by kernel_rfl
theorem ll_g_n (ys : List Value) (m d : Nat) : runZ (llV 2 Try.prog) Try.prog 5 3 [.slice none 0 0, llE m d] [(1, ⟨.old, ys⟩)] 2 ([false, false] ++ [false, true] ++ [false, true] ++ [false, false] ++ [false, false] ++ [true, true]) =
Res.ok
  ((Value.bool true, [((1 : Nat), Rw.mk Kd.old ys)], (7 : Nat), []), [],
    [false = false, decide ((↑m : Int) > (80 : Int)) = false, Byts [], (0 : Nat) ≤ (1099511627776 : Nat),
      (0 : Nat) ≤ (3 : Nat) ∧ (3 : Nat) ≤ (9223372036854775807 : Nat), (0 : Nat) ≤ (3 : Nat),
      Fl (List.take (0 : Nat) ([] ++ mk3 (0 : Nat))), Byts (List.take (0 : Nat) ([] ++ mk3 (0 : Nat))),
      (0 : Nat) = (0 : Nat), Byts [], (0 : Nat) = (0 : Nat), (0 : Nat) < (18446744073709551616 : Nat),
      (0 : Nat) < (0 : Nat) + m, (0 : Nat) ≤ (0 : Nat),
      ((0 : Nat) + m) * (24 : Nat) ≤ (140737488355328 : Nat) ∧ (0 : Nat) + m ≤ (9223372036854775807 : Nat),
      m * (3 : Nat) ≤ List.length ys, all1 (List.take (m * (3 : Nat)) ys) = true,
      capBig + (4 : Nat) = capBig + (4 : Nat),
      ((0 : Nat) + m) * (3 : Nat) ≤
        List.length
          (List.take (0 : Nat)
              (zrep [Value.int IntKind.i64 (0 : Int), Value.int IntKind.i64 (0 : Int), Value.int IntKind.i64 (0 : Int)]
                (0 : Nat)) ++
            List.take (m * (3 : Nat)) ys),
      (0 : Nat) < (3 : Nat),
      ((0 : Nat) + m) * (3 : Nat) ≤
        List.length
          (List.take (0 : Nat)
              (zrep [Value.int IntKind.i64 (0 : Int), Value.int IntKind.i64 (0 : Int), Value.int IntKind.i64 (0 : Int)]
                (0 : Nat)) ++
            List.take (m * (3 : Nat)) ys),
      Fl
        (List.take (((0 : Nat) + m) * (3 : Nat))
          (List.take (0 : Nat)
              (zrep [Value.int IntKind.i64 (0 : Int), Value.int IntKind.i64 (0 : Int), Value.int IntKind.i64 (0 : Int)]
                (0 : Nat)) ++
            List.take (m * (3 : Nat)) ys)),
      Ints IntKind.i64
        (List.take (((0 : Nat) + m) * (3 : Nat))
          (List.take (0 : Nat)
              (zrep [Value.int IntKind.i64 (0 : Int), Value.int IntKind.i64 (0 : Int), Value.int IntKind.i64 (0 : Int)]
                (0 : Nat)) ++
            List.take (m * (3 : Nat)) ys)),
      decide
          (avLen
              (Av.sl
                (List.take (((0 : Nat) + m) * (3 : Nat))
                  (List.take (0 : Nat)
                      (zrep
                        [Value.int IntKind.i64 (0 : Int), Value.int IntKind.i64 (0 : Int),
                          Value.int IntKind.i64 (0 : Int)]
                        (0 : Nat)) ++
                    List.take (m * (3 : Nat)) ys))
                ((0 : Nat) + m)) =
            (0 : Nat)) =
        false,
      logB
          (List.take (((0 : Nat) + m) * (3 : Nat))
            (List.take (0 : Nat)
                (zrep
                  [Value.int IntKind.i64 (0 : Int), Value.int IntKind.i64 (0 : Int), Value.int IntKind.i64 (0 : Int)]
                  (0 : Nat)) ++
              List.take (m * (3 : Nat)) ys))
          (avLen
            (Av.sl
              (List.take (((0 : Nat) + m) * (3 : Nat))
                (List.take (0 : Nat)
                    (zrep
                      [Value.int IntKind.i64 (0 : Int), Value.int IntKind.i64 (0 : Int),
                        Value.int IntKind.i64 (0 : Int)]
                      (0 : Nat)) ++
                  List.take (m * (3 : Nat)) ys))
              ((0 : Nat) + m))) =
        true,
      m ≤ d ∧ d ≤ (9223372036854775807 : Nat), m * (3 : Nat) ≤ List.length ys, Fl (List.take (m * (3 : Nat)) ys),
      Ints IntKind.i64 (List.take (m * (3 : Nat)) ys),
      decide (avLen (Av.sl (List.take (m * (3 : Nat)) ys) m) = (0 : Nat)) = false,
      logB (List.take (m * (3 : Nat)) ys) (avLen (Av.sl (List.take (m * (3 : Nat)) ys) m)) = true, Ints IntKind.i64 [],
      ([] : List Value) = [], (0 : Nat) = (0 : Nat), capBig + (5 : Nat) = capBig + (5 : Nat),
      avLen
            (Av.sl
              (List.take (((0 : Nat) + m) * (3 : Nat))
                (List.take (0 : Nat)
                    (zrep
                      [Value.int IntKind.i64 (0 : Int), Value.int IntKind.i64 (0 : Int),
                        Value.int IntKind.i64 (0 : Int)]
                      (0 : Nat)) ++
                  List.take (m * (3 : Nat)) ys))
              ((0 : Nat) + m)) *
          (12 : Nat) ≤
        List.length
          (ofL
            (List.take (((0 : Nat) + m) * (3 : Nat))
              (List.take (0 : Nat)
                  (zrep
                    [Value.int IntKind.i64 (0 : Int), Value.int IntKind.i64 (0 : Int), Value.int IntKind.i64 (0 : Int)]
                    (0 : Nat)) ++
                List.take (m * (3 : Nat)) ys))
            (0 : Nat)
            (avLen
              (Av.sl
                (List.take (((0 : Nat) + m) * (3 : Nat))
                  (List.take (0 : Nat)
                      (zrep
                        [Value.int IntKind.i64 (0 : Int), Value.int IntKind.i64 (0 : Int),
                          Value.int IntKind.i64 (0 : Int)]
                        (0 : Nat)) ++
                    List.take (m * (3 : Nat)) ys))
                ((0 : Nat) + m)))),
      (0 : Nat) < (1 : Nat),
      avLen
            (Av.sl
              (List.take (((0 : Nat) + m) * (3 : Nat))
                (List.take (0 : Nat)
                    (zrep
                      [Value.int IntKind.i64 (0 : Int), Value.int IntKind.i64 (0 : Int),
                        Value.int IntKind.i64 (0 : Int)]
                      (0 : Nat)) ++
                  List.take (m * (3 : Nat)) ys))
              ((0 : Nat) + m)) *
          (12 : Nat) ≤
        List.length
          (ofL
            (List.take (((0 : Nat) + m) * (3 : Nat))
              (List.take (0 : Nat)
                  (zrep
                    [Value.int IntKind.i64 (0 : Int), Value.int IntKind.i64 (0 : Int), Value.int IntKind.i64 (0 : Int)]
                    (0 : Nat)) ++
                List.take (m * (3 : Nat)) ys))
            (0 : Nat)
            (avLen
              (Av.sl
                (List.take (((0 : Nat) + m) * (3 : Nat))
                  (List.take (0 : Nat)
                      (zrep
                        [Value.int IntKind.i64 (0 : Int), Value.int IntKind.i64 (0 : Int),
                          Value.int IntKind.i64 (0 : Int)]
                        (0 : Nat)) ++
                    List.take (m * (3 : Nat)) ys))
                ((0 : Nat) + m)))),
      Fl
        (List.take
          (avLen
              (Av.sl
                (List.take (((0 : Nat) + m) * (3 : Nat))
                  (List.take (0 : Nat)
                      (zrep
                        [Value.int IntKind.i64 (0 : Int), Value.int IntKind.i64 (0 : Int),
                          Value.int IntKind.i64 (0 : Int)]
                        (0 : Nat)) ++
                    List.take (m * (3 : Nat)) ys))
                ((0 : Nat) + m)) *
            (12 : Nat))
          (ofL
            (List.take (((0 : Nat) + m) * (3 : Nat))
              (List.take (0 : Nat)
                  (zrep
                    [Value.int IntKind.i64 (0 : Int), Value.int IntKind.i64 (0 : Int), Value.int IntKind.i64 (0 : Int)]
                    (0 : Nat)) ++
                List.take (m * (3 : Nat)) ys))
            (0 : Nat)
            (avLen
              (Av.sl
                (List.take (((0 : Nat) + m) * (3 : Nat))
                  (List.take (0 : Nat)
                      (zrep
                        [Value.int IntKind.i64 (0 : Int), Value.int IntKind.i64 (0 : Int),
                          Value.int IntKind.i64 (0 : Int)]
                        (0 : Nat)) ++
                    List.take (m * (3 : Nat)) ys))
                ((0 : Nat) + m))))),
      capBig + (6 : Nat) = capBig + (6 : Nat),
      avLen (Av.sl (List.take (m * (3 : Nat)) ys) m) * (12 : Nat) ≤
        List.length (ofL (List.take (m * (3 : Nat)) ys) (0 : Nat) (avLen (Av.sl (List.take (m * (3 : Nat)) ys) m))),
      (0 : Nat) < (1 : Nat),
      avLen (Av.sl (List.take (m * (3 : Nat)) ys) m) * (12 : Nat) ≤
        List.length (ofL (List.take (m * (3 : Nat)) ys) (0 : Nat) (avLen (Av.sl (List.take (m * (3 : Nat)) ys) m))),
      Fl
        (List.take (avLen (Av.sl (List.take (m * (3 : Nat)) ys) m) * (12 : Nat))
          (ofL (List.take (m * (3 : Nat)) ys) (0 : Nat) (avLen (Av.sl (List.take (m * (3 : Nat)) ys) m)))),
      Byts
        (List.take
          (avLen
              (Av.sl
                (List.take (((0 : Nat) + m) * (3 : Nat))
                  (List.take (0 : Nat)
                      (zrep
                        [Value.int IntKind.i64 (0 : Int), Value.int IntKind.i64 (0 : Int),
                          Value.int IntKind.i64 (0 : Int)]
                        (0 : Nat)) ++
                    List.take (m * (3 : Nat)) ys))
                ((0 : Nat) + m)) *
            (12 : Nat))
          (ofL
            (List.take (((0 : Nat) + m) * (3 : Nat))
              (List.take (0 : Nat)
                  (zrep
                    [Value.int IntKind.i64 (0 : Int), Value.int IntKind.i64 (0 : Int), Value.int IntKind.i64 (0 : Int)]
                    (0 : Nat)) ++
                List.take (m * (3 : Nat)) ys))
            (0 : Nat)
            (avLen
              (Av.sl
                (List.take (((0 : Nat) + m) * (3 : Nat))
                  (List.take (0 : Nat)
                      (zrep
                        [Value.int IntKind.i64 (0 : Int), Value.int IntKind.i64 (0 : Int),
                          Value.int IntKind.i64 (0 : Int)]
                        (0 : Nat)) ++
                    List.take (m * (3 : Nat)) ys))
                ((0 : Nat) + m))))),
      Byts
        (List.take (avLen (Av.sl (List.take (m * (3 : Nat)) ys) m) * (12 : Nat))
          (ofL (List.take (m * (3 : Nat)) ys) (0 : Nat) (avLen (Av.sl (List.take (m * (3 : Nat)) ys) m)))),
      decide
          (intsOf
              (List.take
                (avLen
                    (Av.sl
                      (List.take (((0 : Nat) + m) * (3 : Nat))
                        (List.take (0 : Nat)
                            (zrep
                              [Value.int IntKind.i64 (0 : Int), Value.int IntKind.i64 (0 : Int),
                                Value.int IntKind.i64 (0 : Int)]
                              (0 : Nat)) ++
                          List.take (m * (3 : Nat)) ys))
                      ((0 : Nat) + m)) *
                  (12 : Nat))
                (ofL
                  (List.take (((0 : Nat) + m) * (3 : Nat))
                    (List.take (0 : Nat)
                        (zrep
                          [Value.int IntKind.i64 (0 : Int), Value.int IntKind.i64 (0 : Int),
                            Value.int IntKind.i64 (0 : Int)]
                          (0 : Nat)) ++
                      List.take (m * (3 : Nat)) ys))
                  (0 : Nat)
                  (avLen
                    (Av.sl
                      (List.take (((0 : Nat) + m) * (3 : Nat))
                        (List.take (0 : Nat)
                            (zrep
                              [Value.int IntKind.i64 (0 : Int), Value.int IntKind.i64 (0 : Int),
                                Value.int IntKind.i64 (0 : Int)]
                              (0 : Nat)) ++
                          List.take (m * (3 : Nat)) ys))
                      ((0 : Nat) + m))))) =
            intsOf
              (List.take (avLen (Av.sl (List.take (m * (3 : Nat)) ys) m) * (12 : Nat))
                (ofL (List.take (m * (3 : Nat)) ys) (0 : Nat) (avLen (Av.sl (List.take (m * (3 : Nat)) ys) m))))) =
        true,
      (0 : Nat) = (0 : Nat), capBig + (5 : Nat) = capBig + (5 : Nat),
      avLen
            (Av.sl
              (List.take (((0 : Nat) + m) * (3 : Nat))
                (List.take (0 : Nat)
                    (zrep
                      [Value.int IntKind.i64 (0 : Int), Value.int IntKind.i64 (0 : Int),
                        Value.int IntKind.i64 (0 : Int)]
                      (0 : Nat)) ++
                  List.take (m * (3 : Nat)) ys))
              ((0 : Nat) + m)) *
          (12 : Nat) ≤
        List.length
          (ofL
            (List.take (((0 : Nat) + m) * (3 : Nat))
              (List.take (0 : Nat)
                  (zrep
                    [Value.int IntKind.i64 (0 : Int), Value.int IntKind.i64 (0 : Int), Value.int IntKind.i64 (0 : Int)]
                    (0 : Nat)) ++
                List.take (m * (3 : Nat)) ys))
            (0 : Nat)
            (avLen
              (Av.sl
                (List.take (((0 : Nat) + m) * (3 : Nat))
                  (List.take (0 : Nat)
                      (zrep
                        [Value.int IntKind.i64 (0 : Int), Value.int IntKind.i64 (0 : Int),
                          Value.int IntKind.i64 (0 : Int)]
                        (0 : Nat)) ++
                    List.take (m * (3 : Nat)) ys))
                ((0 : Nat) + m)))),
      Byts
        (ofL
          (List.take (((0 : Nat) + m) * (3 : Nat))
            (List.take (0 : Nat)
                (zrep
                  [Value.int IntKind.i64 (0 : Int), Value.int IntKind.i64 (0 : Int), Value.int IntKind.i64 (0 : Int)]
                  (0 : Nat)) ++
              List.take (m * (3 : Nat)) ys))
          (0 : Nat)
          (avLen
            (Av.sl
              (List.take (((0 : Nat) + m) * (3 : Nat))
                (List.take (0 : Nat)
                    (zrep
                      [Value.int IntKind.i64 (0 : Int), Value.int IntKind.i64 (0 : Int),
                        Value.int IntKind.i64 (0 : Int)]
                      (0 : Nat)) ++
                  List.take (m * (3 : Nat)) ys))
              ((0 : Nat) + m)))),
      (3 : Nat) ≤ (9223372036854775807 : Nat), (3 : Nat) ≤ (3 : Nat), Fl (List.take (3 : Nat) ([] ++ mk3 (0 : Nat))),
      Byts (List.take (3 : Nat) ([] ++ mk3 (0 : Nat))), Byts [], (0 : Nat) = (0 : Nat), (3 : Nat) = (3 : Nat),
      (0 : Nat) ≤ (1099511627776 : Nat), true = true]) := by kernel_rfl
theorem lawT_one : TOneZ Try.prog (lawT Try.prog) := orTz_ok (mkT_one kept_ok) (orTz_ok over_one entT_one)
theorem all1_map {k : IntKind} : ∀ l : List Int, all1 (l.map (Value.int k)) = true
  | [] => rfl
  | x :: l => by simp only [List.map_cons, all1, all1_map l]; rfl
theorem Ints.all1 {k : IntKind} {xs : List Value} (h : Ints k xs) : all1 xs = true := by rw [h]; exact all1_map _
def LawRuns (P : Program) (f : FuncId) (args : List Value) (h : Hp) (nx : Nat) : Prop := ∃ h' nx' d, Tri P f args h nx (.bool true, h', nx', d)
theorem logs_run {xs ys : List Value} {n m c d : Nat} (hb : Byts xs) (hl : xs.length = n) (hc : n ≤ c ∧ c ≤ 9223372036854775807) (hy : Ints .i64 ys) (hm : ys.length = m * 3) (hd : m ≤ d ∧ d ≤ 9223372036854775807) :
    LawRuns Try.prog 3 [llA n c, llE m d] [(0, ⟨.old, xs⟩), (1, ⟨.old, ys⟩)] 2 := by
  have hX : ∀ md, XOkZ (llV md Try.prog) Try.prog := fun md => noXz_ok rfl
  have hT : ∀ md, TOkZ (llV md Try.prog) Try.prog := fun md => T_okV rfl lawT_one
  have hL : ∀ md, LOkZ (llV md Try.prog) Try.prog := fun md => noL_okV rfl
  have ex1 : xs.take n = xs := take_len hl
  have hml : (xs ++ mk3 n).length = n + 3 := by simp [mk3, hl]
  have ex2 : (xs ++ mk3 n).take n = xs := by rw [← hl, List.take_left]
  have ex3 : (xs ++ mk3 n).take (n + 3) = xs ++ mk3 n := take_len hml
  have ey1 : ys.take (m * 3) = ys := take_len hm
  have hol := ofL_len ys m 0
  have ey2 : (ofL ys 0 m).take (m * 12) = ofL ys 0 m := take_len hol
  have hel := entL_len xs (n / 12) 0
  have ey3 : (entL xs 0 (n / 12)).take (n / 12 * 3) = entL xs 0 (n / 12) := take_len hel
  have ez : (zrep [Value.int .i64 0, Value.int .i64 0, Value.int .i64 0] 0) = [] := rfl
  have f1 := fl_byts hb
  have b2 := hb.app (mk3_byts n)
  have f2 := fl_byts b2
  have f3 := hy.fl
  have a3 := hy.all1
  have i4 := entL_Ints xs (n / 12) 0
  have f4 := i4.fl
  have b5 := ofL_Byts ys m 0
  have f5 := fl_byts b5
  by_cases h1 : n ≤ 1000
  case neg =>
    refine ⟨_, _, _, run_tri (hX _) (hT _) (hL _) (ll_ss_l1 xs ys n c m d) ?_ rfl⟩
    simp only [Alls, decide_eq_true_eq]
    repeat' (first | with_reducible exact trivial | with_reducible apply And.intro)
    all_goals first | with_reducible assumption | omega | with_reducible rfl | (skip)
  by_cases h2 : m ≤ 80
  case neg =>
    refine ⟨_, _, _, run_tri (hX _) (hT _) (hL _) (ll_ss_l2 xs ys n c m d) ?_ rfl⟩
    simp only [Alls, decide_eq_true_eq, decide_eq_false_iff_not]
    repeat' (first | with_reducible exact trivial | with_reducible apply And.intro)
    all_goals first | with_reducible assumption | omega | with_reducible rfl | (skip)
  have g1 : decide ((n : Int) > 1000) = false := by simp only [decide_eq_false_iff_not]; omega
  have g2 : decide ((m : Int) > 80) = false := by simp only [decide_eq_false_iff_not]; omega
  cases k0 : decide (n % 12 = 0)
  · cases z : decide (m = 0)
    · cases w : logB ys m
      ·
        refine ⟨_, _, _, run_tri (hX _) (hT _) (hL _) (ll_b_bad0 xs ys n c m d) ?_ rfl⟩
        simp only [Alls, avLen, Nat.zero_add, List.take_zero, List.drop_zero, List.nil_append, List.length_nil, ex1, ex2, ex3, ey1, ey2, ey3, ez, Nat.zero_mul, Nat.zero_div, zrep, splice]
        repeat' (first | with_reducible exact trivial | with_reducible apply And.intro)
        all_goals first | with_reducible assumption | omega | with_reducible rfl | (first | exact k0 | exact k1 | exact z | exact Nat.pos_of_ne_zero (of_decide_eq_false z) | exact decide_eq_true rfl | exact Byts.nil | exact fl_byts (mk3_byts 0) | exact mk3_byts 0 | exact Fl.of rfl | rfl)
      ·
        refine ⟨_, _, _, run_tri (hX _) (hT _) (hL _) (ll_g_bad0 xs ys n c m d) ?_ rfl⟩
        simp only [Alls, avLen, Nat.zero_add, List.take_zero, List.drop_zero, List.nil_append, List.length_nil, ex1, ex2, ex3, ey1, ey2, ey3, ez, Nat.zero_mul, Nat.zero_div, zrep, splice]
        repeat' (first | with_reducible exact trivial | with_reducible apply And.intro)
        all_goals first | with_reducible assumption | omega | with_reducible rfl | (first | exact k0 | exact k1 | exact z | exact Nat.pos_of_ne_zero (of_decide_eq_false z) | exact decide_eq_true rfl | exact Byts.nil | exact fl_byts (mk3_byts 0) | exact mk3_byts 0 | exact Fl.of rfl | rfl)
    · obtain rfl : m = 0 := by simpa using z
      refine ⟨_, _, _, run_tri (hX _) (hT _) (hL _) (ll_e_bad0 xs ys n c d) ?_ rfl⟩
      simp only [Alls, avLen, Nat.zero_add, List.take_zero, List.drop_zero, List.nil_append, List.length_nil, ex1, ex2, ex3, ey1, ey2, ey3, ez, Nat.zero_mul, Nat.zero_div, zrep, splice]
      repeat' (first | with_reducible exact trivial | with_reducible apply And.intro)
      all_goals first | with_reducible assumption | omega | with_reducible rfl | (first | exact k0 | exact k1 | exact z | exact Nat.pos_of_ne_zero (of_decide_eq_false z) | exact decide_eq_true rfl | exact Byts.nil | exact fl_byts (mk3_byts 0) | exact mk3_byts 0 | exact Fl.of rfl | rfl)
  have k0' : n % 12 = 0 := by simpa using k0
  cases k1 : decide (n = 0)
  · cases k2 : enOk xs n
    · cases z : decide (m = 0)
      · cases w : logB ys m
        ·
          refine ⟨_, _, _, run_tri (hX _) (hT _) (hL _) (ll_b_not0 xs ys n c m d) ?_ rfl⟩
          simp only [Alls, avLen, Nat.zero_add, List.take_zero, List.drop_zero, List.nil_append, List.length_nil, ex1, ex2, ex3, ey1, ey2, ey3, ez, Nat.zero_mul, Nat.zero_div, zrep, splice]
          repeat' (first | with_reducible exact trivial | with_reducible apply And.intro)
          all_goals first | with_reducible assumption | omega | with_reducible rfl | (first | exact k0 | exact k1 | exact z | exact Nat.pos_of_ne_zero (of_decide_eq_false z) | exact decide_eq_true rfl | exact Byts.nil | exact fl_byts (mk3_byts 0) | exact mk3_byts 0 | exact Fl.of rfl | rfl)
        ·
          refine ⟨_, _, _, run_tri (hX _) (hT _) (hL _) (ll_g_not0 xs ys n c m d) ?_ rfl⟩
          simp only [Alls, avLen, Nat.zero_add, List.take_zero, List.drop_zero, List.nil_append, List.length_nil, ex1, ex2, ex3, ey1, ey2, ey3, ez, Nat.zero_mul, Nat.zero_div, zrep, splice]
          repeat' (first | with_reducible exact trivial | with_reducible apply And.intro)
          all_goals first | with_reducible assumption | omega | with_reducible rfl | (first | exact k0 | exact k1 | exact z | exact Nat.pos_of_ne_zero (of_decide_eq_false z) | exact decide_eq_true rfl | exact Byts.nil | exact fl_byts (mk3_byts 0) | exact mk3_byts 0 | exact Fl.of rfl | rfl)
      · obtain rfl : m = 0 := by simpa using z
        refine ⟨_, _, _, run_tri (hX _) (hT _) (hL _) (ll_e_not0 xs ys n c d) ?_ rfl⟩
        simp only [Alls, avLen, Nat.zero_add, List.take_zero, List.drop_zero, List.nil_append, List.length_nil, ex1, ex2, ex3, ey1, ey2, ey3, ez, Nat.zero_mul, Nat.zero_div, zrep, splice]
        repeat' (first | with_reducible exact trivial | with_reducible apply And.intro)
        all_goals first | with_reducible assumption | omega | with_reducible rfl | (first | exact k0 | exact k1 | exact z | exact Nat.pos_of_ne_zero (of_decide_eq_false z) | exact decide_eq_true rfl | exact Byts.nil | exact fl_byts (mk3_byts 0) | exact mk3_byts 0 | exact Fl.of rfl | rfl)
    · cases z : decide (m = 0)
      · cases w : logB ys m
        ·
          refine ⟨_, _, _, run_tri (hX _) (hT _) (hL _) (ll_b_ok0 xs ys n c m d) ?_ rfl⟩
          simp only [Alls, avLen, Nat.zero_add, List.take_zero, List.drop_zero, List.nil_append, List.length_nil, ex1, ex2, ex3, ey1, ey2, ey3, ez, Nat.zero_mul, Nat.zero_div, zrep, splice]
          repeat' (first | with_reducible exact trivial | with_reducible apply And.intro)
          all_goals first | with_reducible assumption | omega | with_reducible rfl | (first | exact k0 | exact k1 | exact z | exact Nat.pos_of_ne_zero (of_decide_eq_false z) | exact decide_eq_true rfl | exact Byts.nil | exact fl_byts (mk3_byts 0) | exact mk3_byts 0 | exact Fl.of rfl | rfl)
        ·
          refine ⟨_, _, _, run_tri (hX _) (hT _) (hL _) (ll_g_ok0 xs ys n c m d) ?_ rfl⟩
          simp only [Alls, avLen, Nat.zero_add, List.take_zero, List.drop_zero, List.nil_append, List.length_nil, ex1, ex2, ex3, ey1, ey2, ey3, ez, Nat.zero_mul, Nat.zero_div, zrep, splice]
          repeat' (first | with_reducible exact trivial | with_reducible apply And.intro)
          all_goals first | with_reducible assumption | omega | with_reducible rfl | (first | exact k0 | exact k1 | exact z | exact Nat.pos_of_ne_zero (of_decide_eq_false z) | exact decide_eq_true rfl | exact Byts.nil | exact fl_byts (mk3_byts 0) | exact mk3_byts 0 | exact Fl.of rfl | rfl)
      · obtain rfl : m = 0 := by simpa using z
        refine ⟨_, _, _, run_tri (hX _) (hT _) (hL _) (ll_e_ok0 xs ys n c d) ?_ rfl⟩
        simp only [Alls, avLen, Nat.zero_add, List.take_zero, List.drop_zero, List.nil_append, List.length_nil, ex1, ex2, ex3, ey1, ey2, ey3, ez, Nat.zero_mul, Nat.zero_div, zrep, splice]
        repeat' (first | with_reducible exact trivial | with_reducible apply And.intro)
        all_goals first | with_reducible assumption | omega | with_reducible rfl | (first | exact k0 | exact k1 | exact z | exact Nat.pos_of_ne_zero (of_decide_eq_false z) | exact decide_eq_true rfl | exact Byts.nil | exact fl_byts (mk3_byts 0) | exact mk3_byts 0 | exact Fl.of rfl | rfl)
  · have k1' : n = 0 := by simpa using k1
    cases z : decide (m = 0)
    · cases w : logB ys m
      ·
        refine ⟨_, _, _, run_tri (hX _) (hT _) (hL _) (ll_b_nil0 xs ys n c m d) ?_ rfl⟩
        simp only [Alls, avLen, Nat.zero_add, List.take_zero, List.drop_zero, List.nil_append, List.length_nil, ex1, ex2, ex3, ey1, ey2, ey3, ez, Nat.zero_mul, Nat.zero_div, zrep, splice]
        repeat' (first | with_reducible exact trivial | with_reducible apply And.intro)
        all_goals first | with_reducible assumption | omega | with_reducible rfl | (first | exact k0 | exact k1 | exact z | exact Nat.pos_of_ne_zero (of_decide_eq_false z) | exact decide_eq_true rfl | exact Byts.nil | exact fl_byts (mk3_byts 0) | exact mk3_byts 0 | exact Fl.of rfl | rfl)
      ·
        refine ⟨_, _, _, run_tri (hX _) (hT _) (hL _) (ll_g_nil0 xs ys n c m d) ?_ rfl⟩
        simp only [Alls, avLen, Nat.zero_add, List.take_zero, List.drop_zero, List.nil_append, List.length_nil, ex1, ex2, ex3, ey1, ey2, ey3, ez, Nat.zero_mul, Nat.zero_div, zrep, splice]
        repeat' (first | with_reducible exact trivial | with_reducible apply And.intro)
        all_goals first | with_reducible assumption | omega | with_reducible rfl | (first | exact k0 | exact k1 | exact z | exact Nat.pos_of_ne_zero (of_decide_eq_false z) | exact decide_eq_true rfl | exact Byts.nil | exact fl_byts (mk3_byts 0) | exact mk3_byts 0 | exact Fl.of rfl | rfl)
    · obtain rfl : m = 0 := by simpa using z
      refine ⟨_, _, _, run_tri (hX _) (hT _) (hL _) (ll_e_nil0 xs ys n c d) ?_ rfl⟩
      simp only [Alls, avLen, Nat.zero_add, List.take_zero, List.drop_zero, List.nil_append, List.length_nil, ex1, ex2, ex3, ey1, ey2, ey3, ez, Nat.zero_mul, Nat.zero_div, zrep, splice]
      repeat' (first | with_reducible exact trivial | with_reducible apply And.intro)
      all_goals first | with_reducible assumption | omega | with_reducible rfl | (first | exact k0 | exact k1 | exact z | exact Nat.pos_of_ne_zero (of_decide_eq_false z) | exact decide_eq_true rfl | exact Byts.nil | exact fl_byts (mk3_byts 0) | exact mk3_byts 0 | exact Fl.of rfl | rfl)
theorem logs_run_n {xs : List Value} {n c : Nat} (hb : Byts xs) (hl : xs.length = n) (hc : n ≤ c ∧ c ≤ 9223372036854775807) :
    LawRuns Try.prog 3 [llA n c, .slice none 0 0] [(0, ⟨.old, xs⟩)] 2 := by
  have hX : ∀ md, XOkZ (llV md Try.prog) Try.prog := fun md => noXz_ok rfl
  have hT : ∀ md, TOkZ (llV md Try.prog) Try.prog := fun md => T_okV rfl lawT_one
  have hL : ∀ md, LOkZ (llV md Try.prog) Try.prog := fun md => noL_okV rfl
  have ex1 : xs.take n = xs := take_len hl
  have hml : (xs ++ mk3 n).length = n + 3 := by simp [mk3, hl]
  have ex2 : (xs ++ mk3 n).take n = xs := by rw [← hl, List.take_left]
  have ex3 : (xs ++ mk3 n).take (n + 3) = xs ++ mk3 n := take_len hml
  have ey1 : True := trivial
  have ey2 : True := trivial
  have hel := entL_len xs (n / 12) 0
  have ey3 : (entL xs 0 (n / 12)).take (n / 12 * 3) = entL xs 0 (n / 12) := take_len hel
  have ez : (zrep [Value.int .i64 0, Value.int .i64 0, Value.int .i64 0] 0) = [] := rfl
  have f1 := fl_byts hb
  have b2 := hb.app (mk3_byts n)
  have f2 := fl_byts b2
  have i4 := entL_Ints xs (n / 12) 0
  have f4 := i4.fl
  by_cases h1 : n ≤ 1000
  case neg =>
    refine ⟨_, _, _, run_tri (hX _) (hT _) (hL _) (ll_sn_l1 xs n c) ?_ rfl⟩
    simp only [Alls, decide_eq_true_eq]
    repeat' (first | with_reducible exact trivial | with_reducible apply And.intro)
    all_goals first | with_reducible assumption | omega | with_reducible rfl | (skip)
  have g1 : decide ((n : Int) > 1000) = false := by simp only [decide_eq_false_iff_not]; omega
  cases k0 : decide (n % 12 = 0)
  ·
    refine ⟨_, _, _, run_tri (hX _) (hT _) (hL _) (ll_n_bad0 xs n c) ?_ rfl⟩
    simp only [Alls, avLen, Nat.zero_add, List.take_zero, List.drop_zero, List.nil_append, List.length_nil, ex1, ex2, ex3, ey1, ey2, ey3, ez, Nat.zero_mul, Nat.zero_div, zrep, splice]
    repeat' (first | with_reducible exact trivial | with_reducible apply And.intro)
    all_goals first | with_reducible assumption | omega | with_reducible rfl | (first | exact k0 | exact k1 | exact z | exact Nat.pos_of_ne_zero (of_decide_eq_false z) | exact decide_eq_true rfl | exact Byts.nil | exact fl_byts (mk3_byts 0) | exact mk3_byts 0 | exact Fl.of rfl | rfl)
  have k0' : n % 12 = 0 := by simpa using k0
  cases k1 : decide (n = 0)
  · cases k2 : enOk xs n
    ·
      refine ⟨_, _, _, run_tri (hX _) (hT _) (hL _) (ll_n_not0 xs n c) ?_ rfl⟩
      simp only [Alls, avLen, Nat.zero_add, List.take_zero, List.drop_zero, List.nil_append, List.length_nil, ex1, ex2, ex3, ey1, ey2, ey3, ez, Nat.zero_mul, Nat.zero_div, zrep, splice]
      repeat' (first | with_reducible exact trivial | with_reducible apply And.intro)
      all_goals first | with_reducible assumption | omega | with_reducible rfl | (first | exact k0 | exact k1 | exact z | exact Nat.pos_of_ne_zero (of_decide_eq_false z) | exact decide_eq_true rfl | exact Byts.nil | exact fl_byts (mk3_byts 0) | exact mk3_byts 0 | exact Fl.of rfl | rfl)
    ·
      refine ⟨_, _, _, run_tri (hX _) (hT _) (hL _) (ll_n_ok0 xs n c) ?_ rfl⟩
      simp only [Alls, avLen, Nat.zero_add, List.take_zero, List.drop_zero, List.nil_append, List.length_nil, ex1, ex2, ex3, ey1, ey2, ey3, ez, Nat.zero_mul, Nat.zero_div, zrep, splice]
      repeat' (first | with_reducible exact trivial | with_reducible apply And.intro)
      all_goals first | with_reducible assumption | omega | with_reducible rfl | (first | exact k0 | exact k1 | exact z | exact Nat.pos_of_ne_zero (of_decide_eq_false z) | exact decide_eq_true rfl | exact Byts.nil | exact fl_byts (mk3_byts 0) | exact mk3_byts 0 | exact Fl.of rfl | rfl)
  · have k1' : n = 0 := by simpa using k1
    refine ⟨_, _, _, run_tri (hX _) (hT _) (hL _) (ll_n_nil0 xs n c) ?_ rfl⟩
    simp only [Alls, avLen, Nat.zero_add, List.take_zero, List.drop_zero, List.nil_append, List.length_nil, ex1, ex2, ex3, ey1, ey2, ey3, ez, Nat.zero_mul, Nat.zero_div, zrep, splice]
    repeat' (first | with_reducible exact trivial | with_reducible apply And.intro)
    all_goals first | with_reducible assumption | omega | with_reducible rfl | (first | exact k0 | exact k1 | exact z | exact Nat.pos_of_ne_zero (of_decide_eq_false z) | exact decide_eq_true rfl | exact Byts.nil | exact fl_byts (mk3_byts 0) | exact mk3_byts 0 | exact Fl.of rfl | rfl)
theorem logs_n_run {ys : List Value} {m d : Nat} (hy : Ints .i64 ys) (hm : ys.length = m * 3) (hd : m ≤ d ∧ d ≤ 9223372036854775807) :
    LawRuns Try.prog 3 [.slice none 0 0, llE m d] [(1, ⟨.old, ys⟩)] 2 := by
  have hX : ∀ md, XOkZ (llV md Try.prog) Try.prog := fun md => noXz_ok rfl
  have hT : ∀ md, TOkZ (llV md Try.prog) Try.prog := fun md => T_okV rfl lawT_one
  have hL : ∀ md, LOkZ (llV md Try.prog) Try.prog := fun md => noL_okV rfl
  have ex1 : True := trivial
  have ex2 : True := trivial
  have ex3 : True := trivial
  have ey1 : ys.take (m * 3) = ys := take_len hm
  have hol := ofL_len ys m 0
  have ey2 : (ofL ys 0 m).take (m * 12) = ofL ys 0 m := take_len hol
  have ey3 : True := trivial
  have ez : (zrep [Value.int .i64 0, Value.int .i64 0, Value.int .i64 0] 0) = [] := rfl
  have f3 := hy.fl
  have a3 := hy.all1
  have b5 := ofL_Byts ys m 0
  have f5 := fl_byts b5
  by_cases h2 : m ≤ 80
  case neg =>
    refine ⟨_, _, _, run_tri (hX _) (hT _) (hL _) (ll_ns_l2 ys m d) ?_ rfl⟩
    simp only [Alls, decide_eq_true_eq]
    repeat' (first | with_reducible exact trivial | with_reducible apply And.intro)
    all_goals first | with_reducible assumption | omega | with_reducible rfl | (skip)
  have g2 : decide ((m : Int) > 80) = false := by simp only [decide_eq_false_iff_not]; omega
  cases z : decide (m = 0)
  · cases w : logB ys m
    ·
      refine ⟨_, _, _, run_tri (hX _) (hT _) (hL _) (ll_b_n ys m d) ?_ rfl⟩
      simp only [Alls, avLen, Nat.zero_add, List.take_zero, List.drop_zero, List.nil_append, List.length_nil, ex1, ex2, ex3, ey1, ey2, ey3, ez, Nat.zero_mul, Nat.zero_div, zrep, splice]
      repeat' (first | with_reducible exact trivial | with_reducible apply And.intro)
      all_goals first | with_reducible assumption | omega | with_reducible rfl | (first | exact k0 | exact k1 | exact z | exact Nat.pos_of_ne_zero (of_decide_eq_false z) | exact decide_eq_true rfl | exact Byts.nil | exact fl_byts (mk3_byts 0) | exact mk3_byts 0 | exact Fl.of rfl | rfl)
    ·
      refine ⟨_, _, _, run_tri (hX _) (hT _) (hL _) (ll_g_n ys m d) ?_ rfl⟩
      simp only [Alls, avLen, Nat.zero_add, List.take_zero, List.drop_zero, List.nil_append, List.length_nil, ex1, ex2, ex3, ey1, ey2, ey3, ez, Nat.zero_mul, Nat.zero_div, zrep, splice]
      repeat' (first | with_reducible exact trivial | with_reducible apply And.intro)
      all_goals first | with_reducible assumption | omega | with_reducible rfl | (first | exact k0 | exact k1 | exact z | exact Nat.pos_of_ne_zero (of_decide_eq_false z) | exact decide_eq_true rfl | exact Byts.nil | exact fl_byts (mk3_byts 0) | exact mk3_byts 0 | exact Fl.of rfl | rfl)
  · obtain rfl : m = 0 := by simpa using z
    refine ⟨_, _, _, run_tri (hX _) (hT _) (hL _) (ll_e_n ys d) ?_ rfl⟩
    simp only [Alls, avLen, Nat.zero_add, List.take_zero, List.drop_zero, List.nil_append, List.length_nil, ex1, ex2, ex3, ey1, ey2, ey3, ez, Nat.zero_mul, Nat.zero_div, zrep, splice]
    repeat' (first | with_reducible exact trivial | with_reducible apply And.intro)
    all_goals first | with_reducible assumption | omega | with_reducible rfl | (first | exact k0 | exact k1 | exact z | exact Nat.pos_of_ne_zero (of_decide_eq_false z) | exact decide_eq_true rfl | exact Byts.nil | exact fl_byts (mk3_byts 0) | exact mk3_byts 0 | exact Fl.of rfl | rfl)
theorem logs_n_n : LawRuns Try.prog 3 [.slice none 0 0, .slice none 0 0] [] 2 := by
  have hX : ∀ md, XOkZ (llV md Try.prog) Try.prog := fun md => noXz_ok rfl
  have hT : ∀ md, TOkZ (llV md Try.prog) Try.prog := fun md => T_okV rfl lawT_one
  have hL : ∀ md, LOkZ (llV md Try.prog) Try.prog := fun md => noL_okV rfl
  refine ⟨_, _, _, run_tri (hX _) (hT _) (hL _) ll_n_n ?_ rfl⟩
  simp only [Alls]
  repeat' (first | with_reducible exact trivial | with_reducible apply And.intro)
  all_goals first | with_reducible assumption | omega | with_reducible rfl | (first | exact Byts.nil | exact fl_byts (mk3_byts 0) | exact mk3_byts 0 | exact Fl.of rfl | rfl)
/-- The statement's own call. -/
theorem logs_any {W : World} {v0 v1 : Value} {a0 a1 : Av} {q0 q1 : Option (Addr × Nat)} {z0 z1 : List (List Int)} (h0 : (a0 = .fl (.slice none 0 0) ∧ z0 = []) ∨ a0 = .sl (z0.map (cellsK [.u8])).flatten z0.length) (h1 : (a1 = .fl (.slice none 0 0) ∧ z1 = []) ∨ a1 = .sl (z1.map (cellsK [.i64, .i64, .i64])).flatten z1.length)
    (A0 : AvAt a0 v0 q0) (A1 : AvAt a1 v1 q1) (L0 : Lies W a0 q0) (L1 : Lies W a1 q1) (w0 : ∀ zs ∈ z0, AllWf [.u8] zs) (w1 : ∀ zs ∈ z1, AllWf [.i64, .i64, .i64] zs) :
    Calls Try.prog 3 #[v0, v1] W fun e w' => e = .returned (.bool true) ∧ Ext W w' := by
  have b0 := flat_Byts w0
  have l0 : ((z0.map (cellsK [.u8])).flatten).length = z0.length := by rw [flat_len w0]; simp
  have b1 : Ints .i64 (z1.map (cellsK [.i64, .i64, .i64])).flatten := flat_Ints (m := 3) w1
  have l1 : ((z1.map (cellsK [.i64, .i64, .i64])).flatten).length = z1.length * 3 := flat_len w1
  refine calls_sl (avs := [a0, a1]) (vs := [v0, v1]) (ps := [q0, q1]) ⟨A0, A1, trivial⟩ ⟨L0, L1, trivial⟩ (fun σ => rfl) fun cs hcs => ?_
  obtain ⟨c, d, rfl⟩ := caps2 hcs
  rcases h0 with ⟨rfl, rfl⟩ | rfl <;> rcases h1 with ⟨rfl, rfl⟩ | rfl
  · exact logs_n_n
  · exact logs_n_run b1 l1 hcs.1
  · exact logs_run_n b0 l0 hcs.1
  · exact logs_run b0 l0 hcs.1 b1 l1 hcs.2.1
end Go.Proofs.Ytcmcelilollchaa
