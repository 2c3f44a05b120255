/-
  Chapter 23: the statement MessageIDs, run at any lists.
-/
import Derived.Test.YtcmcelilollchaaMsgD
import Derived.Test.YtcmcelilollchaaOpenSl
namespace Go.Proofs.Ytcmcelilollchaa
set_option linter.unusedSimpArgs false
set_option linter.unusedVariables false
set_option linter.unusedSectionVars false
open Go Go.RowKit

def ilawT (P : Program) : TFun := orTz (mkT 16 [.c 1, .s 1] gKept) (orTz overT idsT)
def illV (md : Nat) (P : Program) : Tv := ⟨ilawT P, noXz, noL, fun f => bif Nat.beq f 6 then [16, 20, 58, 70] else [], allSy 6 [(37, md)], fun _ => [], fun _ => 0⟩
def illA (n c : Nat) : Value := .slice (some ⟨0, 0, none⟩) n c
def illE (m d : Nat) : Value := .slice (some ⟨1, 0, none⟩) m d
theorem li_ss_l1 (xs ys : List Value) (n c m d : Nat) : runZ (illV 0 Try.prog) Try.prog 5 6 [illA n c, illE m d] [(0, ⟨.old, xs⟩), (1, ⟨.old, ys⟩)] 2 [true] =
Res.ok
  ((Value.bool true, [((0 : Nat), Rw.mk Kd.old xs), ((1 : Nat), Rw.mk Kd.old ys)], (2 : Nat), []), [],
    [decide ((↑n : Int) > (200 : Int)) = true]) := by kernel_rfl
theorem li_ss_l2 (xs ys : List Value) (n c m d : Nat) : runZ (illV 0 Try.prog) Try.prog 5 6 [illA n c, illE m d] [(0, ⟨.old, xs⟩), (1, ⟨.old, ys⟩)] 2 [false, true] =
Res.ok
  ((Value.bool true, [((0 : Nat), Rw.mk Kd.old xs), ((1 : Nat), Rw.mk Kd.old ys)], (2 : Nat), []), [],
    [decide ((↑n : Int) > (200 : Int)) = false, decide ((↑m : Int) > (20 : Int)) = true]) := by kernel_rfl
theorem li_ns_l2 (ys : List Value) (m d : Nat) : runZ (illV 0 Try.prog) Try.prog 5 6 [.slice none 0 0, illE m d] [(1, ⟨.old, ys⟩)] 2 [false, true] =
Res.ok
  ((Value.bool true, [((1 : Nat), Rw.mk Kd.old ys)], (2 : Nat), []), [],
    [false = false, decide ((↑m : Int) > (20 : Int)) = true]) := by kernel_rfl
theorem li_sn_l1 (xs : List Value) (n c : Nat) : runZ (illV 0 Try.prog) Try.prog 5 6 [illA n c, .slice none 0 0] [(0, ⟨.old, xs⟩)] 2 [true] =
Res.ok
  ((Value.bool true, [((0 : Nat), Rw.mk Kd.old xs)], (2 : Nat), []), [], [decide ((↑n : Int) > (200 : Int)) = true]) := by kernel_rfl
theorem li_n_bad0 (xs : List Value) (n c : Nat) : runZ (illV 4 Try.prog) Try.prog 5 6 [illA n c, .slice none 0 0] [(0, ⟨.old, xs⟩)] 2 ([false, false] ++ [true] ++ [true] ++ [false, true] ++ [false, true] ++ [true, true]) =
Res.ok
  ((Value.bool true, [((0 : Nat), Rw.mk Kd.old xs)], (4 : Nat), []), [],
    [decide ((↑n : Int) > (200 : Int)) = false, false = false, n ≤ c ∧ c ≤ (9223372036854775807 : Nat),
      n ≤ List.length xs, Fl (List.take n xs), Byts (List.take n xs),
      avLen (Av.sl (List.take n xs) n) ≤ (1099511627776 : Nat),
      avLen (Av.sl (List.take n xs) n) ≤ avLen (Av.sl (List.take n xs) n) + (3 : Nat) ∧
        avLen (Av.sl (List.take n xs) n) + (3 : Nat) ≤ (9223372036854775807 : Nat),
      avLen (Av.sl (List.take n xs) n) ≤ List.length (List.take n xs ++ mk3 (avLen (Av.sl (List.take n xs) n))),
      Fl (List.take (avLen (Av.sl (List.take n xs) n)) (List.take n xs ++ mk3 (avLen (Av.sl (List.take n xs) n)))),
      decide
          (avLen
                (Av.sl
                  (List.take (avLen (Av.sl (List.take n xs) n))
                    (List.take n xs ++ mk3 (avLen (Av.sl (List.take n xs) n))))
                  (avLen (Av.sl (List.take n xs) n))) %
              (16 : Nat) =
            (0 : Nat)) =
        false,
      n ≤ c ∧ c ≤ (9223372036854775807 : Nat), n ≤ List.length xs, Fl (List.take n xs),
      decide (avLen (Av.sl (List.take n xs) n) % (16 : Nat) = (0 : Nat)) = false,
      (0 : Nat) ≤ (0 : Nat) ∧ (0 : Nat) ≤ (9223372036854775807 : Nat), (0 : Nat) ≤ (0 : Nat),
      Fl
        (List.take (0 : Nat)
          (splice (zrep [Value.int IntKind.u64 (0 : Int), Value.int IntKind.u64 (0 : Int)] (0 : Nat)) (0 : Nat) [])),
      (0 : Nat) = (0 : Nat), (0 : Nat) = (0 : Nat), Ints IntKind.u64 [], ([] : List Value) = [], (0 : Nat) = (0 : Nat), Byts [],
      Byts [], true = true, avLen (Av.sl (List.take n xs) n) + (3 : Nat) ≤ (9223372036854775807 : Nat),
      avLen (Av.sl (List.take n xs) n) + (3 : Nat) ≤
        List.length (List.take n xs ++ mk3 (avLen (Av.sl (List.take n xs) n))),
      Fl
        (List.take (avLen (Av.sl (List.take n xs) n) + (3 : Nat))
          (List.take n xs ++ mk3 (avLen (Av.sl (List.take n xs) n)))),
      n ≤ c ∧ c ≤ (9223372036854775807 : Nat), n ≤ List.length xs, Fl (List.take n xs),
      Byts
        (List.take (avLen (Av.sl (List.take n xs) n) + (3 : Nat))
          (List.take n xs ++ mk3 (avLen (Av.sl (List.take n xs) n)))),
      Byts (List.take n xs), avLen (Av.sl (List.take n xs) n) = avLen (Av.sl (List.take n xs) n),
      avLen (Av.sl (List.take n xs) n) + (3 : Nat) = avLen (Av.sl (List.take n xs) n) + (3 : Nat),
      avLen (Av.sl (List.take n xs) n) ≤ (1099511627776 : Nat),
      decide
          (intsOf
              (List.take (avLen (Av.sl (List.take n xs) n) + (3 : Nat))
                (List.take n xs ++ mk3 (avLen (Av.sl (List.take n xs) n)))) =
            intsOf (List.take n xs ++ mk3 (avLen (Av.sl (List.take n xs) n)))) =
        true]) := by kernel_rfl
theorem li_e_bad0 (xs ys : List Value) (n c d : Nat) : runZ (illV 4 Try.prog) Try.prog 5 6 [illA n c, illE 0 d] [(0, ⟨.old, xs⟩), (1, ⟨.old, ys⟩)] 2 ([false, false] ++ [true] ++ [true] ++ [false, true] ++ [false, true] ++ [true, true]) =
Res.ok
  ((Value.bool true, [((0 : Nat), Rw.mk Kd.old xs), ((1 : Nat), Rw.mk Kd.old ys)], (4 : Nat), []), [],
    [decide ((↑n : Int) > (200 : Int)) = false, false = false, n ≤ c ∧ c ≤ (9223372036854775807 : Nat),
      n ≤ List.length xs, Fl (List.take n xs), Byts (List.take n xs),
      avLen (Av.sl (List.take n xs) n) ≤ (1099511627776 : Nat),
      avLen (Av.sl (List.take n xs) n) ≤ avLen (Av.sl (List.take n xs) n) + (3 : Nat) ∧
        avLen (Av.sl (List.take n xs) n) + (3 : Nat) ≤ (9223372036854775807 : Nat),
      avLen (Av.sl (List.take n xs) n) ≤ List.length (List.take n xs ++ mk3 (avLen (Av.sl (List.take n xs) n))),
      Fl (List.take (avLen (Av.sl (List.take n xs) n)) (List.take n xs ++ mk3 (avLen (Av.sl (List.take n xs) n)))),
      decide
          (avLen
                (Av.sl
                  (List.take (avLen (Av.sl (List.take n xs) n))
                    (List.take n xs ++ mk3 (avLen (Av.sl (List.take n xs) n))))
                  (avLen (Av.sl (List.take n xs) n))) %
              (16 : Nat) =
            (0 : Nat)) =
        false,
      n ≤ c ∧ c ≤ (9223372036854775807 : Nat), n ≤ List.length xs, Fl (List.take n xs),
      decide (avLen (Av.sl (List.take n xs) n) % (16 : Nat) = (0 : Nat)) = false,
      (0 : Nat) ≤ (0 : Nat) ∧ (0 : Nat) ≤ (9223372036854775807 : Nat), (0 : Nat) ≤ (0 : Nat),
      Fl
        (List.take (0 : Nat)
          (splice (zrep [Value.int IntKind.u64 (0 : Int), Value.int IntKind.u64 (0 : Int)] (0 : Nat)) (0 : Nat)
            (List.take (0 : Nat) (List.drop (0 : Nat) ys)))),
      (0 : Nat) = (0 : Nat), (0 : Nat) ≤ d ∧ d ≤ (9223372036854775807 : Nat), (0 : Nat) ≤ List.length ys,
      Fl (List.take (0 : Nat) ys), (0 : Nat) = (0 : Nat), Ints IntKind.u64 [], ([] : List Value) = [], (0 : Nat) = (0 : Nat), Byts [],
      Byts [], true = true, avLen (Av.sl (List.take n xs) n) + (3 : Nat) ≤ (9223372036854775807 : Nat),
      avLen (Av.sl (List.take n xs) n) + (3 : Nat) ≤
        List.length (List.take n xs ++ mk3 (avLen (Av.sl (List.take n xs) n))),
      Fl
        (List.take (avLen (Av.sl (List.take n xs) n) + (3 : Nat))
          (List.take n xs ++ mk3 (avLen (Av.sl (List.take n xs) n)))),
      n ≤ c ∧ c ≤ (9223372036854775807 : Nat), n ≤ List.length xs, Fl (List.take n xs),
      Byts
        (List.take (avLen (Av.sl (List.take n xs) n) + (3 : Nat))
          (List.take n xs ++ mk3 (avLen (Av.sl (List.take n xs) n)))),
      Byts (List.take n xs), avLen (Av.sl (List.take n xs) n) = avLen (Av.sl (List.take n xs) n),
      avLen (Av.sl (List.take n xs) n) + (3 : Nat) = avLen (Av.sl (List.take n xs) n) + (3 : Nat),
      avLen (Av.sl (List.take n xs) n) ≤ (1099511627776 : Nat),
      decide
          (intsOf
              (List.take (avLen (Av.sl (List.take n xs) n) + (3 : Nat))
                (List.take n xs ++ mk3 (avLen (Av.sl (List.take n xs) n)))) =
            intsOf (List.take n xs ++ mk3 (avLen (Av.sl (List.take n xs) n)))) =
        true]) := by kernel_rfl
theorem li_b_bad0 (xs ys : List Value) (n c m d : Nat) : runZ (illV 2 Try.prog) Try.prog 5 6 [illA n c, illE m d] [(0, ⟨.old, xs⟩), (1, ⟨.old, ys⟩)] 2 ([false, false] ++ [true] ++ [true] ++ [true] ++ [true] ++ [true, true]) =
Res.ok
  ((Value.bool true, [((0 : Nat), Rw.mk Kd.old xs), ((1 : Nat), Rw.mk Kd.old ys)], (5 : Nat), []), [],
    [decide ((↑n : Int) > (200 : Int)) = false, decide ((↑m : Int) > (20 : Int)) = false,
      n ≤ c ∧ c ≤ (9223372036854775807 : Nat), n ≤ List.length xs, Fl (List.take n xs), Byts (List.take n xs),
      avLen (Av.sl (List.take n xs) n) ≤ (1099511627776 : Nat),
      avLen (Av.sl (List.take n xs) n) ≤ avLen (Av.sl (List.take n xs) n) + (3 : Nat) ∧
        avLen (Av.sl (List.take n xs) n) + (3 : Nat) ≤ (9223372036854775807 : Nat),
      avLen (Av.sl (List.take n xs) n) ≤ List.length (List.take n xs ++ mk3 (avLen (Av.sl (List.take n xs) n))),
      Fl (List.take (avLen (Av.sl (List.take n xs) n)) (List.take n xs ++ mk3 (avLen (Av.sl (List.take n xs) n)))),
      decide
          (avLen
                (Av.sl
                  (List.take (avLen (Av.sl (List.take n xs) n))
                    (List.take n xs ++ mk3 (avLen (Av.sl (List.take n xs) n))))
                  (avLen (Av.sl (List.take n xs) n))) %
              (16 : Nat) =
            (0 : Nat)) =
        false,
      n ≤ c ∧ c ≤ (9223372036854775807 : Nat), n ≤ List.length xs, Fl (List.take n xs),
      decide (avLen (Av.sl (List.take n xs) n) % (16 : Nat) = (0 : Nat)) = false,
      (0 : Nat) < (18446744073709551616 : Nat), (0 : Nat) < (0 : Nat) + m, (0 : Nat) ≤ (0 : Nat),
      ((0 : Nat) + m) * (16 : Nat) ≤ (140737488355328 : Nat) ∧ (0 : Nat) + m ≤ (9223372036854775807 : Nat),
      m * (2 : Nat) ≤ List.length ys, all1 (List.take (m * (2 : Nat)) ys) = true,
      capBig + (4 : Nat) = capBig + (4 : Nat),
      ((0 : Nat) + m) * (2 : Nat) ≤
        List.length
          (List.take (0 : Nat) (zrep [Value.int IntKind.u64 (0 : Int), Value.int IntKind.u64 (0 : Int)] (0 : Nat)) ++
            List.take (m * (2 : Nat)) ys),
      (0 : Nat) < (2 : Nat),
      ((0 : Nat) + m) * (2 : Nat) ≤
        List.length
          (List.take (0 : Nat) (zrep [Value.int IntKind.u64 (0 : Int), Value.int IntKind.u64 (0 : Int)] (0 : Nat)) ++
            List.take (m * (2 : Nat)) ys),
      Fl
        (List.take (((0 : Nat) + m) * (2 : Nat))
          (List.take (0 : Nat) (zrep [Value.int IntKind.u64 (0 : Int), Value.int IntKind.u64 (0 : Int)] (0 : Nat)) ++
            List.take (m * (2 : Nat)) ys)),
      decide
          (avLen
              (Av.sl
                (List.take (((0 : Nat) + m) * (2 : Nat))
                  (List.take (0 : Nat)
                      (zrep [Value.int IntKind.u64 (0 : Int), Value.int IntKind.u64 (0 : Int)] (0 : Nat)) ++
                    List.take (m * (2 : Nat)) ys))
                ((0 : Nat) + m)) ≤
            (8 : Nat)) =
        false,
      m ≤ d ∧ d ≤ (9223372036854775807 : Nat), m * (2 : Nat) ≤ List.length ys, Fl (List.take (m * (2 : Nat)) ys),
      decide (avLen (Av.sl (List.take (m * (2 : Nat)) ys) m) ≤ (8 : Nat)) = false, Ints IntKind.u64 [], ([] : List Value) = [],
      (0 : Nat) = (0 : Nat), Byts [], Byts [], true = true,
      avLen (Av.sl (List.take n xs) n) + (3 : Nat) ≤ (9223372036854775807 : Nat),
      avLen (Av.sl (List.take n xs) n) + (3 : Nat) ≤
        List.length (List.take n xs ++ mk3 (avLen (Av.sl (List.take n xs) n))),
      Fl
        (List.take (avLen (Av.sl (List.take n xs) n) + (3 : Nat))
          (List.take n xs ++ mk3 (avLen (Av.sl (List.take n xs) n)))),
      n ≤ c ∧ c ≤ (9223372036854775807 : Nat), n ≤ List.length xs, Fl (List.take n xs),
      Byts
        (List.take (avLen (Av.sl (List.take n xs) n) + (3 : Nat))
          (List.take n xs ++ mk3 (avLen (Av.sl (List.take n xs) n)))),
      Byts (List.take n xs), avLen (Av.sl (List.take n xs) n) = avLen (Av.sl (List.take n xs) n),
      avLen (Av.sl (List.take n xs) n) + (3 : Nat) = avLen (Av.sl (List.take n xs) n) + (3 : Nat),
      avLen (Av.sl (List.take n xs) n) ≤ (1099511627776 : Nat),
      decide
          (intsOf
              (List.take (avLen (Av.sl (List.take n xs) n) + (3 : Nat))
                (List.take n xs ++ mk3 (avLen (Av.sl (List.take n xs) n)))) =
            intsOf (List.take n xs ++ mk3 (avLen (Av.sl (List.take n xs) n)))) =
        true]) := by kernel_rfl
theorem li_g_bad0 (xs ys : List Value) (n c m d : Nat) : runZ (illV 2 Try.prog) Try.prog 5 6 [illA n c, illE m d] [(0, ⟨.old, xs⟩), (1, ⟨.old, ys⟩)] 2 ([false, false] ++ [true] ++ [true] ++ [false, false] ++ [false, false] ++ [true, true]) =
Res.ok
  ((Value.bool true, [((0 : Nat), Rw.mk Kd.old xs), ((1 : Nat), Rw.mk Kd.old ys)], (7 : Nat), []), [],
    [decide ((↑n : Int) > (200 : Int)) = false, decide ((↑m : Int) > (20 : Int)) = false,
      n ≤ c ∧ c ≤ (9223372036854775807 : Nat), n ≤ List.length xs, Fl (List.take n xs), Byts (List.take n xs),
      avLen (Av.sl (List.take n xs) n) ≤ (1099511627776 : Nat),
      avLen (Av.sl (List.take n xs) n) ≤ avLen (Av.sl (List.take n xs) n) + (3 : Nat) ∧
        avLen (Av.sl (List.take n xs) n) + (3 : Nat) ≤ (9223372036854775807 : Nat),
      avLen (Av.sl (List.take n xs) n) ≤ List.length (List.take n xs ++ mk3 (avLen (Av.sl (List.take n xs) n))),
      Fl (List.take (avLen (Av.sl (List.take n xs) n)) (List.take n xs ++ mk3 (avLen (Av.sl (List.take n xs) n)))),
      decide
          (avLen
                (Av.sl
                  (List.take (avLen (Av.sl (List.take n xs) n))
                    (List.take n xs ++ mk3 (avLen (Av.sl (List.take n xs) n))))
                  (avLen (Av.sl (List.take n xs) n))) %
              (16 : Nat) =
            (0 : Nat)) =
        false,
      n ≤ c ∧ c ≤ (9223372036854775807 : Nat), n ≤ List.length xs, Fl (List.take n xs),
      decide (avLen (Av.sl (List.take n xs) n) % (16 : Nat) = (0 : Nat)) = false,
      (0 : Nat) < (18446744073709551616 : Nat), (0 : Nat) < (0 : Nat) + m, (0 : Nat) ≤ (0 : Nat),
      ((0 : Nat) + m) * (16 : Nat) ≤ (140737488355328 : Nat) ∧ (0 : Nat) + m ≤ (9223372036854775807 : Nat),
      m * (2 : Nat) ≤ List.length ys, all1 (List.take (m * (2 : Nat)) ys) = true,
      capBig + (4 : Nat) = capBig + (4 : Nat),
      ((0 : Nat) + m) * (2 : Nat) ≤
        List.length
          (List.take (0 : Nat) (zrep [Value.int IntKind.u64 (0 : Int), Value.int IntKind.u64 (0 : Int)] (0 : Nat)) ++
            List.take (m * (2 : Nat)) ys),
      (0 : Nat) < (2 : Nat),
      ((0 : Nat) + m) * (2 : Nat) ≤
        List.length
          (List.take (0 : Nat) (zrep [Value.int IntKind.u64 (0 : Int), Value.int IntKind.u64 (0 : Int)] (0 : Nat)) ++
            List.take (m * (2 : Nat)) ys),
      Fl
        (List.take (((0 : Nat) + m) * (2 : Nat))
          (List.take (0 : Nat) (zrep [Value.int IntKind.u64 (0 : Int), Value.int IntKind.u64 (0 : Int)] (0 : Nat)) ++
            List.take (m * (2 : Nat)) ys)),
      Ints IntKind.u64
        (List.take (((0 : Nat) + m) * (2 : Nat))
          (List.take (0 : Nat) (zrep [Value.int IntKind.u64 (0 : Int), Value.int IntKind.u64 (0 : Int)] (0 : Nat)) ++
            List.take (m * (2 : Nat)) ys)),
      avLen
          (Av.sl
            (List.take (((0 : Nat) + m) * (2 : Nat))
              (List.take (0 : Nat)
                  (zrep [Value.int IntKind.u64 (0 : Int), Value.int IntKind.u64 (0 : Int)] (0 : Nat)) ++
                List.take (m * (2 : Nat)) ys))
            ((0 : Nat) + m)) ≤
        (8 : Nat),
      decide
          (avLen
              (Av.sl
                (List.take (((0 : Nat) + m) * (2 : Nat))
                  (List.take (0 : Nat)
                      (zrep [Value.int IntKind.u64 (0 : Int), Value.int IntKind.u64 (0 : Int)] (0 : Nat)) ++
                    List.take (m * (2 : Nat)) ys))
                ((0 : Nat) + m)) =
            (0 : Nat)) =
        false,
      m ≤ d ∧ d ≤ (9223372036854775807 : Nat), m * (2 : Nat) ≤ List.length ys, Fl (List.take (m * (2 : Nat)) ys),
      Ints IntKind.u64 (List.take (m * (2 : Nat)) ys), avLen (Av.sl (List.take (m * (2 : Nat)) ys) m) ≤ (8 : Nat),
      decide (avLen (Av.sl (List.take (m * (2 : Nat)) ys) m) = (0 : Nat)) = false, Ints IntKind.u64 [], ([] : List Value) = [],
      (0 : Nat) = (0 : Nat), capBig + (5 : Nat) = capBig + (5 : Nat),
      avLen
            (Av.sl
              (List.take (((0 : Nat) + m) * (2 : Nat))
                (List.take (0 : Nat)
                    (zrep [Value.int IntKind.u64 (0 : Int), Value.int IntKind.u64 (0 : Int)] (0 : Nat)) ++
                  List.take (m * (2 : Nat)) ys))
              ((0 : Nat) + m)) *
          (16 : Nat) ≤
        List.length
          (oiL
            (List.take (((0 : Nat) + m) * (2 : Nat))
              (List.take (0 : Nat)
                  (zrep [Value.int IntKind.u64 (0 : Int), Value.int IntKind.u64 (0 : Int)] (0 : Nat)) ++
                List.take (m * (2 : Nat)) ys))
            (0 : Nat)
            (avLen
              (Av.sl
                (List.take (((0 : Nat) + m) * (2 : Nat))
                  (List.take (0 : Nat)
                      (zrep [Value.int IntKind.u64 (0 : Int), Value.int IntKind.u64 (0 : Int)] (0 : Nat)) ++
                    List.take (m * (2 : Nat)) ys))
                ((0 : Nat) + m)))),
      (0 : Nat) < (1 : Nat),
      avLen
            (Av.sl
              (List.take (((0 : Nat) + m) * (2 : Nat))
                (List.take (0 : Nat)
                    (zrep [Value.int IntKind.u64 (0 : Int), Value.int IntKind.u64 (0 : Int)] (0 : Nat)) ++
                  List.take (m * (2 : Nat)) ys))
              ((0 : Nat) + m)) *
          (16 : Nat) ≤
        List.length
          (oiL
            (List.take (((0 : Nat) + m) * (2 : Nat))
              (List.take (0 : Nat)
                  (zrep [Value.int IntKind.u64 (0 : Int), Value.int IntKind.u64 (0 : Int)] (0 : Nat)) ++
                List.take (m * (2 : Nat)) ys))
            (0 : Nat)
            (avLen
              (Av.sl
                (List.take (((0 : Nat) + m) * (2 : Nat))
                  (List.take (0 : Nat)
                      (zrep [Value.int IntKind.u64 (0 : Int), Value.int IntKind.u64 (0 : Int)] (0 : Nat)) ++
                    List.take (m * (2 : Nat)) ys))
                ((0 : Nat) + m)))),
      Fl
        (List.take
          (avLen
              (Av.sl
                (List.take (((0 : Nat) + m) * (2 : Nat))
                  (List.take (0 : Nat)
                      (zrep [Value.int IntKind.u64 (0 : Int), Value.int IntKind.u64 (0 : Int)] (0 : Nat)) ++
                    List.take (m * (2 : Nat)) ys))
                ((0 : Nat) + m)) *
            (16 : Nat))
          (oiL
            (List.take (((0 : Nat) + m) * (2 : Nat))
              (List.take (0 : Nat)
                  (zrep [Value.int IntKind.u64 (0 : Int), Value.int IntKind.u64 (0 : Int)] (0 : Nat)) ++
                List.take (m * (2 : Nat)) ys))
            (0 : Nat)
            (avLen
              (Av.sl
                (List.take (((0 : Nat) + m) * (2 : Nat))
                  (List.take (0 : Nat)
                      (zrep [Value.int IntKind.u64 (0 : Int), Value.int IntKind.u64 (0 : Int)] (0 : Nat)) ++
                    List.take (m * (2 : Nat)) ys))
                ((0 : Nat) + m))))),
      capBig + (6 : Nat) = capBig + (6 : Nat),
      avLen (Av.sl (List.take (m * (2 : Nat)) ys) m) * (16 : Nat) ≤
        List.length (oiL (List.take (m * (2 : Nat)) ys) (0 : Nat) (avLen (Av.sl (List.take (m * (2 : Nat)) ys) m))),
      (0 : Nat) < (1 : Nat),
      avLen (Av.sl (List.take (m * (2 : Nat)) ys) m) * (16 : Nat) ≤
        List.length (oiL (List.take (m * (2 : Nat)) ys) (0 : Nat) (avLen (Av.sl (List.take (m * (2 : Nat)) ys) m))),
      Fl
        (List.take (avLen (Av.sl (List.take (m * (2 : Nat)) ys) m) * (16 : Nat))
          (oiL (List.take (m * (2 : Nat)) ys) (0 : Nat) (avLen (Av.sl (List.take (m * (2 : Nat)) ys) m)))),
      Byts
        (List.take
          (avLen
              (Av.sl
                (List.take (((0 : Nat) + m) * (2 : Nat))
                  (List.take (0 : Nat)
                      (zrep [Value.int IntKind.u64 (0 : Int), Value.int IntKind.u64 (0 : Int)] (0 : Nat)) ++
                    List.take (m * (2 : Nat)) ys))
                ((0 : Nat) + m)) *
            (16 : Nat))
          (oiL
            (List.take (((0 : Nat) + m) * (2 : Nat))
              (List.take (0 : Nat)
                  (zrep [Value.int IntKind.u64 (0 : Int), Value.int IntKind.u64 (0 : Int)] (0 : Nat)) ++
                List.take (m * (2 : Nat)) ys))
            (0 : Nat)
            (avLen
              (Av.sl
                (List.take (((0 : Nat) + m) * (2 : Nat))
                  (List.take (0 : Nat)
                      (zrep [Value.int IntKind.u64 (0 : Int), Value.int IntKind.u64 (0 : Int)] (0 : Nat)) ++
                    List.take (m * (2 : Nat)) ys))
                ((0 : Nat) + m))))),
      Byts
        (List.take (avLen (Av.sl (List.take (m * (2 : Nat)) ys) m) * (16 : Nat))
          (oiL (List.take (m * (2 : Nat)) ys) (0 : Nat) (avLen (Av.sl (List.take (m * (2 : Nat)) ys) m)))),
      decide
          (intsOf
              (List.take
                (avLen
                    (Av.sl
                      (List.take (((0 : Nat) + m) * (2 : Nat))
                        (List.take (0 : Nat)
                            (zrep [Value.int IntKind.u64 (0 : Int), Value.int IntKind.u64 (0 : Int)] (0 : Nat)) ++
                          List.take (m * (2 : Nat)) ys))
                      ((0 : Nat) + m)) *
                  (16 : Nat))
                (oiL
                  (List.take (((0 : Nat) + m) * (2 : Nat))
                    (List.take (0 : Nat)
                        (zrep [Value.int IntKind.u64 (0 : Int), Value.int IntKind.u64 (0 : Int)] (0 : Nat)) ++
                      List.take (m * (2 : Nat)) ys))
                  (0 : Nat)
                  (avLen
                    (Av.sl
                      (List.take (((0 : Nat) + m) * (2 : Nat))
                        (List.take (0 : Nat)
                            (zrep [Value.int IntKind.u64 (0 : Int), Value.int IntKind.u64 (0 : Int)] (0 : Nat)) ++
                          List.take (m * (2 : Nat)) ys))
                      ((0 : Nat) + m))))) =
            intsOf
              (List.take (avLen (Av.sl (List.take (m * (2 : Nat)) ys) m) * (16 : Nat))
                (oiL (List.take (m * (2 : Nat)) ys) (0 : Nat) (avLen (Av.sl (List.take (m * (2 : Nat)) ys) m))))) =
        true,
      (0 : Nat) = (0 : Nat), capBig + (5 : Nat) = capBig + (5 : Nat),
      avLen
            (Av.sl
              (List.take (((0 : Nat) + m) * (2 : Nat))
                (List.take (0 : Nat)
                    (zrep [Value.int IntKind.u64 (0 : Int), Value.int IntKind.u64 (0 : Int)] (0 : Nat)) ++
                  List.take (m * (2 : Nat)) ys))
              ((0 : Nat) + m)) *
          (16 : Nat) ≤
        List.length
          (oiL
            (List.take (((0 : Nat) + m) * (2 : Nat))
              (List.take (0 : Nat)
                  (zrep [Value.int IntKind.u64 (0 : Int), Value.int IntKind.u64 (0 : Int)] (0 : Nat)) ++
                List.take (m * (2 : Nat)) ys))
            (0 : Nat)
            (avLen
              (Av.sl
                (List.take (((0 : Nat) + m) * (2 : Nat))
                  (List.take (0 : Nat)
                      (zrep [Value.int IntKind.u64 (0 : Int), Value.int IntKind.u64 (0 : Int)] (0 : Nat)) ++
                    List.take (m * (2 : Nat)) ys))
                ((0 : Nat) + m)))),
      Byts
        (oiL
          (List.take (((0 : Nat) + m) * (2 : Nat))
            (List.take (0 : Nat) (zrep [Value.int IntKind.u64 (0 : Int), Value.int IntKind.u64 (0 : Int)] (0 : Nat)) ++
              List.take (m * (2 : Nat)) ys))
          (0 : Nat)
          (avLen
            (Av.sl
              (List.take (((0 : Nat) + m) * (2 : Nat))
                (List.take (0 : Nat)
                    (zrep [Value.int IntKind.u64 (0 : Int), Value.int IntKind.u64 (0 : Int)] (0 : Nat)) ++
                  List.take (m * (2 : Nat)) ys))
              ((0 : Nat) + m)))),
      avLen (Av.sl (List.take n xs) n) + (3 : Nat) ≤ (9223372036854775807 : Nat),
      avLen (Av.sl (List.take n xs) n) + (3 : Nat) ≤
        List.length (List.take n xs ++ mk3 (avLen (Av.sl (List.take n xs) n))),
      Fl
        (List.take (avLen (Av.sl (List.take n xs) n) + (3 : Nat))
          (List.take n xs ++ mk3 (avLen (Av.sl (List.take n xs) n)))),
      n ≤ c ∧ c ≤ (9223372036854775807 : Nat), n ≤ List.length xs, Fl (List.take n xs),
      Byts
        (List.take (avLen (Av.sl (List.take n xs) n) + (3 : Nat))
          (List.take n xs ++ mk3 (avLen (Av.sl (List.take n xs) n)))),
      Byts (List.take n xs), avLen (Av.sl (List.take n xs) n) = avLen (Av.sl (List.take n xs) n),
      avLen (Av.sl (List.take n xs) n) + (3 : Nat) = avLen (Av.sl (List.take n xs) n) + (3 : Nat),
      avLen (Av.sl (List.take n xs) n) ≤ (1099511627776 : Nat),
      decide
          (intsOf
              (List.take (avLen (Av.sl (List.take n xs) n) + (3 : Nat))
                (List.take n xs ++ mk3 (avLen (Av.sl (List.take n xs) n)))) =
            intsOf (List.take n xs ++ mk3 (avLen (Av.sl (List.take n xs) n)))) =
        true]) := by kernel_rfl
theorem li_n_long0 (xs : List Value) (n c : Nat) : runZ (illV 4 Try.prog) Try.prog 5 6 [illA n c, .slice none 0 0] [(0, ⟨.old, xs⟩)] 2 ([false, false] ++ [false, true] ++ [false, true] ++ [false, true] ++ [false, true] ++ [true, true]) =
Res.ok
  ((Value.bool true, [((0 : Nat), Rw.mk Kd.old xs)], (4 : Nat), []), [],
    [decide ((↑n : Int) > (200 : Int)) = false, false = false, n ≤ c ∧ c ≤ (9223372036854775807 : Nat),
      n ≤ List.length xs, Fl (List.take n xs), Byts (List.take n xs),
      avLen (Av.sl (List.take n xs) n) ≤ (1099511627776 : Nat),
      avLen (Av.sl (List.take n xs) n) ≤ avLen (Av.sl (List.take n xs) n) + (3 : Nat) ∧
        avLen (Av.sl (List.take n xs) n) + (3 : Nat) ≤ (9223372036854775807 : Nat),
      avLen (Av.sl (List.take n xs) n) ≤ List.length (List.take n xs ++ mk3 (avLen (Av.sl (List.take n xs) n))),
      Fl (List.take (avLen (Av.sl (List.take n xs) n)) (List.take n xs ++ mk3 (avLen (Av.sl (List.take n xs) n)))),
      avLen
            (Av.sl
              (List.take (avLen (Av.sl (List.take n xs) n)) (List.take n xs ++ mk3 (avLen (Av.sl (List.take n xs) n))))
              (avLen (Av.sl (List.take n xs) n))) %
          (16 : Nat) =
        (0 : Nat),
      decide
          (avLen
              (Av.sl
                (List.take (avLen (Av.sl (List.take n xs) n))
                  (List.take n xs ++ mk3 (avLen (Av.sl (List.take n xs) n))))
                (avLen (Av.sl (List.take n xs) n))) ≤
            (128 : Nat)) =
        false,
      n ≤ c ∧ c ≤ (9223372036854775807 : Nat), n ≤ List.length xs, Fl (List.take n xs),
      avLen (Av.sl (List.take n xs) n) % (16 : Nat) = (0 : Nat),
      decide (avLen (Av.sl (List.take n xs) n) ≤ (128 : Nat)) = false,
      (0 : Nat) ≤ (0 : Nat) ∧ (0 : Nat) ≤ (9223372036854775807 : Nat), (0 : Nat) ≤ (0 : Nat),
      Fl
        (List.take (0 : Nat)
          (splice (zrep [Value.int IntKind.u64 (0 : Int), Value.int IntKind.u64 (0 : Int)] (0 : Nat)) (0 : Nat) [])),
      (0 : Nat) = (0 : Nat), (0 : Nat) = (0 : Nat), Ints IntKind.u64 [], ([] : List Value) = [], (0 : Nat) = (0 : Nat), Byts [],
      Byts [], true = true, avLen (Av.sl (List.take n xs) n) + (3 : Nat) ≤ (9223372036854775807 : Nat),
      avLen (Av.sl (List.take n xs) n) + (3 : Nat) ≤
        List.length (List.take n xs ++ mk3 (avLen (Av.sl (List.take n xs) n))),
      Fl
        (List.take (avLen (Av.sl (List.take n xs) n) + (3 : Nat))
          (List.take n xs ++ mk3 (avLen (Av.sl (List.take n xs) n)))),
      n ≤ c ∧ c ≤ (9223372036854775807 : Nat), n ≤ List.length xs, Fl (List.take n xs),
      Byts
        (List.take (avLen (Av.sl (List.take n xs) n) + (3 : Nat))
          (List.take n xs ++ mk3 (avLen (Av.sl (List.take n xs) n)))),
      Byts (List.take n xs), avLen (Av.sl (List.take n xs) n) = avLen (Av.sl (List.take n xs) n),
      avLen (Av.sl (List.take n xs) n) + (3 : Nat) = avLen (Av.sl (List.take n xs) n) + (3 : Nat),
      avLen (Av.sl (List.take n xs) n) ≤ (1099511627776 : Nat),
      decide
          (intsOf
              (List.take (avLen (Av.sl (List.take n xs) n) + (3 : Nat))
                (List.take n xs ++ mk3 (avLen (Av.sl (List.take n xs) n)))) =
            intsOf (List.take n xs ++ mk3 (avLen (Av.sl (List.take n xs) n)))) =
        true]) := by kernel_rfl
theorem li_e_long0 (xs ys : List Value) (n c d : Nat) : runZ (illV 4 Try.prog) Try.prog 5 6 [illA n c, illE 0 d] [(0, ⟨.old, xs⟩), (1, ⟨.old, ys⟩)] 2 ([false, false] ++ [false, true] ++ [false, true] ++ [false, true] ++ [false, true] ++ [true, true]) =
Res.ok
  ((Value.bool true, [((0 : Nat), Rw.mk Kd.old xs), ((1 : Nat), Rw.mk Kd.old ys)], (4 : Nat), []), [],
    [decide ((↑n : Int) > (200 : Int)) = false, false = false, n ≤ c ∧ c ≤ (9223372036854775807 : Nat),
      n ≤ List.length xs, Fl (List.take n xs), Byts (List.take n xs),
      avLen (Av.sl (List.take n xs) n) ≤ (1099511627776 : Nat),
      avLen (Av.sl (List.take n xs) n) ≤ avLen (Av.sl (List.take n xs) n) + (3 : Nat) ∧
        avLen (Av.sl (List.take n xs) n) + (3 : Nat) ≤ (9223372036854775807 : Nat),
      avLen (Av.sl (List.take n xs) n) ≤ List.length (List.take n xs ++ mk3 (avLen (Av.sl (List.take n xs) n))),
      Fl (List.take (avLen (Av.sl (List.take n xs) n)) (List.take n xs ++ mk3 (avLen (Av.sl (List.take n xs) n)))),
      avLen
            (Av.sl
              (List.take (avLen (Av.sl (List.take n xs) n)) (List.take n xs ++ mk3 (avLen (Av.sl (List.take n xs) n))))
              (avLen (Av.sl (List.take n xs) n))) %
          (16 : Nat) =
        (0 : Nat),
      decide
          (avLen
              (Av.sl
                (List.take (avLen (Av.sl (List.take n xs) n))
                  (List.take n xs ++ mk3 (avLen (Av.sl (List.take n xs) n))))
                (avLen (Av.sl (List.take n xs) n))) ≤
            (128 : Nat)) =
        false,
      n ≤ c ∧ c ≤ (9223372036854775807 : Nat), n ≤ List.length xs, Fl (List.take n xs),
      avLen (Av.sl (List.take n xs) n) % (16 : Nat) = (0 : Nat),
      decide (avLen (Av.sl (List.take n xs) n) ≤ (128 : Nat)) = false,
      (0 : Nat) ≤ (0 : Nat) ∧ (0 : Nat) ≤ (9223372036854775807 : Nat), (0 : Nat) ≤ (0 : Nat),
      Fl
        (List.take (0 : Nat)
          (splice (zrep [Value.int IntKind.u64 (0 : Int), Value.int IntKind.u64 (0 : Int)] (0 : Nat)) (0 : Nat)
            (List.take (0 : Nat) (List.drop (0 : Nat) ys)))),
      (0 : Nat) = (0 : Nat), (0 : Nat) ≤ d ∧ d ≤ (9223372036854775807 : Nat), (0 : Nat) ≤ List.length ys,
      Fl (List.take (0 : Nat) ys), (0 : Nat) = (0 : Nat), Ints IntKind.u64 [], ([] : List Value) = [], (0 : Nat) = (0 : Nat), Byts [],
      Byts [], true = true, avLen (Av.sl (List.take n xs) n) + (3 : Nat) ≤ (9223372036854775807 : Nat),
      avLen (Av.sl (List.take n xs) n) + (3 : Nat) ≤
        List.length (List.take n xs ++ mk3 (avLen (Av.sl (List.take n xs) n))),
      Fl
        (List.take (avLen (Av.sl (List.take n xs) n) + (3 : Nat))
          (List.take n xs ++ mk3 (avLen (Av.sl (List.take n xs) n)))),
      n ≤ c ∧ c ≤ (9223372036854775807 : Nat), n ≤ List.length xs, Fl (List.take n xs),
      Byts
        (List.take (avLen (Av.sl (List.take n xs) n) + (3 : Nat))
          (List.take n xs ++ mk3 (avLen (Av.sl (List.take n xs) n)))),
      Byts (List.take n xs), avLen (Av.sl (List.take n xs) n) = avLen (Av.sl (List.take n xs) n),
      avLen (Av.sl (List.take n xs) n) + (3 : Nat) = avLen (Av.sl (List.take n xs) n) + (3 : Nat),
      avLen (Av.sl (List.take n xs) n) ≤ (1099511627776 : Nat),
      decide
          (intsOf
              (List.take (avLen (Av.sl (List.take n xs) n) + (3 : Nat))
                (List.take n xs ++ mk3 (avLen (Av.sl (List.take n xs) n)))) =
            intsOf (List.take n xs ++ mk3 (avLen (Av.sl (List.take n xs) n)))) =
        true]) := by kernel_rfl
theorem li_b_long0 (xs ys : List Value) (n c m d : Nat) : runZ (illV 2 Try.prog) Try.prog 5 6 [illA n c, illE m d] [(0, ⟨.old, xs⟩), (1, ⟨.old, ys⟩)] 2 ([false, false] ++ [false, true] ++ [false, true] ++ [true] ++ [true] ++ [true, true]) =
Res.ok
  ((Value.bool true, [((0 : Nat), Rw.mk Kd.old xs), ((1 : Nat), Rw.mk Kd.old ys)], (5 : Nat), []), [],
    [decide ((↑n : Int) > (200 : Int)) = false, decide ((↑m : Int) > (20 : Int)) = false,
      n ≤ c ∧ c ≤ (9223372036854775807 : Nat), n ≤ List.length xs, Fl (List.take n xs), Byts (List.take n xs),
      avLen (Av.sl (List.take n xs) n) ≤ (1099511627776 : Nat),
      avLen (Av.sl (List.take n xs) n) ≤ avLen (Av.sl (List.take n xs) n) + (3 : Nat) ∧
        avLen (Av.sl (List.take n xs) n) + (3 : Nat) ≤ (9223372036854775807 : Nat),
      avLen (Av.sl (List.take n xs) n) ≤ List.length (List.take n xs ++ mk3 (avLen (Av.sl (List.take n xs) n))),
      Fl (List.take (avLen (Av.sl (List.take n xs) n)) (List.take n xs ++ mk3 (avLen (Av.sl (List.take n xs) n)))),
      avLen
            (Av.sl
              (List.take (avLen (Av.sl (List.take n xs) n)) (List.take n xs ++ mk3 (avLen (Av.sl (List.take n xs) n))))
              (avLen (Av.sl (List.take n xs) n))) %
          (16 : Nat) =
        (0 : Nat),
      decide
          (avLen
              (Av.sl
                (List.take (avLen (Av.sl (List.take n xs) n))
                  (List.take n xs ++ mk3 (avLen (Av.sl (List.take n xs) n))))
                (avLen (Av.sl (List.take n xs) n))) ≤
            (128 : Nat)) =
        false,
      n ≤ c ∧ c ≤ (9223372036854775807 : Nat), n ≤ List.length xs, Fl (List.take n xs),
      avLen (Av.sl (List.take n xs) n) % (16 : Nat) = (0 : Nat),
      decide (avLen (Av.sl (List.take n xs) n) ≤ (128 : Nat)) = false, (0 : Nat) < (18446744073709551616 : Nat),
      (0 : Nat) < (0 : Nat) + m, (0 : Nat) ≤ (0 : Nat),
      ((0 : Nat) + m) * (16 : Nat) ≤ (140737488355328 : Nat) ∧ (0 : Nat) + m ≤ (9223372036854775807 : Nat),
      m * (2 : Nat) ≤ List.length ys, all1 (List.take (m * (2 : Nat)) ys) = true,
      capBig + (4 : Nat) = capBig + (4 : Nat),
      ((0 : Nat) + m) * (2 : Nat) ≤
        List.length
          (List.take (0 : Nat) (zrep [Value.int IntKind.u64 (0 : Int), Value.int IntKind.u64 (0 : Int)] (0 : Nat)) ++
            List.take (m * (2 : Nat)) ys),
      (0 : Nat) < (2 : Nat),
      ((0 : Nat) + m) * (2 : Nat) ≤
        List.length
          (List.take (0 : Nat) (zrep [Value.int IntKind.u64 (0 : Int), Value.int IntKind.u64 (0 : Int)] (0 : Nat)) ++
            List.take (m * (2 : Nat)) ys),
      Fl
        (List.take (((0 : Nat) + m) * (2 : Nat))
          (List.take (0 : Nat) (zrep [Value.int IntKind.u64 (0 : Int), Value.int IntKind.u64 (0 : Int)] (0 : Nat)) ++
            List.take (m * (2 : Nat)) ys)),
      decide
          (avLen
              (Av.sl
                (List.take (((0 : Nat) + m) * (2 : Nat))
                  (List.take (0 : Nat)
                      (zrep [Value.int IntKind.u64 (0 : Int), Value.int IntKind.u64 (0 : Int)] (0 : Nat)) ++
                    List.take (m * (2 : Nat)) ys))
                ((0 : Nat) + m)) ≤
            (8 : Nat)) =
        false,
      m ≤ d ∧ d ≤ (9223372036854775807 : Nat), m * (2 : Nat) ≤ List.length ys, Fl (List.take (m * (2 : Nat)) ys),
      decide (avLen (Av.sl (List.take (m * (2 : Nat)) ys) m) ≤ (8 : Nat)) = false, Ints IntKind.u64 [], ([] : List Value) = [],
      (0 : Nat) = (0 : Nat), Byts [], Byts [], true = true,
      avLen (Av.sl (List.take n xs) n) + (3 : Nat) ≤ (9223372036854775807 : Nat),
      avLen (Av.sl (List.take n xs) n) + (3 : Nat) ≤
        List.length (List.take n xs ++ mk3 (avLen (Av.sl (List.take n xs) n))),
      Fl
        (List.take (avLen (Av.sl (List.take n xs) n) + (3 : Nat))
          (List.take n xs ++ mk3 (avLen (Av.sl (List.take n xs) n)))),
      n ≤ c ∧ c ≤ (9223372036854775807 : Nat), n ≤ List.length xs, Fl (List.take n xs),
      Byts
        (List.take (avLen (Av.sl (List.take n xs) n) + (3 : Nat))
          (List.take n xs ++ mk3 (avLen (Av.sl (List.take n xs) n)))),
      Byts (List.take n xs), avLen (Av.sl (List.take n xs) n) = avLen (Av.sl (List.take n xs) n),
      avLen (Av.sl (List.take n xs) n) + (3 : Nat) = avLen (Av.sl (List.take n xs) n) + (3 : Nat),
      avLen (Av.sl (List.take n xs) n) ≤ (1099511627776 : Nat),
      decide
          (intsOf
              (List.take (avLen (Av.sl (List.take n xs) n) + (3 : Nat))
                (List.take n xs ++ mk3 (avLen (Av.sl (List.take n xs) n)))) =
            intsOf (List.take n xs ++ mk3 (avLen (Av.sl (List.take n xs) n)))) =
        true]) := by kernel_rfl
theorem li_g_long0 (xs ys : List Value) (n c m d : Nat) : runZ (illV 2 Try.prog) Try.prog 5 6 [illA n c, illE m d] [(0, ⟨.old, xs⟩), (1, ⟨.old, ys⟩)] 2 ([false, false] ++ [false, true] ++ [false, true] ++ [false, false] ++ [false, false] ++ [true, true]) =
Res.ok
  ((Value.bool true, [((0 : Nat), Rw.mk Kd.old xs), ((1 : Nat), Rw.mk Kd.old ys)], (7 : Nat), []), [],
    [decide ((↑n : Int) > (200 : Int)) = false, decide ((↑m : Int) > (20 : Int)) = false,
      n ≤ c ∧ c ≤ (9223372036854775807 : Nat), n ≤ List.length xs, Fl (List.take n xs), Byts (List.take n xs),
      avLen (Av.sl (List.take n xs) n) ≤ (1099511627776 : Nat),
      avLen (Av.sl (List.take n xs) n) ≤ avLen (Av.sl (List.take n xs) n) + (3 : Nat) ∧
        avLen (Av.sl (List.take n xs) n) + (3 : Nat) ≤ (9223372036854775807 : Nat),
      avLen (Av.sl (List.take n xs) n) ≤ List.length (List.take n xs ++ mk3 (avLen (Av.sl (List.take n xs) n))),
      Fl (List.take (avLen (Av.sl (List.take n xs) n)) (List.take n xs ++ mk3 (avLen (Av.sl (List.take n xs) n)))),
      avLen
            (Av.sl
              (List.take (avLen (Av.sl (List.take n xs) n)) (List.take n xs ++ mk3 (avLen (Av.sl (List.take n xs) n))))
              (avLen (Av.sl (List.take n xs) n))) %
          (16 : Nat) =
        (0 : Nat),
      decide
          (avLen
              (Av.sl
                (List.take (avLen (Av.sl (List.take n xs) n))
                  (List.take n xs ++ mk3 (avLen (Av.sl (List.take n xs) n))))
                (avLen (Av.sl (List.take n xs) n))) ≤
            (128 : Nat)) =
        false,
      n ≤ c ∧ c ≤ (9223372036854775807 : Nat), n ≤ List.length xs, Fl (List.take n xs),
      avLen (Av.sl (List.take n xs) n) % (16 : Nat) = (0 : Nat),
      decide (avLen (Av.sl (List.take n xs) n) ≤ (128 : Nat)) = false, (0 : Nat) < (18446744073709551616 : Nat),
      (0 : Nat) < (0 : Nat) + m, (0 : Nat) ≤ (0 : Nat),
      ((0 : Nat) + m) * (16 : Nat) ≤ (140737488355328 : Nat) ∧ (0 : Nat) + m ≤ (9223372036854775807 : Nat),
      m * (2 : Nat) ≤ List.length ys, all1 (List.take (m * (2 : Nat)) ys) = true,
      capBig + (4 : Nat) = capBig + (4 : Nat),
      ((0 : Nat) + m) * (2 : Nat) ≤
        List.length
          (List.take (0 : Nat) (zrep [Value.int IntKind.u64 (0 : Int), Value.int IntKind.u64 (0 : Int)] (0 : Nat)) ++
            List.take (m * (2 : Nat)) ys),
      (0 : Nat) < (2 : Nat),
      ((0 : Nat) + m) * (2 : Nat) ≤
        List.length
          (List.take (0 : Nat) (zrep [Value.int IntKind.u64 (0 : Int), Value.int IntKind.u64 (0 : Int)] (0 : Nat)) ++
            List.take (m * (2 : Nat)) ys),
      Fl
        (List.take (((0 : Nat) + m) * (2 : Nat))
          (List.take (0 : Nat) (zrep [Value.int IntKind.u64 (0 : Int), Value.int IntKind.u64 (0 : Int)] (0 : Nat)) ++
            List.take (m * (2 : Nat)) ys)),
      Ints IntKind.u64
        (List.take (((0 : Nat) + m) * (2 : Nat))
          (List.take (0 : Nat) (zrep [Value.int IntKind.u64 (0 : Int), Value.int IntKind.u64 (0 : Int)] (0 : Nat)) ++
            List.take (m * (2 : Nat)) ys)),
      avLen
          (Av.sl
            (List.take (((0 : Nat) + m) * (2 : Nat))
              (List.take (0 : Nat)
                  (zrep [Value.int IntKind.u64 (0 : Int), Value.int IntKind.u64 (0 : Int)] (0 : Nat)) ++
                List.take (m * (2 : Nat)) ys))
            ((0 : Nat) + m)) ≤
        (8 : Nat),
      decide
          (avLen
              (Av.sl
                (List.take (((0 : Nat) + m) * (2 : Nat))
                  (List.take (0 : Nat)
                      (zrep [Value.int IntKind.u64 (0 : Int), Value.int IntKind.u64 (0 : Int)] (0 : Nat)) ++
                    List.take (m * (2 : Nat)) ys))
                ((0 : Nat) + m)) =
            (0 : Nat)) =
        false,
      m ≤ d ∧ d ≤ (9223372036854775807 : Nat), m * (2 : Nat) ≤ List.length ys, Fl (List.take (m * (2 : Nat)) ys),
      Ints IntKind.u64 (List.take (m * (2 : Nat)) ys), avLen (Av.sl (List.take (m * (2 : Nat)) ys) m) ≤ (8 : Nat),
      decide (avLen (Av.sl (List.take (m * (2 : Nat)) ys) m) = (0 : Nat)) = false, Ints IntKind.u64 [], ([] : List Value) = [],
      (0 : Nat) = (0 : Nat), capBig + (5 : Nat) = capBig + (5 : Nat),
      avLen
            (Av.sl
              (List.take (((0 : Nat) + m) * (2 : Nat))
                (List.take (0 : Nat)
                    (zrep [Value.int IntKind.u64 (0 : Int), Value.int IntKind.u64 (0 : Int)] (0 : Nat)) ++
                  List.take (m * (2 : Nat)) ys))
              ((0 : Nat) + m)) *
          (16 : Nat) ≤
        List.length
          (oiL
            (List.take (((0 : Nat) + m) * (2 : Nat))
              (List.take (0 : Nat)
                  (zrep [Value.int IntKind.u64 (0 : Int), Value.int IntKind.u64 (0 : Int)] (0 : Nat)) ++
                List.take (m * (2 : Nat)) ys))
            (0 : Nat)
            (avLen
              (Av.sl
                (List.take (((0 : Nat) + m) * (2 : Nat))
                  (List.take (0 : Nat)
                      (zrep [Value.int IntKind.u64 (0 : Int), Value.int IntKind.u64 (0 : Int)] (0 : Nat)) ++
                    List.take (m * (2 : Nat)) ys))
                ((0 : Nat) + m)))),
      (0 : Nat) < (1 : Nat),
      avLen
            (Av.sl
              (List.take (((0 : Nat) + m) * (2 : Nat))
                (List.take (0 : Nat)
                    (zrep [Value.int IntKind.u64 (0 : Int), Value.int IntKind.u64 (0 : Int)] (0 : Nat)) ++
                  List.take (m * (2 : Nat)) ys))
              ((0 : Nat) + m)) *
          (16 : Nat) ≤
        List.length
          (oiL
            (List.take (((0 : Nat) + m) * (2 : Nat))
              (List.take (0 : Nat)
                  (zrep [Value.int IntKind.u64 (0 : Int), Value.int IntKind.u64 (0 : Int)] (0 : Nat)) ++
                List.take (m * (2 : Nat)) ys))
            (0 : Nat)
            (avLen
              (Av.sl
                (List.take (((0 : Nat) + m) * (2 : Nat))
                  (List.take (0 : Nat)
                      (zrep [Value.int IntKind.u64 (0 : Int), Value.int IntKind.u64 (0 : Int)] (0 : Nat)) ++
                    List.take (m * (2 : Nat)) ys))
                ((0 : Nat) + m)))),
      Fl
        (List.take
          (avLen
              (Av.sl
                (List.take (((0 : Nat) + m) * (2 : Nat))
                  (List.take (0 : Nat)
                      (zrep [Value.int IntKind.u64 (0 : Int), Value.int IntKind.u64 (0 : Int)] (0 : Nat)) ++
                    List.take (m * (2 : Nat)) ys))
                ((0 : Nat) + m)) *
            (16 : Nat))
          (oiL
            (List.take (((0 : Nat) + m) * (2 : Nat))
              (List.take (0 : Nat)
                  (zrep [Value.int IntKind.u64 (0 : Int), Value.int IntKind.u64 (0 : Int)] (0 : Nat)) ++
                List.take (m * (2 : Nat)) ys))
            (0 : Nat)
            (avLen
              (Av.sl
                (List.take (((0 : Nat) + m) * (2 : Nat))
                  (List.take (0 : Nat)
                      (zrep [Value.int IntKind.u64 (0 : Int), Value.int IntKind.u64 (0 : Int)] (0 : Nat)) ++
                    List.take (m * (2 : Nat)) ys))
                ((0 : Nat) + m))))),
      capBig + (6 : Nat) = capBig + (6 : Nat),
      avLen (Av.sl (List.take (m * (2 : Nat)) ys) m) * (16 : Nat) ≤
        List.length (oiL (List.take (m * (2 : Nat)) ys) (0 : Nat) (avLen (Av.sl (List.take (m * (2 : Nat)) ys) m))),
      (0 : Nat) < (1 : Nat),
      avLen (Av.sl (List.take (m * (2 : Nat)) ys) m) * (16 : Nat) ≤
        List.length (oiL (List.take (m * (2 : Nat)) ys) (0 : Nat) (avLen (Av.sl (List.take (m * (2 : Nat)) ys) m))),
      Fl
        (List.take (avLen (Av.sl (List.take (m * (2 : Nat)) ys) m) * (16 : Nat))
          (oiL (List.take (m * (2 : Nat)) ys) (0 : Nat) (avLen (Av.sl (List.take (m * (2 : Nat)) ys) m)))),
      Byts
        (List.take
          (avLen
              (Av.sl
                (List.take (((0 : Nat) + m) * (2 : Nat))
                  (List.take (0 : Nat)
                      (zrep [Value.int IntKind.u64 (0 : Int), Value.int IntKind.u64 (0 : Int)] (0 : Nat)) ++
                    List.take (m * (2 : Nat)) ys))
                ((0 : Nat) + m)) *
            (16 : Nat))
          (oiL
            (List.take (((0 : Nat) + m) * (2 : Nat))
              (List.take (0 : Nat)
                  (zrep [Value.int IntKind.u64 (0 : Int), Value.int IntKind.u64 (0 : Int)] (0 : Nat)) ++
                List.take (m * (2 : Nat)) ys))
            (0 : Nat)
            (avLen
              (Av.sl
                (List.take (((0 : Nat) + m) * (2 : Nat))
                  (List.take (0 : Nat)
                      (zrep [Value.int IntKind.u64 (0 : Int), Value.int IntKind.u64 (0 : Int)] (0 : Nat)) ++
                    List.take (m * (2 : Nat)) ys))
                ((0 : Nat) + m))))),
      Byts
        (List.take (avLen (Av.sl (List.take (m * (2 : Nat)) ys) m) * (16 : Nat))
          (oiL (List.take (m * (2 : Nat)) ys) (0 : Nat) (avLen (Av.sl (List.take (m * (2 : Nat)) ys) m)))),
      decide
          (intsOf
              (List.take
                (avLen
                    (Av.sl
                      (List.take (((0 : Nat) + m) * (2 : Nat))
                        (List.take (0 : Nat)
                            (zrep [Value.int IntKind.u64 (0 : Int), Value.int IntKind.u64 (0 : Int)] (0 : Nat)) ++
                          List.take (m * (2 : Nat)) ys))
                      ((0 : Nat) + m)) *
                  (16 : Nat))
                (oiL
                  (List.take (((0 : Nat) + m) * (2 : Nat))
                    (List.take (0 : Nat)
                        (zrep [Value.int IntKind.u64 (0 : Int), Value.int IntKind.u64 (0 : Int)] (0 : Nat)) ++
                      List.take (m * (2 : Nat)) ys))
                  (0 : Nat)
                  (avLen
                    (Av.sl
                      (List.take (((0 : Nat) + m) * (2 : Nat))
                        (List.take (0 : Nat)
                            (zrep [Value.int IntKind.u64 (0 : Int), Value.int IntKind.u64 (0 : Int)] (0 : Nat)) ++
                          List.take (m * (2 : Nat)) ys))
                      ((0 : Nat) + m))))) =
            intsOf
              (List.take (avLen (Av.sl (List.take (m * (2 : Nat)) ys) m) * (16 : Nat))
                (oiL (List.take (m * (2 : Nat)) ys) (0 : Nat) (avLen (Av.sl (List.take (m * (2 : Nat)) ys) m))))) =
        true,
      (0 : Nat) = (0 : Nat), capBig + (5 : Nat) = capBig + (5 : Nat),
      avLen
            (Av.sl
              (List.take (((0 : Nat) + m) * (2 : Nat))
                (List.take (0 : Nat)
                    (zrep [Value.int IntKind.u64 (0 : Int), Value.int IntKind.u64 (0 : Int)] (0 : Nat)) ++
                  List.take (m * (2 : Nat)) ys))
              ((0 : Nat) + m)) *
          (16 : Nat) ≤
        List.length
          (oiL
            (List.take (((0 : Nat) + m) * (2 : Nat))
              (List.take (0 : Nat)
                  (zrep [Value.int IntKind.u64 (0 : Int), Value.int IntKind.u64 (0 : Int)] (0 : Nat)) ++
                List.take (m * (2 : Nat)) ys))
            (0 : Nat)
            (avLen
              (Av.sl
                (List.take (((0 : Nat) + m) * (2 : Nat))
                  (List.take (0 : Nat)
                      (zrep [Value.int IntKind.u64 (0 : Int), Value.int IntKind.u64 (0 : Int)] (0 : Nat)) ++
                    List.take (m * (2 : Nat)) ys))
                ((0 : Nat) + m)))),
      Byts
        (oiL
          (List.take (((0 : Nat) + m) * (2 : Nat))
            (List.take (0 : Nat) (zrep [Value.int IntKind.u64 (0 : Int), Value.int IntKind.u64 (0 : Int)] (0 : Nat)) ++
              List.take (m * (2 : Nat)) ys))
          (0 : Nat)
          (avLen
            (Av.sl
              (List.take (((0 : Nat) + m) * (2 : Nat))
                (List.take (0 : Nat)
                    (zrep [Value.int IntKind.u64 (0 : Int), Value.int IntKind.u64 (0 : Int)] (0 : Nat)) ++
                  List.take (m * (2 : Nat)) ys))
              ((0 : Nat) + m)))),
      avLen (Av.sl (List.take n xs) n) + (3 : Nat) ≤ (9223372036854775807 : Nat),
      avLen (Av.sl (List.take n xs) n) + (3 : Nat) ≤
        List.length (List.take n xs ++ mk3 (avLen (Av.sl (List.take n xs) n))),
      Fl
        (List.take (avLen (Av.sl (List.take n xs) n) + (3 : Nat))
          (List.take n xs ++ mk3 (avLen (Av.sl (List.take n xs) n)))),
      n ≤ c ∧ c ≤ (9223372036854775807 : Nat), n ≤ List.length xs, Fl (List.take n xs),
      Byts
        (List.take (avLen (Av.sl (List.take n xs) n) + (3 : Nat))
          (List.take n xs ++ mk3 (avLen (Av.sl (List.take n xs) n)))),
      Byts (List.take n xs), avLen (Av.sl (List.take n xs) n) = avLen (Av.sl (List.take n xs) n),
      avLen (Av.sl (List.take n xs) n) + (3 : Nat) = avLen (Av.sl (List.take n xs) n) + (3 : Nat),
      avLen (Av.sl (List.take n xs) n) ≤ (1099511627776 : Nat),
      decide
          (intsOf
              (List.take (avLen (Av.sl (List.take n xs) n) + (3 : Nat))
                (List.take n xs ++ mk3 (avLen (Av.sl (List.take n xs) n)))) =
            intsOf (List.take n xs ++ mk3 (avLen (Av.sl (List.take n xs) n)))) =
        true]) := by kernel_rfl
theorem li_n_nil0 (xs : List Value) (n c : Nat) : runZ (illV 4 Try.prog) Try.prog 5 6 [illA n c, .slice none 0 0] [(0, ⟨.old, xs⟩)] 2 ([false, false] ++ [false, false, true] ++ [false, false, true] ++ [false, true] ++ [false, true] ++ [true, true]) =
Res.ok
  ((Value.bool true, [((0 : Nat), Rw.mk Kd.old xs)], (4 : Nat), []), [],
    [decide ((↑n : Int) > (200 : Int)) = false, false = false, n ≤ c ∧ c ≤ (9223372036854775807 : Nat),
      n ≤ List.length xs, Fl (List.take n xs), Byts (List.take n xs),
      avLen (Av.sl (List.take n xs) n) ≤ (1099511627776 : Nat),
      avLen (Av.sl (List.take n xs) n) ≤ avLen (Av.sl (List.take n xs) n) + (3 : Nat) ∧
        avLen (Av.sl (List.take n xs) n) + (3 : Nat) ≤ (9223372036854775807 : Nat),
      avLen (Av.sl (List.take n xs) n) ≤ List.length (List.take n xs ++ mk3 (avLen (Av.sl (List.take n xs) n))),
      Fl (List.take (avLen (Av.sl (List.take n xs) n)) (List.take n xs ++ mk3 (avLen (Av.sl (List.take n xs) n)))),
      avLen
          (Av.sl
            (List.take (avLen (Av.sl (List.take n xs) n)) (List.take n xs ++ mk3 (avLen (Av.sl (List.take n xs) n))))
            (avLen (Av.sl (List.take n xs) n))) =
        (0 : Nat),
      n ≤ c ∧ c ≤ (9223372036854775807 : Nat), n ≤ List.length xs, Fl (List.take n xs),
      avLen (Av.sl (List.take n xs) n) = (0 : Nat), (0 : Nat) ≤ (0 : Nat) ∧ (0 : Nat) ≤ (9223372036854775807 : Nat),
      (0 : Nat) ≤ (0 : Nat),
      Fl
        (List.take (0 : Nat)
          (splice (zrep [Value.int IntKind.u64 (0 : Int), Value.int IntKind.u64 (0 : Int)] (0 : Nat)) (0 : Nat) [])),
      (0 : Nat) = (0 : Nat), (0 : Nat) = (0 : Nat), Ints IntKind.u64 [], ([] : List Value) = [], (0 : Nat) = (0 : Nat), Byts [],
      Byts [], true = true, avLen (Av.sl (List.take n xs) n) + (3 : Nat) ≤ (9223372036854775807 : Nat),
      avLen (Av.sl (List.take n xs) n) + (3 : Nat) ≤
        List.length (List.take n xs ++ mk3 (avLen (Av.sl (List.take n xs) n))),
      Fl
        (List.take (avLen (Av.sl (List.take n xs) n) + (3 : Nat))
          (List.take n xs ++ mk3 (avLen (Av.sl (List.take n xs) n)))),
      n ≤ c ∧ c ≤ (9223372036854775807 : Nat), n ≤ List.length xs, Fl (List.take n xs),
      Byts
        (List.take (avLen (Av.sl (List.take n xs) n) + (3 : Nat))
          (List.take n xs ++ mk3 (avLen (Av.sl (List.take n xs) n)))),
      Byts (List.take n xs), avLen (Av.sl (List.take n xs) n) = avLen (Av.sl (List.take n xs) n),
      avLen (Av.sl (List.take n xs) n) + (3 : Nat) = avLen (Av.sl (List.take n xs) n) + (3 : Nat),
      avLen (Av.sl (List.take n xs) n) ≤ (1099511627776 : Nat),
      decide
          (intsOf
              (List.take (avLen (Av.sl (List.take n xs) n) + (3 : Nat))
                (List.take n xs ++ mk3 (avLen (Av.sl (List.take n xs) n)))) =
            intsOf (List.take n xs ++ mk3 (avLen (Av.sl (List.take n xs) n)))) =
        true]) := by kernel_rfl
theorem li_e_nil0 (xs ys : List Value) (n c d : Nat) : runZ (illV 4 Try.prog) Try.prog 5 6 [illA n c, illE 0 d] [(0, ⟨.old, xs⟩), (1, ⟨.old, ys⟩)] 2 ([false, false] ++ [false, false, true] ++ [false, false, true] ++ [false, true] ++ [false, true] ++ [true, true]) =
Res.ok
  ((Value.bool true, [((0 : Nat), Rw.mk Kd.old xs), ((1 : Nat), Rw.mk Kd.old ys)], (4 : Nat), []), [],
    [decide ((↑n : Int) > (200 : Int)) = false, false = false, n ≤ c ∧ c ≤ (9223372036854775807 : Nat),
      n ≤ List.length xs, Fl (List.take n xs), Byts (List.take n xs),
      avLen (Av.sl (List.take n xs) n) ≤ (1099511627776 : Nat),
      avLen (Av.sl (List.take n xs) n) ≤ avLen (Av.sl (List.take n xs) n) + (3 : Nat) ∧
        avLen (Av.sl (List.take n xs) n) + (3 : Nat) ≤ (9223372036854775807 : Nat),
      avLen (Av.sl (List.take n xs) n) ≤ List.length (List.take n xs ++ mk3 (avLen (Av.sl (List.take n xs) n))),
      Fl (List.take (avLen (Av.sl (List.take n xs) n)) (List.take n xs ++ mk3 (avLen (Av.sl (List.take n xs) n)))),
      avLen
          (Av.sl
            (List.take (avLen (Av.sl (List.take n xs) n)) (List.take n xs ++ mk3 (avLen (Av.sl (List.take n xs) n))))
            (avLen (Av.sl (List.take n xs) n))) =
        (0 : Nat),
      n ≤ c ∧ c ≤ (9223372036854775807 : Nat), n ≤ List.length xs, Fl (List.take n xs),
      avLen (Av.sl (List.take n xs) n) = (0 : Nat), (0 : Nat) ≤ (0 : Nat) ∧ (0 : Nat) ≤ (9223372036854775807 : Nat),
      (0 : Nat) ≤ (0 : Nat),
      Fl
        (List.take (0 : Nat)
          (splice (zrep [Value.int IntKind.u64 (0 : Int), Value.int IntKind.u64 (0 : Int)] (0 : Nat)) (0 : Nat)
            (List.take (0 : Nat) (List.drop (0 : Nat) ys)))),
      (0 : Nat) = (0 : Nat), (0 : Nat) ≤ d ∧ d ≤ (9223372036854775807 : Nat), (0 : Nat) ≤ List.length ys,
      Fl (List.take (0 : Nat) ys), (0 : Nat) = (0 : Nat), Ints IntKind.u64 [], ([] : List Value) = [], (0 : Nat) = (0 : Nat), Byts [],
      Byts [], true = true, avLen (Av.sl (List.take n xs) n) + (3 : Nat) ≤ (9223372036854775807 : Nat),
      avLen (Av.sl (List.take n xs) n) + (3 : Nat) ≤
        List.length (List.take n xs ++ mk3 (avLen (Av.sl (List.take n xs) n))),
      Fl
        (List.take (avLen (Av.sl (List.take n xs) n) + (3 : Nat))
          (List.take n xs ++ mk3 (avLen (Av.sl (List.take n xs) n)))),
      n ≤ c ∧ c ≤ (9223372036854775807 : Nat), n ≤ List.length xs, Fl (List.take n xs),
      Byts
        (List.take (avLen (Av.sl (List.take n xs) n) + (3 : Nat))
          (List.take n xs ++ mk3 (avLen (Av.sl (List.take n xs) n)))),
      Byts (List.take n xs), avLen (Av.sl (List.take n xs) n) = avLen (Av.sl (List.take n xs) n),
      avLen (Av.sl (List.take n xs) n) + (3 : Nat) = avLen (Av.sl (List.take n xs) n) + (3 : Nat),
      avLen (Av.sl (List.take n xs) n) ≤ (1099511627776 : Nat),
      decide
          (intsOf
              (List.take (avLen (Av.sl (List.take n xs) n) + (3 : Nat))
                (List.take n xs ++ mk3 (avLen (Av.sl (List.take n xs) n)))) =
            intsOf (List.take n xs ++ mk3 (avLen (Av.sl (List.take n xs) n)))) =
        true]) := by kernel_rfl
theorem li_b_nil0 (xs ys : List Value) (n c m d : Nat) : runZ (illV 2 Try.prog) Try.prog 5 6 [illA n c, illE m d] [(0, ⟨.old, xs⟩), (1, ⟨.old, ys⟩)] 2 ([false, false] ++ [false, false, true] ++ [false, false, true] ++ [true] ++ [true] ++ [true, true]) =
Res.ok
  ((Value.bool true, [((0 : Nat), Rw.mk Kd.old xs), ((1 : Nat), Rw.mk Kd.old ys)], (5 : Nat), []), [],
    [decide ((↑n : Int) > (200 : Int)) = false, decide ((↑m : Int) > (20 : Int)) = false,
      n ≤ c ∧ c ≤ (9223372036854775807 : Nat), n ≤ List.length xs, Fl (List.take n xs), Byts (List.take n xs),
      avLen (Av.sl (List.take n xs) n) ≤ (1099511627776 : Nat),
      avLen (Av.sl (List.take n xs) n) ≤ avLen (Av.sl (List.take n xs) n) + (3 : Nat) ∧
        avLen (Av.sl (List.take n xs) n) + (3 : Nat) ≤ (9223372036854775807 : Nat),
      avLen (Av.sl (List.take n xs) n) ≤ List.length (List.take n xs ++ mk3 (avLen (Av.sl (List.take n xs) n))),
      Fl (List.take (avLen (Av.sl (List.take n xs) n)) (List.take n xs ++ mk3 (avLen (Av.sl (List.take n xs) n)))),
      avLen
          (Av.sl
            (List.take (avLen (Av.sl (List.take n xs) n)) (List.take n xs ++ mk3 (avLen (Av.sl (List.take n xs) n))))
            (avLen (Av.sl (List.take n xs) n))) =
        (0 : Nat),
      n ≤ c ∧ c ≤ (9223372036854775807 : Nat), n ≤ List.length xs, Fl (List.take n xs),
      avLen (Av.sl (List.take n xs) n) = (0 : Nat), (0 : Nat) < (18446744073709551616 : Nat), (0 : Nat) < (0 : Nat) + m,
      (0 : Nat) ≤ (0 : Nat),
      ((0 : Nat) + m) * (16 : Nat) ≤ (140737488355328 : Nat) ∧ (0 : Nat) + m ≤ (9223372036854775807 : Nat),
      m * (2 : Nat) ≤ List.length ys, all1 (List.take (m * (2 : Nat)) ys) = true,
      capBig + (4 : Nat) = capBig + (4 : Nat),
      ((0 : Nat) + m) * (2 : Nat) ≤
        List.length
          (List.take (0 : Nat) (zrep [Value.int IntKind.u64 (0 : Int), Value.int IntKind.u64 (0 : Int)] (0 : Nat)) ++
            List.take (m * (2 : Nat)) ys),
      (0 : Nat) < (2 : Nat),
      ((0 : Nat) + m) * (2 : Nat) ≤
        List.length
          (List.take (0 : Nat) (zrep [Value.int IntKind.u64 (0 : Int), Value.int IntKind.u64 (0 : Int)] (0 : Nat)) ++
            List.take (m * (2 : Nat)) ys),
      Fl
        (List.take (((0 : Nat) + m) * (2 : Nat))
          (List.take (0 : Nat) (zrep [Value.int IntKind.u64 (0 : Int), Value.int IntKind.u64 (0 : Int)] (0 : Nat)) ++
            List.take (m * (2 : Nat)) ys)),
      decide
          (avLen
              (Av.sl
                (List.take (((0 : Nat) + m) * (2 : Nat))
                  (List.take (0 : Nat)
                      (zrep [Value.int IntKind.u64 (0 : Int), Value.int IntKind.u64 (0 : Int)] (0 : Nat)) ++
                    List.take (m * (2 : Nat)) ys))
                ((0 : Nat) + m)) ≤
            (8 : Nat)) =
        false,
      m ≤ d ∧ d ≤ (9223372036854775807 : Nat), m * (2 : Nat) ≤ List.length ys, Fl (List.take (m * (2 : Nat)) ys),
      decide (avLen (Av.sl (List.take (m * (2 : Nat)) ys) m) ≤ (8 : Nat)) = false, Ints IntKind.u64 [], ([] : List Value) = [],
      (0 : Nat) = (0 : Nat), Byts [], Byts [], true = true,
      avLen (Av.sl (List.take n xs) n) + (3 : Nat) ≤ (9223372036854775807 : Nat),
      avLen (Av.sl (List.take n xs) n) + (3 : Nat) ≤
        List.length (List.take n xs ++ mk3 (avLen (Av.sl (List.take n xs) n))),
      Fl
        (List.take (avLen (Av.sl (List.take n xs) n) + (3 : Nat))
          (List.take n xs ++ mk3 (avLen (Av.sl (List.take n xs) n)))),
      n ≤ c ∧ c ≤ (9223372036854775807 : Nat), n ≤ List.length xs, Fl (List.take n xs),
      Byts
        (List.take (avLen (Av.sl (List.take n xs) n) + (3 : Nat))
          (List.take n xs ++ mk3 (avLen (Av.sl (List.take n xs) n)))),
      Byts (List.take n xs), avLen (Av.sl (List.take n xs) n) = avLen (Av.sl (List.take n xs) n),
      avLen (Av.sl (List.take n xs) n) + (3 : Nat) = avLen (Av.sl (List.take n xs) n) + (3 : Nat),
      avLen (Av.sl (List.take n xs) n) ≤ (1099511627776 : Nat),
      decide
          (intsOf
              (List.take (avLen (Av.sl (List.take n xs) n) + (3 : Nat))
                (List.take n xs ++ mk3 (avLen (Av.sl (List.take n xs) n)))) =
            intsOf (List.take n xs ++ mk3 (avLen (Av.sl (List.take n xs) n)))) =
        true]) := by kernel_rfl
theorem li_g_nil0 (xs ys : List Value) (n c m d : Nat) : runZ (illV 2 Try.prog) Try.prog 5 6 [illA n c, illE m d] [(0, ⟨.old, xs⟩), (1, ⟨.old, ys⟩)] 2 ([false, false] ++ [false, false, true] ++ [false, false, true] ++ [false, false] ++ [false, false] ++ [true, true]) =
Res.ok
  ((Value.bool true, [((0 : Nat), Rw.mk Kd.old xs), ((1 : Nat), Rw.mk Kd.old ys)], (7 : Nat), []), [],
    [decide ((↑n : Int) > (200 : Int)) = false, decide ((↑m : Int) > (20 : Int)) = false,
      n ≤ c ∧ c ≤ (9223372036854775807 : Nat), n ≤ List.length xs, Fl (List.take n xs), Byts (List.take n xs),
      avLen (Av.sl (List.take n xs) n) ≤ (1099511627776 : Nat),
      avLen (Av.sl (List.take n xs) n) ≤ avLen (Av.sl (List.take n xs) n) + (3 : Nat) ∧
        avLen (Av.sl (List.take n xs) n) + (3 : Nat) ≤ (9223372036854775807 : Nat),
      avLen (Av.sl (List.take n xs) n) ≤ List.length (List.take n xs ++ mk3 (avLen (Av.sl (List.take n xs) n))),
      Fl (List.take (avLen (Av.sl (List.take n xs) n)) (List.take n xs ++ mk3 (avLen (Av.sl (List.take n xs) n)))),
      avLen
          (Av.sl
            (List.take (avLen (Av.sl (List.take n xs) n)) (List.take n xs ++ mk3 (avLen (Av.sl (List.take n xs) n))))
            (avLen (Av.sl (List.take n xs) n))) =
        (0 : Nat),
      n ≤ c ∧ c ≤ (9223372036854775807 : Nat), n ≤ List.length xs, Fl (List.take n xs),
      avLen (Av.sl (List.take n xs) n) = (0 : Nat), (0 : Nat) < (18446744073709551616 : Nat), (0 : Nat) < (0 : Nat) + m,
      (0 : Nat) ≤ (0 : Nat),
      ((0 : Nat) + m) * (16 : Nat) ≤ (140737488355328 : Nat) ∧ (0 : Nat) + m ≤ (9223372036854775807 : Nat),
      m * (2 : Nat) ≤ List.length ys, all1 (List.take (m * (2 : Nat)) ys) = true,
      capBig + (4 : Nat) = capBig + (4 : Nat),
      ((0 : Nat) + m) * (2 : Nat) ≤
        List.length
          (List.take (0 : Nat) (zrep [Value.int IntKind.u64 (0 : Int), Value.int IntKind.u64 (0 : Int)] (0 : Nat)) ++
            List.take (m * (2 : Nat)) ys),
      (0 : Nat) < (2 : Nat),
      ((0 : Nat) + m) * (2 : Nat) ≤
        List.length
          (List.take (0 : Nat) (zrep [Value.int IntKind.u64 (0 : Int), Value.int IntKind.u64 (0 : Int)] (0 : Nat)) ++
            List.take (m * (2 : Nat)) ys),
      Fl
        (List.take (((0 : Nat) + m) * (2 : Nat))
          (List.take (0 : Nat) (zrep [Value.int IntKind.u64 (0 : Int), Value.int IntKind.u64 (0 : Int)] (0 : Nat)) ++
            List.take (m * (2 : Nat)) ys)),
      Ints IntKind.u64
        (List.take (((0 : Nat) + m) * (2 : Nat))
          (List.take (0 : Nat) (zrep [Value.int IntKind.u64 (0 : Int), Value.int IntKind.u64 (0 : Int)] (0 : Nat)) ++
            List.take (m * (2 : Nat)) ys)),
      avLen
          (Av.sl
            (List.take (((0 : Nat) + m) * (2 : Nat))
              (List.take (0 : Nat)
                  (zrep [Value.int IntKind.u64 (0 : Int), Value.int IntKind.u64 (0 : Int)] (0 : Nat)) ++
                List.take (m * (2 : Nat)) ys))
            ((0 : Nat) + m)) ≤
        (8 : Nat),
      decide
          (avLen
              (Av.sl
                (List.take (((0 : Nat) + m) * (2 : Nat))
                  (List.take (0 : Nat)
                      (zrep [Value.int IntKind.u64 (0 : Int), Value.int IntKind.u64 (0 : Int)] (0 : Nat)) ++
                    List.take (m * (2 : Nat)) ys))
                ((0 : Nat) + m)) =
            (0 : Nat)) =
        false,
      m ≤ d ∧ d ≤ (9223372036854775807 : Nat), m * (2 : Nat) ≤ List.length ys, Fl (List.take (m * (2 : Nat)) ys),
      Ints IntKind.u64 (List.take (m * (2 : Nat)) ys), avLen (Av.sl (List.take (m * (2 : Nat)) ys) m) ≤ (8 : Nat),
      decide (avLen (Av.sl (List.take (m * (2 : Nat)) ys) m) = (0 : Nat)) = false, Ints IntKind.u64 [], ([] : List Value) = [],
      (0 : Nat) = (0 : Nat), capBig + (5 : Nat) = capBig + (5 : Nat),
      avLen
            (Av.sl
              (List.take (((0 : Nat) + m) * (2 : Nat))
                (List.take (0 : Nat)
                    (zrep [Value.int IntKind.u64 (0 : Int), Value.int IntKind.u64 (0 : Int)] (0 : Nat)) ++
                  List.take (m * (2 : Nat)) ys))
              ((0 : Nat) + m)) *
          (16 : Nat) ≤
        List.length
          (oiL
            (List.take (((0 : Nat) + m) * (2 : Nat))
              (List.take (0 : Nat)
                  (zrep [Value.int IntKind.u64 (0 : Int), Value.int IntKind.u64 (0 : Int)] (0 : Nat)) ++
                List.take (m * (2 : Nat)) ys))
            (0 : Nat)
            (avLen
              (Av.sl
                (List.take (((0 : Nat) + m) * (2 : Nat))
                  (List.take (0 : Nat)
                      (zrep [Value.int IntKind.u64 (0 : Int), Value.int IntKind.u64 (0 : Int)] (0 : Nat)) ++
                    List.take (m * (2 : Nat)) ys))
                ((0 : Nat) + m)))),
      (0 : Nat) < (1 : Nat),
      avLen
            (Av.sl
              (List.take (((0 : Nat) + m) * (2 : Nat))
                (List.take (0 : Nat)
                    (zrep [Value.int IntKind.u64 (0 : Int), Value.int IntKind.u64 (0 : Int)] (0 : Nat)) ++
                  List.take (m * (2 : Nat)) ys))
              ((0 : Nat) + m)) *
          (16 : Nat) ≤
        List.length
          (oiL
            (List.take (((0 : Nat) + m) * (2 : Nat))
              (List.take (0 : Nat)
                  (zrep [Value.int IntKind.u64 (0 : Int), Value.int IntKind.u64 (0 : Int)] (0 : Nat)) ++
                List.take (m * (2 : Nat)) ys))
            (0 : Nat)
            (avLen
              (Av.sl
                (List.take (((0 : Nat) + m) * (2 : Nat))
                  (List.take (0 : Nat)
                      (zrep [Value.int IntKind.u64 (0 : Int), Value.int IntKind.u64 (0 : Int)] (0 : Nat)) ++
                    List.take (m * (2 : Nat)) ys))
                ((0 : Nat) + m)))),
      Fl
        (List.take
          (avLen
              (Av.sl
                (List.take (((0 : Nat) + m) * (2 : Nat))
                  (List.take (0 : Nat)
                      (zrep [Value.int IntKind.u64 (0 : Int), Value.int IntKind.u64 (0 : Int)] (0 : Nat)) ++
                    List.take (m * (2 : Nat)) ys))
                ((0 : Nat) + m)) *
            (16 : Nat))
          (oiL
            (List.take (((0 : Nat) + m) * (2 : Nat))
              (List.take (0 : Nat)
                  (zrep [Value.int IntKind.u64 (0 : Int), Value.int IntKind.u64 (0 : Int)] (0 : Nat)) ++
                List.take (m * (2 : Nat)) ys))
            (0 : Nat)
            (avLen
              (Av.sl
                (List.take (((0 : Nat) + m) * (2 : Nat))
                  (List.take (0 : Nat)
                      (zrep [Value.int IntKind.u64 (0 : Int), Value.int IntKind.u64 (0 : Int)] (0 : Nat)) ++
                    List.take (m * (2 : Nat)) ys))
                ((0 : Nat) + m))))),
      capBig + (6 : Nat) = capBig + (6 : Nat),
      avLen (Av.sl (List.take (m * (2 : Nat)) ys) m) * (16 : Nat) ≤
        List.length (oiL (List.take (m * (2 : Nat)) ys) (0 : Nat) (avLen (Av.sl (List.take (m * (2 : Nat)) ys) m))),
      (0 : Nat) < (1 : Nat),
      avLen (Av.sl (List.take (m * (2 : Nat)) ys) m) * (16 : Nat) ≤
        List.length (oiL (List.take (m * (2 : Nat)) ys) (0 : Nat) (avLen (Av.sl (List.take (m * (2 : Nat)) ys) m))),
      Fl
        (List.take (avLen (Av.sl (List.take (m * (2 : Nat)) ys) m) * (16 : Nat))
          (oiL (List.take (m * (2 : Nat)) ys) (0 : Nat) (avLen (Av.sl (List.take (m * (2 : Nat)) ys) m)))),
      Byts
        (List.take
          (avLen
              (Av.sl
                (List.take (((0 : Nat) + m) * (2 : Nat))
                  (List.take (0 : Nat)
                      (zrep [Value.int IntKind.u64 (0 : Int), Value.int IntKind.u64 (0 : Int)] (0 : Nat)) ++
                    List.take (m * (2 : Nat)) ys))
                ((0 : Nat) + m)) *
            (16 : Nat))
          (oiL
            (List.take (((0 : Nat) + m) * (2 : Nat))
              (List.take (0 : Nat)
                  (zrep [Value.int IntKind.u64 (0 : Int), Value.int IntKind.u64 (0 : Int)] (0 : Nat)) ++
                List.take (m * (2 : Nat)) ys))
            (0 : Nat)
            (avLen
              (Av.sl
                (List.take (((0 : Nat) + m) * (2 : Nat))
                  (List.take (0 : Nat)
                      (zrep [Value.int IntKind.u64 (0 : Int), Value.int IntKind.u64 (0 : Int)] (0 : Nat)) ++
                    List.take (m * (2 : Nat)) ys))
                ((0 : Nat) + m))))),
      Byts
        (List.take (avLen (Av.sl (List.take (m * (2 : Nat)) ys) m) * (16 : Nat))
          (oiL (List.take (m * (2 : Nat)) ys) (0 : Nat) (avLen (Av.sl (List.take (m * (2 : Nat)) ys) m)))),
      decide
          (intsOf
              (List.take
                (avLen
                    (Av.sl
                      (List.take (((0 : Nat) + m) * (2 : Nat))
                        (List.take (0 : Nat)
                            (zrep [Value.int IntKind.u64 (0 : Int), Value.int IntKind.u64 (0 : Int)] (0 : Nat)) ++
                          List.take (m * (2 : Nat)) ys))
                      ((0 : Nat) + m)) *
                  (16 : Nat))
                (oiL
                  (List.take (((0 : Nat) + m) * (2 : Nat))
                    (List.take (0 : Nat)
                        (zrep [Value.int IntKind.u64 (0 : Int), Value.int IntKind.u64 (0 : Int)] (0 : Nat)) ++
                      List.take (m * (2 : Nat)) ys))
                  (0 : Nat)
                  (avLen
                    (Av.sl
                      (List.take (((0 : Nat) + m) * (2 : Nat))
                        (List.take (0 : Nat)
                            (zrep [Value.int IntKind.u64 (0 : Int), Value.int IntKind.u64 (0 : Int)] (0 : Nat)) ++
                          List.take (m * (2 : Nat)) ys))
                      ((0 : Nat) + m))))) =
            intsOf
              (List.take (avLen (Av.sl (List.take (m * (2 : Nat)) ys) m) * (16 : Nat))
                (oiL (List.take (m * (2 : Nat)) ys) (0 : Nat) (avLen (Av.sl (List.take (m * (2 : Nat)) ys) m))))) =
        true,
      (0 : Nat) = (0 : Nat), capBig + (5 : Nat) = capBig + (5 : Nat),
      avLen
            (Av.sl
              (List.take (((0 : Nat) + m) * (2 : Nat))
                (List.take (0 : Nat)
                    (zrep [Value.int IntKind.u64 (0 : Int), Value.int IntKind.u64 (0 : Int)] (0 : Nat)) ++
                  List.take (m * (2 : Nat)) ys))
              ((0 : Nat) + m)) *
          (16 : Nat) ≤
        List.length
          (oiL
            (List.take (((0 : Nat) + m) * (2 : Nat))
              (List.take (0 : Nat)
                  (zrep [Value.int IntKind.u64 (0 : Int), Value.int IntKind.u64 (0 : Int)] (0 : Nat)) ++
                List.take (m * (2 : Nat)) ys))
            (0 : Nat)
            (avLen
              (Av.sl
                (List.take (((0 : Nat) + m) * (2 : Nat))
                  (List.take (0 : Nat)
                      (zrep [Value.int IntKind.u64 (0 : Int), Value.int IntKind.u64 (0 : Int)] (0 : Nat)) ++
                    List.take (m * (2 : Nat)) ys))
                ((0 : Nat) + m)))),
      Byts
        (oiL
          (List.take (((0 : Nat) + m) * (2 : Nat))
            (List.take (0 : Nat) (zrep [Value.int IntKind.u64 (0 : Int), Value.int IntKind.u64 (0 : Int)] (0 : Nat)) ++
              List.take (m * (2 : Nat)) ys))
          (0 : Nat)
          (avLen
            (Av.sl
              (List.take (((0 : Nat) + m) * (2 : Nat))
                (List.take (0 : Nat)
                    (zrep [Value.int IntKind.u64 (0 : Int), Value.int IntKind.u64 (0 : Int)] (0 : Nat)) ++
                  List.take (m * (2 : Nat)) ys))
              ((0 : Nat) + m)))),
      avLen (Av.sl (List.take n xs) n) + (3 : Nat) ≤ (9223372036854775807 : Nat),
      avLen (Av.sl (List.take n xs) n) + (3 : Nat) ≤
        List.length (List.take n xs ++ mk3 (avLen (Av.sl (List.take n xs) n))),
      Fl
        (List.take (avLen (Av.sl (List.take n xs) n) + (3 : Nat))
          (List.take n xs ++ mk3 (avLen (Av.sl (List.take n xs) n)))),
      n ≤ c ∧ c ≤ (9223372036854775807 : Nat), n ≤ List.length xs, Fl (List.take n xs),
      Byts
        (List.take (avLen (Av.sl (List.take n xs) n) + (3 : Nat))
          (List.take n xs ++ mk3 (avLen (Av.sl (List.take n xs) n)))),
      Byts (List.take n xs), avLen (Av.sl (List.take n xs) n) = avLen (Av.sl (List.take n xs) n),
      avLen (Av.sl (List.take n xs) n) + (3 : Nat) = avLen (Av.sl (List.take n xs) n) + (3 : Nat),
      avLen (Av.sl (List.take n xs) n) ≤ (1099511627776 : Nat),
      decide
          (intsOf
              (List.take (avLen (Av.sl (List.take n xs) n) + (3 : Nat))
                (List.take n xs ++ mk3 (avLen (Av.sl (List.take n xs) n)))) =
            intsOf (List.take n xs ++ mk3 (avLen (Av.sl (List.take n xs) n)))) =
        true]) := by kernel_rfl
theorem li_n_ok0 (xs : List Value) (n c : Nat) : runZ (illV 4 Try.prog) Try.prog 5 6 [illA n c, .slice none 0 0] [(0, ⟨.old, xs⟩)] 2 ([false, false] ++ [false, false, false] ++ [false, false, false] ++ [false, true] ++ [false, true] ++ [true, true]) =
Res.ok
  ((Value.bool true, [((0 : Nat), Rw.mk Kd.old xs)], (6 : Nat), []), [],
    [decide ((↑n : Int) > (200 : Int)) = false, false = false, n ≤ c ∧ c ≤ (9223372036854775807 : Nat),
      n ≤ List.length xs, Fl (List.take n xs), Byts (List.take n xs),
      avLen (Av.sl (List.take n xs) n) ≤ (1099511627776 : Nat),
      avLen (Av.sl (List.take n xs) n) ≤ avLen (Av.sl (List.take n xs) n) + (3 : Nat) ∧
        avLen (Av.sl (List.take n xs) n) + (3 : Nat) ≤ (9223372036854775807 : Nat),
      avLen (Av.sl (List.take n xs) n) ≤ List.length (List.take n xs ++ mk3 (avLen (Av.sl (List.take n xs) n))),
      Fl (List.take (avLen (Av.sl (List.take n xs) n)) (List.take n xs ++ mk3 (avLen (Av.sl (List.take n xs) n)))),
      Byts (List.take (avLen (Av.sl (List.take n xs) n)) (List.take n xs ++ mk3 (avLen (Av.sl (List.take n xs) n)))),
      avLen
            (Av.sl
              (List.take (avLen (Av.sl (List.take n xs) n)) (List.take n xs ++ mk3 (avLen (Av.sl (List.take n xs) n))))
              (avLen (Av.sl (List.take n xs) n))) %
          (16 : Nat) =
        (0 : Nat),
      avLen
          (Av.sl
            (List.take (avLen (Av.sl (List.take n xs) n)) (List.take n xs ++ mk3 (avLen (Av.sl (List.take n xs) n))))
            (avLen (Av.sl (List.take n xs) n))) ≤
        (128 : Nat),
      decide
          (avLen
              (Av.sl
                (List.take (avLen (Av.sl (List.take n xs) n))
                  (List.take n xs ++ mk3 (avLen (Av.sl (List.take n xs) n))))
                (avLen (Av.sl (List.take n xs) n))) =
            (0 : Nat)) =
        false,
      n ≤ c ∧ c ≤ (9223372036854775807 : Nat), n ≤ List.length xs, Fl (List.take n xs), Byts (List.take n xs),
      avLen (Av.sl (List.take n xs) n) % (16 : Nat) = (0 : Nat), avLen (Av.sl (List.take n xs) n) ≤ (128 : Nat),
      decide (avLen (Av.sl (List.take n xs) n) = (0 : Nat)) = false,
      (0 : Nat) ≤ (0 : Nat) ∧ (0 : Nat) ≤ (9223372036854775807 : Nat), (0 : Nat) ≤ (0 : Nat),
      Fl
        (List.take (0 : Nat)
          (splice (zrep [Value.int IntKind.u64 (0 : Int), Value.int IntKind.u64 (0 : Int)] (0 : Nat)) (0 : Nat) [])),
      (0 : Nat) = (0 : Nat), (0 : Nat) = (0 : Nat), capBig + (3 : Nat) = capBig + (3 : Nat),
      avLen
              (Av.sl
                (List.take (avLen (Av.sl (List.take n xs) n))
                  (List.take n xs ++ mk3 (avLen (Av.sl (List.take n xs) n))))
                (avLen (Av.sl (List.take n xs) n))) /
            (16 : Nat) *
          (2 : Nat) ≤
        List.length
          (idL (List.take (avLen (Av.sl (List.take n xs) n)) (List.take n xs ++ mk3 (avLen (Av.sl (List.take n xs) n))))
            (0 : Nat)
            (avLen
                (Av.sl
                  (List.take (avLen (Av.sl (List.take n xs) n))
                    (List.take n xs ++ mk3 (avLen (Av.sl (List.take n xs) n))))
                  (avLen (Av.sl (List.take n xs) n))) /
              (16 : Nat))),
      (0 : Nat) < (2 : Nat),
      avLen
              (Av.sl
                (List.take (avLen (Av.sl (List.take n xs) n))
                  (List.take n xs ++ mk3 (avLen (Av.sl (List.take n xs) n))))
                (avLen (Av.sl (List.take n xs) n))) /
            (16 : Nat) *
          (2 : Nat) ≤
        List.length
          (idL (List.take (avLen (Av.sl (List.take n xs) n)) (List.take n xs ++ mk3 (avLen (Av.sl (List.take n xs) n))))
            (0 : Nat)
            (avLen
                (Av.sl
                  (List.take (avLen (Av.sl (List.take n xs) n))
                    (List.take n xs ++ mk3 (avLen (Av.sl (List.take n xs) n))))
                  (avLen (Av.sl (List.take n xs) n))) /
              (16 : Nat))),
      Fl
        (List.take
          (avLen
                (Av.sl
                  (List.take (avLen (Av.sl (List.take n xs) n))
                    (List.take n xs ++ mk3 (avLen (Av.sl (List.take n xs) n))))
                  (avLen (Av.sl (List.take n xs) n))) /
              (16 : Nat) *
            (2 : Nat))
          (idL (List.take (avLen (Av.sl (List.take n xs) n)) (List.take n xs ++ mk3 (avLen (Av.sl (List.take n xs) n))))
            (0 : Nat)
            (avLen
                (Av.sl
                  (List.take (avLen (Av.sl (List.take n xs) n))
                    (List.take n xs ++ mk3 (avLen (Av.sl (List.take n xs) n))))
                  (avLen (Av.sl (List.take n xs) n))) /
              (16 : Nat)))),
      capBig + (4 : Nat) = capBig + (4 : Nat),
      avLen (Av.sl (List.take n xs) n) / (16 : Nat) * (2 : Nat) ≤
        List.length (idL (List.take n xs) (0 : Nat) (avLen (Av.sl (List.take n xs) n) / (16 : Nat))),
      (0 : Nat) < (2 : Nat),
      avLen (Av.sl (List.take n xs) n) / (16 : Nat) * (2 : Nat) ≤
        List.length (idL (List.take n xs) (0 : Nat) (avLen (Av.sl (List.take n xs) n) / (16 : Nat))),
      Fl
        (List.take (avLen (Av.sl (List.take n xs) n) / (16 : Nat) * (2 : Nat))
          (idL (List.take n xs) (0 : Nat) (avLen (Av.sl (List.take n xs) n) / (16 : Nat)))),
      Ints IntKind.u64
        (List.take
          (avLen
                (Av.sl
                  (List.take (avLen (Av.sl (List.take n xs) n))
                    (List.take n xs ++ mk3 (avLen (Av.sl (List.take n xs) n))))
                  (avLen (Av.sl (List.take n xs) n))) /
              (16 : Nat) *
            (2 : Nat))
          (idL (List.take (avLen (Av.sl (List.take n xs) n)) (List.take n xs ++ mk3 (avLen (Av.sl (List.take n xs) n))))
            (0 : Nat)
            (avLen
                (Av.sl
                  (List.take (avLen (Av.sl (List.take n xs) n))
                    (List.take n xs ++ mk3 (avLen (Av.sl (List.take n xs) n))))
                  (avLen (Av.sl (List.take n xs) n))) /
              (16 : Nat)))),
      List.take (avLen (Av.sl (List.take n xs) n) / (16 : Nat) * (2 : Nat))
          (idL (List.take n xs) (0 : Nat) (avLen (Av.sl (List.take n xs) n) / (16 : Nat))) =
        List.take
          (avLen
                (Av.sl
                  (List.take (avLen (Av.sl (List.take n xs) n))
                    (List.take n xs ++ mk3 (avLen (Av.sl (List.take n xs) n))))
                  (avLen (Av.sl (List.take n xs) n))) /
              (16 : Nat) *
            (2 : Nat))
          (idL (List.take (avLen (Av.sl (List.take n xs) n)) (List.take n xs ++ mk3 (avLen (Av.sl (List.take n xs) n))))
            (0 : Nat)
            (avLen
                (Av.sl
                  (List.take (avLen (Av.sl (List.take n xs) n))
                    (List.take n xs ++ mk3 (avLen (Av.sl (List.take n xs) n))))
                  (avLen (Av.sl (List.take n xs) n))) /
              (16 : Nat))),
      avLen
          (Av.sl
            (List.take (avLen (Av.sl (List.take n xs) n) / (16 : Nat) * (2 : Nat))
              (idL (List.take n xs) (0 : Nat) (avLen (Av.sl (List.take n xs) n) / (16 : Nat))))
            (avLen (Av.sl (List.take n xs) n) / (16 : Nat))) =
        avLen
          (Av.sl
            (List.take
              (avLen
                    (Av.sl
                      (List.take (avLen (Av.sl (List.take n xs) n))
                        (List.take n xs ++ mk3 (avLen (Av.sl (List.take n xs) n))))
                      (avLen (Av.sl (List.take n xs) n))) /
                  (16 : Nat) *
                (2 : Nat))
              (idL
                (List.take (avLen (Av.sl (List.take n xs) n))
                  (List.take n xs ++ mk3 (avLen (Av.sl (List.take n xs) n))))
                (0 : Nat)
                (avLen
                    (Av.sl
                      (List.take (avLen (Av.sl (List.take n xs) n))
                        (List.take n xs ++ mk3 (avLen (Av.sl (List.take n xs) n))))
                      (avLen (Av.sl (List.take n xs) n))) /
                  (16 : Nat))))
            (avLen
                (Av.sl
                  (List.take (avLen (Av.sl (List.take n xs) n))
                    (List.take n xs ++ mk3 (avLen (Av.sl (List.take n xs) n))))
                  (avLen (Av.sl (List.take n xs) n))) /
              (16 : Nat))),
      Byts [], Byts [], true = true, avLen (Av.sl (List.take n xs) n) + (3 : Nat) ≤ (9223372036854775807 : Nat),
      avLen (Av.sl (List.take n xs) n) + (3 : Nat) ≤
        List.length (List.take n xs ++ mk3 (avLen (Av.sl (List.take n xs) n))),
      Fl
        (List.take (avLen (Av.sl (List.take n xs) n) + (3 : Nat))
          (List.take n xs ++ mk3 (avLen (Av.sl (List.take n xs) n)))),
      n ≤ c ∧ c ≤ (9223372036854775807 : Nat), n ≤ List.length xs, Fl (List.take n xs),
      Byts
        (List.take (avLen (Av.sl (List.take n xs) n) + (3 : Nat))
          (List.take n xs ++ mk3 (avLen (Av.sl (List.take n xs) n)))),
      Byts (List.take n xs), avLen (Av.sl (List.take n xs) n) = avLen (Av.sl (List.take n xs) n),
      avLen (Av.sl (List.take n xs) n) + (3 : Nat) = avLen (Av.sl (List.take n xs) n) + (3 : Nat),
      avLen (Av.sl (List.take n xs) n) ≤ (1099511627776 : Nat),
      decide
          (intsOf
              (List.take (avLen (Av.sl (List.take n xs) n) + (3 : Nat))
                (List.take n xs ++ mk3 (avLen (Av.sl (List.take n xs) n)))) =
            intsOf (List.take n xs ++ mk3 (avLen (Av.sl (List.take n xs) n)))) =
        true]) := by kernel_rfl
theorem li_e_ok0 (xs ys : List Value) (n c d : Nat) : runZ (illV 4 Try.prog) Try.prog 5 6 [illA n c, illE 0 d] [(0, ⟨.old, xs⟩), (1, ⟨.old, ys⟩)] 2 ([false, false] ++ [false, false, false] ++ [false, false, false] ++ [false, true] ++ [false, true] ++ [true, true]) =
Res.ok
  ((Value.bool true, [((0 : Nat), Rw.mk Kd.old xs), ((1 : Nat), Rw.mk Kd.old ys)], (6 : Nat), []), [],
    [decide ((↑n : Int) > (200 : Int)) = false, false = false, n ≤ c ∧ c ≤ (9223372036854775807 : Nat),
      n ≤ List.length xs, Fl (List.take n xs), Byts (List.take n xs),
      avLen (Av.sl (List.take n xs) n) ≤ (1099511627776 : Nat),
      avLen (Av.sl (List.take n xs) n) ≤ avLen (Av.sl (List.take n xs) n) + (3 : Nat) ∧
        avLen (Av.sl (List.take n xs) n) + (3 : Nat) ≤ (9223372036854775807 : Nat),
      avLen (Av.sl (List.take n xs) n) ≤ List.length (List.take n xs ++ mk3 (avLen (Av.sl (List.take n xs) n))),
      Fl (List.take (avLen (Av.sl (List.take n xs) n)) (List.take n xs ++ mk3 (avLen (Av.sl (List.take n xs) n)))),
      Byts (List.take (avLen (Av.sl (List.take n xs) n)) (List.take n xs ++ mk3 (avLen (Av.sl (List.take n xs) n)))),
      avLen
            (Av.sl
              (List.take (avLen (Av.sl (List.take n xs) n)) (List.take n xs ++ mk3 (avLen (Av.sl (List.take n xs) n))))
              (avLen (Av.sl (List.take n xs) n))) %
          (16 : Nat) =
        (0 : Nat),
      avLen
          (Av.sl
            (List.take (avLen (Av.sl (List.take n xs) n)) (List.take n xs ++ mk3 (avLen (Av.sl (List.take n xs) n))))
            (avLen (Av.sl (List.take n xs) n))) ≤
        (128 : Nat),
      decide
          (avLen
              (Av.sl
                (List.take (avLen (Av.sl (List.take n xs) n))
                  (List.take n xs ++ mk3 (avLen (Av.sl (List.take n xs) n))))
                (avLen (Av.sl (List.take n xs) n))) =
            (0 : Nat)) =
        false,
      n ≤ c ∧ c ≤ (9223372036854775807 : Nat), n ≤ List.length xs, Fl (List.take n xs), Byts (List.take n xs),
      avLen (Av.sl (List.take n xs) n) % (16 : Nat) = (0 : Nat), avLen (Av.sl (List.take n xs) n) ≤ (128 : Nat),
      decide (avLen (Av.sl (List.take n xs) n) = (0 : Nat)) = false,
      (0 : Nat) ≤ (0 : Nat) ∧ (0 : Nat) ≤ (9223372036854775807 : Nat), (0 : Nat) ≤ (0 : Nat),
      Fl
        (List.take (0 : Nat)
          (splice (zrep [Value.int IntKind.u64 (0 : Int), Value.int IntKind.u64 (0 : Int)] (0 : Nat)) (0 : Nat)
            (List.take (0 : Nat) (List.drop (0 : Nat) ys)))),
      (0 : Nat) = (0 : Nat), (0 : Nat) ≤ d ∧ d ≤ (9223372036854775807 : Nat), (0 : Nat) ≤ List.length ys,
      Fl (List.take (0 : Nat) ys), (0 : Nat) = (0 : Nat), capBig + (3 : Nat) = capBig + (3 : Nat),
      avLen
              (Av.sl
                (List.take (avLen (Av.sl (List.take n xs) n))
                  (List.take n xs ++ mk3 (avLen (Av.sl (List.take n xs) n))))
                (avLen (Av.sl (List.take n xs) n))) /
            (16 : Nat) *
          (2 : Nat) ≤
        List.length
          (idL (List.take (avLen (Av.sl (List.take n xs) n)) (List.take n xs ++ mk3 (avLen (Av.sl (List.take n xs) n))))
            (0 : Nat)
            (avLen
                (Av.sl
                  (List.take (avLen (Av.sl (List.take n xs) n))
                    (List.take n xs ++ mk3 (avLen (Av.sl (List.take n xs) n))))
                  (avLen (Av.sl (List.take n xs) n))) /
              (16 : Nat))),
      (0 : Nat) < (2 : Nat),
      avLen
              (Av.sl
                (List.take (avLen (Av.sl (List.take n xs) n))
                  (List.take n xs ++ mk3 (avLen (Av.sl (List.take n xs) n))))
                (avLen (Av.sl (List.take n xs) n))) /
            (16 : Nat) *
          (2 : Nat) ≤
        List.length
          (idL (List.take (avLen (Av.sl (List.take n xs) n)) (List.take n xs ++ mk3 (avLen (Av.sl (List.take n xs) n))))
            (0 : Nat)
            (avLen
                (Av.sl
                  (List.take (avLen (Av.sl (List.take n xs) n))
                    (List.take n xs ++ mk3 (avLen (Av.sl (List.take n xs) n))))
                  (avLen (Av.sl (List.take n xs) n))) /
              (16 : Nat))),
      Fl
        (List.take
          (avLen
                (Av.sl
                  (List.take (avLen (Av.sl (List.take n xs) n))
                    (List.take n xs ++ mk3 (avLen (Av.sl (List.take n xs) n))))
                  (avLen (Av.sl (List.take n xs) n))) /
              (16 : Nat) *
            (2 : Nat))
          (idL (List.take (avLen (Av.sl (List.take n xs) n)) (List.take n xs ++ mk3 (avLen (Av.sl (List.take n xs) n))))
            (0 : Nat)
            (avLen
                (Av.sl
                  (List.take (avLen (Av.sl (List.take n xs) n))
                    (List.take n xs ++ mk3 (avLen (Av.sl (List.take n xs) n))))
                  (avLen (Av.sl (List.take n xs) n))) /
              (16 : Nat)))),
      capBig + (4 : Nat) = capBig + (4 : Nat),
      avLen (Av.sl (List.take n xs) n) / (16 : Nat) * (2 : Nat) ≤
        List.length (idL (List.take n xs) (0 : Nat) (avLen (Av.sl (List.take n xs) n) / (16 : Nat))),
      (0 : Nat) < (2 : Nat),
      avLen (Av.sl (List.take n xs) n) / (16 : Nat) * (2 : Nat) ≤
        List.length (idL (List.take n xs) (0 : Nat) (avLen (Av.sl (List.take n xs) n) / (16 : Nat))),
      Fl
        (List.take (avLen (Av.sl (List.take n xs) n) / (16 : Nat) * (2 : Nat))
          (idL (List.take n xs) (0 : Nat) (avLen (Av.sl (List.take n xs) n) / (16 : Nat)))),
      Ints IntKind.u64
        (List.take
          (avLen
                (Av.sl
                  (List.take (avLen (Av.sl (List.take n xs) n))
                    (List.take n xs ++ mk3 (avLen (Av.sl (List.take n xs) n))))
                  (avLen (Av.sl (List.take n xs) n))) /
              (16 : Nat) *
            (2 : Nat))
          (idL (List.take (avLen (Av.sl (List.take n xs) n)) (List.take n xs ++ mk3 (avLen (Av.sl (List.take n xs) n))))
            (0 : Nat)
            (avLen
                (Av.sl
                  (List.take (avLen (Av.sl (List.take n xs) n))
                    (List.take n xs ++ mk3 (avLen (Av.sl (List.take n xs) n))))
                  (avLen (Av.sl (List.take n xs) n))) /
              (16 : Nat)))),
      List.take (avLen (Av.sl (List.take n xs) n) / (16 : Nat) * (2 : Nat))
          (idL (List.take n xs) (0 : Nat) (avLen (Av.sl (List.take n xs) n) / (16 : Nat))) =
        List.take
          (avLen
                (Av.sl
                  (List.take (avLen (Av.sl (List.take n xs) n))
                    (List.take n xs ++ mk3 (avLen (Av.sl (List.take n xs) n))))
                  (avLen (Av.sl (List.take n xs) n))) /
              (16 : Nat) *
            (2 : Nat))
          (idL (List.take (avLen (Av.sl (List.take n xs) n)) (List.take n xs ++ mk3 (avLen (Av.sl (List.take n xs) n))))
            (0 : Nat)
            (avLen
                (Av.sl
                  (List.take (avLen (Av.sl (List.take n xs) n))
                    (List.take n xs ++ mk3 (avLen (Av.sl (List.take n xs) n))))
                  (avLen (Av.sl (List.take n xs) n))) /
              (16 : Nat))),
      avLen
          (Av.sl
            (List.take (avLen (Av.sl (List.take n xs) n) / (16 : Nat) * (2 : Nat))
              (idL (List.take n xs) (0 : Nat) (avLen (Av.sl (List.take n xs) n) / (16 : Nat))))
            (avLen (Av.sl (List.take n xs) n) / (16 : Nat))) =
        avLen
          (Av.sl
            (List.take
              (avLen
                    (Av.sl
                      (List.take (avLen (Av.sl (List.take n xs) n))
                        (List.take n xs ++ mk3 (avLen (Av.sl (List.take n xs) n))))
                      (avLen (Av.sl (List.take n xs) n))) /
                  (16 : Nat) *
                (2 : Nat))
              (idL
                (List.take (avLen (Av.sl (List.take n xs) n))
                  (List.take n xs ++ mk3 (avLen (Av.sl (List.take n xs) n))))
                (0 : Nat)
                (avLen
                    (Av.sl
                      (List.take (avLen (Av.sl (List.take n xs) n))
                        (List.take n xs ++ mk3 (avLen (Av.sl (List.take n xs) n))))
                      (avLen (Av.sl (List.take n xs) n))) /
                  (16 : Nat))))
            (avLen
                (Av.sl
                  (List.take (avLen (Av.sl (List.take n xs) n))
                    (List.take n xs ++ mk3 (avLen (Av.sl (List.take n xs) n))))
                  (avLen (Av.sl (List.take n xs) n))) /
              (16 : Nat))),
      Byts [], Byts [], true = true, avLen (Av.sl (List.take n xs) n) + (3 : Nat) ≤ (9223372036854775807 : Nat),
      avLen (Av.sl (List.take n xs) n) + (3 : Nat) ≤
        List.length (List.take n xs ++ mk3 (avLen (Av.sl (List.take n xs) n))),
      Fl
        (List.take (avLen (Av.sl (List.take n xs) n) + (3 : Nat))
          (List.take n xs ++ mk3 (avLen (Av.sl (List.take n xs) n)))),
      n ≤ c ∧ c ≤ (9223372036854775807 : Nat), n ≤ List.length xs, Fl (List.take n xs),
      Byts
        (List.take (avLen (Av.sl (List.take n xs) n) + (3 : Nat))
          (List.take n xs ++ mk3 (avLen (Av.sl (List.take n xs) n)))),
      Byts (List.take n xs), avLen (Av.sl (List.take n xs) n) = avLen (Av.sl (List.take n xs) n),
      avLen (Av.sl (List.take n xs) n) + (3 : Nat) = avLen (Av.sl (List.take n xs) n) + (3 : Nat),
      avLen (Av.sl (List.take n xs) n) ≤ (1099511627776 : Nat),
      decide
          (intsOf
              (List.take (avLen (Av.sl (List.take n xs) n) + (3 : Nat))
                (List.take n xs ++ mk3 (avLen (Av.sl (List.take n xs) n)))) =
            intsOf (List.take n xs ++ mk3 (avLen (Av.sl (List.take n xs) n)))) =
        true]) := by kernel_rfl
theorem li_b_ok0 (xs ys : List Value) (n c m d : Nat) : runZ (illV 2 Try.prog) Try.prog 5 6 [illA n c, illE m d] [(0, ⟨.old, xs⟩), (1, ⟨.old, ys⟩)] 2 ([false, false] ++ [false, false, false] ++ [false, false, false] ++ [true] ++ [true] ++ [true, true]) =
Res.ok
  ((Value.bool true, [((0 : Nat), Rw.mk Kd.old xs), ((1 : Nat), Rw.mk Kd.old ys)], (7 : Nat), []), [],
    [decide ((↑n : Int) > (200 : Int)) = false, decide ((↑m : Int) > (20 : Int)) = false,
      n ≤ c ∧ c ≤ (9223372036854775807 : Nat), n ≤ List.length xs, Fl (List.take n xs), Byts (List.take n xs),
      avLen (Av.sl (List.take n xs) n) ≤ (1099511627776 : Nat),
      avLen (Av.sl (List.take n xs) n) ≤ avLen (Av.sl (List.take n xs) n) + (3 : Nat) ∧
        avLen (Av.sl (List.take n xs) n) + (3 : Nat) ≤ (9223372036854775807 : Nat),
      avLen (Av.sl (List.take n xs) n) ≤ List.length (List.take n xs ++ mk3 (avLen (Av.sl (List.take n xs) n))),
      Fl (List.take (avLen (Av.sl (List.take n xs) n)) (List.take n xs ++ mk3 (avLen (Av.sl (List.take n xs) n)))),
      Byts (List.take (avLen (Av.sl (List.take n xs) n)) (List.take n xs ++ mk3 (avLen (Av.sl (List.take n xs) n)))),
      avLen
            (Av.sl
              (List.take (avLen (Av.sl (List.take n xs) n)) (List.take n xs ++ mk3 (avLen (Av.sl (List.take n xs) n))))
              (avLen (Av.sl (List.take n xs) n))) %
          (16 : Nat) =
        (0 : Nat),
      avLen
          (Av.sl
            (List.take (avLen (Av.sl (List.take n xs) n)) (List.take n xs ++ mk3 (avLen (Av.sl (List.take n xs) n))))
            (avLen (Av.sl (List.take n xs) n))) ≤
        (128 : Nat),
      decide
          (avLen
              (Av.sl
                (List.take (avLen (Av.sl (List.take n xs) n))
                  (List.take n xs ++ mk3 (avLen (Av.sl (List.take n xs) n))))
                (avLen (Av.sl (List.take n xs) n))) =
            (0 : Nat)) =
        false,
      n ≤ c ∧ c ≤ (9223372036854775807 : Nat), n ≤ List.length xs, Fl (List.take n xs), Byts (List.take n xs),
      avLen (Av.sl (List.take n xs) n) % (16 : Nat) = (0 : Nat), avLen (Av.sl (List.take n xs) n) ≤ (128 : Nat),
      decide (avLen (Av.sl (List.take n xs) n) = (0 : Nat)) = false, (0 : Nat) < (18446744073709551616 : Nat),
      (0 : Nat) < (0 : Nat) + m, (0 : Nat) ≤ (0 : Nat),
      ((0 : Nat) + m) * (16 : Nat) ≤ (140737488355328 : Nat) ∧ (0 : Nat) + m ≤ (9223372036854775807 : Nat),
      m * (2 : Nat) ≤ List.length ys, all1 (List.take (m * (2 : Nat)) ys) = true,
      capBig + (6 : Nat) = capBig + (6 : Nat),
      ((0 : Nat) + m) * (2 : Nat) ≤
        List.length
          (List.take (0 : Nat) (zrep [Value.int IntKind.u64 (0 : Int), Value.int IntKind.u64 (0 : Int)] (0 : Nat)) ++
            List.take (m * (2 : Nat)) ys),
      (0 : Nat) < (2 : Nat),
      ((0 : Nat) + m) * (2 : Nat) ≤
        List.length
          (List.take (0 : Nat) (zrep [Value.int IntKind.u64 (0 : Int), Value.int IntKind.u64 (0 : Int)] (0 : Nat)) ++
            List.take (m * (2 : Nat)) ys),
      Fl
        (List.take (((0 : Nat) + m) * (2 : Nat))
          (List.take (0 : Nat) (zrep [Value.int IntKind.u64 (0 : Int), Value.int IntKind.u64 (0 : Int)] (0 : Nat)) ++
            List.take (m * (2 : Nat)) ys)),
      decide
          (avLen
              (Av.sl
                (List.take (((0 : Nat) + m) * (2 : Nat))
                  (List.take (0 : Nat)
                      (zrep [Value.int IntKind.u64 (0 : Int), Value.int IntKind.u64 (0 : Int)] (0 : Nat)) ++
                    List.take (m * (2 : Nat)) ys))
                ((0 : Nat) + m)) ≤
            (8 : Nat)) =
        false,
      m ≤ d ∧ d ≤ (9223372036854775807 : Nat), m * (2 : Nat) ≤ List.length ys, Fl (List.take (m * (2 : Nat)) ys),
      decide (avLen (Av.sl (List.take (m * (2 : Nat)) ys) m) ≤ (8 : Nat)) = false,
      capBig + (3 : Nat) = capBig + (3 : Nat),
      avLen
              (Av.sl
                (List.take (avLen (Av.sl (List.take n xs) n))
                  (List.take n xs ++ mk3 (avLen (Av.sl (List.take n xs) n))))
                (avLen (Av.sl (List.take n xs) n))) /
            (16 : Nat) *
          (2 : Nat) ≤
        List.length
          (idL (List.take (avLen (Av.sl (List.take n xs) n)) (List.take n xs ++ mk3 (avLen (Av.sl (List.take n xs) n))))
            (0 : Nat)
            (avLen
                (Av.sl
                  (List.take (avLen (Av.sl (List.take n xs) n))
                    (List.take n xs ++ mk3 (avLen (Av.sl (List.take n xs) n))))
                  (avLen (Av.sl (List.take n xs) n))) /
              (16 : Nat))),
      (0 : Nat) < (2 : Nat),
      avLen
              (Av.sl
                (List.take (avLen (Av.sl (List.take n xs) n))
                  (List.take n xs ++ mk3 (avLen (Av.sl (List.take n xs) n))))
                (avLen (Av.sl (List.take n xs) n))) /
            (16 : Nat) *
          (2 : Nat) ≤
        List.length
          (idL (List.take (avLen (Av.sl (List.take n xs) n)) (List.take n xs ++ mk3 (avLen (Av.sl (List.take n xs) n))))
            (0 : Nat)
            (avLen
                (Av.sl
                  (List.take (avLen (Av.sl (List.take n xs) n))
                    (List.take n xs ++ mk3 (avLen (Av.sl (List.take n xs) n))))
                  (avLen (Av.sl (List.take n xs) n))) /
              (16 : Nat))),
      Fl
        (List.take
          (avLen
                (Av.sl
                  (List.take (avLen (Av.sl (List.take n xs) n))
                    (List.take n xs ++ mk3 (avLen (Av.sl (List.take n xs) n))))
                  (avLen (Av.sl (List.take n xs) n))) /
              (16 : Nat) *
            (2 : Nat))
          (idL (List.take (avLen (Av.sl (List.take n xs) n)) (List.take n xs ++ mk3 (avLen (Av.sl (List.take n xs) n))))
            (0 : Nat)
            (avLen
                (Av.sl
                  (List.take (avLen (Av.sl (List.take n xs) n))
                    (List.take n xs ++ mk3 (avLen (Av.sl (List.take n xs) n))))
                  (avLen (Av.sl (List.take n xs) n))) /
              (16 : Nat)))),
      capBig + (4 : Nat) = capBig + (4 : Nat),
      avLen (Av.sl (List.take n xs) n) / (16 : Nat) * (2 : Nat) ≤
        List.length (idL (List.take n xs) (0 : Nat) (avLen (Av.sl (List.take n xs) n) / (16 : Nat))),
      (0 : Nat) < (2 : Nat),
      avLen (Av.sl (List.take n xs) n) / (16 : Nat) * (2 : Nat) ≤
        List.length (idL (List.take n xs) (0 : Nat) (avLen (Av.sl (List.take n xs) n) / (16 : Nat))),
      Fl
        (List.take (avLen (Av.sl (List.take n xs) n) / (16 : Nat) * (2 : Nat))
          (idL (List.take n xs) (0 : Nat) (avLen (Av.sl (List.take n xs) n) / (16 : Nat)))),
      Ints IntKind.u64
        (List.take
          (avLen
                (Av.sl
                  (List.take (avLen (Av.sl (List.take n xs) n))
                    (List.take n xs ++ mk3 (avLen (Av.sl (List.take n xs) n))))
                  (avLen (Av.sl (List.take n xs) n))) /
              (16 : Nat) *
            (2 : Nat))
          (idL (List.take (avLen (Av.sl (List.take n xs) n)) (List.take n xs ++ mk3 (avLen (Av.sl (List.take n xs) n))))
            (0 : Nat)
            (avLen
                (Av.sl
                  (List.take (avLen (Av.sl (List.take n xs) n))
                    (List.take n xs ++ mk3 (avLen (Av.sl (List.take n xs) n))))
                  (avLen (Av.sl (List.take n xs) n))) /
              (16 : Nat)))),
      List.take (avLen (Av.sl (List.take n xs) n) / (16 : Nat) * (2 : Nat))
          (idL (List.take n xs) (0 : Nat) (avLen (Av.sl (List.take n xs) n) / (16 : Nat))) =
        List.take
          (avLen
                (Av.sl
                  (List.take (avLen (Av.sl (List.take n xs) n))
                    (List.take n xs ++ mk3 (avLen (Av.sl (List.take n xs) n))))
                  (avLen (Av.sl (List.take n xs) n))) /
              (16 : Nat) *
            (2 : Nat))
          (idL (List.take (avLen (Av.sl (List.take n xs) n)) (List.take n xs ++ mk3 (avLen (Av.sl (List.take n xs) n))))
            (0 : Nat)
            (avLen
                (Av.sl
                  (List.take (avLen (Av.sl (List.take n xs) n))
                    (List.take n xs ++ mk3 (avLen (Av.sl (List.take n xs) n))))
                  (avLen (Av.sl (List.take n xs) n))) /
              (16 : Nat))),
      avLen
          (Av.sl
            (List.take (avLen (Av.sl (List.take n xs) n) / (16 : Nat) * (2 : Nat))
              (idL (List.take n xs) (0 : Nat) (avLen (Av.sl (List.take n xs) n) / (16 : Nat))))
            (avLen (Av.sl (List.take n xs) n) / (16 : Nat))) =
        avLen
          (Av.sl
            (List.take
              (avLen
                    (Av.sl
                      (List.take (avLen (Av.sl (List.take n xs) n))
                        (List.take n xs ++ mk3 (avLen (Av.sl (List.take n xs) n))))
                      (avLen (Av.sl (List.take n xs) n))) /
                  (16 : Nat) *
                (2 : Nat))
              (idL
                (List.take (avLen (Av.sl (List.take n xs) n))
                  (List.take n xs ++ mk3 (avLen (Av.sl (List.take n xs) n))))
                (0 : Nat)
                (avLen
                    (Av.sl
                      (List.take (avLen (Av.sl (List.take n xs) n))
                        (List.take n xs ++ mk3 (avLen (Av.sl (List.take n xs) n))))
                      (avLen (Av.sl (List.take n xs) n))) /
                  (16 : Nat))))
            (avLen
                (Av.sl
                  (List.take (avLen (Av.sl (List.take n xs) n))
                    (List.take n xs ++ mk3 (avLen (Av.sl (List.take n xs) n))))
                  (avLen (Av.sl (List.take n xs) n))) /
              (16 : Nat))),
      Byts [], Byts [], true = true, avLen (Av.sl (List.take n xs) n) + (3 : Nat) ≤ (9223372036854775807 : Nat),
      avLen (Av.sl (List.take n xs) n) + (3 : Nat) ≤
        List.length (List.take n xs ++ mk3 (avLen (Av.sl (List.take n xs) n))),
      Fl
        (List.take (avLen (Av.sl (List.take n xs) n) + (3 : Nat))
          (List.take n xs ++ mk3 (avLen (Av.sl (List.take n xs) n)))),
      n ≤ c ∧ c ≤ (9223372036854775807 : Nat), n ≤ List.length xs, Fl (List.take n xs),
      Byts
        (List.take (avLen (Av.sl (List.take n xs) n) + (3 : Nat))
          (List.take n xs ++ mk3 (avLen (Av.sl (List.take n xs) n)))),
      Byts (List.take n xs), avLen (Av.sl (List.take n xs) n) = avLen (Av.sl (List.take n xs) n),
      avLen (Av.sl (List.take n xs) n) + (3 : Nat) = avLen (Av.sl (List.take n xs) n) + (3 : Nat),
      avLen (Av.sl (List.take n xs) n) ≤ (1099511627776 : Nat),
      decide
          (intsOf
              (List.take (avLen (Av.sl (List.take n xs) n) + (3 : Nat))
                (List.take n xs ++ mk3 (avLen (Av.sl (List.take n xs) n)))) =
            intsOf (List.take n xs ++ mk3 (avLen (Av.sl (List.take n xs) n)))) =
        true]) := by kernel_rfl
theorem li_g_ok0 (xs ys : List Value) (n c m d : Nat) : runZ (illV 2 Try.prog) Try.prog 5 6 [illA n c, illE m d] [(0, ⟨.old, xs⟩), (1, ⟨.old, ys⟩)] 2 ([false, false] ++ [false, false, false] ++ [false, false, false] ++ [false, false] ++ [false, false] ++ [true, true]) =
Res.ok
  ((Value.bool true, [((0 : Nat), Rw.mk Kd.old xs), ((1 : Nat), Rw.mk Kd.old ys)], (9 : Nat), []), [],
    [decide ((↑n : Int) > (200 : Int)) = false, decide ((↑m : Int) > (20 : Int)) = false,
      n ≤ c ∧ c ≤ (9223372036854775807 : Nat), n ≤ List.length xs, Fl (List.take n xs), Byts (List.take n xs),
      avLen (Av.sl (List.take n xs) n) ≤ (1099511627776 : Nat),
      avLen (Av.sl (List.take n xs) n) ≤ avLen (Av.sl (List.take n xs) n) + (3 : Nat) ∧
        avLen (Av.sl (List.take n xs) n) + (3 : Nat) ≤ (9223372036854775807 : Nat),
      avLen (Av.sl (List.take n xs) n) ≤ List.length (List.take n xs ++ mk3 (avLen (Av.sl (List.take n xs) n))),
      Fl (List.take (avLen (Av.sl (List.take n xs) n)) (List.take n xs ++ mk3 (avLen (Av.sl (List.take n xs) n)))),
      Byts (List.take (avLen (Av.sl (List.take n xs) n)) (List.take n xs ++ mk3 (avLen (Av.sl (List.take n xs) n)))),
      avLen
            (Av.sl
              (List.take (avLen (Av.sl (List.take n xs) n)) (List.take n xs ++ mk3 (avLen (Av.sl (List.take n xs) n))))
              (avLen (Av.sl (List.take n xs) n))) %
          (16 : Nat) =
        (0 : Nat),
      avLen
          (Av.sl
            (List.take (avLen (Av.sl (List.take n xs) n)) (List.take n xs ++ mk3 (avLen (Av.sl (List.take n xs) n))))
            (avLen (Av.sl (List.take n xs) n))) ≤
        (128 : Nat),
      decide
          (avLen
              (Av.sl
                (List.take (avLen (Av.sl (List.take n xs) n))
                  (List.take n xs ++ mk3 (avLen (Av.sl (List.take n xs) n))))
                (avLen (Av.sl (List.take n xs) n))) =
            (0 : Nat)) =
        false,
      n ≤ c ∧ c ≤ (9223372036854775807 : Nat), n ≤ List.length xs, Fl (List.take n xs), Byts (List.take n xs),
      avLen (Av.sl (List.take n xs) n) % (16 : Nat) = (0 : Nat), avLen (Av.sl (List.take n xs) n) ≤ (128 : Nat),
      decide (avLen (Av.sl (List.take n xs) n) = (0 : Nat)) = false, (0 : Nat) < (18446744073709551616 : Nat),
      (0 : Nat) < (0 : Nat) + m, (0 : Nat) ≤ (0 : Nat),
      ((0 : Nat) + m) * (16 : Nat) ≤ (140737488355328 : Nat) ∧ (0 : Nat) + m ≤ (9223372036854775807 : Nat),
      m * (2 : Nat) ≤ List.length ys, all1 (List.take (m * (2 : Nat)) ys) = true,
      capBig + (6 : Nat) = capBig + (6 : Nat),
      ((0 : Nat) + m) * (2 : Nat) ≤
        List.length
          (List.take (0 : Nat) (zrep [Value.int IntKind.u64 (0 : Int), Value.int IntKind.u64 (0 : Int)] (0 : Nat)) ++
            List.take (m * (2 : Nat)) ys),
      (0 : Nat) < (2 : Nat),
      ((0 : Nat) + m) * (2 : Nat) ≤
        List.length
          (List.take (0 : Nat) (zrep [Value.int IntKind.u64 (0 : Int), Value.int IntKind.u64 (0 : Int)] (0 : Nat)) ++
            List.take (m * (2 : Nat)) ys),
      Fl
        (List.take (((0 : Nat) + m) * (2 : Nat))
          (List.take (0 : Nat) (zrep [Value.int IntKind.u64 (0 : Int), Value.int IntKind.u64 (0 : Int)] (0 : Nat)) ++
            List.take (m * (2 : Nat)) ys)),
      Ints IntKind.u64
        (List.take (((0 : Nat) + m) * (2 : Nat))
          (List.take (0 : Nat) (zrep [Value.int IntKind.u64 (0 : Int), Value.int IntKind.u64 (0 : Int)] (0 : Nat)) ++
            List.take (m * (2 : Nat)) ys)),
      avLen
          (Av.sl
            (List.take (((0 : Nat) + m) * (2 : Nat))
              (List.take (0 : Nat)
                  (zrep [Value.int IntKind.u64 (0 : Int), Value.int IntKind.u64 (0 : Int)] (0 : Nat)) ++
                List.take (m * (2 : Nat)) ys))
            ((0 : Nat) + m)) ≤
        (8 : Nat),
      decide
          (avLen
              (Av.sl
                (List.take (((0 : Nat) + m) * (2 : Nat))
                  (List.take (0 : Nat)
                      (zrep [Value.int IntKind.u64 (0 : Int), Value.int IntKind.u64 (0 : Int)] (0 : Nat)) ++
                    List.take (m * (2 : Nat)) ys))
                ((0 : Nat) + m)) =
            (0 : Nat)) =
        false,
      m ≤ d ∧ d ≤ (9223372036854775807 : Nat), m * (2 : Nat) ≤ List.length ys, Fl (List.take (m * (2 : Nat)) ys),
      Ints IntKind.u64 (List.take (m * (2 : Nat)) ys), avLen (Av.sl (List.take (m * (2 : Nat)) ys) m) ≤ (8 : Nat),
      decide (avLen (Av.sl (List.take (m * (2 : Nat)) ys) m) = (0 : Nat)) = false,
      capBig + (3 : Nat) = capBig + (3 : Nat),
      avLen
              (Av.sl
                (List.take (avLen (Av.sl (List.take n xs) n))
                  (List.take n xs ++ mk3 (avLen (Av.sl (List.take n xs) n))))
                (avLen (Av.sl (List.take n xs) n))) /
            (16 : Nat) *
          (2 : Nat) ≤
        List.length
          (idL (List.take (avLen (Av.sl (List.take n xs) n)) (List.take n xs ++ mk3 (avLen (Av.sl (List.take n xs) n))))
            (0 : Nat)
            (avLen
                (Av.sl
                  (List.take (avLen (Av.sl (List.take n xs) n))
                    (List.take n xs ++ mk3 (avLen (Av.sl (List.take n xs) n))))
                  (avLen (Av.sl (List.take n xs) n))) /
              (16 : Nat))),
      (0 : Nat) < (2 : Nat),
      avLen
              (Av.sl
                (List.take (avLen (Av.sl (List.take n xs) n))
                  (List.take n xs ++ mk3 (avLen (Av.sl (List.take n xs) n))))
                (avLen (Av.sl (List.take n xs) n))) /
            (16 : Nat) *
          (2 : Nat) ≤
        List.length
          (idL (List.take (avLen (Av.sl (List.take n xs) n)) (List.take n xs ++ mk3 (avLen (Av.sl (List.take n xs) n))))
            (0 : Nat)
            (avLen
                (Av.sl
                  (List.take (avLen (Av.sl (List.take n xs) n))
                    (List.take n xs ++ mk3 (avLen (Av.sl (List.take n xs) n))))
                  (avLen (Av.sl (List.take n xs) n))) /
              (16 : Nat))),
      Fl
        (List.take
          (avLen
                (Av.sl
                  (List.take (avLen (Av.sl (List.take n xs) n))
                    (List.take n xs ++ mk3 (avLen (Av.sl (List.take n xs) n))))
                  (avLen (Av.sl (List.take n xs) n))) /
              (16 : Nat) *
            (2 : Nat))
          (idL (List.take (avLen (Av.sl (List.take n xs) n)) (List.take n xs ++ mk3 (avLen (Av.sl (List.take n xs) n))))
            (0 : Nat)
            (avLen
                (Av.sl
                  (List.take (avLen (Av.sl (List.take n xs) n))
                    (List.take n xs ++ mk3 (avLen (Av.sl (List.take n xs) n))))
                  (avLen (Av.sl (List.take n xs) n))) /
              (16 : Nat)))),
      capBig + (4 : Nat) = capBig + (4 : Nat),
      avLen (Av.sl (List.take n xs) n) / (16 : Nat) * (2 : Nat) ≤
        List.length (idL (List.take n xs) (0 : Nat) (avLen (Av.sl (List.take n xs) n) / (16 : Nat))),
      (0 : Nat) < (2 : Nat),
      avLen (Av.sl (List.take n xs) n) / (16 : Nat) * (2 : Nat) ≤
        List.length (idL (List.take n xs) (0 : Nat) (avLen (Av.sl (List.take n xs) n) / (16 : Nat))),
      Fl
        (List.take (avLen (Av.sl (List.take n xs) n) / (16 : Nat) * (2 : Nat))
          (idL (List.take n xs) (0 : Nat) (avLen (Av.sl (List.take n xs) n) / (16 : Nat)))),
      Ints IntKind.u64
        (List.take
          (avLen
                (Av.sl
                  (List.take (avLen (Av.sl (List.take n xs) n))
                    (List.take n xs ++ mk3 (avLen (Av.sl (List.take n xs) n))))
                  (avLen (Av.sl (List.take n xs) n))) /
              (16 : Nat) *
            (2 : Nat))
          (idL (List.take (avLen (Av.sl (List.take n xs) n)) (List.take n xs ++ mk3 (avLen (Av.sl (List.take n xs) n))))
            (0 : Nat)
            (avLen
                (Av.sl
                  (List.take (avLen (Av.sl (List.take n xs) n))
                    (List.take n xs ++ mk3 (avLen (Av.sl (List.take n xs) n))))
                  (avLen (Av.sl (List.take n xs) n))) /
              (16 : Nat)))),
      List.take (avLen (Av.sl (List.take n xs) n) / (16 : Nat) * (2 : Nat))
          (idL (List.take n xs) (0 : Nat) (avLen (Av.sl (List.take n xs) n) / (16 : Nat))) =
        List.take
          (avLen
                (Av.sl
                  (List.take (avLen (Av.sl (List.take n xs) n))
                    (List.take n xs ++ mk3 (avLen (Av.sl (List.take n xs) n))))
                  (avLen (Av.sl (List.take n xs) n))) /
              (16 : Nat) *
            (2 : Nat))
          (idL (List.take (avLen (Av.sl (List.take n xs) n)) (List.take n xs ++ mk3 (avLen (Av.sl (List.take n xs) n))))
            (0 : Nat)
            (avLen
                (Av.sl
                  (List.take (avLen (Av.sl (List.take n xs) n))
                    (List.take n xs ++ mk3 (avLen (Av.sl (List.take n xs) n))))
                  (avLen (Av.sl (List.take n xs) n))) /
              (16 : Nat))),
      avLen
          (Av.sl
            (List.take (avLen (Av.sl (List.take n xs) n) / (16 : Nat) * (2 : Nat))
              (idL (List.take n xs) (0 : Nat) (avLen (Av.sl (List.take n xs) n) / (16 : Nat))))
            (avLen (Av.sl (List.take n xs) n) / (16 : Nat))) =
        avLen
          (Av.sl
            (List.take
              (avLen
                    (Av.sl
                      (List.take (avLen (Av.sl (List.take n xs) n))
                        (List.take n xs ++ mk3 (avLen (Av.sl (List.take n xs) n))))
                      (avLen (Av.sl (List.take n xs) n))) /
                  (16 : Nat) *
                (2 : Nat))
              (idL
                (List.take (avLen (Av.sl (List.take n xs) n))
                  (List.take n xs ++ mk3 (avLen (Av.sl (List.take n xs) n))))
                (0 : Nat)
                (avLen
                    (Av.sl
                      (List.take (avLen (Av.sl (List.take n xs) n))
                        (List.take n xs ++ mk3 (avLen (Av.sl (List.take n xs) n))))
                      (avLen (Av.sl (List.take n xs) n))) /
                  (16 : Nat))))
            (avLen
                (Av.sl
                  (List.take (avLen (Av.sl (List.take n xs) n))
                    (List.take n xs ++ mk3 (avLen (Av.sl (List.take n xs) n))))
                  (avLen (Av.sl (List.take n xs) n))) /
              (16 : Nat))),
      capBig + (7 : Nat) = capBig + (7 : Nat),
      avLen
            (Av.sl
              (List.take (((0 : Nat) + m) * (2 : Nat))
                (List.take (0 : Nat)
                    (zrep [Value.int IntKind.u64 (0 : Int), Value.int IntKind.u64 (0 : Int)] (0 : Nat)) ++
                  List.take (m * (2 : Nat)) ys))
              ((0 : Nat) + m)) *
          (16 : Nat) ≤
        List.length
          (oiL
            (List.take (((0 : Nat) + m) * (2 : Nat))
              (List.take (0 : Nat)
                  (zrep [Value.int IntKind.u64 (0 : Int), Value.int IntKind.u64 (0 : Int)] (0 : Nat)) ++
                List.take (m * (2 : Nat)) ys))
            (0 : Nat)
            (avLen
              (Av.sl
                (List.take (((0 : Nat) + m) * (2 : Nat))
                  (List.take (0 : Nat)
                      (zrep [Value.int IntKind.u64 (0 : Int), Value.int IntKind.u64 (0 : Int)] (0 : Nat)) ++
                    List.take (m * (2 : Nat)) ys))
                ((0 : Nat) + m)))),
      (0 : Nat) < (1 : Nat),
      avLen
            (Av.sl
              (List.take (((0 : Nat) + m) * (2 : Nat))
                (List.take (0 : Nat)
                    (zrep [Value.int IntKind.u64 (0 : Int), Value.int IntKind.u64 (0 : Int)] (0 : Nat)) ++
                  List.take (m * (2 : Nat)) ys))
              ((0 : Nat) + m)) *
          (16 : Nat) ≤
        List.length
          (oiL
            (List.take (((0 : Nat) + m) * (2 : Nat))
              (List.take (0 : Nat)
                  (zrep [Value.int IntKind.u64 (0 : Int), Value.int IntKind.u64 (0 : Int)] (0 : Nat)) ++
                List.take (m * (2 : Nat)) ys))
            (0 : Nat)
            (avLen
              (Av.sl
                (List.take (((0 : Nat) + m) * (2 : Nat))
                  (List.take (0 : Nat)
                      (zrep [Value.int IntKind.u64 (0 : Int), Value.int IntKind.u64 (0 : Int)] (0 : Nat)) ++
                    List.take (m * (2 : Nat)) ys))
                ((0 : Nat) + m)))),
      Fl
        (List.take
          (avLen
              (Av.sl
                (List.take (((0 : Nat) + m) * (2 : Nat))
                  (List.take (0 : Nat)
                      (zrep [Value.int IntKind.u64 (0 : Int), Value.int IntKind.u64 (0 : Int)] (0 : Nat)) ++
                    List.take (m * (2 : Nat)) ys))
                ((0 : Nat) + m)) *
            (16 : Nat))
          (oiL
            (List.take (((0 : Nat) + m) * (2 : Nat))
              (List.take (0 : Nat)
                  (zrep [Value.int IntKind.u64 (0 : Int), Value.int IntKind.u64 (0 : Int)] (0 : Nat)) ++
                List.take (m * (2 : Nat)) ys))
            (0 : Nat)
            (avLen
              (Av.sl
                (List.take (((0 : Nat) + m) * (2 : Nat))
                  (List.take (0 : Nat)
                      (zrep [Value.int IntKind.u64 (0 : Int), Value.int IntKind.u64 (0 : Int)] (0 : Nat)) ++
                    List.take (m * (2 : Nat)) ys))
                ((0 : Nat) + m))))),
      capBig + (8 : Nat) = capBig + (8 : Nat),
      avLen (Av.sl (List.take (m * (2 : Nat)) ys) m) * (16 : Nat) ≤
        List.length (oiL (List.take (m * (2 : Nat)) ys) (0 : Nat) (avLen (Av.sl (List.take (m * (2 : Nat)) ys) m))),
      (0 : Nat) < (1 : Nat),
      avLen (Av.sl (List.take (m * (2 : Nat)) ys) m) * (16 : Nat) ≤
        List.length (oiL (List.take (m * (2 : Nat)) ys) (0 : Nat) (avLen (Av.sl (List.take (m * (2 : Nat)) ys) m))),
      Fl
        (List.take (avLen (Av.sl (List.take (m * (2 : Nat)) ys) m) * (16 : Nat))
          (oiL (List.take (m * (2 : Nat)) ys) (0 : Nat) (avLen (Av.sl (List.take (m * (2 : Nat)) ys) m)))),
      Byts
        (List.take
          (avLen
              (Av.sl
                (List.take (((0 : Nat) + m) * (2 : Nat))
                  (List.take (0 : Nat)
                      (zrep [Value.int IntKind.u64 (0 : Int), Value.int IntKind.u64 (0 : Int)] (0 : Nat)) ++
                    List.take (m * (2 : Nat)) ys))
                ((0 : Nat) + m)) *
            (16 : Nat))
          (oiL
            (List.take (((0 : Nat) + m) * (2 : Nat))
              (List.take (0 : Nat)
                  (zrep [Value.int IntKind.u64 (0 : Int), Value.int IntKind.u64 (0 : Int)] (0 : Nat)) ++
                List.take (m * (2 : Nat)) ys))
            (0 : Nat)
            (avLen
              (Av.sl
                (List.take (((0 : Nat) + m) * (2 : Nat))
                  (List.take (0 : Nat)
                      (zrep [Value.int IntKind.u64 (0 : Int), Value.int IntKind.u64 (0 : Int)] (0 : Nat)) ++
                    List.take (m * (2 : Nat)) ys))
                ((0 : Nat) + m))))),
      Byts
        (List.take (avLen (Av.sl (List.take (m * (2 : Nat)) ys) m) * (16 : Nat))
          (oiL (List.take (m * (2 : Nat)) ys) (0 : Nat) (avLen (Av.sl (List.take (m * (2 : Nat)) ys) m)))),
      decide
          (intsOf
              (List.take
                (avLen
                    (Av.sl
                      (List.take (((0 : Nat) + m) * (2 : Nat))
                        (List.take (0 : Nat)
                            (zrep [Value.int IntKind.u64 (0 : Int), Value.int IntKind.u64 (0 : Int)] (0 : Nat)) ++
                          List.take (m * (2 : Nat)) ys))
                      ((0 : Nat) + m)) *
                  (16 : Nat))
                (oiL
                  (List.take (((0 : Nat) + m) * (2 : Nat))
                    (List.take (0 : Nat)
                        (zrep [Value.int IntKind.u64 (0 : Int), Value.int IntKind.u64 (0 : Int)] (0 : Nat)) ++
                      List.take (m * (2 : Nat)) ys))
                  (0 : Nat)
                  (avLen
                    (Av.sl
                      (List.take (((0 : Nat) + m) * (2 : Nat))
                        (List.take (0 : Nat)
                            (zrep [Value.int IntKind.u64 (0 : Int), Value.int IntKind.u64 (0 : Int)] (0 : Nat)) ++
                          List.take (m * (2 : Nat)) ys))
                      ((0 : Nat) + m))))) =
            intsOf
              (List.take (avLen (Av.sl (List.take (m * (2 : Nat)) ys) m) * (16 : Nat))
                (oiL (List.take (m * (2 : Nat)) ys) (0 : Nat) (avLen (Av.sl (List.take (m * (2 : Nat)) ys) m))))) =
        true,
      (0 : Nat) = (0 : Nat), capBig + (7 : Nat) = capBig + (7 : Nat),
      avLen
            (Av.sl
              (List.take (((0 : Nat) + m) * (2 : Nat))
                (List.take (0 : Nat)
                    (zrep [Value.int IntKind.u64 (0 : Int), Value.int IntKind.u64 (0 : Int)] (0 : Nat)) ++
                  List.take (m * (2 : Nat)) ys))
              ((0 : Nat) + m)) *
          (16 : Nat) ≤
        List.length
          (oiL
            (List.take (((0 : Nat) + m) * (2 : Nat))
              (List.take (0 : Nat)
                  (zrep [Value.int IntKind.u64 (0 : Int), Value.int IntKind.u64 (0 : Int)] (0 : Nat)) ++
                List.take (m * (2 : Nat)) ys))
            (0 : Nat)
            (avLen
              (Av.sl
                (List.take (((0 : Nat) + m) * (2 : Nat))
                  (List.take (0 : Nat)
                      (zrep [Value.int IntKind.u64 (0 : Int), Value.int IntKind.u64 (0 : Int)] (0 : Nat)) ++
                    List.take (m * (2 : Nat)) ys))
                ((0 : Nat) + m)))),
      Byts
        (oiL
          (List.take (((0 : Nat) + m) * (2 : Nat))
            (List.take (0 : Nat) (zrep [Value.int IntKind.u64 (0 : Int), Value.int IntKind.u64 (0 : Int)] (0 : Nat)) ++
              List.take (m * (2 : Nat)) ys))
          (0 : Nat)
          (avLen
            (Av.sl
              (List.take (((0 : Nat) + m) * (2 : Nat))
                (List.take (0 : Nat)
                    (zrep [Value.int IntKind.u64 (0 : Int), Value.int IntKind.u64 (0 : Int)] (0 : Nat)) ++
                  List.take (m * (2 : Nat)) ys))
              ((0 : Nat) + m)))),
      avLen (Av.sl (List.take n xs) n) + (3 : Nat) ≤ (9223372036854775807 : Nat),
      avLen (Av.sl (List.take n xs) n) + (3 : Nat) ≤
        List.length (List.take n xs ++ mk3 (avLen (Av.sl (List.take n xs) n))),
      Fl
        (List.take (avLen (Av.sl (List.take n xs) n) + (3 : Nat))
          (List.take n xs ++ mk3 (avLen (Av.sl (List.take n xs) n)))),
      n ≤ c ∧ c ≤ (9223372036854775807 : Nat), n ≤ List.length xs, Fl (List.take n xs),
      Byts
        (List.take (avLen (Av.sl (List.take n xs) n) + (3 : Nat))
          (List.take n xs ++ mk3 (avLen (Av.sl (List.take n xs) n)))),
      Byts (List.take n xs), avLen (Av.sl (List.take n xs) n) = avLen (Av.sl (List.take n xs) n),
      avLen (Av.sl (List.take n xs) n) + (3 : Nat) = avLen (Av.sl (List.take n xs) n) + (3 : Nat),
      avLen (Av.sl (List.take n xs) n) ≤ (1099511627776 : Nat),
      decide
          (intsOf
              (List.take (avLen (Av.sl (List.take n xs) n) + (3 : Nat))
                (List.take n xs ++ mk3 (avLen (Av.sl (List.take n xs) n)))) =
            intsOf (List.take n xs ++ mk3 (avLen (Av.sl (List.take n xs) n)))) =
        true]) := by kernel_rfl
theorem li_n_n  : runZ (illV 4 Try.prog) Try.prog 5 6 [.slice none 0 0, .slice none 0 0] [] 2 ([false, false] ++ [false, false, true] ++ [false, false, true] ++ [false, true] ++ [false, true] ++ [true, true]) =
Res.ok
  ((Value.bool true, [], (4 : Nat), []), [],
    [false = false, false = false, Byts [], (0 : Nat) ≤ (1099511627776 : Nat),
      (0 : Nat) ≤ (3 : Nat) ∧ (3 : Nat) ≤ (9223372036854775807 : Nat), (0 : Nat) ≤ (3 : Nat),
      Fl (List.take (0 : Nat) ([] ++ mk3 (0 : Nat))), (0 : Nat) = (0 : Nat), (0 : Nat) = (0 : Nat),
      (0 : Nat) ≤ (0 : Nat) ∧ (0 : Nat) ≤ (9223372036854775807 : Nat), (0 : Nat) ≤ (0 : Nat),
      Fl
        (List.take (0 : Nat)
          (splice (zrep [Value.int IntKind.u64 (0 : Int), Value.int IntKind.u64 (0 : Int)] (0 : Nat)) (0 : Nat) [])),
      (0 : Nat) = (0 : Nat), (0 : Nat) = (0 : Nat), Ints IntKind.u64 [], ([] : List Value) = [], (0 : Nat) = (0 : Nat), Byts [],
      Byts [], true = true, (3 : Nat) ≤ (9223372036854775807 : Nat), (3 : Nat) ≤ (3 : Nat),
      Fl (List.take (3 : Nat) ([] ++ mk3 (0 : Nat))), Byts (List.take (3 : Nat) ([] ++ mk3 (0 : Nat))), Byts [],
      (0 : Nat) = (0 : Nat), (3 : Nat) = (3 : Nat), (0 : Nat) ≤ (1099511627776 : Nat), true = true]) := by kernel_rfl
theorem li_e_n (ys : List Value) (d : Nat) : runZ (illV 4 Try.prog) Try.prog 5 6 [.slice none 0 0, illE 0 d] [(1, ⟨.old, ys⟩)] 2 ([false, false] ++ [false, false, true] ++ [false, false, true] ++ [false, true] ++ [false, true] ++ [true, true]) =
Res.ok
  ((Value.bool true, [((1 : Nat), Rw.mk Kd.old ys)], (4 : Nat), []), [],
    [false = false, false = false, Byts [], (0 : Nat) ≤ (1099511627776 : Nat),
      (0 : Nat) ≤ (3 : Nat) ∧ (3 : Nat) ≤ (9223372036854775807 : Nat), (0 : Nat) ≤ (3 : Nat),
      Fl (List.take (0 : Nat) ([] ++ mk3 (0 : Nat))), (0 : Nat) = (0 : Nat), (0 : Nat) = (0 : Nat),
      (0 : Nat) ≤ (0 : Nat) ∧ (0 : Nat) ≤ (9223372036854775807 : Nat), (0 : Nat) ≤ (0 : Nat),
      Fl
        (List.take (0 : Nat)
          (splice (zrep [Value.int IntKind.u64 (0 : Int), Value.int IntKind.u64 (0 : Int)] (0 : Nat)) (0 : Nat)
            (List.take (0 : Nat) (List.drop (0 : Nat) ys)))),
      (0 : Nat) = (0 : Nat), (0 : Nat) ≤ d ∧ d ≤ (9223372036854775807 : Nat), (0 : Nat) ≤ List.length ys,
      Fl (List.take (0 : Nat) ys), (0 : Nat) = (0 : Nat), Ints IntKind.u64 [], ([] : List Value) = [], (0 : Nat) = (0 : Nat), Byts [],
      Byts [], true = true, (3 : Nat) ≤ (9223372036854775807 : Nat), (3 : Nat) ≤ (3 : Nat),
      Fl (List.take (3 : Nat) ([] ++ mk3 (0 : Nat))), Byts (List.take (3 : Nat) ([] ++ mk3 (0 : Nat))), Byts [],
      (0 : Nat) = (0 : Nat), (3 : Nat) = (3 : Nat), (0 : Nat) ≤ (1099511627776 : Nat), true = true]) := by kernel_rfl
theorem li_b_n (ys : List Value) (m d : Nat) : runZ (illV 2 Try.prog) Try.prog 5 6 [.slice none 0 0, illE m d] [(1, ⟨.old, ys⟩)] 2 ([false, false] ++ [false, false, true] ++ [false, false, true] ++ [true] ++ [true] ++ [true, true]) =
Res.ok
  ((Value.bool true, [((1 : Nat), Rw.mk Kd.old ys)], (5 : Nat), []), [],
    [false = false, decide ((↑m : Int) > (20 : Int)) = false, Byts [], (0 : Nat) ≤ (1099511627776 : Nat),
      (0 : Nat) ≤ (3 : Nat) ∧ (3 : Nat) ≤ (9223372036854775807 : Nat), (0 : Nat) ≤ (3 : Nat),
      Fl (List.take (0 : Nat) ([] ++ mk3 (0 : Nat))), (0 : Nat) = (0 : Nat), (0 : Nat) = (0 : Nat),
      (0 : Nat) < (18446744073709551616 : Nat), (0 : Nat) < (0 : Nat) + m, (0 : Nat) ≤ (0 : Nat),
      ((0 : Nat) + m) * (16 : Nat) ≤ (140737488355328 : Nat) ∧ (0 : Nat) + m ≤ (9223372036854775807 : Nat),
      m * (2 : Nat) ≤ List.length ys, all1 (List.take (m * (2 : Nat)) ys) = true,
      capBig + (4 : Nat) = capBig + (4 : Nat),
      ((0 : Nat) + m) * (2 : Nat) ≤
        List.length
          (List.take (0 : Nat) (zrep [Value.int IntKind.u64 (0 : Int), Value.int IntKind.u64 (0 : Int)] (0 : Nat)) ++
            List.take (m * (2 : Nat)) ys),
      (0 : Nat) < (2 : Nat),
      ((0 : Nat) + m) * (2 : Nat) ≤
        List.length
          (List.take (0 : Nat) (zrep [Value.int IntKind.u64 (0 : Int), Value.int IntKind.u64 (0 : Int)] (0 : Nat)) ++
            List.take (m * (2 : Nat)) ys),
      Fl
        (List.take (((0 : Nat) + m) * (2 : Nat))
          (List.take (0 : Nat) (zrep [Value.int IntKind.u64 (0 : Int), Value.int IntKind.u64 (0 : Int)] (0 : Nat)) ++
            List.take (m * (2 : Nat)) ys)),
      decide
          (avLen
              (Av.sl
                (List.take (((0 : Nat) + m) * (2 : Nat))
                  (List.take (0 : Nat)
                      (zrep [Value.int IntKind.u64 (0 : Int), Value.int IntKind.u64 (0 : Int)] (0 : Nat)) ++
                    List.take (m * (2 : Nat)) ys))
                ((0 : Nat) + m)) ≤
            (8 : Nat)) =
        false,
      m ≤ d ∧ d ≤ (9223372036854775807 : Nat), m * (2 : Nat) ≤ List.length ys, Fl (List.take (m * (2 : Nat)) ys),
      decide (avLen (Av.sl (List.take (m * (2 : Nat)) ys) m) ≤ (8 : Nat)) = false, Ints IntKind.u64 [], ([] : List Value) = [],
      (0 : Nat) = (0 : Nat), Byts [], Byts [], true = true, (3 : Nat) ≤ (9223372036854775807 : Nat),
      (3 : Nat) ≤ (3 : Nat), Fl (List.take (3 : Nat) ([] ++ mk3 (0 : Nat))),
      Byts (List.take (3 : Nat) ([] ++ mk3 (0 : Nat))), Byts [], (0 : Nat) = (0 : Nat), (3 : Nat) = (3 : Nat),
      (0 : Nat) ≤ (1099511627776 : Nat), true = true]) := by kernel_rfl
theorem li_g_n (ys : List Value) (m d : Nat) : runZ (illV 2 Try.prog) Try.prog 5 6 [.slice none 0 0, illE m d] [(1, ⟨.old, ys⟩)] 2 ([false, false] ++ [false, false, true] ++ [false, false, true] ++ [false, false] ++ [false, false] ++ [true, true]) =
Res.ok
  ((Value.bool true, [((1 : Nat), Rw.mk Kd.old ys)], (7 : Nat), []), [],
    [false = false, decide ((↑m : Int) > (20 : Int)) = false, Byts [], (0 : Nat) ≤ (1099511627776 : Nat),
      (0 : Nat) ≤ (3 : Nat) ∧ (3 : Nat) ≤ (9223372036854775807 : Nat), (0 : Nat) ≤ (3 : Nat),
      Fl (List.take (0 : Nat) ([] ++ mk3 (0 : Nat))), (0 : Nat) = (0 : Nat), (0 : Nat) = (0 : Nat),
      (0 : Nat) < (18446744073709551616 : Nat), (0 : Nat) < (0 : Nat) + m, (0 : Nat) ≤ (0 : Nat),
      ((0 : Nat) + m) * (16 : Nat) ≤ (140737488355328 : Nat) ∧ (0 : Nat) + m ≤ (9223372036854775807 : Nat),
      m * (2 : Nat) ≤ List.length ys, all1 (List.take (m * (2 : Nat)) ys) = true,
      capBig + (4 : Nat) = capBig + (4 : Nat),
      ((0 : Nat) + m) * (2 : Nat) ≤
        List.length
          (List.take (0 : Nat) (zrep [Value.int IntKind.u64 (0 : Int), Value.int IntKind.u64 (0 : Int)] (0 : Nat)) ++
            List.take (m * (2 : Nat)) ys),
      (0 : Nat) < (2 : Nat),
      ((0 : Nat) + m) * (2 : Nat) ≤
        List.length
          (List.take (0 : Nat) (zrep [Value.int IntKind.u64 (0 : Int), Value.int IntKind.u64 (0 : Int)] (0 : Nat)) ++
            List.take (m * (2 : Nat)) ys),
      Fl
        (List.take (((0 : Nat) + m) * (2 : Nat))
          (List.take (0 : Nat) (zrep [Value.int IntKind.u64 (0 : Int), Value.int IntKind.u64 (0 : Int)] (0 : Nat)) ++
            List.take (m * (2 : Nat)) ys)),
      Ints IntKind.u64
        (List.take (((0 : Nat) + m) * (2 : Nat))
          (List.take (0 : Nat) (zrep [Value.int IntKind.u64 (0 : Int), Value.int IntKind.u64 (0 : Int)] (0 : Nat)) ++
            List.take (m * (2 : Nat)) ys)),
      avLen
          (Av.sl
            (List.take (((0 : Nat) + m) * (2 : Nat))
              (List.take (0 : Nat)
                  (zrep [Value.int IntKind.u64 (0 : Int), Value.int IntKind.u64 (0 : Int)] (0 : Nat)) ++
                List.take (m * (2 : Nat)) ys))
            ((0 : Nat) + m)) ≤
        (8 : Nat),
      decide
          (avLen
              (Av.sl
                (List.take (((0 : Nat) + m) * (2 : Nat))
                  (List.take (0 : Nat)
                      (zrep [Value.int IntKind.u64 (0 : Int), Value.int IntKind.u64 (0 : Int)] (0 : Nat)) ++
                    List.take (m * (2 : Nat)) ys))
                ((0 : Nat) + m)) =
            (0 : Nat)) =
        false,
      m ≤ d ∧ d ≤ (9223372036854775807 : Nat), m * (2 : Nat) ≤ List.length ys, Fl (List.take (m * (2 : Nat)) ys),
      Ints IntKind.u64 (List.take (m * (2 : Nat)) ys), avLen (Av.sl (List.take (m * (2 : Nat)) ys) m) ≤ (8 : Nat),
      decide (avLen (Av.sl (List.take (m * (2 : Nat)) ys) m) = (0 : Nat)) = false, Ints IntKind.u64 [], ([] : List Value) = [],
      (0 : Nat) = (0 : Nat), capBig + (5 : Nat) = capBig + (5 : Nat),
      avLen
            (Av.sl
              (List.take (((0 : Nat) + m) * (2 : Nat))
                (List.take (0 : Nat)
                    (zrep [Value.int IntKind.u64 (0 : Int), Value.int IntKind.u64 (0 : Int)] (0 : Nat)) ++
                  List.take (m * (2 : Nat)) ys))
              ((0 : Nat) + m)) *
          (16 : Nat) ≤
        List.length
          (oiL
            (List.take (((0 : Nat) + m) * (2 : Nat))
              (List.take (0 : Nat)
                  (zrep [Value.int IntKind.u64 (0 : Int), Value.int IntKind.u64 (0 : Int)] (0 : Nat)) ++
                List.take (m * (2 : Nat)) ys))
            (0 : Nat)
            (avLen
              (Av.sl
                (List.take (((0 : Nat) + m) * (2 : Nat))
                  (List.take (0 : Nat)
                      (zrep [Value.int IntKind.u64 (0 : Int), Value.int IntKind.u64 (0 : Int)] (0 : Nat)) ++
                    List.take (m * (2 : Nat)) ys))
                ((0 : Nat) + m)))),
      (0 : Nat) < (1 : Nat),
      avLen
            (Av.sl
              (List.take (((0 : Nat) + m) * (2 : Nat))
                (List.take (0 : Nat)
                    (zrep [Value.int IntKind.u64 (0 : Int), Value.int IntKind.u64 (0 : Int)] (0 : Nat)) ++
                  List.take (m * (2 : Nat)) ys))
              ((0 : Nat) + m)) *
          (16 : Nat) ≤
        List.length
          (oiL
            (List.take (((0 : Nat) + m) * (2 : Nat))
              (List.take (0 : Nat)
                  (zrep [Value.int IntKind.u64 (0 : Int), Value.int IntKind.u64 (0 : Int)] (0 : Nat)) ++
                List.take (m * (2 : Nat)) ys))
            (0 : Nat)
            (avLen
              (Av.sl
                (List.take (((0 : Nat) + m) * (2 : Nat))
                  (List.take (0 : Nat)
                      (zrep [Value.int IntKind.u64 (0 : Int), Value.int IntKind.u64 (0 : Int)] (0 : Nat)) ++
                    List.take (m * (2 : Nat)) ys))
                ((0 : Nat) + m)))),
      Fl
        (List.take
          (avLen
              (Av.sl
                (List.take (((0 : Nat) + m) * (2 : Nat))
                  (List.take (0 : Nat)
                      (zrep [Value.int IntKind.u64 (0 : Int), Value.int IntKind.u64 (0 : Int)] (0 : Nat)) ++
                    List.take (m * (2 : Nat)) ys))
                ((0 : Nat) + m)) *
            (16 : Nat))
          (oiL
            (List.take (((0 : Nat) + m) * (2 : Nat))
              (List.take (0 : Nat)
                  (zrep [Value.int IntKind.u64 (0 : Int), Value.int IntKind.u64 (0 : Int)] (0 : Nat)) ++
                List.take (m * (2 : Nat)) ys))
            (0 : Nat)
            (avLen
              (Av.sl
                (List.take (((0 : Nat) + m) * (2 : Nat))
                  (List.take (0 : Nat)
                      (zrep [Value.int IntKind.u64 (0 : Int), Value.int IntKind.u64 (0 : Int)] (0 : Nat)) ++
                    List.take (m * (2 : Nat)) ys))
                ((0 : Nat) + m))))),
      capBig + (6 : Nat) = capBig + (6 : Nat),
      avLen (Av.sl (List.take (m * (2 : Nat)) ys) m) * (16 : Nat) ≤
        List.length (oiL (List.take (m * (2 : Nat)) ys) (0 : Nat) (avLen (Av.sl (List.take (m * (2 : Nat)) ys) m))),
      (0 : Nat) < (1 : Nat),
      avLen (Av.sl (List.take (m * (2 : Nat)) ys) m) * (16 : Nat) ≤
        List.length (oiL (List.take (m * (2 : Nat)) ys) (0 : Nat) (avLen (Av.sl (List.take (m * (2 : Nat)) ys) m))),
      Fl
        (List.take (avLen (Av.sl (List.take (m * (2 : Nat)) ys) m) * (16 : Nat))
          (oiL (List.take (m * (2 : Nat)) ys) (0 : Nat) (avLen (Av.sl (List.take (m * (2 : Nat)) ys) m)))),
      Byts
        (List.take
          (avLen
              (Av.sl
                (List.take (((0 : Nat) + m) * (2 : Nat))
                  (List.take (0 : Nat)
                      (zrep [Value.int IntKind.u64 (0 : Int), Value.int IntKind.u64 (0 : Int)] (0 : Nat)) ++
                    List.take (m * (2 : Nat)) ys))
                ((0 : Nat) + m)) *
            (16 : Nat))
          (oiL
            (List.take (((0 : Nat) + m) * (2 : Nat))
              (List.take (0 : Nat)
                  (zrep [Value.int IntKind.u64 (0 : Int), Value.int IntKind.u64 (0 : Int)] (0 : Nat)) ++
                List.take (m * (2 : Nat)) ys))
            (0 : Nat)
            (avLen
              (Av.sl
                (List.take (((0 : Nat) + m) * (2 : Nat))
                  (List.take (0 : Nat)
                      (zrep [Value.int IntKind.u64 (0 : Int), Value.int IntKind.u64 (0 : Int)] (0 : Nat)) ++
                    List.take (m * (2 : Nat)) ys))
                ((0 : Nat) + m))))),
      Byts
        (List.take (avLen (Av.sl (List.take (m * (2 : Nat)) ys) m) * (16 : Nat))
          (oiL (List.take (m * (2 : Nat)) ys) (0 : Nat) (avLen (Av.sl (List.take (m * (2 : Nat)) ys) m)))),
      decide
          (intsOf
              (List.take
                (avLen
                    (Av.sl
                      (List.take (((0 : Nat) + m) * (2 : Nat))
                        (List.take (0 : Nat)
                            (zrep [Value.int IntKind.u64 (0 : Int), Value.int IntKind.u64 (0 : Int)] (0 : Nat)) ++
                          List.take (m * (2 : Nat)) ys))
                      ((0 : Nat) + m)) *
                  (16 : Nat))
                (oiL
                  (List.take (((0 : Nat) + m) * (2 : Nat))
                    (List.take (0 : Nat)
                        (zrep [Value.int IntKind.u64 (0 : Int), Value.int IntKind.u64 (0 : Int)] (0 : Nat)) ++
                      List.take (m * (2 : Nat)) ys))
                  (0 : Nat)
                  (avLen
                    (Av.sl
                      (List.take (((0 : Nat) + m) * (2 : Nat))
                        (List.take (0 : Nat)
                            (zrep [Value.int IntKind.u64 (0 : Int), Value.int IntKind.u64 (0 : Int)] (0 : Nat)) ++
                          List.take (m * (2 : Nat)) ys))
                      ((0 : Nat) + m))))) =
            intsOf
              (List.take (avLen (Av.sl (List.take (m * (2 : Nat)) ys) m) * (16 : Nat))
                (oiL (List.take (m * (2 : Nat)) ys) (0 : Nat) (avLen (Av.sl (List.take (m * (2 : Nat)) ys) m))))) =
        true,
      (0 : Nat) = (0 : Nat), capBig + (5 : Nat) = capBig + (5 : Nat),
      avLen
            (Av.sl
              (List.take (((0 : Nat) + m) * (2 : Nat))
                (List.take (0 : Nat)
                    (zrep [Value.int IntKind.u64 (0 : Int), Value.int IntKind.u64 (0 : Int)] (0 : Nat)) ++
                  List.take (m * (2 : Nat)) ys))
              ((0 : Nat) + m)) *
          (16 : Nat) ≤
        List.length
          (oiL
            (List.take (((0 : Nat) + m) * (2 : Nat))
              (List.take (0 : Nat)
                  (zrep [Value.int IntKind.u64 (0 : Int), Value.int IntKind.u64 (0 : Int)] (0 : Nat)) ++
                List.take (m * (2 : Nat)) ys))
            (0 : Nat)
            (avLen
              (Av.sl
                (List.take (((0 : Nat) + m) * (2 : Nat))
                  (List.take (0 : Nat)
                      (zrep [Value.int IntKind.u64 (0 : Int), Value.int IntKind.u64 (0 : Int)] (0 : Nat)) ++
                    List.take (m * (2 : Nat)) ys))
                ((0 : Nat) + m)))),
      Byts
        (oiL
          (List.take (((0 : Nat) + m) * (2 : Nat))
            (List.take (0 : Nat) (zrep [Value.int IntKind.u64 (0 : Int), Value.int IntKind.u64 (0 : Int)] (0 : Nat)) ++
              List.take (m * (2 : Nat)) ys))
          (0 : Nat)
          (avLen
            (Av.sl
              (List.take (((0 : Nat) + m) * (2 : Nat))
                (List.take (0 : Nat)
                    (zrep [Value.int IntKind.u64 (0 : Int), Value.int IntKind.u64 (0 : Int)] (0 : Nat)) ++
                  List.take (m * (2 : Nat)) ys))
              ((0 : Nat) + m)))),
      (3 : Nat) ≤ (9223372036854775807 : Nat), (3 : Nat) ≤ (3 : Nat), Fl (List.take (3 : Nat) ([] ++ mk3 (0 : Nat))),
      Byts (List.take (3 : Nat) ([] ++ mk3 (0 : Nat))), Byts [], (0 : Nat) = (0 : Nat), (3 : Nat) = (3 : Nat),
      (0 : Nat) ≤ (1099511627776 : Nat), true = true]) := by kernel_rfl
theorem ilawT_one : TOneZ Try.prog (ilawT Try.prog) := orTz_ok (mkT_one kept_ok) (orTz_ok over_one idsT_one)
theorem iall1_map {k : IntKind} : ∀ l : List Int, all1 (l.map (Value.int k)) = true
  | [] => rfl
  | x :: l => by simp only [List.map_cons, all1, iall1_map l]; rfl
theorem Ints.iall1 {k : IntKind} {xs : List Value} (h : Ints k xs) : all1 xs = true := by rw [h]; exact iall1_map _
def iLawRuns (P : Program) (f : FuncId) (args : List Value) (h : Hp) (nx : Nat) : Prop := ∃ h' nx' d, Tri P f args h nx (.bool true, h', nx', d)
theorem ilogs_run {xs ys : List Value} {n m c d : Nat} (hb : Byts xs) (hl : xs.length = n) (hc : n ≤ c ∧ c ≤ 9223372036854775807) (hy : Ints .u64 ys) (hm : ys.length = m * 2) (hd : m ≤ d ∧ d ≤ 9223372036854775807) :
    iLawRuns Try.prog 6 [illA n c, illE m d] [(0, ⟨.old, xs⟩), (1, ⟨.old, ys⟩)] 2 := by
  have hX : ∀ md, XOkZ (illV md Try.prog) Try.prog := fun md => noXz_ok rfl
  have hT : ∀ md, TOkZ (illV md Try.prog) Try.prog := fun md => T_okV rfl ilawT_one
  have hL : ∀ md, LOkZ (illV md Try.prog) Try.prog := fun md => noL_okV rfl
  have ex1 : xs.take n = xs := take_len hl
  have hml : (xs ++ mk3 n).length = n + 3 := by simp [mk3, hl]
  have ex2 : (xs ++ mk3 n).take n = xs := by rw [← hl, List.take_left]
  have ex3 : (xs ++ mk3 n).take (n + 3) = xs ++ mk3 n := take_len hml
  have ey1 : ys.take (m * 2) = ys := take_len hm
  have hol := oiL_len ys m 0
  have ey2 : (oiL ys 0 m).take (m * 16) = oiL ys 0 m := take_len hol
  have hel := idL_len xs (n / 16) 0
  have ey3 : (idL xs 0 (n / 16)).take (n / 16 * 2) = idL xs 0 (n / 16) := take_len hel
  have ez : (zrep [Value.int .u64 0, Value.int .u64 0] 0) = [] := rfl
  have f1 := fl_byts hb
  have b2 := hb.app (mk3_byts n)
  have f2 := fl_byts b2
  have f3 := hy.fl
  have a3 := hy.iall1
  have i4 := idL_Ints xs (n / 16) 0
  have f4 := i4.fl
  have b5 := oiL_Byts ys m 0
  have f5 := fl_byts b5
  by_cases h1 : n ≤ 200
  case neg =>
    refine ⟨_, _, _, run_tri (hX _) (hT _) (hL _) (li_ss_l1 xs ys n c m d) ?_ rfl⟩
    simp only [Alls, decide_eq_true_eq]
    repeat' (first | with_reducible exact trivial | with_reducible apply And.intro)
    all_goals first | with_reducible assumption | omega | with_reducible rfl | (skip)
  by_cases h2 : m ≤ 20
  case neg =>
    refine ⟨_, _, _, run_tri (hX _) (hT _) (hL _) (li_ss_l2 xs ys n c m d) ?_ rfl⟩
    simp only [Alls, decide_eq_true_eq, decide_eq_false_iff_not]
    repeat' (first | with_reducible exact trivial | with_reducible apply And.intro)
    all_goals first | with_reducible assumption | omega | with_reducible rfl | (skip)
  have g1 : decide ((n : Int) > 200) = false := by simp only [decide_eq_false_iff_not]; omega
  have g2 : decide ((m : Int) > 20) = false := by simp only [decide_eq_false_iff_not]; omega
  cases k0 : decide (n % 16 = 0)
  ·
    cases z : decide (m = 0)
    · cases w : decide (m ≤ 8)
      ·
        have w' : ¬ m ≤ 8 := of_decide_eq_false w
        refine ⟨_, _, _, run_tri (hX _) (hT _) (hL _) (li_b_bad0 xs ys n c m d) ?_ rfl⟩
        simp only [Alls, avLen, Nat.zero_add, List.take_zero, List.drop_zero, List.nil_append, List.length_nil, ex1, ex2, ex3, ey1, ey2, ey3, ez, Nat.zero_mul, Nat.zero_div, zrep, splice]
        repeat' (first | with_reducible exact trivial | with_reducible apply And.intro)
        all_goals first | with_reducible assumption | omega | with_reducible rfl | (first | exact k0 | exact k1 | exact k2 | exact z | exact w | exact Nat.pos_of_ne_zero (of_decide_eq_false z) | exact decide_eq_true rfl | exact Byts.nil | exact fl_byts (mk3_byts 0) | exact mk3_byts 0 | exact Fl.of rfl | rfl)
      ·
        have w' : m ≤ 8 := of_decide_eq_true w
        refine ⟨_, _, _, run_tri (hX _) (hT _) (hL _) (li_g_bad0 xs ys n c m d) ?_ rfl⟩
        simp only [Alls, avLen, Nat.zero_add, List.take_zero, List.drop_zero, List.nil_append, List.length_nil, ex1, ex2, ex3, ey1, ey2, ey3, ez, Nat.zero_mul, Nat.zero_div, zrep, splice]
        repeat' (first | with_reducible exact trivial | with_reducible apply And.intro)
        all_goals first | with_reducible assumption | omega | with_reducible rfl | (first | exact k0 | exact k1 | exact k2 | exact z | exact w | exact Nat.pos_of_ne_zero (of_decide_eq_false z) | exact decide_eq_true rfl | exact Byts.nil | exact fl_byts (mk3_byts 0) | exact mk3_byts 0 | exact Fl.of rfl | rfl)
    · obtain rfl : m = 0 := by simpa using z
      refine ⟨_, _, _, run_tri (hX _) (hT _) (hL _) (li_e_bad0 xs ys n c d) ?_ rfl⟩
      simp only [Alls, avLen, Nat.zero_add, List.take_zero, List.drop_zero, List.nil_append, List.length_nil, ex1, ex2, ex3, ey1, ey2, ey3, ez, Nat.zero_mul, Nat.zero_div, zrep, splice]
      repeat' (first | with_reducible exact trivial | with_reducible apply And.intro)
      all_goals first | with_reducible assumption | omega | with_reducible rfl | (first | exact k0 | exact k1 | exact k2 | exact z | exact w | exact Nat.pos_of_ne_zero (of_decide_eq_false z) | exact decide_eq_true rfl | exact Byts.nil | exact fl_byts (mk3_byts 0) | exact mk3_byts 0 | exact Fl.of rfl | rfl)
  have k0' : n % 16 = 0 := by simpa using k0
  cases k1 : decide (n ≤ 128)
  ·
    cases z : decide (m = 0)
    · cases w : decide (m ≤ 8)
      ·
        have w' : ¬ m ≤ 8 := of_decide_eq_false w
        refine ⟨_, _, _, run_tri (hX _) (hT _) (hL _) (li_b_long0 xs ys n c m d) ?_ rfl⟩
        simp only [Alls, avLen, Nat.zero_add, List.take_zero, List.drop_zero, List.nil_append, List.length_nil, ex1, ex2, ex3, ey1, ey2, ey3, ez, Nat.zero_mul, Nat.zero_div, zrep, splice]
        repeat' (first | with_reducible exact trivial | with_reducible apply And.intro)
        all_goals first | with_reducible assumption | omega | with_reducible rfl | (first | exact k0 | exact k1 | exact k2 | exact z | exact w | exact Nat.pos_of_ne_zero (of_decide_eq_false z) | exact decide_eq_true rfl | exact Byts.nil | exact fl_byts (mk3_byts 0) | exact mk3_byts 0 | exact Fl.of rfl | rfl)
      ·
        have w' : m ≤ 8 := of_decide_eq_true w
        refine ⟨_, _, _, run_tri (hX _) (hT _) (hL _) (li_g_long0 xs ys n c m d) ?_ rfl⟩
        simp only [Alls, avLen, Nat.zero_add, List.take_zero, List.drop_zero, List.nil_append, List.length_nil, ex1, ex2, ex3, ey1, ey2, ey3, ez, Nat.zero_mul, Nat.zero_div, zrep, splice]
        repeat' (first | with_reducible exact trivial | with_reducible apply And.intro)
        all_goals first | with_reducible assumption | omega | with_reducible rfl | (first | exact k0 | exact k1 | exact k2 | exact z | exact w | exact Nat.pos_of_ne_zero (of_decide_eq_false z) | exact decide_eq_true rfl | exact Byts.nil | exact fl_byts (mk3_byts 0) | exact mk3_byts 0 | exact Fl.of rfl | rfl)
    · obtain rfl : m = 0 := by simpa using z
      refine ⟨_, _, _, run_tri (hX _) (hT _) (hL _) (li_e_long0 xs ys n c d) ?_ rfl⟩
      simp only [Alls, avLen, Nat.zero_add, List.take_zero, List.drop_zero, List.nil_append, List.length_nil, ex1, ex2, ex3, ey1, ey2, ey3, ez, Nat.zero_mul, Nat.zero_div, zrep, splice]
      repeat' (first | with_reducible exact trivial | with_reducible apply And.intro)
      all_goals first | with_reducible assumption | omega | with_reducible rfl | (first | exact k0 | exact k1 | exact k2 | exact z | exact w | exact Nat.pos_of_ne_zero (of_decide_eq_false z) | exact decide_eq_true rfl | exact Byts.nil | exact fl_byts (mk3_byts 0) | exact mk3_byts 0 | exact Fl.of rfl | rfl)
  have k1' : n ≤ 128 := by simpa using k1
  cases k2 : decide (n = 0)
  ·
    cases z : decide (m = 0)
    · cases w : decide (m ≤ 8)
      ·
        have w' : ¬ m ≤ 8 := of_decide_eq_false w
        refine ⟨_, _, _, run_tri (hX _) (hT _) (hL _) (li_b_ok0 xs ys n c m d) ?_ rfl⟩
        simp only [Alls, avLen, Nat.zero_add, List.take_zero, List.drop_zero, List.nil_append, List.length_nil, ex1, ex2, ex3, ey1, ey2, ey3, ez, Nat.zero_mul, Nat.zero_div, zrep, splice]
        repeat' (first | with_reducible exact trivial | with_reducible apply And.intro)
        all_goals first | with_reducible assumption | omega | with_reducible rfl | (first | exact k0 | exact k1 | exact k2 | exact z | exact w | exact Nat.pos_of_ne_zero (of_decide_eq_false z) | exact decide_eq_true rfl | exact Byts.nil | exact fl_byts (mk3_byts 0) | exact mk3_byts 0 | exact Fl.of rfl | rfl)
      ·
        have w' : m ≤ 8 := of_decide_eq_true w
        refine ⟨_, _, _, run_tri (hX _) (hT _) (hL _) (li_g_ok0 xs ys n c m d) ?_ rfl⟩
        simp only [Alls, avLen, Nat.zero_add, List.take_zero, List.drop_zero, List.nil_append, List.length_nil, ex1, ex2, ex3, ey1, ey2, ey3, ez, Nat.zero_mul, Nat.zero_div, zrep, splice]
        repeat' (first | with_reducible exact trivial | with_reducible apply And.intro)
        all_goals first | with_reducible assumption | omega | with_reducible rfl | (first | exact k0 | exact k1 | exact k2 | exact z | exact w | exact Nat.pos_of_ne_zero (of_decide_eq_false z) | exact decide_eq_true rfl | exact Byts.nil | exact fl_byts (mk3_byts 0) | exact mk3_byts 0 | exact Fl.of rfl | rfl)
    · obtain rfl : m = 0 := by simpa using z
      refine ⟨_, _, _, run_tri (hX _) (hT _) (hL _) (li_e_ok0 xs ys n c d) ?_ rfl⟩
      simp only [Alls, avLen, Nat.zero_add, List.take_zero, List.drop_zero, List.nil_append, List.length_nil, ex1, ex2, ex3, ey1, ey2, ey3, ez, Nat.zero_mul, Nat.zero_div, zrep, splice]
      repeat' (first | with_reducible exact trivial | with_reducible apply And.intro)
      all_goals first | with_reducible assumption | omega | with_reducible rfl | (first | exact k0 | exact k1 | exact k2 | exact z | exact w | exact Nat.pos_of_ne_zero (of_decide_eq_false z) | exact decide_eq_true rfl | exact Byts.nil | exact fl_byts (mk3_byts 0) | exact mk3_byts 0 | exact Fl.of rfl | rfl)
  · have k2' : n = 0 := by simpa using k2
    cases z : decide (m = 0)
    · cases w : decide (m ≤ 8)
      ·
        have w' : ¬ m ≤ 8 := of_decide_eq_false w
        refine ⟨_, _, _, run_tri (hX _) (hT _) (hL _) (li_b_nil0 xs ys n c m d) ?_ rfl⟩
        simp only [Alls, avLen, Nat.zero_add, List.take_zero, List.drop_zero, List.nil_append, List.length_nil, ex1, ex2, ex3, ey1, ey2, ey3, ez, Nat.zero_mul, Nat.zero_div, zrep, splice]
        repeat' (first | with_reducible exact trivial | with_reducible apply And.intro)
        all_goals first | with_reducible assumption | omega | with_reducible rfl | (first | exact k0 | exact k1 | exact k2 | exact z | exact w | exact Nat.pos_of_ne_zero (of_decide_eq_false z) | exact decide_eq_true rfl | exact Byts.nil | exact fl_byts (mk3_byts 0) | exact mk3_byts 0 | exact Fl.of rfl | rfl)
      ·
        have w' : m ≤ 8 := of_decide_eq_true w
        refine ⟨_, _, _, run_tri (hX _) (hT _) (hL _) (li_g_nil0 xs ys n c m d) ?_ rfl⟩
        simp only [Alls, avLen, Nat.zero_add, List.take_zero, List.drop_zero, List.nil_append, List.length_nil, ex1, ex2, ex3, ey1, ey2, ey3, ez, Nat.zero_mul, Nat.zero_div, zrep, splice]
        repeat' (first | with_reducible exact trivial | with_reducible apply And.intro)
        all_goals first | with_reducible assumption | omega | with_reducible rfl | (first | exact k0 | exact k1 | exact k2 | exact z | exact w | exact Nat.pos_of_ne_zero (of_decide_eq_false z) | exact decide_eq_true rfl | exact Byts.nil | exact fl_byts (mk3_byts 0) | exact mk3_byts 0 | exact Fl.of rfl | rfl)
    · obtain rfl : m = 0 := by simpa using z
      refine ⟨_, _, _, run_tri (hX _) (hT _) (hL _) (li_e_nil0 xs ys n c d) ?_ rfl⟩
      simp only [Alls, avLen, Nat.zero_add, List.take_zero, List.drop_zero, List.nil_append, List.length_nil, ex1, ex2, ex3, ey1, ey2, ey3, ez, Nat.zero_mul, Nat.zero_div, zrep, splice]
      repeat' (first | with_reducible exact trivial | with_reducible apply And.intro)
      all_goals first | with_reducible assumption | omega | with_reducible rfl | (first | exact k0 | exact k1 | exact k2 | exact z | exact w | exact Nat.pos_of_ne_zero (of_decide_eq_false z) | exact decide_eq_true rfl | exact Byts.nil | exact fl_byts (mk3_byts 0) | exact mk3_byts 0 | exact Fl.of rfl | rfl)
theorem ilogs_run_n {xs : List Value} {n c : Nat} (hb : Byts xs) (hl : xs.length = n) (hc : n ≤ c ∧ c ≤ 9223372036854775807) :
    iLawRuns Try.prog 6 [illA n c, .slice none 0 0] [(0, ⟨.old, xs⟩)] 2 := by
  have hX : ∀ md, XOkZ (illV md Try.prog) Try.prog := fun md => noXz_ok rfl
  have hT : ∀ md, TOkZ (illV md Try.prog) Try.prog := fun md => T_okV rfl ilawT_one
  have hL : ∀ md, LOkZ (illV md Try.prog) Try.prog := fun md => noL_okV rfl
  have ex1 : xs.take n = xs := take_len hl
  have hml : (xs ++ mk3 n).length = n + 3 := by simp [mk3, hl]
  have ex2 : (xs ++ mk3 n).take n = xs := by rw [← hl, List.take_left]
  have ex3 : (xs ++ mk3 n).take (n + 3) = xs ++ mk3 n := take_len hml
  have ey1 : True := trivial
  have ey2 : True := trivial
  have hel := idL_len xs (n / 16) 0
  have ey3 : (idL xs 0 (n / 16)).take (n / 16 * 2) = idL xs 0 (n / 16) := take_len hel
  have ez : (zrep [Value.int .u64 0, Value.int .u64 0] 0) = [] := rfl
  have f1 := fl_byts hb
  have b2 := hb.app (mk3_byts n)
  have f2 := fl_byts b2
  have i4 := idL_Ints xs (n / 16) 0
  have f4 := i4.fl
  by_cases h1 : n ≤ 200
  case neg =>
    refine ⟨_, _, _, run_tri (hX _) (hT _) (hL _) (li_sn_l1 xs n c) ?_ rfl⟩
    simp only [Alls, decide_eq_true_eq]
    repeat' (first | with_reducible exact trivial | with_reducible apply And.intro)
    all_goals first | with_reducible assumption | omega | with_reducible rfl | (skip)
  have g1 : decide ((n : Int) > 200) = false := by simp only [decide_eq_false_iff_not]; omega
  cases k0 : decide (n % 16 = 0)
  ·
    refine ⟨_, _, _, run_tri (hX _) (hT _) (hL _) (li_n_bad0 xs n c) ?_ rfl⟩
    simp only [Alls, avLen, Nat.zero_add, List.take_zero, List.drop_zero, List.nil_append, List.length_nil, ex1, ex2, ex3, ey1, ey2, ey3, ez, Nat.zero_mul, Nat.zero_div, zrep, splice]
    repeat' (first | with_reducible exact trivial | with_reducible apply And.intro)
    all_goals first | with_reducible assumption | omega | with_reducible rfl | (first | exact k0 | exact k1 | exact k2 | exact z | exact w | exact Nat.pos_of_ne_zero (of_decide_eq_false z) | exact decide_eq_true rfl | exact Byts.nil | exact fl_byts (mk3_byts 0) | exact mk3_byts 0 | exact Fl.of rfl | rfl)
  have k0' : n % 16 = 0 := by simpa using k0
  cases k1 : decide (n ≤ 128)
  ·
    refine ⟨_, _, _, run_tri (hX _) (hT _) (hL _) (li_n_long0 xs n c) ?_ rfl⟩
    simp only [Alls, avLen, Nat.zero_add, List.take_zero, List.drop_zero, List.nil_append, List.length_nil, ex1, ex2, ex3, ey1, ey2, ey3, ez, Nat.zero_mul, Nat.zero_div, zrep, splice]
    repeat' (first | with_reducible exact trivial | with_reducible apply And.intro)
    all_goals first | with_reducible assumption | omega | with_reducible rfl | (first | exact k0 | exact k1 | exact k2 | exact z | exact w | exact Nat.pos_of_ne_zero (of_decide_eq_false z) | exact decide_eq_true rfl | exact Byts.nil | exact fl_byts (mk3_byts 0) | exact mk3_byts 0 | exact Fl.of rfl | rfl)
  have k1' : n ≤ 128 := by simpa using k1
  cases k2 : decide (n = 0)
  ·
    refine ⟨_, _, _, run_tri (hX _) (hT _) (hL _) (li_n_ok0 xs n c) ?_ rfl⟩
    simp only [Alls, avLen, Nat.zero_add, List.take_zero, List.drop_zero, List.nil_append, List.length_nil, ex1, ex2, ex3, ey1, ey2, ey3, ez, Nat.zero_mul, Nat.zero_div, zrep, splice]
    repeat' (first | with_reducible exact trivial | with_reducible apply And.intro)
    all_goals first | with_reducible assumption | omega | with_reducible rfl | (first | exact k0 | exact k1 | exact k2 | exact z | exact w | exact Nat.pos_of_ne_zero (of_decide_eq_false z) | exact decide_eq_true rfl | exact Byts.nil | exact fl_byts (mk3_byts 0) | exact mk3_byts 0 | exact Fl.of rfl | rfl)
  · have k2' : n = 0 := by simpa using k2
    refine ⟨_, _, _, run_tri (hX _) (hT _) (hL _) (li_n_nil0 xs n c) ?_ rfl⟩
    simp only [Alls, avLen, Nat.zero_add, List.take_zero, List.drop_zero, List.nil_append, List.length_nil, ex1, ex2, ex3, ey1, ey2, ey3, ez, Nat.zero_mul, Nat.zero_div, zrep, splice]
    repeat' (first | with_reducible exact trivial | with_reducible apply And.intro)
    all_goals first | with_reducible assumption | omega | with_reducible rfl | (first | exact k0 | exact k1 | exact k2 | exact z | exact w | exact Nat.pos_of_ne_zero (of_decide_eq_false z) | exact decide_eq_true rfl | exact Byts.nil | exact fl_byts (mk3_byts 0) | exact mk3_byts 0 | exact Fl.of rfl | rfl)
theorem ilogs_n_run {ys : List Value} {m d : Nat} (hy : Ints .u64 ys) (hm : ys.length = m * 2) (hd : m ≤ d ∧ d ≤ 9223372036854775807) :
    iLawRuns Try.prog 6 [.slice none 0 0, illE m d] [(1, ⟨.old, ys⟩)] 2 := by
  have hX : ∀ md, XOkZ (illV md Try.prog) Try.prog := fun md => noXz_ok rfl
  have hT : ∀ md, TOkZ (illV md Try.prog) Try.prog := fun md => T_okV rfl ilawT_one
  have hL : ∀ md, LOkZ (illV md Try.prog) Try.prog := fun md => noL_okV rfl
  have ex1 : True := trivial
  have ex2 : True := trivial
  have ex3 : True := trivial
  have ey1 : ys.take (m * 2) = ys := take_len hm
  have hol := oiL_len ys m 0
  have ey2 : (oiL ys 0 m).take (m * 16) = oiL ys 0 m := take_len hol
  have ey3 : True := trivial
  have ez : (zrep [Value.int .u64 0, Value.int .u64 0] 0) = [] := rfl
  have f3 := hy.fl
  have a3 := hy.iall1
  have b5 := oiL_Byts ys m 0
  have f5 := fl_byts b5
  by_cases h2 : m ≤ 20
  case neg =>
    refine ⟨_, _, _, run_tri (hX _) (hT _) (hL _) (li_ns_l2 ys m d) ?_ rfl⟩
    simp only [Alls, decide_eq_true_eq]
    repeat' (first | with_reducible exact trivial | with_reducible apply And.intro)
    all_goals first | with_reducible assumption | omega | with_reducible rfl | (skip)
  have g2 : decide ((m : Int) > 20) = false := by simp only [decide_eq_false_iff_not]; omega
  cases z : decide (m = 0)
  · cases w : decide (m ≤ 8)
    ·
      have w' : ¬ m ≤ 8 := of_decide_eq_false w
      refine ⟨_, _, _, run_tri (hX _) (hT _) (hL _) (li_b_n ys m d) ?_ rfl⟩
      simp only [Alls, avLen, Nat.zero_add, List.take_zero, List.drop_zero, List.nil_append, List.length_nil, ex1, ex2, ex3, ey1, ey2, ey3, ez, Nat.zero_mul, Nat.zero_div, zrep, splice]
      repeat' (first | with_reducible exact trivial | with_reducible apply And.intro)
      all_goals first | with_reducible assumption | omega | with_reducible rfl | (first | exact k0 | exact k1 | exact k2 | exact z | exact w | exact Nat.pos_of_ne_zero (of_decide_eq_false z) | exact decide_eq_true rfl | exact Byts.nil | exact fl_byts (mk3_byts 0) | exact mk3_byts 0 | exact Fl.of rfl | rfl)
    ·
      have w' : m ≤ 8 := of_decide_eq_true w
      refine ⟨_, _, _, run_tri (hX _) (hT _) (hL _) (li_g_n ys m d) ?_ rfl⟩
      simp only [Alls, avLen, Nat.zero_add, List.take_zero, List.drop_zero, List.nil_append, List.length_nil, ex1, ex2, ex3, ey1, ey2, ey3, ez, Nat.zero_mul, Nat.zero_div, zrep, splice]
      repeat' (first | with_reducible exact trivial | with_reducible apply And.intro)
      all_goals first | with_reducible assumption | omega | with_reducible rfl | (first | exact k0 | exact k1 | exact k2 | exact z | exact w | exact Nat.pos_of_ne_zero (of_decide_eq_false z) | exact decide_eq_true rfl | exact Byts.nil | exact fl_byts (mk3_byts 0) | exact mk3_byts 0 | exact Fl.of rfl | rfl)
  · obtain rfl : m = 0 := by simpa using z
    refine ⟨_, _, _, run_tri (hX _) (hT _) (hL _) (li_e_n ys d) ?_ rfl⟩
    simp only [Alls, avLen, Nat.zero_add, List.take_zero, List.drop_zero, List.nil_append, List.length_nil, ex1, ex2, ex3, ey1, ey2, ey3, ez, Nat.zero_mul, Nat.zero_div, zrep, splice]
    repeat' (first | with_reducible exact trivial | with_reducible apply And.intro)
    all_goals first | with_reducible assumption | omega | with_reducible rfl | (first | exact k0 | exact k1 | exact k2 | exact z | exact w | exact Nat.pos_of_ne_zero (of_decide_eq_false z) | exact decide_eq_true rfl | exact Byts.nil | exact fl_byts (mk3_byts 0) | exact mk3_byts 0 | exact Fl.of rfl | rfl)
theorem ilogs_n_n : iLawRuns Try.prog 6 [.slice none 0 0, .slice none 0 0] [] 2 := by
  have hX : ∀ md, XOkZ (illV md Try.prog) Try.prog := fun md => noXz_ok rfl
  have hT : ∀ md, TOkZ (illV md Try.prog) Try.prog := fun md => T_okV rfl ilawT_one
  have hL : ∀ md, LOkZ (illV md Try.prog) Try.prog := fun md => noL_okV rfl
  refine ⟨_, _, _, run_tri (hX _) (hT _) (hL _) li_n_n ?_ rfl⟩
  simp only [Alls]
  repeat' (first | with_reducible exact trivial | with_reducible apply And.intro)
  all_goals first | with_reducible assumption | omega | with_reducible rfl | (first | exact Byts.nil | exact fl_byts (mk3_byts 0) | exact mk3_byts 0 | exact Fl.of rfl | rfl)
/-- The statement's own call. -/
theorem ilogs_any {W : World} {v0 v1 : Value} {a0 a1 : Av} {q0 q1 : Option (Addr × Nat)} {z0 z1 : List (List Int)} (h0 : (a0 = .fl (.slice none 0 0) ∧ z0 = []) ∨ a0 = .sl (z0.map (cellsK [.u8])).flatten z0.length) (h1 : (a1 = .fl (.slice none 0 0) ∧ z1 = []) ∨ a1 = .sl (z1.map (cellsK [.u64, .u64])).flatten z1.length)
    (A0 : AvAt a0 v0 q0) (A1 : AvAt a1 v1 q1) (L0 : Lies W a0 q0) (L1 : Lies W a1 q1) (w0 : ∀ zs ∈ z0, AllWf [.u8] zs) (w1 : ∀ zs ∈ z1, AllWf [.u64, .u64] zs) :
    Calls Try.prog 6 #[v0, v1] W fun e w' => e = .returned (.bool true) ∧ Ext W w' := by
  have b0 := flat_Byts w0
  have l0 : ((z0.map (cellsK [.u8])).flatten).length = z0.length := by rw [flat_len w0]; simp
  have b1 : Ints .u64 (z1.map (cellsK [.u64, .u64])).flatten := flat_Ints (m := 2) w1
  have l1 : ((z1.map (cellsK [.u64, .u64])).flatten).length = z1.length * 2 := flat_len w1
  refine calls_sl (avs := [a0, a1]) (vs := [v0, v1]) (ps := [q0, q1]) ⟨A0, A1, trivial⟩ ⟨L0, L1, trivial⟩ (fun σ => rfl) fun cs hcs => ?_
  obtain ⟨c, d, rfl⟩ := caps2 hcs
  rcases h0 with ⟨rfl, rfl⟩ | rfl <;> rcases h1 with ⟨rfl, rfl⟩ | rfl
  · exact ilogs_n_n
  · exact ilogs_n_run b1 l1 hcs.1
  · exact ilogs_run_n b0 l0 hcs.1
  · exact ilogs_run b0 l0 hcs.1 b1 l1 hcs.2.1
end Go.Proofs.Ytcmcelilollchaa
