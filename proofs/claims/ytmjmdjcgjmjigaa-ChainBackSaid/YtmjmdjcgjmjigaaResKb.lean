/-
  Chapter 19: the statement ChainBack, run at any lists: the list of results is not empty.
-/
import Derived.Test.YtmjmdjcgjmjigaaResK
namespace Go.Proofs.Ytmjmdjcgjmjigaa
set_option linter.unusedSimpArgs false
set_option linter.unusedVariables false
set_option linter.unusedSectionVars false
open Go Go.RowKit

theorem bk_long_bad (xs ys : List Value) (n c m d : Nat) : runZ bkV Try.prog 5 8 [cbA n c, cbB m d] [(0, ⟨.old, xs⟩), (1, ⟨.old, ys⟩)] 2 ([false, false] ++ [true] ++ [true]) =
Res.ok
  ((Value.bool true, [((0 : Nat), Rw.mk Kd.old xs), ((1 : Nat), Rw.mk Kd.old ys)], (2 : Nat), []), [],
    [decide ((↑n : Int) > (200 : Int)) = false, decide ((↑m : Int) > (2000 : Int)) = false,
      n ≤ c ∧ c ≤ (9223372036854775807 : Nat), n * (2 : Nat) ≤ List.length xs, Fl (List.take (n * (2 : Nat)) xs),
      Ints IntKind.i64 (List.take (n * (2 : Nat)) xs),
      decide (avLen (Av.sl (List.take (n * (2 : Nat)) xs) n) ≤ (128 : Nat)) = false,
      m ≤ d ∧ d ≤ (9223372036854775807 : Nat), m ≤ List.length ys, Fl (List.take m ys), Byts (List.take m ys),
      decide (avLen (Av.sl (List.take m ys) m) % (8 : Nat) = (0 : Nat)) = false]) := by kernel_rfl
theorem bk_long_nil (xs ys : List Value) (n c m d : Nat) : runZ bkV Try.prog 5 8 [cbA n c, cbB m d] [(0, ⟨.old, xs⟩), (1, ⟨.old, ys⟩)] 2 ([false, false] ++ [true] ++ [false, true] ++ [false, true] ++ [true]) =
Res.ok
  ((Value.bool true, [((0 : Nat), Rw.mk Kd.old xs), ((1 : Nat), Rw.mk Kd.old ys)], (2 : Nat), []), [],
    [decide ((↑n : Int) > (200 : Int)) = false, decide ((↑m : Int) > (2000 : Int)) = false,
      n ≤ c ∧ c ≤ (9223372036854775807 : Nat), n * (2 : Nat) ≤ List.length xs, Fl (List.take (n * (2 : Nat)) xs),
      Ints IntKind.i64 (List.take (n * (2 : Nat)) xs),
      decide (avLen (Av.sl (List.take (n * (2 : Nat)) xs) n) ≤ (128 : Nat)) = false,
      m ≤ d ∧ d ≤ (9223372036854775807 : Nat), m ≤ List.length ys, Fl (List.take m ys), Byts (List.take m ys),
      avLen (Av.sl (List.take m ys) m) = (0 : Nat), Ints IntKind.i64 [], (0 : Nat) = (0 : Nat),
      m ≤ d ∧ d ≤ (9223372036854775807 : Nat), m ≤ List.length ys, Fl (List.take m ys), Byts [], Byts (List.take m ys),
      decide (intsOf [] = intsOf (List.take m ys)) = true]) := by kernel_rfl
theorem bk_long_not (xs ys : List Value) (n c m d : Nat) : runZ bkV Try.prog 5 8 [cbA n c, cbB m d] [(0, ⟨.old, xs⟩), (1, ⟨.old, ys⟩)] 2 ([false, false] ++ [true] ++ [false, false, false]) =
Res.ok
  ((Value.bool true, [((0 : Nat), Rw.mk Kd.old xs), ((1 : Nat), Rw.mk Kd.old ys)], (2 : Nat), []), [],
    [decide ((↑n : Int) > (200 : Int)) = false, decide ((↑m : Int) > (2000 : Int)) = false,
      n ≤ c ∧ c ≤ (9223372036854775807 : Nat), n * (2 : Nat) ≤ List.length xs, Fl (List.take (n * (2 : Nat)) xs),
      Ints IntKind.i64 (List.take (n * (2 : Nat)) xs),
      decide (avLen (Av.sl (List.take (n * (2 : Nat)) xs) n) ≤ (128 : Nat)) = false,
      m ≤ d ∧ d ≤ (9223372036854775807 : Nat), m ≤ List.length ys, Fl (List.take m ys), Byts (List.take m ys),
      avLen (Av.sl (List.take m ys) m) % (8 : Nat) = (0 : Nat),
      decide (avLen (Av.sl (List.take m ys) m) = (0 : Nat)) = false, avLen (Av.sl (List.take m ys) m) ≤ (4096 : Nat),
      rdOk (List.take m ys) (0 : Nat) (avLen (Av.sl (List.take m ys) m) / (8 : Nat)) = false]) := by kernel_rfl
theorem bk_long_long (xs ys : List Value) (n c m d : Nat) : runZ bkV Try.prog 5 8 [cbA n c, cbB m d] [(0, ⟨.old, xs⟩), (1, ⟨.old, ys⟩)] 2 ([false, false] ++ [true] ++ [false, false, true, true]) =
Res.ok
  ((Value.bool true, [((0 : Nat), Rw.mk Kd.old xs), ((1 : Nat), Rw.mk Kd.old ys)], (2 : Nat), []), [],
    [decide ((↑n : Int) > (200 : Int)) = false, decide ((↑m : Int) > (2000 : Int)) = false,
      n ≤ c ∧ c ≤ (9223372036854775807 : Nat), n * (2 : Nat) ≤ List.length xs, Fl (List.take (n * (2 : Nat)) xs),
      Ints IntKind.i64 (List.take (n * (2 : Nat)) xs),
      decide (avLen (Av.sl (List.take (n * (2 : Nat)) xs) n) ≤ (128 : Nat)) = false,
      m ≤ d ∧ d ≤ (9223372036854775807 : Nat), m ≤ List.length ys, Fl (List.take m ys), Byts (List.take m ys),
      avLen (Av.sl (List.take m ys) m) % (8 : Nat) = (0 : Nat),
      decide (avLen (Av.sl (List.take m ys) m) = (0 : Nat)) = false, avLen (Av.sl (List.take m ys) m) ≤ (4096 : Nat),
      rdOk (List.take m ys) (0 : Nat) (avLen (Av.sl (List.take m ys) m) / (8 : Nat)) = true,
      decide (avLen (Av.sl (List.take m ys) m) / (8 : Nat) ≤ (128 : Nat)) = false]) := by kernel_rfl
theorem bk_long_ok (xs ys : List Value) (n c m d : Nat) : runZ bkV Try.prog 5 8 [cbA n c, cbB m d] [(0, ⟨.old, xs⟩), (1, ⟨.old, ys⟩)] 2 ([false, false] ++ [true] ++ [false, false, true, false] ++ [false, false, true] ++ [true]) =
Res.ok
  ((Value.bool true, [((0 : Nat), Rw.mk Kd.old xs), ((1 : Nat), Rw.mk Kd.old ys)], (4 : Nat), []), [],
    [decide ((↑n : Int) > (200 : Int)) = false, decide ((↑m : Int) > (2000 : Int)) = false,
      n ≤ c ∧ c ≤ (9223372036854775807 : Nat), n * (2 : Nat) ≤ List.length xs, Fl (List.take (n * (2 : Nat)) xs),
      Ints IntKind.i64 (List.take (n * (2 : Nat)) xs),
      decide (avLen (Av.sl (List.take (n * (2 : Nat)) xs) n) ≤ (128 : Nat)) = false,
      m ≤ d ∧ d ≤ (9223372036854775807 : Nat), m ≤ List.length ys, Fl (List.take m ys), Byts (List.take m ys),
      avLen (Av.sl (List.take m ys) m) % (8 : Nat) = (0 : Nat),
      decide (avLen (Av.sl (List.take m ys) m) = (0 : Nat)) = false, avLen (Av.sl (List.take m ys) m) ≤ (4096 : Nat),
      rdOk (List.take m ys) (0 : Nat) (avLen (Av.sl (List.take m ys) m) / (8 : Nat)) = true,
      decide (avLen (Av.sl (List.take m ys) m) / (8 : Nat) ≤ (128 : Nat)) = true,
      capBig + (2 : Nat) = capBig + (2 : Nat),
      avLen (Av.sl (List.take m ys) m) / (8 : Nat) * (2 : Nat) ≤
        List.length (rdL (List.take m ys) (0 : Nat) (avLen (Av.sl (List.take m ys) m) / (8 : Nat))),
      (0 : Nat) < (2 : Nat),
      avLen (Av.sl (List.take m ys) m) / (8 : Nat) * (2 : Nat) ≤
        List.length (rdL (List.take m ys) (0 : Nat) (avLen (Av.sl (List.take m ys) m) / (8 : Nat))),
      Fl
        (List.take (avLen (Av.sl (List.take m ys) m) / (8 : Nat) * (2 : Nat))
          (rdL (List.take m ys) (0 : Nat) (avLen (Av.sl (List.take m ys) m) / (8 : Nat)))),
      Ints IntKind.i64
        (List.take (avLen (Av.sl (List.take m ys) m) / (8 : Nat) * (2 : Nat))
          (rdL (List.take m ys) (0 : Nat) (avLen (Av.sl (List.take m ys) m) / (8 : Nat)))),
      decide
          (avLen
              (Av.sl
                (List.take (avLen (Av.sl (List.take m ys) m) / (8 : Nat) * (2 : Nat))
                  (rdL (List.take m ys) (0 : Nat) (avLen (Av.sl (List.take m ys) m) / (8 : Nat))))
                (avLen (Av.sl (List.take m ys) m) / (8 : Nat))) =
            (0 : Nat)) =
        false,
      decide
          (avLen
              (Av.sl
                (List.take (avLen (Av.sl (List.take m ys) m) / (8 : Nat) * (2 : Nat))
                  (rdL (List.take m ys) (0 : Nat) (avLen (Av.sl (List.take m ys) m) / (8 : Nat))))
                (avLen (Av.sl (List.take m ys) m) / (8 : Nat))) ≤
            (128 : Nat)) =
        true,
      wrOk
          (List.take (avLen (Av.sl (List.take m ys) m) / (8 : Nat) * (2 : Nat))
            (rdL (List.take m ys) (0 : Nat) (avLen (Av.sl (List.take m ys) m) / (8 : Nat))))
          (0 : Nat)
          (avLen
            (Av.sl
              (List.take (avLen (Av.sl (List.take m ys) m) / (8 : Nat) * (2 : Nat))
                (rdL (List.take m ys) (0 : Nat) (avLen (Av.sl (List.take m ys) m) / (8 : Nat))))
              (avLen (Av.sl (List.take m ys) m) / (8 : Nat)))) =
        true,
      capBig + (3 : Nat) = capBig + (3 : Nat),
      avLen
            (Av.sl
              (List.take (avLen (Av.sl (List.take m ys) m) / (8 : Nat) * (2 : Nat))
                (rdL (List.take m ys) (0 : Nat) (avLen (Av.sl (List.take m ys) m) / (8 : Nat))))
              (avLen (Av.sl (List.take m ys) m) / (8 : Nat))) *
          (8 : Nat) ≤
        List.length
          (wrL
            (List.take (avLen (Av.sl (List.take m ys) m) / (8 : Nat) * (2 : Nat))
              (rdL (List.take m ys) (0 : Nat) (avLen (Av.sl (List.take m ys) m) / (8 : Nat))))
            (0 : Nat)
            (avLen
              (Av.sl
                (List.take (avLen (Av.sl (List.take m ys) m) / (8 : Nat) * (2 : Nat))
                  (rdL (List.take m ys) (0 : Nat) (avLen (Av.sl (List.take m ys) m) / (8 : Nat))))
                (avLen (Av.sl (List.take m ys) m) / (8 : Nat))))),
      (0 : Nat) < (1 : Nat),
      avLen
            (Av.sl
              (List.take (avLen (Av.sl (List.take m ys) m) / (8 : Nat) * (2 : Nat))
                (rdL (List.take m ys) (0 : Nat) (avLen (Av.sl (List.take m ys) m) / (8 : Nat))))
              (avLen (Av.sl (List.take m ys) m) / (8 : Nat))) *
          (8 : Nat) ≤
        List.length
          (wrL
            (List.take (avLen (Av.sl (List.take m ys) m) / (8 : Nat) * (2 : Nat))
              (rdL (List.take m ys) (0 : Nat) (avLen (Av.sl (List.take m ys) m) / (8 : Nat))))
            (0 : Nat)
            (avLen
              (Av.sl
                (List.take (avLen (Av.sl (List.take m ys) m) / (8 : Nat) * (2 : Nat))
                  (rdL (List.take m ys) (0 : Nat) (avLen (Av.sl (List.take m ys) m) / (8 : Nat))))
                (avLen (Av.sl (List.take m ys) m) / (8 : Nat))))),
      Fl
        (List.take
          (avLen
              (Av.sl
                (List.take (avLen (Av.sl (List.take m ys) m) / (8 : Nat) * (2 : Nat))
                  (rdL (List.take m ys) (0 : Nat) (avLen (Av.sl (List.take m ys) m) / (8 : Nat))))
                (avLen (Av.sl (List.take m ys) m) / (8 : Nat))) *
            (8 : Nat))
          (wrL
            (List.take (avLen (Av.sl (List.take m ys) m) / (8 : Nat) * (2 : Nat))
              (rdL (List.take m ys) (0 : Nat) (avLen (Av.sl (List.take m ys) m) / (8 : Nat))))
            (0 : Nat)
            (avLen
              (Av.sl
                (List.take (avLen (Av.sl (List.take m ys) m) / (8 : Nat) * (2 : Nat))
                  (rdL (List.take m ys) (0 : Nat) (avLen (Av.sl (List.take m ys) m) / (8 : Nat))))
                (avLen (Av.sl (List.take m ys) m) / (8 : Nat)))))),
      m ≤ d ∧ d ≤ (9223372036854775807 : Nat), m ≤ List.length ys, Fl (List.take m ys),
      Byts
        (List.take
          (avLen
              (Av.sl
                (List.take (avLen (Av.sl (List.take m ys) m) / (8 : Nat) * (2 : Nat))
                  (rdL (List.take m ys) (0 : Nat) (avLen (Av.sl (List.take m ys) m) / (8 : Nat))))
                (avLen (Av.sl (List.take m ys) m) / (8 : Nat))) *
            (8 : Nat))
          (wrL
            (List.take (avLen (Av.sl (List.take m ys) m) / (8 : Nat) * (2 : Nat))
              (rdL (List.take m ys) (0 : Nat) (avLen (Av.sl (List.take m ys) m) / (8 : Nat))))
            (0 : Nat)
            (avLen
              (Av.sl
                (List.take (avLen (Av.sl (List.take m ys) m) / (8 : Nat) * (2 : Nat))
                  (rdL (List.take m ys) (0 : Nat) (avLen (Av.sl (List.take m ys) m) / (8 : Nat))))
                (avLen (Av.sl (List.take m ys) m) / (8 : Nat)))))),
      Byts (List.take m ys),
      decide
          (intsOf
              (List.take
                (avLen
                    (Av.sl
                      (List.take (avLen (Av.sl (List.take m ys) m) / (8 : Nat) * (2 : Nat))
                        (rdL (List.take m ys) (0 : Nat) (avLen (Av.sl (List.take m ys) m) / (8 : Nat))))
                      (avLen (Av.sl (List.take m ys) m) / (8 : Nat))) *
                  (8 : Nat))
                (wrL
                  (List.take (avLen (Av.sl (List.take m ys) m) / (8 : Nat) * (2 : Nat))
                    (rdL (List.take m ys) (0 : Nat) (avLen (Av.sl (List.take m ys) m) / (8 : Nat))))
                  (0 : Nat)
                  (avLen
                    (Av.sl
                      (List.take (avLen (Av.sl (List.take m ys) m) / (8 : Nat) * (2 : Nat))
                        (rdL (List.take m ys) (0 : Nat) (avLen (Av.sl (List.take m ys) m) / (8 : Nat))))
                      (avLen (Av.sl (List.take m ys) m) / (8 : Nat)))))) =
            intsOf (List.take m ys)) =
        true]) := by kernel_rfl
theorem bk_long_n (xs : List Value) (n c : Nat) : runZ bkV Try.prog 5 8 [cbA n c, .slice none 0 0] [(0, ⟨.old, xs⟩)] 2 ([false, false] ++ [true] ++ [false, true] ++ [false, true] ++ [true]) =
Res.ok
  ((Value.bool true, [((0 : Nat), Rw.mk Kd.old xs)], (2 : Nat), []), [],
    [decide ((↑n : Int) > (200 : Int)) = false, false = false, n ≤ c ∧ c ≤ (9223372036854775807 : Nat),
      n * (2 : Nat) ≤ List.length xs, Fl (List.take (n * (2 : Nat)) xs),
      Ints IntKind.i64 (List.take (n * (2 : Nat)) xs),
      decide (avLen (Av.sl (List.take (n * (2 : Nat)) xs) n) ≤ (128 : Nat)) = false, Byts [], (0 : Nat) = (0 : Nat),
      Ints IntKind.i64 [], (0 : Nat) = (0 : Nat), Byts [], Byts [], true = true]) := by kernel_rfl
theorem bk_not_bad (xs ys : List Value) (n c m d : Nat) : runZ bkV Try.prog 5 8 [cbA n c, cbB m d] [(0, ⟨.old, xs⟩), (1, ⟨.old, ys⟩)] 2 ([false, false] ++ [false, false, false] ++ [true]) =
Res.ok
  ((Value.bool true, [((0 : Nat), Rw.mk Kd.old xs), ((1 : Nat), Rw.mk Kd.old ys)], (2 : Nat), []), [],
    [decide ((↑n : Int) > (200 : Int)) = false, decide ((↑m : Int) > (2000 : Int)) = false,
      n ≤ c ∧ c ≤ (9223372036854775807 : Nat), n * (2 : Nat) ≤ List.length xs, Fl (List.take (n * (2 : Nat)) xs),
      Ints IntKind.i64 (List.take (n * (2 : Nat)) xs),
      decide (avLen (Av.sl (List.take (n * (2 : Nat)) xs) n) = (0 : Nat)) = false,
      decide (avLen (Av.sl (List.take (n * (2 : Nat)) xs) n) ≤ (128 : Nat)) = true,
      wrOk (List.take (n * (2 : Nat)) xs) (0 : Nat) (avLen (Av.sl (List.take (n * (2 : Nat)) xs) n)) = false,
      m ≤ d ∧ d ≤ (9223372036854775807 : Nat), m ≤ List.length ys, Fl (List.take m ys), Byts (List.take m ys),
      decide (avLen (Av.sl (List.take m ys) m) % (8 : Nat) = (0 : Nat)) = false]) := by kernel_rfl
theorem bk_not_nil (xs ys : List Value) (n c m d : Nat) : runZ bkV Try.prog 5 8 [cbA n c, cbB m d] [(0, ⟨.old, xs⟩), (1, ⟨.old, ys⟩)] 2 ([false, false] ++ [false, false, false] ++ [false, true] ++ [false, true] ++ [true]) =
Res.ok
  ((Value.bool true, [((0 : Nat), Rw.mk Kd.old xs), ((1 : Nat), Rw.mk Kd.old ys)], (2 : Nat), []), [],
    [decide ((↑n : Int) > (200 : Int)) = false, decide ((↑m : Int) > (2000 : Int)) = false,
      n ≤ c ∧ c ≤ (9223372036854775807 : Nat), n * (2 : Nat) ≤ List.length xs, Fl (List.take (n * (2 : Nat)) xs),
      Ints IntKind.i64 (List.take (n * (2 : Nat)) xs),
      decide (avLen (Av.sl (List.take (n * (2 : Nat)) xs) n) = (0 : Nat)) = false,
      decide (avLen (Av.sl (List.take (n * (2 : Nat)) xs) n) ≤ (128 : Nat)) = true,
      wrOk (List.take (n * (2 : Nat)) xs) (0 : Nat) (avLen (Av.sl (List.take (n * (2 : Nat)) xs) n)) = false,
      m ≤ d ∧ d ≤ (9223372036854775807 : Nat), m ≤ List.length ys, Fl (List.take m ys), Byts (List.take m ys),
      avLen (Av.sl (List.take m ys) m) = (0 : Nat), Ints IntKind.i64 [], (0 : Nat) = (0 : Nat),
      m ≤ d ∧ d ≤ (9223372036854775807 : Nat), m ≤ List.length ys, Fl (List.take m ys), Byts [], Byts (List.take m ys),
      decide (intsOf [] = intsOf (List.take m ys)) = true]) := by kernel_rfl
theorem bk_not_not (xs ys : List Value) (n c m d : Nat) : runZ bkV Try.prog 5 8 [cbA n c, cbB m d] [(0, ⟨.old, xs⟩), (1, ⟨.old, ys⟩)] 2 ([false, false] ++ [false, false, false] ++ [false, false, false]) =
Res.ok
  ((Value.bool true, [((0 : Nat), Rw.mk Kd.old xs), ((1 : Nat), Rw.mk Kd.old ys)], (2 : Nat), []), [],
    [decide ((↑n : Int) > (200 : Int)) = false, decide ((↑m : Int) > (2000 : Int)) = false,
      n ≤ c ∧ c ≤ (9223372036854775807 : Nat), n * (2 : Nat) ≤ List.length xs, Fl (List.take (n * (2 : Nat)) xs),
      Ints IntKind.i64 (List.take (n * (2 : Nat)) xs),
      decide (avLen (Av.sl (List.take (n * (2 : Nat)) xs) n) = (0 : Nat)) = false,
      decide (avLen (Av.sl (List.take (n * (2 : Nat)) xs) n) ≤ (128 : Nat)) = true,
      wrOk (List.take (n * (2 : Nat)) xs) (0 : Nat) (avLen (Av.sl (List.take (n * (2 : Nat)) xs) n)) = false,
      m ≤ d ∧ d ≤ (9223372036854775807 : Nat), m ≤ List.length ys, Fl (List.take m ys), Byts (List.take m ys),
      avLen (Av.sl (List.take m ys) m) % (8 : Nat) = (0 : Nat),
      decide (avLen (Av.sl (List.take m ys) m) = (0 : Nat)) = false, avLen (Av.sl (List.take m ys) m) ≤ (4096 : Nat),
      rdOk (List.take m ys) (0 : Nat) (avLen (Av.sl (List.take m ys) m) / (8 : Nat)) = false]) := by kernel_rfl
theorem bk_not_long (xs ys : List Value) (n c m d : Nat) : runZ bkV Try.prog 5 8 [cbA n c, cbB m d] [(0, ⟨.old, xs⟩), (1, ⟨.old, ys⟩)] 2 ([false, false] ++ [false, false, false] ++ [false, false, true, true]) =
Res.ok
  ((Value.bool true, [((0 : Nat), Rw.mk Kd.old xs), ((1 : Nat), Rw.mk Kd.old ys)], (2 : Nat), []), [],
    [decide ((↑n : Int) > (200 : Int)) = false, decide ((↑m : Int) > (2000 : Int)) = false,
      n ≤ c ∧ c ≤ (9223372036854775807 : Nat), n * (2 : Nat) ≤ List.length xs, Fl (List.take (n * (2 : Nat)) xs),
      Ints IntKind.i64 (List.take (n * (2 : Nat)) xs),
      decide (avLen (Av.sl (List.take (n * (2 : Nat)) xs) n) = (0 : Nat)) = false,
      decide (avLen (Av.sl (List.take (n * (2 : Nat)) xs) n) ≤ (128 : Nat)) = true,
      wrOk (List.take (n * (2 : Nat)) xs) (0 : Nat) (avLen (Av.sl (List.take (n * (2 : Nat)) xs) n)) = false,
      m ≤ d ∧ d ≤ (9223372036854775807 : Nat), m ≤ List.length ys, Fl (List.take m ys), Byts (List.take m ys),
      avLen (Av.sl (List.take m ys) m) % (8 : Nat) = (0 : Nat),
      decide (avLen (Av.sl (List.take m ys) m) = (0 : Nat)) = false, avLen (Av.sl (List.take m ys) m) ≤ (4096 : Nat),
      rdOk (List.take m ys) (0 : Nat) (avLen (Av.sl (List.take m ys) m) / (8 : Nat)) = true,
      decide (avLen (Av.sl (List.take m ys) m) / (8 : Nat) ≤ (128 : Nat)) = false]) := by kernel_rfl
theorem bk_not_ok (xs ys : List Value) (n c m d : Nat) : runZ bkV Try.prog 5 8 [cbA n c, cbB m d] [(0, ⟨.old, xs⟩), (1, ⟨.old, ys⟩)] 2 ([false, false] ++ [false, false, false] ++ [false, false, true, false] ++ [false, false, true] ++ [true]) =
Res.ok
  ((Value.bool true, [((0 : Nat), Rw.mk Kd.old xs), ((1 : Nat), Rw.mk Kd.old ys)], (4 : Nat), []), [],
    [decide ((↑n : Int) > (200 : Int)) = false, decide ((↑m : Int) > (2000 : Int)) = false,
      n ≤ c ∧ c ≤ (9223372036854775807 : Nat), n * (2 : Nat) ≤ List.length xs, Fl (List.take (n * (2 : Nat)) xs),
      Ints IntKind.i64 (List.take (n * (2 : Nat)) xs),
      decide (avLen (Av.sl (List.take (n * (2 : Nat)) xs) n) = (0 : Nat)) = false,
      decide (avLen (Av.sl (List.take (n * (2 : Nat)) xs) n) ≤ (128 : Nat)) = true,
      wrOk (List.take (n * (2 : Nat)) xs) (0 : Nat) (avLen (Av.sl (List.take (n * (2 : Nat)) xs) n)) = false,
      m ≤ d ∧ d ≤ (9223372036854775807 : Nat), m ≤ List.length ys, Fl (List.take m ys), Byts (List.take m ys),
      avLen (Av.sl (List.take m ys) m) % (8 : Nat) = (0 : Nat),
      decide (avLen (Av.sl (List.take m ys) m) = (0 : Nat)) = false, avLen (Av.sl (List.take m ys) m) ≤ (4096 : Nat),
      rdOk (List.take m ys) (0 : Nat) (avLen (Av.sl (List.take m ys) m) / (8 : Nat)) = true,
      decide (avLen (Av.sl (List.take m ys) m) / (8 : Nat) ≤ (128 : Nat)) = true,
      capBig + (2 : Nat) = capBig + (2 : Nat),
      avLen (Av.sl (List.take m ys) m) / (8 : Nat) * (2 : Nat) ≤
        List.length (rdL (List.take m ys) (0 : Nat) (avLen (Av.sl (List.take m ys) m) / (8 : Nat))),
      (0 : Nat) < (2 : Nat),
      avLen (Av.sl (List.take m ys) m) / (8 : Nat) * (2 : Nat) ≤
        List.length (rdL (List.take m ys) (0 : Nat) (avLen (Av.sl (List.take m ys) m) / (8 : Nat))),
      Fl
        (List.take (avLen (Av.sl (List.take m ys) m) / (8 : Nat) * (2 : Nat))
          (rdL (List.take m ys) (0 : Nat) (avLen (Av.sl (List.take m ys) m) / (8 : Nat)))),
      Ints IntKind.i64
        (List.take (avLen (Av.sl (List.take m ys) m) / (8 : Nat) * (2 : Nat))
          (rdL (List.take m ys) (0 : Nat) (avLen (Av.sl (List.take m ys) m) / (8 : Nat)))),
      decide
          (avLen
              (Av.sl
                (List.take (avLen (Av.sl (List.take m ys) m) / (8 : Nat) * (2 : Nat))
                  (rdL (List.take m ys) (0 : Nat) (avLen (Av.sl (List.take m ys) m) / (8 : Nat))))
                (avLen (Av.sl (List.take m ys) m) / (8 : Nat))) =
            (0 : Nat)) =
        false,
      decide
          (avLen
              (Av.sl
                (List.take (avLen (Av.sl (List.take m ys) m) / (8 : Nat) * (2 : Nat))
                  (rdL (List.take m ys) (0 : Nat) (avLen (Av.sl (List.take m ys) m) / (8 : Nat))))
                (avLen (Av.sl (List.take m ys) m) / (8 : Nat))) ≤
            (128 : Nat)) =
        true,
      wrOk
          (List.take (avLen (Av.sl (List.take m ys) m) / (8 : Nat) * (2 : Nat))
            (rdL (List.take m ys) (0 : Nat) (avLen (Av.sl (List.take m ys) m) / (8 : Nat))))
          (0 : Nat)
          (avLen
            (Av.sl
              (List.take (avLen (Av.sl (List.take m ys) m) / (8 : Nat) * (2 : Nat))
                (rdL (List.take m ys) (0 : Nat) (avLen (Av.sl (List.take m ys) m) / (8 : Nat))))
              (avLen (Av.sl (List.take m ys) m) / (8 : Nat)))) =
        true,
      capBig + (3 : Nat) = capBig + (3 : Nat),
      avLen
            (Av.sl
              (List.take (avLen (Av.sl (List.take m ys) m) / (8 : Nat) * (2 : Nat))
                (rdL (List.take m ys) (0 : Nat) (avLen (Av.sl (List.take m ys) m) / (8 : Nat))))
              (avLen (Av.sl (List.take m ys) m) / (8 : Nat))) *
          (8 : Nat) ≤
        List.length
          (wrL
            (List.take (avLen (Av.sl (List.take m ys) m) / (8 : Nat) * (2 : Nat))
              (rdL (List.take m ys) (0 : Nat) (avLen (Av.sl (List.take m ys) m) / (8 : Nat))))
            (0 : Nat)
            (avLen
              (Av.sl
                (List.take (avLen (Av.sl (List.take m ys) m) / (8 : Nat) * (2 : Nat))
                  (rdL (List.take m ys) (0 : Nat) (avLen (Av.sl (List.take m ys) m) / (8 : Nat))))
                (avLen (Av.sl (List.take m ys) m) / (8 : Nat))))),
      (0 : Nat) < (1 : Nat),
      avLen
            (Av.sl
              (List.take (avLen (Av.sl (List.take m ys) m) / (8 : Nat) * (2 : Nat))
                (rdL (List.take m ys) (0 : Nat) (avLen (Av.sl (List.take m ys) m) / (8 : Nat))))
              (avLen (Av.sl (List.take m ys) m) / (8 : Nat))) *
          (8 : Nat) ≤
        List.length
          (wrL
            (List.take (avLen (Av.sl (List.take m ys) m) / (8 : Nat) * (2 : Nat))
              (rdL (List.take m ys) (0 : Nat) (avLen (Av.sl (List.take m ys) m) / (8 : Nat))))
            (0 : Nat)
            (avLen
              (Av.sl
                (List.take (avLen (Av.sl (List.take m ys) m) / (8 : Nat) * (2 : Nat))
                  (rdL (List.take m ys) (0 : Nat) (avLen (Av.sl (List.take m ys) m) / (8 : Nat))))
                (avLen (Av.sl (List.take m ys) m) / (8 : Nat))))),
      Fl
        (List.take
          (avLen
              (Av.sl
                (List.take (avLen (Av.sl (List.take m ys) m) / (8 : Nat) * (2 : Nat))
                  (rdL (List.take m ys) (0 : Nat) (avLen (Av.sl (List.take m ys) m) / (8 : Nat))))
                (avLen (Av.sl (List.take m ys) m) / (8 : Nat))) *
            (8 : Nat))
          (wrL
            (List.take (avLen (Av.sl (List.take m ys) m) / (8 : Nat) * (2 : Nat))
              (rdL (List.take m ys) (0 : Nat) (avLen (Av.sl (List.take m ys) m) / (8 : Nat))))
            (0 : Nat)
            (avLen
              (Av.sl
                (List.take (avLen (Av.sl (List.take m ys) m) / (8 : Nat) * (2 : Nat))
                  (rdL (List.take m ys) (0 : Nat) (avLen (Av.sl (List.take m ys) m) / (8 : Nat))))
                (avLen (Av.sl (List.take m ys) m) / (8 : Nat)))))),
      m ≤ d ∧ d ≤ (9223372036854775807 : Nat), m ≤ List.length ys, Fl (List.take m ys),
      Byts
        (List.take
          (avLen
              (Av.sl
                (List.take (avLen (Av.sl (List.take m ys) m) / (8 : Nat) * (2 : Nat))
                  (rdL (List.take m ys) (0 : Nat) (avLen (Av.sl (List.take m ys) m) / (8 : Nat))))
                (avLen (Av.sl (List.take m ys) m) / (8 : Nat))) *
            (8 : Nat))
          (wrL
            (List.take (avLen (Av.sl (List.take m ys) m) / (8 : Nat) * (2 : Nat))
              (rdL (List.take m ys) (0 : Nat) (avLen (Av.sl (List.take m ys) m) / (8 : Nat))))
            (0 : Nat)
            (avLen
              (Av.sl
                (List.take (avLen (Av.sl (List.take m ys) m) / (8 : Nat) * (2 : Nat))
                  (rdL (List.take m ys) (0 : Nat) (avLen (Av.sl (List.take m ys) m) / (8 : Nat))))
                (avLen (Av.sl (List.take m ys) m) / (8 : Nat)))))),
      Byts (List.take m ys),
      decide
          (intsOf
              (List.take
                (avLen
                    (Av.sl
                      (List.take (avLen (Av.sl (List.take m ys) m) / (8 : Nat) * (2 : Nat))
                        (rdL (List.take m ys) (0 : Nat) (avLen (Av.sl (List.take m ys) m) / (8 : Nat))))
                      (avLen (Av.sl (List.take m ys) m) / (8 : Nat))) *
                  (8 : Nat))
                (wrL
                  (List.take (avLen (Av.sl (List.take m ys) m) / (8 : Nat) * (2 : Nat))
                    (rdL (List.take m ys) (0 : Nat) (avLen (Av.sl (List.take m ys) m) / (8 : Nat))))
                  (0 : Nat)
                  (avLen
                    (Av.sl
                      (List.take (avLen (Av.sl (List.take m ys) m) / (8 : Nat) * (2 : Nat))
                        (rdL (List.take m ys) (0 : Nat) (avLen (Av.sl (List.take m ys) m) / (8 : Nat))))
                      (avLen (Av.sl (List.take m ys) m) / (8 : Nat)))))) =
            intsOf (List.take m ys)) =
        true]) := by kernel_rfl
theorem bk_not_n (xs : List Value) (n c : Nat) : runZ bkV Try.prog 5 8 [cbA n c, .slice none 0 0] [(0, ⟨.old, xs⟩)] 2 ([false, false] ++ [false, false, false] ++ [false, true] ++ [false, true] ++ [true]) =
Res.ok
  ((Value.bool true, [((0 : Nat), Rw.mk Kd.old xs)], (2 : Nat), []), [],
    [decide ((↑n : Int) > (200 : Int)) = false, false = false, n ≤ c ∧ c ≤ (9223372036854775807 : Nat),
      n * (2 : Nat) ≤ List.length xs, Fl (List.take (n * (2 : Nat)) xs),
      Ints IntKind.i64 (List.take (n * (2 : Nat)) xs),
      decide (avLen (Av.sl (List.take (n * (2 : Nat)) xs) n) = (0 : Nat)) = false,
      decide (avLen (Av.sl (List.take (n * (2 : Nat)) xs) n) ≤ (128 : Nat)) = true,
      wrOk (List.take (n * (2 : Nat)) xs) (0 : Nat) (avLen (Av.sl (List.take (n * (2 : Nat)) xs) n)) = false, Byts [],
      (0 : Nat) = (0 : Nat), Ints IntKind.i64 [], (0 : Nat) = (0 : Nat), Byts [], Byts [], true = true]) := by kernel_rfl
theorem bk_ok_bad (xs ys : List Value) (n c m d : Nat) : runZ bkV Try.prog 5 8 [cbA n c, cbB m d] [(0, ⟨.old, xs⟩), (1, ⟨.old, ys⟩)] 2 ([false, false] ++ [false, false, true] ++ [false, false, true, false] ++ [false] ++ [true]) =
Res.ok
  ((Value.bool true, [((0 : Nat), Rw.mk Kd.old xs), ((1 : Nat), Rw.mk Kd.old ys)], (4 : Nat), []), [],
    [decide ((↑n : Int) > (200 : Int)) = false, decide ((↑m : Int) > (2000 : Int)) = false,
      n ≤ c ∧ c ≤ (9223372036854775807 : Nat), n * (2 : Nat) ≤ List.length xs, Fl (List.take (n * (2 : Nat)) xs),
      Ints IntKind.i64 (List.take (n * (2 : Nat)) xs),
      decide (avLen (Av.sl (List.take (n * (2 : Nat)) xs) n) = (0 : Nat)) = false,
      decide (avLen (Av.sl (List.take (n * (2 : Nat)) xs) n) ≤ (128 : Nat)) = true,
      wrOk (List.take (n * (2 : Nat)) xs) (0 : Nat) (avLen (Av.sl (List.take (n * (2 : Nat)) xs) n)) = true,
      capBig + (2 : Nat) = capBig + (2 : Nat),
      avLen (Av.sl (List.take (n * (2 : Nat)) xs) n) * (8 : Nat) ≤
        List.length (wrL (List.take (n * (2 : Nat)) xs) (0 : Nat) (avLen (Av.sl (List.take (n * (2 : Nat)) xs) n))),
      (0 : Nat) < (1 : Nat),
      avLen (Av.sl (List.take (n * (2 : Nat)) xs) n) * (8 : Nat) ≤
        List.length (wrL (List.take (n * (2 : Nat)) xs) (0 : Nat) (avLen (Av.sl (List.take (n * (2 : Nat)) xs) n))),
      Fl
        (List.take (avLen (Av.sl (List.take (n * (2 : Nat)) xs) n) * (8 : Nat))
          (wrL (List.take (n * (2 : Nat)) xs) (0 : Nat) (avLen (Av.sl (List.take (n * (2 : Nat)) xs) n)))),
      Byts
        (List.take (avLen (Av.sl (List.take (n * (2 : Nat)) xs) n) * (8 : Nat))
          (wrL (List.take (n * (2 : Nat)) xs) (0 : Nat) (avLen (Av.sl (List.take (n * (2 : Nat)) xs) n)))),
      avLen
            (Av.sl
              (List.take (avLen (Av.sl (List.take (n * (2 : Nat)) xs) n) * (8 : Nat))
                (wrL (List.take (n * (2 : Nat)) xs) (0 : Nat) (avLen (Av.sl (List.take (n * (2 : Nat)) xs) n))))
              (avLen (Av.sl (List.take (n * (2 : Nat)) xs) n) * (8 : Nat))) %
          (8 : Nat) =
        (0 : Nat),
      decide
          (avLen
              (Av.sl
                (List.take (avLen (Av.sl (List.take (n * (2 : Nat)) xs) n) * (8 : Nat))
                  (wrL (List.take (n * (2 : Nat)) xs) (0 : Nat) (avLen (Av.sl (List.take (n * (2 : Nat)) xs) n))))
                (avLen (Av.sl (List.take (n * (2 : Nat)) xs) n) * (8 : Nat))) =
            (0 : Nat)) =
        false,
      avLen
          (Av.sl
            (List.take (avLen (Av.sl (List.take (n * (2 : Nat)) xs) n) * (8 : Nat))
              (wrL (List.take (n * (2 : Nat)) xs) (0 : Nat) (avLen (Av.sl (List.take (n * (2 : Nat)) xs) n))))
            (avLen (Av.sl (List.take (n * (2 : Nat)) xs) n) * (8 : Nat))) ≤
        (4096 : Nat),
      rdOk
          (List.take (avLen (Av.sl (List.take (n * (2 : Nat)) xs) n) * (8 : Nat))
            (wrL (List.take (n * (2 : Nat)) xs) (0 : Nat) (avLen (Av.sl (List.take (n * (2 : Nat)) xs) n))))
          (0 : Nat)
          (avLen
              (Av.sl
                (List.take (avLen (Av.sl (List.take (n * (2 : Nat)) xs) n) * (8 : Nat))
                  (wrL (List.take (n * (2 : Nat)) xs) (0 : Nat) (avLen (Av.sl (List.take (n * (2 : Nat)) xs) n))))
                (avLen (Av.sl (List.take (n * (2 : Nat)) xs) n) * (8 : Nat))) /
            (8 : Nat)) =
        true,
      decide
          (avLen
                (Av.sl
                  (List.take (avLen (Av.sl (List.take (n * (2 : Nat)) xs) n) * (8 : Nat))
                    (wrL (List.take (n * (2 : Nat)) xs) (0 : Nat) (avLen (Av.sl (List.take (n * (2 : Nat)) xs) n))))
                  (avLen (Av.sl (List.take (n * (2 : Nat)) xs) n) * (8 : Nat))) /
              (8 : Nat) ≤
            (128 : Nat)) =
        true,
      capBig + (3 : Nat) = capBig + (3 : Nat),
      avLen
              (Av.sl
                (List.take (avLen (Av.sl (List.take (n * (2 : Nat)) xs) n) * (8 : Nat))
                  (wrL (List.take (n * (2 : Nat)) xs) (0 : Nat) (avLen (Av.sl (List.take (n * (2 : Nat)) xs) n))))
                (avLen (Av.sl (List.take (n * (2 : Nat)) xs) n) * (8 : Nat))) /
            (8 : Nat) *
          (2 : Nat) ≤
        List.length
          (rdL
            (List.take (avLen (Av.sl (List.take (n * (2 : Nat)) xs) n) * (8 : Nat))
              (wrL (List.take (n * (2 : Nat)) xs) (0 : Nat) (avLen (Av.sl (List.take (n * (2 : Nat)) xs) n))))
            (0 : Nat)
            (avLen
                (Av.sl
                  (List.take (avLen (Av.sl (List.take (n * (2 : Nat)) xs) n) * (8 : Nat))
                    (wrL (List.take (n * (2 : Nat)) xs) (0 : Nat) (avLen (Av.sl (List.take (n * (2 : Nat)) xs) n))))
                  (avLen (Av.sl (List.take (n * (2 : Nat)) xs) n) * (8 : Nat))) /
              (8 : Nat))),
      (0 : Nat) < (2 : Nat),
      avLen
              (Av.sl
                (List.take (avLen (Av.sl (List.take (n * (2 : Nat)) xs) n) * (8 : Nat))
                  (wrL (List.take (n * (2 : Nat)) xs) (0 : Nat) (avLen (Av.sl (List.take (n * (2 : Nat)) xs) n))))
                (avLen (Av.sl (List.take (n * (2 : Nat)) xs) n) * (8 : Nat))) /
            (8 : Nat) *
          (2 : Nat) ≤
        List.length
          (rdL
            (List.take (avLen (Av.sl (List.take (n * (2 : Nat)) xs) n) * (8 : Nat))
              (wrL (List.take (n * (2 : Nat)) xs) (0 : Nat) (avLen (Av.sl (List.take (n * (2 : Nat)) xs) n))))
            (0 : Nat)
            (avLen
                (Av.sl
                  (List.take (avLen (Av.sl (List.take (n * (2 : Nat)) xs) n) * (8 : Nat))
                    (wrL (List.take (n * (2 : Nat)) xs) (0 : Nat) (avLen (Av.sl (List.take (n * (2 : Nat)) xs) n))))
                  (avLen (Av.sl (List.take (n * (2 : Nat)) xs) n) * (8 : Nat))) /
              (8 : Nat))),
      Fl
        (List.take
          (avLen
                (Av.sl
                  (List.take (avLen (Av.sl (List.take (n * (2 : Nat)) xs) n) * (8 : Nat))
                    (wrL (List.take (n * (2 : Nat)) xs) (0 : Nat) (avLen (Av.sl (List.take (n * (2 : Nat)) xs) n))))
                  (avLen (Av.sl (List.take (n * (2 : Nat)) xs) n) * (8 : Nat))) /
              (8 : Nat) *
            (2 : Nat))
          (rdL
            (List.take (avLen (Av.sl (List.take (n * (2 : Nat)) xs) n) * (8 : Nat))
              (wrL (List.take (n * (2 : Nat)) xs) (0 : Nat) (avLen (Av.sl (List.take (n * (2 : Nat)) xs) n))))
            (0 : Nat)
            (avLen
                (Av.sl
                  (List.take (avLen (Av.sl (List.take (n * (2 : Nat)) xs) n) * (8 : Nat))
                    (wrL (List.take (n * (2 : Nat)) xs) (0 : Nat) (avLen (Av.sl (List.take (n * (2 : Nat)) xs) n))))
                  (avLen (Av.sl (List.take (n * (2 : Nat)) xs) n) * (8 : Nat))) /
              (8 : Nat)))),
      n ≤ c ∧ c ≤ (9223372036854775807 : Nat), n * (2 : Nat) ≤ List.length xs, Fl (List.take (n * (2 : Nat)) xs),
      Ints IntKind.i64
        (List.take
          (avLen
                (Av.sl
                  (List.take (avLen (Av.sl (List.take (n * (2 : Nat)) xs) n) * (8 : Nat))
                    (wrL (List.take (n * (2 : Nat)) xs) (0 : Nat) (avLen (Av.sl (List.take (n * (2 : Nat)) xs) n))))
                  (avLen (Av.sl (List.take (n * (2 : Nat)) xs) n) * (8 : Nat))) /
              (8 : Nat) *
            (2 : Nat))
          (rdL
            (List.take (avLen (Av.sl (List.take (n * (2 : Nat)) xs) n) * (8 : Nat))
              (wrL (List.take (n * (2 : Nat)) xs) (0 : Nat) (avLen (Av.sl (List.take (n * (2 : Nat)) xs) n))))
            (0 : Nat)
            (avLen
                (Av.sl
                  (List.take (avLen (Av.sl (List.take (n * (2 : Nat)) xs) n) * (8 : Nat))
                    (wrL (List.take (n * (2 : Nat)) xs) (0 : Nat) (avLen (Av.sl (List.take (n * (2 : Nat)) xs) n))))
                  (avLen (Av.sl (List.take (n * (2 : Nat)) xs) n) * (8 : Nat))) /
              (8 : Nat)))),
      List.take (n * (2 : Nat)) xs =
        List.take
          (avLen
                (Av.sl
                  (List.take (avLen (Av.sl (List.take (n * (2 : Nat)) xs) n) * (8 : Nat))
                    (wrL (List.take (n * (2 : Nat)) xs) (0 : Nat) (avLen (Av.sl (List.take (n * (2 : Nat)) xs) n))))
                  (avLen (Av.sl (List.take (n * (2 : Nat)) xs) n) * (8 : Nat))) /
              (8 : Nat) *
            (2 : Nat))
          (rdL
            (List.take (avLen (Av.sl (List.take (n * (2 : Nat)) xs) n) * (8 : Nat))
              (wrL (List.take (n * (2 : Nat)) xs) (0 : Nat) (avLen (Av.sl (List.take (n * (2 : Nat)) xs) n))))
            (0 : Nat)
            (avLen
                (Av.sl
                  (List.take (avLen (Av.sl (List.take (n * (2 : Nat)) xs) n) * (8 : Nat))
                    (wrL (List.take (n * (2 : Nat)) xs) (0 : Nat) (avLen (Av.sl (List.take (n * (2 : Nat)) xs) n))))
                  (avLen (Av.sl (List.take (n * (2 : Nat)) xs) n) * (8 : Nat))) /
              (8 : Nat))),
      avLen (Av.sl (List.take (n * (2 : Nat)) xs) n) =
        avLen
          (Av.sl
            (List.take
              (avLen
                    (Av.sl
                      (List.take (avLen (Av.sl (List.take (n * (2 : Nat)) xs) n) * (8 : Nat))
                        (wrL (List.take (n * (2 : Nat)) xs) (0 : Nat) (avLen (Av.sl (List.take (n * (2 : Nat)) xs) n))))
                      (avLen (Av.sl (List.take (n * (2 : Nat)) xs) n) * (8 : Nat))) /
                  (8 : Nat) *
                (2 : Nat))
              (rdL
                (List.take (avLen (Av.sl (List.take (n * (2 : Nat)) xs) n) * (8 : Nat))
                  (wrL (List.take (n * (2 : Nat)) xs) (0 : Nat) (avLen (Av.sl (List.take (n * (2 : Nat)) xs) n))))
                (0 : Nat)
                (avLen
                    (Av.sl
                      (List.take (avLen (Av.sl (List.take (n * (2 : Nat)) xs) n) * (8 : Nat))
                        (wrL (List.take (n * (2 : Nat)) xs) (0 : Nat) (avLen (Av.sl (List.take (n * (2 : Nat)) xs) n))))
                      (avLen (Av.sl (List.take (n * (2 : Nat)) xs) n) * (8 : Nat))) /
                  (8 : Nat))))
            (avLen
                (Av.sl
                  (List.take (avLen (Av.sl (List.take (n * (2 : Nat)) xs) n) * (8 : Nat))
                    (wrL (List.take (n * (2 : Nat)) xs) (0 : Nat) (avLen (Av.sl (List.take (n * (2 : Nat)) xs) n))))
                  (avLen (Av.sl (List.take (n * (2 : Nat)) xs) n) * (8 : Nat))) /
              (8 : Nat))),
      rg IntKind.i64 (↑((8 : Nat) * n) : Int),
      ((↑(avLen (Av.sl (List.take (n * (2 : Nat)) xs) n) * (8 : Nat)) : Int) != (↑((8 : Nat) * n) : Int)) = false,
      m ≤ d ∧ d ≤ (9223372036854775807 : Nat), m ≤ List.length ys, Fl (List.take m ys), Byts (List.take m ys),
      decide (avLen (Av.sl (List.take m ys) m) % (8 : Nat) = (0 : Nat)) = false]) := by kernel_rfl
theorem bk_ok_nil (xs ys : List Value) (n c m d : Nat) : runZ bkV Try.prog 5 8 [cbA n c, cbB m d] [(0, ⟨.old, xs⟩), (1, ⟨.old, ys⟩)] 2 ([false, false] ++ [false, false, true] ++ [false, false, true, false] ++ [false] ++ [false, true] ++ [false, true] ++ [true]) =
Res.ok
  ((Value.bool true, [((0 : Nat), Rw.mk Kd.old xs), ((1 : Nat), Rw.mk Kd.old ys)], (4 : Nat), []), [],
    [decide ((↑n : Int) > (200 : Int)) = false, decide ((↑m : Int) > (2000 : Int)) = false,
      n ≤ c ∧ c ≤ (9223372036854775807 : Nat), n * (2 : Nat) ≤ List.length xs, Fl (List.take (n * (2 : Nat)) xs),
      Ints IntKind.i64 (List.take (n * (2 : Nat)) xs),
      decide (avLen (Av.sl (List.take (n * (2 : Nat)) xs) n) = (0 : Nat)) = false,
      decide (avLen (Av.sl (List.take (n * (2 : Nat)) xs) n) ≤ (128 : Nat)) = true,
      wrOk (List.take (n * (2 : Nat)) xs) (0 : Nat) (avLen (Av.sl (List.take (n * (2 : Nat)) xs) n)) = true,
      capBig + (2 : Nat) = capBig + (2 : Nat),
      avLen (Av.sl (List.take (n * (2 : Nat)) xs) n) * (8 : Nat) ≤
        List.length (wrL (List.take (n * (2 : Nat)) xs) (0 : Nat) (avLen (Av.sl (List.take (n * (2 : Nat)) xs) n))),
      (0 : Nat) < (1 : Nat),
      avLen (Av.sl (List.take (n * (2 : Nat)) xs) n) * (8 : Nat) ≤
        List.length (wrL (List.take (n * (2 : Nat)) xs) (0 : Nat) (avLen (Av.sl (List.take (n * (2 : Nat)) xs) n))),
      Fl
        (List.take (avLen (Av.sl (List.take (n * (2 : Nat)) xs) n) * (8 : Nat))
          (wrL (List.take (n * (2 : Nat)) xs) (0 : Nat) (avLen (Av.sl (List.take (n * (2 : Nat)) xs) n)))),
      Byts
        (List.take (avLen (Av.sl (List.take (n * (2 : Nat)) xs) n) * (8 : Nat))
          (wrL (List.take (n * (2 : Nat)) xs) (0 : Nat) (avLen (Av.sl (List.take (n * (2 : Nat)) xs) n)))),
      avLen
            (Av.sl
              (List.take (avLen (Av.sl (List.take (n * (2 : Nat)) xs) n) * (8 : Nat))
                (wrL (List.take (n * (2 : Nat)) xs) (0 : Nat) (avLen (Av.sl (List.take (n * (2 : Nat)) xs) n))))
              (avLen (Av.sl (List.take (n * (2 : Nat)) xs) n) * (8 : Nat))) %
          (8 : Nat) =
        (0 : Nat),
      decide
          (avLen
              (Av.sl
                (List.take (avLen (Av.sl (List.take (n * (2 : Nat)) xs) n) * (8 : Nat))
                  (wrL (List.take (n * (2 : Nat)) xs) (0 : Nat) (avLen (Av.sl (List.take (n * (2 : Nat)) xs) n))))
                (avLen (Av.sl (List.take (n * (2 : Nat)) xs) n) * (8 : Nat))) =
            (0 : Nat)) =
        false,
      avLen
          (Av.sl
            (List.take (avLen (Av.sl (List.take (n * (2 : Nat)) xs) n) * (8 : Nat))
              (wrL (List.take (n * (2 : Nat)) xs) (0 : Nat) (avLen (Av.sl (List.take (n * (2 : Nat)) xs) n))))
            (avLen (Av.sl (List.take (n * (2 : Nat)) xs) n) * (8 : Nat))) ≤
        (4096 : Nat),
      rdOk
          (List.take (avLen (Av.sl (List.take (n * (2 : Nat)) xs) n) * (8 : Nat))
            (wrL (List.take (n * (2 : Nat)) xs) (0 : Nat) (avLen (Av.sl (List.take (n * (2 : Nat)) xs) n))))
          (0 : Nat)
          (avLen
              (Av.sl
                (List.take (avLen (Av.sl (List.take (n * (2 : Nat)) xs) n) * (8 : Nat))
                  (wrL (List.take (n * (2 : Nat)) xs) (0 : Nat) (avLen (Av.sl (List.take (n * (2 : Nat)) xs) n))))
                (avLen (Av.sl (List.take (n * (2 : Nat)) xs) n) * (8 : Nat))) /
            (8 : Nat)) =
        true,
      decide
          (avLen
                (Av.sl
                  (List.take (avLen (Av.sl (List.take (n * (2 : Nat)) xs) n) * (8 : Nat))
                    (wrL (List.take (n * (2 : Nat)) xs) (0 : Nat) (avLen (Av.sl (List.take (n * (2 : Nat)) xs) n))))
                  (avLen (Av.sl (List.take (n * (2 : Nat)) xs) n) * (8 : Nat))) /
              (8 : Nat) ≤
            (128 : Nat)) =
        true,
      capBig + (3 : Nat) = capBig + (3 : Nat),
      avLen
              (Av.sl
                (List.take (avLen (Av.sl (List.take (n * (2 : Nat)) xs) n) * (8 : Nat))
                  (wrL (List.take (n * (2 : Nat)) xs) (0 : Nat) (avLen (Av.sl (List.take (n * (2 : Nat)) xs) n))))
                (avLen (Av.sl (List.take (n * (2 : Nat)) xs) n) * (8 : Nat))) /
            (8 : Nat) *
          (2 : Nat) ≤
        List.length
          (rdL
            (List.take (avLen (Av.sl (List.take (n * (2 : Nat)) xs) n) * (8 : Nat))
              (wrL (List.take (n * (2 : Nat)) xs) (0 : Nat) (avLen (Av.sl (List.take (n * (2 : Nat)) xs) n))))
            (0 : Nat)
            (avLen
                (Av.sl
                  (List.take (avLen (Av.sl (List.take (n * (2 : Nat)) xs) n) * (8 : Nat))
                    (wrL (List.take (n * (2 : Nat)) xs) (0 : Nat) (avLen (Av.sl (List.take (n * (2 : Nat)) xs) n))))
                  (avLen (Av.sl (List.take (n * (2 : Nat)) xs) n) * (8 : Nat))) /
              (8 : Nat))),
      (0 : Nat) < (2 : Nat),
      avLen
              (Av.sl
                (List.take (avLen (Av.sl (List.take (n * (2 : Nat)) xs) n) * (8 : Nat))
                  (wrL (List.take (n * (2 : Nat)) xs) (0 : Nat) (avLen (Av.sl (List.take (n * (2 : Nat)) xs) n))))
                (avLen (Av.sl (List.take (n * (2 : Nat)) xs) n) * (8 : Nat))) /
            (8 : Nat) *
          (2 : Nat) ≤
        List.length
          (rdL
            (List.take (avLen (Av.sl (List.take (n * (2 : Nat)) xs) n) * (8 : Nat))
              (wrL (List.take (n * (2 : Nat)) xs) (0 : Nat) (avLen (Av.sl (List.take (n * (2 : Nat)) xs) n))))
            (0 : Nat)
            (avLen
                (Av.sl
                  (List.take (avLen (Av.sl (List.take (n * (2 : Nat)) xs) n) * (8 : Nat))
                    (wrL (List.take (n * (2 : Nat)) xs) (0 : Nat) (avLen (Av.sl (List.take (n * (2 : Nat)) xs) n))))
                  (avLen (Av.sl (List.take (n * (2 : Nat)) xs) n) * (8 : Nat))) /
              (8 : Nat))),
      Fl
        (List.take
          (avLen
                (Av.sl
                  (List.take (avLen (Av.sl (List.take (n * (2 : Nat)) xs) n) * (8 : Nat))
                    (wrL (List.take (n * (2 : Nat)) xs) (0 : Nat) (avLen (Av.sl (List.take (n * (2 : Nat)) xs) n))))
                  (avLen (Av.sl (List.take (n * (2 : Nat)) xs) n) * (8 : Nat))) /
              (8 : Nat) *
            (2 : Nat))
          (rdL
            (List.take (avLen (Av.sl (List.take (n * (2 : Nat)) xs) n) * (8 : Nat))
              (wrL (List.take (n * (2 : Nat)) xs) (0 : Nat) (avLen (Av.sl (List.take (n * (2 : Nat)) xs) n))))
            (0 : Nat)
            (avLen
                (Av.sl
                  (List.take (avLen (Av.sl (List.take (n * (2 : Nat)) xs) n) * (8 : Nat))
                    (wrL (List.take (n * (2 : Nat)) xs) (0 : Nat) (avLen (Av.sl (List.take (n * (2 : Nat)) xs) n))))
                  (avLen (Av.sl (List.take (n * (2 : Nat)) xs) n) * (8 : Nat))) /
              (8 : Nat)))),
      n ≤ c ∧ c ≤ (9223372036854775807 : Nat), n * (2 : Nat) ≤ List.length xs, Fl (List.take (n * (2 : Nat)) xs),
      Ints IntKind.i64
        (List.take
          (avLen
                (Av.sl
                  (List.take (avLen (Av.sl (List.take (n * (2 : Nat)) xs) n) * (8 : Nat))
                    (wrL (List.take (n * (2 : Nat)) xs) (0 : Nat) (avLen (Av.sl (List.take (n * (2 : Nat)) xs) n))))
                  (avLen (Av.sl (List.take (n * (2 : Nat)) xs) n) * (8 : Nat))) /
              (8 : Nat) *
            (2 : Nat))
          (rdL
            (List.take (avLen (Av.sl (List.take (n * (2 : Nat)) xs) n) * (8 : Nat))
              (wrL (List.take (n * (2 : Nat)) xs) (0 : Nat) (avLen (Av.sl (List.take (n * (2 : Nat)) xs) n))))
            (0 : Nat)
            (avLen
                (Av.sl
                  (List.take (avLen (Av.sl (List.take (n * (2 : Nat)) xs) n) * (8 : Nat))
                    (wrL (List.take (n * (2 : Nat)) xs) (0 : Nat) (avLen (Av.sl (List.take (n * (2 : Nat)) xs) n))))
                  (avLen (Av.sl (List.take (n * (2 : Nat)) xs) n) * (8 : Nat))) /
              (8 : Nat)))),
      List.take (n * (2 : Nat)) xs =
        List.take
          (avLen
                (Av.sl
                  (List.take (avLen (Av.sl (List.take (n * (2 : Nat)) xs) n) * (8 : Nat))
                    (wrL (List.take (n * (2 : Nat)) xs) (0 : Nat) (avLen (Av.sl (List.take (n * (2 : Nat)) xs) n))))
                  (avLen (Av.sl (List.take (n * (2 : Nat)) xs) n) * (8 : Nat))) /
              (8 : Nat) *
            (2 : Nat))
          (rdL
            (List.take (avLen (Av.sl (List.take (n * (2 : Nat)) xs) n) * (8 : Nat))
              (wrL (List.take (n * (2 : Nat)) xs) (0 : Nat) (avLen (Av.sl (List.take (n * (2 : Nat)) xs) n))))
            (0 : Nat)
            (avLen
                (Av.sl
                  (List.take (avLen (Av.sl (List.take (n * (2 : Nat)) xs) n) * (8 : Nat))
                    (wrL (List.take (n * (2 : Nat)) xs) (0 : Nat) (avLen (Av.sl (List.take (n * (2 : Nat)) xs) n))))
                  (avLen (Av.sl (List.take (n * (2 : Nat)) xs) n) * (8 : Nat))) /
              (8 : Nat))),
      avLen (Av.sl (List.take (n * (2 : Nat)) xs) n) =
        avLen
          (Av.sl
            (List.take
              (avLen
                    (Av.sl
                      (List.take (avLen (Av.sl (List.take (n * (2 : Nat)) xs) n) * (8 : Nat))
                        (wrL (List.take (n * (2 : Nat)) xs) (0 : Nat) (avLen (Av.sl (List.take (n * (2 : Nat)) xs) n))))
                      (avLen (Av.sl (List.take (n * (2 : Nat)) xs) n) * (8 : Nat))) /
                  (8 : Nat) *
                (2 : Nat))
              (rdL
                (List.take (avLen (Av.sl (List.take (n * (2 : Nat)) xs) n) * (8 : Nat))
                  (wrL (List.take (n * (2 : Nat)) xs) (0 : Nat) (avLen (Av.sl (List.take (n * (2 : Nat)) xs) n))))
                (0 : Nat)
                (avLen
                    (Av.sl
                      (List.take (avLen (Av.sl (List.take (n * (2 : Nat)) xs) n) * (8 : Nat))
                        (wrL (List.take (n * (2 : Nat)) xs) (0 : Nat) (avLen (Av.sl (List.take (n * (2 : Nat)) xs) n))))
                      (avLen (Av.sl (List.take (n * (2 : Nat)) xs) n) * (8 : Nat))) /
                  (8 : Nat))))
            (avLen
                (Av.sl
                  (List.take (avLen (Av.sl (List.take (n * (2 : Nat)) xs) n) * (8 : Nat))
                    (wrL (List.take (n * (2 : Nat)) xs) (0 : Nat) (avLen (Av.sl (List.take (n * (2 : Nat)) xs) n))))
                  (avLen (Av.sl (List.take (n * (2 : Nat)) xs) n) * (8 : Nat))) /
              (8 : Nat))),
      rg IntKind.i64 (↑((8 : Nat) * n) : Int),
      ((↑(avLen (Av.sl (List.take (n * (2 : Nat)) xs) n) * (8 : Nat)) : Int) != (↑((8 : Nat) * n) : Int)) = false,
      m ≤ d ∧ d ≤ (9223372036854775807 : Nat), m ≤ List.length ys, Fl (List.take m ys), Byts (List.take m ys),
      avLen (Av.sl (List.take m ys) m) = (0 : Nat), Ints IntKind.i64 [], (0 : Nat) = (0 : Nat),
      m ≤ d ∧ d ≤ (9223372036854775807 : Nat), m ≤ List.length ys, Fl (List.take m ys), Byts [], Byts (List.take m ys),
      decide (intsOf [] = intsOf (List.take m ys)) = true]) := by kernel_rfl
theorem bk_ok_not (xs ys : List Value) (n c m d : Nat) : runZ bkV Try.prog 5 8 [cbA n c, cbB m d] [(0, ⟨.old, xs⟩), (1, ⟨.old, ys⟩)] 2 ([false, false] ++ [false, false, true] ++ [false, false, true, false] ++ [false] ++ [false, false, false]) =
Res.ok
  ((Value.bool true, [((0 : Nat), Rw.mk Kd.old xs), ((1 : Nat), Rw.mk Kd.old ys)], (4 : Nat), []), [],
    [decide ((↑n : Int) > (200 : Int)) = false, decide ((↑m : Int) > (2000 : Int)) = false,
      n ≤ c ∧ c ≤ (9223372036854775807 : Nat), n * (2 : Nat) ≤ List.length xs, Fl (List.take (n * (2 : Nat)) xs),
      Ints IntKind.i64 (List.take (n * (2 : Nat)) xs),
      decide (avLen (Av.sl (List.take (n * (2 : Nat)) xs) n) = (0 : Nat)) = false,
      decide (avLen (Av.sl (List.take (n * (2 : Nat)) xs) n) ≤ (128 : Nat)) = true,
      wrOk (List.take (n * (2 : Nat)) xs) (0 : Nat) (avLen (Av.sl (List.take (n * (2 : Nat)) xs) n)) = true,
      capBig + (2 : Nat) = capBig + (2 : Nat),
      avLen (Av.sl (List.take (n * (2 : Nat)) xs) n) * (8 : Nat) ≤
        List.length (wrL (List.take (n * (2 : Nat)) xs) (0 : Nat) (avLen (Av.sl (List.take (n * (2 : Nat)) xs) n))),
      (0 : Nat) < (1 : Nat),
      avLen (Av.sl (List.take (n * (2 : Nat)) xs) n) * (8 : Nat) ≤
        List.length (wrL (List.take (n * (2 : Nat)) xs) (0 : Nat) (avLen (Av.sl (List.take (n * (2 : Nat)) xs) n))),
      Fl
        (List.take (avLen (Av.sl (List.take (n * (2 : Nat)) xs) n) * (8 : Nat))
          (wrL (List.take (n * (2 : Nat)) xs) (0 : Nat) (avLen (Av.sl (List.take (n * (2 : Nat)) xs) n)))),
      Byts
        (List.take (avLen (Av.sl (List.take (n * (2 : Nat)) xs) n) * (8 : Nat))
          (wrL (List.take (n * (2 : Nat)) xs) (0 : Nat) (avLen (Av.sl (List.take (n * (2 : Nat)) xs) n)))),
      avLen
            (Av.sl
              (List.take (avLen (Av.sl (List.take (n * (2 : Nat)) xs) n) * (8 : Nat))
                (wrL (List.take (n * (2 : Nat)) xs) (0 : Nat) (avLen (Av.sl (List.take (n * (2 : Nat)) xs) n))))
              (avLen (Av.sl (List.take (n * (2 : Nat)) xs) n) * (8 : Nat))) %
          (8 : Nat) =
        (0 : Nat),
      decide
          (avLen
              (Av.sl
                (List.take (avLen (Av.sl (List.take (n * (2 : Nat)) xs) n) * (8 : Nat))
                  (wrL (List.take (n * (2 : Nat)) xs) (0 : Nat) (avLen (Av.sl (List.take (n * (2 : Nat)) xs) n))))
                (avLen (Av.sl (List.take (n * (2 : Nat)) xs) n) * (8 : Nat))) =
            (0 : Nat)) =
        false,
      avLen
          (Av.sl
            (List.take (avLen (Av.sl (List.take (n * (2 : Nat)) xs) n) * (8 : Nat))
              (wrL (List.take (n * (2 : Nat)) xs) (0 : Nat) (avLen (Av.sl (List.take (n * (2 : Nat)) xs) n))))
            (avLen (Av.sl (List.take (n * (2 : Nat)) xs) n) * (8 : Nat))) ≤
        (4096 : Nat),
      rdOk
          (List.take (avLen (Av.sl (List.take (n * (2 : Nat)) xs) n) * (8 : Nat))
            (wrL (List.take (n * (2 : Nat)) xs) (0 : Nat) (avLen (Av.sl (List.take (n * (2 : Nat)) xs) n))))
          (0 : Nat)
          (avLen
              (Av.sl
                (List.take (avLen (Av.sl (List.take (n * (2 : Nat)) xs) n) * (8 : Nat))
                  (wrL (List.take (n * (2 : Nat)) xs) (0 : Nat) (avLen (Av.sl (List.take (n * (2 : Nat)) xs) n))))
                (avLen (Av.sl (List.take (n * (2 : Nat)) xs) n) * (8 : Nat))) /
            (8 : Nat)) =
        true,
      decide
          (avLen
                (Av.sl
                  (List.take (avLen (Av.sl (List.take (n * (2 : Nat)) xs) n) * (8 : Nat))
                    (wrL (List.take (n * (2 : Nat)) xs) (0 : Nat) (avLen (Av.sl (List.take (n * (2 : Nat)) xs) n))))
                  (avLen (Av.sl (List.take (n * (2 : Nat)) xs) n) * (8 : Nat))) /
              (8 : Nat) ≤
            (128 : Nat)) =
        true,
      capBig + (3 : Nat) = capBig + (3 : Nat),
      avLen
              (Av.sl
                (List.take (avLen (Av.sl (List.take (n * (2 : Nat)) xs) n) * (8 : Nat))
                  (wrL (List.take (n * (2 : Nat)) xs) (0 : Nat) (avLen (Av.sl (List.take (n * (2 : Nat)) xs) n))))
                (avLen (Av.sl (List.take (n * (2 : Nat)) xs) n) * (8 : Nat))) /
            (8 : Nat) *
          (2 : Nat) ≤
        List.length
          (rdL
            (List.take (avLen (Av.sl (List.take (n * (2 : Nat)) xs) n) * (8 : Nat))
              (wrL (List.take (n * (2 : Nat)) xs) (0 : Nat) (avLen (Av.sl (List.take (n * (2 : Nat)) xs) n))))
            (0 : Nat)
            (avLen
                (Av.sl
                  (List.take (avLen (Av.sl (List.take (n * (2 : Nat)) xs) n) * (8 : Nat))
                    (wrL (List.take (n * (2 : Nat)) xs) (0 : Nat) (avLen (Av.sl (List.take (n * (2 : Nat)) xs) n))))
                  (avLen (Av.sl (List.take (n * (2 : Nat)) xs) n) * (8 : Nat))) /
              (8 : Nat))),
      (0 : Nat) < (2 : Nat),
      avLen
              (Av.sl
                (List.take (avLen (Av.sl (List.take (n * (2 : Nat)) xs) n) * (8 : Nat))
                  (wrL (List.take (n * (2 : Nat)) xs) (0 : Nat) (avLen (Av.sl (List.take (n * (2 : Nat)) xs) n))))
                (avLen (Av.sl (List.take (n * (2 : Nat)) xs) n) * (8 : Nat))) /
            (8 : Nat) *
          (2 : Nat) ≤
        List.length
          (rdL
            (List.take (avLen (Av.sl (List.take (n * (2 : Nat)) xs) n) * (8 : Nat))
              (wrL (List.take (n * (2 : Nat)) xs) (0 : Nat) (avLen (Av.sl (List.take (n * (2 : Nat)) xs) n))))
            (0 : Nat)
            (avLen
                (Av.sl
                  (List.take (avLen (Av.sl (List.take (n * (2 : Nat)) xs) n) * (8 : Nat))
                    (wrL (List.take (n * (2 : Nat)) xs) (0 : Nat) (avLen (Av.sl (List.take (n * (2 : Nat)) xs) n))))
                  (avLen (Av.sl (List.take (n * (2 : Nat)) xs) n) * (8 : Nat))) /
              (8 : Nat))),
      Fl
        (List.take
          (avLen
                (Av.sl
                  (List.take (avLen (Av.sl (List.take (n * (2 : Nat)) xs) n) * (8 : Nat))
                    (wrL (List.take (n * (2 : Nat)) xs) (0 : Nat) (avLen (Av.sl (List.take (n * (2 : Nat)) xs) n))))
                  (avLen (Av.sl (List.take (n * (2 : Nat)) xs) n) * (8 : Nat))) /
              (8 : Nat) *
            (2 : Nat))
          (rdL
            (List.take (avLen (Av.sl (List.take (n * (2 : Nat)) xs) n) * (8 : Nat))
              (wrL (List.take (n * (2 : Nat)) xs) (0 : Nat) (avLen (Av.sl (List.take (n * (2 : Nat)) xs) n))))
            (0 : Nat)
            (avLen
                (Av.sl
                  (List.take (avLen (Av.sl (List.take (n * (2 : Nat)) xs) n) * (8 : Nat))
                    (wrL (List.take (n * (2 : Nat)) xs) (0 : Nat) (avLen (Av.sl (List.take (n * (2 : Nat)) xs) n))))
                  (avLen (Av.sl (List.take (n * (2 : Nat)) xs) n) * (8 : Nat))) /
              (8 : Nat)))),
      n ≤ c ∧ c ≤ (9223372036854775807 : Nat), n * (2 : Nat) ≤ List.length xs, Fl (List.take (n * (2 : Nat)) xs),
      Ints IntKind.i64
        (List.take
          (avLen
                (Av.sl
                  (List.take (avLen (Av.sl (List.take (n * (2 : Nat)) xs) n) * (8 : Nat))
                    (wrL (List.take (n * (2 : Nat)) xs) (0 : Nat) (avLen (Av.sl (List.take (n * (2 : Nat)) xs) n))))
                  (avLen (Av.sl (List.take (n * (2 : Nat)) xs) n) * (8 : Nat))) /
              (8 : Nat) *
            (2 : Nat))
          (rdL
            (List.take (avLen (Av.sl (List.take (n * (2 : Nat)) xs) n) * (8 : Nat))
              (wrL (List.take (n * (2 : Nat)) xs) (0 : Nat) (avLen (Av.sl (List.take (n * (2 : Nat)) xs) n))))
            (0 : Nat)
            (avLen
                (Av.sl
                  (List.take (avLen (Av.sl (List.take (n * (2 : Nat)) xs) n) * (8 : Nat))
                    (wrL (List.take (n * (2 : Nat)) xs) (0 : Nat) (avLen (Av.sl (List.take (n * (2 : Nat)) xs) n))))
                  (avLen (Av.sl (List.take (n * (2 : Nat)) xs) n) * (8 : Nat))) /
              (8 : Nat)))),
      List.take (n * (2 : Nat)) xs =
        List.take
          (avLen
                (Av.sl
                  (List.take (avLen (Av.sl (List.take (n * (2 : Nat)) xs) n) * (8 : Nat))
                    (wrL (List.take (n * (2 : Nat)) xs) (0 : Nat) (avLen (Av.sl (List.take (n * (2 : Nat)) xs) n))))
                  (avLen (Av.sl (List.take (n * (2 : Nat)) xs) n) * (8 : Nat))) /
              (8 : Nat) *
            (2 : Nat))
          (rdL
            (List.take (avLen (Av.sl (List.take (n * (2 : Nat)) xs) n) * (8 : Nat))
              (wrL (List.take (n * (2 : Nat)) xs) (0 : Nat) (avLen (Av.sl (List.take (n * (2 : Nat)) xs) n))))
            (0 : Nat)
            (avLen
                (Av.sl
                  (List.take (avLen (Av.sl (List.take (n * (2 : Nat)) xs) n) * (8 : Nat))
                    (wrL (List.take (n * (2 : Nat)) xs) (0 : Nat) (avLen (Av.sl (List.take (n * (2 : Nat)) xs) n))))
                  (avLen (Av.sl (List.take (n * (2 : Nat)) xs) n) * (8 : Nat))) /
              (8 : Nat))),
      avLen (Av.sl (List.take (n * (2 : Nat)) xs) n) =
        avLen
          (Av.sl
            (List.take
              (avLen
                    (Av.sl
                      (List.take (avLen (Av.sl (List.take (n * (2 : Nat)) xs) n) * (8 : Nat))
                        (wrL (List.take (n * (2 : Nat)) xs) (0 : Nat) (avLen (Av.sl (List.take (n * (2 : Nat)) xs) n))))
                      (avLen (Av.sl (List.take (n * (2 : Nat)) xs) n) * (8 : Nat))) /
                  (8 : Nat) *
                (2 : Nat))
              (rdL
                (List.take (avLen (Av.sl (List.take (n * (2 : Nat)) xs) n) * (8 : Nat))
                  (wrL (List.take (n * (2 : Nat)) xs) (0 : Nat) (avLen (Av.sl (List.take (n * (2 : Nat)) xs) n))))
                (0 : Nat)
                (avLen
                    (Av.sl
                      (List.take (avLen (Av.sl (List.take (n * (2 : Nat)) xs) n) * (8 : Nat))
                        (wrL (List.take (n * (2 : Nat)) xs) (0 : Nat) (avLen (Av.sl (List.take (n * (2 : Nat)) xs) n))))
                      (avLen (Av.sl (List.take (n * (2 : Nat)) xs) n) * (8 : Nat))) /
                  (8 : Nat))))
            (avLen
                (Av.sl
                  (List.take (avLen (Av.sl (List.take (n * (2 : Nat)) xs) n) * (8 : Nat))
                    (wrL (List.take (n * (2 : Nat)) xs) (0 : Nat) (avLen (Av.sl (List.take (n * (2 : Nat)) xs) n))))
                  (avLen (Av.sl (List.take (n * (2 : Nat)) xs) n) * (8 : Nat))) /
              (8 : Nat))),
      rg IntKind.i64 (↑((8 : Nat) * n) : Int),
      ((↑(avLen (Av.sl (List.take (n * (2 : Nat)) xs) n) * (8 : Nat)) : Int) != (↑((8 : Nat) * n) : Int)) = false,
      m ≤ d ∧ d ≤ (9223372036854775807 : Nat), m ≤ List.length ys, Fl (List.take m ys), Byts (List.take m ys),
      avLen (Av.sl (List.take m ys) m) % (8 : Nat) = (0 : Nat),
      decide (avLen (Av.sl (List.take m ys) m) = (0 : Nat)) = false, avLen (Av.sl (List.take m ys) m) ≤ (4096 : Nat),
      rdOk (List.take m ys) (0 : Nat) (avLen (Av.sl (List.take m ys) m) / (8 : Nat)) = false]) := by kernel_rfl
theorem bk_ok_long (xs ys : List Value) (n c m d : Nat) : runZ bkV Try.prog 5 8 [cbA n c, cbB m d] [(0, ⟨.old, xs⟩), (1, ⟨.old, ys⟩)] 2 ([false, false] ++ [false, false, true] ++ [false, false, true, false] ++ [false] ++ [false, false, true, true]) =
Res.ok
  ((Value.bool true, [((0 : Nat), Rw.mk Kd.old xs), ((1 : Nat), Rw.mk Kd.old ys)], (4 : Nat), []), [],
    [decide ((↑n : Int) > (200 : Int)) = false, decide ((↑m : Int) > (2000 : Int)) = false,
      n ≤ c ∧ c ≤ (9223372036854775807 : Nat), n * (2 : Nat) ≤ List.length xs, Fl (List.take (n * (2 : Nat)) xs),
      Ints IntKind.i64 (List.take (n * (2 : Nat)) xs),
      decide (avLen (Av.sl (List.take (n * (2 : Nat)) xs) n) = (0 : Nat)) = false,
      decide (avLen (Av.sl (List.take (n * (2 : Nat)) xs) n) ≤ (128 : Nat)) = true,
      wrOk (List.take (n * (2 : Nat)) xs) (0 : Nat) (avLen (Av.sl (List.take (n * (2 : Nat)) xs) n)) = true,
      capBig + (2 : Nat) = capBig + (2 : Nat),
      avLen (Av.sl (List.take (n * (2 : Nat)) xs) n) * (8 : Nat) ≤
        List.length (wrL (List.take (n * (2 : Nat)) xs) (0 : Nat) (avLen (Av.sl (List.take (n * (2 : Nat)) xs) n))),
      (0 : Nat) < (1 : Nat),
      avLen (Av.sl (List.take (n * (2 : Nat)) xs) n) * (8 : Nat) ≤
        List.length (wrL (List.take (n * (2 : Nat)) xs) (0 : Nat) (avLen (Av.sl (List.take (n * (2 : Nat)) xs) n))),
      Fl
        (List.take (avLen (Av.sl (List.take (n * (2 : Nat)) xs) n) * (8 : Nat))
          (wrL (List.take (n * (2 : Nat)) xs) (0 : Nat) (avLen (Av.sl (List.take (n * (2 : Nat)) xs) n)))),
      Byts
        (List.take (avLen (Av.sl (List.take (n * (2 : Nat)) xs) n) * (8 : Nat))
          (wrL (List.take (n * (2 : Nat)) xs) (0 : Nat) (avLen (Av.sl (List.take (n * (2 : Nat)) xs) n)))),
      avLen
            (Av.sl
              (List.take (avLen (Av.sl (List.take (n * (2 : Nat)) xs) n) * (8 : Nat))
                (wrL (List.take (n * (2 : Nat)) xs) (0 : Nat) (avLen (Av.sl (List.take (n * (2 : Nat)) xs) n))))
              (avLen (Av.sl (List.take (n * (2 : Nat)) xs) n) * (8 : Nat))) %
          (8 : Nat) =
        (0 : Nat),
      decide
          (avLen
              (Av.sl
                (List.take (avLen (Av.sl (List.take (n * (2 : Nat)) xs) n) * (8 : Nat))
                  (wrL (List.take (n * (2 : Nat)) xs) (0 : Nat) (avLen (Av.sl (List.take (n * (2 : Nat)) xs) n))))
                (avLen (Av.sl (List.take (n * (2 : Nat)) xs) n) * (8 : Nat))) =
            (0 : Nat)) =
        false,
      avLen
          (Av.sl
            (List.take (avLen (Av.sl (List.take (n * (2 : Nat)) xs) n) * (8 : Nat))
              (wrL (List.take (n * (2 : Nat)) xs) (0 : Nat) (avLen (Av.sl (List.take (n * (2 : Nat)) xs) n))))
            (avLen (Av.sl (List.take (n * (2 : Nat)) xs) n) * (8 : Nat))) ≤
        (4096 : Nat),
      rdOk
          (List.take (avLen (Av.sl (List.take (n * (2 : Nat)) xs) n) * (8 : Nat))
            (wrL (List.take (n * (2 : Nat)) xs) (0 : Nat) (avLen (Av.sl (List.take (n * (2 : Nat)) xs) n))))
          (0 : Nat)
          (avLen
              (Av.sl
                (List.take (avLen (Av.sl (List.take (n * (2 : Nat)) xs) n) * (8 : Nat))
                  (wrL (List.take (n * (2 : Nat)) xs) (0 : Nat) (avLen (Av.sl (List.take (n * (2 : Nat)) xs) n))))
                (avLen (Av.sl (List.take (n * (2 : Nat)) xs) n) * (8 : Nat))) /
            (8 : Nat)) =
        true,
      decide
          (avLen
                (Av.sl
                  (List.take (avLen (Av.sl (List.take (n * (2 : Nat)) xs) n) * (8 : Nat))
                    (wrL (List.take (n * (2 : Nat)) xs) (0 : Nat) (avLen (Av.sl (List.take (n * (2 : Nat)) xs) n))))
                  (avLen (Av.sl (List.take (n * (2 : Nat)) xs) n) * (8 : Nat))) /
              (8 : Nat) ≤
            (128 : Nat)) =
        true,
      capBig + (3 : Nat) = capBig + (3 : Nat),
      avLen
              (Av.sl
                (List.take (avLen (Av.sl (List.take (n * (2 : Nat)) xs) n) * (8 : Nat))
                  (wrL (List.take (n * (2 : Nat)) xs) (0 : Nat) (avLen (Av.sl (List.take (n * (2 : Nat)) xs) n))))
                (avLen (Av.sl (List.take (n * (2 : Nat)) xs) n) * (8 : Nat))) /
            (8 : Nat) *
          (2 : Nat) ≤
        List.length
          (rdL
            (List.take (avLen (Av.sl (List.take (n * (2 : Nat)) xs) n) * (8 : Nat))
              (wrL (List.take (n * (2 : Nat)) xs) (0 : Nat) (avLen (Av.sl (List.take (n * (2 : Nat)) xs) n))))
            (0 : Nat)
            (avLen
                (Av.sl
                  (List.take (avLen (Av.sl (List.take (n * (2 : Nat)) xs) n) * (8 : Nat))
                    (wrL (List.take (n * (2 : Nat)) xs) (0 : Nat) (avLen (Av.sl (List.take (n * (2 : Nat)) xs) n))))
                  (avLen (Av.sl (List.take (n * (2 : Nat)) xs) n) * (8 : Nat))) /
              (8 : Nat))),
      (0 : Nat) < (2 : Nat),
      avLen
              (Av.sl
                (List.take (avLen (Av.sl (List.take (n * (2 : Nat)) xs) n) * (8 : Nat))
                  (wrL (List.take (n * (2 : Nat)) xs) (0 : Nat) (avLen (Av.sl (List.take (n * (2 : Nat)) xs) n))))
                (avLen (Av.sl (List.take (n * (2 : Nat)) xs) n) * (8 : Nat))) /
            (8 : Nat) *
          (2 : Nat) ≤
        List.length
          (rdL
            (List.take (avLen (Av.sl (List.take (n * (2 : Nat)) xs) n) * (8 : Nat))
              (wrL (List.take (n * (2 : Nat)) xs) (0 : Nat) (avLen (Av.sl (List.take (n * (2 : Nat)) xs) n))))
            (0 : Nat)
            (avLen
                (Av.sl
                  (List.take (avLen (Av.sl (List.take (n * (2 : Nat)) xs) n) * (8 : Nat))
                    (wrL (List.take (n * (2 : Nat)) xs) (0 : Nat) (avLen (Av.sl (List.take (n * (2 : Nat)) xs) n))))
                  (avLen (Av.sl (List.take (n * (2 : Nat)) xs) n) * (8 : Nat))) /
              (8 : Nat))),
      Fl
        (List.take
          (avLen
                (Av.sl
                  (List.take (avLen (Av.sl (List.take (n * (2 : Nat)) xs) n) * (8 : Nat))
                    (wrL (List.take (n * (2 : Nat)) xs) (0 : Nat) (avLen (Av.sl (List.take (n * (2 : Nat)) xs) n))))
                  (avLen (Av.sl (List.take (n * (2 : Nat)) xs) n) * (8 : Nat))) /
              (8 : Nat) *
            (2 : Nat))
          (rdL
            (List.take (avLen (Av.sl (List.take (n * (2 : Nat)) xs) n) * (8 : Nat))
              (wrL (List.take (n * (2 : Nat)) xs) (0 : Nat) (avLen (Av.sl (List.take (n * (2 : Nat)) xs) n))))
            (0 : Nat)
            (avLen
                (Av.sl
                  (List.take (avLen (Av.sl (List.take (n * (2 : Nat)) xs) n) * (8 : Nat))
                    (wrL (List.take (n * (2 : Nat)) xs) (0 : Nat) (avLen (Av.sl (List.take (n * (2 : Nat)) xs) n))))
                  (avLen (Av.sl (List.take (n * (2 : Nat)) xs) n) * (8 : Nat))) /
              (8 : Nat)))),
      n ≤ c ∧ c ≤ (9223372036854775807 : Nat), n * (2 : Nat) ≤ List.length xs, Fl (List.take (n * (2 : Nat)) xs),
      Ints IntKind.i64
        (List.take
          (avLen
                (Av.sl
                  (List.take (avLen (Av.sl (List.take (n * (2 : Nat)) xs) n) * (8 : Nat))
                    (wrL (List.take (n * (2 : Nat)) xs) (0 : Nat) (avLen (Av.sl (List.take (n * (2 : Nat)) xs) n))))
                  (avLen (Av.sl (List.take (n * (2 : Nat)) xs) n) * (8 : Nat))) /
              (8 : Nat) *
            (2 : Nat))
          (rdL
            (List.take (avLen (Av.sl (List.take (n * (2 : Nat)) xs) n) * (8 : Nat))
              (wrL (List.take (n * (2 : Nat)) xs) (0 : Nat) (avLen (Av.sl (List.take (n * (2 : Nat)) xs) n))))
            (0 : Nat)
            (avLen
                (Av.sl
                  (List.take (avLen (Av.sl (List.take (n * (2 : Nat)) xs) n) * (8 : Nat))
                    (wrL (List.take (n * (2 : Nat)) xs) (0 : Nat) (avLen (Av.sl (List.take (n * (2 : Nat)) xs) n))))
                  (avLen (Av.sl (List.take (n * (2 : Nat)) xs) n) * (8 : Nat))) /
              (8 : Nat)))),
      List.take (n * (2 : Nat)) xs =
        List.take
          (avLen
                (Av.sl
                  (List.take (avLen (Av.sl (List.take (n * (2 : Nat)) xs) n) * (8 : Nat))
                    (wrL (List.take (n * (2 : Nat)) xs) (0 : Nat) (avLen (Av.sl (List.take (n * (2 : Nat)) xs) n))))
                  (avLen (Av.sl (List.take (n * (2 : Nat)) xs) n) * (8 : Nat))) /
              (8 : Nat) *
            (2 : Nat))
          (rdL
            (List.take (avLen (Av.sl (List.take (n * (2 : Nat)) xs) n) * (8 : Nat))
              (wrL (List.take (n * (2 : Nat)) xs) (0 : Nat) (avLen (Av.sl (List.take (n * (2 : Nat)) xs) n))))
            (0 : Nat)
            (avLen
                (Av.sl
                  (List.take (avLen (Av.sl (List.take (n * (2 : Nat)) xs) n) * (8 : Nat))
                    (wrL (List.take (n * (2 : Nat)) xs) (0 : Nat) (avLen (Av.sl (List.take (n * (2 : Nat)) xs) n))))
                  (avLen (Av.sl (List.take (n * (2 : Nat)) xs) n) * (8 : Nat))) /
              (8 : Nat))),
      avLen (Av.sl (List.take (n * (2 : Nat)) xs) n) =
        avLen
          (Av.sl
            (List.take
              (avLen
                    (Av.sl
                      (List.take (avLen (Av.sl (List.take (n * (2 : Nat)) xs) n) * (8 : Nat))
                        (wrL (List.take (n * (2 : Nat)) xs) (0 : Nat) (avLen (Av.sl (List.take (n * (2 : Nat)) xs) n))))
                      (avLen (Av.sl (List.take (n * (2 : Nat)) xs) n) * (8 : Nat))) /
                  (8 : Nat) *
                (2 : Nat))
              (rdL
                (List.take (avLen (Av.sl (List.take (n * (2 : Nat)) xs) n) * (8 : Nat))
                  (wrL (List.take (n * (2 : Nat)) xs) (0 : Nat) (avLen (Av.sl (List.take (n * (2 : Nat)) xs) n))))
                (0 : Nat)
                (avLen
                    (Av.sl
                      (List.take (avLen (Av.sl (List.take (n * (2 : Nat)) xs) n) * (8 : Nat))
                        (wrL (List.take (n * (2 : Nat)) xs) (0 : Nat) (avLen (Av.sl (List.take (n * (2 : Nat)) xs) n))))
                      (avLen (Av.sl (List.take (n * (2 : Nat)) xs) n) * (8 : Nat))) /
                  (8 : Nat))))
            (avLen
                (Av.sl
                  (List.take (avLen (Av.sl (List.take (n * (2 : Nat)) xs) n) * (8 : Nat))
                    (wrL (List.take (n * (2 : Nat)) xs) (0 : Nat) (avLen (Av.sl (List.take (n * (2 : Nat)) xs) n))))
                  (avLen (Av.sl (List.take (n * (2 : Nat)) xs) n) * (8 : Nat))) /
              (8 : Nat))),
      rg IntKind.i64 (↑((8 : Nat) * n) : Int),
      ((↑(avLen (Av.sl (List.take (n * (2 : Nat)) xs) n) * (8 : Nat)) : Int) != (↑((8 : Nat) * n) : Int)) = false,
      m ≤ d ∧ d ≤ (9223372036854775807 : Nat), m ≤ List.length ys, Fl (List.take m ys), Byts (List.take m ys),
      avLen (Av.sl (List.take m ys) m) % (8 : Nat) = (0 : Nat),
      decide (avLen (Av.sl (List.take m ys) m) = (0 : Nat)) = false, avLen (Av.sl (List.take m ys) m) ≤ (4096 : Nat),
      rdOk (List.take m ys) (0 : Nat) (avLen (Av.sl (List.take m ys) m) / (8 : Nat)) = true,
      decide (avLen (Av.sl (List.take m ys) m) / (8 : Nat) ≤ (128 : Nat)) = false]) := by kernel_rfl
theorem bk_ok_ok (xs ys : List Value) (n c m d : Nat) : runZ bkV Try.prog 5 8 [cbA n c, cbB m d] [(0, ⟨.old, xs⟩), (1, ⟨.old, ys⟩)] 2 ([false, false] ++ [false, false, true] ++ [false, false, true, false] ++ [false] ++ [false, false, true, false] ++ [false, false, true] ++ [true]) =
Res.ok
  ((Value.bool true, [((0 : Nat), Rw.mk Kd.old xs), ((1 : Nat), Rw.mk Kd.old ys)], (6 : Nat), []), [],
    [decide ((↑n : Int) > (200 : Int)) = false, decide ((↑m : Int) > (2000 : Int)) = false,
      n ≤ c ∧ c ≤ (9223372036854775807 : Nat), n * (2 : Nat) ≤ List.length xs, Fl (List.take (n * (2 : Nat)) xs),
      Ints IntKind.i64 (List.take (n * (2 : Nat)) xs),
      decide (avLen (Av.sl (List.take (n * (2 : Nat)) xs) n) = (0 : Nat)) = false,
      decide (avLen (Av.sl (List.take (n * (2 : Nat)) xs) n) ≤ (128 : Nat)) = true,
      wrOk (List.take (n * (2 : Nat)) xs) (0 : Nat) (avLen (Av.sl (List.take (n * (2 : Nat)) xs) n)) = true,
      capBig + (2 : Nat) = capBig + (2 : Nat),
      avLen (Av.sl (List.take (n * (2 : Nat)) xs) n) * (8 : Nat) ≤
        List.length (wrL (List.take (n * (2 : Nat)) xs) (0 : Nat) (avLen (Av.sl (List.take (n * (2 : Nat)) xs) n))),
      (0 : Nat) < (1 : Nat),
      avLen (Av.sl (List.take (n * (2 : Nat)) xs) n) * (8 : Nat) ≤
        List.length (wrL (List.take (n * (2 : Nat)) xs) (0 : Nat) (avLen (Av.sl (List.take (n * (2 : Nat)) xs) n))),
      Fl
        (List.take (avLen (Av.sl (List.take (n * (2 : Nat)) xs) n) * (8 : Nat))
          (wrL (List.take (n * (2 : Nat)) xs) (0 : Nat) (avLen (Av.sl (List.take (n * (2 : Nat)) xs) n)))),
      Byts
        (List.take (avLen (Av.sl (List.take (n * (2 : Nat)) xs) n) * (8 : Nat))
          (wrL (List.take (n * (2 : Nat)) xs) (0 : Nat) (avLen (Av.sl (List.take (n * (2 : Nat)) xs) n)))),
      avLen
            (Av.sl
              (List.take (avLen (Av.sl (List.take (n * (2 : Nat)) xs) n) * (8 : Nat))
                (wrL (List.take (n * (2 : Nat)) xs) (0 : Nat) (avLen (Av.sl (List.take (n * (2 : Nat)) xs) n))))
              (avLen (Av.sl (List.take (n * (2 : Nat)) xs) n) * (8 : Nat))) %
          (8 : Nat) =
        (0 : Nat),
      decide
          (avLen
              (Av.sl
                (List.take (avLen (Av.sl (List.take (n * (2 : Nat)) xs) n) * (8 : Nat))
                  (wrL (List.take (n * (2 : Nat)) xs) (0 : Nat) (avLen (Av.sl (List.take (n * (2 : Nat)) xs) n))))
                (avLen (Av.sl (List.take (n * (2 : Nat)) xs) n) * (8 : Nat))) =
            (0 : Nat)) =
        false,
      avLen
          (Av.sl
            (List.take (avLen (Av.sl (List.take (n * (2 : Nat)) xs) n) * (8 : Nat))
              (wrL (List.take (n * (2 : Nat)) xs) (0 : Nat) (avLen (Av.sl (List.take (n * (2 : Nat)) xs) n))))
            (avLen (Av.sl (List.take (n * (2 : Nat)) xs) n) * (8 : Nat))) ≤
        (4096 : Nat),
      rdOk
          (List.take (avLen (Av.sl (List.take (n * (2 : Nat)) xs) n) * (8 : Nat))
            (wrL (List.take (n * (2 : Nat)) xs) (0 : Nat) (avLen (Av.sl (List.take (n * (2 : Nat)) xs) n))))
          (0 : Nat)
          (avLen
              (Av.sl
                (List.take (avLen (Av.sl (List.take (n * (2 : Nat)) xs) n) * (8 : Nat))
                  (wrL (List.take (n * (2 : Nat)) xs) (0 : Nat) (avLen (Av.sl (List.take (n * (2 : Nat)) xs) n))))
                (avLen (Av.sl (List.take (n * (2 : Nat)) xs) n) * (8 : Nat))) /
            (8 : Nat)) =
        true,
      decide
          (avLen
                (Av.sl
                  (List.take (avLen (Av.sl (List.take (n * (2 : Nat)) xs) n) * (8 : Nat))
                    (wrL (List.take (n * (2 : Nat)) xs) (0 : Nat) (avLen (Av.sl (List.take (n * (2 : Nat)) xs) n))))
                  (avLen (Av.sl (List.take (n * (2 : Nat)) xs) n) * (8 : Nat))) /
              (8 : Nat) ≤
            (128 : Nat)) =
        true,
      capBig + (3 : Nat) = capBig + (3 : Nat),
      avLen
              (Av.sl
                (List.take (avLen (Av.sl (List.take (n * (2 : Nat)) xs) n) * (8 : Nat))
                  (wrL (List.take (n * (2 : Nat)) xs) (0 : Nat) (avLen (Av.sl (List.take (n * (2 : Nat)) xs) n))))
                (avLen (Av.sl (List.take (n * (2 : Nat)) xs) n) * (8 : Nat))) /
            (8 : Nat) *
          (2 : Nat) ≤
        List.length
          (rdL
            (List.take (avLen (Av.sl (List.take (n * (2 : Nat)) xs) n) * (8 : Nat))
              (wrL (List.take (n * (2 : Nat)) xs) (0 : Nat) (avLen (Av.sl (List.take (n * (2 : Nat)) xs) n))))
            (0 : Nat)
            (avLen
                (Av.sl
                  (List.take (avLen (Av.sl (List.take (n * (2 : Nat)) xs) n) * (8 : Nat))
                    (wrL (List.take (n * (2 : Nat)) xs) (0 : Nat) (avLen (Av.sl (List.take (n * (2 : Nat)) xs) n))))
                  (avLen (Av.sl (List.take (n * (2 : Nat)) xs) n) * (8 : Nat))) /
              (8 : Nat))),
      (0 : Nat) < (2 : Nat),
      avLen
              (Av.sl
                (List.take (avLen (Av.sl (List.take (n * (2 : Nat)) xs) n) * (8 : Nat))
                  (wrL (List.take (n * (2 : Nat)) xs) (0 : Nat) (avLen (Av.sl (List.take (n * (2 : Nat)) xs) n))))
                (avLen (Av.sl (List.take (n * (2 : Nat)) xs) n) * (8 : Nat))) /
            (8 : Nat) *
          (2 : Nat) ≤
        List.length
          (rdL
            (List.take (avLen (Av.sl (List.take (n * (2 : Nat)) xs) n) * (8 : Nat))
              (wrL (List.take (n * (2 : Nat)) xs) (0 : Nat) (avLen (Av.sl (List.take (n * (2 : Nat)) xs) n))))
            (0 : Nat)
            (avLen
                (Av.sl
                  (List.take (avLen (Av.sl (List.take (n * (2 : Nat)) xs) n) * (8 : Nat))
                    (wrL (List.take (n * (2 : Nat)) xs) (0 : Nat) (avLen (Av.sl (List.take (n * (2 : Nat)) xs) n))))
                  (avLen (Av.sl (List.take (n * (2 : Nat)) xs) n) * (8 : Nat))) /
              (8 : Nat))),
      Fl
        (List.take
          (avLen
                (Av.sl
                  (List.take (avLen (Av.sl (List.take (n * (2 : Nat)) xs) n) * (8 : Nat))
                    (wrL (List.take (n * (2 : Nat)) xs) (0 : Nat) (avLen (Av.sl (List.take (n * (2 : Nat)) xs) n))))
                  (avLen (Av.sl (List.take (n * (2 : Nat)) xs) n) * (8 : Nat))) /
              (8 : Nat) *
            (2 : Nat))
          (rdL
            (List.take (avLen (Av.sl (List.take (n * (2 : Nat)) xs) n) * (8 : Nat))
              (wrL (List.take (n * (2 : Nat)) xs) (0 : Nat) (avLen (Av.sl (List.take (n * (2 : Nat)) xs) n))))
            (0 : Nat)
            (avLen
                (Av.sl
                  (List.take (avLen (Av.sl (List.take (n * (2 : Nat)) xs) n) * (8 : Nat))
                    (wrL (List.take (n * (2 : Nat)) xs) (0 : Nat) (avLen (Av.sl (List.take (n * (2 : Nat)) xs) n))))
                  (avLen (Av.sl (List.take (n * (2 : Nat)) xs) n) * (8 : Nat))) /
              (8 : Nat)))),
      n ≤ c ∧ c ≤ (9223372036854775807 : Nat), n * (2 : Nat) ≤ List.length xs, Fl (List.take (n * (2 : Nat)) xs),
      Ints IntKind.i64
        (List.take
          (avLen
                (Av.sl
                  (List.take (avLen (Av.sl (List.take (n * (2 : Nat)) xs) n) * (8 : Nat))
                    (wrL (List.take (n * (2 : Nat)) xs) (0 : Nat) (avLen (Av.sl (List.take (n * (2 : Nat)) xs) n))))
                  (avLen (Av.sl (List.take (n * (2 : Nat)) xs) n) * (8 : Nat))) /
              (8 : Nat) *
            (2 : Nat))
          (rdL
            (List.take (avLen (Av.sl (List.take (n * (2 : Nat)) xs) n) * (8 : Nat))
              (wrL (List.take (n * (2 : Nat)) xs) (0 : Nat) (avLen (Av.sl (List.take (n * (2 : Nat)) xs) n))))
            (0 : Nat)
            (avLen
                (Av.sl
                  (List.take (avLen (Av.sl (List.take (n * (2 : Nat)) xs) n) * (8 : Nat))
                    (wrL (List.take (n * (2 : Nat)) xs) (0 : Nat) (avLen (Av.sl (List.take (n * (2 : Nat)) xs) n))))
                  (avLen (Av.sl (List.take (n * (2 : Nat)) xs) n) * (8 : Nat))) /
              (8 : Nat)))),
      List.take (n * (2 : Nat)) xs =
        List.take
          (avLen
                (Av.sl
                  (List.take (avLen (Av.sl (List.take (n * (2 : Nat)) xs) n) * (8 : Nat))
                    (wrL (List.take (n * (2 : Nat)) xs) (0 : Nat) (avLen (Av.sl (List.take (n * (2 : Nat)) xs) n))))
                  (avLen (Av.sl (List.take (n * (2 : Nat)) xs) n) * (8 : Nat))) /
              (8 : Nat) *
            (2 : Nat))
          (rdL
            (List.take (avLen (Av.sl (List.take (n * (2 : Nat)) xs) n) * (8 : Nat))
              (wrL (List.take (n * (2 : Nat)) xs) (0 : Nat) (avLen (Av.sl (List.take (n * (2 : Nat)) xs) n))))
            (0 : Nat)
            (avLen
                (Av.sl
                  (List.take (avLen (Av.sl (List.take (n * (2 : Nat)) xs) n) * (8 : Nat))
                    (wrL (List.take (n * (2 : Nat)) xs) (0 : Nat) (avLen (Av.sl (List.take (n * (2 : Nat)) xs) n))))
                  (avLen (Av.sl (List.take (n * (2 : Nat)) xs) n) * (8 : Nat))) /
              (8 : Nat))),
      avLen (Av.sl (List.take (n * (2 : Nat)) xs) n) =
        avLen
          (Av.sl
            (List.take
              (avLen
                    (Av.sl
                      (List.take (avLen (Av.sl (List.take (n * (2 : Nat)) xs) n) * (8 : Nat))
                        (wrL (List.take (n * (2 : Nat)) xs) (0 : Nat) (avLen (Av.sl (List.take (n * (2 : Nat)) xs) n))))
                      (avLen (Av.sl (List.take (n * (2 : Nat)) xs) n) * (8 : Nat))) /
                  (8 : Nat) *
                (2 : Nat))
              (rdL
                (List.take (avLen (Av.sl (List.take (n * (2 : Nat)) xs) n) * (8 : Nat))
                  (wrL (List.take (n * (2 : Nat)) xs) (0 : Nat) (avLen (Av.sl (List.take (n * (2 : Nat)) xs) n))))
                (0 : Nat)
                (avLen
                    (Av.sl
                      (List.take (avLen (Av.sl (List.take (n * (2 : Nat)) xs) n) * (8 : Nat))
                        (wrL (List.take (n * (2 : Nat)) xs) (0 : Nat) (avLen (Av.sl (List.take (n * (2 : Nat)) xs) n))))
                      (avLen (Av.sl (List.take (n * (2 : Nat)) xs) n) * (8 : Nat))) /
                  (8 : Nat))))
            (avLen
                (Av.sl
                  (List.take (avLen (Av.sl (List.take (n * (2 : Nat)) xs) n) * (8 : Nat))
                    (wrL (List.take (n * (2 : Nat)) xs) (0 : Nat) (avLen (Av.sl (List.take (n * (2 : Nat)) xs) n))))
                  (avLen (Av.sl (List.take (n * (2 : Nat)) xs) n) * (8 : Nat))) /
              (8 : Nat))),
      rg IntKind.i64 (↑((8 : Nat) * n) : Int),
      ((↑(avLen (Av.sl (List.take (n * (2 : Nat)) xs) n) * (8 : Nat)) : Int) != (↑((8 : Nat) * n) : Int)) = false,
      m ≤ d ∧ d ≤ (9223372036854775807 : Nat), m ≤ List.length ys, Fl (List.take m ys), Byts (List.take m ys),
      avLen (Av.sl (List.take m ys) m) % (8 : Nat) = (0 : Nat),
      decide (avLen (Av.sl (List.take m ys) m) = (0 : Nat)) = false, avLen (Av.sl (List.take m ys) m) ≤ (4096 : Nat),
      rdOk (List.take m ys) (0 : Nat) (avLen (Av.sl (List.take m ys) m) / (8 : Nat)) = true,
      decide (avLen (Av.sl (List.take m ys) m) / (8 : Nat) ≤ (128 : Nat)) = true,
      capBig + (4 : Nat) = capBig + (4 : Nat),
      avLen (Av.sl (List.take m ys) m) / (8 : Nat) * (2 : Nat) ≤
        List.length (rdL (List.take m ys) (0 : Nat) (avLen (Av.sl (List.take m ys) m) / (8 : Nat))),
      (0 : Nat) < (2 : Nat),
      avLen (Av.sl (List.take m ys) m) / (8 : Nat) * (2 : Nat) ≤
        List.length (rdL (List.take m ys) (0 : Nat) (avLen (Av.sl (List.take m ys) m) / (8 : Nat))),
      Fl
        (List.take (avLen (Av.sl (List.take m ys) m) / (8 : Nat) * (2 : Nat))
          (rdL (List.take m ys) (0 : Nat) (avLen (Av.sl (List.take m ys) m) / (8 : Nat)))),
      Ints IntKind.i64
        (List.take (avLen (Av.sl (List.take m ys) m) / (8 : Nat) * (2 : Nat))
          (rdL (List.take m ys) (0 : Nat) (avLen (Av.sl (List.take m ys) m) / (8 : Nat)))),
      decide
          (avLen
              (Av.sl
                (List.take (avLen (Av.sl (List.take m ys) m) / (8 : Nat) * (2 : Nat))
                  (rdL (List.take m ys) (0 : Nat) (avLen (Av.sl (List.take m ys) m) / (8 : Nat))))
                (avLen (Av.sl (List.take m ys) m) / (8 : Nat))) =
            (0 : Nat)) =
        false,
      decide
          (avLen
              (Av.sl
                (List.take (avLen (Av.sl (List.take m ys) m) / (8 : Nat) * (2 : Nat))
                  (rdL (List.take m ys) (0 : Nat) (avLen (Av.sl (List.take m ys) m) / (8 : Nat))))
                (avLen (Av.sl (List.take m ys) m) / (8 : Nat))) ≤
            (128 : Nat)) =
        true,
      wrOk
          (List.take (avLen (Av.sl (List.take m ys) m) / (8 : Nat) * (2 : Nat))
            (rdL (List.take m ys) (0 : Nat) (avLen (Av.sl (List.take m ys) m) / (8 : Nat))))
          (0 : Nat)
          (avLen
            (Av.sl
              (List.take (avLen (Av.sl (List.take m ys) m) / (8 : Nat) * (2 : Nat))
                (rdL (List.take m ys) (0 : Nat) (avLen (Av.sl (List.take m ys) m) / (8 : Nat))))
              (avLen (Av.sl (List.take m ys) m) / (8 : Nat)))) =
        true,
      capBig + (5 : Nat) = capBig + (5 : Nat),
      avLen
            (Av.sl
              (List.take (avLen (Av.sl (List.take m ys) m) / (8 : Nat) * (2 : Nat))
                (rdL (List.take m ys) (0 : Nat) (avLen (Av.sl (List.take m ys) m) / (8 : Nat))))
              (avLen (Av.sl (List.take m ys) m) / (8 : Nat))) *
          (8 : Nat) ≤
        List.length
          (wrL
            (List.take (avLen (Av.sl (List.take m ys) m) / (8 : Nat) * (2 : Nat))
              (rdL (List.take m ys) (0 : Nat) (avLen (Av.sl (List.take m ys) m) / (8 : Nat))))
            (0 : Nat)
            (avLen
              (Av.sl
                (List.take (avLen (Av.sl (List.take m ys) m) / (8 : Nat) * (2 : Nat))
                  (rdL (List.take m ys) (0 : Nat) (avLen (Av.sl (List.take m ys) m) / (8 : Nat))))
                (avLen (Av.sl (List.take m ys) m) / (8 : Nat))))),
      (0 : Nat) < (1 : Nat),
      avLen
            (Av.sl
              (List.take (avLen (Av.sl (List.take m ys) m) / (8 : Nat) * (2 : Nat))
                (rdL (List.take m ys) (0 : Nat) (avLen (Av.sl (List.take m ys) m) / (8 : Nat))))
              (avLen (Av.sl (List.take m ys) m) / (8 : Nat))) *
          (8 : Nat) ≤
        List.length
          (wrL
            (List.take (avLen (Av.sl (List.take m ys) m) / (8 : Nat) * (2 : Nat))
              (rdL (List.take m ys) (0 : Nat) (avLen (Av.sl (List.take m ys) m) / (8 : Nat))))
            (0 : Nat)
            (avLen
              (Av.sl
                (List.take (avLen (Av.sl (List.take m ys) m) / (8 : Nat) * (2 : Nat))
                  (rdL (List.take m ys) (0 : Nat) (avLen (Av.sl (List.take m ys) m) / (8 : Nat))))
                (avLen (Av.sl (List.take m ys) m) / (8 : Nat))))),
      Fl
        (List.take
          (avLen
              (Av.sl
                (List.take (avLen (Av.sl (List.take m ys) m) / (8 : Nat) * (2 : Nat))
                  (rdL (List.take m ys) (0 : Nat) (avLen (Av.sl (List.take m ys) m) / (8 : Nat))))
                (avLen (Av.sl (List.take m ys) m) / (8 : Nat))) *
            (8 : Nat))
          (wrL
            (List.take (avLen (Av.sl (List.take m ys) m) / (8 : Nat) * (2 : Nat))
              (rdL (List.take m ys) (0 : Nat) (avLen (Av.sl (List.take m ys) m) / (8 : Nat))))
            (0 : Nat)
            (avLen
              (Av.sl
                (List.take (avLen (Av.sl (List.take m ys) m) / (8 : Nat) * (2 : Nat))
                  (rdL (List.take m ys) (0 : Nat) (avLen (Av.sl (List.take m ys) m) / (8 : Nat))))
                (avLen (Av.sl (List.take m ys) m) / (8 : Nat)))))),
      m ≤ d ∧ d ≤ (9223372036854775807 : Nat), m ≤ List.length ys, Fl (List.take m ys),
      Byts
        (List.take
          (avLen
              (Av.sl
                (List.take (avLen (Av.sl (List.take m ys) m) / (8 : Nat) * (2 : Nat))
                  (rdL (List.take m ys) (0 : Nat) (avLen (Av.sl (List.take m ys) m) / (8 : Nat))))
                (avLen (Av.sl (List.take m ys) m) / (8 : Nat))) *
            (8 : Nat))
          (wrL
            (List.take (avLen (Av.sl (List.take m ys) m) / (8 : Nat) * (2 : Nat))
              (rdL (List.take m ys) (0 : Nat) (avLen (Av.sl (List.take m ys) m) / (8 : Nat))))
            (0 : Nat)
            (avLen
              (Av.sl
                (List.take (avLen (Av.sl (List.take m ys) m) / (8 : Nat) * (2 : Nat))
                  (rdL (List.take m ys) (0 : Nat) (avLen (Av.sl (List.take m ys) m) / (8 : Nat))))
                (avLen (Av.sl (List.take m ys) m) / (8 : Nat)))))),
      Byts (List.take m ys),
      decide
          (intsOf
              (List.take
                (avLen
                    (Av.sl
                      (List.take (avLen (Av.sl (List.take m ys) m) / (8 : Nat) * (2 : Nat))
                        (rdL (List.take m ys) (0 : Nat) (avLen (Av.sl (List.take m ys) m) / (8 : Nat))))
                      (avLen (Av.sl (List.take m ys) m) / (8 : Nat))) *
                  (8 : Nat))
                (wrL
                  (List.take (avLen (Av.sl (List.take m ys) m) / (8 : Nat) * (2 : Nat))
                    (rdL (List.take m ys) (0 : Nat) (avLen (Av.sl (List.take m ys) m) / (8 : Nat))))
                  (0 : Nat)
                  (avLen
                    (Av.sl
                      (List.take (avLen (Av.sl (List.take m ys) m) / (8 : Nat) * (2 : Nat))
                        (rdL (List.take m ys) (0 : Nat) (avLen (Av.sl (List.take m ys) m) / (8 : Nat))))
                      (avLen (Av.sl (List.take m ys) m) / (8 : Nat)))))) =
            intsOf (List.take m ys)) =
        true]) := by kernel_rfl
theorem bk_ok_n (xs : List Value) (n c : Nat) : runZ bkV Try.prog 5 8 [cbA n c, .slice none 0 0] [(0, ⟨.old, xs⟩)] 2 ([false, false] ++ [false, false, true] ++ [false, false, true, false] ++ [false] ++ [false, true] ++ [false, true] ++ [true]) =
Res.ok
  ((Value.bool true, [((0 : Nat), Rw.mk Kd.old xs)], (4 : Nat), []), [],
    [decide ((↑n : Int) > (200 : Int)) = false, false = false, n ≤ c ∧ c ≤ (9223372036854775807 : Nat),
      n * (2 : Nat) ≤ List.length xs, Fl (List.take (n * (2 : Nat)) xs),
      Ints IntKind.i64 (List.take (n * (2 : Nat)) xs),
      decide (avLen (Av.sl (List.take (n * (2 : Nat)) xs) n) = (0 : Nat)) = false,
      decide (avLen (Av.sl (List.take (n * (2 : Nat)) xs) n) ≤ (128 : Nat)) = true,
      wrOk (List.take (n * (2 : Nat)) xs) (0 : Nat) (avLen (Av.sl (List.take (n * (2 : Nat)) xs) n)) = true,
      capBig + (2 : Nat) = capBig + (2 : Nat),
      avLen (Av.sl (List.take (n * (2 : Nat)) xs) n) * (8 : Nat) ≤
        List.length (wrL (List.take (n * (2 : Nat)) xs) (0 : Nat) (avLen (Av.sl (List.take (n * (2 : Nat)) xs) n))),
      (0 : Nat) < (1 : Nat),
      avLen (Av.sl (List.take (n * (2 : Nat)) xs) n) * (8 : Nat) ≤
        List.length (wrL (List.take (n * (2 : Nat)) xs) (0 : Nat) (avLen (Av.sl (List.take (n * (2 : Nat)) xs) n))),
      Fl
        (List.take (avLen (Av.sl (List.take (n * (2 : Nat)) xs) n) * (8 : Nat))
          (wrL (List.take (n * (2 : Nat)) xs) (0 : Nat) (avLen (Av.sl (List.take (n * (2 : Nat)) xs) n)))),
      Byts
        (List.take (avLen (Av.sl (List.take (n * (2 : Nat)) xs) n) * (8 : Nat))
          (wrL (List.take (n * (2 : Nat)) xs) (0 : Nat) (avLen (Av.sl (List.take (n * (2 : Nat)) xs) n)))),
      avLen
            (Av.sl
              (List.take (avLen (Av.sl (List.take (n * (2 : Nat)) xs) n) * (8 : Nat))
                (wrL (List.take (n * (2 : Nat)) xs) (0 : Nat) (avLen (Av.sl (List.take (n * (2 : Nat)) xs) n))))
              (avLen (Av.sl (List.take (n * (2 : Nat)) xs) n) * (8 : Nat))) %
          (8 : Nat) =
        (0 : Nat),
      decide
          (avLen
              (Av.sl
                (List.take (avLen (Av.sl (List.take (n * (2 : Nat)) xs) n) * (8 : Nat))
                  (wrL (List.take (n * (2 : Nat)) xs) (0 : Nat) (avLen (Av.sl (List.take (n * (2 : Nat)) xs) n))))
                (avLen (Av.sl (List.take (n * (2 : Nat)) xs) n) * (8 : Nat))) =
            (0 : Nat)) =
        false,
      avLen
          (Av.sl
            (List.take (avLen (Av.sl (List.take (n * (2 : Nat)) xs) n) * (8 : Nat))
              (wrL (List.take (n * (2 : Nat)) xs) (0 : Nat) (avLen (Av.sl (List.take (n * (2 : Nat)) xs) n))))
            (avLen (Av.sl (List.take (n * (2 : Nat)) xs) n) * (8 : Nat))) ≤
        (4096 : Nat),
      rdOk
          (List.take (avLen (Av.sl (List.take (n * (2 : Nat)) xs) n) * (8 : Nat))
            (wrL (List.take (n * (2 : Nat)) xs) (0 : Nat) (avLen (Av.sl (List.take (n * (2 : Nat)) xs) n))))
          (0 : Nat)
          (avLen
              (Av.sl
                (List.take (avLen (Av.sl (List.take (n * (2 : Nat)) xs) n) * (8 : Nat))
                  (wrL (List.take (n * (2 : Nat)) xs) (0 : Nat) (avLen (Av.sl (List.take (n * (2 : Nat)) xs) n))))
                (avLen (Av.sl (List.take (n * (2 : Nat)) xs) n) * (8 : Nat))) /
            (8 : Nat)) =
        true,
      decide
          (avLen
                (Av.sl
                  (List.take (avLen (Av.sl (List.take (n * (2 : Nat)) xs) n) * (8 : Nat))
                    (wrL (List.take (n * (2 : Nat)) xs) (0 : Nat) (avLen (Av.sl (List.take (n * (2 : Nat)) xs) n))))
                  (avLen (Av.sl (List.take (n * (2 : Nat)) xs) n) * (8 : Nat))) /
              (8 : Nat) ≤
            (128 : Nat)) =
        true,
      capBig + (3 : Nat) = capBig + (3 : Nat),
      avLen
              (Av.sl
                (List.take (avLen (Av.sl (List.take (n * (2 : Nat)) xs) n) * (8 : Nat))
                  (wrL (List.take (n * (2 : Nat)) xs) (0 : Nat) (avLen (Av.sl (List.take (n * (2 : Nat)) xs) n))))
                (avLen (Av.sl (List.take (n * (2 : Nat)) xs) n) * (8 : Nat))) /
            (8 : Nat) *
          (2 : Nat) ≤
        List.length
          (rdL
            (List.take (avLen (Av.sl (List.take (n * (2 : Nat)) xs) n) * (8 : Nat))
              (wrL (List.take (n * (2 : Nat)) xs) (0 : Nat) (avLen (Av.sl (List.take (n * (2 : Nat)) xs) n))))
            (0 : Nat)
            (avLen
                (Av.sl
                  (List.take (avLen (Av.sl (List.take (n * (2 : Nat)) xs) n) * (8 : Nat))
                    (wrL (List.take (n * (2 : Nat)) xs) (0 : Nat) (avLen (Av.sl (List.take (n * (2 : Nat)) xs) n))))
                  (avLen (Av.sl (List.take (n * (2 : Nat)) xs) n) * (8 : Nat))) /
              (8 : Nat))),
      (0 : Nat) < (2 : Nat),
      avLen
              (Av.sl
                (List.take (avLen (Av.sl (List.take (n * (2 : Nat)) xs) n) * (8 : Nat))
                  (wrL (List.take (n * (2 : Nat)) xs) (0 : Nat) (avLen (Av.sl (List.take (n * (2 : Nat)) xs) n))))
                (avLen (Av.sl (List.take (n * (2 : Nat)) xs) n) * (8 : Nat))) /
            (8 : Nat) *
          (2 : Nat) ≤
        List.length
          (rdL
            (List.take (avLen (Av.sl (List.take (n * (2 : Nat)) xs) n) * (8 : Nat))
              (wrL (List.take (n * (2 : Nat)) xs) (0 : Nat) (avLen (Av.sl (List.take (n * (2 : Nat)) xs) n))))
            (0 : Nat)
            (avLen
                (Av.sl
                  (List.take (avLen (Av.sl (List.take (n * (2 : Nat)) xs) n) * (8 : Nat))
                    (wrL (List.take (n * (2 : Nat)) xs) (0 : Nat) (avLen (Av.sl (List.take (n * (2 : Nat)) xs) n))))
                  (avLen (Av.sl (List.take (n * (2 : Nat)) xs) n) * (8 : Nat))) /
              (8 : Nat))),
      Fl
        (List.take
          (avLen
                (Av.sl
                  (List.take (avLen (Av.sl (List.take (n * (2 : Nat)) xs) n) * (8 : Nat))
                    (wrL (List.take (n * (2 : Nat)) xs) (0 : Nat) (avLen (Av.sl (List.take (n * (2 : Nat)) xs) n))))
                  (avLen (Av.sl (List.take (n * (2 : Nat)) xs) n) * (8 : Nat))) /
              (8 : Nat) *
            (2 : Nat))
          (rdL
            (List.take (avLen (Av.sl (List.take (n * (2 : Nat)) xs) n) * (8 : Nat))
              (wrL (List.take (n * (2 : Nat)) xs) (0 : Nat) (avLen (Av.sl (List.take (n * (2 : Nat)) xs) n))))
            (0 : Nat)
            (avLen
                (Av.sl
                  (List.take (avLen (Av.sl (List.take (n * (2 : Nat)) xs) n) * (8 : Nat))
                    (wrL (List.take (n * (2 : Nat)) xs) (0 : Nat) (avLen (Av.sl (List.take (n * (2 : Nat)) xs) n))))
                  (avLen (Av.sl (List.take (n * (2 : Nat)) xs) n) * (8 : Nat))) /
              (8 : Nat)))),
      n ≤ c ∧ c ≤ (9223372036854775807 : Nat), n * (2 : Nat) ≤ List.length xs, Fl (List.take (n * (2 : Nat)) xs),
      Ints IntKind.i64
        (List.take
          (avLen
                (Av.sl
                  (List.take (avLen (Av.sl (List.take (n * (2 : Nat)) xs) n) * (8 : Nat))
                    (wrL (List.take (n * (2 : Nat)) xs) (0 : Nat) (avLen (Av.sl (List.take (n * (2 : Nat)) xs) n))))
                  (avLen (Av.sl (List.take (n * (2 : Nat)) xs) n) * (8 : Nat))) /
              (8 : Nat) *
            (2 : Nat))
          (rdL
            (List.take (avLen (Av.sl (List.take (n * (2 : Nat)) xs) n) * (8 : Nat))
              (wrL (List.take (n * (2 : Nat)) xs) (0 : Nat) (avLen (Av.sl (List.take (n * (2 : Nat)) xs) n))))
            (0 : Nat)
            (avLen
                (Av.sl
                  (List.take (avLen (Av.sl (List.take (n * (2 : Nat)) xs) n) * (8 : Nat))
                    (wrL (List.take (n * (2 : Nat)) xs) (0 : Nat) (avLen (Av.sl (List.take (n * (2 : Nat)) xs) n))))
                  (avLen (Av.sl (List.take (n * (2 : Nat)) xs) n) * (8 : Nat))) /
              (8 : Nat)))),
      List.take (n * (2 : Nat)) xs =
        List.take
          (avLen
                (Av.sl
                  (List.take (avLen (Av.sl (List.take (n * (2 : Nat)) xs) n) * (8 : Nat))
                    (wrL (List.take (n * (2 : Nat)) xs) (0 : Nat) (avLen (Av.sl (List.take (n * (2 : Nat)) xs) n))))
                  (avLen (Av.sl (List.take (n * (2 : Nat)) xs) n) * (8 : Nat))) /
              (8 : Nat) *
            (2 : Nat))
          (rdL
            (List.take (avLen (Av.sl (List.take (n * (2 : Nat)) xs) n) * (8 : Nat))
              (wrL (List.take (n * (2 : Nat)) xs) (0 : Nat) (avLen (Av.sl (List.take (n * (2 : Nat)) xs) n))))
            (0 : Nat)
            (avLen
                (Av.sl
                  (List.take (avLen (Av.sl (List.take (n * (2 : Nat)) xs) n) * (8 : Nat))
                    (wrL (List.take (n * (2 : Nat)) xs) (0 : Nat) (avLen (Av.sl (List.take (n * (2 : Nat)) xs) n))))
                  (avLen (Av.sl (List.take (n * (2 : Nat)) xs) n) * (8 : Nat))) /
              (8 : Nat))),
      avLen (Av.sl (List.take (n * (2 : Nat)) xs) n) =
        avLen
          (Av.sl
            (List.take
              (avLen
                    (Av.sl
                      (List.take (avLen (Av.sl (List.take (n * (2 : Nat)) xs) n) * (8 : Nat))
                        (wrL (List.take (n * (2 : Nat)) xs) (0 : Nat) (avLen (Av.sl (List.take (n * (2 : Nat)) xs) n))))
                      (avLen (Av.sl (List.take (n * (2 : Nat)) xs) n) * (8 : Nat))) /
                  (8 : Nat) *
                (2 : Nat))
              (rdL
                (List.take (avLen (Av.sl (List.take (n * (2 : Nat)) xs) n) * (8 : Nat))
                  (wrL (List.take (n * (2 : Nat)) xs) (0 : Nat) (avLen (Av.sl (List.take (n * (2 : Nat)) xs) n))))
                (0 : Nat)
                (avLen
                    (Av.sl
                      (List.take (avLen (Av.sl (List.take (n * (2 : Nat)) xs) n) * (8 : Nat))
                        (wrL (List.take (n * (2 : Nat)) xs) (0 : Nat) (avLen (Av.sl (List.take (n * (2 : Nat)) xs) n))))
                      (avLen (Av.sl (List.take (n * (2 : Nat)) xs) n) * (8 : Nat))) /
                  (8 : Nat))))
            (avLen
                (Av.sl
                  (List.take (avLen (Av.sl (List.take (n * (2 : Nat)) xs) n) * (8 : Nat))
                    (wrL (List.take (n * (2 : Nat)) xs) (0 : Nat) (avLen (Av.sl (List.take (n * (2 : Nat)) xs) n))))
                  (avLen (Av.sl (List.take (n * (2 : Nat)) xs) n) * (8 : Nat))) /
              (8 : Nat))),
      rg IntKind.i64 (↑((8 : Nat) * n) : Int),
      ((↑(avLen (Av.sl (List.take (n * (2 : Nat)) xs) n) * (8 : Nat)) : Int) != (↑((8 : Nat) * n) : Int)) = false,
      Byts [], (0 : Nat) = (0 : Nat), Ints IntKind.i64 [], (0 : Nat) = (0 : Nat), Byts [], Byts [], true = true]) := by kernel_rfl
theorem bk_e_n (xs : List Value) (c : Nat) : runZ bkV Try.prog 5 8 [cbA 0 c, .slice none 0 0] [(0, ⟨.old, xs⟩)] 2 ([false, false] ++ [false, true] ++ [false, true] ++ [false] ++ [false, true] ++ [false, true] ++ [true]) =
Res.ok
  ((Value.bool true, [((0 : Nat), Rw.mk Kd.old xs)], (2 : Nat), []), [],
    [false = false, false = false, (0 : Nat) ≤ c ∧ c ≤ (9223372036854775807 : Nat), (0 : Nat) ≤ List.length xs, Fl [],
      Ints IntKind.i64 [], (0 : Nat) = (0 : Nat), Byts [], (0 : Nat) = (0 : Nat),
      (0 : Nat) ≤ c ∧ c ≤ (9223372036854775807 : Nat), (0 : Nat) ≤ List.length xs, Fl [], Ints IntKind.i64 [], ([] : List Value) = [],
      (0 : Nat) = (0 : Nat), rg IntKind.i64 (0 : Int), false = false, Byts [], (0 : Nat) = (0 : Nat),
      Ints IntKind.i64 [], (0 : Nat) = (0 : Nat), Byts [], Byts [], true = true]) := by kernel_rfl
theorem bk_n_n  : runZ bkV Try.prog 5 8 [.slice none 0 0, .slice none 0 0] [] 2 ([false, false] ++ [false, true] ++ [false, true] ++ [false] ++ [false, true] ++ [false, true] ++ [true]) =
Res.ok
  ((Value.bool true, [], (2 : Nat), []), [],
    [false = false, false = false, Ints IntKind.i64 [], (0 : Nat) = (0 : Nat), Byts [], (0 : Nat) = (0 : Nat),
      Ints IntKind.i64 [], ([] : List Value) = [], (0 : Nat) = (0 : Nat), rg IntKind.i64 (0 : Int), false = false, Byts [],
      (0 : Nat) = (0 : Nat), Ints IntKind.i64 [], (0 : Nat) = (0 : Nat), Byts [], Byts [], true = true]) := by kernel_rfl
theorem bk_ss {xs ys : List Value} {n m c d : Nat} (hx : Ints .i64 xs) (hl : xs.length = n * 2) (hc : n ≤ c ∧ c ≤ 9223372036854775807) (hy : Byts ys) (hm : ys.length = m) (hd : m ≤ d ∧ d ≤ 9223372036854775807) :
    RunsTrue Try.prog 8 [cbA n c, cbB m d] [(0, ⟨.old, xs⟩), (1, ⟨.old, ys⟩)] 2 := by
  have hX : XOkZ bkV Try.prog := noXz_ok rfl
  have hT : TOkZ bkV Try.prog := T_okV rfl bkT_one
  have hL : LOkZ bkV Try.prog := noL_okV rfl
  have ex1 : xs.take (n * 2) = xs := take_len hl
  have exw : (wrL xs 0 n).take (n * 8) = wrL xs 0 n := take_len (wrL_len xs n 0)
  have e88 : n * 8 / 8 = n := by omega
  have f3 := hx.fl
  have b5 := wrL_Byts xs n 0
  have f5 := fl_byts b5
  have lw := wrL_len xs n 0
  have ey1 : ys.take m = ys := take_len hm
  have eyr : (rdL ys 0 (m / 8)).take (m / 8 * 2) = rdL ys 0 (m / 8) := take_len (rdL_len ys (m / 8) 0)
  have f1 := fl_byts hy
  have i4 := rdL_Ints ys (m / 8) 0
  have f4 := i4.fl
  have lr := rdL_len ys (m / 8) 0
  by_cases h1 : n ≤ 200
  case neg =>
    refine ⟨_, _, _, run_tri hX hT hL (bk_l1 xs ys n c m d) ?_ rfl⟩
    simp only [Alls, decide_eq_true_eq]
    repeat' (first | with_reducible exact trivial | with_reducible apply And.intro)
    all_goals first | with_reducible assumption | omega | with_reducible rfl | (skip)
  by_cases h2 : m ≤ 2000
  case neg =>
    refine ⟨_, _, _, run_tri hX hT hL (bk_l2 xs ys n c m d) ?_ rfl⟩
    simp only [Alls, decide_eq_true_eq, decide_eq_false_iff_not]
    repeat' (first | with_reducible exact trivial | with_reducible apply And.intro)
    all_goals first | with_reducible assumption | omega | with_reducible rfl | (skip)
  have g1 : decide ((n : Int) > 200) = false := by simp only [decide_eq_false_iff_not]; omega
  have g2 : decide ((m : Int) > 2000) = false := by simp only [decide_eq_false_iff_not]; omega
  cases z : decide (n = 0)
  case true =>
    have z' : n = 0 := by simpa using z
    subst z'
    obtain rfl : xs = [] := List.eq_nil_of_length_eq_zero (by omega)
    exact bk_es hx hc hy hm hd h2
  have z' : n ≠ 0 := by simpa using z
  cases w0 : decide (n ≤ 128)
  case false =>
    have ert : True := trivial
    cases k0 : decide (m % 8 = 0)
    ·
      have ewr : True := trivial
      have em8 : True := trivial
      refine ⟨_, _, _, run_tri hX hT hL (bk_long_bad xs ys n c m d) ?_ rfl⟩
      simp only [Alls, avLen, Nat.zero_add, List.take_zero, List.drop_zero, List.nil_append, List.length_nil, ex1, exw, e88, ert, ey1, eyr, ewr, em8, Nat.zero_mul, Nat.zero_div, mlI_eq, rg]
      repeat' (first | with_reducible exact trivial | with_reducible apply And.intro)
      all_goals first | with_reducible assumption | omega | with_reducible rfl | (first | exact k0 | exact k1 | exact k3 | exact z | exact w0 | exact z8 | exact z8w | exact e50 | exact decide_eq_true rfl | exact Byts.nil | exact Fl.of rfl | exact Ints.of (l := []) | rfl)
    have k0' : m % 8 = 0 := by simpa using k0
    have em8 : m / 8 * 8 = m := by omega
    have ewr : wrL (rdL ys 0 (m / 8)) 0 (m / 8) = ys := by
      rw [wrL_rdL hy (m / 8) 0 (by omega), List.drop_zero, em8]; exact ey1
    cases k1 : decide (m = 0)
    case true =>
      have k1' : m = 0 := by simpa using k1
      subst k1'
      obtain rfl : ys = [] := List.eq_nil_of_length_eq_zero (by omega)
      refine ⟨_, _, _, run_tri hX hT hL (bk_long_nil xs [] n c 0 d) ?_ rfl⟩
      simp only [Alls, avLen, Nat.zero_add, List.take_zero, List.drop_zero, List.nil_append, List.length_nil, ex1, exw, e88, ert, ey1, eyr, ewr, em8, Nat.zero_mul, Nat.zero_div, mlI_eq, rg]
      repeat' (first | with_reducible exact trivial | with_reducible apply And.intro)
      all_goals first | with_reducible assumption | omega | with_reducible rfl | (first | exact k0 | exact k1 | exact k3 | exact z | exact w0 | exact z8 | exact z8w | exact e50 | exact decide_eq_true rfl | exact Byts.nil | exact Fl.of rfl | exact Ints.of (l := []) | rfl)
    cases k2 : rdOk ys 0 (m / 8)
    ·
      refine ⟨_, _, _, run_tri hX hT hL (bk_long_not xs ys n c m d) ?_ rfl⟩
      simp only [Alls, avLen, Nat.zero_add, List.take_zero, List.drop_zero, List.nil_append, List.length_nil, ex1, exw, e88, ert, ey1, eyr, ewr, em8, Nat.zero_mul, Nat.zero_div, mlI_eq, rg]
      repeat' (first | with_reducible exact trivial | with_reducible apply And.intro)
      all_goals first | with_reducible assumption | omega | with_reducible rfl | (first | exact k0 | exact k1 | exact k3 | exact z | exact w0 | exact z8 | exact z8w | exact e50 | exact decide_eq_true rfl | exact Byts.nil | exact Fl.of rfl | exact Ints.of (l := []) | rfl)
    cases k3 : decide (m / 8 ≤ 128)
    ·
      refine ⟨_, _, _, run_tri hX hT hL (bk_long_long xs ys n c m d) ?_ rfl⟩
      simp only [Alls, avLen, Nat.zero_add, List.take_zero, List.drop_zero, List.nil_append, List.length_nil, ex1, exw, e88, ert, ey1, eyr, ewr, em8, Nat.zero_mul, Nat.zero_div, mlI_eq, rg]
      repeat' (first | with_reducible exact trivial | with_reducible apply And.intro)
      all_goals first | with_reducible assumption | omega | with_reducible rfl | (first | exact k0 | exact k1 | exact k3 | exact z | exact w0 | exact z8 | exact z8w | exact e50 | exact decide_eq_true rfl | exact Byts.nil | exact Fl.of rfl | exact Ints.of (l := []) | rfl)
    ·
      have kw := wrOk_rdL hy (m / 8) 0 (by omega) k2
      have z8 : decide (m / 8 = 0) = false := by
        have k1' : m ≠ 0 := by simpa using k1
        simp only [decide_eq_false_iff_not]; omega
      refine ⟨_, _, _, run_tri hX hT hL (bk_long_ok xs ys n c m d) ?_ rfl⟩
      simp only [Alls, avLen, Nat.zero_add, List.take_zero, List.drop_zero, List.nil_append, List.length_nil, ex1, exw, e88, ert, ey1, eyr, ewr, em8, Nat.zero_mul, Nat.zero_div, mlI_eq, rg]
      repeat' (first | with_reducible exact trivial | with_reducible apply And.intro)
      all_goals first | with_reducible assumption | omega | with_reducible rfl | (first | exact k0 | exact k1 | exact k3 | exact z | exact w0 | exact z8 | exact z8w | exact e50 | exact decide_eq_true rfl | exact Byts.nil | exact Fl.of rfl | exact Ints.of (l := []) | rfl)

  have w0' : n ≤ 128 := by simpa using w0
  cases w1 : wrOk xs 0 n
  case false =>
    have ert : True := trivial
    cases k0 : decide (m % 8 = 0)
    ·
      have ewr : True := trivial
      have em8 : True := trivial
      refine ⟨_, _, _, run_tri hX hT hL (bk_not_bad xs ys n c m d) ?_ rfl⟩
      simp only [Alls, avLen, Nat.zero_add, List.take_zero, List.drop_zero, List.nil_append, List.length_nil, ex1, exw, e88, ert, ey1, eyr, ewr, em8, Nat.zero_mul, Nat.zero_div, mlI_eq, rg]
      repeat' (first | with_reducible exact trivial | with_reducible apply And.intro)
      all_goals first | with_reducible assumption | omega | with_reducible rfl | (first | exact k0 | exact k1 | exact k3 | exact z | exact w0 | exact z8 | exact z8w | exact e50 | exact decide_eq_true rfl | exact Byts.nil | exact Fl.of rfl | exact Ints.of (l := []) | rfl)
    have k0' : m % 8 = 0 := by simpa using k0
    have em8 : m / 8 * 8 = m := by omega
    have ewr : wrL (rdL ys 0 (m / 8)) 0 (m / 8) = ys := by
      rw [wrL_rdL hy (m / 8) 0 (by omega), List.drop_zero, em8]; exact ey1
    cases k1 : decide (m = 0)
    case true =>
      have k1' : m = 0 := by simpa using k1
      subst k1'
      obtain rfl : ys = [] := List.eq_nil_of_length_eq_zero (by omega)
      refine ⟨_, _, _, run_tri hX hT hL (bk_not_nil xs [] n c 0 d) ?_ rfl⟩
      simp only [Alls, avLen, Nat.zero_add, List.take_zero, List.drop_zero, List.nil_append, List.length_nil, ex1, exw, e88, ert, ey1, eyr, ewr, em8, Nat.zero_mul, Nat.zero_div, mlI_eq, rg]
      repeat' (first | with_reducible exact trivial | with_reducible apply And.intro)
      all_goals first | with_reducible assumption | omega | with_reducible rfl | (first | exact k0 | exact k1 | exact k3 | exact z | exact w0 | exact z8 | exact z8w | exact e50 | exact decide_eq_true rfl | exact Byts.nil | exact Fl.of rfl | exact Ints.of (l := []) | rfl)
    cases k2 : rdOk ys 0 (m / 8)
    ·
      refine ⟨_, _, _, run_tri hX hT hL (bk_not_not xs ys n c m d) ?_ rfl⟩
      simp only [Alls, avLen, Nat.zero_add, List.take_zero, List.drop_zero, List.nil_append, List.length_nil, ex1, exw, e88, ert, ey1, eyr, ewr, em8, Nat.zero_mul, Nat.zero_div, mlI_eq, rg]
      repeat' (first | with_reducible exact trivial | with_reducible apply And.intro)
      all_goals first | with_reducible assumption | omega | with_reducible rfl | (first | exact k0 | exact k1 | exact k3 | exact z | exact w0 | exact z8 | exact z8w | exact e50 | exact decide_eq_true rfl | exact Byts.nil | exact Fl.of rfl | exact Ints.of (l := []) | rfl)
    cases k3 : decide (m / 8 ≤ 128)
    ·
      refine ⟨_, _, _, run_tri hX hT hL (bk_not_long xs ys n c m d) ?_ rfl⟩
      simp only [Alls, avLen, Nat.zero_add, List.take_zero, List.drop_zero, List.nil_append, List.length_nil, ex1, exw, e88, ert, ey1, eyr, ewr, em8, Nat.zero_mul, Nat.zero_div, mlI_eq, rg]
      repeat' (first | with_reducible exact trivial | with_reducible apply And.intro)
      all_goals first | with_reducible assumption | omega | with_reducible rfl | (first | exact k0 | exact k1 | exact k3 | exact z | exact w0 | exact z8 | exact z8w | exact e50 | exact decide_eq_true rfl | exact Byts.nil | exact Fl.of rfl | exact Ints.of (l := []) | rfl)
    ·
      have kw := wrOk_rdL hy (m / 8) 0 (by omega) k2
      have z8 : decide (m / 8 = 0) = false := by
        have k1' : m ≠ 0 := by simpa using k1
        simp only [decide_eq_false_iff_not]; omega
      refine ⟨_, _, _, run_tri hX hT hL (bk_not_ok xs ys n c m d) ?_ rfl⟩
      simp only [Alls, avLen, Nat.zero_add, List.take_zero, List.drop_zero, List.nil_append, List.length_nil, ex1, exw, e88, ert, ey1, eyr, ewr, em8, Nat.zero_mul, Nat.zero_div, mlI_eq, rg]
      repeat' (first | with_reducible exact trivial | with_reducible apply And.intro)
      all_goals first | with_reducible assumption | omega | with_reducible rfl | (first | exact k0 | exact k1 | exact k3 | exact z | exact w0 | exact z8 | exact z8w | exact e50 | exact decide_eq_true rfl | exact Byts.nil | exact Fl.of rfl | exact Ints.of (l := []) | rfl)

  obtain ⟨ert', rok⟩ := rdL_wrL hx n 0 (by omega) w1
  have ert : rdL (wrL xs 0 n) 0 n = xs := by rw [ert', Nat.zero_mul, List.drop_zero]; exact ex1
  have e8m : n * 8 % 8 = 0 := by omega
  have z8w : decide (n * 8 = 0) = false := by simp only [decide_eq_false_iff_not]; omega
  have e50 : (((n * 8 : Nat) : Int) != 8 * (n : Int)) = false := by simp only [bne_eq_false_iff_eq]; omega
  cases k0 : decide (m % 8 = 0)
  ·
    have ewr : True := trivial
    have em8 : True := trivial
    refine ⟨_, _, _, run_tri hX hT hL (bk_ok_bad xs ys n c m d) ?_ rfl⟩
    simp only [Alls, avLen, Nat.zero_add, List.take_zero, List.drop_zero, List.nil_append, List.length_nil, ex1, exw, e88, ert, ey1, eyr, ewr, em8, Nat.zero_mul, Nat.zero_div, mlI_eq, rg]
    repeat' (first | with_reducible exact trivial | with_reducible apply And.intro)
    all_goals first | with_reducible assumption | omega | with_reducible rfl | (first | exact k0 | exact k1 | exact k3 | exact z | exact w0 | exact z8 | exact z8w | exact e50 | exact decide_eq_true rfl | exact Byts.nil | exact Fl.of rfl | exact Ints.of (l := []) | rfl)
  have k0' : m % 8 = 0 := by simpa using k0
  have em8 : m / 8 * 8 = m := by omega
  have ewr : wrL (rdL ys 0 (m / 8)) 0 (m / 8) = ys := by
    rw [wrL_rdL hy (m / 8) 0 (by omega), List.drop_zero, em8]; exact ey1
  cases k1 : decide (m = 0)
  case true =>
    have k1' : m = 0 := by simpa using k1
    subst k1'
    obtain rfl : ys = [] := List.eq_nil_of_length_eq_zero (by omega)
    refine ⟨_, _, _, run_tri hX hT hL (bk_ok_nil xs [] n c 0 d) ?_ rfl⟩
    simp only [Alls, avLen, Nat.zero_add, List.take_zero, List.drop_zero, List.nil_append, List.length_nil, ex1, exw, e88, ert, ey1, eyr, ewr, em8, Nat.zero_mul, Nat.zero_div, mlI_eq, rg]
    repeat' (first | with_reducible exact trivial | with_reducible apply And.intro)
    all_goals first | with_reducible assumption | omega | with_reducible rfl | (first | exact k0 | exact k1 | exact k3 | exact z | exact w0 | exact z8 | exact z8w | exact e50 | exact decide_eq_true rfl | exact Byts.nil | exact Fl.of rfl | exact Ints.of (l := []) | rfl)
  cases k2 : rdOk ys 0 (m / 8)
  ·
    refine ⟨_, _, _, run_tri hX hT hL (bk_ok_not xs ys n c m d) ?_ rfl⟩
    simp only [Alls, avLen, Nat.zero_add, List.take_zero, List.drop_zero, List.nil_append, List.length_nil, ex1, exw, e88, ert, ey1, eyr, ewr, em8, Nat.zero_mul, Nat.zero_div, mlI_eq, rg]
    repeat' (first | with_reducible exact trivial | with_reducible apply And.intro)
    all_goals first | with_reducible assumption | omega | with_reducible rfl | (first | exact k0 | exact k1 | exact k3 | exact z | exact w0 | exact z8 | exact z8w | exact e50 | exact decide_eq_true rfl | exact Byts.nil | exact Fl.of rfl | exact Ints.of (l := []) | rfl)
  cases k3 : decide (m / 8 ≤ 128)
  ·
    refine ⟨_, _, _, run_tri hX hT hL (bk_ok_long xs ys n c m d) ?_ rfl⟩
    simp only [Alls, avLen, Nat.zero_add, List.take_zero, List.drop_zero, List.nil_append, List.length_nil, ex1, exw, e88, ert, ey1, eyr, ewr, em8, Nat.zero_mul, Nat.zero_div, mlI_eq, rg]
    repeat' (first | with_reducible exact trivial | with_reducible apply And.intro)
    all_goals first | with_reducible assumption | omega | with_reducible rfl | (first | exact k0 | exact k1 | exact k3 | exact z | exact w0 | exact z8 | exact z8w | exact e50 | exact decide_eq_true rfl | exact Byts.nil | exact Fl.of rfl | exact Ints.of (l := []) | rfl)
  ·
    have kw := wrOk_rdL hy (m / 8) 0 (by omega) k2
    have z8 : decide (m / 8 = 0) = false := by
      have k1' : m ≠ 0 := by simpa using k1
      simp only [decide_eq_false_iff_not]; omega
    refine ⟨_, _, _, run_tri hX hT hL (bk_ok_ok xs ys n c m d) ?_ rfl⟩
    simp only [Alls, avLen, Nat.zero_add, List.take_zero, List.drop_zero, List.nil_append, List.length_nil, ex1, exw, e88, ert, ey1, eyr, ewr, em8, Nat.zero_mul, Nat.zero_div, mlI_eq, rg]
    repeat' (first | with_reducible exact trivial | with_reducible apply And.intro)
    all_goals first | with_reducible assumption | omega | with_reducible rfl | (first | exact k0 | exact k1 | exact k3 | exact z | exact w0 | exact z8 | exact z8w | exact e50 | exact decide_eq_true rfl | exact Byts.nil | exact Fl.of rfl | exact Ints.of (l := []) | rfl)
theorem bk_sn {xs : List Value} {n c : Nat} (hx : Ints .i64 xs) (hl : xs.length = n * 2) (hc : n ≤ c ∧ c ≤ 9223372036854775807) :
    RunsTrue Try.prog 8 [cbA n c, .slice none 0 0] [(0, ⟨.old, xs⟩)] 2 := by
  have hX : XOkZ bkV Try.prog := noXz_ok rfl
  have hT : TOkZ bkV Try.prog := T_okV rfl bkT_one
  have hL : LOkZ bkV Try.prog := noL_okV rfl
  have ex1 : xs.take (n * 2) = xs := take_len hl
  have exw : (wrL xs 0 n).take (n * 8) = wrL xs 0 n := take_len (wrL_len xs n 0)
  have e88 : n * 8 / 8 = n := by omega
  have f3 := hx.fl
  have b5 := wrL_Byts xs n 0
  have f5 := fl_byts b5
  have lw := wrL_len xs n 0
  have ey1 : True := trivial
  have eyr : True := trivial
  have ewr : True := trivial
  have em8 : True := trivial
  by_cases h1 : n ≤ 200
  case neg =>
    refine ⟨_, _, _, run_tri hX hT hL (bk_l1n xs n c) ?_ rfl⟩
    simp only [Alls, decide_eq_true_eq]
    repeat' (first | with_reducible exact trivial | with_reducible apply And.intro)
    all_goals first | with_reducible assumption | omega | with_reducible rfl | (skip)
  have g1 : decide ((n : Int) > 200) = false := by simp only [decide_eq_false_iff_not]; omega
  cases z : decide (n = 0)
  case true =>
    have z' : n = 0 := by simpa using z
    subst z'
    obtain rfl : xs = [] := List.eq_nil_of_length_eq_zero (by omega)
    have ert : True := trivial
    refine ⟨_, _, _, run_tri hX hT hL (bk_e_n [] c) ?_ rfl⟩
    simp only [Alls, avLen, Nat.zero_add, List.take_zero, List.drop_zero, List.nil_append, List.length_nil, ex1, exw, e88, ert, ey1, eyr, ewr, em8, Nat.zero_mul, Nat.zero_div, mlI_eq, rg]
    repeat' (first | with_reducible exact trivial | with_reducible apply And.intro)
    all_goals first | with_reducible assumption | omega | with_reducible rfl | (first | exact k0 | exact k1 | exact k3 | exact z | exact w0 | exact z8 | exact z8w | exact e50 | exact decide_eq_true rfl | exact Byts.nil | exact Fl.of rfl | exact Ints.of (l := []) | rfl)
  have z' : n ≠ 0 := by simpa using z
  cases w0 : decide (n ≤ 128)
  ·
    have ert : True := trivial
    refine ⟨_, _, _, run_tri hX hT hL (bk_long_n xs n c) ?_ rfl⟩
    simp only [Alls, avLen, Nat.zero_add, List.take_zero, List.drop_zero, List.nil_append, List.length_nil, ex1, exw, e88, ert, ey1, eyr, ewr, em8, Nat.zero_mul, Nat.zero_div, mlI_eq, rg]
    repeat' (first | with_reducible exact trivial | with_reducible apply And.intro)
    all_goals first | with_reducible assumption | omega | with_reducible rfl | (first | exact k0 | exact k1 | exact k3 | exact z | exact w0 | exact z8 | exact z8w | exact e50 | exact decide_eq_true rfl | exact Byts.nil | exact Fl.of rfl | exact Ints.of (l := []) | rfl)
  have w0' : n ≤ 128 := by simpa using w0
  cases w1 : wrOk xs 0 n
  ·
    have ert : True := trivial
    refine ⟨_, _, _, run_tri hX hT hL (bk_not_n xs n c) ?_ rfl⟩
    simp only [Alls, avLen, Nat.zero_add, List.take_zero, List.drop_zero, List.nil_append, List.length_nil, ex1, exw, e88, ert, ey1, eyr, ewr, em8, Nat.zero_mul, Nat.zero_div, mlI_eq, rg]
    repeat' (first | with_reducible exact trivial | with_reducible apply And.intro)
    all_goals first | with_reducible assumption | omega | with_reducible rfl | (first | exact k0 | exact k1 | exact k3 | exact z | exact w0 | exact z8 | exact z8w | exact e50 | exact decide_eq_true rfl | exact Byts.nil | exact Fl.of rfl | exact Ints.of (l := []) | rfl)
  obtain ⟨ert', rok⟩ := rdL_wrL hx n 0 (by omega) w1
  have ert : rdL (wrL xs 0 n) 0 n = xs := by rw [ert', Nat.zero_mul, List.drop_zero]; exact ex1
  have e8m : n * 8 % 8 = 0 := by omega
  have z8w : decide (n * 8 = 0) = false := by simp only [decide_eq_false_iff_not]; omega
  have e50 : (((n * 8 : Nat) : Int) != 8 * (n : Int)) = false := by simp only [bne_eq_false_iff_eq]; omega
  refine ⟨_, _, _, run_tri hX hT hL (bk_ok_n xs n c) ?_ rfl⟩
  simp only [Alls, avLen, Nat.zero_add, List.take_zero, List.drop_zero, List.nil_append, List.length_nil, ex1, exw, e88, ert, ey1, eyr, ewr, em8, Nat.zero_mul, Nat.zero_div, mlI_eq, rg]
  repeat' (first | with_reducible exact trivial | with_reducible apply And.intro)
  all_goals first | with_reducible assumption | omega | with_reducible rfl | (first | exact k0 | exact k1 | exact k3 | exact z | exact w0 | exact z8 | exact z8w | exact e50 | exact decide_eq_true rfl | exact Byts.nil | exact Fl.of rfl | exact Ints.of (l := []) | rfl)
theorem bk_nn : RunsTrue Try.prog 8 [.slice none 0 0, .slice none 0 0] [] 2 := by
  have hX : XOkZ bkV Try.prog := noXz_ok rfl
  have hT : TOkZ bkV Try.prog := T_okV rfl bkT_one
  have hL : LOkZ bkV Try.prog := noL_okV rfl
  have ex1 : True := trivial
  have exw : True := trivial
  have e88 : True := trivial
  have ert : True := trivial
  have ey1 : True := trivial
  have eyr : True := trivial
  have ewr : True := trivial
  have em8 : True := trivial
  refine ⟨_, _, _, run_tri hX hT hL (bk_n_n) ?_ rfl⟩
  simp only [Alls, avLen, Nat.zero_add, List.take_zero, List.drop_zero, List.nil_append, List.length_nil, ex1, exw, e88, ert, ey1, eyr, ewr, em8, Nat.zero_mul, Nat.zero_div, mlI_eq, rg]
  repeat' (first | with_reducible exact trivial | with_reducible apply And.intro)
  all_goals first | with_reducible assumption | omega | with_reducible rfl | (first | exact k0 | exact k1 | exact k3 | exact z | exact w0 | exact z8 | exact z8w | exact e50 | exact decide_eq_true rfl | exact Byts.nil | exact Fl.of rfl | exact Ints.of (l := []) | rfl)
/-- The statement's own call. -/
theorem cback_any {W : World} {v0 v1 : Value} {a0 a1 : Av} {q0 q1 : Option (Addr × Nat)} {z0 z1 : List (List Int)} (h0 : (a0 = .fl (.slice none 0 0) ∧ z0 = []) ∨ a0 = .sl (z0.map (cellsK [.i64, .i64])).flatten z0.length) (h1 : (a1 = .fl (.slice none 0 0) ∧ z1 = []) ∨ a1 = .sl (z1.map (cellsK [.u8])).flatten z1.length)
    (A0 : AvAt a0 v0 q0) (A1 : AvAt a1 v1 q1) (L0 : Lies W a0 q0) (L1 : Lies W a1 q1) (w0 : ∀ zs ∈ z0, AllWf [.i64, .i64] zs) (w1 : ∀ zs ∈ z1, AllWf [.u8] zs) :
    Calls Try.prog 8 #[v0, v1] W fun e w' => e = .returned (.bool true) ∧ Ext W w' := by
  have b0 : Ints .i64 (z0.map (cellsK [.i64, .i64])).flatten := flat_Ints (m := 2) w0
  have l0 : ((z0.map (cellsK [.i64, .i64])).flatten).length = z0.length * 2 := flat_len w0
  have b1 := flat_Byts w1
  have l1 : ((z1.map (cellsK [.u8])).flatten).length = z1.length := by rw [flat_len w1]; simp
  refine calls_sl (avs := [a0, a1]) (vs := [v0, v1]) (ps := [q0, q1]) ⟨A0, A1, trivial⟩ ⟨L0, L1, trivial⟩ (fun σ => rfl) fun cs hcs => ?_
  obtain ⟨c, d, rfl⟩ := caps2 hcs
  rcases h0 with ⟨rfl, rfl⟩ | rfl <;> rcases h1 with ⟨rfl, rfl⟩ | rfl
  · exact bk_nn
  · exact bk_ns b1 l1 hcs.1
  · exact bk_sn b0 l0 hcs.1
  · exact bk_ss b0 l0 hcs.1 b1 l1 hcs.2.1
end Go.Proofs.Ytmjmdjcgjmjigaa
