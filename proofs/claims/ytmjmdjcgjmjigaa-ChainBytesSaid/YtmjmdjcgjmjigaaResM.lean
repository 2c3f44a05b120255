/-
  Chapter 19: the statement ChainBytes, run at any lists: the list of results is not empty.
-/
import Derived.Test.YtmjmdjcgjmjigaaResL
namespace Go.Proofs.Ytmjmdjcgjmjigaa
set_option linter.unusedSimpArgs false
set_option linter.unusedVariables false
set_option linter.unusedSectionVars false
open Go Go.RowKit

theorem cb_long_bad (xs ys : List Value) (n c m d : Nat) : runZ (cbV 2) Try.prog 5 7 [cbA n c, cbB m d] [(0, ⟨.old, xs⟩), (1, ⟨.old, ys⟩)] 2 ([false, false] ++ [true] ++ [true] ++ [true] ++ [true] ++ [true, true]) =
Res.ok
  ((Value.bool true, [((0 : Nat), Rw.mk Kd.old xs), ((1 : Nat), Rw.mk Kd.old ys)], (5 : Nat), []), [],
    [decide ((↑n : Int) > (200 : Int)) = false, decide ((↑m : Int) > (2000 : Int)) = false,
      m ≤ d ∧ d ≤ (9223372036854775807 : Nat), m ≤ List.length ys, Fl (List.take m ys), Byts (List.take m ys),
      avLen (Av.sl (List.take m ys) m) ≤ (1099511627776 : Nat), (0 : Nat) < (18446744073709551616 : Nat),
      (0 : Nat) < (0 : Nat) + n, (0 : Nat) ≤ (0 : Nat),
      ((0 : Nat) + n) * (16 : Nat) ≤ (140737488355328 : Nat) ∧ (0 : Nat) + n ≤ (9223372036854775807 : Nat),
      n * (2 : Nat) ≤ List.length xs, all1 (List.take (n * (2 : Nat)) xs) = true,
      capBig + (4 : Nat) = capBig + (4 : Nat),
      ((0 : Nat) + n) * (2 : Nat) ≤ List.length ([] ++ List.take (n * (2 : Nat)) xs), (0 : Nat) < (2 : Nat),
      ((0 : Nat) + n) * (2 : Nat) ≤ List.length ([] ++ List.take (n * (2 : Nat)) xs),
      Fl (List.take (((0 : Nat) + n) * (2 : Nat)) ([] ++ List.take (n * (2 : Nat)) xs)),
      Ints IntKind.i64 (List.take (((0 : Nat) + n) * (2 : Nat)) ([] ++ List.take (n * (2 : Nat)) xs)),
      decide
          (avLen
              (Av.sl (List.take (((0 : Nat) + n) * (2 : Nat)) ([] ++ List.take (n * (2 : Nat)) xs)) ((0 : Nat) + n)) ≤
            (128 : Nat)) =
        false,
      n ≤ c ∧ c ≤ (9223372036854775807 : Nat), n * (2 : Nat) ≤ List.length xs, Fl (List.take (n * (2 : Nat)) xs),
      Ints IntKind.i64 (List.take (n * (2 : Nat)) xs),
      decide (avLen (Av.sl (List.take (n * (2 : Nat)) xs) n) ≤ (128 : Nat)) = false,
      avLen (Av.sl (List.take m ys) m) ≤ avLen (Av.sl (List.take m ys) m) + (3 : Nat) ∧
        avLen (Av.sl (List.take m ys) m) + (3 : Nat) ≤ (9223372036854775807 : Nat),
      avLen (Av.sl (List.take m ys) m) ≤
        List.length
          (List.take m ys ++
            [Value.int IntKind.u8
                (↑(((160 : Nat) + avLen (Av.sl (List.take m ys) m) % (90 : Nat)) % (256 : Nat)) : Int),
              Value.int IntKind.u8
                (↑(((160 : Nat) + (avLen (Av.sl (List.take m ys) m) + (1 : Nat)) % (90 : Nat)) % (256 : Nat)) : Int),
              Value.int IntKind.u8
                (↑(((160 : Nat) + (avLen (Av.sl (List.take m ys) m) + (1 : Nat) + (1 : Nat)) % (90 : Nat)) %
                      (256 : Nat)) :
                  Int)]),
      Fl
        (List.take (avLen (Av.sl (List.take m ys) m))
          (List.take m ys ++
            [Value.int IntKind.u8
                (↑(((160 : Nat) + avLen (Av.sl (List.take m ys) m) % (90 : Nat)) % (256 : Nat)) : Int),
              Value.int IntKind.u8
                (↑(((160 : Nat) + (avLen (Av.sl (List.take m ys) m) + (1 : Nat)) % (90 : Nat)) % (256 : Nat)) : Int),
              Value.int IntKind.u8
                (↑(((160 : Nat) + (avLen (Av.sl (List.take m ys) m) + (1 : Nat) + (1 : Nat)) % (90 : Nat)) %
                      (256 : Nat)) :
                  Int)])),
      Byts
        (List.take (avLen (Av.sl (List.take m ys) m))
          (List.take m ys ++
            [Value.int IntKind.u8
                (↑(((160 : Nat) + avLen (Av.sl (List.take m ys) m) % (90 : Nat)) % (256 : Nat)) : Int),
              Value.int IntKind.u8
                (↑(((160 : Nat) + (avLen (Av.sl (List.take m ys) m) + (1 : Nat)) % (90 : Nat)) % (256 : Nat)) : Int),
              Value.int IntKind.u8
                (↑(((160 : Nat) + (avLen (Av.sl (List.take m ys) m) + (1 : Nat) + (1 : Nat)) % (90 : Nat)) %
                      (256 : Nat)) :
                  Int)])),
      decide
          (avLen
                (Av.sl
                  (List.take (avLen (Av.sl (List.take m ys) m))
                    (List.take m ys ++
                      [Value.int IntKind.u8
                          (↑(((160 : Nat) + avLen (Av.sl (List.take m ys) m) % (90 : Nat)) % (256 : Nat)) : Int),
                        Value.int IntKind.u8
                          (↑(((160 : Nat) + (avLen (Av.sl (List.take m ys) m) + (1 : Nat)) % (90 : Nat)) %
                                (256 : Nat)) :
                            Int),
                        Value.int IntKind.u8
                          (↑(((160 : Nat) + (avLen (Av.sl (List.take m ys) m) + (1 : Nat) + (1 : Nat)) % (90 : Nat)) %
                                (256 : Nat)) :
                            Int)]))
                  (avLen (Av.sl (List.take m ys) m))) %
              (8 : Nat) =
            (0 : Nat)) =
        false,
      m ≤ d ∧ d ≤ (9223372036854775807 : Nat), m ≤ List.length ys, Fl (List.take m ys), Byts (List.take m ys),
      decide (avLen (Av.sl (List.take m ys) m) % (8 : Nat) = (0 : Nat)) = false, Byts [], Byts [], true = true,
      Ints IntKind.i64 [], ([] : List Value) = [], (0 : Nat) = (0 : Nat),
      avLen (Av.sl (List.take m ys) m) + (3 : Nat) ≤ (9223372036854775807 : Nat),
      avLen (Av.sl (List.take m ys) m) + (3 : Nat) ≤
        List.length
          (List.take m ys ++
            [Value.int IntKind.u8
                (↑(((160 : Nat) + avLen (Av.sl (List.take m ys) m) % (90 : Nat)) % (256 : Nat)) : Int),
              Value.int IntKind.u8
                (↑(((160 : Nat) + (avLen (Av.sl (List.take m ys) m) + (1 : Nat)) % (90 : Nat)) % (256 : Nat)) : Int),
              Value.int IntKind.u8
                (↑(((160 : Nat) + (avLen (Av.sl (List.take m ys) m) + (1 : Nat) + (1 : Nat)) % (90 : Nat)) %
                      (256 : Nat)) :
                  Int)]),
      Fl
        (List.take (avLen (Av.sl (List.take m ys) m) + (3 : Nat))
          (List.take m ys ++
            [Value.int IntKind.u8
                (↑(((160 : Nat) + avLen (Av.sl (List.take m ys) m) % (90 : Nat)) % (256 : Nat)) : Int),
              Value.int IntKind.u8
                (↑(((160 : Nat) + (avLen (Av.sl (List.take m ys) m) + (1 : Nat)) % (90 : Nat)) % (256 : Nat)) : Int),
              Value.int IntKind.u8
                (↑(((160 : Nat) + (avLen (Av.sl (List.take m ys) m) + (1 : Nat) + (1 : Nat)) % (90 : Nat)) %
                      (256 : Nat)) :
                  Int)])),
      m ≤ d ∧ d ≤ (9223372036854775807 : Nat), m ≤ List.length ys, Fl (List.take m ys),
      Byts
        (List.take (avLen (Av.sl (List.take m ys) m) + (3 : Nat))
          (List.take m ys ++
            [Value.int IntKind.u8
                (↑(((160 : Nat) + avLen (Av.sl (List.take m ys) m) % (90 : Nat)) % (256 : Nat)) : Int),
              Value.int IntKind.u8
                (↑(((160 : Nat) + (avLen (Av.sl (List.take m ys) m) + (1 : Nat)) % (90 : Nat)) % (256 : Nat)) : Int),
              Value.int IntKind.u8
                (↑(((160 : Nat) + (avLen (Av.sl (List.take m ys) m) + (1 : Nat) + (1 : Nat)) % (90 : Nat)) %
                      (256 : Nat)) :
                  Int)])),
      Byts (List.take m ys), avLen (Av.sl (List.take m ys) m) = avLen (Av.sl (List.take m ys) m),
      avLen (Av.sl (List.take m ys) m) + (3 : Nat) = avLen (Av.sl (List.take m ys) m) + (3 : Nat),
      avLen (Av.sl (List.take m ys) m) ≤ (1099511627776 : Nat),
      decide
          (intsOf
              (List.take (avLen (Av.sl (List.take m ys) m) + (3 : Nat))
                (List.take m ys ++
                  [Value.int IntKind.u8
                      (↑(((160 : Nat) + avLen (Av.sl (List.take m ys) m) % (90 : Nat)) % (256 : Nat)) : Int),
                    Value.int IntKind.u8
                      (↑(((160 : Nat) + (avLen (Av.sl (List.take m ys) m) + (1 : Nat)) % (90 : Nat)) % (256 : Nat)) :
                        Int),
                    Value.int IntKind.u8
                      (↑(((160 : Nat) + (avLen (Av.sl (List.take m ys) m) + (1 : Nat) + (1 : Nat)) % (90 : Nat)) %
                            (256 : Nat)) :
                        Int)])) =
            intsOf
              (List.take m ys ++
                [Value.int IntKind.u8
                    (↑(((160 : Nat) + avLen (Av.sl (List.take m ys) m) % (90 : Nat)) % (256 : Nat)) : Int),
                  Value.int IntKind.u8
                    (↑(((160 : Nat) + (avLen (Av.sl (List.take m ys) m) + (1 : Nat)) % (90 : Nat)) % (256 : Nat)) :
                      Int),
                  Value.int IntKind.u8
                    (↑(((160 : Nat) + (avLen (Av.sl (List.take m ys) m) + (1 : Nat) + (1 : Nat)) % (90 : Nat)) %
                          (256 : Nat)) :
                      Int)])) =
        true]) := by kernel_rfl
theorem cb_not_bad (xs ys : List Value) (n c m d : Nat) : runZ (cbV 2) Try.prog 5 7 [cbA n c, cbB m d] [(0, ⟨.old, xs⟩), (1, ⟨.old, ys⟩)] 2 ([false, false] ++ [false, false, false] ++ [false, false, false] ++ [true] ++ [true] ++ [true, true]) =
Res.ok
  ((Value.bool true, [((0 : Nat), Rw.mk Kd.old xs), ((1 : Nat), Rw.mk Kd.old ys)], (5 : Nat), []), [],
    [decide ((↑n : Int) > (200 : Int)) = false, decide ((↑m : Int) > (2000 : Int)) = false,
      m ≤ d ∧ d ≤ (9223372036854775807 : Nat), m ≤ List.length ys, Fl (List.take m ys), Byts (List.take m ys),
      avLen (Av.sl (List.take m ys) m) ≤ (1099511627776 : Nat), (0 : Nat) < (18446744073709551616 : Nat),
      (0 : Nat) < (0 : Nat) + n, (0 : Nat) ≤ (0 : Nat),
      ((0 : Nat) + n) * (16 : Nat) ≤ (140737488355328 : Nat) ∧ (0 : Nat) + n ≤ (9223372036854775807 : Nat),
      n * (2 : Nat) ≤ List.length xs, all1 (List.take (n * (2 : Nat)) xs) = true,
      capBig + (4 : Nat) = capBig + (4 : Nat),
      ((0 : Nat) + n) * (2 : Nat) ≤ List.length ([] ++ List.take (n * (2 : Nat)) xs), (0 : Nat) < (2 : Nat),
      ((0 : Nat) + n) * (2 : Nat) ≤ List.length ([] ++ List.take (n * (2 : Nat)) xs),
      Fl (List.take (((0 : Nat) + n) * (2 : Nat)) ([] ++ List.take (n * (2 : Nat)) xs)),
      Ints IntKind.i64 (List.take (((0 : Nat) + n) * (2 : Nat)) ([] ++ List.take (n * (2 : Nat)) xs)),
      decide
          (avLen
              (Av.sl (List.take (((0 : Nat) + n) * (2 : Nat)) ([] ++ List.take (n * (2 : Nat)) xs)) ((0 : Nat) + n)) =
            (0 : Nat)) =
        false,
      decide
          (avLen
              (Av.sl (List.take (((0 : Nat) + n) * (2 : Nat)) ([] ++ List.take (n * (2 : Nat)) xs)) ((0 : Nat) + n)) ≤
            (128 : Nat)) =
        true,
      wrOk (List.take (((0 : Nat) + n) * (2 : Nat)) ([] ++ List.take (n * (2 : Nat)) xs)) (0 : Nat)
          (avLen
            (Av.sl (List.take (((0 : Nat) + n) * (2 : Nat)) ([] ++ List.take (n * (2 : Nat)) xs)) ((0 : Nat) + n))) =
        false,
      n ≤ c ∧ c ≤ (9223372036854775807 : Nat), n * (2 : Nat) ≤ List.length xs, Fl (List.take (n * (2 : Nat)) xs),
      Ints IntKind.i64 (List.take (n * (2 : Nat)) xs),
      decide (avLen (Av.sl (List.take (n * (2 : Nat)) xs) n) = (0 : Nat)) = false,
      decide (avLen (Av.sl (List.take (n * (2 : Nat)) xs) n) ≤ (128 : Nat)) = true,
      wrOk (List.take (n * (2 : Nat)) xs) (0 : Nat) (avLen (Av.sl (List.take (n * (2 : Nat)) xs) n)) = false,
      avLen (Av.sl (List.take m ys) m) ≤ avLen (Av.sl (List.take m ys) m) + (3 : Nat) ∧
        avLen (Av.sl (List.take m ys) m) + (3 : Nat) ≤ (9223372036854775807 : Nat),
      avLen (Av.sl (List.take m ys) m) ≤
        List.length
          (List.take m ys ++
            [Value.int IntKind.u8
                (↑(((160 : Nat) + avLen (Av.sl (List.take m ys) m) % (90 : Nat)) % (256 : Nat)) : Int),
              Value.int IntKind.u8
                (↑(((160 : Nat) + (avLen (Av.sl (List.take m ys) m) + (1 : Nat)) % (90 : Nat)) % (256 : Nat)) : Int),
              Value.int IntKind.u8
                (↑(((160 : Nat) + (avLen (Av.sl (List.take m ys) m) + (1 : Nat) + (1 : Nat)) % (90 : Nat)) %
                      (256 : Nat)) :
                  Int)]),
      Fl
        (List.take (avLen (Av.sl (List.take m ys) m))
          (List.take m ys ++
            [Value.int IntKind.u8
                (↑(((160 : Nat) + avLen (Av.sl (List.take m ys) m) % (90 : Nat)) % (256 : Nat)) : Int),
              Value.int IntKind.u8
                (↑(((160 : Nat) + (avLen (Av.sl (List.take m ys) m) + (1 : Nat)) % (90 : Nat)) % (256 : Nat)) : Int),
              Value.int IntKind.u8
                (↑(((160 : Nat) + (avLen (Av.sl (List.take m ys) m) + (1 : Nat) + (1 : Nat)) % (90 : Nat)) %
                      (256 : Nat)) :
                  Int)])),
      Byts
        (List.take (avLen (Av.sl (List.take m ys) m))
          (List.take m ys ++
            [Value.int IntKind.u8
                (↑(((160 : Nat) + avLen (Av.sl (List.take m ys) m) % (90 : Nat)) % (256 : Nat)) : Int),
              Value.int IntKind.u8
                (↑(((160 : Nat) + (avLen (Av.sl (List.take m ys) m) + (1 : Nat)) % (90 : Nat)) % (256 : Nat)) : Int),
              Value.int IntKind.u8
                (↑(((160 : Nat) + (avLen (Av.sl (List.take m ys) m) + (1 : Nat) + (1 : Nat)) % (90 : Nat)) %
                      (256 : Nat)) :
                  Int)])),
      decide
          (avLen
                (Av.sl
                  (List.take (avLen (Av.sl (List.take m ys) m))
                    (List.take m ys ++
                      [Value.int IntKind.u8
                          (↑(((160 : Nat) + avLen (Av.sl (List.take m ys) m) % (90 : Nat)) % (256 : Nat)) : Int),
                        Value.int IntKind.u8
                          (↑(((160 : Nat) + (avLen (Av.sl (List.take m ys) m) + (1 : Nat)) % (90 : Nat)) %
                                (256 : Nat)) :
                            Int),
                        Value.int IntKind.u8
                          (↑(((160 : Nat) + (avLen (Av.sl (List.take m ys) m) + (1 : Nat) + (1 : Nat)) % (90 : Nat)) %
                                (256 : Nat)) :
                            Int)]))
                  (avLen (Av.sl (List.take m ys) m))) %
              (8 : Nat) =
            (0 : Nat)) =
        false,
      m ≤ d ∧ d ≤ (9223372036854775807 : Nat), m ≤ List.length ys, Fl (List.take m ys), Byts (List.take m ys),
      decide (avLen (Av.sl (List.take m ys) m) % (8 : Nat) = (0 : Nat)) = false, Byts [], Byts [], true = true,
      Ints IntKind.i64 [], ([] : List Value) = [], (0 : Nat) = (0 : Nat),
      avLen (Av.sl (List.take m ys) m) + (3 : Nat) ≤ (9223372036854775807 : Nat),
      avLen (Av.sl (List.take m ys) m) + (3 : Nat) ≤
        List.length
          (List.take m ys ++
            [Value.int IntKind.u8
                (↑(((160 : Nat) + avLen (Av.sl (List.take m ys) m) % (90 : Nat)) % (256 : Nat)) : Int),
              Value.int IntKind.u8
                (↑(((160 : Nat) + (avLen (Av.sl (List.take m ys) m) + (1 : Nat)) % (90 : Nat)) % (256 : Nat)) : Int),
              Value.int IntKind.u8
                (↑(((160 : Nat) + (avLen (Av.sl (List.take m ys) m) + (1 : Nat) + (1 : Nat)) % (90 : Nat)) %
                      (256 : Nat)) :
                  Int)]),
      Fl
        (List.take (avLen (Av.sl (List.take m ys) m) + (3 : Nat))
          (List.take m ys ++
            [Value.int IntKind.u8
                (↑(((160 : Nat) + avLen (Av.sl (List.take m ys) m) % (90 : Nat)) % (256 : Nat)) : Int),
              Value.int IntKind.u8
                (↑(((160 : Nat) + (avLen (Av.sl (List.take m ys) m) + (1 : Nat)) % (90 : Nat)) % (256 : Nat)) : Int),
              Value.int IntKind.u8
                (↑(((160 : Nat) + (avLen (Av.sl (List.take m ys) m) + (1 : Nat) + (1 : Nat)) % (90 : Nat)) %
                      (256 : Nat)) :
                  Int)])),
      m ≤ d ∧ d ≤ (9223372036854775807 : Nat), m ≤ List.length ys, Fl (List.take m ys),
      Byts
        (List.take (avLen (Av.sl (List.take m ys) m) + (3 : Nat))
          (List.take m ys ++
            [Value.int IntKind.u8
                (↑(((160 : Nat) + avLen (Av.sl (List.take m ys) m) % (90 : Nat)) % (256 : Nat)) : Int),
              Value.int IntKind.u8
                (↑(((160 : Nat) + (avLen (Av.sl (List.take m ys) m) + (1 : Nat)) % (90 : Nat)) % (256 : Nat)) : Int),
              Value.int IntKind.u8
                (↑(((160 : Nat) + (avLen (Av.sl (List.take m ys) m) + (1 : Nat) + (1 : Nat)) % (90 : Nat)) %
                      (256 : Nat)) :
                  Int)])),
      Byts (List.take m ys), avLen (Av.sl (List.take m ys) m) = avLen (Av.sl (List.take m ys) m),
      avLen (Av.sl (List.take m ys) m) + (3 : Nat) = avLen (Av.sl (List.take m ys) m) + (3 : Nat),
      avLen (Av.sl (List.take m ys) m) ≤ (1099511627776 : Nat),
      decide
          (intsOf
              (List.take (avLen (Av.sl (List.take m ys) m) + (3 : Nat))
                (List.take m ys ++
                  [Value.int IntKind.u8
                      (↑(((160 : Nat) + avLen (Av.sl (List.take m ys) m) % (90 : Nat)) % (256 : Nat)) : Int),
                    Value.int IntKind.u8
                      (↑(((160 : Nat) + (avLen (Av.sl (List.take m ys) m) + (1 : Nat)) % (90 : Nat)) % (256 : Nat)) :
                        Int),
                    Value.int IntKind.u8
                      (↑(((160 : Nat) + (avLen (Av.sl (List.take m ys) m) + (1 : Nat) + (1 : Nat)) % (90 : Nat)) %
                            (256 : Nat)) :
                        Int)])) =
            intsOf
              (List.take m ys ++
                [Value.int IntKind.u8
                    (↑(((160 : Nat) + avLen (Av.sl (List.take m ys) m) % (90 : Nat)) % (256 : Nat)) : Int),
                  Value.int IntKind.u8
                    (↑(((160 : Nat) + (avLen (Av.sl (List.take m ys) m) + (1 : Nat)) % (90 : Nat)) % (256 : Nat)) :
                      Int),
                  Value.int IntKind.u8
                    (↑(((160 : Nat) + (avLen (Av.sl (List.take m ys) m) + (1 : Nat) + (1 : Nat)) % (90 : Nat)) %
                          (256 : Nat)) :
                      Int)])) =
        true]) := by kernel_rfl
theorem cb_ok_bad (xs ys : List Value) (n c m d : Nat) : runZ (cbV 2) Try.prog 5 7 [cbA n c, cbB m d] [(0, ⟨.old, xs⟩), (1, ⟨.old, ys⟩)] 2 ([false, false] ++ [false, false, true] ++ [false, false, true] ++ [true] ++ [true] ++ [true, true]) =
Res.ok
  ((Value.bool true, [((0 : Nat), Rw.mk Kd.old xs), ((1 : Nat), Rw.mk Kd.old ys)], (7 : Nat), []), [],
    [decide ((↑n : Int) > (200 : Int)) = false, decide ((↑m : Int) > (2000 : Int)) = false,
      m ≤ d ∧ d ≤ (9223372036854775807 : Nat), m ≤ List.length ys, Fl (List.take m ys), Byts (List.take m ys),
      avLen (Av.sl (List.take m ys) m) ≤ (1099511627776 : Nat), (0 : Nat) < (18446744073709551616 : Nat),
      (0 : Nat) < (0 : Nat) + n, (0 : Nat) ≤ (0 : Nat),
      ((0 : Nat) + n) * (16 : Nat) ≤ (140737488355328 : Nat) ∧ (0 : Nat) + n ≤ (9223372036854775807 : Nat),
      n * (2 : Nat) ≤ List.length xs, all1 (List.take (n * (2 : Nat)) xs) = true,
      capBig + (4 : Nat) = capBig + (4 : Nat),
      ((0 : Nat) + n) * (2 : Nat) ≤ List.length ([] ++ List.take (n * (2 : Nat)) xs), (0 : Nat) < (2 : Nat),
      ((0 : Nat) + n) * (2 : Nat) ≤ List.length ([] ++ List.take (n * (2 : Nat)) xs),
      Fl (List.take (((0 : Nat) + n) * (2 : Nat)) ([] ++ List.take (n * (2 : Nat)) xs)),
      Ints IntKind.i64 (List.take (((0 : Nat) + n) * (2 : Nat)) ([] ++ List.take (n * (2 : Nat)) xs)),
      decide
          (avLen
              (Av.sl (List.take (((0 : Nat) + n) * (2 : Nat)) ([] ++ List.take (n * (2 : Nat)) xs)) ((0 : Nat) + n)) =
            (0 : Nat)) =
        false,
      decide
          (avLen
              (Av.sl (List.take (((0 : Nat) + n) * (2 : Nat)) ([] ++ List.take (n * (2 : Nat)) xs)) ((0 : Nat) + n)) ≤
            (128 : Nat)) =
        true,
      wrOk (List.take (((0 : Nat) + n) * (2 : Nat)) ([] ++ List.take (n * (2 : Nat)) xs)) (0 : Nat)
          (avLen
            (Av.sl (List.take (((0 : Nat) + n) * (2 : Nat)) ([] ++ List.take (n * (2 : Nat)) xs)) ((0 : Nat) + n))) =
        true,
      n ≤ c ∧ c ≤ (9223372036854775807 : Nat), n * (2 : Nat) ≤ List.length xs, Fl (List.take (n * (2 : Nat)) xs),
      Ints IntKind.i64 (List.take (n * (2 : Nat)) xs),
      decide (avLen (Av.sl (List.take (n * (2 : Nat)) xs) n) = (0 : Nat)) = false,
      decide (avLen (Av.sl (List.take (n * (2 : Nat)) xs) n) ≤ (128 : Nat)) = true,
      wrOk (List.take (n * (2 : Nat)) xs) (0 : Nat) (avLen (Av.sl (List.take (n * (2 : Nat)) xs) n)) = true,
      avLen (Av.sl (List.take m ys) m) ≤ avLen (Av.sl (List.take m ys) m) + (3 : Nat) ∧
        avLen (Av.sl (List.take m ys) m) + (3 : Nat) ≤ (9223372036854775807 : Nat),
      avLen (Av.sl (List.take m ys) m) ≤
        List.length
          (List.take m ys ++
            [Value.int IntKind.u8
                (↑(((160 : Nat) + avLen (Av.sl (List.take m ys) m) % (90 : Nat)) % (256 : Nat)) : Int),
              Value.int IntKind.u8
                (↑(((160 : Nat) + (avLen (Av.sl (List.take m ys) m) + (1 : Nat)) % (90 : Nat)) % (256 : Nat)) : Int),
              Value.int IntKind.u8
                (↑(((160 : Nat) + (avLen (Av.sl (List.take m ys) m) + (1 : Nat) + (1 : Nat)) % (90 : Nat)) %
                      (256 : Nat)) :
                  Int)]),
      Fl
        (List.take (avLen (Av.sl (List.take m ys) m))
          (List.take m ys ++
            [Value.int IntKind.u8
                (↑(((160 : Nat) + avLen (Av.sl (List.take m ys) m) % (90 : Nat)) % (256 : Nat)) : Int),
              Value.int IntKind.u8
                (↑(((160 : Nat) + (avLen (Av.sl (List.take m ys) m) + (1 : Nat)) % (90 : Nat)) % (256 : Nat)) : Int),
              Value.int IntKind.u8
                (↑(((160 : Nat) + (avLen (Av.sl (List.take m ys) m) + (1 : Nat) + (1 : Nat)) % (90 : Nat)) %
                      (256 : Nat)) :
                  Int)])),
      Byts
        (List.take (avLen (Av.sl (List.take m ys) m))
          (List.take m ys ++
            [Value.int IntKind.u8
                (↑(((160 : Nat) + avLen (Av.sl (List.take m ys) m) % (90 : Nat)) % (256 : Nat)) : Int),
              Value.int IntKind.u8
                (↑(((160 : Nat) + (avLen (Av.sl (List.take m ys) m) + (1 : Nat)) % (90 : Nat)) % (256 : Nat)) : Int),
              Value.int IntKind.u8
                (↑(((160 : Nat) + (avLen (Av.sl (List.take m ys) m) + (1 : Nat) + (1 : Nat)) % (90 : Nat)) %
                      (256 : Nat)) :
                  Int)])),
      decide
          (avLen
                (Av.sl
                  (List.take (avLen (Av.sl (List.take m ys) m))
                    (List.take m ys ++
                      [Value.int IntKind.u8
                          (↑(((160 : Nat) + avLen (Av.sl (List.take m ys) m) % (90 : Nat)) % (256 : Nat)) : Int),
                        Value.int IntKind.u8
                          (↑(((160 : Nat) + (avLen (Av.sl (List.take m ys) m) + (1 : Nat)) % (90 : Nat)) %
                                (256 : Nat)) :
                            Int),
                        Value.int IntKind.u8
                          (↑(((160 : Nat) + (avLen (Av.sl (List.take m ys) m) + (1 : Nat) + (1 : Nat)) % (90 : Nat)) %
                                (256 : Nat)) :
                            Int)]))
                  (avLen (Av.sl (List.take m ys) m))) %
              (8 : Nat) =
            (0 : Nat)) =
        false,
      m ≤ d ∧ d ≤ (9223372036854775807 : Nat), m ≤ List.length ys, Fl (List.take m ys), Byts (List.take m ys),
      decide (avLen (Av.sl (List.take m ys) m) % (8 : Nat) = (0 : Nat)) = false,
      capBig + (5 : Nat) = capBig + (5 : Nat),
      avLen (Av.sl (List.take (((0 : Nat) + n) * (2 : Nat)) ([] ++ List.take (n * (2 : Nat)) xs)) ((0 : Nat) + n)) *
          (8 : Nat) ≤
        List.length
          (wrL (List.take (((0 : Nat) + n) * (2 : Nat)) ([] ++ List.take (n * (2 : Nat)) xs)) (0 : Nat)
            (avLen
              (Av.sl (List.take (((0 : Nat) + n) * (2 : Nat)) ([] ++ List.take (n * (2 : Nat)) xs)) ((0 : Nat) + n)))),
      (0 : Nat) < (1 : Nat),
      avLen (Av.sl (List.take (((0 : Nat) + n) * (2 : Nat)) ([] ++ List.take (n * (2 : Nat)) xs)) ((0 : Nat) + n)) *
          (8 : Nat) ≤
        List.length
          (wrL (List.take (((0 : Nat) + n) * (2 : Nat)) ([] ++ List.take (n * (2 : Nat)) xs)) (0 : Nat)
            (avLen
              (Av.sl (List.take (((0 : Nat) + n) * (2 : Nat)) ([] ++ List.take (n * (2 : Nat)) xs)) ((0 : Nat) + n)))),
      Fl
        (List.take
          (avLen
              (Av.sl (List.take (((0 : Nat) + n) * (2 : Nat)) ([] ++ List.take (n * (2 : Nat)) xs)) ((0 : Nat) + n)) *
            (8 : Nat))
          (wrL (List.take (((0 : Nat) + n) * (2 : Nat)) ([] ++ List.take (n * (2 : Nat)) xs)) (0 : Nat)
            (avLen
              (Av.sl (List.take (((0 : Nat) + n) * (2 : Nat)) ([] ++ List.take (n * (2 : Nat)) xs)) ((0 : Nat) + n))))),
      capBig + (6 : Nat) = capBig + (6 : Nat),
      avLen (Av.sl (List.take (n * (2 : Nat)) xs) n) * (8 : Nat) ≤
        List.length (wrL (List.take (n * (2 : Nat)) xs) (0 : Nat) (avLen (Av.sl (List.take (n * (2 : Nat)) xs) n))),
      (0 : Nat) < (1 : Nat),
      avLen (Av.sl (List.take (n * (2 : Nat)) xs) n) * (8 : Nat) ≤
        List.length (wrL (List.take (n * (2 : Nat)) xs) (0 : Nat) (avLen (Av.sl (List.take (n * (2 : Nat)) xs) n))),
      Fl
        (List.take (avLen (Av.sl (List.take (n * (2 : Nat)) xs) n) * (8 : Nat))
          (wrL (List.take (n * (2 : Nat)) xs) (0 : Nat) (avLen (Av.sl (List.take (n * (2 : Nat)) xs) n)))),
      Byts
        (List.take
          (avLen
              (Av.sl (List.take (((0 : Nat) + n) * (2 : Nat)) ([] ++ List.take (n * (2 : Nat)) xs)) ((0 : Nat) + n)) *
            (8 : Nat))
          (wrL (List.take (((0 : Nat) + n) * (2 : Nat)) ([] ++ List.take (n * (2 : Nat)) xs)) (0 : Nat)
            (avLen
              (Av.sl (List.take (((0 : Nat) + n) * (2 : Nat)) ([] ++ List.take (n * (2 : Nat)) xs)) ((0 : Nat) + n))))),
      Byts
        (List.take (avLen (Av.sl (List.take (n * (2 : Nat)) xs) n) * (8 : Nat))
          (wrL (List.take (n * (2 : Nat)) xs) (0 : Nat) (avLen (Av.sl (List.take (n * (2 : Nat)) xs) n)))),
      decide
          (intsOf
              (List.take
                (avLen
                    (Av.sl (List.take (((0 : Nat) + n) * (2 : Nat)) ([] ++ List.take (n * (2 : Nat)) xs))
                      ((0 : Nat) + n)) *
                  (8 : Nat))
                (wrL (List.take (((0 : Nat) + n) * (2 : Nat)) ([] ++ List.take (n * (2 : Nat)) xs)) (0 : Nat)
                  (avLen
                    (Av.sl (List.take (((0 : Nat) + n) * (2 : Nat)) ([] ++ List.take (n * (2 : Nat)) xs))
                      ((0 : Nat) + n))))) =
            intsOf
              (List.take (avLen (Av.sl (List.take (n * (2 : Nat)) xs) n) * (8 : Nat))
                (wrL (List.take (n * (2 : Nat)) xs) (0 : Nat) (avLen (Av.sl (List.take (n * (2 : Nat)) xs) n))))) =
        true,
      Ints IntKind.i64 [], ([] : List Value) = [], (0 : Nat) = (0 : Nat), (0 : Nat) = (0 : Nat),
      capBig + (5 : Nat) = capBig + (5 : Nat),
      avLen (Av.sl (List.take (((0 : Nat) + n) * (2 : Nat)) ([] ++ List.take (n * (2 : Nat)) xs)) ((0 : Nat) + n)) *
          (8 : Nat) ≤
        List.length
          (wrL (List.take (((0 : Nat) + n) * (2 : Nat)) ([] ++ List.take (n * (2 : Nat)) xs)) (0 : Nat)
            (avLen
              (Av.sl (List.take (((0 : Nat) + n) * (2 : Nat)) ([] ++ List.take (n * (2 : Nat)) xs)) ((0 : Nat) + n)))),
      Byts
        (wrL (List.take (((0 : Nat) + n) * (2 : Nat)) ([] ++ List.take (n * (2 : Nat)) xs)) (0 : Nat)
          (avLen
            (Av.sl (List.take (((0 : Nat) + n) * (2 : Nat)) ([] ++ List.take (n * (2 : Nat)) xs)) ((0 : Nat) + n)))),
      avLen (Av.sl (List.take m ys) m) + (3 : Nat) ≤ (9223372036854775807 : Nat),
      avLen (Av.sl (List.take m ys) m) + (3 : Nat) ≤
        List.length
          (List.take m ys ++
            [Value.int IntKind.u8
                (↑(((160 : Nat) + avLen (Av.sl (List.take m ys) m) % (90 : Nat)) % (256 : Nat)) : Int),
              Value.int IntKind.u8
                (↑(((160 : Nat) + (avLen (Av.sl (List.take m ys) m) + (1 : Nat)) % (90 : Nat)) % (256 : Nat)) : Int),
              Value.int IntKind.u8
                (↑(((160 : Nat) + (avLen (Av.sl (List.take m ys) m) + (1 : Nat) + (1 : Nat)) % (90 : Nat)) %
                      (256 : Nat)) :
                  Int)]),
      Fl
        (List.take (avLen (Av.sl (List.take m ys) m) + (3 : Nat))
          (List.take m ys ++
            [Value.int IntKind.u8
                (↑(((160 : Nat) + avLen (Av.sl (List.take m ys) m) % (90 : Nat)) % (256 : Nat)) : Int),
              Value.int IntKind.u8
                (↑(((160 : Nat) + (avLen (Av.sl (List.take m ys) m) + (1 : Nat)) % (90 : Nat)) % (256 : Nat)) : Int),
              Value.int IntKind.u8
                (↑(((160 : Nat) + (avLen (Av.sl (List.take m ys) m) + (1 : Nat) + (1 : Nat)) % (90 : Nat)) %
                      (256 : Nat)) :
                  Int)])),
      m ≤ d ∧ d ≤ (9223372036854775807 : Nat), m ≤ List.length ys, Fl (List.take m ys),
      Byts
        (List.take (avLen (Av.sl (List.take m ys) m) + (3 : Nat))
          (List.take m ys ++
            [Value.int IntKind.u8
                (↑(((160 : Nat) + avLen (Av.sl (List.take m ys) m) % (90 : Nat)) % (256 : Nat)) : Int),
              Value.int IntKind.u8
                (↑(((160 : Nat) + (avLen (Av.sl (List.take m ys) m) + (1 : Nat)) % (90 : Nat)) % (256 : Nat)) : Int),
              Value.int IntKind.u8
                (↑(((160 : Nat) + (avLen (Av.sl (List.take m ys) m) + (1 : Nat) + (1 : Nat)) % (90 : Nat)) %
                      (256 : Nat)) :
                  Int)])),
      Byts (List.take m ys), avLen (Av.sl (List.take m ys) m) = avLen (Av.sl (List.take m ys) m),
      avLen (Av.sl (List.take m ys) m) + (3 : Nat) = avLen (Av.sl (List.take m ys) m) + (3 : Nat),
      avLen (Av.sl (List.take m ys) m) ≤ (1099511627776 : Nat),
      decide
          (intsOf
              (List.take (avLen (Av.sl (List.take m ys) m) + (3 : Nat))
                (List.take m ys ++
                  [Value.int IntKind.u8
                      (↑(((160 : Nat) + avLen (Av.sl (List.take m ys) m) % (90 : Nat)) % (256 : Nat)) : Int),
                    Value.int IntKind.u8
                      (↑(((160 : Nat) + (avLen (Av.sl (List.take m ys) m) + (1 : Nat)) % (90 : Nat)) % (256 : Nat)) :
                        Int),
                    Value.int IntKind.u8
                      (↑(((160 : Nat) + (avLen (Av.sl (List.take m ys) m) + (1 : Nat) + (1 : Nat)) % (90 : Nat)) %
                            (256 : Nat)) :
                        Int)])) =
            intsOf
              (List.take m ys ++
                [Value.int IntKind.u8
                    (↑(((160 : Nat) + avLen (Av.sl (List.take m ys) m) % (90 : Nat)) % (256 : Nat)) : Int),
                  Value.int IntKind.u8
                    (↑(((160 : Nat) + (avLen (Av.sl (List.take m ys) m) + (1 : Nat)) % (90 : Nat)) % (256 : Nat)) :
                      Int),
                  Value.int IntKind.u8
                    (↑(((160 : Nat) + (avLen (Av.sl (List.take m ys) m) + (1 : Nat) + (1 : Nat)) % (90 : Nat)) %
                          (256 : Nat)) :
                      Int)])) =
        true]) := by kernel_rfl
theorem cb_long_nil (xs ys : List Value) (n c m d : Nat) : runZ (cbV 2) Try.prog 5 7 [cbA n c, cbB m d] [(0, ⟨.old, xs⟩), (1, ⟨.old, ys⟩)] 2 ([false, false] ++ [true] ++ [true] ++ [false, true] ++ [false, true] ++ [true, true]) =
Res.ok
  ((Value.bool true, [((0 : Nat), Rw.mk Kd.old xs), ((1 : Nat), Rw.mk Kd.old ys)], (5 : Nat), []), [],
    [decide ((↑n : Int) > (200 : Int)) = false, decide ((↑m : Int) > (2000 : Int)) = false,
      m ≤ d ∧ d ≤ (9223372036854775807 : Nat), m ≤ List.length ys, Fl (List.take m ys), Byts (List.take m ys),
      avLen (Av.sl (List.take m ys) m) ≤ (1099511627776 : Nat), (0 : Nat) < (18446744073709551616 : Nat),
      (0 : Nat) < (0 : Nat) + n, (0 : Nat) ≤ (0 : Nat),
      ((0 : Nat) + n) * (16 : Nat) ≤ (140737488355328 : Nat) ∧ (0 : Nat) + n ≤ (9223372036854775807 : Nat),
      n * (2 : Nat) ≤ List.length xs, all1 (List.take (n * (2 : Nat)) xs) = true,
      capBig + (4 : Nat) = capBig + (4 : Nat),
      ((0 : Nat) + n) * (2 : Nat) ≤ List.length ([] ++ List.take (n * (2 : Nat)) xs), (0 : Nat) < (2 : Nat),
      ((0 : Nat) + n) * (2 : Nat) ≤ List.length ([] ++ List.take (n * (2 : Nat)) xs),
      Fl (List.take (((0 : Nat) + n) * (2 : Nat)) ([] ++ List.take (n * (2 : Nat)) xs)),
      Ints IntKind.i64 (List.take (((0 : Nat) + n) * (2 : Nat)) ([] ++ List.take (n * (2 : Nat)) xs)),
      decide
          (avLen
              (Av.sl (List.take (((0 : Nat) + n) * (2 : Nat)) ([] ++ List.take (n * (2 : Nat)) xs)) ((0 : Nat) + n)) ≤
            (128 : Nat)) =
        false,
      n ≤ c ∧ c ≤ (9223372036854775807 : Nat), n * (2 : Nat) ≤ List.length xs, Fl (List.take (n * (2 : Nat)) xs),
      Ints IntKind.i64 (List.take (n * (2 : Nat)) xs),
      decide (avLen (Av.sl (List.take (n * (2 : Nat)) xs) n) ≤ (128 : Nat)) = false,
      avLen (Av.sl (List.take m ys) m) ≤ avLen (Av.sl (List.take m ys) m) + (3 : Nat) ∧
        avLen (Av.sl (List.take m ys) m) + (3 : Nat) ≤ (9223372036854775807 : Nat),
      avLen (Av.sl (List.take m ys) m) ≤
        List.length
          (List.take m ys ++
            [Value.int IntKind.u8
                (↑(((160 : Nat) + avLen (Av.sl (List.take m ys) m) % (90 : Nat)) % (256 : Nat)) : Int),
              Value.int IntKind.u8
                (↑(((160 : Nat) + (avLen (Av.sl (List.take m ys) m) + (1 : Nat)) % (90 : Nat)) % (256 : Nat)) : Int),
              Value.int IntKind.u8
                (↑(((160 : Nat) + (avLen (Av.sl (List.take m ys) m) + (1 : Nat) + (1 : Nat)) % (90 : Nat)) %
                      (256 : Nat)) :
                  Int)]),
      Fl
        (List.take (avLen (Av.sl (List.take m ys) m))
          (List.take m ys ++
            [Value.int IntKind.u8
                (↑(((160 : Nat) + avLen (Av.sl (List.take m ys) m) % (90 : Nat)) % (256 : Nat)) : Int),
              Value.int IntKind.u8
                (↑(((160 : Nat) + (avLen (Av.sl (List.take m ys) m) + (1 : Nat)) % (90 : Nat)) % (256 : Nat)) : Int),
              Value.int IntKind.u8
                (↑(((160 : Nat) + (avLen (Av.sl (List.take m ys) m) + (1 : Nat) + (1 : Nat)) % (90 : Nat)) %
                      (256 : Nat)) :
                  Int)])),
      Byts
        (List.take (avLen (Av.sl (List.take m ys) m))
          (List.take m ys ++
            [Value.int IntKind.u8
                (↑(((160 : Nat) + avLen (Av.sl (List.take m ys) m) % (90 : Nat)) % (256 : Nat)) : Int),
              Value.int IntKind.u8
                (↑(((160 : Nat) + (avLen (Av.sl (List.take m ys) m) + (1 : Nat)) % (90 : Nat)) % (256 : Nat)) : Int),
              Value.int IntKind.u8
                (↑(((160 : Nat) + (avLen (Av.sl (List.take m ys) m) + (1 : Nat) + (1 : Nat)) % (90 : Nat)) %
                      (256 : Nat)) :
                  Int)])),
      avLen
          (Av.sl
            (List.take (avLen (Av.sl (List.take m ys) m))
              (List.take m ys ++
                [Value.int IntKind.u8
                    (↑(((160 : Nat) + avLen (Av.sl (List.take m ys) m) % (90 : Nat)) % (256 : Nat)) : Int),
                  Value.int IntKind.u8
                    (↑(((160 : Nat) + (avLen (Av.sl (List.take m ys) m) + (1 : Nat)) % (90 : Nat)) % (256 : Nat)) :
                      Int),
                  Value.int IntKind.u8
                    (↑(((160 : Nat) + (avLen (Av.sl (List.take m ys) m) + (1 : Nat) + (1 : Nat)) % (90 : Nat)) %
                          (256 : Nat)) :
                      Int)]))
            (avLen (Av.sl (List.take m ys) m))) =
        (0 : Nat),
      m ≤ d ∧ d ≤ (9223372036854775807 : Nat), m ≤ List.length ys, Fl (List.take m ys), Byts (List.take m ys),
      avLen (Av.sl (List.take m ys) m) = (0 : Nat), Byts [], Byts [], true = true, Ints IntKind.i64 [], ([] : List Value) = [],
      (0 : Nat) = (0 : Nat), avLen (Av.sl (List.take m ys) m) + (3 : Nat) ≤ (9223372036854775807 : Nat),
      avLen (Av.sl (List.take m ys) m) + (3 : Nat) ≤
        List.length
          (List.take m ys ++
            [Value.int IntKind.u8
                (↑(((160 : Nat) + avLen (Av.sl (List.take m ys) m) % (90 : Nat)) % (256 : Nat)) : Int),
              Value.int IntKind.u8
                (↑(((160 : Nat) + (avLen (Av.sl (List.take m ys) m) + (1 : Nat)) % (90 : Nat)) % (256 : Nat)) : Int),
              Value.int IntKind.u8
                (↑(((160 : Nat) + (avLen (Av.sl (List.take m ys) m) + (1 : Nat) + (1 : Nat)) % (90 : Nat)) %
                      (256 : Nat)) :
                  Int)]),
      Fl
        (List.take (avLen (Av.sl (List.take m ys) m) + (3 : Nat))
          (List.take m ys ++
            [Value.int IntKind.u8
                (↑(((160 : Nat) + avLen (Av.sl (List.take m ys) m) % (90 : Nat)) % (256 : Nat)) : Int),
              Value.int IntKind.u8
                (↑(((160 : Nat) + (avLen (Av.sl (List.take m ys) m) + (1 : Nat)) % (90 : Nat)) % (256 : Nat)) : Int),
              Value.int IntKind.u8
                (↑(((160 : Nat) + (avLen (Av.sl (List.take m ys) m) + (1 : Nat) + (1 : Nat)) % (90 : Nat)) %
                      (256 : Nat)) :
                  Int)])),
      m ≤ d ∧ d ≤ (9223372036854775807 : Nat), m ≤ List.length ys, Fl (List.take m ys),
      Byts
        (List.take (avLen (Av.sl (List.take m ys) m) + (3 : Nat))
          (List.take m ys ++
            [Value.int IntKind.u8
                (↑(((160 : Nat) + avLen (Av.sl (List.take m ys) m) % (90 : Nat)) % (256 : Nat)) : Int),
              Value.int IntKind.u8
                (↑(((160 : Nat) + (avLen (Av.sl (List.take m ys) m) + (1 : Nat)) % (90 : Nat)) % (256 : Nat)) : Int),
              Value.int IntKind.u8
                (↑(((160 : Nat) + (avLen (Av.sl (List.take m ys) m) + (1 : Nat) + (1 : Nat)) % (90 : Nat)) %
                      (256 : Nat)) :
                  Int)])),
      Byts (List.take m ys), avLen (Av.sl (List.take m ys) m) = avLen (Av.sl (List.take m ys) m),
      avLen (Av.sl (List.take m ys) m) + (3 : Nat) = avLen (Av.sl (List.take m ys) m) + (3 : Nat),
      avLen (Av.sl (List.take m ys) m) ≤ (1099511627776 : Nat),
      decide
          (intsOf
              (List.take (avLen (Av.sl (List.take m ys) m) + (3 : Nat))
                (List.take m ys ++
                  [Value.int IntKind.u8
                      (↑(((160 : Nat) + avLen (Av.sl (List.take m ys) m) % (90 : Nat)) % (256 : Nat)) : Int),
                    Value.int IntKind.u8
                      (↑(((160 : Nat) + (avLen (Av.sl (List.take m ys) m) + (1 : Nat)) % (90 : Nat)) % (256 : Nat)) :
                        Int),
                    Value.int IntKind.u8
                      (↑(((160 : Nat) + (avLen (Av.sl (List.take m ys) m) + (1 : Nat) + (1 : Nat)) % (90 : Nat)) %
                            (256 : Nat)) :
                        Int)])) =
            intsOf
              (List.take m ys ++
                [Value.int IntKind.u8
                    (↑(((160 : Nat) + avLen (Av.sl (List.take m ys) m) % (90 : Nat)) % (256 : Nat)) : Int),
                  Value.int IntKind.u8
                    (↑(((160 : Nat) + (avLen (Av.sl (List.take m ys) m) + (1 : Nat)) % (90 : Nat)) % (256 : Nat)) :
                      Int),
                  Value.int IntKind.u8
                    (↑(((160 : Nat) + (avLen (Av.sl (List.take m ys) m) + (1 : Nat) + (1 : Nat)) % (90 : Nat)) %
                          (256 : Nat)) :
                      Int)])) =
        true]) := by kernel_rfl
theorem cb_not_nil (xs ys : List Value) (n c m d : Nat) : runZ (cbV 2) Try.prog 5 7 [cbA n c, cbB m d] [(0, ⟨.old, xs⟩), (1, ⟨.old, ys⟩)] 2 ([false, false] ++ [false, false, false] ++ [false, false, false] ++ [false, true] ++ [false, true] ++ [true, true]) =
Res.ok
  ((Value.bool true, [((0 : Nat), Rw.mk Kd.old xs), ((1 : Nat), Rw.mk Kd.old ys)], (5 : Nat), []), [],
    [decide ((↑n : Int) > (200 : Int)) = false, decide ((↑m : Int) > (2000 : Int)) = false,
      m ≤ d ∧ d ≤ (9223372036854775807 : Nat), m ≤ List.length ys, Fl (List.take m ys), Byts (List.take m ys),
      avLen (Av.sl (List.take m ys) m) ≤ (1099511627776 : Nat), (0 : Nat) < (18446744073709551616 : Nat),
      (0 : Nat) < (0 : Nat) + n, (0 : Nat) ≤ (0 : Nat),
      ((0 : Nat) + n) * (16 : Nat) ≤ (140737488355328 : Nat) ∧ (0 : Nat) + n ≤ (9223372036854775807 : Nat),
      n * (2 : Nat) ≤ List.length xs, all1 (List.take (n * (2 : Nat)) xs) = true,
      capBig + (4 : Nat) = capBig + (4 : Nat),
      ((0 : Nat) + n) * (2 : Nat) ≤ List.length ([] ++ List.take (n * (2 : Nat)) xs), (0 : Nat) < (2 : Nat),
      ((0 : Nat) + n) * (2 : Nat) ≤ List.length ([] ++ List.take (n * (2 : Nat)) xs),
      Fl (List.take (((0 : Nat) + n) * (2 : Nat)) ([] ++ List.take (n * (2 : Nat)) xs)),
      Ints IntKind.i64 (List.take (((0 : Nat) + n) * (2 : Nat)) ([] ++ List.take (n * (2 : Nat)) xs)),
      decide
          (avLen
              (Av.sl (List.take (((0 : Nat) + n) * (2 : Nat)) ([] ++ List.take (n * (2 : Nat)) xs)) ((0 : Nat) + n)) =
            (0 : Nat)) =
        false,
      decide
          (avLen
              (Av.sl (List.take (((0 : Nat) + n) * (2 : Nat)) ([] ++ List.take (n * (2 : Nat)) xs)) ((0 : Nat) + n)) ≤
            (128 : Nat)) =
        true,
      wrOk (List.take (((0 : Nat) + n) * (2 : Nat)) ([] ++ List.take (n * (2 : Nat)) xs)) (0 : Nat)
          (avLen
            (Av.sl (List.take (((0 : Nat) + n) * (2 : Nat)) ([] ++ List.take (n * (2 : Nat)) xs)) ((0 : Nat) + n))) =
        false,
      n ≤ c ∧ c ≤ (9223372036854775807 : Nat), n * (2 : Nat) ≤ List.length xs, Fl (List.take (n * (2 : Nat)) xs),
      Ints IntKind.i64 (List.take (n * (2 : Nat)) xs),
      decide (avLen (Av.sl (List.take (n * (2 : Nat)) xs) n) = (0 : Nat)) = false,
      decide (avLen (Av.sl (List.take (n * (2 : Nat)) xs) n) ≤ (128 : Nat)) = true,
      wrOk (List.take (n * (2 : Nat)) xs) (0 : Nat) (avLen (Av.sl (List.take (n * (2 : Nat)) xs) n)) = false,
      avLen (Av.sl (List.take m ys) m) ≤ avLen (Av.sl (List.take m ys) m) + (3 : Nat) ∧
        avLen (Av.sl (List.take m ys) m) + (3 : Nat) ≤ (9223372036854775807 : Nat),
      avLen (Av.sl (List.take m ys) m) ≤
        List.length
          (List.take m ys ++
            [Value.int IntKind.u8
                (↑(((160 : Nat) + avLen (Av.sl (List.take m ys) m) % (90 : Nat)) % (256 : Nat)) : Int),
              Value.int IntKind.u8
                (↑(((160 : Nat) + (avLen (Av.sl (List.take m ys) m) + (1 : Nat)) % (90 : Nat)) % (256 : Nat)) : Int),
              Value.int IntKind.u8
                (↑(((160 : Nat) + (avLen (Av.sl (List.take m ys) m) + (1 : Nat) + (1 : Nat)) % (90 : Nat)) %
                      (256 : Nat)) :
                  Int)]),
      Fl
        (List.take (avLen (Av.sl (List.take m ys) m))
          (List.take m ys ++
            [Value.int IntKind.u8
                (↑(((160 : Nat) + avLen (Av.sl (List.take m ys) m) % (90 : Nat)) % (256 : Nat)) : Int),
              Value.int IntKind.u8
                (↑(((160 : Nat) + (avLen (Av.sl (List.take m ys) m) + (1 : Nat)) % (90 : Nat)) % (256 : Nat)) : Int),
              Value.int IntKind.u8
                (↑(((160 : Nat) + (avLen (Av.sl (List.take m ys) m) + (1 : Nat) + (1 : Nat)) % (90 : Nat)) %
                      (256 : Nat)) :
                  Int)])),
      Byts
        (List.take (avLen (Av.sl (List.take m ys) m))
          (List.take m ys ++
            [Value.int IntKind.u8
                (↑(((160 : Nat) + avLen (Av.sl (List.take m ys) m) % (90 : Nat)) % (256 : Nat)) : Int),
              Value.int IntKind.u8
                (↑(((160 : Nat) + (avLen (Av.sl (List.take m ys) m) + (1 : Nat)) % (90 : Nat)) % (256 : Nat)) : Int),
              Value.int IntKind.u8
                (↑(((160 : Nat) + (avLen (Av.sl (List.take m ys) m) + (1 : Nat) + (1 : Nat)) % (90 : Nat)) %
                      (256 : Nat)) :
                  Int)])),
      avLen
          (Av.sl
            (List.take (avLen (Av.sl (List.take m ys) m))
              (List.take m ys ++
                [Value.int IntKind.u8
                    (↑(((160 : Nat) + avLen (Av.sl (List.take m ys) m) % (90 : Nat)) % (256 : Nat)) : Int),
                  Value.int IntKind.u8
                    (↑(((160 : Nat) + (avLen (Av.sl (List.take m ys) m) + (1 : Nat)) % (90 : Nat)) % (256 : Nat)) :
                      Int),
                  Value.int IntKind.u8
                    (↑(((160 : Nat) + (avLen (Av.sl (List.take m ys) m) + (1 : Nat) + (1 : Nat)) % (90 : Nat)) %
                          (256 : Nat)) :
                      Int)]))
            (avLen (Av.sl (List.take m ys) m))) =
        (0 : Nat),
      m ≤ d ∧ d ≤ (9223372036854775807 : Nat), m ≤ List.length ys, Fl (List.take m ys), Byts (List.take m ys),
      avLen (Av.sl (List.take m ys) m) = (0 : Nat), Byts [], Byts [], true = true, Ints IntKind.i64 [], ([] : List Value) = [],
      (0 : Nat) = (0 : Nat), avLen (Av.sl (List.take m ys) m) + (3 : Nat) ≤ (9223372036854775807 : Nat),
      avLen (Av.sl (List.take m ys) m) + (3 : Nat) ≤
        List.length
          (List.take m ys ++
            [Value.int IntKind.u8
                (↑(((160 : Nat) + avLen (Av.sl (List.take m ys) m) % (90 : Nat)) % (256 : Nat)) : Int),
              Value.int IntKind.u8
                (↑(((160 : Nat) + (avLen (Av.sl (List.take m ys) m) + (1 : Nat)) % (90 : Nat)) % (256 : Nat)) : Int),
              Value.int IntKind.u8
                (↑(((160 : Nat) + (avLen (Av.sl (List.take m ys) m) + (1 : Nat) + (1 : Nat)) % (90 : Nat)) %
                      (256 : Nat)) :
                  Int)]),
      Fl
        (List.take (avLen (Av.sl (List.take m ys) m) + (3 : Nat))
          (List.take m ys ++
            [Value.int IntKind.u8
                (↑(((160 : Nat) + avLen (Av.sl (List.take m ys) m) % (90 : Nat)) % (256 : Nat)) : Int),
              Value.int IntKind.u8
                (↑(((160 : Nat) + (avLen (Av.sl (List.take m ys) m) + (1 : Nat)) % (90 : Nat)) % (256 : Nat)) : Int),
              Value.int IntKind.u8
                (↑(((160 : Nat) + (avLen (Av.sl (List.take m ys) m) + (1 : Nat) + (1 : Nat)) % (90 : Nat)) %
                      (256 : Nat)) :
                  Int)])),
      m ≤ d ∧ d ≤ (9223372036854775807 : Nat), m ≤ List.length ys, Fl (List.take m ys),
      Byts
        (List.take (avLen (Av.sl (List.take m ys) m) + (3 : Nat))
          (List.take m ys ++
            [Value.int IntKind.u8
                (↑(((160 : Nat) + avLen (Av.sl (List.take m ys) m) % (90 : Nat)) % (256 : Nat)) : Int),
              Value.int IntKind.u8
                (↑(((160 : Nat) + (avLen (Av.sl (List.take m ys) m) + (1 : Nat)) % (90 : Nat)) % (256 : Nat)) : Int),
              Value.int IntKind.u8
                (↑(((160 : Nat) + (avLen (Av.sl (List.take m ys) m) + (1 : Nat) + (1 : Nat)) % (90 : Nat)) %
                      (256 : Nat)) :
                  Int)])),
      Byts (List.take m ys), avLen (Av.sl (List.take m ys) m) = avLen (Av.sl (List.take m ys) m),
      avLen (Av.sl (List.take m ys) m) + (3 : Nat) = avLen (Av.sl (List.take m ys) m) + (3 : Nat),
      avLen (Av.sl (List.take m ys) m) ≤ (1099511627776 : Nat),
      decide
          (intsOf
              (List.take (avLen (Av.sl (List.take m ys) m) + (3 : Nat))
                (List.take m ys ++
                  [Value.int IntKind.u8
                      (↑(((160 : Nat) + avLen (Av.sl (List.take m ys) m) % (90 : Nat)) % (256 : Nat)) : Int),
                    Value.int IntKind.u8
                      (↑(((160 : Nat) + (avLen (Av.sl (List.take m ys) m) + (1 : Nat)) % (90 : Nat)) % (256 : Nat)) :
                        Int),
                    Value.int IntKind.u8
                      (↑(((160 : Nat) + (avLen (Av.sl (List.take m ys) m) + (1 : Nat) + (1 : Nat)) % (90 : Nat)) %
                            (256 : Nat)) :
                        Int)])) =
            intsOf
              (List.take m ys ++
                [Value.int IntKind.u8
                    (↑(((160 : Nat) + avLen (Av.sl (List.take m ys) m) % (90 : Nat)) % (256 : Nat)) : Int),
                  Value.int IntKind.u8
                    (↑(((160 : Nat) + (avLen (Av.sl (List.take m ys) m) + (1 : Nat)) % (90 : Nat)) % (256 : Nat)) :
                      Int),
                  Value.int IntKind.u8
                    (↑(((160 : Nat) + (avLen (Av.sl (List.take m ys) m) + (1 : Nat) + (1 : Nat)) % (90 : Nat)) %
                          (256 : Nat)) :
                      Int)])) =
        true]) := by kernel_rfl
theorem cb_ok_nil (xs ys : List Value) (n c m d : Nat) : runZ (cbV 2) Try.prog 5 7 [cbA n c, cbB m d] [(0, ⟨.old, xs⟩), (1, ⟨.old, ys⟩)] 2 ([false, false] ++ [false, false, true] ++ [false, false, true] ++ [false, true] ++ [false, true] ++ [true, true]) =
Res.ok
  ((Value.bool true, [((0 : Nat), Rw.mk Kd.old xs), ((1 : Nat), Rw.mk Kd.old ys)], (7 : Nat), []), [],
    [decide ((↑n : Int) > (200 : Int)) = false, decide ((↑m : Int) > (2000 : Int)) = false,
      m ≤ d ∧ d ≤ (9223372036854775807 : Nat), m ≤ List.length ys, Fl (List.take m ys), Byts (List.take m ys),
      avLen (Av.sl (List.take m ys) m) ≤ (1099511627776 : Nat), (0 : Nat) < (18446744073709551616 : Nat),
      (0 : Nat) < (0 : Nat) + n, (0 : Nat) ≤ (0 : Nat),
      ((0 : Nat) + n) * (16 : Nat) ≤ (140737488355328 : Nat) ∧ (0 : Nat) + n ≤ (9223372036854775807 : Nat),
      n * (2 : Nat) ≤ List.length xs, all1 (List.take (n * (2 : Nat)) xs) = true,
      capBig + (4 : Nat) = capBig + (4 : Nat),
      ((0 : Nat) + n) * (2 : Nat) ≤ List.length ([] ++ List.take (n * (2 : Nat)) xs), (0 : Nat) < (2 : Nat),
      ((0 : Nat) + n) * (2 : Nat) ≤ List.length ([] ++ List.take (n * (2 : Nat)) xs),
      Fl (List.take (((0 : Nat) + n) * (2 : Nat)) ([] ++ List.take (n * (2 : Nat)) xs)),
      Ints IntKind.i64 (List.take (((0 : Nat) + n) * (2 : Nat)) ([] ++ List.take (n * (2 : Nat)) xs)),
      decide
          (avLen
              (Av.sl (List.take (((0 : Nat) + n) * (2 : Nat)) ([] ++ List.take (n * (2 : Nat)) xs)) ((0 : Nat) + n)) =
            (0 : Nat)) =
        false,
      decide
          (avLen
              (Av.sl (List.take (((0 : Nat) + n) * (2 : Nat)) ([] ++ List.take (n * (2 : Nat)) xs)) ((0 : Nat) + n)) ≤
            (128 : Nat)) =
        true,
      wrOk (List.take (((0 : Nat) + n) * (2 : Nat)) ([] ++ List.take (n * (2 : Nat)) xs)) (0 : Nat)
          (avLen
            (Av.sl (List.take (((0 : Nat) + n) * (2 : Nat)) ([] ++ List.take (n * (2 : Nat)) xs)) ((0 : Nat) + n))) =
        true,
      n ≤ c ∧ c ≤ (9223372036854775807 : Nat), n * (2 : Nat) ≤ List.length xs, Fl (List.take (n * (2 : Nat)) xs),
      Ints IntKind.i64 (List.take (n * (2 : Nat)) xs),
      decide (avLen (Av.sl (List.take (n * (2 : Nat)) xs) n) = (0 : Nat)) = false,
      decide (avLen (Av.sl (List.take (n * (2 : Nat)) xs) n) ≤ (128 : Nat)) = true,
      wrOk (List.take (n * (2 : Nat)) xs) (0 : Nat) (avLen (Av.sl (List.take (n * (2 : Nat)) xs) n)) = true,
      avLen (Av.sl (List.take m ys) m) ≤ avLen (Av.sl (List.take m ys) m) + (3 : Nat) ∧
        avLen (Av.sl (List.take m ys) m) + (3 : Nat) ≤ (9223372036854775807 : Nat),
      avLen (Av.sl (List.take m ys) m) ≤
        List.length
          (List.take m ys ++
            [Value.int IntKind.u8
                (↑(((160 : Nat) + avLen (Av.sl (List.take m ys) m) % (90 : Nat)) % (256 : Nat)) : Int),
              Value.int IntKind.u8
                (↑(((160 : Nat) + (avLen (Av.sl (List.take m ys) m) + (1 : Nat)) % (90 : Nat)) % (256 : Nat)) : Int),
              Value.int IntKind.u8
                (↑(((160 : Nat) + (avLen (Av.sl (List.take m ys) m) + (1 : Nat) + (1 : Nat)) % (90 : Nat)) %
                      (256 : Nat)) :
                  Int)]),
      Fl
        (List.take (avLen (Av.sl (List.take m ys) m))
          (List.take m ys ++
            [Value.int IntKind.u8
                (↑(((160 : Nat) + avLen (Av.sl (List.take m ys) m) % (90 : Nat)) % (256 : Nat)) : Int),
              Value.int IntKind.u8
                (↑(((160 : Nat) + (avLen (Av.sl (List.take m ys) m) + (1 : Nat)) % (90 : Nat)) % (256 : Nat)) : Int),
              Value.int IntKind.u8
                (↑(((160 : Nat) + (avLen (Av.sl (List.take m ys) m) + (1 : Nat) + (1 : Nat)) % (90 : Nat)) %
                      (256 : Nat)) :
                  Int)])),
      Byts
        (List.take (avLen (Av.sl (List.take m ys) m))
          (List.take m ys ++
            [Value.int IntKind.u8
                (↑(((160 : Nat) + avLen (Av.sl (List.take m ys) m) % (90 : Nat)) % (256 : Nat)) : Int),
              Value.int IntKind.u8
                (↑(((160 : Nat) + (avLen (Av.sl (List.take m ys) m) + (1 : Nat)) % (90 : Nat)) % (256 : Nat)) : Int),
              Value.int IntKind.u8
                (↑(((160 : Nat) + (avLen (Av.sl (List.take m ys) m) + (1 : Nat) + (1 : Nat)) % (90 : Nat)) %
                      (256 : Nat)) :
                  Int)])),
      avLen
          (Av.sl
            (List.take (avLen (Av.sl (List.take m ys) m))
              (List.take m ys ++
                [Value.int IntKind.u8
                    (↑(((160 : Nat) + avLen (Av.sl (List.take m ys) m) % (90 : Nat)) % (256 : Nat)) : Int),
                  Value.int IntKind.u8
                    (↑(((160 : Nat) + (avLen (Av.sl (List.take m ys) m) + (1 : Nat)) % (90 : Nat)) % (256 : Nat)) :
                      Int),
                  Value.int IntKind.u8
                    (↑(((160 : Nat) + (avLen (Av.sl (List.take m ys) m) + (1 : Nat) + (1 : Nat)) % (90 : Nat)) %
                          (256 : Nat)) :
                      Int)]))
            (avLen (Av.sl (List.take m ys) m))) =
        (0 : Nat),
      m ≤ d ∧ d ≤ (9223372036854775807 : Nat), m ≤ List.length ys, Fl (List.take m ys), Byts (List.take m ys),
      avLen (Av.sl (List.take m ys) m) = (0 : Nat), capBig + (5 : Nat) = capBig + (5 : Nat),
      avLen (Av.sl (List.take (((0 : Nat) + n) * (2 : Nat)) ([] ++ List.take (n * (2 : Nat)) xs)) ((0 : Nat) + n)) *
          (8 : Nat) ≤
        List.length
          (wrL (List.take (((0 : Nat) + n) * (2 : Nat)) ([] ++ List.take (n * (2 : Nat)) xs)) (0 : Nat)
            (avLen
              (Av.sl (List.take (((0 : Nat) + n) * (2 : Nat)) ([] ++ List.take (n * (2 : Nat)) xs)) ((0 : Nat) + n)))),
      (0 : Nat) < (1 : Nat),
      avLen (Av.sl (List.take (((0 : Nat) + n) * (2 : Nat)) ([] ++ List.take (n * (2 : Nat)) xs)) ((0 : Nat) + n)) *
          (8 : Nat) ≤
        List.length
          (wrL (List.take (((0 : Nat) + n) * (2 : Nat)) ([] ++ List.take (n * (2 : Nat)) xs)) (0 : Nat)
            (avLen
              (Av.sl (List.take (((0 : Nat) + n) * (2 : Nat)) ([] ++ List.take (n * (2 : Nat)) xs)) ((0 : Nat) + n)))),
      Fl
        (List.take
          (avLen
              (Av.sl (List.take (((0 : Nat) + n) * (2 : Nat)) ([] ++ List.take (n * (2 : Nat)) xs)) ((0 : Nat) + n)) *
            (8 : Nat))
          (wrL (List.take (((0 : Nat) + n) * (2 : Nat)) ([] ++ List.take (n * (2 : Nat)) xs)) (0 : Nat)
            (avLen
              (Av.sl (List.take (((0 : Nat) + n) * (2 : Nat)) ([] ++ List.take (n * (2 : Nat)) xs)) ((0 : Nat) + n))))),
      capBig + (6 : Nat) = capBig + (6 : Nat),
      avLen (Av.sl (List.take (n * (2 : Nat)) xs) n) * (8 : Nat) ≤
        List.length (wrL (List.take (n * (2 : Nat)) xs) (0 : Nat) (avLen (Av.sl (List.take (n * (2 : Nat)) xs) n))),
      (0 : Nat) < (1 : Nat),
      avLen (Av.sl (List.take (n * (2 : Nat)) xs) n) * (8 : Nat) ≤
        List.length (wrL (List.take (n * (2 : Nat)) xs) (0 : Nat) (avLen (Av.sl (List.take (n * (2 : Nat)) xs) n))),
      Fl
        (List.take (avLen (Av.sl (List.take (n * (2 : Nat)) xs) n) * (8 : Nat))
          (wrL (List.take (n * (2 : Nat)) xs) (0 : Nat) (avLen (Av.sl (List.take (n * (2 : Nat)) xs) n)))),
      Byts
        (List.take
          (avLen
              (Av.sl (List.take (((0 : Nat) + n) * (2 : Nat)) ([] ++ List.take (n * (2 : Nat)) xs)) ((0 : Nat) + n)) *
            (8 : Nat))
          (wrL (List.take (((0 : Nat) + n) * (2 : Nat)) ([] ++ List.take (n * (2 : Nat)) xs)) (0 : Nat)
            (avLen
              (Av.sl (List.take (((0 : Nat) + n) * (2 : Nat)) ([] ++ List.take (n * (2 : Nat)) xs)) ((0 : Nat) + n))))),
      Byts
        (List.take (avLen (Av.sl (List.take (n * (2 : Nat)) xs) n) * (8 : Nat))
          (wrL (List.take (n * (2 : Nat)) xs) (0 : Nat) (avLen (Av.sl (List.take (n * (2 : Nat)) xs) n)))),
      decide
          (intsOf
              (List.take
                (avLen
                    (Av.sl (List.take (((0 : Nat) + n) * (2 : Nat)) ([] ++ List.take (n * (2 : Nat)) xs))
                      ((0 : Nat) + n)) *
                  (8 : Nat))
                (wrL (List.take (((0 : Nat) + n) * (2 : Nat)) ([] ++ List.take (n * (2 : Nat)) xs)) (0 : Nat)
                  (avLen
                    (Av.sl (List.take (((0 : Nat) + n) * (2 : Nat)) ([] ++ List.take (n * (2 : Nat)) xs))
                      ((0 : Nat) + n))))) =
            intsOf
              (List.take (avLen (Av.sl (List.take (n * (2 : Nat)) xs) n) * (8 : Nat))
                (wrL (List.take (n * (2 : Nat)) xs) (0 : Nat) (avLen (Av.sl (List.take (n * (2 : Nat)) xs) n))))) =
        true,
      Ints IntKind.i64 [], ([] : List Value) = [], (0 : Nat) = (0 : Nat), (0 : Nat) = (0 : Nat),
      capBig + (5 : Nat) = capBig + (5 : Nat),
      avLen (Av.sl (List.take (((0 : Nat) + n) * (2 : Nat)) ([] ++ List.take (n * (2 : Nat)) xs)) ((0 : Nat) + n)) *
          (8 : Nat) ≤
        List.length
          (wrL (List.take (((0 : Nat) + n) * (2 : Nat)) ([] ++ List.take (n * (2 : Nat)) xs)) (0 : Nat)
            (avLen
              (Av.sl (List.take (((0 : Nat) + n) * (2 : Nat)) ([] ++ List.take (n * (2 : Nat)) xs)) ((0 : Nat) + n)))),
      Byts
        (wrL (List.take (((0 : Nat) + n) * (2 : Nat)) ([] ++ List.take (n * (2 : Nat)) xs)) (0 : Nat)
          (avLen
            (Av.sl (List.take (((0 : Nat) + n) * (2 : Nat)) ([] ++ List.take (n * (2 : Nat)) xs)) ((0 : Nat) + n)))),
      avLen (Av.sl (List.take m ys) m) + (3 : Nat) ≤ (9223372036854775807 : Nat),
      avLen (Av.sl (List.take m ys) m) + (3 : Nat) ≤
        List.length
          (List.take m ys ++
            [Value.int IntKind.u8
                (↑(((160 : Nat) + avLen (Av.sl (List.take m ys) m) % (90 : Nat)) % (256 : Nat)) : Int),
              Value.int IntKind.u8
                (↑(((160 : Nat) + (avLen (Av.sl (List.take m ys) m) + (1 : Nat)) % (90 : Nat)) % (256 : Nat)) : Int),
              Value.int IntKind.u8
                (↑(((160 : Nat) + (avLen (Av.sl (List.take m ys) m) + (1 : Nat) + (1 : Nat)) % (90 : Nat)) %
                      (256 : Nat)) :
                  Int)]),
      Fl
        (List.take (avLen (Av.sl (List.take m ys) m) + (3 : Nat))
          (List.take m ys ++
            [Value.int IntKind.u8
                (↑(((160 : Nat) + avLen (Av.sl (List.take m ys) m) % (90 : Nat)) % (256 : Nat)) : Int),
              Value.int IntKind.u8
                (↑(((160 : Nat) + (avLen (Av.sl (List.take m ys) m) + (1 : Nat)) % (90 : Nat)) % (256 : Nat)) : Int),
              Value.int IntKind.u8
                (↑(((160 : Nat) + (avLen (Av.sl (List.take m ys) m) + (1 : Nat) + (1 : Nat)) % (90 : Nat)) %
                      (256 : Nat)) :
                  Int)])),
      m ≤ d ∧ d ≤ (9223372036854775807 : Nat), m ≤ List.length ys, Fl (List.take m ys),
      Byts
        (List.take (avLen (Av.sl (List.take m ys) m) + (3 : Nat))
          (List.take m ys ++
            [Value.int IntKind.u8
                (↑(((160 : Nat) + avLen (Av.sl (List.take m ys) m) % (90 : Nat)) % (256 : Nat)) : Int),
              Value.int IntKind.u8
                (↑(((160 : Nat) + (avLen (Av.sl (List.take m ys) m) + (1 : Nat)) % (90 : Nat)) % (256 : Nat)) : Int),
              Value.int IntKind.u8
                (↑(((160 : Nat) + (avLen (Av.sl (List.take m ys) m) + (1 : Nat) + (1 : Nat)) % (90 : Nat)) %
                      (256 : Nat)) :
                  Int)])),
      Byts (List.take m ys), avLen (Av.sl (List.take m ys) m) = avLen (Av.sl (List.take m ys) m),
      avLen (Av.sl (List.take m ys) m) + (3 : Nat) = avLen (Av.sl (List.take m ys) m) + (3 : Nat),
      avLen (Av.sl (List.take m ys) m) ≤ (1099511627776 : Nat),
      decide
          (intsOf
              (List.take (avLen (Av.sl (List.take m ys) m) + (3 : Nat))
                (List.take m ys ++
                  [Value.int IntKind.u8
                      (↑(((160 : Nat) + avLen (Av.sl (List.take m ys) m) % (90 : Nat)) % (256 : Nat)) : Int),
                    Value.int IntKind.u8
                      (↑(((160 : Nat) + (avLen (Av.sl (List.take m ys) m) + (1 : Nat)) % (90 : Nat)) % (256 : Nat)) :
                        Int),
                    Value.int IntKind.u8
                      (↑(((160 : Nat) + (avLen (Av.sl (List.take m ys) m) + (1 : Nat) + (1 : Nat)) % (90 : Nat)) %
                            (256 : Nat)) :
                        Int)])) =
            intsOf
              (List.take m ys ++
                [Value.int IntKind.u8
                    (↑(((160 : Nat) + avLen (Av.sl (List.take m ys) m) % (90 : Nat)) % (256 : Nat)) : Int),
                  Value.int IntKind.u8
                    (↑(((160 : Nat) + (avLen (Av.sl (List.take m ys) m) + (1 : Nat)) % (90 : Nat)) % (256 : Nat)) :
                      Int),
                  Value.int IntKind.u8
                    (↑(((160 : Nat) + (avLen (Av.sl (List.take m ys) m) + (1 : Nat) + (1 : Nat)) % (90 : Nat)) %
                          (256 : Nat)) :
                      Int)])) =
        true]) := by kernel_rfl
theorem cb_long_not (xs ys : List Value) (n c m d : Nat) : runZ (cbV 2) Try.prog 5 7 [cbA n c, cbB m d] [(0, ⟨.old, xs⟩), (1, ⟨.old, ys⟩)] 2 ([false, false] ++ [true] ++ [true] ++ [false, false, false] ++ [false, false, false] ++ [true, true]) =
Res.ok
  ((Value.bool true, [((0 : Nat), Rw.mk Kd.old xs), ((1 : Nat), Rw.mk Kd.old ys)], (5 : Nat), []), [],
    [decide ((↑n : Int) > (200 : Int)) = false, decide ((↑m : Int) > (2000 : Int)) = false,
      m ≤ d ∧ d ≤ (9223372036854775807 : Nat), m ≤ List.length ys, Fl (List.take m ys), Byts (List.take m ys),
      avLen (Av.sl (List.take m ys) m) ≤ (1099511627776 : Nat), (0 : Nat) < (18446744073709551616 : Nat),
      (0 : Nat) < (0 : Nat) + n, (0 : Nat) ≤ (0 : Nat),
      ((0 : Nat) + n) * (16 : Nat) ≤ (140737488355328 : Nat) ∧ (0 : Nat) + n ≤ (9223372036854775807 : Nat),
      n * (2 : Nat) ≤ List.length xs, all1 (List.take (n * (2 : Nat)) xs) = true,
      capBig + (4 : Nat) = capBig + (4 : Nat),
      ((0 : Nat) + n) * (2 : Nat) ≤ List.length ([] ++ List.take (n * (2 : Nat)) xs), (0 : Nat) < (2 : Nat),
      ((0 : Nat) + n) * (2 : Nat) ≤ List.length ([] ++ List.take (n * (2 : Nat)) xs),
      Fl (List.take (((0 : Nat) + n) * (2 : Nat)) ([] ++ List.take (n * (2 : Nat)) xs)),
      Ints IntKind.i64 (List.take (((0 : Nat) + n) * (2 : Nat)) ([] ++ List.take (n * (2 : Nat)) xs)),
      decide
          (avLen
              (Av.sl (List.take (((0 : Nat) + n) * (2 : Nat)) ([] ++ List.take (n * (2 : Nat)) xs)) ((0 : Nat) + n)) ≤
            (128 : Nat)) =
        false,
      n ≤ c ∧ c ≤ (9223372036854775807 : Nat), n * (2 : Nat) ≤ List.length xs, Fl (List.take (n * (2 : Nat)) xs),
      Ints IntKind.i64 (List.take (n * (2 : Nat)) xs),
      decide (avLen (Av.sl (List.take (n * (2 : Nat)) xs) n) ≤ (128 : Nat)) = false,
      avLen (Av.sl (List.take m ys) m) ≤ avLen (Av.sl (List.take m ys) m) + (3 : Nat) ∧
        avLen (Av.sl (List.take m ys) m) + (3 : Nat) ≤ (9223372036854775807 : Nat),
      avLen (Av.sl (List.take m ys) m) ≤
        List.length
          (List.take m ys ++
            [Value.int IntKind.u8
                (↑(((160 : Nat) + avLen (Av.sl (List.take m ys) m) % (90 : Nat)) % (256 : Nat)) : Int),
              Value.int IntKind.u8
                (↑(((160 : Nat) + (avLen (Av.sl (List.take m ys) m) + (1 : Nat)) % (90 : Nat)) % (256 : Nat)) : Int),
              Value.int IntKind.u8
                (↑(((160 : Nat) + (avLen (Av.sl (List.take m ys) m) + (1 : Nat) + (1 : Nat)) % (90 : Nat)) %
                      (256 : Nat)) :
                  Int)]),
      Fl
        (List.take (avLen (Av.sl (List.take m ys) m))
          (List.take m ys ++
            [Value.int IntKind.u8
                (↑(((160 : Nat) + avLen (Av.sl (List.take m ys) m) % (90 : Nat)) % (256 : Nat)) : Int),
              Value.int IntKind.u8
                (↑(((160 : Nat) + (avLen (Av.sl (List.take m ys) m) + (1 : Nat)) % (90 : Nat)) % (256 : Nat)) : Int),
              Value.int IntKind.u8
                (↑(((160 : Nat) + (avLen (Av.sl (List.take m ys) m) + (1 : Nat) + (1 : Nat)) % (90 : Nat)) %
                      (256 : Nat)) :
                  Int)])),
      Byts
        (List.take (avLen (Av.sl (List.take m ys) m))
          (List.take m ys ++
            [Value.int IntKind.u8
                (↑(((160 : Nat) + avLen (Av.sl (List.take m ys) m) % (90 : Nat)) % (256 : Nat)) : Int),
              Value.int IntKind.u8
                (↑(((160 : Nat) + (avLen (Av.sl (List.take m ys) m) + (1 : Nat)) % (90 : Nat)) % (256 : Nat)) : Int),
              Value.int IntKind.u8
                (↑(((160 : Nat) + (avLen (Av.sl (List.take m ys) m) + (1 : Nat) + (1 : Nat)) % (90 : Nat)) %
                      (256 : Nat)) :
                  Int)])),
      avLen
            (Av.sl
              (List.take (avLen (Av.sl (List.take m ys) m))
                (List.take m ys ++
                  [Value.int IntKind.u8
                      (↑(((160 : Nat) + avLen (Av.sl (List.take m ys) m) % (90 : Nat)) % (256 : Nat)) : Int),
                    Value.int IntKind.u8
                      (↑(((160 : Nat) + (avLen (Av.sl (List.take m ys) m) + (1 : Nat)) % (90 : Nat)) % (256 : Nat)) :
                        Int),
                    Value.int IntKind.u8
                      (↑(((160 : Nat) + (avLen (Av.sl (List.take m ys) m) + (1 : Nat) + (1 : Nat)) % (90 : Nat)) %
                            (256 : Nat)) :
                        Int)]))
              (avLen (Av.sl (List.take m ys) m))) %
          (8 : Nat) =
        (0 : Nat),
      decide
          (avLen
              (Av.sl
                (List.take (avLen (Av.sl (List.take m ys) m))
                  (List.take m ys ++
                    [Value.int IntKind.u8
                        (↑(((160 : Nat) + avLen (Av.sl (List.take m ys) m) % (90 : Nat)) % (256 : Nat)) : Int),
                      Value.int IntKind.u8
                        (↑(((160 : Nat) + (avLen (Av.sl (List.take m ys) m) + (1 : Nat)) % (90 : Nat)) % (256 : Nat)) :
                          Int),
                      Value.int IntKind.u8
                        (↑(((160 : Nat) + (avLen (Av.sl (List.take m ys) m) + (1 : Nat) + (1 : Nat)) % (90 : Nat)) %
                              (256 : Nat)) :
                          Int)]))
                (avLen (Av.sl (List.take m ys) m))) =
            (0 : Nat)) =
        false,
      avLen
          (Av.sl
            (List.take (avLen (Av.sl (List.take m ys) m))
              (List.take m ys ++
                [Value.int IntKind.u8
                    (↑(((160 : Nat) + avLen (Av.sl (List.take m ys) m) % (90 : Nat)) % (256 : Nat)) : Int),
                  Value.int IntKind.u8
                    (↑(((160 : Nat) + (avLen (Av.sl (List.take m ys) m) + (1 : Nat)) % (90 : Nat)) % (256 : Nat)) :
                      Int),
                  Value.int IntKind.u8
                    (↑(((160 : Nat) + (avLen (Av.sl (List.take m ys) m) + (1 : Nat) + (1 : Nat)) % (90 : Nat)) %
                          (256 : Nat)) :
                      Int)]))
            (avLen (Av.sl (List.take m ys) m))) ≤
        (4096 : Nat),
      rdOk
          (List.take (avLen (Av.sl (List.take m ys) m))
            (List.take m ys ++
              [Value.int IntKind.u8
                  (↑(((160 : Nat) + avLen (Av.sl (List.take m ys) m) % (90 : Nat)) % (256 : Nat)) : Int),
                Value.int IntKind.u8
                  (↑(((160 : Nat) + (avLen (Av.sl (List.take m ys) m) + (1 : Nat)) % (90 : Nat)) % (256 : Nat)) : Int),
                Value.int IntKind.u8
                  (↑(((160 : Nat) + (avLen (Av.sl (List.take m ys) m) + (1 : Nat) + (1 : Nat)) % (90 : Nat)) %
                        (256 : Nat)) :
                    Int)]))
          (0 : Nat)
          (avLen
              (Av.sl
                (List.take (avLen (Av.sl (List.take m ys) m))
                  (List.take m ys ++
                    [Value.int IntKind.u8
                        (↑(((160 : Nat) + avLen (Av.sl (List.take m ys) m) % (90 : Nat)) % (256 : Nat)) : Int),
                      Value.int IntKind.u8
                        (↑(((160 : Nat) + (avLen (Av.sl (List.take m ys) m) + (1 : Nat)) % (90 : Nat)) % (256 : Nat)) :
                          Int),
                      Value.int IntKind.u8
                        (↑(((160 : Nat) + (avLen (Av.sl (List.take m ys) m) + (1 : Nat) + (1 : Nat)) % (90 : Nat)) %
                              (256 : Nat)) :
                          Int)]))
                (avLen (Av.sl (List.take m ys) m))) /
            (8 : Nat)) =
        false,
      m ≤ d ∧ d ≤ (9223372036854775807 : Nat), m ≤ List.length ys, Fl (List.take m ys), Byts (List.take m ys),
      avLen (Av.sl (List.take m ys) m) % (8 : Nat) = (0 : Nat),
      decide (avLen (Av.sl (List.take m ys) m) = (0 : Nat)) = false, avLen (Av.sl (List.take m ys) m) ≤ (4096 : Nat),
      rdOk (List.take m ys) (0 : Nat) (avLen (Av.sl (List.take m ys) m) / (8 : Nat)) = false, Byts [], Byts [],
      true = true, Ints IntKind.i64 [], ([] : List Value) = [], (0 : Nat) = (0 : Nat),
      avLen (Av.sl (List.take m ys) m) + (3 : Nat) ≤ (9223372036854775807 : Nat),
      avLen (Av.sl (List.take m ys) m) + (3 : Nat) ≤
        List.length
          (List.take m ys ++
            [Value.int IntKind.u8
                (↑(((160 : Nat) + avLen (Av.sl (List.take m ys) m) % (90 : Nat)) % (256 : Nat)) : Int),
              Value.int IntKind.u8
                (↑(((160 : Nat) + (avLen (Av.sl (List.take m ys) m) + (1 : Nat)) % (90 : Nat)) % (256 : Nat)) : Int),
              Value.int IntKind.u8
                (↑(((160 : Nat) + (avLen (Av.sl (List.take m ys) m) + (1 : Nat) + (1 : Nat)) % (90 : Nat)) %
                      (256 : Nat)) :
                  Int)]),
      Fl
        (List.take (avLen (Av.sl (List.take m ys) m) + (3 : Nat))
          (List.take m ys ++
            [Value.int IntKind.u8
                (↑(((160 : Nat) + avLen (Av.sl (List.take m ys) m) % (90 : Nat)) % (256 : Nat)) : Int),
              Value.int IntKind.u8
                (↑(((160 : Nat) + (avLen (Av.sl (List.take m ys) m) + (1 : Nat)) % (90 : Nat)) % (256 : Nat)) : Int),
              Value.int IntKind.u8
                (↑(((160 : Nat) + (avLen (Av.sl (List.take m ys) m) + (1 : Nat) + (1 : Nat)) % (90 : Nat)) %
                      (256 : Nat)) :
                  Int)])),
      m ≤ d ∧ d ≤ (9223372036854775807 : Nat), m ≤ List.length ys, Fl (List.take m ys),
      Byts
        (List.take (avLen (Av.sl (List.take m ys) m) + (3 : Nat))
          (List.take m ys ++
            [Value.int IntKind.u8
                (↑(((160 : Nat) + avLen (Av.sl (List.take m ys) m) % (90 : Nat)) % (256 : Nat)) : Int),
              Value.int IntKind.u8
                (↑(((160 : Nat) + (avLen (Av.sl (List.take m ys) m) + (1 : Nat)) % (90 : Nat)) % (256 : Nat)) : Int),
              Value.int IntKind.u8
                (↑(((160 : Nat) + (avLen (Av.sl (List.take m ys) m) + (1 : Nat) + (1 : Nat)) % (90 : Nat)) %
                      (256 : Nat)) :
                  Int)])),
      Byts (List.take m ys), avLen (Av.sl (List.take m ys) m) = avLen (Av.sl (List.take m ys) m),
      avLen (Av.sl (List.take m ys) m) + (3 : Nat) = avLen (Av.sl (List.take m ys) m) + (3 : Nat),
      avLen (Av.sl (List.take m ys) m) ≤ (1099511627776 : Nat),
      decide
          (intsOf
              (List.take (avLen (Av.sl (List.take m ys) m) + (3 : Nat))
                (List.take m ys ++
                  [Value.int IntKind.u8
                      (↑(((160 : Nat) + avLen (Av.sl (List.take m ys) m) % (90 : Nat)) % (256 : Nat)) : Int),
                    Value.int IntKind.u8
                      (↑(((160 : Nat) + (avLen (Av.sl (List.take m ys) m) + (1 : Nat)) % (90 : Nat)) % (256 : Nat)) :
                        Int),
                    Value.int IntKind.u8
                      (↑(((160 : Nat) + (avLen (Av.sl (List.take m ys) m) + (1 : Nat) + (1 : Nat)) % (90 : Nat)) %
                            (256 : Nat)) :
                        Int)])) =
            intsOf
              (List.take m ys ++
                [Value.int IntKind.u8
                    (↑(((160 : Nat) + avLen (Av.sl (List.take m ys) m) % (90 : Nat)) % (256 : Nat)) : Int),
                  Value.int IntKind.u8
                    (↑(((160 : Nat) + (avLen (Av.sl (List.take m ys) m) + (1 : Nat)) % (90 : Nat)) % (256 : Nat)) :
                      Int),
                  Value.int IntKind.u8
                    (↑(((160 : Nat) + (avLen (Av.sl (List.take m ys) m) + (1 : Nat) + (1 : Nat)) % (90 : Nat)) %
                          (256 : Nat)) :
                      Int)])) =
        true]) := by kernel_rfl
theorem cb_not_not (xs ys : List Value) (n c m d : Nat) : runZ (cbV 2) Try.prog 5 7 [cbA n c, cbB m d] [(0, ⟨.old, xs⟩), (1, ⟨.old, ys⟩)] 2 ([false, false] ++ [false, false, false] ++ [false, false, false] ++ [false, false, false] ++ [false, false, false] ++ [true, true]) =
Res.ok
  ((Value.bool true, [((0 : Nat), Rw.mk Kd.old xs), ((1 : Nat), Rw.mk Kd.old ys)], (5 : Nat), []), [],
    [decide ((↑n : Int) > (200 : Int)) = false, decide ((↑m : Int) > (2000 : Int)) = false,
      m ≤ d ∧ d ≤ (9223372036854775807 : Nat), m ≤ List.length ys, Fl (List.take m ys), Byts (List.take m ys),
      avLen (Av.sl (List.take m ys) m) ≤ (1099511627776 : Nat), (0 : Nat) < (18446744073709551616 : Nat),
      (0 : Nat) < (0 : Nat) + n, (0 : Nat) ≤ (0 : Nat),
      ((0 : Nat) + n) * (16 : Nat) ≤ (140737488355328 : Nat) ∧ (0 : Nat) + n ≤ (9223372036854775807 : Nat),
      n * (2 : Nat) ≤ List.length xs, all1 (List.take (n * (2 : Nat)) xs) = true,
      capBig + (4 : Nat) = capBig + (4 : Nat),
      ((0 : Nat) + n) * (2 : Nat) ≤ List.length ([] ++ List.take (n * (2 : Nat)) xs), (0 : Nat) < (2 : Nat),
      ((0 : Nat) + n) * (2 : Nat) ≤ List.length ([] ++ List.take (n * (2 : Nat)) xs),
      Fl (List.take (((0 : Nat) + n) * (2 : Nat)) ([] ++ List.take (n * (2 : Nat)) xs)),
      Ints IntKind.i64 (List.take (((0 : Nat) + n) * (2 : Nat)) ([] ++ List.take (n * (2 : Nat)) xs)),
      decide
          (avLen
              (Av.sl (List.take (((0 : Nat) + n) * (2 : Nat)) ([] ++ List.take (n * (2 : Nat)) xs)) ((0 : Nat) + n)) =
            (0 : Nat)) =
        false,
      decide
          (avLen
              (Av.sl (List.take (((0 : Nat) + n) * (2 : Nat)) ([] ++ List.take (n * (2 : Nat)) xs)) ((0 : Nat) + n)) ≤
            (128 : Nat)) =
        true,
      wrOk (List.take (((0 : Nat) + n) * (2 : Nat)) ([] ++ List.take (n * (2 : Nat)) xs)) (0 : Nat)
          (avLen
            (Av.sl (List.take (((0 : Nat) + n) * (2 : Nat)) ([] ++ List.take (n * (2 : Nat)) xs)) ((0 : Nat) + n))) =
        false,
      n ≤ c ∧ c ≤ (9223372036854775807 : Nat), n * (2 : Nat) ≤ List.length xs, Fl (List.take (n * (2 : Nat)) xs),
      Ints IntKind.i64 (List.take (n * (2 : Nat)) xs),
      decide (avLen (Av.sl (List.take (n * (2 : Nat)) xs) n) = (0 : Nat)) = false,
      decide (avLen (Av.sl (List.take (n * (2 : Nat)) xs) n) ≤ (128 : Nat)) = true,
      wrOk (List.take (n * (2 : Nat)) xs) (0 : Nat) (avLen (Av.sl (List.take (n * (2 : Nat)) xs) n)) = false,
      avLen (Av.sl (List.take m ys) m) ≤ avLen (Av.sl (List.take m ys) m) + (3 : Nat) ∧
        avLen (Av.sl (List.take m ys) m) + (3 : Nat) ≤ (9223372036854775807 : Nat),
      avLen (Av.sl (List.take m ys) m) ≤
        List.length
          (List.take m ys ++
            [Value.int IntKind.u8
                (↑(((160 : Nat) + avLen (Av.sl (List.take m ys) m) % (90 : Nat)) % (256 : Nat)) : Int),
              Value.int IntKind.u8
                (↑(((160 : Nat) + (avLen (Av.sl (List.take m ys) m) + (1 : Nat)) % (90 : Nat)) % (256 : Nat)) : Int),
              Value.int IntKind.u8
                (↑(((160 : Nat) + (avLen (Av.sl (List.take m ys) m) + (1 : Nat) + (1 : Nat)) % (90 : Nat)) %
                      (256 : Nat)) :
                  Int)]),
      Fl
        (List.take (avLen (Av.sl (List.take m ys) m))
          (List.take m ys ++
            [Value.int IntKind.u8
                (↑(((160 : Nat) + avLen (Av.sl (List.take m ys) m) % (90 : Nat)) % (256 : Nat)) : Int),
              Value.int IntKind.u8
                (↑(((160 : Nat) + (avLen (Av.sl (List.take m ys) m) + (1 : Nat)) % (90 : Nat)) % (256 : Nat)) : Int),
              Value.int IntKind.u8
                (↑(((160 : Nat) + (avLen (Av.sl (List.take m ys) m) + (1 : Nat) + (1 : Nat)) % (90 : Nat)) %
                      (256 : Nat)) :
                  Int)])),
      Byts
        (List.take (avLen (Av.sl (List.take m ys) m))
          (List.take m ys ++
            [Value.int IntKind.u8
                (↑(((160 : Nat) + avLen (Av.sl (List.take m ys) m) % (90 : Nat)) % (256 : Nat)) : Int),
              Value.int IntKind.u8
                (↑(((160 : Nat) + (avLen (Av.sl (List.take m ys) m) + (1 : Nat)) % (90 : Nat)) % (256 : Nat)) : Int),
              Value.int IntKind.u8
                (↑(((160 : Nat) + (avLen (Av.sl (List.take m ys) m) + (1 : Nat) + (1 : Nat)) % (90 : Nat)) %
                      (256 : Nat)) :
                  Int)])),
      avLen
            (Av.sl
              (List.take (avLen (Av.sl (List.take m ys) m))
                (List.take m ys ++
                  [Value.int IntKind.u8
                      (↑(((160 : Nat) + avLen (Av.sl (List.take m ys) m) % (90 : Nat)) % (256 : Nat)) : Int),
                    Value.int IntKind.u8
                      (↑(((160 : Nat) + (avLen (Av.sl (List.take m ys) m) + (1 : Nat)) % (90 : Nat)) % (256 : Nat)) :
                        Int),
                    Value.int IntKind.u8
                      (↑(((160 : Nat) + (avLen (Av.sl (List.take m ys) m) + (1 : Nat) + (1 : Nat)) % (90 : Nat)) %
                            (256 : Nat)) :
                        Int)]))
              (avLen (Av.sl (List.take m ys) m))) %
          (8 : Nat) =
        (0 : Nat),
      decide
          (avLen
              (Av.sl
                (List.take (avLen (Av.sl (List.take m ys) m))
                  (List.take m ys ++
                    [Value.int IntKind.u8
                        (↑(((160 : Nat) + avLen (Av.sl (List.take m ys) m) % (90 : Nat)) % (256 : Nat)) : Int),
                      Value.int IntKind.u8
                        (↑(((160 : Nat) + (avLen (Av.sl (List.take m ys) m) + (1 : Nat)) % (90 : Nat)) % (256 : Nat)) :
                          Int),
                      Value.int IntKind.u8
                        (↑(((160 : Nat) + (avLen (Av.sl (List.take m ys) m) + (1 : Nat) + (1 : Nat)) % (90 : Nat)) %
                              (256 : Nat)) :
                          Int)]))
                (avLen (Av.sl (List.take m ys) m))) =
            (0 : Nat)) =
        false,
      avLen
          (Av.sl
            (List.take (avLen (Av.sl (List.take m ys) m))
              (List.take m ys ++
                [Value.int IntKind.u8
                    (↑(((160 : Nat) + avLen (Av.sl (List.take m ys) m) % (90 : Nat)) % (256 : Nat)) : Int),
                  Value.int IntKind.u8
                    (↑(((160 : Nat) + (avLen (Av.sl (List.take m ys) m) + (1 : Nat)) % (90 : Nat)) % (256 : Nat)) :
                      Int),
                  Value.int IntKind.u8
                    (↑(((160 : Nat) + (avLen (Av.sl (List.take m ys) m) + (1 : Nat) + (1 : Nat)) % (90 : Nat)) %
                          (256 : Nat)) :
                      Int)]))
            (avLen (Av.sl (List.take m ys) m))) ≤
        (4096 : Nat),
      rdOk
          (List.take (avLen (Av.sl (List.take m ys) m))
            (List.take m ys ++
              [Value.int IntKind.u8
                  (↑(((160 : Nat) + avLen (Av.sl (List.take m ys) m) % (90 : Nat)) % (256 : Nat)) : Int),
                Value.int IntKind.u8
                  (↑(((160 : Nat) + (avLen (Av.sl (List.take m ys) m) + (1 : Nat)) % (90 : Nat)) % (256 : Nat)) : Int),
                Value.int IntKind.u8
                  (↑(((160 : Nat) + (avLen (Av.sl (List.take m ys) m) + (1 : Nat) + (1 : Nat)) % (90 : Nat)) %
                        (256 : Nat)) :
                    Int)]))
          (0 : Nat)
          (avLen
              (Av.sl
                (List.take (avLen (Av.sl (List.take m ys) m))
                  (List.take m ys ++
                    [Value.int IntKind.u8
                        (↑(((160 : Nat) + avLen (Av.sl (List.take m ys) m) % (90 : Nat)) % (256 : Nat)) : Int),
                      Value.int IntKind.u8
                        (↑(((160 : Nat) + (avLen (Av.sl (List.take m ys) m) + (1 : Nat)) % (90 : Nat)) % (256 : Nat)) :
                          Int),
                      Value.int IntKind.u8
                        (↑(((160 : Nat) + (avLen (Av.sl (List.take m ys) m) + (1 : Nat) + (1 : Nat)) % (90 : Nat)) %
                              (256 : Nat)) :
                          Int)]))
                (avLen (Av.sl (List.take m ys) m))) /
            (8 : Nat)) =
        false,
      m ≤ d ∧ d ≤ (9223372036854775807 : Nat), m ≤ List.length ys, Fl (List.take m ys), Byts (List.take m ys),
      avLen (Av.sl (List.take m ys) m) % (8 : Nat) = (0 : Nat),
      decide (avLen (Av.sl (List.take m ys) m) = (0 : Nat)) = false, avLen (Av.sl (List.take m ys) m) ≤ (4096 : Nat),
      rdOk (List.take m ys) (0 : Nat) (avLen (Av.sl (List.take m ys) m) / (8 : Nat)) = false, Byts [], Byts [],
      true = true, Ints IntKind.i64 [], ([] : List Value) = [], (0 : Nat) = (0 : Nat),
      avLen (Av.sl (List.take m ys) m) + (3 : Nat) ≤ (9223372036854775807 : Nat),
      avLen (Av.sl (List.take m ys) m) + (3 : Nat) ≤
        List.length
          (List.take m ys ++
            [Value.int IntKind.u8
                (↑(((160 : Nat) + avLen (Av.sl (List.take m ys) m) % (90 : Nat)) % (256 : Nat)) : Int),
              Value.int IntKind.u8
                (↑(((160 : Nat) + (avLen (Av.sl (List.take m ys) m) + (1 : Nat)) % (90 : Nat)) % (256 : Nat)) : Int),
              Value.int IntKind.u8
                (↑(((160 : Nat) + (avLen (Av.sl (List.take m ys) m) + (1 : Nat) + (1 : Nat)) % (90 : Nat)) %
                      (256 : Nat)) :
                  Int)]),
      Fl
        (List.take (avLen (Av.sl (List.take m ys) m) + (3 : Nat))
          (List.take m ys ++
            [Value.int IntKind.u8
                (↑(((160 : Nat) + avLen (Av.sl (List.take m ys) m) % (90 : Nat)) % (256 : Nat)) : Int),
              Value.int IntKind.u8
                (↑(((160 : Nat) + (avLen (Av.sl (List.take m ys) m) + (1 : Nat)) % (90 : Nat)) % (256 : Nat)) : Int),
              Value.int IntKind.u8
                (↑(((160 : Nat) + (avLen (Av.sl (List.take m ys) m) + (1 : Nat) + (1 : Nat)) % (90 : Nat)) %
                      (256 : Nat)) :
                  Int)])),
      m ≤ d ∧ d ≤ (9223372036854775807 : Nat), m ≤ List.length ys, Fl (List.take m ys),
      Byts
        (List.take (avLen (Av.sl (List.take m ys) m) + (3 : Nat))
          (List.take m ys ++
            [Value.int IntKind.u8
                (↑(((160 : Nat) + avLen (Av.sl (List.take m ys) m) % (90 : Nat)) % (256 : Nat)) : Int),
              Value.int IntKind.u8
                (↑(((160 : Nat) + (avLen (Av.sl (List.take m ys) m) + (1 : Nat)) % (90 : Nat)) % (256 : Nat)) : Int),
              Value.int IntKind.u8
                (↑(((160 : Nat) + (avLen (Av.sl (List.take m ys) m) + (1 : Nat) + (1 : Nat)) % (90 : Nat)) %
                      (256 : Nat)) :
                  Int)])),
      Byts (List.take m ys), avLen (Av.sl (List.take m ys) m) = avLen (Av.sl (List.take m ys) m),
      avLen (Av.sl (List.take m ys) m) + (3 : Nat) = avLen (Av.sl (List.take m ys) m) + (3 : Nat),
      avLen (Av.sl (List.take m ys) m) ≤ (1099511627776 : Nat),
      decide
          (intsOf
              (List.take (avLen (Av.sl (List.take m ys) m) + (3 : Nat))
                (List.take m ys ++
                  [Value.int IntKind.u8
                      (↑(((160 : Nat) + avLen (Av.sl (List.take m ys) m) % (90 : Nat)) % (256 : Nat)) : Int),
                    Value.int IntKind.u8
                      (↑(((160 : Nat) + (avLen (Av.sl (List.take m ys) m) + (1 : Nat)) % (90 : Nat)) % (256 : Nat)) :
                        Int),
                    Value.int IntKind.u8
                      (↑(((160 : Nat) + (avLen (Av.sl (List.take m ys) m) + (1 : Nat) + (1 : Nat)) % (90 : Nat)) %
                            (256 : Nat)) :
                        Int)])) =
            intsOf
              (List.take m ys ++
                [Value.int IntKind.u8
                    (↑(((160 : Nat) + avLen (Av.sl (List.take m ys) m) % (90 : Nat)) % (256 : Nat)) : Int),
                  Value.int IntKind.u8
                    (↑(((160 : Nat) + (avLen (Av.sl (List.take m ys) m) + (1 : Nat)) % (90 : Nat)) % (256 : Nat)) :
                      Int),
                  Value.int IntKind.u8
                    (↑(((160 : Nat) + (avLen (Av.sl (List.take m ys) m) + (1 : Nat) + (1 : Nat)) % (90 : Nat)) %
                          (256 : Nat)) :
                      Int)])) =
        true]) := by kernel_rfl
theorem cb_ok_not (xs ys : List Value) (n c m d : Nat) : runZ (cbV 2) Try.prog 5 7 [cbA n c, cbB m d] [(0, ⟨.old, xs⟩), (1, ⟨.old, ys⟩)] 2 ([false, false] ++ [false, false, true] ++ [false, false, true] ++ [false, false, false] ++ [false, false, false] ++ [true, true]) =
Res.ok
  ((Value.bool true, [((0 : Nat), Rw.mk Kd.old xs), ((1 : Nat), Rw.mk Kd.old ys)], (7 : Nat), []), [],
    [decide ((↑n : Int) > (200 : Int)) = false, decide ((↑m : Int) > (2000 : Int)) = false,
      m ≤ d ∧ d ≤ (9223372036854775807 : Nat), m ≤ List.length ys, Fl (List.take m ys), Byts (List.take m ys),
      avLen (Av.sl (List.take m ys) m) ≤ (1099511627776 : Nat), (0 : Nat) < (18446744073709551616 : Nat),
      (0 : Nat) < (0 : Nat) + n, (0 : Nat) ≤ (0 : Nat),
      ((0 : Nat) + n) * (16 : Nat) ≤ (140737488355328 : Nat) ∧ (0 : Nat) + n ≤ (9223372036854775807 : Nat),
      n * (2 : Nat) ≤ List.length xs, all1 (List.take (n * (2 : Nat)) xs) = true,
      capBig + (4 : Nat) = capBig + (4 : Nat),
      ((0 : Nat) + n) * (2 : Nat) ≤ List.length ([] ++ List.take (n * (2 : Nat)) xs), (0 : Nat) < (2 : Nat),
      ((0 : Nat) + n) * (2 : Nat) ≤ List.length ([] ++ List.take (n * (2 : Nat)) xs),
      Fl (List.take (((0 : Nat) + n) * (2 : Nat)) ([] ++ List.take (n * (2 : Nat)) xs)),
      Ints IntKind.i64 (List.take (((0 : Nat) + n) * (2 : Nat)) ([] ++ List.take (n * (2 : Nat)) xs)),
      decide
          (avLen
              (Av.sl (List.take (((0 : Nat) + n) * (2 : Nat)) ([] ++ List.take (n * (2 : Nat)) xs)) ((0 : Nat) + n)) =
            (0 : Nat)) =
        false,
      decide
          (avLen
              (Av.sl (List.take (((0 : Nat) + n) * (2 : Nat)) ([] ++ List.take (n * (2 : Nat)) xs)) ((0 : Nat) + n)) ≤
            (128 : Nat)) =
        true,
      wrOk (List.take (((0 : Nat) + n) * (2 : Nat)) ([] ++ List.take (n * (2 : Nat)) xs)) (0 : Nat)
          (avLen
            (Av.sl (List.take (((0 : Nat) + n) * (2 : Nat)) ([] ++ List.take (n * (2 : Nat)) xs)) ((0 : Nat) + n))) =
        true,
      n ≤ c ∧ c ≤ (9223372036854775807 : Nat), n * (2 : Nat) ≤ List.length xs, Fl (List.take (n * (2 : Nat)) xs),
      Ints IntKind.i64 (List.take (n * (2 : Nat)) xs),
      decide (avLen (Av.sl (List.take (n * (2 : Nat)) xs) n) = (0 : Nat)) = false,
      decide (avLen (Av.sl (List.take (n * (2 : Nat)) xs) n) ≤ (128 : Nat)) = true,
      wrOk (List.take (n * (2 : Nat)) xs) (0 : Nat) (avLen (Av.sl (List.take (n * (2 : Nat)) xs) n)) = true,
      avLen (Av.sl (List.take m ys) m) ≤ avLen (Av.sl (List.take m ys) m) + (3 : Nat) ∧
        avLen (Av.sl (List.take m ys) m) + (3 : Nat) ≤ (9223372036854775807 : Nat),
      avLen (Av.sl (List.take m ys) m) ≤
        List.length
          (List.take m ys ++
            [Value.int IntKind.u8
                (↑(((160 : Nat) + avLen (Av.sl (List.take m ys) m) % (90 : Nat)) % (256 : Nat)) : Int),
              Value.int IntKind.u8
                (↑(((160 : Nat) + (avLen (Av.sl (List.take m ys) m) + (1 : Nat)) % (90 : Nat)) % (256 : Nat)) : Int),
              Value.int IntKind.u8
                (↑(((160 : Nat) + (avLen (Av.sl (List.take m ys) m) + (1 : Nat) + (1 : Nat)) % (90 : Nat)) %
                      (256 : Nat)) :
                  Int)]),
      Fl
        (List.take (avLen (Av.sl (List.take m ys) m))
          (List.take m ys ++
            [Value.int IntKind.u8
                (↑(((160 : Nat) + avLen (Av.sl (List.take m ys) m) % (90 : Nat)) % (256 : Nat)) : Int),
              Value.int IntKind.u8
                (↑(((160 : Nat) + (avLen (Av.sl (List.take m ys) m) + (1 : Nat)) % (90 : Nat)) % (256 : Nat)) : Int),
              Value.int IntKind.u8
                (↑(((160 : Nat) + (avLen (Av.sl (List.take m ys) m) + (1 : Nat) + (1 : Nat)) % (90 : Nat)) %
                      (256 : Nat)) :
                  Int)])),
      Byts
        (List.take (avLen (Av.sl (List.take m ys) m))
          (List.take m ys ++
            [Value.int IntKind.u8
                (↑(((160 : Nat) + avLen (Av.sl (List.take m ys) m) % (90 : Nat)) % (256 : Nat)) : Int),
              Value.int IntKind.u8
                (↑(((160 : Nat) + (avLen (Av.sl (List.take m ys) m) + (1 : Nat)) % (90 : Nat)) % (256 : Nat)) : Int),
              Value.int IntKind.u8
                (↑(((160 : Nat) + (avLen (Av.sl (List.take m ys) m) + (1 : Nat) + (1 : Nat)) % (90 : Nat)) %
                      (256 : Nat)) :
                  Int)])),
      avLen
            (Av.sl
              (List.take (avLen (Av.sl (List.take m ys) m))
                (List.take m ys ++
                  [Value.int IntKind.u8
                      (↑(((160 : Nat) + avLen (Av.sl (List.take m ys) m) % (90 : Nat)) % (256 : Nat)) : Int),
                    Value.int IntKind.u8
                      (↑(((160 : Nat) + (avLen (Av.sl (List.take m ys) m) + (1 : Nat)) % (90 : Nat)) % (256 : Nat)) :
                        Int),
                    Value.int IntKind.u8
                      (↑(((160 : Nat) + (avLen (Av.sl (List.take m ys) m) + (1 : Nat) + (1 : Nat)) % (90 : Nat)) %
                            (256 : Nat)) :
                        Int)]))
              (avLen (Av.sl (List.take m ys) m))) %
          (8 : Nat) =
        (0 : Nat),
      decide
          (avLen
              (Av.sl
                (List.take (avLen (Av.sl (List.take m ys) m))
                  (List.take m ys ++
                    [Value.int IntKind.u8
                        (↑(((160 : Nat) + avLen (Av.sl (List.take m ys) m) % (90 : Nat)) % (256 : Nat)) : Int),
                      Value.int IntKind.u8
                        (↑(((160 : Nat) + (avLen (Av.sl (List.take m ys) m) + (1 : Nat)) % (90 : Nat)) % (256 : Nat)) :
                          Int),
                      Value.int IntKind.u8
                        (↑(((160 : Nat) + (avLen (Av.sl (List.take m ys) m) + (1 : Nat) + (1 : Nat)) % (90 : Nat)) %
                              (256 : Nat)) :
                          Int)]))
                (avLen (Av.sl (List.take m ys) m))) =
            (0 : Nat)) =
        false,
      avLen
          (Av.sl
            (List.take (avLen (Av.sl (List.take m ys) m))
              (List.take m ys ++
                [Value.int IntKind.u8
                    (↑(((160 : Nat) + avLen (Av.sl (List.take m ys) m) % (90 : Nat)) % (256 : Nat)) : Int),
                  Value.int IntKind.u8
                    (↑(((160 : Nat) + (avLen (Av.sl (List.take m ys) m) + (1 : Nat)) % (90 : Nat)) % (256 : Nat)) :
                      Int),
                  Value.int IntKind.u8
                    (↑(((160 : Nat) + (avLen (Av.sl (List.take m ys) m) + (1 : Nat) + (1 : Nat)) % (90 : Nat)) %
                          (256 : Nat)) :
                      Int)]))
            (avLen (Av.sl (List.take m ys) m))) ≤
        (4096 : Nat),
      rdOk
          (List.take (avLen (Av.sl (List.take m ys) m))
            (List.take m ys ++
              [Value.int IntKind.u8
                  (↑(((160 : Nat) + avLen (Av.sl (List.take m ys) m) % (90 : Nat)) % (256 : Nat)) : Int),
                Value.int IntKind.u8
                  (↑(((160 : Nat) + (avLen (Av.sl (List.take m ys) m) + (1 : Nat)) % (90 : Nat)) % (256 : Nat)) : Int),
                Value.int IntKind.u8
                  (↑(((160 : Nat) + (avLen (Av.sl (List.take m ys) m) + (1 : Nat) + (1 : Nat)) % (90 : Nat)) %
                        (256 : Nat)) :
                    Int)]))
          (0 : Nat)
          (avLen
              (Av.sl
                (List.take (avLen (Av.sl (List.take m ys) m))
                  (List.take m ys ++
                    [Value.int IntKind.u8
                        (↑(((160 : Nat) + avLen (Av.sl (List.take m ys) m) % (90 : Nat)) % (256 : Nat)) : Int),
                      Value.int IntKind.u8
                        (↑(((160 : Nat) + (avLen (Av.sl (List.take m ys) m) + (1 : Nat)) % (90 : Nat)) % (256 : Nat)) :
                          Int),
                      Value.int IntKind.u8
                        (↑(((160 : Nat) + (avLen (Av.sl (List.take m ys) m) + (1 : Nat) + (1 : Nat)) % (90 : Nat)) %
                              (256 : Nat)) :
                          Int)]))
                (avLen (Av.sl (List.take m ys) m))) /
            (8 : Nat)) =
        false,
      m ≤ d ∧ d ≤ (9223372036854775807 : Nat), m ≤ List.length ys, Fl (List.take m ys), Byts (List.take m ys),
      avLen (Av.sl (List.take m ys) m) % (8 : Nat) = (0 : Nat),
      decide (avLen (Av.sl (List.take m ys) m) = (0 : Nat)) = false, avLen (Av.sl (List.take m ys) m) ≤ (4096 : Nat),
      rdOk (List.take m ys) (0 : Nat) (avLen (Av.sl (List.take m ys) m) / (8 : Nat)) = false,
      capBig + (5 : Nat) = capBig + (5 : Nat),
      avLen (Av.sl (List.take (((0 : Nat) + n) * (2 : Nat)) ([] ++ List.take (n * (2 : Nat)) xs)) ((0 : Nat) + n)) *
          (8 : Nat) ≤
        List.length
          (wrL (List.take (((0 : Nat) + n) * (2 : Nat)) ([] ++ List.take (n * (2 : Nat)) xs)) (0 : Nat)
            (avLen
              (Av.sl (List.take (((0 : Nat) + n) * (2 : Nat)) ([] ++ List.take (n * (2 : Nat)) xs)) ((0 : Nat) + n)))),
      (0 : Nat) < (1 : Nat),
      avLen (Av.sl (List.take (((0 : Nat) + n) * (2 : Nat)) ([] ++ List.take (n * (2 : Nat)) xs)) ((0 : Nat) + n)) *
          (8 : Nat) ≤
        List.length
          (wrL (List.take (((0 : Nat) + n) * (2 : Nat)) ([] ++ List.take (n * (2 : Nat)) xs)) (0 : Nat)
            (avLen
              (Av.sl (List.take (((0 : Nat) + n) * (2 : Nat)) ([] ++ List.take (n * (2 : Nat)) xs)) ((0 : Nat) + n)))),
      Fl
        (List.take
          (avLen
              (Av.sl (List.take (((0 : Nat) + n) * (2 : Nat)) ([] ++ List.take (n * (2 : Nat)) xs)) ((0 : Nat) + n)) *
            (8 : Nat))
          (wrL (List.take (((0 : Nat) + n) * (2 : Nat)) ([] ++ List.take (n * (2 : Nat)) xs)) (0 : Nat)
            (avLen
              (Av.sl (List.take (((0 : Nat) + n) * (2 : Nat)) ([] ++ List.take (n * (2 : Nat)) xs)) ((0 : Nat) + n))))),
      capBig + (6 : Nat) = capBig + (6 : Nat),
      avLen (Av.sl (List.take (n * (2 : Nat)) xs) n) * (8 : Nat) ≤
        List.length (wrL (List.take (n * (2 : Nat)) xs) (0 : Nat) (avLen (Av.sl (List.take (n * (2 : Nat)) xs) n))),
      (0 : Nat) < (1 : Nat),
      avLen (Av.sl (List.take (n * (2 : Nat)) xs) n) * (8 : Nat) ≤
        List.length (wrL (List.take (n * (2 : Nat)) xs) (0 : Nat) (avLen (Av.sl (List.take (n * (2 : Nat)) xs) n))),
      Fl
        (List.take (avLen (Av.sl (List.take (n * (2 : Nat)) xs) n) * (8 : Nat))
          (wrL (List.take (n * (2 : Nat)) xs) (0 : Nat) (avLen (Av.sl (List.take (n * (2 : Nat)) xs) n)))),
      Byts
        (List.take
          (avLen
              (Av.sl (List.take (((0 : Nat) + n) * (2 : Nat)) ([] ++ List.take (n * (2 : Nat)) xs)) ((0 : Nat) + n)) *
            (8 : Nat))
          (wrL (List.take (((0 : Nat) + n) * (2 : Nat)) ([] ++ List.take (n * (2 : Nat)) xs)) (0 : Nat)
            (avLen
              (Av.sl (List.take (((0 : Nat) + n) * (2 : Nat)) ([] ++ List.take (n * (2 : Nat)) xs)) ((0 : Nat) + n))))),
      Byts
        (List.take (avLen (Av.sl (List.take (n * (2 : Nat)) xs) n) * (8 : Nat))
          (wrL (List.take (n * (2 : Nat)) xs) (0 : Nat) (avLen (Av.sl (List.take (n * (2 : Nat)) xs) n)))),
      decide
          (intsOf
              (List.take
                (avLen
                    (Av.sl (List.take (((0 : Nat) + n) * (2 : Nat)) ([] ++ List.take (n * (2 : Nat)) xs))
                      ((0 : Nat) + n)) *
                  (8 : Nat))
                (wrL (List.take (((0 : Nat) + n) * (2 : Nat)) ([] ++ List.take (n * (2 : Nat)) xs)) (0 : Nat)
                  (avLen
                    (Av.sl (List.take (((0 : Nat) + n) * (2 : Nat)) ([] ++ List.take (n * (2 : Nat)) xs))
                      ((0 : Nat) + n))))) =
            intsOf
              (List.take (avLen (Av.sl (List.take (n * (2 : Nat)) xs) n) * (8 : Nat))
                (wrL (List.take (n * (2 : Nat)) xs) (0 : Nat) (avLen (Av.sl (List.take (n * (2 : Nat)) xs) n))))) =
        true,
      Ints IntKind.i64 [], ([] : List Value) = [], (0 : Nat) = (0 : Nat), (0 : Nat) = (0 : Nat),
      capBig + (5 : Nat) = capBig + (5 : Nat),
      avLen (Av.sl (List.take (((0 : Nat) + n) * (2 : Nat)) ([] ++ List.take (n * (2 : Nat)) xs)) ((0 : Nat) + n)) *
          (8 : Nat) ≤
        List.length
          (wrL (List.take (((0 : Nat) + n) * (2 : Nat)) ([] ++ List.take (n * (2 : Nat)) xs)) (0 : Nat)
            (avLen
              (Av.sl (List.take (((0 : Nat) + n) * (2 : Nat)) ([] ++ List.take (n * (2 : Nat)) xs)) ((0 : Nat) + n)))),
      Byts
        (wrL (List.take (((0 : Nat) + n) * (2 : Nat)) ([] ++ List.take (n * (2 : Nat)) xs)) (0 : Nat)
          (avLen
            (Av.sl (List.take (((0 : Nat) + n) * (2 : Nat)) ([] ++ List.take (n * (2 : Nat)) xs)) ((0 : Nat) + n)))),
      avLen (Av.sl (List.take m ys) m) + (3 : Nat) ≤ (9223372036854775807 : Nat),
      avLen (Av.sl (List.take m ys) m) + (3 : Nat) ≤
        List.length
          (List.take m ys ++
            [Value.int IntKind.u8
                (↑(((160 : Nat) + avLen (Av.sl (List.take m ys) m) % (90 : Nat)) % (256 : Nat)) : Int),
              Value.int IntKind.u8
                (↑(((160 : Nat) + (avLen (Av.sl (List.take m ys) m) + (1 : Nat)) % (90 : Nat)) % (256 : Nat)) : Int),
              Value.int IntKind.u8
                (↑(((160 : Nat) + (avLen (Av.sl (List.take m ys) m) + (1 : Nat) + (1 : Nat)) % (90 : Nat)) %
                      (256 : Nat)) :
                  Int)]),
      Fl
        (List.take (avLen (Av.sl (List.take m ys) m) + (3 : Nat))
          (List.take m ys ++
            [Value.int IntKind.u8
                (↑(((160 : Nat) + avLen (Av.sl (List.take m ys) m) % (90 : Nat)) % (256 : Nat)) : Int),
              Value.int IntKind.u8
                (↑(((160 : Nat) + (avLen (Av.sl (List.take m ys) m) + (1 : Nat)) % (90 : Nat)) % (256 : Nat)) : Int),
              Value.int IntKind.u8
                (↑(((160 : Nat) + (avLen (Av.sl (List.take m ys) m) + (1 : Nat) + (1 : Nat)) % (90 : Nat)) %
                      (256 : Nat)) :
                  Int)])),
      m ≤ d ∧ d ≤ (9223372036854775807 : Nat), m ≤ List.length ys, Fl (List.take m ys),
      Byts
        (List.take (avLen (Av.sl (List.take m ys) m) + (3 : Nat))
          (List.take m ys ++
            [Value.int IntKind.u8
                (↑(((160 : Nat) + avLen (Av.sl (List.take m ys) m) % (90 : Nat)) % (256 : Nat)) : Int),
              Value.int IntKind.u8
                (↑(((160 : Nat) + (avLen (Av.sl (List.take m ys) m) + (1 : Nat)) % (90 : Nat)) % (256 : Nat)) : Int),
              Value.int IntKind.u8
                (↑(((160 : Nat) + (avLen (Av.sl (List.take m ys) m) + (1 : Nat) + (1 : Nat)) % (90 : Nat)) %
                      (256 : Nat)) :
                  Int)])),
      Byts (List.take m ys), avLen (Av.sl (List.take m ys) m) = avLen (Av.sl (List.take m ys) m),
      avLen (Av.sl (List.take m ys) m) + (3 : Nat) = avLen (Av.sl (List.take m ys) m) + (3 : Nat),
      avLen (Av.sl (List.take m ys) m) ≤ (1099511627776 : Nat),
      decide
          (intsOf
              (List.take (avLen (Av.sl (List.take m ys) m) + (3 : Nat))
                (List.take m ys ++
                  [Value.int IntKind.u8
                      (↑(((160 : Nat) + avLen (Av.sl (List.take m ys) m) % (90 : Nat)) % (256 : Nat)) : Int),
                    Value.int IntKind.u8
                      (↑(((160 : Nat) + (avLen (Av.sl (List.take m ys) m) + (1 : Nat)) % (90 : Nat)) % (256 : Nat)) :
                        Int),
                    Value.int IntKind.u8
                      (↑(((160 : Nat) + (avLen (Av.sl (List.take m ys) m) + (1 : Nat) + (1 : Nat)) % (90 : Nat)) %
                            (256 : Nat)) :
                        Int)])) =
            intsOf
              (List.take m ys ++
                [Value.int IntKind.u8
                    (↑(((160 : Nat) + avLen (Av.sl (List.take m ys) m) % (90 : Nat)) % (256 : Nat)) : Int),
                  Value.int IntKind.u8
                    (↑(((160 : Nat) + (avLen (Av.sl (List.take m ys) m) + (1 : Nat)) % (90 : Nat)) % (256 : Nat)) :
                      Int),
                  Value.int IntKind.u8
                    (↑(((160 : Nat) + (avLen (Av.sl (List.take m ys) m) + (1 : Nat) + (1 : Nat)) % (90 : Nat)) %
                          (256 : Nat)) :
                      Int)])) =
        true]) := by kernel_rfl
theorem cb_long_long (xs ys : List Value) (n c m d : Nat) : runZ (cbV 2) Try.prog 5 7 [cbA n c, cbB m d] [(0, ⟨.old, xs⟩), (1, ⟨.old, ys⟩)] 2 ([false, false] ++ [true] ++ [true] ++ [false, false, true, true] ++ [false, false, true, true] ++ [true, true]) =
Res.ok
  ((Value.bool true, [((0 : Nat), Rw.mk Kd.old xs), ((1 : Nat), Rw.mk Kd.old ys)], (5 : Nat), []), [],
    [decide ((↑n : Int) > (200 : Int)) = false, decide ((↑m : Int) > (2000 : Int)) = false,
      m ≤ d ∧ d ≤ (9223372036854775807 : Nat), m ≤ List.length ys, Fl (List.take m ys), Byts (List.take m ys),
      avLen (Av.sl (List.take m ys) m) ≤ (1099511627776 : Nat), (0 : Nat) < (18446744073709551616 : Nat),
      (0 : Nat) < (0 : Nat) + n, (0 : Nat) ≤ (0 : Nat),
      ((0 : Nat) + n) * (16 : Nat) ≤ (140737488355328 : Nat) ∧ (0 : Nat) + n ≤ (9223372036854775807 : Nat),
      n * (2 : Nat) ≤ List.length xs, all1 (List.take (n * (2 : Nat)) xs) = true,
      capBig + (4 : Nat) = capBig + (4 : Nat),
      ((0 : Nat) + n) * (2 : Nat) ≤ List.length ([] ++ List.take (n * (2 : Nat)) xs), (0 : Nat) < (2 : Nat),
      ((0 : Nat) + n) * (2 : Nat) ≤ List.length ([] ++ List.take (n * (2 : Nat)) xs),
      Fl (List.take (((0 : Nat) + n) * (2 : Nat)) ([] ++ List.take (n * (2 : Nat)) xs)),
      Ints IntKind.i64 (List.take (((0 : Nat) + n) * (2 : Nat)) ([] ++ List.take (n * (2 : Nat)) xs)),
      decide
          (avLen
              (Av.sl (List.take (((0 : Nat) + n) * (2 : Nat)) ([] ++ List.take (n * (2 : Nat)) xs)) ((0 : Nat) + n)) ≤
            (128 : Nat)) =
        false,
      n ≤ c ∧ c ≤ (9223372036854775807 : Nat), n * (2 : Nat) ≤ List.length xs, Fl (List.take (n * (2 : Nat)) xs),
      Ints IntKind.i64 (List.take (n * (2 : Nat)) xs),
      decide (avLen (Av.sl (List.take (n * (2 : Nat)) xs) n) ≤ (128 : Nat)) = false,
      avLen (Av.sl (List.take m ys) m) ≤ avLen (Av.sl (List.take m ys) m) + (3 : Nat) ∧
        avLen (Av.sl (List.take m ys) m) + (3 : Nat) ≤ (9223372036854775807 : Nat),
      avLen (Av.sl (List.take m ys) m) ≤
        List.length
          (List.take m ys ++
            [Value.int IntKind.u8
                (↑(((160 : Nat) + avLen (Av.sl (List.take m ys) m) % (90 : Nat)) % (256 : Nat)) : Int),
              Value.int IntKind.u8
                (↑(((160 : Nat) + (avLen (Av.sl (List.take m ys) m) + (1 : Nat)) % (90 : Nat)) % (256 : Nat)) : Int),
              Value.int IntKind.u8
                (↑(((160 : Nat) + (avLen (Av.sl (List.take m ys) m) + (1 : Nat) + (1 : Nat)) % (90 : Nat)) %
                      (256 : Nat)) :
                  Int)]),
      Fl
        (List.take (avLen (Av.sl (List.take m ys) m))
          (List.take m ys ++
            [Value.int IntKind.u8
                (↑(((160 : Nat) + avLen (Av.sl (List.take m ys) m) % (90 : Nat)) % (256 : Nat)) : Int),
              Value.int IntKind.u8
                (↑(((160 : Nat) + (avLen (Av.sl (List.take m ys) m) + (1 : Nat)) % (90 : Nat)) % (256 : Nat)) : Int),
              Value.int IntKind.u8
                (↑(((160 : Nat) + (avLen (Av.sl (List.take m ys) m) + (1 : Nat) + (1 : Nat)) % (90 : Nat)) %
                      (256 : Nat)) :
                  Int)])),
      Byts
        (List.take (avLen (Av.sl (List.take m ys) m))
          (List.take m ys ++
            [Value.int IntKind.u8
                (↑(((160 : Nat) + avLen (Av.sl (List.take m ys) m) % (90 : Nat)) % (256 : Nat)) : Int),
              Value.int IntKind.u8
                (↑(((160 : Nat) + (avLen (Av.sl (List.take m ys) m) + (1 : Nat)) % (90 : Nat)) % (256 : Nat)) : Int),
              Value.int IntKind.u8
                (↑(((160 : Nat) + (avLen (Av.sl (List.take m ys) m) + (1 : Nat) + (1 : Nat)) % (90 : Nat)) %
                      (256 : Nat)) :
                  Int)])),
      avLen
            (Av.sl
              (List.take (avLen (Av.sl (List.take m ys) m))
                (List.take m ys ++
                  [Value.int IntKind.u8
                      (↑(((160 : Nat) + avLen (Av.sl (List.take m ys) m) % (90 : Nat)) % (256 : Nat)) : Int),
                    Value.int IntKind.u8
                      (↑(((160 : Nat) + (avLen (Av.sl (List.take m ys) m) + (1 : Nat)) % (90 : Nat)) % (256 : Nat)) :
                        Int),
                    Value.int IntKind.u8
                      (↑(((160 : Nat) + (avLen (Av.sl (List.take m ys) m) + (1 : Nat) + (1 : Nat)) % (90 : Nat)) %
                            (256 : Nat)) :
                        Int)]))
              (avLen (Av.sl (List.take m ys) m))) %
          (8 : Nat) =
        (0 : Nat),
      decide
          (avLen
              (Av.sl
                (List.take (avLen (Av.sl (List.take m ys) m))
                  (List.take m ys ++
                    [Value.int IntKind.u8
                        (↑(((160 : Nat) + avLen (Av.sl (List.take m ys) m) % (90 : Nat)) % (256 : Nat)) : Int),
                      Value.int IntKind.u8
                        (↑(((160 : Nat) + (avLen (Av.sl (List.take m ys) m) + (1 : Nat)) % (90 : Nat)) % (256 : Nat)) :
                          Int),
                      Value.int IntKind.u8
                        (↑(((160 : Nat) + (avLen (Av.sl (List.take m ys) m) + (1 : Nat) + (1 : Nat)) % (90 : Nat)) %
                              (256 : Nat)) :
                          Int)]))
                (avLen (Av.sl (List.take m ys) m))) =
            (0 : Nat)) =
        false,
      avLen
          (Av.sl
            (List.take (avLen (Av.sl (List.take m ys) m))
              (List.take m ys ++
                [Value.int IntKind.u8
                    (↑(((160 : Nat) + avLen (Av.sl (List.take m ys) m) % (90 : Nat)) % (256 : Nat)) : Int),
                  Value.int IntKind.u8
                    (↑(((160 : Nat) + (avLen (Av.sl (List.take m ys) m) + (1 : Nat)) % (90 : Nat)) % (256 : Nat)) :
                      Int),
                  Value.int IntKind.u8
                    (↑(((160 : Nat) + (avLen (Av.sl (List.take m ys) m) + (1 : Nat) + (1 : Nat)) % (90 : Nat)) %
                          (256 : Nat)) :
                      Int)]))
            (avLen (Av.sl (List.take m ys) m))) ≤
        (4096 : Nat),
      rdOk
          (List.take (avLen (Av.sl (List.take m ys) m))
            (List.take m ys ++
              [Value.int IntKind.u8
                  (↑(((160 : Nat) + avLen (Av.sl (List.take m ys) m) % (90 : Nat)) % (256 : Nat)) : Int),
                Value.int IntKind.u8
                  (↑(((160 : Nat) + (avLen (Av.sl (List.take m ys) m) + (1 : Nat)) % (90 : Nat)) % (256 : Nat)) : Int),
                Value.int IntKind.u8
                  (↑(((160 : Nat) + (avLen (Av.sl (List.take m ys) m) + (1 : Nat) + (1 : Nat)) % (90 : Nat)) %
                        (256 : Nat)) :
                    Int)]))
          (0 : Nat)
          (avLen
              (Av.sl
                (List.take (avLen (Av.sl (List.take m ys) m))
                  (List.take m ys ++
                    [Value.int IntKind.u8
                        (↑(((160 : Nat) + avLen (Av.sl (List.take m ys) m) % (90 : Nat)) % (256 : Nat)) : Int),
                      Value.int IntKind.u8
                        (↑(((160 : Nat) + (avLen (Av.sl (List.take m ys) m) + (1 : Nat)) % (90 : Nat)) % (256 : Nat)) :
                          Int),
                      Value.int IntKind.u8
                        (↑(((160 : Nat) + (avLen (Av.sl (List.take m ys) m) + (1 : Nat) + (1 : Nat)) % (90 : Nat)) %
                              (256 : Nat)) :
                          Int)]))
                (avLen (Av.sl (List.take m ys) m))) /
            (8 : Nat)) =
        true,
      decide
          (avLen
                (Av.sl
                  (List.take (avLen (Av.sl (List.take m ys) m))
                    (List.take m ys ++
                      [Value.int IntKind.u8
                          (↑(((160 : Nat) + avLen (Av.sl (List.take m ys) m) % (90 : Nat)) % (256 : Nat)) : Int),
                        Value.int IntKind.u8
                          (↑(((160 : Nat) + (avLen (Av.sl (List.take m ys) m) + (1 : Nat)) % (90 : Nat)) %
                                (256 : Nat)) :
                            Int),
                        Value.int IntKind.u8
                          (↑(((160 : Nat) + (avLen (Av.sl (List.take m ys) m) + (1 : Nat) + (1 : Nat)) % (90 : Nat)) %
                                (256 : Nat)) :
                            Int)]))
                  (avLen (Av.sl (List.take m ys) m))) /
              (8 : Nat) ≤
            (128 : Nat)) =
        false,
      m ≤ d ∧ d ≤ (9223372036854775807 : Nat), m ≤ List.length ys, Fl (List.take m ys), Byts (List.take m ys),
      avLen (Av.sl (List.take m ys) m) % (8 : Nat) = (0 : Nat),
      decide (avLen (Av.sl (List.take m ys) m) = (0 : Nat)) = false, avLen (Av.sl (List.take m ys) m) ≤ (4096 : Nat),
      rdOk (List.take m ys) (0 : Nat) (avLen (Av.sl (List.take m ys) m) / (8 : Nat)) = true,
      decide (avLen (Av.sl (List.take m ys) m) / (8 : Nat) ≤ (128 : Nat)) = false, Byts [], Byts [], true = true,
      Ints IntKind.i64 [], ([] : List Value) = [], (0 : Nat) = (0 : Nat),
      avLen (Av.sl (List.take m ys) m) + (3 : Nat) ≤ (9223372036854775807 : Nat),
      avLen (Av.sl (List.take m ys) m) + (3 : Nat) ≤
        List.length
          (List.take m ys ++
            [Value.int IntKind.u8
                (↑(((160 : Nat) + avLen (Av.sl (List.take m ys) m) % (90 : Nat)) % (256 : Nat)) : Int),
              Value.int IntKind.u8
                (↑(((160 : Nat) + (avLen (Av.sl (List.take m ys) m) + (1 : Nat)) % (90 : Nat)) % (256 : Nat)) : Int),
              Value.int IntKind.u8
                (↑(((160 : Nat) + (avLen (Av.sl (List.take m ys) m) + (1 : Nat) + (1 : Nat)) % (90 : Nat)) %
                      (256 : Nat)) :
                  Int)]),
      Fl
        (List.take (avLen (Av.sl (List.take m ys) m) + (3 : Nat))
          (List.take m ys ++
            [Value.int IntKind.u8
                (↑(((160 : Nat) + avLen (Av.sl (List.take m ys) m) % (90 : Nat)) % (256 : Nat)) : Int),
              Value.int IntKind.u8
                (↑(((160 : Nat) + (avLen (Av.sl (List.take m ys) m) + (1 : Nat)) % (90 : Nat)) % (256 : Nat)) : Int),
              Value.int IntKind.u8
                (↑(((160 : Nat) + (avLen (Av.sl (List.take m ys) m) + (1 : Nat) + (1 : Nat)) % (90 : Nat)) %
                      (256 : Nat)) :
                  Int)])),
      m ≤ d ∧ d ≤ (9223372036854775807 : Nat), m ≤ List.length ys, Fl (List.take m ys),
      Byts
        (List.take (avLen (Av.sl (List.take m ys) m) + (3 : Nat))
          (List.take m ys ++
            [Value.int IntKind.u8
                (↑(((160 : Nat) + avLen (Av.sl (List.take m ys) m) % (90 : Nat)) % (256 : Nat)) : Int),
              Value.int IntKind.u8
                (↑(((160 : Nat) + (avLen (Av.sl (List.take m ys) m) + (1 : Nat)) % (90 : Nat)) % (256 : Nat)) : Int),
              Value.int IntKind.u8
                (↑(((160 : Nat) + (avLen (Av.sl (List.take m ys) m) + (1 : Nat) + (1 : Nat)) % (90 : Nat)) %
                      (256 : Nat)) :
                  Int)])),
      Byts (List.take m ys), avLen (Av.sl (List.take m ys) m) = avLen (Av.sl (List.take m ys) m),
      avLen (Av.sl (List.take m ys) m) + (3 : Nat) = avLen (Av.sl (List.take m ys) m) + (3 : Nat),
      avLen (Av.sl (List.take m ys) m) ≤ (1099511627776 : Nat),
      decide
          (intsOf
              (List.take (avLen (Av.sl (List.take m ys) m) + (3 : Nat))
                (List.take m ys ++
                  [Value.int IntKind.u8
                      (↑(((160 : Nat) + avLen (Av.sl (List.take m ys) m) % (90 : Nat)) % (256 : Nat)) : Int),
                    Value.int IntKind.u8
                      (↑(((160 : Nat) + (avLen (Av.sl (List.take m ys) m) + (1 : Nat)) % (90 : Nat)) % (256 : Nat)) :
                        Int),
                    Value.int IntKind.u8
                      (↑(((160 : Nat) + (avLen (Av.sl (List.take m ys) m) + (1 : Nat) + (1 : Nat)) % (90 : Nat)) %
                            (256 : Nat)) :
                        Int)])) =
            intsOf
              (List.take m ys ++
                [Value.int IntKind.u8
                    (↑(((160 : Nat) + avLen (Av.sl (List.take m ys) m) % (90 : Nat)) % (256 : Nat)) : Int),
                  Value.int IntKind.u8
                    (↑(((160 : Nat) + (avLen (Av.sl (List.take m ys) m) + (1 : Nat)) % (90 : Nat)) % (256 : Nat)) :
                      Int),
                  Value.int IntKind.u8
                    (↑(((160 : Nat) + (avLen (Av.sl (List.take m ys) m) + (1 : Nat) + (1 : Nat)) % (90 : Nat)) %
                          (256 : Nat)) :
                      Int)])) =
        true]) := by kernel_rfl
theorem cb_not_long (xs ys : List Value) (n c m d : Nat) : runZ (cbV 2) Try.prog 5 7 [cbA n c, cbB m d] [(0, ⟨.old, xs⟩), (1, ⟨.old, ys⟩)] 2 ([false, false] ++ [false, false, false] ++ [false, false, false] ++ [false, false, true, true] ++ [false, false, true, true] ++ [true, true]) =
Res.ok
  ((Value.bool true, [((0 : Nat), Rw.mk Kd.old xs), ((1 : Nat), Rw.mk Kd.old ys)], (5 : Nat), []), [],
    [decide ((↑n : Int) > (200 : Int)) = false, decide ((↑m : Int) > (2000 : Int)) = false,
      m ≤ d ∧ d ≤ (9223372036854775807 : Nat), m ≤ List.length ys, Fl (List.take m ys), Byts (List.take m ys),
      avLen (Av.sl (List.take m ys) m) ≤ (1099511627776 : Nat), (0 : Nat) < (18446744073709551616 : Nat),
      (0 : Nat) < (0 : Nat) + n, (0 : Nat) ≤ (0 : Nat),
      ((0 : Nat) + n) * (16 : Nat) ≤ (140737488355328 : Nat) ∧ (0 : Nat) + n ≤ (9223372036854775807 : Nat),
      n * (2 : Nat) ≤ List.length xs, all1 (List.take (n * (2 : Nat)) xs) = true,
      capBig + (4 : Nat) = capBig + (4 : Nat),
      ((0 : Nat) + n) * (2 : Nat) ≤ List.length ([] ++ List.take (n * (2 : Nat)) xs), (0 : Nat) < (2 : Nat),
      ((0 : Nat) + n) * (2 : Nat) ≤ List.length ([] ++ List.take (n * (2 : Nat)) xs),
      Fl (List.take (((0 : Nat) + n) * (2 : Nat)) ([] ++ List.take (n * (2 : Nat)) xs)),
      Ints IntKind.i64 (List.take (((0 : Nat) + n) * (2 : Nat)) ([] ++ List.take (n * (2 : Nat)) xs)),
      decide
          (avLen
              (Av.sl (List.take (((0 : Nat) + n) * (2 : Nat)) ([] ++ List.take (n * (2 : Nat)) xs)) ((0 : Nat) + n)) =
            (0 : Nat)) =
        false,
      decide
          (avLen
              (Av.sl (List.take (((0 : Nat) + n) * (2 : Nat)) ([] ++ List.take (n * (2 : Nat)) xs)) ((0 : Nat) + n)) ≤
            (128 : Nat)) =
        true,
      wrOk (List.take (((0 : Nat) + n) * (2 : Nat)) ([] ++ List.take (n * (2 : Nat)) xs)) (0 : Nat)
          (avLen
            (Av.sl (List.take (((0 : Nat) + n) * (2 : Nat)) ([] ++ List.take (n * (2 : Nat)) xs)) ((0 : Nat) + n))) =
        false,
      n ≤ c ∧ c ≤ (9223372036854775807 : Nat), n * (2 : Nat) ≤ List.length xs, Fl (List.take (n * (2 : Nat)) xs),
      Ints IntKind.i64 (List.take (n * (2 : Nat)) xs),
      decide (avLen (Av.sl (List.take (n * (2 : Nat)) xs) n) = (0 : Nat)) = false,
      decide (avLen (Av.sl (List.take (n * (2 : Nat)) xs) n) ≤ (128 : Nat)) = true,
      wrOk (List.take (n * (2 : Nat)) xs) (0 : Nat) (avLen (Av.sl (List.take (n * (2 : Nat)) xs) n)) = false,
      avLen (Av.sl (List.take m ys) m) ≤ avLen (Av.sl (List.take m ys) m) + (3 : Nat) ∧
        avLen (Av.sl (List.take m ys) m) + (3 : Nat) ≤ (9223372036854775807 : Nat),
      avLen (Av.sl (List.take m ys) m) ≤
        List.length
          (List.take m ys ++
            [Value.int IntKind.u8
                (↑(((160 : Nat) + avLen (Av.sl (List.take m ys) m) % (90 : Nat)) % (256 : Nat)) : Int),
              Value.int IntKind.u8
                (↑(((160 : Nat) + (avLen (Av.sl (List.take m ys) m) + (1 : Nat)) % (90 : Nat)) % (256 : Nat)) : Int),
              Value.int IntKind.u8
                (↑(((160 : Nat) + (avLen (Av.sl (List.take m ys) m) + (1 : Nat) + (1 : Nat)) % (90 : Nat)) %
                      (256 : Nat)) :
                  Int)]),
      Fl
        (List.take (avLen (Av.sl (List.take m ys) m))
          (List.take m ys ++
            [Value.int IntKind.u8
                (↑(((160 : Nat) + avLen (Av.sl (List.take m ys) m) % (90 : Nat)) % (256 : Nat)) : Int),
              Value.int IntKind.u8
                (↑(((160 : Nat) + (avLen (Av.sl (List.take m ys) m) + (1 : Nat)) % (90 : Nat)) % (256 : Nat)) : Int),
              Value.int IntKind.u8
                (↑(((160 : Nat) + (avLen (Av.sl (List.take m ys) m) + (1 : Nat) + (1 : Nat)) % (90 : Nat)) %
                      (256 : Nat)) :
                  Int)])),
      Byts
        (List.take (avLen (Av.sl (List.take m ys) m))
          (List.take m ys ++
            [Value.int IntKind.u8
                (↑(((160 : Nat) + avLen (Av.sl (List.take m ys) m) % (90 : Nat)) % (256 : Nat)) : Int),
              Value.int IntKind.u8
                (↑(((160 : Nat) + (avLen (Av.sl (List.take m ys) m) + (1 : Nat)) % (90 : Nat)) % (256 : Nat)) : Int),
              Value.int IntKind.u8
                (↑(((160 : Nat) + (avLen (Av.sl (List.take m ys) m) + (1 : Nat) + (1 : Nat)) % (90 : Nat)) %
                      (256 : Nat)) :
                  Int)])),
      avLen
            (Av.sl
              (List.take (avLen (Av.sl (List.take m ys) m))
                (List.take m ys ++
                  [Value.int IntKind.u8
                      (↑(((160 : Nat) + avLen (Av.sl (List.take m ys) m) % (90 : Nat)) % (256 : Nat)) : Int),
                    Value.int IntKind.u8
                      (↑(((160 : Nat) + (avLen (Av.sl (List.take m ys) m) + (1 : Nat)) % (90 : Nat)) % (256 : Nat)) :
                        Int),
                    Value.int IntKind.u8
                      (↑(((160 : Nat) + (avLen (Av.sl (List.take m ys) m) + (1 : Nat) + (1 : Nat)) % (90 : Nat)) %
                            (256 : Nat)) :
                        Int)]))
              (avLen (Av.sl (List.take m ys) m))) %
          (8 : Nat) =
        (0 : Nat),
      decide
          (avLen
              (Av.sl
                (List.take (avLen (Av.sl (List.take m ys) m))
                  (List.take m ys ++
                    [Value.int IntKind.u8
                        (↑(((160 : Nat) + avLen (Av.sl (List.take m ys) m) % (90 : Nat)) % (256 : Nat)) : Int),
                      Value.int IntKind.u8
                        (↑(((160 : Nat) + (avLen (Av.sl (List.take m ys) m) + (1 : Nat)) % (90 : Nat)) % (256 : Nat)) :
                          Int),
                      Value.int IntKind.u8
                        (↑(((160 : Nat) + (avLen (Av.sl (List.take m ys) m) + (1 : Nat) + (1 : Nat)) % (90 : Nat)) %
                              (256 : Nat)) :
                          Int)]))
                (avLen (Av.sl (List.take m ys) m))) =
            (0 : Nat)) =
        false,
      avLen
          (Av.sl
            (List.take (avLen (Av.sl (List.take m ys) m))
              (List.take m ys ++
                [Value.int IntKind.u8
                    (↑(((160 : Nat) + avLen (Av.sl (List.take m ys) m) % (90 : Nat)) % (256 : Nat)) : Int),
                  Value.int IntKind.u8
                    (↑(((160 : Nat) + (avLen (Av.sl (List.take m ys) m) + (1 : Nat)) % (90 : Nat)) % (256 : Nat)) :
                      Int),
                  Value.int IntKind.u8
                    (↑(((160 : Nat) + (avLen (Av.sl (List.take m ys) m) + (1 : Nat) + (1 : Nat)) % (90 : Nat)) %
                          (256 : Nat)) :
                      Int)]))
            (avLen (Av.sl (List.take m ys) m))) ≤
        (4096 : Nat),
      rdOk
          (List.take (avLen (Av.sl (List.take m ys) m))
            (List.take m ys ++
              [Value.int IntKind.u8
                  (↑(((160 : Nat) + avLen (Av.sl (List.take m ys) m) % (90 : Nat)) % (256 : Nat)) : Int),
                Value.int IntKind.u8
                  (↑(((160 : Nat) + (avLen (Av.sl (List.take m ys) m) + (1 : Nat)) % (90 : Nat)) % (256 : Nat)) : Int),
                Value.int IntKind.u8
                  (↑(((160 : Nat) + (avLen (Av.sl (List.take m ys) m) + (1 : Nat) + (1 : Nat)) % (90 : Nat)) %
                        (256 : Nat)) :
                    Int)]))
          (0 : Nat)
          (avLen
              (Av.sl
                (List.take (avLen (Av.sl (List.take m ys) m))
                  (List.take m ys ++
                    [Value.int IntKind.u8
                        (↑(((160 : Nat) + avLen (Av.sl (List.take m ys) m) % (90 : Nat)) % (256 : Nat)) : Int),
                      Value.int IntKind.u8
                        (↑(((160 : Nat) + (avLen (Av.sl (List.take m ys) m) + (1 : Nat)) % (90 : Nat)) % (256 : Nat)) :
                          Int),
                      Value.int IntKind.u8
                        (↑(((160 : Nat) + (avLen (Av.sl (List.take m ys) m) + (1 : Nat) + (1 : Nat)) % (90 : Nat)) %
                              (256 : Nat)) :
                          Int)]))
                (avLen (Av.sl (List.take m ys) m))) /
            (8 : Nat)) =
        true,
      decide
          (avLen
                (Av.sl
                  (List.take (avLen (Av.sl (List.take m ys) m))
                    (List.take m ys ++
                      [Value.int IntKind.u8
                          (↑(((160 : Nat) + avLen (Av.sl (List.take m ys) m) % (90 : Nat)) % (256 : Nat)) : Int),
                        Value.int IntKind.u8
                          (↑(((160 : Nat) + (avLen (Av.sl (List.take m ys) m) + (1 : Nat)) % (90 : Nat)) %
                                (256 : Nat)) :
                            Int),
                        Value.int IntKind.u8
                          (↑(((160 : Nat) + (avLen (Av.sl (List.take m ys) m) + (1 : Nat) + (1 : Nat)) % (90 : Nat)) %
                                (256 : Nat)) :
                            Int)]))
                  (avLen (Av.sl (List.take m ys) m))) /
              (8 : Nat) ≤
            (128 : Nat)) =
        false,
      m ≤ d ∧ d ≤ (9223372036854775807 : Nat), m ≤ List.length ys, Fl (List.take m ys), Byts (List.take m ys),
      avLen (Av.sl (List.take m ys) m) % (8 : Nat) = (0 : Nat),
      decide (avLen (Av.sl (List.take m ys) m) = (0 : Nat)) = false, avLen (Av.sl (List.take m ys) m) ≤ (4096 : Nat),
      rdOk (List.take m ys) (0 : Nat) (avLen (Av.sl (List.take m ys) m) / (8 : Nat)) = true,
      decide (avLen (Av.sl (List.take m ys) m) / (8 : Nat) ≤ (128 : Nat)) = false, Byts [], Byts [], true = true,
      Ints IntKind.i64 [], ([] : List Value) = [], (0 : Nat) = (0 : Nat),
      avLen (Av.sl (List.take m ys) m) + (3 : Nat) ≤ (9223372036854775807 : Nat),
      avLen (Av.sl (List.take m ys) m) + (3 : Nat) ≤
        List.length
          (List.take m ys ++
            [Value.int IntKind.u8
                (↑(((160 : Nat) + avLen (Av.sl (List.take m ys) m) % (90 : Nat)) % (256 : Nat)) : Int),
              Value.int IntKind.u8
                (↑(((160 : Nat) + (avLen (Av.sl (List.take m ys) m) + (1 : Nat)) % (90 : Nat)) % (256 : Nat)) : Int),
              Value.int IntKind.u8
                (↑(((160 : Nat) + (avLen (Av.sl (List.take m ys) m) + (1 : Nat) + (1 : Nat)) % (90 : Nat)) %
                      (256 : Nat)) :
                  Int)]),
      Fl
        (List.take (avLen (Av.sl (List.take m ys) m) + (3 : Nat))
          (List.take m ys ++
            [Value.int IntKind.u8
                (↑(((160 : Nat) + avLen (Av.sl (List.take m ys) m) % (90 : Nat)) % (256 : Nat)) : Int),
              Value.int IntKind.u8
                (↑(((160 : Nat) + (avLen (Av.sl (List.take m ys) m) + (1 : Nat)) % (90 : Nat)) % (256 : Nat)) : Int),
              Value.int IntKind.u8
                (↑(((160 : Nat) + (avLen (Av.sl (List.take m ys) m) + (1 : Nat) + (1 : Nat)) % (90 : Nat)) %
                      (256 : Nat)) :
                  Int)])),
      m ≤ d ∧ d ≤ (9223372036854775807 : Nat), m ≤ List.length ys, Fl (List.take m ys),
      Byts
        (List.take (avLen (Av.sl (List.take m ys) m) + (3 : Nat))
          (List.take m ys ++
            [Value.int IntKind.u8
                (↑(((160 : Nat) + avLen (Av.sl (List.take m ys) m) % (90 : Nat)) % (256 : Nat)) : Int),
              Value.int IntKind.u8
                (↑(((160 : Nat) + (avLen (Av.sl (List.take m ys) m) + (1 : Nat)) % (90 : Nat)) % (256 : Nat)) : Int),
              Value.int IntKind.u8
                (↑(((160 : Nat) + (avLen (Av.sl (List.take m ys) m) + (1 : Nat) + (1 : Nat)) % (90 : Nat)) %
                      (256 : Nat)) :
                  Int)])),
      Byts (List.take m ys), avLen (Av.sl (List.take m ys) m) = avLen (Av.sl (List.take m ys) m),
      avLen (Av.sl (List.take m ys) m) + (3 : Nat) = avLen (Av.sl (List.take m ys) m) + (3 : Nat),
      avLen (Av.sl (List.take m ys) m) ≤ (1099511627776 : Nat),
      decide
          (intsOf
              (List.take (avLen (Av.sl (List.take m ys) m) + (3 : Nat))
                (List.take m ys ++
                  [Value.int IntKind.u8
                      (↑(((160 : Nat) + avLen (Av.sl (List.take m ys) m) % (90 : Nat)) % (256 : Nat)) : Int),
                    Value.int IntKind.u8
                      (↑(((160 : Nat) + (avLen (Av.sl (List.take m ys) m) + (1 : Nat)) % (90 : Nat)) % (256 : Nat)) :
                        Int),
                    Value.int IntKind.u8
                      (↑(((160 : Nat) + (avLen (Av.sl (List.take m ys) m) + (1 : Nat) + (1 : Nat)) % (90 : Nat)) %
                            (256 : Nat)) :
                        Int)])) =
            intsOf
              (List.take m ys ++
                [Value.int IntKind.u8
                    (↑(((160 : Nat) + avLen (Av.sl (List.take m ys) m) % (90 : Nat)) % (256 : Nat)) : Int),
                  Value.int IntKind.u8
                    (↑(((160 : Nat) + (avLen (Av.sl (List.take m ys) m) + (1 : Nat)) % (90 : Nat)) % (256 : Nat)) :
                      Int),
                  Value.int IntKind.u8
                    (↑(((160 : Nat) + (avLen (Av.sl (List.take m ys) m) + (1 : Nat) + (1 : Nat)) % (90 : Nat)) %
                          (256 : Nat)) :
                      Int)])) =
        true]) := by kernel_rfl
theorem cb_ok_long (xs ys : List Value) (n c m d : Nat) : runZ (cbV 2) Try.prog 5 7 [cbA n c, cbB m d] [(0, ⟨.old, xs⟩), (1, ⟨.old, ys⟩)] 2 ([false, false] ++ [false, false, true] ++ [false, false, true] ++ [false, false, true, true] ++ [false, false, true, true] ++ [true, true]) =
Res.ok
  ((Value.bool true, [((0 : Nat), Rw.mk Kd.old xs), ((1 : Nat), Rw.mk Kd.old ys)], (7 : Nat), []), [],
    [decide ((↑n : Int) > (200 : Int)) = false, decide ((↑m : Int) > (2000 : Int)) = false,
      m ≤ d ∧ d ≤ (9223372036854775807 : Nat), m ≤ List.length ys, Fl (List.take m ys), Byts (List.take m ys),
      avLen (Av.sl (List.take m ys) m) ≤ (1099511627776 : Nat), (0 : Nat) < (18446744073709551616 : Nat),
      (0 : Nat) < (0 : Nat) + n, (0 : Nat) ≤ (0 : Nat),
      ((0 : Nat) + n) * (16 : Nat) ≤ (140737488355328 : Nat) ∧ (0 : Nat) + n ≤ (9223372036854775807 : Nat),
      n * (2 : Nat) ≤ List.length xs, all1 (List.take (n * (2 : Nat)) xs) = true,
      capBig + (4 : Nat) = capBig + (4 : Nat),
      ((0 : Nat) + n) * (2 : Nat) ≤ List.length ([] ++ List.take (n * (2 : Nat)) xs), (0 : Nat) < (2 : Nat),
      ((0 : Nat) + n) * (2 : Nat) ≤ List.length ([] ++ List.take (n * (2 : Nat)) xs),
      Fl (List.take (((0 : Nat) + n) * (2 : Nat)) ([] ++ List.take (n * (2 : Nat)) xs)),
      Ints IntKind.i64 (List.take (((0 : Nat) + n) * (2 : Nat)) ([] ++ List.take (n * (2 : Nat)) xs)),
      decide
          (avLen
              (Av.sl (List.take (((0 : Nat) + n) * (2 : Nat)) ([] ++ List.take (n * (2 : Nat)) xs)) ((0 : Nat) + n)) =
            (0 : Nat)) =
        false,
      decide
          (avLen
              (Av.sl (List.take (((0 : Nat) + n) * (2 : Nat)) ([] ++ List.take (n * (2 : Nat)) xs)) ((0 : Nat) + n)) ≤
            (128 : Nat)) =
        true,
      wrOk (List.take (((0 : Nat) + n) * (2 : Nat)) ([] ++ List.take (n * (2 : Nat)) xs)) (0 : Nat)
          (avLen
            (Av.sl (List.take (((0 : Nat) + n) * (2 : Nat)) ([] ++ List.take (n * (2 : Nat)) xs)) ((0 : Nat) + n))) =
        true,
      n ≤ c ∧ c ≤ (9223372036854775807 : Nat), n * (2 : Nat) ≤ List.length xs, Fl (List.take (n * (2 : Nat)) xs),
      Ints IntKind.i64 (List.take (n * (2 : Nat)) xs),
      decide (avLen (Av.sl (List.take (n * (2 : Nat)) xs) n) = (0 : Nat)) = false,
      decide (avLen (Av.sl (List.take (n * (2 : Nat)) xs) n) ≤ (128 : Nat)) = true,
      wrOk (List.take (n * (2 : Nat)) xs) (0 : Nat) (avLen (Av.sl (List.take (n * (2 : Nat)) xs) n)) = true,
      avLen (Av.sl (List.take m ys) m) ≤ avLen (Av.sl (List.take m ys) m) + (3 : Nat) ∧
        avLen (Av.sl (List.take m ys) m) + (3 : Nat) ≤ (9223372036854775807 : Nat),
      avLen (Av.sl (List.take m ys) m) ≤
        List.length
          (List.take m ys ++
            [Value.int IntKind.u8
                (↑(((160 : Nat) + avLen (Av.sl (List.take m ys) m) % (90 : Nat)) % (256 : Nat)) : Int),
              Value.int IntKind.u8
                (↑(((160 : Nat) + (avLen (Av.sl (List.take m ys) m) + (1 : Nat)) % (90 : Nat)) % (256 : Nat)) : Int),
              Value.int IntKind.u8
                (↑(((160 : Nat) + (avLen (Av.sl (List.take m ys) m) + (1 : Nat) + (1 : Nat)) % (90 : Nat)) %
                      (256 : Nat)) :
                  Int)]),
      Fl
        (List.take (avLen (Av.sl (List.take m ys) m))
          (List.take m ys ++
            [Value.int IntKind.u8
                (↑(((160 : Nat) + avLen (Av.sl (List.take m ys) m) % (90 : Nat)) % (256 : Nat)) : Int),
              Value.int IntKind.u8
                (↑(((160 : Nat) + (avLen (Av.sl (List.take m ys) m) + (1 : Nat)) % (90 : Nat)) % (256 : Nat)) : Int),
              Value.int IntKind.u8
                (↑(((160 : Nat) + (avLen (Av.sl (List.take m ys) m) + (1 : Nat) + (1 : Nat)) % (90 : Nat)) %
                      (256 : Nat)) :
                  Int)])),
      Byts
        (List.take (avLen (Av.sl (List.take m ys) m))
          (List.take m ys ++
            [Value.int IntKind.u8
                (↑(((160 : Nat) + avLen (Av.sl (List.take m ys) m) % (90 : Nat)) % (256 : Nat)) : Int),
              Value.int IntKind.u8
                (↑(((160 : Nat) + (avLen (Av.sl (List.take m ys) m) + (1 : Nat)) % (90 : Nat)) % (256 : Nat)) : Int),
              Value.int IntKind.u8
                (↑(((160 : Nat) + (avLen (Av.sl (List.take m ys) m) + (1 : Nat) + (1 : Nat)) % (90 : Nat)) %
                      (256 : Nat)) :
                  Int)])),
      avLen
            (Av.sl
              (List.take (avLen (Av.sl (List.take m ys) m))
                (List.take m ys ++
                  [Value.int IntKind.u8
                      (↑(((160 : Nat) + avLen (Av.sl (List.take m ys) m) % (90 : Nat)) % (256 : Nat)) : Int),
                    Value.int IntKind.u8
                      (↑(((160 : Nat) + (avLen (Av.sl (List.take m ys) m) + (1 : Nat)) % (90 : Nat)) % (256 : Nat)) :
                        Int),
                    Value.int IntKind.u8
                      (↑(((160 : Nat) + (avLen (Av.sl (List.take m ys) m) + (1 : Nat) + (1 : Nat)) % (90 : Nat)) %
                            (256 : Nat)) :
                        Int)]))
              (avLen (Av.sl (List.take m ys) m))) %
          (8 : Nat) =
        (0 : Nat),
      decide
          (avLen
              (Av.sl
                (List.take (avLen (Av.sl (List.take m ys) m))
                  (List.take m ys ++
                    [Value.int IntKind.u8
                        (↑(((160 : Nat) + avLen (Av.sl (List.take m ys) m) % (90 : Nat)) % (256 : Nat)) : Int),
                      Value.int IntKind.u8
                        (↑(((160 : Nat) + (avLen (Av.sl (List.take m ys) m) + (1 : Nat)) % (90 : Nat)) % (256 : Nat)) :
                          Int),
                      Value.int IntKind.u8
                        (↑(((160 : Nat) + (avLen (Av.sl (List.take m ys) m) + (1 : Nat) + (1 : Nat)) % (90 : Nat)) %
                              (256 : Nat)) :
                          Int)]))
                (avLen (Av.sl (List.take m ys) m))) =
            (0 : Nat)) =
        false,
      avLen
          (Av.sl
            (List.take (avLen (Av.sl (List.take m ys) m))
              (List.take m ys ++
                [Value.int IntKind.u8
                    (↑(((160 : Nat) + avLen (Av.sl (List.take m ys) m) % (90 : Nat)) % (256 : Nat)) : Int),
                  Value.int IntKind.u8
                    (↑(((160 : Nat) + (avLen (Av.sl (List.take m ys) m) + (1 : Nat)) % (90 : Nat)) % (256 : Nat)) :
                      Int),
                  Value.int IntKind.u8
                    (↑(((160 : Nat) + (avLen (Av.sl (List.take m ys) m) + (1 : Nat) + (1 : Nat)) % (90 : Nat)) %
                          (256 : Nat)) :
                      Int)]))
            (avLen (Av.sl (List.take m ys) m))) ≤
        (4096 : Nat),
      rdOk
          (List.take (avLen (Av.sl (List.take m ys) m))
            (List.take m ys ++
              [Value.int IntKind.u8
                  (↑(((160 : Nat) + avLen (Av.sl (List.take m ys) m) % (90 : Nat)) % (256 : Nat)) : Int),
                Value.int IntKind.u8
                  (↑(((160 : Nat) + (avLen (Av.sl (List.take m ys) m) + (1 : Nat)) % (90 : Nat)) % (256 : Nat)) : Int),
                Value.int IntKind.u8
                  (↑(((160 : Nat) + (avLen (Av.sl (List.take m ys) m) + (1 : Nat) + (1 : Nat)) % (90 : Nat)) %
                        (256 : Nat)) :
                    Int)]))
          (0 : Nat)
          (avLen
              (Av.sl
                (List.take (avLen (Av.sl (List.take m ys) m))
                  (List.take m ys ++
                    [Value.int IntKind.u8
                        (↑(((160 : Nat) + avLen (Av.sl (List.take m ys) m) % (90 : Nat)) % (256 : Nat)) : Int),
                      Value.int IntKind.u8
                        (↑(((160 : Nat) + (avLen (Av.sl (List.take m ys) m) + (1 : Nat)) % (90 : Nat)) % (256 : Nat)) :
                          Int),
                      Value.int IntKind.u8
                        (↑(((160 : Nat) + (avLen (Av.sl (List.take m ys) m) + (1 : Nat) + (1 : Nat)) % (90 : Nat)) %
                              (256 : Nat)) :
                          Int)]))
                (avLen (Av.sl (List.take m ys) m))) /
            (8 : Nat)) =
        true,
      decide
          (avLen
                (Av.sl
                  (List.take (avLen (Av.sl (List.take m ys) m))
                    (List.take m ys ++
                      [Value.int IntKind.u8
                          (↑(((160 : Nat) + avLen (Av.sl (List.take m ys) m) % (90 : Nat)) % (256 : Nat)) : Int),
                        Value.int IntKind.u8
                          (↑(((160 : Nat) + (avLen (Av.sl (List.take m ys) m) + (1 : Nat)) % (90 : Nat)) %
                                (256 : Nat)) :
                            Int),
                        Value.int IntKind.u8
                          (↑(((160 : Nat) + (avLen (Av.sl (List.take m ys) m) + (1 : Nat) + (1 : Nat)) % (90 : Nat)) %
                                (256 : Nat)) :
                            Int)]))
                  (avLen (Av.sl (List.take m ys) m))) /
              (8 : Nat) ≤
            (128 : Nat)) =
        false,
      m ≤ d ∧ d ≤ (9223372036854775807 : Nat), m ≤ List.length ys, Fl (List.take m ys), Byts (List.take m ys),
      avLen (Av.sl (List.take m ys) m) % (8 : Nat) = (0 : Nat),
      decide (avLen (Av.sl (List.take m ys) m) = (0 : Nat)) = false, avLen (Av.sl (List.take m ys) m) ≤ (4096 : Nat),
      rdOk (List.take m ys) (0 : Nat) (avLen (Av.sl (List.take m ys) m) / (8 : Nat)) = true,
      decide (avLen (Av.sl (List.take m ys) m) / (8 : Nat) ≤ (128 : Nat)) = false,
      capBig + (5 : Nat) = capBig + (5 : Nat),
      avLen (Av.sl (List.take (((0 : Nat) + n) * (2 : Nat)) ([] ++ List.take (n * (2 : Nat)) xs)) ((0 : Nat) + n)) *
          (8 : Nat) ≤
        List.length
          (wrL (List.take (((0 : Nat) + n) * (2 : Nat)) ([] ++ List.take (n * (2 : Nat)) xs)) (0 : Nat)
            (avLen
              (Av.sl (List.take (((0 : Nat) + n) * (2 : Nat)) ([] ++ List.take (n * (2 : Nat)) xs)) ((0 : Nat) + n)))),
      (0 : Nat) < (1 : Nat),
      avLen (Av.sl (List.take (((0 : Nat) + n) * (2 : Nat)) ([] ++ List.take (n * (2 : Nat)) xs)) ((0 : Nat) + n)) *
          (8 : Nat) ≤
        List.length
          (wrL (List.take (((0 : Nat) + n) * (2 : Nat)) ([] ++ List.take (n * (2 : Nat)) xs)) (0 : Nat)
            (avLen
              (Av.sl (List.take (((0 : Nat) + n) * (2 : Nat)) ([] ++ List.take (n * (2 : Nat)) xs)) ((0 : Nat) + n)))),
      Fl
        (List.take
          (avLen
              (Av.sl (List.take (((0 : Nat) + n) * (2 : Nat)) ([] ++ List.take (n * (2 : Nat)) xs)) ((0 : Nat) + n)) *
            (8 : Nat))
          (wrL (List.take (((0 : Nat) + n) * (2 : Nat)) ([] ++ List.take (n * (2 : Nat)) xs)) (0 : Nat)
            (avLen
              (Av.sl (List.take (((0 : Nat) + n) * (2 : Nat)) ([] ++ List.take (n * (2 : Nat)) xs)) ((0 : Nat) + n))))),
      capBig + (6 : Nat) = capBig + (6 : Nat),
      avLen (Av.sl (List.take (n * (2 : Nat)) xs) n) * (8 : Nat) ≤
        List.length (wrL (List.take (n * (2 : Nat)) xs) (0 : Nat) (avLen (Av.sl (List.take (n * (2 : Nat)) xs) n))),
      (0 : Nat) < (1 : Nat),
      avLen (Av.sl (List.take (n * (2 : Nat)) xs) n) * (8 : Nat) ≤
        List.length (wrL (List.take (n * (2 : Nat)) xs) (0 : Nat) (avLen (Av.sl (List.take (n * (2 : Nat)) xs) n))),
      Fl
        (List.take (avLen (Av.sl (List.take (n * (2 : Nat)) xs) n) * (8 : Nat))
          (wrL (List.take (n * (2 : Nat)) xs) (0 : Nat) (avLen (Av.sl (List.take (n * (2 : Nat)) xs) n)))),
      Byts
        (List.take
          (avLen
              (Av.sl (List.take (((0 : Nat) + n) * (2 : Nat)) ([] ++ List.take (n * (2 : Nat)) xs)) ((0 : Nat) + n)) *
            (8 : Nat))
          (wrL (List.take (((0 : Nat) + n) * (2 : Nat)) ([] ++ List.take (n * (2 : Nat)) xs)) (0 : Nat)
            (avLen
              (Av.sl (List.take (((0 : Nat) + n) * (2 : Nat)) ([] ++ List.take (n * (2 : Nat)) xs)) ((0 : Nat) + n))))),
      Byts
        (List.take (avLen (Av.sl (List.take (n * (2 : Nat)) xs) n) * (8 : Nat))
          (wrL (List.take (n * (2 : Nat)) xs) (0 : Nat) (avLen (Av.sl (List.take (n * (2 : Nat)) xs) n)))),
      decide
          (intsOf
              (List.take
                (avLen
                    (Av.sl (List.take (((0 : Nat) + n) * (2 : Nat)) ([] ++ List.take (n * (2 : Nat)) xs))
                      ((0 : Nat) + n)) *
                  (8 : Nat))
                (wrL (List.take (((0 : Nat) + n) * (2 : Nat)) ([] ++ List.take (n * (2 : Nat)) xs)) (0 : Nat)
                  (avLen
                    (Av.sl (List.take (((0 : Nat) + n) * (2 : Nat)) ([] ++ List.take (n * (2 : Nat)) xs))
                      ((0 : Nat) + n))))) =
            intsOf
              (List.take (avLen (Av.sl (List.take (n * (2 : Nat)) xs) n) * (8 : Nat))
                (wrL (List.take (n * (2 : Nat)) xs) (0 : Nat) (avLen (Av.sl (List.take (n * (2 : Nat)) xs) n))))) =
        true,
      Ints IntKind.i64 [], ([] : List Value) = [], (0 : Nat) = (0 : Nat), (0 : Nat) = (0 : Nat),
      capBig + (5 : Nat) = capBig + (5 : Nat),
      avLen (Av.sl (List.take (((0 : Nat) + n) * (2 : Nat)) ([] ++ List.take (n * (2 : Nat)) xs)) ((0 : Nat) + n)) *
          (8 : Nat) ≤
        List.length
          (wrL (List.take (((0 : Nat) + n) * (2 : Nat)) ([] ++ List.take (n * (2 : Nat)) xs)) (0 : Nat)
            (avLen
              (Av.sl (List.take (((0 : Nat) + n) * (2 : Nat)) ([] ++ List.take (n * (2 : Nat)) xs)) ((0 : Nat) + n)))),
      Byts
        (wrL (List.take (((0 : Nat) + n) * (2 : Nat)) ([] ++ List.take (n * (2 : Nat)) xs)) (0 : Nat)
          (avLen
            (Av.sl (List.take (((0 : Nat) + n) * (2 : Nat)) ([] ++ List.take (n * (2 : Nat)) xs)) ((0 : Nat) + n)))),
      avLen (Av.sl (List.take m ys) m) + (3 : Nat) ≤ (9223372036854775807 : Nat),
      avLen (Av.sl (List.take m ys) m) + (3 : Nat) ≤
        List.length
          (List.take m ys ++
            [Value.int IntKind.u8
                (↑(((160 : Nat) + avLen (Av.sl (List.take m ys) m) % (90 : Nat)) % (256 : Nat)) : Int),
              Value.int IntKind.u8
                (↑(((160 : Nat) + (avLen (Av.sl (List.take m ys) m) + (1 : Nat)) % (90 : Nat)) % (256 : Nat)) : Int),
              Value.int IntKind.u8
                (↑(((160 : Nat) + (avLen (Av.sl (List.take m ys) m) + (1 : Nat) + (1 : Nat)) % (90 : Nat)) %
                      (256 : Nat)) :
                  Int)]),
      Fl
        (List.take (avLen (Av.sl (List.take m ys) m) + (3 : Nat))
          (List.take m ys ++
            [Value.int IntKind.u8
                (↑(((160 : Nat) + avLen (Av.sl (List.take m ys) m) % (90 : Nat)) % (256 : Nat)) : Int),
              Value.int IntKind.u8
                (↑(((160 : Nat) + (avLen (Av.sl (List.take m ys) m) + (1 : Nat)) % (90 : Nat)) % (256 : Nat)) : Int),
              Value.int IntKind.u8
                (↑(((160 : Nat) + (avLen (Av.sl (List.take m ys) m) + (1 : Nat) + (1 : Nat)) % (90 : Nat)) %
                      (256 : Nat)) :
                  Int)])),
      m ≤ d ∧ d ≤ (9223372036854775807 : Nat), m ≤ List.length ys, Fl (List.take m ys),
      Byts
        (List.take (avLen (Av.sl (List.take m ys) m) + (3 : Nat))
          (List.take m ys ++
            [Value.int IntKind.u8
                (↑(((160 : Nat) + avLen (Av.sl (List.take m ys) m) % (90 : Nat)) % (256 : Nat)) : Int),
              Value.int IntKind.u8
                (↑(((160 : Nat) + (avLen (Av.sl (List.take m ys) m) + (1 : Nat)) % (90 : Nat)) % (256 : Nat)) : Int),
              Value.int IntKind.u8
                (↑(((160 : Nat) + (avLen (Av.sl (List.take m ys) m) + (1 : Nat) + (1 : Nat)) % (90 : Nat)) %
                      (256 : Nat)) :
                  Int)])),
      Byts (List.take m ys), avLen (Av.sl (List.take m ys) m) = avLen (Av.sl (List.take m ys) m),
      avLen (Av.sl (List.take m ys) m) + (3 : Nat) = avLen (Av.sl (List.take m ys) m) + (3 : Nat),
      avLen (Av.sl (List.take m ys) m) ≤ (1099511627776 : Nat),
      decide
          (intsOf
              (List.take (avLen (Av.sl (List.take m ys) m) + (3 : Nat))
                (List.take m ys ++
                  [Value.int IntKind.u8
                      (↑(((160 : Nat) + avLen (Av.sl (List.take m ys) m) % (90 : Nat)) % (256 : Nat)) : Int),
                    Value.int IntKind.u8
                      (↑(((160 : Nat) + (avLen (Av.sl (List.take m ys) m) + (1 : Nat)) % (90 : Nat)) % (256 : Nat)) :
                        Int),
                    Value.int IntKind.u8
                      (↑(((160 : Nat) + (avLen (Av.sl (List.take m ys) m) + (1 : Nat) + (1 : Nat)) % (90 : Nat)) %
                            (256 : Nat)) :
                        Int)])) =
            intsOf
              (List.take m ys ++
                [Value.int IntKind.u8
                    (↑(((160 : Nat) + avLen (Av.sl (List.take m ys) m) % (90 : Nat)) % (256 : Nat)) : Int),
                  Value.int IntKind.u8
                    (↑(((160 : Nat) + (avLen (Av.sl (List.take m ys) m) + (1 : Nat)) % (90 : Nat)) % (256 : Nat)) :
                      Int),
                  Value.int IntKind.u8
                    (↑(((160 : Nat) + (avLen (Av.sl (List.take m ys) m) + (1 : Nat) + (1 : Nat)) % (90 : Nat)) %
                          (256 : Nat)) :
                      Int)])) =
        true]) := by kernel_rfl
theorem cb_long_ok (xs ys : List Value) (n c m d : Nat) : runZ (cbV 2) Try.prog 5 7 [cbA n c, cbB m d] [(0, ⟨.old, xs⟩), (1, ⟨.old, ys⟩)] 2 ([false, false] ++ [true] ++ [true] ++ [false, false, true, false] ++ [false, false, true, false] ++ [true, true]) =
Res.ok
  ((Value.bool true, [((0 : Nat), Rw.mk Kd.old xs), ((1 : Nat), Rw.mk Kd.old ys)], (7 : Nat), []), [],
    [decide ((↑n : Int) > (200 : Int)) = false, decide ((↑m : Int) > (2000 : Int)) = false,
      m ≤ d ∧ d ≤ (9223372036854775807 : Nat), m ≤ List.length ys, Fl (List.take m ys), Byts (List.take m ys),
      avLen (Av.sl (List.take m ys) m) ≤ (1099511627776 : Nat), (0 : Nat) < (18446744073709551616 : Nat),
      (0 : Nat) < (0 : Nat) + n, (0 : Nat) ≤ (0 : Nat),
      ((0 : Nat) + n) * (16 : Nat) ≤ (140737488355328 : Nat) ∧ (0 : Nat) + n ≤ (9223372036854775807 : Nat),
      n * (2 : Nat) ≤ List.length xs, all1 (List.take (n * (2 : Nat)) xs) = true,
      capBig + (4 : Nat) = capBig + (4 : Nat),
      ((0 : Nat) + n) * (2 : Nat) ≤ List.length ([] ++ List.take (n * (2 : Nat)) xs), (0 : Nat) < (2 : Nat),
      ((0 : Nat) + n) * (2 : Nat) ≤ List.length ([] ++ List.take (n * (2 : Nat)) xs),
      Fl (List.take (((0 : Nat) + n) * (2 : Nat)) ([] ++ List.take (n * (2 : Nat)) xs)),
      Ints IntKind.i64 (List.take (((0 : Nat) + n) * (2 : Nat)) ([] ++ List.take (n * (2 : Nat)) xs)),
      decide
          (avLen
              (Av.sl (List.take (((0 : Nat) + n) * (2 : Nat)) ([] ++ List.take (n * (2 : Nat)) xs)) ((0 : Nat) + n)) ≤
            (128 : Nat)) =
        false,
      n ≤ c ∧ c ≤ (9223372036854775807 : Nat), n * (2 : Nat) ≤ List.length xs, Fl (List.take (n * (2 : Nat)) xs),
      Ints IntKind.i64 (List.take (n * (2 : Nat)) xs),
      decide (avLen (Av.sl (List.take (n * (2 : Nat)) xs) n) ≤ (128 : Nat)) = false,
      avLen (Av.sl (List.take m ys) m) ≤ avLen (Av.sl (List.take m ys) m) + (3 : Nat) ∧
        avLen (Av.sl (List.take m ys) m) + (3 : Nat) ≤ (9223372036854775807 : Nat),
      avLen (Av.sl (List.take m ys) m) ≤
        List.length
          (List.take m ys ++
            [Value.int IntKind.u8
                (↑(((160 : Nat) + avLen (Av.sl (List.take m ys) m) % (90 : Nat)) % (256 : Nat)) : Int),
              Value.int IntKind.u8
                (↑(((160 : Nat) + (avLen (Av.sl (List.take m ys) m) + (1 : Nat)) % (90 : Nat)) % (256 : Nat)) : Int),
              Value.int IntKind.u8
                (↑(((160 : Nat) + (avLen (Av.sl (List.take m ys) m) + (1 : Nat) + (1 : Nat)) % (90 : Nat)) %
                      (256 : Nat)) :
                  Int)]),
      Fl
        (List.take (avLen (Av.sl (List.take m ys) m))
          (List.take m ys ++
            [Value.int IntKind.u8
                (↑(((160 : Nat) + avLen (Av.sl (List.take m ys) m) % (90 : Nat)) % (256 : Nat)) : Int),
              Value.int IntKind.u8
                (↑(((160 : Nat) + (avLen (Av.sl (List.take m ys) m) + (1 : Nat)) % (90 : Nat)) % (256 : Nat)) : Int),
              Value.int IntKind.u8
                (↑(((160 : Nat) + (avLen (Av.sl (List.take m ys) m) + (1 : Nat) + (1 : Nat)) % (90 : Nat)) %
                      (256 : Nat)) :
                  Int)])),
      Byts
        (List.take (avLen (Av.sl (List.take m ys) m))
          (List.take m ys ++
            [Value.int IntKind.u8
                (↑(((160 : Nat) + avLen (Av.sl (List.take m ys) m) % (90 : Nat)) % (256 : Nat)) : Int),
              Value.int IntKind.u8
                (↑(((160 : Nat) + (avLen (Av.sl (List.take m ys) m) + (1 : Nat)) % (90 : Nat)) % (256 : Nat)) : Int),
              Value.int IntKind.u8
                (↑(((160 : Nat) + (avLen (Av.sl (List.take m ys) m) + (1 : Nat) + (1 : Nat)) % (90 : Nat)) %
                      (256 : Nat)) :
                  Int)])),
      avLen
            (Av.sl
              (List.take (avLen (Av.sl (List.take m ys) m))
                (List.take m ys ++
                  [Value.int IntKind.u8
                      (↑(((160 : Nat) + avLen (Av.sl (List.take m ys) m) % (90 : Nat)) % (256 : Nat)) : Int),
                    Value.int IntKind.u8
                      (↑(((160 : Nat) + (avLen (Av.sl (List.take m ys) m) + (1 : Nat)) % (90 : Nat)) % (256 : Nat)) :
                        Int),
                    Value.int IntKind.u8
                      (↑(((160 : Nat) + (avLen (Av.sl (List.take m ys) m) + (1 : Nat) + (1 : Nat)) % (90 : Nat)) %
                            (256 : Nat)) :
                        Int)]))
              (avLen (Av.sl (List.take m ys) m))) %
          (8 : Nat) =
        (0 : Nat),
      decide
          (avLen
              (Av.sl
                (List.take (avLen (Av.sl (List.take m ys) m))
                  (List.take m ys ++
                    [Value.int IntKind.u8
                        (↑(((160 : Nat) + avLen (Av.sl (List.take m ys) m) % (90 : Nat)) % (256 : Nat)) : Int),
                      Value.int IntKind.u8
                        (↑(((160 : Nat) + (avLen (Av.sl (List.take m ys) m) + (1 : Nat)) % (90 : Nat)) % (256 : Nat)) :
                          Int),
                      Value.int IntKind.u8
                        (↑(((160 : Nat) + (avLen (Av.sl (List.take m ys) m) + (1 : Nat) + (1 : Nat)) % (90 : Nat)) %
                              (256 : Nat)) :
                          Int)]))
                (avLen (Av.sl (List.take m ys) m))) =
            (0 : Nat)) =
        false,
      avLen
          (Av.sl
            (List.take (avLen (Av.sl (List.take m ys) m))
              (List.take m ys ++
                [Value.int IntKind.u8
                    (↑(((160 : Nat) + avLen (Av.sl (List.take m ys) m) % (90 : Nat)) % (256 : Nat)) : Int),
                  Value.int IntKind.u8
                    (↑(((160 : Nat) + (avLen (Av.sl (List.take m ys) m) + (1 : Nat)) % (90 : Nat)) % (256 : Nat)) :
                      Int),
                  Value.int IntKind.u8
                    (↑(((160 : Nat) + (avLen (Av.sl (List.take m ys) m) + (1 : Nat) + (1 : Nat)) % (90 : Nat)) %
                          (256 : Nat)) :
                      Int)]))
            (avLen (Av.sl (List.take m ys) m))) ≤
        (4096 : Nat),
      rdOk
          (List.take (avLen (Av.sl (List.take m ys) m))
            (List.take m ys ++
              [Value.int IntKind.u8
                  (↑(((160 : Nat) + avLen (Av.sl (List.take m ys) m) % (90 : Nat)) % (256 : Nat)) : Int),
                Value.int IntKind.u8
                  (↑(((160 : Nat) + (avLen (Av.sl (List.take m ys) m) + (1 : Nat)) % (90 : Nat)) % (256 : Nat)) : Int),
                Value.int IntKind.u8
                  (↑(((160 : Nat) + (avLen (Av.sl (List.take m ys) m) + (1 : Nat) + (1 : Nat)) % (90 : Nat)) %
                        (256 : Nat)) :
                    Int)]))
          (0 : Nat)
          (avLen
              (Av.sl
                (List.take (avLen (Av.sl (List.take m ys) m))
                  (List.take m ys ++
                    [Value.int IntKind.u8
                        (↑(((160 : Nat) + avLen (Av.sl (List.take m ys) m) % (90 : Nat)) % (256 : Nat)) : Int),
                      Value.int IntKind.u8
                        (↑(((160 : Nat) + (avLen (Av.sl (List.take m ys) m) + (1 : Nat)) % (90 : Nat)) % (256 : Nat)) :
                          Int),
                      Value.int IntKind.u8
                        (↑(((160 : Nat) + (avLen (Av.sl (List.take m ys) m) + (1 : Nat) + (1 : Nat)) % (90 : Nat)) %
                              (256 : Nat)) :
                          Int)]))
                (avLen (Av.sl (List.take m ys) m))) /
            (8 : Nat)) =
        true,
      decide
          (avLen
                (Av.sl
                  (List.take (avLen (Av.sl (List.take m ys) m))
                    (List.take m ys ++
                      [Value.int IntKind.u8
                          (↑(((160 : Nat) + avLen (Av.sl (List.take m ys) m) % (90 : Nat)) % (256 : Nat)) : Int),
                        Value.int IntKind.u8
                          (↑(((160 : Nat) + (avLen (Av.sl (List.take m ys) m) + (1 : Nat)) % (90 : Nat)) %
                                (256 : Nat)) :
                            Int),
                        Value.int IntKind.u8
                          (↑(((160 : Nat) + (avLen (Av.sl (List.take m ys) m) + (1 : Nat) + (1 : Nat)) % (90 : Nat)) %
                                (256 : Nat)) :
                            Int)]))
                  (avLen (Av.sl (List.take m ys) m))) /
              (8 : Nat) ≤
            (128 : Nat)) =
        true,
      m ≤ d ∧ d ≤ (9223372036854775807 : Nat), m ≤ List.length ys, Fl (List.take m ys), Byts (List.take m ys),
      avLen (Av.sl (List.take m ys) m) % (8 : Nat) = (0 : Nat),
      decide (avLen (Av.sl (List.take m ys) m) = (0 : Nat)) = false, avLen (Av.sl (List.take m ys) m) ≤ (4096 : Nat),
      rdOk (List.take m ys) (0 : Nat) (avLen (Av.sl (List.take m ys) m) / (8 : Nat)) = true,
      decide (avLen (Av.sl (List.take m ys) m) / (8 : Nat) ≤ (128 : Nat)) = true, Byts [], Byts [], true = true,
      capBig + (5 : Nat) = capBig + (5 : Nat),
      avLen
              (Av.sl
                (List.take (avLen (Av.sl (List.take m ys) m))
                  (List.take m ys ++
                    [Value.int IntKind.u8
                        (↑(((160 : Nat) + avLen (Av.sl (List.take m ys) m) % (90 : Nat)) % (256 : Nat)) : Int),
                      Value.int IntKind.u8
                        (↑(((160 : Nat) + (avLen (Av.sl (List.take m ys) m) + (1 : Nat)) % (90 : Nat)) % (256 : Nat)) :
                          Int),
                      Value.int IntKind.u8
                        (↑(((160 : Nat) + (avLen (Av.sl (List.take m ys) m) + (1 : Nat) + (1 : Nat)) % (90 : Nat)) %
                              (256 : Nat)) :
                          Int)]))
                (avLen (Av.sl (List.take m ys) m))) /
            (8 : Nat) *
          (2 : Nat) ≤
        List.length
          (rdL
            (List.take (avLen (Av.sl (List.take m ys) m))
              (List.take m ys ++
                [Value.int IntKind.u8
                    (↑(((160 : Nat) + avLen (Av.sl (List.take m ys) m) % (90 : Nat)) % (256 : Nat)) : Int),
                  Value.int IntKind.u8
                    (↑(((160 : Nat) + (avLen (Av.sl (List.take m ys) m) + (1 : Nat)) % (90 : Nat)) % (256 : Nat)) :
                      Int),
                  Value.int IntKind.u8
                    (↑(((160 : Nat) + (avLen (Av.sl (List.take m ys) m) + (1 : Nat) + (1 : Nat)) % (90 : Nat)) %
                          (256 : Nat)) :
                      Int)]))
            (0 : Nat)
            (avLen
                (Av.sl
                  (List.take (avLen (Av.sl (List.take m ys) m))
                    (List.take m ys ++
                      [Value.int IntKind.u8
                          (↑(((160 : Nat) + avLen (Av.sl (List.take m ys) m) % (90 : Nat)) % (256 : Nat)) : Int),
                        Value.int IntKind.u8
                          (↑(((160 : Nat) + (avLen (Av.sl (List.take m ys) m) + (1 : Nat)) % (90 : Nat)) %
                                (256 : Nat)) :
                            Int),
                        Value.int IntKind.u8
                          (↑(((160 : Nat) + (avLen (Av.sl (List.take m ys) m) + (1 : Nat) + (1 : Nat)) % (90 : Nat)) %
                                (256 : Nat)) :
                            Int)]))
                  (avLen (Av.sl (List.take m ys) m))) /
              (8 : Nat))),
      (0 : Nat) < (2 : Nat),
      avLen
              (Av.sl
                (List.take (avLen (Av.sl (List.take m ys) m))
                  (List.take m ys ++
                    [Value.int IntKind.u8
                        (↑(((160 : Nat) + avLen (Av.sl (List.take m ys) m) % (90 : Nat)) % (256 : Nat)) : Int),
                      Value.int IntKind.u8
                        (↑(((160 : Nat) + (avLen (Av.sl (List.take m ys) m) + (1 : Nat)) % (90 : Nat)) % (256 : Nat)) :
                          Int),
                      Value.int IntKind.u8
                        (↑(((160 : Nat) + (avLen (Av.sl (List.take m ys) m) + (1 : Nat) + (1 : Nat)) % (90 : Nat)) %
                              (256 : Nat)) :
                          Int)]))
                (avLen (Av.sl (List.take m ys) m))) /
            (8 : Nat) *
          (2 : Nat) ≤
        List.length
          (rdL
            (List.take (avLen (Av.sl (List.take m ys) m))
              (List.take m ys ++
                [Value.int IntKind.u8
                    (↑(((160 : Nat) + avLen (Av.sl (List.take m ys) m) % (90 : Nat)) % (256 : Nat)) : Int),
                  Value.int IntKind.u8
                    (↑(((160 : Nat) + (avLen (Av.sl (List.take m ys) m) + (1 : Nat)) % (90 : Nat)) % (256 : Nat)) :
                      Int),
                  Value.int IntKind.u8
                    (↑(((160 : Nat) + (avLen (Av.sl (List.take m ys) m) + (1 : Nat) + (1 : Nat)) % (90 : Nat)) %
                          (256 : Nat)) :
                      Int)]))
            (0 : Nat)
            (avLen
                (Av.sl
                  (List.take (avLen (Av.sl (List.take m ys) m))
                    (List.take m ys ++
                      [Value.int IntKind.u8
                          (↑(((160 : Nat) + avLen (Av.sl (List.take m ys) m) % (90 : Nat)) % (256 : Nat)) : Int),
                        Value.int IntKind.u8
                          (↑(((160 : Nat) + (avLen (Av.sl (List.take m ys) m) + (1 : Nat)) % (90 : Nat)) %
                                (256 : Nat)) :
                            Int),
                        Value.int IntKind.u8
                          (↑(((160 : Nat) + (avLen (Av.sl (List.take m ys) m) + (1 : Nat) + (1 : Nat)) % (90 : Nat)) %
                                (256 : Nat)) :
                            Int)]))
                  (avLen (Av.sl (List.take m ys) m))) /
              (8 : Nat))),
      Fl
        (List.take
          (avLen
                (Av.sl
                  (List.take (avLen (Av.sl (List.take m ys) m))
                    (List.take m ys ++
                      [Value.int IntKind.u8
                          (↑(((160 : Nat) + avLen (Av.sl (List.take m ys) m) % (90 : Nat)) % (256 : Nat)) : Int),
                        Value.int IntKind.u8
                          (↑(((160 : Nat) + (avLen (Av.sl (List.take m ys) m) + (1 : Nat)) % (90 : Nat)) %
                                (256 : Nat)) :
                            Int),
                        Value.int IntKind.u8
                          (↑(((160 : Nat) + (avLen (Av.sl (List.take m ys) m) + (1 : Nat) + (1 : Nat)) % (90 : Nat)) %
                                (256 : Nat)) :
                            Int)]))
                  (avLen (Av.sl (List.take m ys) m))) /
              (8 : Nat) *
            (2 : Nat))
          (rdL
            (List.take (avLen (Av.sl (List.take m ys) m))
              (List.take m ys ++
                [Value.int IntKind.u8
                    (↑(((160 : Nat) + avLen (Av.sl (List.take m ys) m) % (90 : Nat)) % (256 : Nat)) : Int),
                  Value.int IntKind.u8
                    (↑(((160 : Nat) + (avLen (Av.sl (List.take m ys) m) + (1 : Nat)) % (90 : Nat)) % (256 : Nat)) :
                      Int),
                  Value.int IntKind.u8
                    (↑(((160 : Nat) + (avLen (Av.sl (List.take m ys) m) + (1 : Nat) + (1 : Nat)) % (90 : Nat)) %
                          (256 : Nat)) :
                      Int)]))
            (0 : Nat)
            (avLen
                (Av.sl
                  (List.take (avLen (Av.sl (List.take m ys) m))
                    (List.take m ys ++
                      [Value.int IntKind.u8
                          (↑(((160 : Nat) + avLen (Av.sl (List.take m ys) m) % (90 : Nat)) % (256 : Nat)) : Int),
                        Value.int IntKind.u8
                          (↑(((160 : Nat) + (avLen (Av.sl (List.take m ys) m) + (1 : Nat)) % (90 : Nat)) %
                                (256 : Nat)) :
                            Int),
                        Value.int IntKind.u8
                          (↑(((160 : Nat) + (avLen (Av.sl (List.take m ys) m) + (1 : Nat) + (1 : Nat)) % (90 : Nat)) %
                                (256 : Nat)) :
                            Int)]))
                  (avLen (Av.sl (List.take m ys) m))) /
              (8 : Nat)))),
      capBig + (6 : Nat) = capBig + (6 : Nat),
      avLen (Av.sl (List.take m ys) m) / (8 : Nat) * (2 : Nat) ≤
        List.length (rdL (List.take m ys) (0 : Nat) (avLen (Av.sl (List.take m ys) m) / (8 : Nat))),
      (0 : Nat) < (2 : Nat),
      avLen (Av.sl (List.take m ys) m) / (8 : Nat) * (2 : Nat) ≤
        List.length (rdL (List.take m ys) (0 : Nat) (avLen (Av.sl (List.take m ys) m) / (8 : Nat))),
      Fl
        (List.take (avLen (Av.sl (List.take m ys) m) / (8 : Nat) * (2 : Nat))
          (rdL (List.take m ys) (0 : Nat) (avLen (Av.sl (List.take m ys) m) / (8 : Nat)))),
      Ints IntKind.i64
        (List.take
          (avLen
                (Av.sl
                  (List.take (avLen (Av.sl (List.take m ys) m))
                    (List.take m ys ++
                      [Value.int IntKind.u8
                          (↑(((160 : Nat) + avLen (Av.sl (List.take m ys) m) % (90 : Nat)) % (256 : Nat)) : Int),
                        Value.int IntKind.u8
                          (↑(((160 : Nat) + (avLen (Av.sl (List.take m ys) m) + (1 : Nat)) % (90 : Nat)) %
                                (256 : Nat)) :
                            Int),
                        Value.int IntKind.u8
                          (↑(((160 : Nat) + (avLen (Av.sl (List.take m ys) m) + (1 : Nat) + (1 : Nat)) % (90 : Nat)) %
                                (256 : Nat)) :
                            Int)]))
                  (avLen (Av.sl (List.take m ys) m))) /
              (8 : Nat) *
            (2 : Nat))
          (rdL
            (List.take (avLen (Av.sl (List.take m ys) m))
              (List.take m ys ++
                [Value.int IntKind.u8
                    (↑(((160 : Nat) + avLen (Av.sl (List.take m ys) m) % (90 : Nat)) % (256 : Nat)) : Int),
                  Value.int IntKind.u8
                    (↑(((160 : Nat) + (avLen (Av.sl (List.take m ys) m) + (1 : Nat)) % (90 : Nat)) % (256 : Nat)) :
                      Int),
                  Value.int IntKind.u8
                    (↑(((160 : Nat) + (avLen (Av.sl (List.take m ys) m) + (1 : Nat) + (1 : Nat)) % (90 : Nat)) %
                          (256 : Nat)) :
                      Int)]))
            (0 : Nat)
            (avLen
                (Av.sl
                  (List.take (avLen (Av.sl (List.take m ys) m))
                    (List.take m ys ++
                      [Value.int IntKind.u8
                          (↑(((160 : Nat) + avLen (Av.sl (List.take m ys) m) % (90 : Nat)) % (256 : Nat)) : Int),
                        Value.int IntKind.u8
                          (↑(((160 : Nat) + (avLen (Av.sl (List.take m ys) m) + (1 : Nat)) % (90 : Nat)) %
                                (256 : Nat)) :
                            Int),
                        Value.int IntKind.u8
                          (↑(((160 : Nat) + (avLen (Av.sl (List.take m ys) m) + (1 : Nat) + (1 : Nat)) % (90 : Nat)) %
                                (256 : Nat)) :
                            Int)]))
                  (avLen (Av.sl (List.take m ys) m))) /
              (8 : Nat)))),
      List.take (avLen (Av.sl (List.take m ys) m) / (8 : Nat) * (2 : Nat))
          (rdL (List.take m ys) (0 : Nat) (avLen (Av.sl (List.take m ys) m) / (8 : Nat))) =
        List.take
          (avLen
                (Av.sl
                  (List.take (avLen (Av.sl (List.take m ys) m))
                    (List.take m ys ++
                      [Value.int IntKind.u8
                          (↑(((160 : Nat) + avLen (Av.sl (List.take m ys) m) % (90 : Nat)) % (256 : Nat)) : Int),
                        Value.int IntKind.u8
                          (↑(((160 : Nat) + (avLen (Av.sl (List.take m ys) m) + (1 : Nat)) % (90 : Nat)) %
                                (256 : Nat)) :
                            Int),
                        Value.int IntKind.u8
                          (↑(((160 : Nat) + (avLen (Av.sl (List.take m ys) m) + (1 : Nat) + (1 : Nat)) % (90 : Nat)) %
                                (256 : Nat)) :
                            Int)]))
                  (avLen (Av.sl (List.take m ys) m))) /
              (8 : Nat) *
            (2 : Nat))
          (rdL
            (List.take (avLen (Av.sl (List.take m ys) m))
              (List.take m ys ++
                [Value.int IntKind.u8
                    (↑(((160 : Nat) + avLen (Av.sl (List.take m ys) m) % (90 : Nat)) % (256 : Nat)) : Int),
                  Value.int IntKind.u8
                    (↑(((160 : Nat) + (avLen (Av.sl (List.take m ys) m) + (1 : Nat)) % (90 : Nat)) % (256 : Nat)) :
                      Int),
                  Value.int IntKind.u8
                    (↑(((160 : Nat) + (avLen (Av.sl (List.take m ys) m) + (1 : Nat) + (1 : Nat)) % (90 : Nat)) %
                          (256 : Nat)) :
                      Int)]))
            (0 : Nat)
            (avLen
                (Av.sl
                  (List.take (avLen (Av.sl (List.take m ys) m))
                    (List.take m ys ++
                      [Value.int IntKind.u8
                          (↑(((160 : Nat) + avLen (Av.sl (List.take m ys) m) % (90 : Nat)) % (256 : Nat)) : Int),
                        Value.int IntKind.u8
                          (↑(((160 : Nat) + (avLen (Av.sl (List.take m ys) m) + (1 : Nat)) % (90 : Nat)) %
                                (256 : Nat)) :
                            Int),
                        Value.int IntKind.u8
                          (↑(((160 : Nat) + (avLen (Av.sl (List.take m ys) m) + (1 : Nat) + (1 : Nat)) % (90 : Nat)) %
                                (256 : Nat)) :
                            Int)]))
                  (avLen (Av.sl (List.take m ys) m))) /
              (8 : Nat))),
      avLen
          (Av.sl
            (List.take (avLen (Av.sl (List.take m ys) m) / (8 : Nat) * (2 : Nat))
              (rdL (List.take m ys) (0 : Nat) (avLen (Av.sl (List.take m ys) m) / (8 : Nat))))
            (avLen (Av.sl (List.take m ys) m) / (8 : Nat))) =
        avLen
          (Av.sl
            (List.take
              (avLen
                    (Av.sl
                      (List.take (avLen (Av.sl (List.take m ys) m))
                        (List.take m ys ++
                          [Value.int IntKind.u8
                              (↑(((160 : Nat) + avLen (Av.sl (List.take m ys) m) % (90 : Nat)) % (256 : Nat)) : Int),
                            Value.int IntKind.u8
                              (↑(((160 : Nat) + (avLen (Av.sl (List.take m ys) m) + (1 : Nat)) % (90 : Nat)) %
                                    (256 : Nat)) :
                                Int),
                            Value.int IntKind.u8
                              (↑(((160 : Nat) +
                                      (avLen (Av.sl (List.take m ys) m) + (1 : Nat) + (1 : Nat)) % (90 : Nat)) %
                                    (256 : Nat)) :
                                Int)]))
                      (avLen (Av.sl (List.take m ys) m))) /
                  (8 : Nat) *
                (2 : Nat))
              (rdL
                (List.take (avLen (Av.sl (List.take m ys) m))
                  (List.take m ys ++
                    [Value.int IntKind.u8
                        (↑(((160 : Nat) + avLen (Av.sl (List.take m ys) m) % (90 : Nat)) % (256 : Nat)) : Int),
                      Value.int IntKind.u8
                        (↑(((160 : Nat) + (avLen (Av.sl (List.take m ys) m) + (1 : Nat)) % (90 : Nat)) % (256 : Nat)) :
                          Int),
                      Value.int IntKind.u8
                        (↑(((160 : Nat) + (avLen (Av.sl (List.take m ys) m) + (1 : Nat) + (1 : Nat)) % (90 : Nat)) %
                              (256 : Nat)) :
                          Int)]))
                (0 : Nat)
                (avLen
                    (Av.sl
                      (List.take (avLen (Av.sl (List.take m ys) m))
                        (List.take m ys ++
                          [Value.int IntKind.u8
                              (↑(((160 : Nat) + avLen (Av.sl (List.take m ys) m) % (90 : Nat)) % (256 : Nat)) : Int),
                            Value.int IntKind.u8
                              (↑(((160 : Nat) + (avLen (Av.sl (List.take m ys) m) + (1 : Nat)) % (90 : Nat)) %
                                    (256 : Nat)) :
                                Int),
                            Value.int IntKind.u8
                              (↑(((160 : Nat) +
                                      (avLen (Av.sl (List.take m ys) m) + (1 : Nat) + (1 : Nat)) % (90 : Nat)) %
                                    (256 : Nat)) :
                                Int)]))
                      (avLen (Av.sl (List.take m ys) m))) /
                  (8 : Nat))))
            (avLen
                (Av.sl
                  (List.take (avLen (Av.sl (List.take m ys) m))
                    (List.take m ys ++
                      [Value.int IntKind.u8
                          (↑(((160 : Nat) + avLen (Av.sl (List.take m ys) m) % (90 : Nat)) % (256 : Nat)) : Int),
                        Value.int IntKind.u8
                          (↑(((160 : Nat) + (avLen (Av.sl (List.take m ys) m) + (1 : Nat)) % (90 : Nat)) %
                                (256 : Nat)) :
                            Int),
                        Value.int IntKind.u8
                          (↑(((160 : Nat) + (avLen (Av.sl (List.take m ys) m) + (1 : Nat) + (1 : Nat)) % (90 : Nat)) %
                                (256 : Nat)) :
                            Int)]))
                  (avLen (Av.sl (List.take m ys) m))) /
              (8 : Nat))),
      avLen (Av.sl (List.take m ys) m) + (3 : Nat) ≤ (9223372036854775807 : Nat),
      avLen (Av.sl (List.take m ys) m) + (3 : Nat) ≤
        List.length
          (List.take m ys ++
            [Value.int IntKind.u8
                (↑(((160 : Nat) + avLen (Av.sl (List.take m ys) m) % (90 : Nat)) % (256 : Nat)) : Int),
              Value.int IntKind.u8
                (↑(((160 : Nat) + (avLen (Av.sl (List.take m ys) m) + (1 : Nat)) % (90 : Nat)) % (256 : Nat)) : Int),
              Value.int IntKind.u8
                (↑(((160 : Nat) + (avLen (Av.sl (List.take m ys) m) + (1 : Nat) + (1 : Nat)) % (90 : Nat)) %
                      (256 : Nat)) :
                  Int)]),
      Fl
        (List.take (avLen (Av.sl (List.take m ys) m) + (3 : Nat))
          (List.take m ys ++
            [Value.int IntKind.u8
                (↑(((160 : Nat) + avLen (Av.sl (List.take m ys) m) % (90 : Nat)) % (256 : Nat)) : Int),
              Value.int IntKind.u8
                (↑(((160 : Nat) + (avLen (Av.sl (List.take m ys) m) + (1 : Nat)) % (90 : Nat)) % (256 : Nat)) : Int),
              Value.int IntKind.u8
                (↑(((160 : Nat) + (avLen (Av.sl (List.take m ys) m) + (1 : Nat) + (1 : Nat)) % (90 : Nat)) %
                      (256 : Nat)) :
                  Int)])),
      m ≤ d ∧ d ≤ (9223372036854775807 : Nat), m ≤ List.length ys, Fl (List.take m ys),
      Byts
        (List.take (avLen (Av.sl (List.take m ys) m) + (3 : Nat))
          (List.take m ys ++
            [Value.int IntKind.u8
                (↑(((160 : Nat) + avLen (Av.sl (List.take m ys) m) % (90 : Nat)) % (256 : Nat)) : Int),
              Value.int IntKind.u8
                (↑(((160 : Nat) + (avLen (Av.sl (List.take m ys) m) + (1 : Nat)) % (90 : Nat)) % (256 : Nat)) : Int),
              Value.int IntKind.u8
                (↑(((160 : Nat) + (avLen (Av.sl (List.take m ys) m) + (1 : Nat) + (1 : Nat)) % (90 : Nat)) %
                      (256 : Nat)) :
                  Int)])),
      Byts (List.take m ys), avLen (Av.sl (List.take m ys) m) = avLen (Av.sl (List.take m ys) m),
      avLen (Av.sl (List.take m ys) m) + (3 : Nat) = avLen (Av.sl (List.take m ys) m) + (3 : Nat),
      avLen (Av.sl (List.take m ys) m) ≤ (1099511627776 : Nat),
      decide
          (intsOf
              (List.take (avLen (Av.sl (List.take m ys) m) + (3 : Nat))
                (List.take m ys ++
                  [Value.int IntKind.u8
                      (↑(((160 : Nat) + avLen (Av.sl (List.take m ys) m) % (90 : Nat)) % (256 : Nat)) : Int),
                    Value.int IntKind.u8
                      (↑(((160 : Nat) + (avLen (Av.sl (List.take m ys) m) + (1 : Nat)) % (90 : Nat)) % (256 : Nat)) :
                        Int),
                    Value.int IntKind.u8
                      (↑(((160 : Nat) + (avLen (Av.sl (List.take m ys) m) + (1 : Nat) + (1 : Nat)) % (90 : Nat)) %
                            (256 : Nat)) :
                        Int)])) =
            intsOf
              (List.take m ys ++
                [Value.int IntKind.u8
                    (↑(((160 : Nat) + avLen (Av.sl (List.take m ys) m) % (90 : Nat)) % (256 : Nat)) : Int),
                  Value.int IntKind.u8
                    (↑(((160 : Nat) + (avLen (Av.sl (List.take m ys) m) + (1 : Nat)) % (90 : Nat)) % (256 : Nat)) :
                      Int),
                  Value.int IntKind.u8
                    (↑(((160 : Nat) + (avLen (Av.sl (List.take m ys) m) + (1 : Nat) + (1 : Nat)) % (90 : Nat)) %
                          (256 : Nat)) :
                      Int)])) =
        true]) := by kernel_rfl
theorem cb_not_ok (xs ys : List Value) (n c m d : Nat) : runZ (cbV 2) Try.prog 5 7 [cbA n c, cbB m d] [(0, ⟨.old, xs⟩), (1, ⟨.old, ys⟩)] 2 ([false, false] ++ [false, false, false] ++ [false, false, false] ++ [false, false, true, false] ++ [false, false, true, false] ++ [true, true]) =
Res.ok
  ((Value.bool true, [((0 : Nat), Rw.mk Kd.old xs), ((1 : Nat), Rw.mk Kd.old ys)], (7 : Nat), []), [],
    [decide ((↑n : Int) > (200 : Int)) = false, decide ((↑m : Int) > (2000 : Int)) = false,
      m ≤ d ∧ d ≤ (9223372036854775807 : Nat), m ≤ List.length ys, Fl (List.take m ys), Byts (List.take m ys),
      avLen (Av.sl (List.take m ys) m) ≤ (1099511627776 : Nat), (0 : Nat) < (18446744073709551616 : Nat),
      (0 : Nat) < (0 : Nat) + n, (0 : Nat) ≤ (0 : Nat),
      ((0 : Nat) + n) * (16 : Nat) ≤ (140737488355328 : Nat) ∧ (0 : Nat) + n ≤ (9223372036854775807 : Nat),
      n * (2 : Nat) ≤ List.length xs, all1 (List.take (n * (2 : Nat)) xs) = true,
      capBig + (4 : Nat) = capBig + (4 : Nat),
      ((0 : Nat) + n) * (2 : Nat) ≤ List.length ([] ++ List.take (n * (2 : Nat)) xs), (0 : Nat) < (2 : Nat),
      ((0 : Nat) + n) * (2 : Nat) ≤ List.length ([] ++ List.take (n * (2 : Nat)) xs),
      Fl (List.take (((0 : Nat) + n) * (2 : Nat)) ([] ++ List.take (n * (2 : Nat)) xs)),
      Ints IntKind.i64 (List.take (((0 : Nat) + n) * (2 : Nat)) ([] ++ List.take (n * (2 : Nat)) xs)),
      decide
          (avLen
              (Av.sl (List.take (((0 : Nat) + n) * (2 : Nat)) ([] ++ List.take (n * (2 : Nat)) xs)) ((0 : Nat) + n)) =
            (0 : Nat)) =
        false,
      decide
          (avLen
              (Av.sl (List.take (((0 : Nat) + n) * (2 : Nat)) ([] ++ List.take (n * (2 : Nat)) xs)) ((0 : Nat) + n)) ≤
            (128 : Nat)) =
        true,
      wrOk (List.take (((0 : Nat) + n) * (2 : Nat)) ([] ++ List.take (n * (2 : Nat)) xs)) (0 : Nat)
          (avLen
            (Av.sl (List.take (((0 : Nat) + n) * (2 : Nat)) ([] ++ List.take (n * (2 : Nat)) xs)) ((0 : Nat) + n))) =
        false,
      n ≤ c ∧ c ≤ (9223372036854775807 : Nat), n * (2 : Nat) ≤ List.length xs, Fl (List.take (n * (2 : Nat)) xs),
      Ints IntKind.i64 (List.take (n * (2 : Nat)) xs),
      decide (avLen (Av.sl (List.take (n * (2 : Nat)) xs) n) = (0 : Nat)) = false,
      decide (avLen (Av.sl (List.take (n * (2 : Nat)) xs) n) ≤ (128 : Nat)) = true,
      wrOk (List.take (n * (2 : Nat)) xs) (0 : Nat) (avLen (Av.sl (List.take (n * (2 : Nat)) xs) n)) = false,
      avLen (Av.sl (List.take m ys) m) ≤ avLen (Av.sl (List.take m ys) m) + (3 : Nat) ∧
        avLen (Av.sl (List.take m ys) m) + (3 : Nat) ≤ (9223372036854775807 : Nat),
      avLen (Av.sl (List.take m ys) m) ≤
        List.length
          (List.take m ys ++
            [Value.int IntKind.u8
                (↑(((160 : Nat) + avLen (Av.sl (List.take m ys) m) % (90 : Nat)) % (256 : Nat)) : Int),
              Value.int IntKind.u8
                (↑(((160 : Nat) + (avLen (Av.sl (List.take m ys) m) + (1 : Nat)) % (90 : Nat)) % (256 : Nat)) : Int),
              Value.int IntKind.u8
                (↑(((160 : Nat) + (avLen (Av.sl (List.take m ys) m) + (1 : Nat) + (1 : Nat)) % (90 : Nat)) %
                      (256 : Nat)) :
                  Int)]),
      Fl
        (List.take (avLen (Av.sl (List.take m ys) m))
          (List.take m ys ++
            [Value.int IntKind.u8
                (↑(((160 : Nat) + avLen (Av.sl (List.take m ys) m) % (90 : Nat)) % (256 : Nat)) : Int),
              Value.int IntKind.u8
                (↑(((160 : Nat) + (avLen (Av.sl (List.take m ys) m) + (1 : Nat)) % (90 : Nat)) % (256 : Nat)) : Int),
              Value.int IntKind.u8
                (↑(((160 : Nat) + (avLen (Av.sl (List.take m ys) m) + (1 : Nat) + (1 : Nat)) % (90 : Nat)) %
                      (256 : Nat)) :
                  Int)])),
      Byts
        (List.take (avLen (Av.sl (List.take m ys) m))
          (List.take m ys ++
            [Value.int IntKind.u8
                (↑(((160 : Nat) + avLen (Av.sl (List.take m ys) m) % (90 : Nat)) % (256 : Nat)) : Int),
              Value.int IntKind.u8
                (↑(((160 : Nat) + (avLen (Av.sl (List.take m ys) m) + (1 : Nat)) % (90 : Nat)) % (256 : Nat)) : Int),
              Value.int IntKind.u8
                (↑(((160 : Nat) + (avLen (Av.sl (List.take m ys) m) + (1 : Nat) + (1 : Nat)) % (90 : Nat)) %
                      (256 : Nat)) :
                  Int)])),
      avLen
            (Av.sl
              (List.take (avLen (Av.sl (List.take m ys) m))
                (List.take m ys ++
                  [Value.int IntKind.u8
                      (↑(((160 : Nat) + avLen (Av.sl (List.take m ys) m) % (90 : Nat)) % (256 : Nat)) : Int),
                    Value.int IntKind.u8
                      (↑(((160 : Nat) + (avLen (Av.sl (List.take m ys) m) + (1 : Nat)) % (90 : Nat)) % (256 : Nat)) :
                        Int),
                    Value.int IntKind.u8
                      (↑(((160 : Nat) + (avLen (Av.sl (List.take m ys) m) + (1 : Nat) + (1 : Nat)) % (90 : Nat)) %
                            (256 : Nat)) :
                        Int)]))
              (avLen (Av.sl (List.take m ys) m))) %
          (8 : Nat) =
        (0 : Nat),
      decide
          (avLen
              (Av.sl
                (List.take (avLen (Av.sl (List.take m ys) m))
                  (List.take m ys ++
                    [Value.int IntKind.u8
                        (↑(((160 : Nat) + avLen (Av.sl (List.take m ys) m) % (90 : Nat)) % (256 : Nat)) : Int),
                      Value.int IntKind.u8
                        (↑(((160 : Nat) + (avLen (Av.sl (List.take m ys) m) + (1 : Nat)) % (90 : Nat)) % (256 : Nat)) :
                          Int),
                      Value.int IntKind.u8
                        (↑(((160 : Nat) + (avLen (Av.sl (List.take m ys) m) + (1 : Nat) + (1 : Nat)) % (90 : Nat)) %
                              (256 : Nat)) :
                          Int)]))
                (avLen (Av.sl (List.take m ys) m))) =
            (0 : Nat)) =
        false,
      avLen
          (Av.sl
            (List.take (avLen (Av.sl (List.take m ys) m))
              (List.take m ys ++
                [Value.int IntKind.u8
                    (↑(((160 : Nat) + avLen (Av.sl (List.take m ys) m) % (90 : Nat)) % (256 : Nat)) : Int),
                  Value.int IntKind.u8
                    (↑(((160 : Nat) + (avLen (Av.sl (List.take m ys) m) + (1 : Nat)) % (90 : Nat)) % (256 : Nat)) :
                      Int),
                  Value.int IntKind.u8
                    (↑(((160 : Nat) + (avLen (Av.sl (List.take m ys) m) + (1 : Nat) + (1 : Nat)) % (90 : Nat)) %
                          (256 : Nat)) :
                      Int)]))
            (avLen (Av.sl (List.take m ys) m))) ≤
        (4096 : Nat),
      rdOk
          (List.take (avLen (Av.sl (List.take m ys) m))
            (List.take m ys ++
              [Value.int IntKind.u8
                  (↑(((160 : Nat) + avLen (Av.sl (List.take m ys) m) % (90 : Nat)) % (256 : Nat)) : Int),
                Value.int IntKind.u8
                  (↑(((160 : Nat) + (avLen (Av.sl (List.take m ys) m) + (1 : Nat)) % (90 : Nat)) % (256 : Nat)) : Int),
                Value.int IntKind.u8
                  (↑(((160 : Nat) + (avLen (Av.sl (List.take m ys) m) + (1 : Nat) + (1 : Nat)) % (90 : Nat)) %
                        (256 : Nat)) :
                    Int)]))
          (0 : Nat)
          (avLen
              (Av.sl
                (List.take (avLen (Av.sl (List.take m ys) m))
                  (List.take m ys ++
                    [Value.int IntKind.u8
                        (↑(((160 : Nat) + avLen (Av.sl (List.take m ys) m) % (90 : Nat)) % (256 : Nat)) : Int),
                      Value.int IntKind.u8
                        (↑(((160 : Nat) + (avLen (Av.sl (List.take m ys) m) + (1 : Nat)) % (90 : Nat)) % (256 : Nat)) :
                          Int),
                      Value.int IntKind.u8
                        (↑(((160 : Nat) + (avLen (Av.sl (List.take m ys) m) + (1 : Nat) + (1 : Nat)) % (90 : Nat)) %
                              (256 : Nat)) :
                          Int)]))
                (avLen (Av.sl (List.take m ys) m))) /
            (8 : Nat)) =
        true,
      decide
          (avLen
                (Av.sl
                  (List.take (avLen (Av.sl (List.take m ys) m))
                    (List.take m ys ++
                      [Value.int IntKind.u8
                          (↑(((160 : Nat) + avLen (Av.sl (List.take m ys) m) % (90 : Nat)) % (256 : Nat)) : Int),
                        Value.int IntKind.u8
                          (↑(((160 : Nat) + (avLen (Av.sl (List.take m ys) m) + (1 : Nat)) % (90 : Nat)) %
                                (256 : Nat)) :
                            Int),
                        Value.int IntKind.u8
                          (↑(((160 : Nat) + (avLen (Av.sl (List.take m ys) m) + (1 : Nat) + (1 : Nat)) % (90 : Nat)) %
                                (256 : Nat)) :
                            Int)]))
                  (avLen (Av.sl (List.take m ys) m))) /
              (8 : Nat) ≤
            (128 : Nat)) =
        true,
      m ≤ d ∧ d ≤ (9223372036854775807 : Nat), m ≤ List.length ys, Fl (List.take m ys), Byts (List.take m ys),
      avLen (Av.sl (List.take m ys) m) % (8 : Nat) = (0 : Nat),
      decide (avLen (Av.sl (List.take m ys) m) = (0 : Nat)) = false, avLen (Av.sl (List.take m ys) m) ≤ (4096 : Nat),
      rdOk (List.take m ys) (0 : Nat) (avLen (Av.sl (List.take m ys) m) / (8 : Nat)) = true,
      decide (avLen (Av.sl (List.take m ys) m) / (8 : Nat) ≤ (128 : Nat)) = true, Byts [], Byts [], true = true,
      capBig + (5 : Nat) = capBig + (5 : Nat),
      avLen
              (Av.sl
                (List.take (avLen (Av.sl (List.take m ys) m))
                  (List.take m ys ++
                    [Value.int IntKind.u8
                        (↑(((160 : Nat) + avLen (Av.sl (List.take m ys) m) % (90 : Nat)) % (256 : Nat)) : Int),
                      Value.int IntKind.u8
                        (↑(((160 : Nat) + (avLen (Av.sl (List.take m ys) m) + (1 : Nat)) % (90 : Nat)) % (256 : Nat)) :
                          Int),
                      Value.int IntKind.u8
                        (↑(((160 : Nat) + (avLen (Av.sl (List.take m ys) m) + (1 : Nat) + (1 : Nat)) % (90 : Nat)) %
                              (256 : Nat)) :
                          Int)]))
                (avLen (Av.sl (List.take m ys) m))) /
            (8 : Nat) *
          (2 : Nat) ≤
        List.length
          (rdL
            (List.take (avLen (Av.sl (List.take m ys) m))
              (List.take m ys ++
                [Value.int IntKind.u8
                    (↑(((160 : Nat) + avLen (Av.sl (List.take m ys) m) % (90 : Nat)) % (256 : Nat)) : Int),
                  Value.int IntKind.u8
                    (↑(((160 : Nat) + (avLen (Av.sl (List.take m ys) m) + (1 : Nat)) % (90 : Nat)) % (256 : Nat)) :
                      Int),
                  Value.int IntKind.u8
                    (↑(((160 : Nat) + (avLen (Av.sl (List.take m ys) m) + (1 : Nat) + (1 : Nat)) % (90 : Nat)) %
                          (256 : Nat)) :
                      Int)]))
            (0 : Nat)
            (avLen
                (Av.sl
                  (List.take (avLen (Av.sl (List.take m ys) m))
                    (List.take m ys ++
                      [Value.int IntKind.u8
                          (↑(((160 : Nat) + avLen (Av.sl (List.take m ys) m) % (90 : Nat)) % (256 : Nat)) : Int),
                        Value.int IntKind.u8
                          (↑(((160 : Nat) + (avLen (Av.sl (List.take m ys) m) + (1 : Nat)) % (90 : Nat)) %
                                (256 : Nat)) :
                            Int),
                        Value.int IntKind.u8
                          (↑(((160 : Nat) + (avLen (Av.sl (List.take m ys) m) + (1 : Nat) + (1 : Nat)) % (90 : Nat)) %
                                (256 : Nat)) :
                            Int)]))
                  (avLen (Av.sl (List.take m ys) m))) /
              (8 : Nat))),
      (0 : Nat) < (2 : Nat),
      avLen
              (Av.sl
                (List.take (avLen (Av.sl (List.take m ys) m))
                  (List.take m ys ++
                    [Value.int IntKind.u8
                        (↑(((160 : Nat) + avLen (Av.sl (List.take m ys) m) % (90 : Nat)) % (256 : Nat)) : Int),
                      Value.int IntKind.u8
                        (↑(((160 : Nat) + (avLen (Av.sl (List.take m ys) m) + (1 : Nat)) % (90 : Nat)) % (256 : Nat)) :
                          Int),
                      Value.int IntKind.u8
                        (↑(((160 : Nat) + (avLen (Av.sl (List.take m ys) m) + (1 : Nat) + (1 : Nat)) % (90 : Nat)) %
                              (256 : Nat)) :
                          Int)]))
                (avLen (Av.sl (List.take m ys) m))) /
            (8 : Nat) *
          (2 : Nat) ≤
        List.length
          (rdL
            (List.take (avLen (Av.sl (List.take m ys) m))
              (List.take m ys ++
                [Value.int IntKind.u8
                    (↑(((160 : Nat) + avLen (Av.sl (List.take m ys) m) % (90 : Nat)) % (256 : Nat)) : Int),
                  Value.int IntKind.u8
                    (↑(((160 : Nat) + (avLen (Av.sl (List.take m ys) m) + (1 : Nat)) % (90 : Nat)) % (256 : Nat)) :
                      Int),
                  Value.int IntKind.u8
                    (↑(((160 : Nat) + (avLen (Av.sl (List.take m ys) m) + (1 : Nat) + (1 : Nat)) % (90 : Nat)) %
                          (256 : Nat)) :
                      Int)]))
            (0 : Nat)
            (avLen
                (Av.sl
                  (List.take (avLen (Av.sl (List.take m ys) m))
                    (List.take m ys ++
                      [Value.int IntKind.u8
                          (↑(((160 : Nat) + avLen (Av.sl (List.take m ys) m) % (90 : Nat)) % (256 : Nat)) : Int),
                        Value.int IntKind.u8
                          (↑(((160 : Nat) + (avLen (Av.sl (List.take m ys) m) + (1 : Nat)) % (90 : Nat)) %
                                (256 : Nat)) :
                            Int),
                        Value.int IntKind.u8
                          (↑(((160 : Nat) + (avLen (Av.sl (List.take m ys) m) + (1 : Nat) + (1 : Nat)) % (90 : Nat)) %
                                (256 : Nat)) :
                            Int)]))
                  (avLen (Av.sl (List.take m ys) m))) /
              (8 : Nat))),
      Fl
        (List.take
          (avLen
                (Av.sl
                  (List.take (avLen (Av.sl (List.take m ys) m))
                    (List.take m ys ++
                      [Value.int IntKind.u8
                          (↑(((160 : Nat) + avLen (Av.sl (List.take m ys) m) % (90 : Nat)) % (256 : Nat)) : Int),
                        Value.int IntKind.u8
                          (↑(((160 : Nat) + (avLen (Av.sl (List.take m ys) m) + (1 : Nat)) % (90 : Nat)) %
                                (256 : Nat)) :
                            Int),
                        Value.int IntKind.u8
                          (↑(((160 : Nat) + (avLen (Av.sl (List.take m ys) m) + (1 : Nat) + (1 : Nat)) % (90 : Nat)) %
                                (256 : Nat)) :
                            Int)]))
                  (avLen (Av.sl (List.take m ys) m))) /
              (8 : Nat) *
            (2 : Nat))
          (rdL
            (List.take (avLen (Av.sl (List.take m ys) m))
              (List.take m ys ++
                [Value.int IntKind.u8
                    (↑(((160 : Nat) + avLen (Av.sl (List.take m ys) m) % (90 : Nat)) % (256 : Nat)) : Int),
                  Value.int IntKind.u8
                    (↑(((160 : Nat) + (avLen (Av.sl (List.take m ys) m) + (1 : Nat)) % (90 : Nat)) % (256 : Nat)) :
                      Int),
                  Value.int IntKind.u8
                    (↑(((160 : Nat) + (avLen (Av.sl (List.take m ys) m) + (1 : Nat) + (1 : Nat)) % (90 : Nat)) %
                          (256 : Nat)) :
                      Int)]))
            (0 : Nat)
            (avLen
                (Av.sl
                  (List.take (avLen (Av.sl (List.take m ys) m))
                    (List.take m ys ++
                      [Value.int IntKind.u8
                          (↑(((160 : Nat) + avLen (Av.sl (List.take m ys) m) % (90 : Nat)) % (256 : Nat)) : Int),
                        Value.int IntKind.u8
                          (↑(((160 : Nat) + (avLen (Av.sl (List.take m ys) m) + (1 : Nat)) % (90 : Nat)) %
                                (256 : Nat)) :
                            Int),
                        Value.int IntKind.u8
                          (↑(((160 : Nat) + (avLen (Av.sl (List.take m ys) m) + (1 : Nat) + (1 : Nat)) % (90 : Nat)) %
                                (256 : Nat)) :
                            Int)]))
                  (avLen (Av.sl (List.take m ys) m))) /
              (8 : Nat)))),
      capBig + (6 : Nat) = capBig + (6 : Nat),
      avLen (Av.sl (List.take m ys) m) / (8 : Nat) * (2 : Nat) ≤
        List.length (rdL (List.take m ys) (0 : Nat) (avLen (Av.sl (List.take m ys) m) / (8 : Nat))),
      (0 : Nat) < (2 : Nat),
      avLen (Av.sl (List.take m ys) m) / (8 : Nat) * (2 : Nat) ≤
        List.length (rdL (List.take m ys) (0 : Nat) (avLen (Av.sl (List.take m ys) m) / (8 : Nat))),
      Fl
        (List.take (avLen (Av.sl (List.take m ys) m) / (8 : Nat) * (2 : Nat))
          (rdL (List.take m ys) (0 : Nat) (avLen (Av.sl (List.take m ys) m) / (8 : Nat)))),
      Ints IntKind.i64
        (List.take
          (avLen
                (Av.sl
                  (List.take (avLen (Av.sl (List.take m ys) m))
                    (List.take m ys ++
                      [Value.int IntKind.u8
                          (↑(((160 : Nat) + avLen (Av.sl (List.take m ys) m) % (90 : Nat)) % (256 : Nat)) : Int),
                        Value.int IntKind.u8
                          (↑(((160 : Nat) + (avLen (Av.sl (List.take m ys) m) + (1 : Nat)) % (90 : Nat)) %
                                (256 : Nat)) :
                            Int),
                        Value.int IntKind.u8
                          (↑(((160 : Nat) + (avLen (Av.sl (List.take m ys) m) + (1 : Nat) + (1 : Nat)) % (90 : Nat)) %
                                (256 : Nat)) :
                            Int)]))
                  (avLen (Av.sl (List.take m ys) m))) /
              (8 : Nat) *
            (2 : Nat))
          (rdL
            (List.take (avLen (Av.sl (List.take m ys) m))
              (List.take m ys ++
                [Value.int IntKind.u8
                    (↑(((160 : Nat) + avLen (Av.sl (List.take m ys) m) % (90 : Nat)) % (256 : Nat)) : Int),
                  Value.int IntKind.u8
                    (↑(((160 : Nat) + (avLen (Av.sl (List.take m ys) m) + (1 : Nat)) % (90 : Nat)) % (256 : Nat)) :
                      Int),
                  Value.int IntKind.u8
                    (↑(((160 : Nat) + (avLen (Av.sl (List.take m ys) m) + (1 : Nat) + (1 : Nat)) % (90 : Nat)) %
                          (256 : Nat)) :
                      Int)]))
            (0 : Nat)
            (avLen
                (Av.sl
                  (List.take (avLen (Av.sl (List.take m ys) m))
                    (List.take m ys ++
                      [Value.int IntKind.u8
                          (↑(((160 : Nat) + avLen (Av.sl (List.take m ys) m) % (90 : Nat)) % (256 : Nat)) : Int),
                        Value.int IntKind.u8
                          (↑(((160 : Nat) + (avLen (Av.sl (List.take m ys) m) + (1 : Nat)) % (90 : Nat)) %
                                (256 : Nat)) :
                            Int),
                        Value.int IntKind.u8
                          (↑(((160 : Nat) + (avLen (Av.sl (List.take m ys) m) + (1 : Nat) + (1 : Nat)) % (90 : Nat)) %
                                (256 : Nat)) :
                            Int)]))
                  (avLen (Av.sl (List.take m ys) m))) /
              (8 : Nat)))),
      List.take (avLen (Av.sl (List.take m ys) m) / (8 : Nat) * (2 : Nat))
          (rdL (List.take m ys) (0 : Nat) (avLen (Av.sl (List.take m ys) m) / (8 : Nat))) =
        List.take
          (avLen
                (Av.sl
                  (List.take (avLen (Av.sl (List.take m ys) m))
                    (List.take m ys ++
                      [Value.int IntKind.u8
                          (↑(((160 : Nat) + avLen (Av.sl (List.take m ys) m) % (90 : Nat)) % (256 : Nat)) : Int),
                        Value.int IntKind.u8
                          (↑(((160 : Nat) + (avLen (Av.sl (List.take m ys) m) + (1 : Nat)) % (90 : Nat)) %
                                (256 : Nat)) :
                            Int),
                        Value.int IntKind.u8
                          (↑(((160 : Nat) + (avLen (Av.sl (List.take m ys) m) + (1 : Nat) + (1 : Nat)) % (90 : Nat)) %
                                (256 : Nat)) :
                            Int)]))
                  (avLen (Av.sl (List.take m ys) m))) /
              (8 : Nat) *
            (2 : Nat))
          (rdL
            (List.take (avLen (Av.sl (List.take m ys) m))
              (List.take m ys ++
                [Value.int IntKind.u8
                    (↑(((160 : Nat) + avLen (Av.sl (List.take m ys) m) % (90 : Nat)) % (256 : Nat)) : Int),
                  Value.int IntKind.u8
                    (↑(((160 : Nat) + (avLen (Av.sl (List.take m ys) m) + (1 : Nat)) % (90 : Nat)) % (256 : Nat)) :
                      Int),
                  Value.int IntKind.u8
                    (↑(((160 : Nat) + (avLen (Av.sl (List.take m ys) m) + (1 : Nat) + (1 : Nat)) % (90 : Nat)) %
                          (256 : Nat)) :
                      Int)]))
            (0 : Nat)
            (avLen
                (Av.sl
                  (List.take (avLen (Av.sl (List.take m ys) m))
                    (List.take m ys ++
                      [Value.int IntKind.u8
                          (↑(((160 : Nat) + avLen (Av.sl (List.take m ys) m) % (90 : Nat)) % (256 : Nat)) : Int),
                        Value.int IntKind.u8
                          (↑(((160 : Nat) + (avLen (Av.sl (List.take m ys) m) + (1 : Nat)) % (90 : Nat)) %
                                (256 : Nat)) :
                            Int),
                        Value.int IntKind.u8
                          (↑(((160 : Nat) + (avLen (Av.sl (List.take m ys) m) + (1 : Nat) + (1 : Nat)) % (90 : Nat)) %
                                (256 : Nat)) :
                            Int)]))
                  (avLen (Av.sl (List.take m ys) m))) /
              (8 : Nat))),
      avLen
          (Av.sl
            (List.take (avLen (Av.sl (List.take m ys) m) / (8 : Nat) * (2 : Nat))
              (rdL (List.take m ys) (0 : Nat) (avLen (Av.sl (List.take m ys) m) / (8 : Nat))))
            (avLen (Av.sl (List.take m ys) m) / (8 : Nat))) =
        avLen
          (Av.sl
            (List.take
              (avLen
                    (Av.sl
                      (List.take (avLen (Av.sl (List.take m ys) m))
                        (List.take m ys ++
                          [Value.int IntKind.u8
                              (↑(((160 : Nat) + avLen (Av.sl (List.take m ys) m) % (90 : Nat)) % (256 : Nat)) : Int),
                            Value.int IntKind.u8
                              (↑(((160 : Nat) + (avLen (Av.sl (List.take m ys) m) + (1 : Nat)) % (90 : Nat)) %
                                    (256 : Nat)) :
                                Int),
                            Value.int IntKind.u8
                              (↑(((160 : Nat) +
                                      (avLen (Av.sl (List.take m ys) m) + (1 : Nat) + (1 : Nat)) % (90 : Nat)) %
                                    (256 : Nat)) :
                                Int)]))
                      (avLen (Av.sl (List.take m ys) m))) /
                  (8 : Nat) *
                (2 : Nat))
              (rdL
                (List.take (avLen (Av.sl (List.take m ys) m))
                  (List.take m ys ++
                    [Value.int IntKind.u8
                        (↑(((160 : Nat) + avLen (Av.sl (List.take m ys) m) % (90 : Nat)) % (256 : Nat)) : Int),
                      Value.int IntKind.u8
                        (↑(((160 : Nat) + (avLen (Av.sl (List.take m ys) m) + (1 : Nat)) % (90 : Nat)) % (256 : Nat)) :
                          Int),
                      Value.int IntKind.u8
                        (↑(((160 : Nat) + (avLen (Av.sl (List.take m ys) m) + (1 : Nat) + (1 : Nat)) % (90 : Nat)) %
                              (256 : Nat)) :
                          Int)]))
                (0 : Nat)
                (avLen
                    (Av.sl
                      (List.take (avLen (Av.sl (List.take m ys) m))
                        (List.take m ys ++
                          [Value.int IntKind.u8
                              (↑(((160 : Nat) + avLen (Av.sl (List.take m ys) m) % (90 : Nat)) % (256 : Nat)) : Int),
                            Value.int IntKind.u8
                              (↑(((160 : Nat) + (avLen (Av.sl (List.take m ys) m) + (1 : Nat)) % (90 : Nat)) %
                                    (256 : Nat)) :
                                Int),
                            Value.int IntKind.u8
                              (↑(((160 : Nat) +
                                      (avLen (Av.sl (List.take m ys) m) + (1 : Nat) + (1 : Nat)) % (90 : Nat)) %
                                    (256 : Nat)) :
                                Int)]))
                      (avLen (Av.sl (List.take m ys) m))) /
                  (8 : Nat))))
            (avLen
                (Av.sl
                  (List.take (avLen (Av.sl (List.take m ys) m))
                    (List.take m ys ++
                      [Value.int IntKind.u8
                          (↑(((160 : Nat) + avLen (Av.sl (List.take m ys) m) % (90 : Nat)) % (256 : Nat)) : Int),
                        Value.int IntKind.u8
                          (↑(((160 : Nat) + (avLen (Av.sl (List.take m ys) m) + (1 : Nat)) % (90 : Nat)) %
                                (256 : Nat)) :
                            Int),
                        Value.int IntKind.u8
                          (↑(((160 : Nat) + (avLen (Av.sl (List.take m ys) m) + (1 : Nat) + (1 : Nat)) % (90 : Nat)) %
                                (256 : Nat)) :
                            Int)]))
                  (avLen (Av.sl (List.take m ys) m))) /
              (8 : Nat))),
      avLen (Av.sl (List.take m ys) m) + (3 : Nat) ≤ (9223372036854775807 : Nat),
      avLen (Av.sl (List.take m ys) m) + (3 : Nat) ≤
        List.length
          (List.take m ys ++
            [Value.int IntKind.u8
                (↑(((160 : Nat) + avLen (Av.sl (List.take m ys) m) % (90 : Nat)) % (256 : Nat)) : Int),
              Value.int IntKind.u8
                (↑(((160 : Nat) + (avLen (Av.sl (List.take m ys) m) + (1 : Nat)) % (90 : Nat)) % (256 : Nat)) : Int),
              Value.int IntKind.u8
                (↑(((160 : Nat) + (avLen (Av.sl (List.take m ys) m) + (1 : Nat) + (1 : Nat)) % (90 : Nat)) %
                      (256 : Nat)) :
                  Int)]),
      Fl
        (List.take (avLen (Av.sl (List.take m ys) m) + (3 : Nat))
          (List.take m ys ++
            [Value.int IntKind.u8
                (↑(((160 : Nat) + avLen (Av.sl (List.take m ys) m) % (90 : Nat)) % (256 : Nat)) : Int),
              Value.int IntKind.u8
                (↑(((160 : Nat) + (avLen (Av.sl (List.take m ys) m) + (1 : Nat)) % (90 : Nat)) % (256 : Nat)) : Int),
              Value.int IntKind.u8
                (↑(((160 : Nat) + (avLen (Av.sl (List.take m ys) m) + (1 : Nat) + (1 : Nat)) % (90 : Nat)) %
                      (256 : Nat)) :
                  Int)])),
      m ≤ d ∧ d ≤ (9223372036854775807 : Nat), m ≤ List.length ys, Fl (List.take m ys),
      Byts
        (List.take (avLen (Av.sl (List.take m ys) m) + (3 : Nat))
          (List.take m ys ++
            [Value.int IntKind.u8
                (↑(((160 : Nat) + avLen (Av.sl (List.take m ys) m) % (90 : Nat)) % (256 : Nat)) : Int),
              Value.int IntKind.u8
                (↑(((160 : Nat) + (avLen (Av.sl (List.take m ys) m) + (1 : Nat)) % (90 : Nat)) % (256 : Nat)) : Int),
              Value.int IntKind.u8
                (↑(((160 : Nat) + (avLen (Av.sl (List.take m ys) m) + (1 : Nat) + (1 : Nat)) % (90 : Nat)) %
                      (256 : Nat)) :
                  Int)])),
      Byts (List.take m ys), avLen (Av.sl (List.take m ys) m) = avLen (Av.sl (List.take m ys) m),
      avLen (Av.sl (List.take m ys) m) + (3 : Nat) = avLen (Av.sl (List.take m ys) m) + (3 : Nat),
      avLen (Av.sl (List.take m ys) m) ≤ (1099511627776 : Nat),
      decide
          (intsOf
              (List.take (avLen (Av.sl (List.take m ys) m) + (3 : Nat))
                (List.take m ys ++
                  [Value.int IntKind.u8
                      (↑(((160 : Nat) + avLen (Av.sl (List.take m ys) m) % (90 : Nat)) % (256 : Nat)) : Int),
                    Value.int IntKind.u8
                      (↑(((160 : Nat) + (avLen (Av.sl (List.take m ys) m) + (1 : Nat)) % (90 : Nat)) % (256 : Nat)) :
                        Int),
                    Value.int IntKind.u8
                      (↑(((160 : Nat) + (avLen (Av.sl (List.take m ys) m) + (1 : Nat) + (1 : Nat)) % (90 : Nat)) %
                            (256 : Nat)) :
                        Int)])) =
            intsOf
              (List.take m ys ++
                [Value.int IntKind.u8
                    (↑(((160 : Nat) + avLen (Av.sl (List.take m ys) m) % (90 : Nat)) % (256 : Nat)) : Int),
                  Value.int IntKind.u8
                    (↑(((160 : Nat) + (avLen (Av.sl (List.take m ys) m) + (1 : Nat)) % (90 : Nat)) % (256 : Nat)) :
                      Int),
                  Value.int IntKind.u8
                    (↑(((160 : Nat) + (avLen (Av.sl (List.take m ys) m) + (1 : Nat) + (1 : Nat)) % (90 : Nat)) %
                          (256 : Nat)) :
                      Int)])) =
        true]) := by kernel_rfl
theorem cb_ok_ok (xs ys : List Value) (n c m d : Nat) : runZ (cbV 2) Try.prog 5 7 [cbA n c, cbB m d] [(0, ⟨.old, xs⟩), (1, ⟨.old, ys⟩)] 2 ([false, false] ++ [false, false, true] ++ [false, false, true] ++ [false, false, true, false] ++ [false, false, true, false] ++ [true, true]) =
Res.ok
  ((Value.bool true, [((0 : Nat), Rw.mk Kd.old xs), ((1 : Nat), Rw.mk Kd.old ys)], (9 : Nat), []), [],
    [decide ((↑n : Int) > (200 : Int)) = false, decide ((↑m : Int) > (2000 : Int)) = false,
      m ≤ d ∧ d ≤ (9223372036854775807 : Nat), m ≤ List.length ys, Fl (List.take m ys), Byts (List.take m ys),
      avLen (Av.sl (List.take m ys) m) ≤ (1099511627776 : Nat), (0 : Nat) < (18446744073709551616 : Nat),
      (0 : Nat) < (0 : Nat) + n, (0 : Nat) ≤ (0 : Nat),
      ((0 : Nat) + n) * (16 : Nat) ≤ (140737488355328 : Nat) ∧ (0 : Nat) + n ≤ (9223372036854775807 : Nat),
      n * (2 : Nat) ≤ List.length xs, all1 (List.take (n * (2 : Nat)) xs) = true,
      capBig + (4 : Nat) = capBig + (4 : Nat),
      ((0 : Nat) + n) * (2 : Nat) ≤ List.length ([] ++ List.take (n * (2 : Nat)) xs), (0 : Nat) < (2 : Nat),
      ((0 : Nat) + n) * (2 : Nat) ≤ List.length ([] ++ List.take (n * (2 : Nat)) xs),
      Fl (List.take (((0 : Nat) + n) * (2 : Nat)) ([] ++ List.take (n * (2 : Nat)) xs)),
      Ints IntKind.i64 (List.take (((0 : Nat) + n) * (2 : Nat)) ([] ++ List.take (n * (2 : Nat)) xs)),
      decide
          (avLen
              (Av.sl (List.take (((0 : Nat) + n) * (2 : Nat)) ([] ++ List.take (n * (2 : Nat)) xs)) ((0 : Nat) + n)) =
            (0 : Nat)) =
        false,
      decide
          (avLen
              (Av.sl (List.take (((0 : Nat) + n) * (2 : Nat)) ([] ++ List.take (n * (2 : Nat)) xs)) ((0 : Nat) + n)) ≤
            (128 : Nat)) =
        true,
      wrOk (List.take (((0 : Nat) + n) * (2 : Nat)) ([] ++ List.take (n * (2 : Nat)) xs)) (0 : Nat)
          (avLen
            (Av.sl (List.take (((0 : Nat) + n) * (2 : Nat)) ([] ++ List.take (n * (2 : Nat)) xs)) ((0 : Nat) + n))) =
        true,
      n ≤ c ∧ c ≤ (9223372036854775807 : Nat), n * (2 : Nat) ≤ List.length xs, Fl (List.take (n * (2 : Nat)) xs),
      Ints IntKind.i64 (List.take (n * (2 : Nat)) xs),
      decide (avLen (Av.sl (List.take (n * (2 : Nat)) xs) n) = (0 : Nat)) = false,
      decide (avLen (Av.sl (List.take (n * (2 : Nat)) xs) n) ≤ (128 : Nat)) = true,
      wrOk (List.take (n * (2 : Nat)) xs) (0 : Nat) (avLen (Av.sl (List.take (n * (2 : Nat)) xs) n)) = true,
      avLen (Av.sl (List.take m ys) m) ≤ avLen (Av.sl (List.take m ys) m) + (3 : Nat) ∧
        avLen (Av.sl (List.take m ys) m) + (3 : Nat) ≤ (9223372036854775807 : Nat),
      avLen (Av.sl (List.take m ys) m) ≤
        List.length
          (List.take m ys ++
            [Value.int IntKind.u8
                (↑(((160 : Nat) + avLen (Av.sl (List.take m ys) m) % (90 : Nat)) % (256 : Nat)) : Int),
              Value.int IntKind.u8
                (↑(((160 : Nat) + (avLen (Av.sl (List.take m ys) m) + (1 : Nat)) % (90 : Nat)) % (256 : Nat)) : Int),
              Value.int IntKind.u8
                (↑(((160 : Nat) + (avLen (Av.sl (List.take m ys) m) + (1 : Nat) + (1 : Nat)) % (90 : Nat)) %
                      (256 : Nat)) :
                  Int)]),
      Fl
        (List.take (avLen (Av.sl (List.take m ys) m))
          (List.take m ys ++
            [Value.int IntKind.u8
                (↑(((160 : Nat) + avLen (Av.sl (List.take m ys) m) % (90 : Nat)) % (256 : Nat)) : Int),
              Value.int IntKind.u8
                (↑(((160 : Nat) + (avLen (Av.sl (List.take m ys) m) + (1 : Nat)) % (90 : Nat)) % (256 : Nat)) : Int),
              Value.int IntKind.u8
                (↑(((160 : Nat) + (avLen (Av.sl (List.take m ys) m) + (1 : Nat) + (1 : Nat)) % (90 : Nat)) %
                      (256 : Nat)) :
                  Int)])),
      Byts
        (List.take (avLen (Av.sl (List.take m ys) m))
          (List.take m ys ++
            [Value.int IntKind.u8
                (↑(((160 : Nat) + avLen (Av.sl (List.take m ys) m) % (90 : Nat)) % (256 : Nat)) : Int),
              Value.int IntKind.u8
                (↑(((160 : Nat) + (avLen (Av.sl (List.take m ys) m) + (1 : Nat)) % (90 : Nat)) % (256 : Nat)) : Int),
              Value.int IntKind.u8
                (↑(((160 : Nat) + (avLen (Av.sl (List.take m ys) m) + (1 : Nat) + (1 : Nat)) % (90 : Nat)) %
                      (256 : Nat)) :
                  Int)])),
      avLen
            (Av.sl
              (List.take (avLen (Av.sl (List.take m ys) m))
                (List.take m ys ++
                  [Value.int IntKind.u8
                      (↑(((160 : Nat) + avLen (Av.sl (List.take m ys) m) % (90 : Nat)) % (256 : Nat)) : Int),
                    Value.int IntKind.u8
                      (↑(((160 : Nat) + (avLen (Av.sl (List.take m ys) m) + (1 : Nat)) % (90 : Nat)) % (256 : Nat)) :
                        Int),
                    Value.int IntKind.u8
                      (↑(((160 : Nat) + (avLen (Av.sl (List.take m ys) m) + (1 : Nat) + (1 : Nat)) % (90 : Nat)) %
                            (256 : Nat)) :
                        Int)]))
              (avLen (Av.sl (List.take m ys) m))) %
          (8 : Nat) =
        (0 : Nat),
      decide
          (avLen
              (Av.sl
                (List.take (avLen (Av.sl (List.take m ys) m))
                  (List.take m ys ++
                    [Value.int IntKind.u8
                        (↑(((160 : Nat) + avLen (Av.sl (List.take m ys) m) % (90 : Nat)) % (256 : Nat)) : Int),
                      Value.int IntKind.u8
                        (↑(((160 : Nat) + (avLen (Av.sl (List.take m ys) m) + (1 : Nat)) % (90 : Nat)) % (256 : Nat)) :
                          Int),
                      Value.int IntKind.u8
                        (↑(((160 : Nat) + (avLen (Av.sl (List.take m ys) m) + (1 : Nat) + (1 : Nat)) % (90 : Nat)) %
                              (256 : Nat)) :
                          Int)]))
                (avLen (Av.sl (List.take m ys) m))) =
            (0 : Nat)) =
        false,
      avLen
          (Av.sl
            (List.take (avLen (Av.sl (List.take m ys) m))
              (List.take m ys ++
                [Value.int IntKind.u8
                    (↑(((160 : Nat) + avLen (Av.sl (List.take m ys) m) % (90 : Nat)) % (256 : Nat)) : Int),
                  Value.int IntKind.u8
                    (↑(((160 : Nat) + (avLen (Av.sl (List.take m ys) m) + (1 : Nat)) % (90 : Nat)) % (256 : Nat)) :
                      Int),
                  Value.int IntKind.u8
                    (↑(((160 : Nat) + (avLen (Av.sl (List.take m ys) m) + (1 : Nat) + (1 : Nat)) % (90 : Nat)) %
                          (256 : Nat)) :
                      Int)]))
            (avLen (Av.sl (List.take m ys) m))) ≤
        (4096 : Nat),
      rdOk
          (List.take (avLen (Av.sl (List.take m ys) m))
            (List.take m ys ++
              [Value.int IntKind.u8
                  (↑(((160 : Nat) + avLen (Av.sl (List.take m ys) m) % (90 : Nat)) % (256 : Nat)) : Int),
                Value.int IntKind.u8
                  (↑(((160 : Nat) + (avLen (Av.sl (List.take m ys) m) + (1 : Nat)) % (90 : Nat)) % (256 : Nat)) : Int),
                Value.int IntKind.u8
                  (↑(((160 : Nat) + (avLen (Av.sl (List.take m ys) m) + (1 : Nat) + (1 : Nat)) % (90 : Nat)) %
                        (256 : Nat)) :
                    Int)]))
          (0 : Nat)
          (avLen
              (Av.sl
                (List.take (avLen (Av.sl (List.take m ys) m))
                  (List.take m ys ++
                    [Value.int IntKind.u8
                        (↑(((160 : Nat) + avLen (Av.sl (List.take m ys) m) % (90 : Nat)) % (256 : Nat)) : Int),
                      Value.int IntKind.u8
                        (↑(((160 : Nat) + (avLen (Av.sl (List.take m ys) m) + (1 : Nat)) % (90 : Nat)) % (256 : Nat)) :
                          Int),
                      Value.int IntKind.u8
                        (↑(((160 : Nat) + (avLen (Av.sl (List.take m ys) m) + (1 : Nat) + (1 : Nat)) % (90 : Nat)) %
                              (256 : Nat)) :
                          Int)]))
                (avLen (Av.sl (List.take m ys) m))) /
            (8 : Nat)) =
        true,
      decide
          (avLen
                (Av.sl
                  (List.take (avLen (Av.sl (List.take m ys) m))
                    (List.take m ys ++
                      [Value.int IntKind.u8
                          (↑(((160 : Nat) + avLen (Av.sl (List.take m ys) m) % (90 : Nat)) % (256 : Nat)) : Int),
                        Value.int IntKind.u8
                          (↑(((160 : Nat) + (avLen (Av.sl (List.take m ys) m) + (1 : Nat)) % (90 : Nat)) %
                                (256 : Nat)) :
                            Int),
                        Value.int IntKind.u8
                          (↑(((160 : Nat) + (avLen (Av.sl (List.take m ys) m) + (1 : Nat) + (1 : Nat)) % (90 : Nat)) %
                                (256 : Nat)) :
                            Int)]))
                  (avLen (Av.sl (List.take m ys) m))) /
              (8 : Nat) ≤
            (128 : Nat)) =
        true,
      m ≤ d ∧ d ≤ (9223372036854775807 : Nat), m ≤ List.length ys, Fl (List.take m ys), Byts (List.take m ys),
      avLen (Av.sl (List.take m ys) m) % (8 : Nat) = (0 : Nat),
      decide (avLen (Av.sl (List.take m ys) m) = (0 : Nat)) = false, avLen (Av.sl (List.take m ys) m) ≤ (4096 : Nat),
      rdOk (List.take m ys) (0 : Nat) (avLen (Av.sl (List.take m ys) m) / (8 : Nat)) = true,
      decide (avLen (Av.sl (List.take m ys) m) / (8 : Nat) ≤ (128 : Nat)) = true,
      capBig + (5 : Nat) = capBig + (5 : Nat),
      avLen (Av.sl (List.take (((0 : Nat) + n) * (2 : Nat)) ([] ++ List.take (n * (2 : Nat)) xs)) ((0 : Nat) + n)) *
          (8 : Nat) ≤
        List.length
          (wrL (List.take (((0 : Nat) + n) * (2 : Nat)) ([] ++ List.take (n * (2 : Nat)) xs)) (0 : Nat)
            (avLen
              (Av.sl (List.take (((0 : Nat) + n) * (2 : Nat)) ([] ++ List.take (n * (2 : Nat)) xs)) ((0 : Nat) + n)))),
      (0 : Nat) < (1 : Nat),
      avLen (Av.sl (List.take (((0 : Nat) + n) * (2 : Nat)) ([] ++ List.take (n * (2 : Nat)) xs)) ((0 : Nat) + n)) *
          (8 : Nat) ≤
        List.length
          (wrL (List.take (((0 : Nat) + n) * (2 : Nat)) ([] ++ List.take (n * (2 : Nat)) xs)) (0 : Nat)
            (avLen
              (Av.sl (List.take (((0 : Nat) + n) * (2 : Nat)) ([] ++ List.take (n * (2 : Nat)) xs)) ((0 : Nat) + n)))),
      Fl
        (List.take
          (avLen
              (Av.sl (List.take (((0 : Nat) + n) * (2 : Nat)) ([] ++ List.take (n * (2 : Nat)) xs)) ((0 : Nat) + n)) *
            (8 : Nat))
          (wrL (List.take (((0 : Nat) + n) * (2 : Nat)) ([] ++ List.take (n * (2 : Nat)) xs)) (0 : Nat)
            (avLen
              (Av.sl (List.take (((0 : Nat) + n) * (2 : Nat)) ([] ++ List.take (n * (2 : Nat)) xs)) ((0 : Nat) + n))))),
      capBig + (6 : Nat) = capBig + (6 : Nat),
      avLen (Av.sl (List.take (n * (2 : Nat)) xs) n) * (8 : Nat) ≤
        List.length (wrL (List.take (n * (2 : Nat)) xs) (0 : Nat) (avLen (Av.sl (List.take (n * (2 : Nat)) xs) n))),
      (0 : Nat) < (1 : Nat),
      avLen (Av.sl (List.take (n * (2 : Nat)) xs) n) * (8 : Nat) ≤
        List.length (wrL (List.take (n * (2 : Nat)) xs) (0 : Nat) (avLen (Av.sl (List.take (n * (2 : Nat)) xs) n))),
      Fl
        (List.take (avLen (Av.sl (List.take (n * (2 : Nat)) xs) n) * (8 : Nat))
          (wrL (List.take (n * (2 : Nat)) xs) (0 : Nat) (avLen (Av.sl (List.take (n * (2 : Nat)) xs) n)))),
      Byts
        (List.take
          (avLen
              (Av.sl (List.take (((0 : Nat) + n) * (2 : Nat)) ([] ++ List.take (n * (2 : Nat)) xs)) ((0 : Nat) + n)) *
            (8 : Nat))
          (wrL (List.take (((0 : Nat) + n) * (2 : Nat)) ([] ++ List.take (n * (2 : Nat)) xs)) (0 : Nat)
            (avLen
              (Av.sl (List.take (((0 : Nat) + n) * (2 : Nat)) ([] ++ List.take (n * (2 : Nat)) xs)) ((0 : Nat) + n))))),
      Byts
        (List.take (avLen (Av.sl (List.take (n * (2 : Nat)) xs) n) * (8 : Nat))
          (wrL (List.take (n * (2 : Nat)) xs) (0 : Nat) (avLen (Av.sl (List.take (n * (2 : Nat)) xs) n)))),
      decide
          (intsOf
              (List.take
                (avLen
                    (Av.sl (List.take (((0 : Nat) + n) * (2 : Nat)) ([] ++ List.take (n * (2 : Nat)) xs))
                      ((0 : Nat) + n)) *
                  (8 : Nat))
                (wrL (List.take (((0 : Nat) + n) * (2 : Nat)) ([] ++ List.take (n * (2 : Nat)) xs)) (0 : Nat)
                  (avLen
                    (Av.sl (List.take (((0 : Nat) + n) * (2 : Nat)) ([] ++ List.take (n * (2 : Nat)) xs))
                      ((0 : Nat) + n))))) =
            intsOf
              (List.take (avLen (Av.sl (List.take (n * (2 : Nat)) xs) n) * (8 : Nat))
                (wrL (List.take (n * (2 : Nat)) xs) (0 : Nat) (avLen (Av.sl (List.take (n * (2 : Nat)) xs) n))))) =
        true,
      capBig + (7 : Nat) = capBig + (7 : Nat),
      avLen
              (Av.sl
                (List.take (avLen (Av.sl (List.take m ys) m))
                  (List.take m ys ++
                    [Value.int IntKind.u8
                        (↑(((160 : Nat) + avLen (Av.sl (List.take m ys) m) % (90 : Nat)) % (256 : Nat)) : Int),
                      Value.int IntKind.u8
                        (↑(((160 : Nat) + (avLen (Av.sl (List.take m ys) m) + (1 : Nat)) % (90 : Nat)) % (256 : Nat)) :
                          Int),
                      Value.int IntKind.u8
                        (↑(((160 : Nat) + (avLen (Av.sl (List.take m ys) m) + (1 : Nat) + (1 : Nat)) % (90 : Nat)) %
                              (256 : Nat)) :
                          Int)]))
                (avLen (Av.sl (List.take m ys) m))) /
            (8 : Nat) *
          (2 : Nat) ≤
        List.length
          (rdL
            (List.take (avLen (Av.sl (List.take m ys) m))
              (List.take m ys ++
                [Value.int IntKind.u8
                    (↑(((160 : Nat) + avLen (Av.sl (List.take m ys) m) % (90 : Nat)) % (256 : Nat)) : Int),
                  Value.int IntKind.u8
                    (↑(((160 : Nat) + (avLen (Av.sl (List.take m ys) m) + (1 : Nat)) % (90 : Nat)) % (256 : Nat)) :
                      Int),
                  Value.int IntKind.u8
                    (↑(((160 : Nat) + (avLen (Av.sl (List.take m ys) m) + (1 : Nat) + (1 : Nat)) % (90 : Nat)) %
                          (256 : Nat)) :
                      Int)]))
            (0 : Nat)
            (avLen
                (Av.sl
                  (List.take (avLen (Av.sl (List.take m ys) m))
                    (List.take m ys ++
                      [Value.int IntKind.u8
                          (↑(((160 : Nat) + avLen (Av.sl (List.take m ys) m) % (90 : Nat)) % (256 : Nat)) : Int),
                        Value.int IntKind.u8
                          (↑(((160 : Nat) + (avLen (Av.sl (List.take m ys) m) + (1 : Nat)) % (90 : Nat)) %
                                (256 : Nat)) :
                            Int),
                        Value.int IntKind.u8
                          (↑(((160 : Nat) + (avLen (Av.sl (List.take m ys) m) + (1 : Nat) + (1 : Nat)) % (90 : Nat)) %
                                (256 : Nat)) :
                            Int)]))
                  (avLen (Av.sl (List.take m ys) m))) /
              (8 : Nat))),
      (0 : Nat) < (2 : Nat),
      avLen
              (Av.sl
                (List.take (avLen (Av.sl (List.take m ys) m))
                  (List.take m ys ++
                    [Value.int IntKind.u8
                        (↑(((160 : Nat) + avLen (Av.sl (List.take m ys) m) % (90 : Nat)) % (256 : Nat)) : Int),
                      Value.int IntKind.u8
                        (↑(((160 : Nat) + (avLen (Av.sl (List.take m ys) m) + (1 : Nat)) % (90 : Nat)) % (256 : Nat)) :
                          Int),
                      Value.int IntKind.u8
                        (↑(((160 : Nat) + (avLen (Av.sl (List.take m ys) m) + (1 : Nat) + (1 : Nat)) % (90 : Nat)) %
                              (256 : Nat)) :
                          Int)]))
                (avLen (Av.sl (List.take m ys) m))) /
            (8 : Nat) *
          (2 : Nat) ≤
        List.length
          (rdL
            (List.take (avLen (Av.sl (List.take m ys) m))
              (List.take m ys ++
                [Value.int IntKind.u8
                    (↑(((160 : Nat) + avLen (Av.sl (List.take m ys) m) % (90 : Nat)) % (256 : Nat)) : Int),
                  Value.int IntKind.u8
                    (↑(((160 : Nat) + (avLen (Av.sl (List.take m ys) m) + (1 : Nat)) % (90 : Nat)) % (256 : Nat)) :
                      Int),
                  Value.int IntKind.u8
                    (↑(((160 : Nat) + (avLen (Av.sl (List.take m ys) m) + (1 : Nat) + (1 : Nat)) % (90 : Nat)) %
                          (256 : Nat)) :
                      Int)]))
            (0 : Nat)
            (avLen
                (Av.sl
                  (List.take (avLen (Av.sl (List.take m ys) m))
                    (List.take m ys ++
                      [Value.int IntKind.u8
                          (↑(((160 : Nat) + avLen (Av.sl (List.take m ys) m) % (90 : Nat)) % (256 : Nat)) : Int),
                        Value.int IntKind.u8
                          (↑(((160 : Nat) + (avLen (Av.sl (List.take m ys) m) + (1 : Nat)) % (90 : Nat)) %
                                (256 : Nat)) :
                            Int),
                        Value.int IntKind.u8
                          (↑(((160 : Nat) + (avLen (Av.sl (List.take m ys) m) + (1 : Nat) + (1 : Nat)) % (90 : Nat)) %
                                (256 : Nat)) :
                            Int)]))
                  (avLen (Av.sl (List.take m ys) m))) /
              (8 : Nat))),
      Fl
        (List.take
          (avLen
                (Av.sl
                  (List.take (avLen (Av.sl (List.take m ys) m))
                    (List.take m ys ++
                      [Value.int IntKind.u8
                          (↑(((160 : Nat) + avLen (Av.sl (List.take m ys) m) % (90 : Nat)) % (256 : Nat)) : Int),
                        Value.int IntKind.u8
                          (↑(((160 : Nat) + (avLen (Av.sl (List.take m ys) m) + (1 : Nat)) % (90 : Nat)) %
                                (256 : Nat)) :
                            Int),
                        Value.int IntKind.u8
                          (↑(((160 : Nat) + (avLen (Av.sl (List.take m ys) m) + (1 : Nat) + (1 : Nat)) % (90 : Nat)) %
                                (256 : Nat)) :
                            Int)]))
                  (avLen (Av.sl (List.take m ys) m))) /
              (8 : Nat) *
            (2 : Nat))
          (rdL
            (List.take (avLen (Av.sl (List.take m ys) m))
              (List.take m ys ++
                [Value.int IntKind.u8
                    (↑(((160 : Nat) + avLen (Av.sl (List.take m ys) m) % (90 : Nat)) % (256 : Nat)) : Int),
                  Value.int IntKind.u8
                    (↑(((160 : Nat) + (avLen (Av.sl (List.take m ys) m) + (1 : Nat)) % (90 : Nat)) % (256 : Nat)) :
                      Int),
                  Value.int IntKind.u8
                    (↑(((160 : Nat) + (avLen (Av.sl (List.take m ys) m) + (1 : Nat) + (1 : Nat)) % (90 : Nat)) %
                          (256 : Nat)) :
                      Int)]))
            (0 : Nat)
            (avLen
                (Av.sl
                  (List.take (avLen (Av.sl (List.take m ys) m))
                    (List.take m ys ++
                      [Value.int IntKind.u8
                          (↑(((160 : Nat) + avLen (Av.sl (List.take m ys) m) % (90 : Nat)) % (256 : Nat)) : Int),
                        Value.int IntKind.u8
                          (↑(((160 : Nat) + (avLen (Av.sl (List.take m ys) m) + (1 : Nat)) % (90 : Nat)) %
                                (256 : Nat)) :
                            Int),
                        Value.int IntKind.u8
                          (↑(((160 : Nat) + (avLen (Av.sl (List.take m ys) m) + (1 : Nat) + (1 : Nat)) % (90 : Nat)) %
                                (256 : Nat)) :
                            Int)]))
                  (avLen (Av.sl (List.take m ys) m))) /
              (8 : Nat)))),
      capBig + (8 : Nat) = capBig + (8 : Nat),
      avLen (Av.sl (List.take m ys) m) / (8 : Nat) * (2 : Nat) ≤
        List.length (rdL (List.take m ys) (0 : Nat) (avLen (Av.sl (List.take m ys) m) / (8 : Nat))),
      (0 : Nat) < (2 : Nat),
      avLen (Av.sl (List.take m ys) m) / (8 : Nat) * (2 : Nat) ≤
        List.length (rdL (List.take m ys) (0 : Nat) (avLen (Av.sl (List.take m ys) m) / (8 : Nat))),
      Fl
        (List.take (avLen (Av.sl (List.take m ys) m) / (8 : Nat) * (2 : Nat))
          (rdL (List.take m ys) (0 : Nat) (avLen (Av.sl (List.take m ys) m) / (8 : Nat)))),
      Ints IntKind.i64
        (List.take
          (avLen
                (Av.sl
                  (List.take (avLen (Av.sl (List.take m ys) m))
                    (List.take m ys ++
                      [Value.int IntKind.u8
                          (↑(((160 : Nat) + avLen (Av.sl (List.take m ys) m) % (90 : Nat)) % (256 : Nat)) : Int),
                        Value.int IntKind.u8
                          (↑(((160 : Nat) + (avLen (Av.sl (List.take m ys) m) + (1 : Nat)) % (90 : Nat)) %
                                (256 : Nat)) :
                            Int),
                        Value.int IntKind.u8
                          (↑(((160 : Nat) + (avLen (Av.sl (List.take m ys) m) + (1 : Nat) + (1 : Nat)) % (90 : Nat)) %
                                (256 : Nat)) :
                            Int)]))
                  (avLen (Av.sl (List.take m ys) m))) /
              (8 : Nat) *
            (2 : Nat))
          (rdL
            (List.take (avLen (Av.sl (List.take m ys) m))
              (List.take m ys ++
                [Value.int IntKind.u8
                    (↑(((160 : Nat) + avLen (Av.sl (List.take m ys) m) % (90 : Nat)) % (256 : Nat)) : Int),
                  Value.int IntKind.u8
                    (↑(((160 : Nat) + (avLen (Av.sl (List.take m ys) m) + (1 : Nat)) % (90 : Nat)) % (256 : Nat)) :
                      Int),
                  Value.int IntKind.u8
                    (↑(((160 : Nat) + (avLen (Av.sl (List.take m ys) m) + (1 : Nat) + (1 : Nat)) % (90 : Nat)) %
                          (256 : Nat)) :
                      Int)]))
            (0 : Nat)
            (avLen
                (Av.sl
                  (List.take (avLen (Av.sl (List.take m ys) m))
                    (List.take m ys ++
                      [Value.int IntKind.u8
                          (↑(((160 : Nat) + avLen (Av.sl (List.take m ys) m) % (90 : Nat)) % (256 : Nat)) : Int),
                        Value.int IntKind.u8
                          (↑(((160 : Nat) + (avLen (Av.sl (List.take m ys) m) + (1 : Nat)) % (90 : Nat)) %
                                (256 : Nat)) :
                            Int),
                        Value.int IntKind.u8
                          (↑(((160 : Nat) + (avLen (Av.sl (List.take m ys) m) + (1 : Nat) + (1 : Nat)) % (90 : Nat)) %
                                (256 : Nat)) :
                            Int)]))
                  (avLen (Av.sl (List.take m ys) m))) /
              (8 : Nat)))),
      List.take (avLen (Av.sl (List.take m ys) m) / (8 : Nat) * (2 : Nat))
          (rdL (List.take m ys) (0 : Nat) (avLen (Av.sl (List.take m ys) m) / (8 : Nat))) =
        List.take
          (avLen
                (Av.sl
                  (List.take (avLen (Av.sl (List.take m ys) m))
                    (List.take m ys ++
                      [Value.int IntKind.u8
                          (↑(((160 : Nat) + avLen (Av.sl (List.take m ys) m) % (90 : Nat)) % (256 : Nat)) : Int),
                        Value.int IntKind.u8
                          (↑(((160 : Nat) + (avLen (Av.sl (List.take m ys) m) + (1 : Nat)) % (90 : Nat)) %
                                (256 : Nat)) :
                            Int),
                        Value.int IntKind.u8
                          (↑(((160 : Nat) + (avLen (Av.sl (List.take m ys) m) + (1 : Nat) + (1 : Nat)) % (90 : Nat)) %
                                (256 : Nat)) :
                            Int)]))
                  (avLen (Av.sl (List.take m ys) m))) /
              (8 : Nat) *
            (2 : Nat))
          (rdL
            (List.take (avLen (Av.sl (List.take m ys) m))
              (List.take m ys ++
                [Value.int IntKind.u8
                    (↑(((160 : Nat) + avLen (Av.sl (List.take m ys) m) % (90 : Nat)) % (256 : Nat)) : Int),
                  Value.int IntKind.u8
                    (↑(((160 : Nat) + (avLen (Av.sl (List.take m ys) m) + (1 : Nat)) % (90 : Nat)) % (256 : Nat)) :
                      Int),
                  Value.int IntKind.u8
                    (↑(((160 : Nat) + (avLen (Av.sl (List.take m ys) m) + (1 : Nat) + (1 : Nat)) % (90 : Nat)) %
                          (256 : Nat)) :
                      Int)]))
            (0 : Nat)
            (avLen
                (Av.sl
                  (List.take (avLen (Av.sl (List.take m ys) m))
                    (List.take m ys ++
                      [Value.int IntKind.u8
                          (↑(((160 : Nat) + avLen (Av.sl (List.take m ys) m) % (90 : Nat)) % (256 : Nat)) : Int),
                        Value.int IntKind.u8
                          (↑(((160 : Nat) + (avLen (Av.sl (List.take m ys) m) + (1 : Nat)) % (90 : Nat)) %
                                (256 : Nat)) :
                            Int),
                        Value.int IntKind.u8
                          (↑(((160 : Nat) + (avLen (Av.sl (List.take m ys) m) + (1 : Nat) + (1 : Nat)) % (90 : Nat)) %
                                (256 : Nat)) :
                            Int)]))
                  (avLen (Av.sl (List.take m ys) m))) /
              (8 : Nat))),
      avLen
          (Av.sl
            (List.take (avLen (Av.sl (List.take m ys) m) / (8 : Nat) * (2 : Nat))
              (rdL (List.take m ys) (0 : Nat) (avLen (Av.sl (List.take m ys) m) / (8 : Nat))))
            (avLen (Av.sl (List.take m ys) m) / (8 : Nat))) =
        avLen
          (Av.sl
            (List.take
              (avLen
                    (Av.sl
                      (List.take (avLen (Av.sl (List.take m ys) m))
                        (List.take m ys ++
                          [Value.int IntKind.u8
                              (↑(((160 : Nat) + avLen (Av.sl (List.take m ys) m) % (90 : Nat)) % (256 : Nat)) : Int),
                            Value.int IntKind.u8
                              (↑(((160 : Nat) + (avLen (Av.sl (List.take m ys) m) + (1 : Nat)) % (90 : Nat)) %
                                    (256 : Nat)) :
                                Int),
                            Value.int IntKind.u8
                              (↑(((160 : Nat) +
                                      (avLen (Av.sl (List.take m ys) m) + (1 : Nat) + (1 : Nat)) % (90 : Nat)) %
                                    (256 : Nat)) :
                                Int)]))
                      (avLen (Av.sl (List.take m ys) m))) /
                  (8 : Nat) *
                (2 : Nat))
              (rdL
                (List.take (avLen (Av.sl (List.take m ys) m))
                  (List.take m ys ++
                    [Value.int IntKind.u8
                        (↑(((160 : Nat) + avLen (Av.sl (List.take m ys) m) % (90 : Nat)) % (256 : Nat)) : Int),
                      Value.int IntKind.u8
                        (↑(((160 : Nat) + (avLen (Av.sl (List.take m ys) m) + (1 : Nat)) % (90 : Nat)) % (256 : Nat)) :
                          Int),
                      Value.int IntKind.u8
                        (↑(((160 : Nat) + (avLen (Av.sl (List.take m ys) m) + (1 : Nat) + (1 : Nat)) % (90 : Nat)) %
                              (256 : Nat)) :
                          Int)]))
                (0 : Nat)
                (avLen
                    (Av.sl
                      (List.take (avLen (Av.sl (List.take m ys) m))
                        (List.take m ys ++
                          [Value.int IntKind.u8
                              (↑(((160 : Nat) + avLen (Av.sl (List.take m ys) m) % (90 : Nat)) % (256 : Nat)) : Int),
                            Value.int IntKind.u8
                              (↑(((160 : Nat) + (avLen (Av.sl (List.take m ys) m) + (1 : Nat)) % (90 : Nat)) %
                                    (256 : Nat)) :
                                Int),
                            Value.int IntKind.u8
                              (↑(((160 : Nat) +
                                      (avLen (Av.sl (List.take m ys) m) + (1 : Nat) + (1 : Nat)) % (90 : Nat)) %
                                    (256 : Nat)) :
                                Int)]))
                      (avLen (Av.sl (List.take m ys) m))) /
                  (8 : Nat))))
            (avLen
                (Av.sl
                  (List.take (avLen (Av.sl (List.take m ys) m))
                    (List.take m ys ++
                      [Value.int IntKind.u8
                          (↑(((160 : Nat) + avLen (Av.sl (List.take m ys) m) % (90 : Nat)) % (256 : Nat)) : Int),
                        Value.int IntKind.u8
                          (↑(((160 : Nat) + (avLen (Av.sl (List.take m ys) m) + (1 : Nat)) % (90 : Nat)) %
                                (256 : Nat)) :
                            Int),
                        Value.int IntKind.u8
                          (↑(((160 : Nat) + (avLen (Av.sl (List.take m ys) m) + (1 : Nat) + (1 : Nat)) % (90 : Nat)) %
                                (256 : Nat)) :
                            Int)]))
                  (avLen (Av.sl (List.take m ys) m))) /
              (8 : Nat))),
      (0 : Nat) = (0 : Nat), capBig + (5 : Nat) = capBig + (5 : Nat),
      avLen (Av.sl (List.take (((0 : Nat) + n) * (2 : Nat)) ([] ++ List.take (n * (2 : Nat)) xs)) ((0 : Nat) + n)) *
          (8 : Nat) ≤
        List.length
          (wrL (List.take (((0 : Nat) + n) * (2 : Nat)) ([] ++ List.take (n * (2 : Nat)) xs)) (0 : Nat)
            (avLen
              (Av.sl (List.take (((0 : Nat) + n) * (2 : Nat)) ([] ++ List.take (n * (2 : Nat)) xs)) ((0 : Nat) + n)))),
      Byts
        (wrL (List.take (((0 : Nat) + n) * (2 : Nat)) ([] ++ List.take (n * (2 : Nat)) xs)) (0 : Nat)
          (avLen
            (Av.sl (List.take (((0 : Nat) + n) * (2 : Nat)) ([] ++ List.take (n * (2 : Nat)) xs)) ((0 : Nat) + n)))),
      avLen (Av.sl (List.take m ys) m) + (3 : Nat) ≤ (9223372036854775807 : Nat),
      avLen (Av.sl (List.take m ys) m) + (3 : Nat) ≤
        List.length
          (List.take m ys ++
            [Value.int IntKind.u8
                (↑(((160 : Nat) + avLen (Av.sl (List.take m ys) m) % (90 : Nat)) % (256 : Nat)) : Int),
              Value.int IntKind.u8
                (↑(((160 : Nat) + (avLen (Av.sl (List.take m ys) m) + (1 : Nat)) % (90 : Nat)) % (256 : Nat)) : Int),
              Value.int IntKind.u8
                (↑(((160 : Nat) + (avLen (Av.sl (List.take m ys) m) + (1 : Nat) + (1 : Nat)) % (90 : Nat)) %
                      (256 : Nat)) :
                  Int)]),
      Fl
        (List.take (avLen (Av.sl (List.take m ys) m) + (3 : Nat))
          (List.take m ys ++
            [Value.int IntKind.u8
                (↑(((160 : Nat) + avLen (Av.sl (List.take m ys) m) % (90 : Nat)) % (256 : Nat)) : Int),
              Value.int IntKind.u8
                (↑(((160 : Nat) + (avLen (Av.sl (List.take m ys) m) + (1 : Nat)) % (90 : Nat)) % (256 : Nat)) : Int),
              Value.int IntKind.u8
                (↑(((160 : Nat) + (avLen (Av.sl (List.take m ys) m) + (1 : Nat) + (1 : Nat)) % (90 : Nat)) %
                      (256 : Nat)) :
                  Int)])),
      m ≤ d ∧ d ≤ (9223372036854775807 : Nat), m ≤ List.length ys, Fl (List.take m ys),
      Byts
        (List.take (avLen (Av.sl (List.take m ys) m) + (3 : Nat))
          (List.take m ys ++
            [Value.int IntKind.u8
                (↑(((160 : Nat) + avLen (Av.sl (List.take m ys) m) % (90 : Nat)) % (256 : Nat)) : Int),
              Value.int IntKind.u8
                (↑(((160 : Nat) + (avLen (Av.sl (List.take m ys) m) + (1 : Nat)) % (90 : Nat)) % (256 : Nat)) : Int),
              Value.int IntKind.u8
                (↑(((160 : Nat) + (avLen (Av.sl (List.take m ys) m) + (1 : Nat) + (1 : Nat)) % (90 : Nat)) %
                      (256 : Nat)) :
                  Int)])),
      Byts (List.take m ys), avLen (Av.sl (List.take m ys) m) = avLen (Av.sl (List.take m ys) m),
      avLen (Av.sl (List.take m ys) m) + (3 : Nat) = avLen (Av.sl (List.take m ys) m) + (3 : Nat),
      avLen (Av.sl (List.take m ys) m) ≤ (1099511627776 : Nat),
      decide
          (intsOf
              (List.take (avLen (Av.sl (List.take m ys) m) + (3 : Nat))
                (List.take m ys ++
                  [Value.int IntKind.u8
                      (↑(((160 : Nat) + avLen (Av.sl (List.take m ys) m) % (90 : Nat)) % (256 : Nat)) : Int),
                    Value.int IntKind.u8
                      (↑(((160 : Nat) + (avLen (Av.sl (List.take m ys) m) + (1 : Nat)) % (90 : Nat)) % (256 : Nat)) :
                        Int),
                    Value.int IntKind.u8
                      (↑(((160 : Nat) + (avLen (Av.sl (List.take m ys) m) + (1 : Nat) + (1 : Nat)) % (90 : Nat)) %
                            (256 : Nat)) :
                        Int)])) =
            intsOf
              (List.take m ys ++
                [Value.int IntKind.u8
                    (↑(((160 : Nat) + avLen (Av.sl (List.take m ys) m) % (90 : Nat)) % (256 : Nat)) : Int),
                  Value.int IntKind.u8
                    (↑(((160 : Nat) + (avLen (Av.sl (List.take m ys) m) + (1 : Nat)) % (90 : Nat)) % (256 : Nat)) :
                      Int),
                  Value.int IntKind.u8
                    (↑(((160 : Nat) + (avLen (Av.sl (List.take m ys) m) + (1 : Nat) + (1 : Nat)) % (90 : Nat)) %
                          (256 : Nat)) :
                      Int)])) =
        true]) := by kernel_rfl
theorem cb_long_n (xs : List Value) (n c : Nat) : runZ (cbV 2) Try.prog 5 7 [cbA n c, .slice none 0 0] [(0, ⟨.old, xs⟩)] 2 ([false, false] ++ [true] ++ [true] ++ [false, true] ++ [false, true] ++ [true, true]) =
Res.ok
  ((Value.bool true, [((0 : Nat), Rw.mk Kd.old xs)], (5 : Nat), []), [],
    [decide ((↑n : Int) > (200 : Int)) = false, false = false, Byts [], (0 : Nat) ≤ (1099511627776 : Nat),
      (0 : Nat) < (18446744073709551616 : Nat), (0 : Nat) < (0 : Nat) + n, (0 : Nat) ≤ (0 : Nat),
      ((0 : Nat) + n) * (16 : Nat) ≤ (140737488355328 : Nat) ∧ (0 : Nat) + n ≤ (9223372036854775807 : Nat),
      n * (2 : Nat) ≤ List.length xs, all1 (List.take (n * (2 : Nat)) xs) = true,
      capBig + (4 : Nat) = capBig + (4 : Nat),
      ((0 : Nat) + n) * (2 : Nat) ≤ List.length ([] ++ List.take (n * (2 : Nat)) xs), (0 : Nat) < (2 : Nat),
      ((0 : Nat) + n) * (2 : Nat) ≤ List.length ([] ++ List.take (n * (2 : Nat)) xs),
      Fl (List.take (((0 : Nat) + n) * (2 : Nat)) ([] ++ List.take (n * (2 : Nat)) xs)),
      Ints IntKind.i64 (List.take (((0 : Nat) + n) * (2 : Nat)) ([] ++ List.take (n * (2 : Nat)) xs)),
      decide
          (avLen
              (Av.sl (List.take (((0 : Nat) + n) * (2 : Nat)) ([] ++ List.take (n * (2 : Nat)) xs)) ((0 : Nat) + n)) ≤
            (128 : Nat)) =
        false,
      n ≤ c ∧ c ≤ (9223372036854775807 : Nat), n * (2 : Nat) ≤ List.length xs, Fl (List.take (n * (2 : Nat)) xs),
      Ints IntKind.i64 (List.take (n * (2 : Nat)) xs),
      decide (avLen (Av.sl (List.take (n * (2 : Nat)) xs) n) ≤ (128 : Nat)) = false,
      (0 : Nat) ≤ (3 : Nat) ∧ (3 : Nat) ≤ (9223372036854775807 : Nat), (0 : Nat) ≤ (3 : Nat), Fl [], Byts [],
      (0 : Nat) = (0 : Nat), Byts [], (0 : Nat) = (0 : Nat), Byts [], Byts [], true = true, Ints IntKind.i64 [],
      ([] : List Value) = [], (0 : Nat) = (0 : Nat), (3 : Nat) ≤ (9223372036854775807 : Nat), (3 : Nat) ≤ (3 : Nat),
      Fl [Value.int IntKind.u8 (160 : Int), Value.int IntKind.u8 (161 : Int), Value.int IntKind.u8 (162 : Int)],
      Byts [Value.int IntKind.u8 (160 : Int), Value.int IntKind.u8 (161 : Int), Value.int IntKind.u8 (162 : Int)],
      Byts [], (0 : Nat) = (0 : Nat), (3 : Nat) = (3 : Nat), (0 : Nat) ≤ (1099511627776 : Nat), true = true]) := by kernel_rfl
theorem cb_not_n (xs : List Value) (n c : Nat) : runZ (cbV 2) Try.prog 5 7 [cbA n c, .slice none 0 0] [(0, ⟨.old, xs⟩)] 2 ([false, false] ++ [false, false, false] ++ [false, false, false] ++ [false, true] ++ [false, true] ++ [true, true]) =
Res.ok
  ((Value.bool true, [((0 : Nat), Rw.mk Kd.old xs)], (5 : Nat), []), [],
    [decide ((↑n : Int) > (200 : Int)) = false, false = false, Byts [], (0 : Nat) ≤ (1099511627776 : Nat),
      (0 : Nat) < (18446744073709551616 : Nat), (0 : Nat) < (0 : Nat) + n, (0 : Nat) ≤ (0 : Nat),
      ((0 : Nat) + n) * (16 : Nat) ≤ (140737488355328 : Nat) ∧ (0 : Nat) + n ≤ (9223372036854775807 : Nat),
      n * (2 : Nat) ≤ List.length xs, all1 (List.take (n * (2 : Nat)) xs) = true,
      capBig + (4 : Nat) = capBig + (4 : Nat),
      ((0 : Nat) + n) * (2 : Nat) ≤ List.length ([] ++ List.take (n * (2 : Nat)) xs), (0 : Nat) < (2 : Nat),
      ((0 : Nat) + n) * (2 : Nat) ≤ List.length ([] ++ List.take (n * (2 : Nat)) xs),
      Fl (List.take (((0 : Nat) + n) * (2 : Nat)) ([] ++ List.take (n * (2 : Nat)) xs)),
      Ints IntKind.i64 (List.take (((0 : Nat) + n) * (2 : Nat)) ([] ++ List.take (n * (2 : Nat)) xs)),
      decide
          (avLen
              (Av.sl (List.take (((0 : Nat) + n) * (2 : Nat)) ([] ++ List.take (n * (2 : Nat)) xs)) ((0 : Nat) + n)) =
            (0 : Nat)) =
        false,
      decide
          (avLen
              (Av.sl (List.take (((0 : Nat) + n) * (2 : Nat)) ([] ++ List.take (n * (2 : Nat)) xs)) ((0 : Nat) + n)) ≤
            (128 : Nat)) =
        true,
      wrOk (List.take (((0 : Nat) + n) * (2 : Nat)) ([] ++ List.take (n * (2 : Nat)) xs)) (0 : Nat)
          (avLen
            (Av.sl (List.take (((0 : Nat) + n) * (2 : Nat)) ([] ++ List.take (n * (2 : Nat)) xs)) ((0 : Nat) + n))) =
        false,
      n ≤ c ∧ c ≤ (9223372036854775807 : Nat), n * (2 : Nat) ≤ List.length xs, Fl (List.take (n * (2 : Nat)) xs),
      Ints IntKind.i64 (List.take (n * (2 : Nat)) xs),
      decide (avLen (Av.sl (List.take (n * (2 : Nat)) xs) n) = (0 : Nat)) = false,
      decide (avLen (Av.sl (List.take (n * (2 : Nat)) xs) n) ≤ (128 : Nat)) = true,
      wrOk (List.take (n * (2 : Nat)) xs) (0 : Nat) (avLen (Av.sl (List.take (n * (2 : Nat)) xs) n)) = false,
      (0 : Nat) ≤ (3 : Nat) ∧ (3 : Nat) ≤ (9223372036854775807 : Nat), (0 : Nat) ≤ (3 : Nat), Fl [], Byts [],
      (0 : Nat) = (0 : Nat), Byts [], (0 : Nat) = (0 : Nat), Byts [], Byts [], true = true, Ints IntKind.i64 [],
      ([] : List Value) = [], (0 : Nat) = (0 : Nat), (3 : Nat) ≤ (9223372036854775807 : Nat), (3 : Nat) ≤ (3 : Nat),
      Fl [Value.int IntKind.u8 (160 : Int), Value.int IntKind.u8 (161 : Int), Value.int IntKind.u8 (162 : Int)],
      Byts [Value.int IntKind.u8 (160 : Int), Value.int IntKind.u8 (161 : Int), Value.int IntKind.u8 (162 : Int)],
      Byts [], (0 : Nat) = (0 : Nat), (3 : Nat) = (3 : Nat), (0 : Nat) ≤ (1099511627776 : Nat), true = true]) := by kernel_rfl
theorem cb_ok_n (xs : List Value) (n c : Nat) : runZ (cbV 2) Try.prog 5 7 [cbA n c, .slice none 0 0] [(0, ⟨.old, xs⟩)] 2 ([false, false] ++ [false, false, true] ++ [false, false, true] ++ [false, true] ++ [false, true] ++ [true, true]) =
Res.ok
  ((Value.bool true, [((0 : Nat), Rw.mk Kd.old xs)], (7 : Nat), []), [],
    [decide ((↑n : Int) > (200 : Int)) = false, false = false, Byts [], (0 : Nat) ≤ (1099511627776 : Nat),
      (0 : Nat) < (18446744073709551616 : Nat), (0 : Nat) < (0 : Nat) + n, (0 : Nat) ≤ (0 : Nat),
      ((0 : Nat) + n) * (16 : Nat) ≤ (140737488355328 : Nat) ∧ (0 : Nat) + n ≤ (9223372036854775807 : Nat),
      n * (2 : Nat) ≤ List.length xs, all1 (List.take (n * (2 : Nat)) xs) = true,
      capBig + (4 : Nat) = capBig + (4 : Nat),
      ((0 : Nat) + n) * (2 : Nat) ≤ List.length ([] ++ List.take (n * (2 : Nat)) xs), (0 : Nat) < (2 : Nat),
      ((0 : Nat) + n) * (2 : Nat) ≤ List.length ([] ++ List.take (n * (2 : Nat)) xs),
      Fl (List.take (((0 : Nat) + n) * (2 : Nat)) ([] ++ List.take (n * (2 : Nat)) xs)),
      Ints IntKind.i64 (List.take (((0 : Nat) + n) * (2 : Nat)) ([] ++ List.take (n * (2 : Nat)) xs)),
      decide
          (avLen
              (Av.sl (List.take (((0 : Nat) + n) * (2 : Nat)) ([] ++ List.take (n * (2 : Nat)) xs)) ((0 : Nat) + n)) =
            (0 : Nat)) =
        false,
      decide
          (avLen
              (Av.sl (List.take (((0 : Nat) + n) * (2 : Nat)) ([] ++ List.take (n * (2 : Nat)) xs)) ((0 : Nat) + n)) ≤
            (128 : Nat)) =
        true,
      wrOk (List.take (((0 : Nat) + n) * (2 : Nat)) ([] ++ List.take (n * (2 : Nat)) xs)) (0 : Nat)
          (avLen
            (Av.sl (List.take (((0 : Nat) + n) * (2 : Nat)) ([] ++ List.take (n * (2 : Nat)) xs)) ((0 : Nat) + n))) =
        true,
      n ≤ c ∧ c ≤ (9223372036854775807 : Nat), n * (2 : Nat) ≤ List.length xs, Fl (List.take (n * (2 : Nat)) xs),
      Ints IntKind.i64 (List.take (n * (2 : Nat)) xs),
      decide (avLen (Av.sl (List.take (n * (2 : Nat)) xs) n) = (0 : Nat)) = false,
      decide (avLen (Av.sl (List.take (n * (2 : Nat)) xs) n) ≤ (128 : Nat)) = true,
      wrOk (List.take (n * (2 : Nat)) xs) (0 : Nat) (avLen (Av.sl (List.take (n * (2 : Nat)) xs) n)) = true,
      (0 : Nat) ≤ (3 : Nat) ∧ (3 : Nat) ≤ (9223372036854775807 : Nat), (0 : Nat) ≤ (3 : Nat), Fl [], Byts [],
      (0 : Nat) = (0 : Nat), Byts [], (0 : Nat) = (0 : Nat), capBig + (5 : Nat) = capBig + (5 : Nat),
      avLen (Av.sl (List.take (((0 : Nat) + n) * (2 : Nat)) ([] ++ List.take (n * (2 : Nat)) xs)) ((0 : Nat) + n)) *
          (8 : Nat) ≤
        List.length
          (wrL (List.take (((0 : Nat) + n) * (2 : Nat)) ([] ++ List.take (n * (2 : Nat)) xs)) (0 : Nat)
            (avLen
              (Av.sl (List.take (((0 : Nat) + n) * (2 : Nat)) ([] ++ List.take (n * (2 : Nat)) xs)) ((0 : Nat) + n)))),
      (0 : Nat) < (1 : Nat),
      avLen (Av.sl (List.take (((0 : Nat) + n) * (2 : Nat)) ([] ++ List.take (n * (2 : Nat)) xs)) ((0 : Nat) + n)) *
          (8 : Nat) ≤
        List.length
          (wrL (List.take (((0 : Nat) + n) * (2 : Nat)) ([] ++ List.take (n * (2 : Nat)) xs)) (0 : Nat)
            (avLen
              (Av.sl (List.take (((0 : Nat) + n) * (2 : Nat)) ([] ++ List.take (n * (2 : Nat)) xs)) ((0 : Nat) + n)))),
      Fl
        (List.take
          (avLen
              (Av.sl (List.take (((0 : Nat) + n) * (2 : Nat)) ([] ++ List.take (n * (2 : Nat)) xs)) ((0 : Nat) + n)) *
            (8 : Nat))
          (wrL (List.take (((0 : Nat) + n) * (2 : Nat)) ([] ++ List.take (n * (2 : Nat)) xs)) (0 : Nat)
            (avLen
              (Av.sl (List.take (((0 : Nat) + n) * (2 : Nat)) ([] ++ List.take (n * (2 : Nat)) xs)) ((0 : Nat) + n))))),
      capBig + (6 : Nat) = capBig + (6 : Nat),
      avLen (Av.sl (List.take (n * (2 : Nat)) xs) n) * (8 : Nat) ≤
        List.length (wrL (List.take (n * (2 : Nat)) xs) (0 : Nat) (avLen (Av.sl (List.take (n * (2 : Nat)) xs) n))),
      (0 : Nat) < (1 : Nat),
      avLen (Av.sl (List.take (n * (2 : Nat)) xs) n) * (8 : Nat) ≤
        List.length (wrL (List.take (n * (2 : Nat)) xs) (0 : Nat) (avLen (Av.sl (List.take (n * (2 : Nat)) xs) n))),
      Fl
        (List.take (avLen (Av.sl (List.take (n * (2 : Nat)) xs) n) * (8 : Nat))
          (wrL (List.take (n * (2 : Nat)) xs) (0 : Nat) (avLen (Av.sl (List.take (n * (2 : Nat)) xs) n)))),
      Byts
        (List.take
          (avLen
              (Av.sl (List.take (((0 : Nat) + n) * (2 : Nat)) ([] ++ List.take (n * (2 : Nat)) xs)) ((0 : Nat) + n)) *
            (8 : Nat))
          (wrL (List.take (((0 : Nat) + n) * (2 : Nat)) ([] ++ List.take (n * (2 : Nat)) xs)) (0 : Nat)
            (avLen
              (Av.sl (List.take (((0 : Nat) + n) * (2 : Nat)) ([] ++ List.take (n * (2 : Nat)) xs)) ((0 : Nat) + n))))),
      Byts
        (List.take (avLen (Av.sl (List.take (n * (2 : Nat)) xs) n) * (8 : Nat))
          (wrL (List.take (n * (2 : Nat)) xs) (0 : Nat) (avLen (Av.sl (List.take (n * (2 : Nat)) xs) n)))),
      decide
          (intsOf
              (List.take
                (avLen
                    (Av.sl (List.take (((0 : Nat) + n) * (2 : Nat)) ([] ++ List.take (n * (2 : Nat)) xs))
                      ((0 : Nat) + n)) *
                  (8 : Nat))
                (wrL (List.take (((0 : Nat) + n) * (2 : Nat)) ([] ++ List.take (n * (2 : Nat)) xs)) (0 : Nat)
                  (avLen
                    (Av.sl (List.take (((0 : Nat) + n) * (2 : Nat)) ([] ++ List.take (n * (2 : Nat)) xs))
                      ((0 : Nat) + n))))) =
            intsOf
              (List.take (avLen (Av.sl (List.take (n * (2 : Nat)) xs) n) * (8 : Nat))
                (wrL (List.take (n * (2 : Nat)) xs) (0 : Nat) (avLen (Av.sl (List.take (n * (2 : Nat)) xs) n))))) =
        true,
      Ints IntKind.i64 [], ([] : List Value) = [], (0 : Nat) = (0 : Nat), (0 : Nat) = (0 : Nat),
      capBig + (5 : Nat) = capBig + (5 : Nat),
      avLen (Av.sl (List.take (((0 : Nat) + n) * (2 : Nat)) ([] ++ List.take (n * (2 : Nat)) xs)) ((0 : Nat) + n)) *
          (8 : Nat) ≤
        List.length
          (wrL (List.take (((0 : Nat) + n) * (2 : Nat)) ([] ++ List.take (n * (2 : Nat)) xs)) (0 : Nat)
            (avLen
              (Av.sl (List.take (((0 : Nat) + n) * (2 : Nat)) ([] ++ List.take (n * (2 : Nat)) xs)) ((0 : Nat) + n)))),
      Byts
        (wrL (List.take (((0 : Nat) + n) * (2 : Nat)) ([] ++ List.take (n * (2 : Nat)) xs)) (0 : Nat)
          (avLen
            (Av.sl (List.take (((0 : Nat) + n) * (2 : Nat)) ([] ++ List.take (n * (2 : Nat)) xs)) ((0 : Nat) + n)))),
      (3 : Nat) ≤ (9223372036854775807 : Nat), (3 : Nat) ≤ (3 : Nat),
      Fl [Value.int IntKind.u8 (160 : Int), Value.int IntKind.u8 (161 : Int), Value.int IntKind.u8 (162 : Int)],
      Byts [Value.int IntKind.u8 (160 : Int), Value.int IntKind.u8 (161 : Int), Value.int IntKind.u8 (162 : Int)],
      Byts [], (0 : Nat) = (0 : Nat), (3 : Nat) = (3 : Nat), (0 : Nat) ≤ (1099511627776 : Nat), true = true]) := by kernel_rfl
theorem cb_e_n (xs : List Value) (c : Nat) : runZ (cbV 4) Try.prog 5 7 [cbA 0 c, .slice none 0 0] [(0, ⟨.old, xs⟩)] 2 ([false, false] ++ [false, true] ++ [false, true] ++ [false, true] ++ [false, true] ++ [true, true]) =
Res.ok
  ((Value.bool true, [((0 : Nat), Rw.mk Kd.old xs)], (4 : Nat), []), [],
    [false = false, false = false, Byts [], (0 : Nat) ≤ (1099511627776 : Nat),
      (0 : Nat) ≤ (0 : Nat) ∧ (0 : Nat) ≤ (9223372036854775807 : Nat), (0 : Nat) ≤ (0 : Nat), Fl [],
      Ints IntKind.i64 [], (0 : Nat) = (0 : Nat), (0 : Nat) ≤ c ∧ c ≤ (9223372036854775807 : Nat),
      (0 : Nat) ≤ List.length xs, Fl [], Ints IntKind.i64 [], (0 : Nat) = (0 : Nat),
      (0 : Nat) ≤ (3 : Nat) ∧ (3 : Nat) ≤ (9223372036854775807 : Nat), (0 : Nat) ≤ (3 : Nat), Fl [], Byts [],
      (0 : Nat) = (0 : Nat), Byts [], (0 : Nat) = (0 : Nat), Byts [], Byts [], true = true, Ints IntKind.i64 [],
      ([] : List Value) = [], (0 : Nat) = (0 : Nat), (3 : Nat) ≤ (9223372036854775807 : Nat), (3 : Nat) ≤ (3 : Nat),
      Fl [Value.int IntKind.u8 (160 : Int), Value.int IntKind.u8 (161 : Int), Value.int IntKind.u8 (162 : Int)],
      Byts [Value.int IntKind.u8 (160 : Int), Value.int IntKind.u8 (161 : Int), Value.int IntKind.u8 (162 : Int)],
      Byts [], (0 : Nat) = (0 : Nat), (3 : Nat) = (3 : Nat), (0 : Nat) ≤ (1099511627776 : Nat), true = true]) := by kernel_rfl
theorem cb_n_n  : runZ (cbV 4) Try.prog 5 7 [.slice none 0 0, .slice none 0 0] [] 2 ([false, false] ++ [false, true] ++ [false, true] ++ [false, true] ++ [false, true] ++ [true, true]) =
Res.ok
  ((Value.bool true, [], (4 : Nat), []), [],
    [false = false, false = false, Byts [], (0 : Nat) ≤ (1099511627776 : Nat),
      (0 : Nat) ≤ (0 : Nat) ∧ (0 : Nat) ≤ (9223372036854775807 : Nat), (0 : Nat) ≤ (0 : Nat), Fl [],
      Ints IntKind.i64 [], (0 : Nat) = (0 : Nat), Ints IntKind.i64 [], (0 : Nat) = (0 : Nat),
      (0 : Nat) ≤ (3 : Nat) ∧ (3 : Nat) ≤ (9223372036854775807 : Nat), (0 : Nat) ≤ (3 : Nat), Fl [], Byts [],
      (0 : Nat) = (0 : Nat), Byts [], (0 : Nat) = (0 : Nat), Byts [], Byts [], true = true, Ints IntKind.i64 [],
      ([] : List Value) = [], (0 : Nat) = (0 : Nat), (3 : Nat) ≤ (9223372036854775807 : Nat), (3 : Nat) ≤ (3 : Nat),
      Fl [Value.int IntKind.u8 (160 : Int), Value.int IntKind.u8 (161 : Int), Value.int IntKind.u8 (162 : Int)],
      Byts [Value.int IntKind.u8 (160 : Int), Value.int IntKind.u8 (161 : Int), Value.int IntKind.u8 (162 : Int)],
      Byts [], (0 : Nat) = (0 : Nat), (3 : Nat) = (3 : Nat), (0 : Nat) ≤ (1099511627776 : Nat), true = true]) := by kernel_rfl
theorem cb_ss {xs ys : List Value} {n m c d : Nat} (hx : Ints .i64 xs) (hl : xs.length = n * 2) (hc : n ≤ c ∧ c ≤ 9223372036854775807) (hy : Byts ys) (hm : ys.length = m) (hd : m ≤ d ∧ d ≤ 9223372036854775807) :
    RunsTrue Try.prog 7 [cbA n c, cbB m d] [(0, ⟨.old, xs⟩), (1, ⟨.old, ys⟩)] 2 := by
  have hX : ∀ md, XOkZ (cbV md) Try.prog := fun md => noXz_ok rfl
  have hT : ∀ md, TOkZ (cbV md) Try.prog := fun md => T_okV rfl cbT_one
  have hL : ∀ md, LOkZ (cbV md) Try.prog := fun md => noL_okV rfl
  have ex1 : xs.take (n * 2) = xs := take_len hl
  have exw : (wrL xs 0 n).take (n * 8) = wrL xs 0 n := take_len (wrL_len xs n 0)
  have f3 := hx.fl
  have a3 := hx.all1
  have b5 := wrL_Byts xs n 0
  have f5 := fl_byts b5
  have lw := wrL_len xs n 0
  have ey1 : ys.take m = ys := take_len hm
  have hml : (ys ++ mk3 m).length = m + 3 := by simp [mk3, hm]
  have ey2 : (ys ++ mk3 m).take m = ys := by rw [← hm, List.take_left]
  have ey3 : (ys ++ mk3 m).take (m + 3) = ys ++ mk3 m := take_len hml
  have eyr : (rdL ys 0 (m / 8)).take (m / 8 * 2) = rdL ys 0 (m / 8) := take_len (rdL_len ys (m / 8) 0)
  have f1 := fl_byts hy
  have b2 := hy.app (mk3_byts m)
  have f2 := fl_byts b2
  have i4 := rdL_Ints ys (m / 8) 0
  have f4 := i4.fl
  have lr := rdL_len ys (m / 8) 0
  unfold mk3 at ey2 ey3 hml b2 f2
  by_cases h1 : n ≤ 200
  case neg =>
    refine ⟨_, _, _, run_tri (hX _) (hT _) (hL _) (cb_l1 xs ys n c m d) ?_ rfl⟩
    simp only [Alls, decide_eq_true_eq]
    repeat' (first | with_reducible exact trivial | with_reducible apply And.intro)
    all_goals first | with_reducible assumption | omega | with_reducible rfl | (skip)
  by_cases h2 : m ≤ 2000
  case neg =>
    refine ⟨_, _, _, run_tri (hX _) (hT _) (hL _) (cb_l2 xs ys n c m d) ?_ rfl⟩
    simp only [Alls, decide_eq_true_eq, decide_eq_false_iff_not]
    repeat' (first | with_reducible exact trivial | with_reducible apply And.intro)
    all_goals first | with_reducible assumption | omega | with_reducible rfl | (skip)
  have g1 : decide ((n : Int) > 200) = false := by simp only [decide_eq_false_iff_not]; omega
  have g2 : decide ((m : Int) > 2000) = false := by simp only [decide_eq_false_iff_not]; omega
  cases z : decide (n = 0)
  case true =>
    have z' : n = 0 := by simpa using z
    subst z'
    obtain rfl : xs = [] := List.eq_nil_of_length_eq_zero (by omega)
    exact cb_es hx hc hy hm hd h2
  have z' : n ≠ 0 := by simpa using z
  cases w0 : decide (n ≤ 128)
  case false =>
    cases k0 : decide (m % 8 = 0)
    ·
      refine ⟨_, _, _, run_tri (hX _) (hT _) (hL _) (cb_long_bad xs ys n c m d) ?_ rfl⟩
      simp only [Alls, avLen, Nat.zero_add, List.take_zero, List.drop_zero, List.nil_append, List.length_nil, ex1, exw, ey1, ey2, ey3, eyr, Nat.zero_mul, Nat.zero_div]
      repeat' (first | with_reducible exact trivial | with_reducible apply And.intro)
      all_goals first | with_reducible assumption | omega | with_reducible rfl | (first | exact k0 | exact k1 | exact k3 | exact z | exact w0 | exact decide_eq_true rfl | exact Byts.nil | exact Fl.of rfl | exact Ints.of (l := []) | exact mk3_byts 0 | exact fl_byts (mk3_byts 0) | rfl)
    have k0' : m % 8 = 0 := by simpa using k0
    cases k1 : decide (m = 0)
    case true =>
      have k1' : m = 0 := by simpa using k1
      refine ⟨_, _, _, run_tri (hX _) (hT _) (hL _) (cb_long_nil xs ys n c m d) ?_ rfl⟩
      simp only [Alls, avLen, Nat.zero_add, List.take_zero, List.drop_zero, List.nil_append, List.length_nil, ex1, exw, ey1, ey2, ey3, eyr, Nat.zero_mul, Nat.zero_div]
      repeat' (first | with_reducible exact trivial | with_reducible apply And.intro)
      all_goals first | with_reducible assumption | omega | with_reducible rfl | (first | exact k0 | exact k1 | exact k3 | exact z | exact w0 | exact decide_eq_true rfl | exact Byts.nil | exact Fl.of rfl | exact Ints.of (l := []) | exact mk3_byts 0 | exact fl_byts (mk3_byts 0) | rfl)
    cases k2 : rdOk ys 0 (m / 8)
    ·
      refine ⟨_, _, _, run_tri (hX _) (hT _) (hL _) (cb_long_not xs ys n c m d) ?_ rfl⟩
      simp only [Alls, avLen, Nat.zero_add, List.take_zero, List.drop_zero, List.nil_append, List.length_nil, ex1, exw, ey1, ey2, ey3, eyr, Nat.zero_mul, Nat.zero_div]
      repeat' (first | with_reducible exact trivial | with_reducible apply And.intro)
      all_goals first | with_reducible assumption | omega | with_reducible rfl | (first | exact k0 | exact k1 | exact k3 | exact z | exact w0 | exact decide_eq_true rfl | exact Byts.nil | exact Fl.of rfl | exact Ints.of (l := []) | exact mk3_byts 0 | exact fl_byts (mk3_byts 0) | rfl)
    cases k3 : decide (m / 8 ≤ 128)
    ·
      refine ⟨_, _, _, run_tri (hX _) (hT _) (hL _) (cb_long_long xs ys n c m d) ?_ rfl⟩
      simp only [Alls, avLen, Nat.zero_add, List.take_zero, List.drop_zero, List.nil_append, List.length_nil, ex1, exw, ey1, ey2, ey3, eyr, Nat.zero_mul, Nat.zero_div]
      repeat' (first | with_reducible exact trivial | with_reducible apply And.intro)
      all_goals first | with_reducible assumption | omega | with_reducible rfl | (first | exact k0 | exact k1 | exact k3 | exact z | exact w0 | exact decide_eq_true rfl | exact Byts.nil | exact Fl.of rfl | exact Ints.of (l := []) | exact mk3_byts 0 | exact fl_byts (mk3_byts 0) | rfl)
    ·
      refine ⟨_, _, _, run_tri (hX _) (hT _) (hL _) (cb_long_ok xs ys n c m d) ?_ rfl⟩
      simp only [Alls, avLen, Nat.zero_add, List.take_zero, List.drop_zero, List.nil_append, List.length_nil, ex1, exw, ey1, ey2, ey3, eyr, Nat.zero_mul, Nat.zero_div]
      repeat' (first | with_reducible exact trivial | with_reducible apply And.intro)
      all_goals first | with_reducible assumption | omega | with_reducible rfl | (first | exact k0 | exact k1 | exact k3 | exact z | exact w0 | exact decide_eq_true rfl | exact Byts.nil | exact Fl.of rfl | exact Ints.of (l := []) | exact mk3_byts 0 | exact fl_byts (mk3_byts 0) | rfl)

  have w0' : n ≤ 128 := by simpa using w0
  cases w1 : wrOk xs 0 n
  case false =>
    cases k0 : decide (m % 8 = 0)
    ·
      refine ⟨_, _, _, run_tri (hX _) (hT _) (hL _) (cb_not_bad xs ys n c m d) ?_ rfl⟩
      simp only [Alls, avLen, Nat.zero_add, List.take_zero, List.drop_zero, List.nil_append, List.length_nil, ex1, exw, ey1, ey2, ey3, eyr, Nat.zero_mul, Nat.zero_div]
      repeat' (first | with_reducible exact trivial | with_reducible apply And.intro)
      all_goals first | with_reducible assumption | omega | with_reducible rfl | (first | exact k0 | exact k1 | exact k3 | exact z | exact w0 | exact decide_eq_true rfl | exact Byts.nil | exact Fl.of rfl | exact Ints.of (l := []) | exact mk3_byts 0 | exact fl_byts (mk3_byts 0) | rfl)
    have k0' : m % 8 = 0 := by simpa using k0
    cases k1 : decide (m = 0)
    case true =>
      have k1' : m = 0 := by simpa using k1
      refine ⟨_, _, _, run_tri (hX _) (hT _) (hL _) (cb_not_nil xs ys n c m d) ?_ rfl⟩
      simp only [Alls, avLen, Nat.zero_add, List.take_zero, List.drop_zero, List.nil_append, List.length_nil, ex1, exw, ey1, ey2, ey3, eyr, Nat.zero_mul, Nat.zero_div]
      repeat' (first | with_reducible exact trivial | with_reducible apply And.intro)
      all_goals first | with_reducible assumption | omega | with_reducible rfl | (first | exact k0 | exact k1 | exact k3 | exact z | exact w0 | exact decide_eq_true rfl | exact Byts.nil | exact Fl.of rfl | exact Ints.of (l := []) | exact mk3_byts 0 | exact fl_byts (mk3_byts 0) | rfl)
    cases k2 : rdOk ys 0 (m / 8)
    ·
      refine ⟨_, _, _, run_tri (hX _) (hT _) (hL _) (cb_not_not xs ys n c m d) ?_ rfl⟩
      simp only [Alls, avLen, Nat.zero_add, List.take_zero, List.drop_zero, List.nil_append, List.length_nil, ex1, exw, ey1, ey2, ey3, eyr, Nat.zero_mul, Nat.zero_div]
      repeat' (first | with_reducible exact trivial | with_reducible apply And.intro)
      all_goals first | with_reducible assumption | omega | with_reducible rfl | (first | exact k0 | exact k1 | exact k3 | exact z | exact w0 | exact decide_eq_true rfl | exact Byts.nil | exact Fl.of rfl | exact Ints.of (l := []) | exact mk3_byts 0 | exact fl_byts (mk3_byts 0) | rfl)
    cases k3 : decide (m / 8 ≤ 128)
    ·
      refine ⟨_, _, _, run_tri (hX _) (hT _) (hL _) (cb_not_long xs ys n c m d) ?_ rfl⟩
      simp only [Alls, avLen, Nat.zero_add, List.take_zero, List.drop_zero, List.nil_append, List.length_nil, ex1, exw, ey1, ey2, ey3, eyr, Nat.zero_mul, Nat.zero_div]
      repeat' (first | with_reducible exact trivial | with_reducible apply And.intro)
      all_goals first | with_reducible assumption | omega | with_reducible rfl | (first | exact k0 | exact k1 | exact k3 | exact z | exact w0 | exact decide_eq_true rfl | exact Byts.nil | exact Fl.of rfl | exact Ints.of (l := []) | exact mk3_byts 0 | exact fl_byts (mk3_byts 0) | rfl)
    ·
      refine ⟨_, _, _, run_tri (hX _) (hT _) (hL _) (cb_not_ok xs ys n c m d) ?_ rfl⟩
      simp only [Alls, avLen, Nat.zero_add, List.take_zero, List.drop_zero, List.nil_append, List.length_nil, ex1, exw, ey1, ey2, ey3, eyr, Nat.zero_mul, Nat.zero_div]
      repeat' (first | with_reducible exact trivial | with_reducible apply And.intro)
      all_goals first | with_reducible assumption | omega | with_reducible rfl | (first | exact k0 | exact k1 | exact k3 | exact z | exact w0 | exact decide_eq_true rfl | exact Byts.nil | exact Fl.of rfl | exact Ints.of (l := []) | exact mk3_byts 0 | exact fl_byts (mk3_byts 0) | rfl)

  cases k0 : decide (m % 8 = 0)
  ·
    refine ⟨_, _, _, run_tri (hX _) (hT _) (hL _) (cb_ok_bad xs ys n c m d) ?_ rfl⟩
    simp only [Alls, avLen, Nat.zero_add, List.take_zero, List.drop_zero, List.nil_append, List.length_nil, ex1, exw, ey1, ey2, ey3, eyr, Nat.zero_mul, Nat.zero_div]
    repeat' (first | with_reducible exact trivial | with_reducible apply And.intro)
    all_goals first | with_reducible assumption | omega | with_reducible rfl | (first | exact k0 | exact k1 | exact k3 | exact z | exact w0 | exact decide_eq_true rfl | exact Byts.nil | exact Fl.of rfl | exact Ints.of (l := []) | exact mk3_byts 0 | exact fl_byts (mk3_byts 0) | rfl)
  have k0' : m % 8 = 0 := by simpa using k0
  cases k1 : decide (m = 0)
  case true =>
    have k1' : m = 0 := by simpa using k1
    refine ⟨_, _, _, run_tri (hX _) (hT _) (hL _) (cb_ok_nil xs ys n c m d) ?_ rfl⟩
    simp only [Alls, avLen, Nat.zero_add, List.take_zero, List.drop_zero, List.nil_append, List.length_nil, ex1, exw, ey1, ey2, ey3, eyr, Nat.zero_mul, Nat.zero_div]
    repeat' (first | with_reducible exact trivial | with_reducible apply And.intro)
    all_goals first | with_reducible assumption | omega | with_reducible rfl | (first | exact k0 | exact k1 | exact k3 | exact z | exact w0 | exact decide_eq_true rfl | exact Byts.nil | exact Fl.of rfl | exact Ints.of (l := []) | exact mk3_byts 0 | exact fl_byts (mk3_byts 0) | rfl)
  cases k2 : rdOk ys 0 (m / 8)
  ·
    refine ⟨_, _, _, run_tri (hX _) (hT _) (hL _) (cb_ok_not xs ys n c m d) ?_ rfl⟩
    simp only [Alls, avLen, Nat.zero_add, List.take_zero, List.drop_zero, List.nil_append, List.length_nil, ex1, exw, ey1, ey2, ey3, eyr, Nat.zero_mul, Nat.zero_div]
    repeat' (first | with_reducible exact trivial | with_reducible apply And.intro)
    all_goals first | with_reducible assumption | omega | with_reducible rfl | (first | exact k0 | exact k1 | exact k3 | exact z | exact w0 | exact decide_eq_true rfl | exact Byts.nil | exact Fl.of rfl | exact Ints.of (l := []) | exact mk3_byts 0 | exact fl_byts (mk3_byts 0) | rfl)
  cases k3 : decide (m / 8 ≤ 128)
  ·
    refine ⟨_, _, _, run_tri (hX _) (hT _) (hL _) (cb_ok_long xs ys n c m d) ?_ rfl⟩
    simp only [Alls, avLen, Nat.zero_add, List.take_zero, List.drop_zero, List.nil_append, List.length_nil, ex1, exw, ey1, ey2, ey3, eyr, Nat.zero_mul, Nat.zero_div]
    repeat' (first | with_reducible exact trivial | with_reducible apply And.intro)
    all_goals first | with_reducible assumption | omega | with_reducible rfl | (first | exact k0 | exact k1 | exact k3 | exact z | exact w0 | exact decide_eq_true rfl | exact Byts.nil | exact Fl.of rfl | exact Ints.of (l := []) | exact mk3_byts 0 | exact fl_byts (mk3_byts 0) | rfl)
  ·
    refine ⟨_, _, _, run_tri (hX _) (hT _) (hL _) (cb_ok_ok xs ys n c m d) ?_ rfl⟩
    simp only [Alls, avLen, Nat.zero_add, List.take_zero, List.drop_zero, List.nil_append, List.length_nil, ex1, exw, ey1, ey2, ey3, eyr, Nat.zero_mul, Nat.zero_div]
    repeat' (first | with_reducible exact trivial | with_reducible apply And.intro)
    all_goals first | with_reducible assumption | omega | with_reducible rfl | (first | exact k0 | exact k1 | exact k3 | exact z | exact w0 | exact decide_eq_true rfl | exact Byts.nil | exact Fl.of rfl | exact Ints.of (l := []) | exact mk3_byts 0 | exact fl_byts (mk3_byts 0) | rfl)
theorem cb_sn {xs : List Value} {n c : Nat} (hx : Ints .i64 xs) (hl : xs.length = n * 2) (hc : n ≤ c ∧ c ≤ 9223372036854775807) :
    RunsTrue Try.prog 7 [cbA n c, .slice none 0 0] [(0, ⟨.old, xs⟩)] 2 := by
  have hX : ∀ md, XOkZ (cbV md) Try.prog := fun md => noXz_ok rfl
  have hT : ∀ md, TOkZ (cbV md) Try.prog := fun md => T_okV rfl cbT_one
  have hL : ∀ md, LOkZ (cbV md) Try.prog := fun md => noL_okV rfl
  have ex1 : xs.take (n * 2) = xs := take_len hl
  have exw : (wrL xs 0 n).take (n * 8) = wrL xs 0 n := take_len (wrL_len xs n 0)
  have f3 := hx.fl
  have a3 := hx.all1
  have b5 := wrL_Byts xs n 0
  have f5 := fl_byts b5
  have lw := wrL_len xs n 0
  have ey1 : True := trivial
  have ey2 : True := trivial
  have ey3 : True := trivial
  have eyr : True := trivial
  by_cases h1 : n ≤ 200
  case neg =>
    refine ⟨_, _, _, run_tri (hX _) (hT _) (hL _) (cb_l1n xs n c) ?_ rfl⟩
    simp only [Alls, decide_eq_true_eq]
    repeat' (first | with_reducible exact trivial | with_reducible apply And.intro)
    all_goals first | with_reducible assumption | omega | with_reducible rfl | (skip)
  have g1 : decide ((n : Int) > 200) = false := by simp only [decide_eq_false_iff_not]; omega
  cases z : decide (n = 0)
  case true =>
    have z' : n = 0 := by simpa using z
    subst z'
    refine ⟨_, _, _, run_tri (hX _) (hT _) (hL _) (cb_e_n xs c) ?_ rfl⟩
    simp only [Alls, avLen, Nat.zero_add, List.take_zero, List.drop_zero, List.nil_append, List.length_nil, ex1, exw, ey1, ey2, ey3, eyr, Nat.zero_mul, Nat.zero_div]
    repeat' (first | with_reducible exact trivial | with_reducible apply And.intro)
    all_goals first | with_reducible assumption | omega | with_reducible rfl | (first | exact k0 | exact k1 | exact k3 | exact z | exact w0 | exact decide_eq_true rfl | exact Byts.nil | exact Fl.of rfl | exact Ints.of (l := []) | exact mk3_byts 0 | exact fl_byts (mk3_byts 0) | rfl)
  have z' : n ≠ 0 := by simpa using z
  cases w0 : decide (n ≤ 128)
  ·
    refine ⟨_, _, _, run_tri (hX _) (hT _) (hL _) (cb_long_n xs n c) ?_ rfl⟩
    simp only [Alls, avLen, Nat.zero_add, List.take_zero, List.drop_zero, List.nil_append, List.length_nil, ex1, exw, ey1, ey2, ey3, eyr, Nat.zero_mul, Nat.zero_div]
    repeat' (first | with_reducible exact trivial | with_reducible apply And.intro)
    all_goals first | with_reducible assumption | omega | with_reducible rfl | (first | exact k0 | exact k1 | exact k3 | exact z | exact w0 | exact decide_eq_true rfl | exact Byts.nil | exact Fl.of rfl | exact Ints.of (l := []) | exact mk3_byts 0 | exact fl_byts (mk3_byts 0) | rfl)
  have w0' : n ≤ 128 := by simpa using w0
  cases w1 : wrOk xs 0 n
  ·
    refine ⟨_, _, _, run_tri (hX _) (hT _) (hL _) (cb_not_n xs n c) ?_ rfl⟩
    simp only [Alls, avLen, Nat.zero_add, List.take_zero, List.drop_zero, List.nil_append, List.length_nil, ex1, exw, ey1, ey2, ey3, eyr, Nat.zero_mul, Nat.zero_div]
    repeat' (first | with_reducible exact trivial | with_reducible apply And.intro)
    all_goals first | with_reducible assumption | omega | with_reducible rfl | (first | exact k0 | exact k1 | exact k3 | exact z | exact w0 | exact decide_eq_true rfl | exact Byts.nil | exact Fl.of rfl | exact Ints.of (l := []) | exact mk3_byts 0 | exact fl_byts (mk3_byts 0) | rfl)
  ·
    refine ⟨_, _, _, run_tri (hX _) (hT _) (hL _) (cb_ok_n xs n c) ?_ rfl⟩
    simp only [Alls, avLen, Nat.zero_add, List.take_zero, List.drop_zero, List.nil_append, List.length_nil, ex1, exw, ey1, ey2, ey3, eyr, Nat.zero_mul, Nat.zero_div]
    repeat' (first | with_reducible exact trivial | with_reducible apply And.intro)
    all_goals first | with_reducible assumption | omega | with_reducible rfl | (first | exact k0 | exact k1 | exact k3 | exact z | exact w0 | exact decide_eq_true rfl | exact Byts.nil | exact Fl.of rfl | exact Ints.of (l := []) | exact mk3_byts 0 | exact fl_byts (mk3_byts 0) | rfl)
theorem cb_nn : RunsTrue Try.prog 7 [.slice none 0 0, .slice none 0 0] [] 2 := by
  have hX : ∀ md, XOkZ (cbV md) Try.prog := fun md => noXz_ok rfl
  have hT : ∀ md, TOkZ (cbV md) Try.prog := fun md => T_okV rfl cbT_one
  have hL : ∀ md, LOkZ (cbV md) Try.prog := fun md => noL_okV rfl
  have ex1 : True := trivial
  have exw : True := trivial
  have ey1 : True := trivial
  have ey2 : True := trivial
  have ey3 : True := trivial
  have eyr : True := trivial
  refine ⟨_, _, _, run_tri (hX _) (hT _) (hL _) (cb_n_n) ?_ rfl⟩
  simp only [Alls, avLen, Nat.zero_add, List.take_zero, List.drop_zero, List.nil_append, List.length_nil, ex1, exw, ey1, ey2, ey3, eyr, Nat.zero_mul, Nat.zero_div]
  repeat' (first | with_reducible exact trivial | with_reducible apply And.intro)
  all_goals first | with_reducible assumption | omega | with_reducible rfl | (first | exact k0 | exact k1 | exact k3 | exact z | exact w0 | exact decide_eq_true rfl | exact Byts.nil | exact Fl.of rfl | exact Ints.of (l := []) | exact mk3_byts 0 | exact fl_byts (mk3_byts 0) | rfl)
/-- The statement's own call. -/
theorem cbytes_any {W : World} {v0 v1 : Value} {a0 a1 : Av} {q0 q1 : Option (Addr × Nat)} {z0 z1 : List (List Int)} (h0 : (a0 = .fl (.slice none 0 0) ∧ z0 = []) ∨ a0 = .sl (z0.map (cellsK [.i64, .i64])).flatten z0.length) (h1 : (a1 = .fl (.slice none 0 0) ∧ z1 = []) ∨ a1 = .sl (z1.map (cellsK [.u8])).flatten z1.length)
    (A0 : AvAt a0 v0 q0) (A1 : AvAt a1 v1 q1) (L0 : Lies W a0 q0) (L1 : Lies W a1 q1) (w0 : ∀ zs ∈ z0, AllWf [.i64, .i64] zs) (w1 : ∀ zs ∈ z1, AllWf [.u8] zs) :
    Calls Try.prog 7 #[v0, v1] W fun e w' => e = .returned (.bool true) ∧ Ext W w' := by
  have b0 : Ints .i64 (z0.map (cellsK [.i64, .i64])).flatten := flat_Ints (m := 2) w0
  have l0 : ((z0.map (cellsK [.i64, .i64])).flatten).length = z0.length * 2 := flat_len w0
  have b1 := flat_Byts w1
  have l1 : ((z1.map (cellsK [.u8])).flatten).length = z1.length := by rw [flat_len w1]; simp
  refine calls_sl (avs := [a0, a1]) (vs := [v0, v1]) (ps := [q0, q1]) ⟨A0, A1, trivial⟩ ⟨L0, L1, trivial⟩ (fun σ => rfl) fun cs hcs => ?_
  obtain ⟨c, d, rfl⟩ := caps2 hcs
  rcases h0 with ⟨rfl, rfl⟩ | rfl <;> rcases h1 with ⟨rfl, rfl⟩ | rfl
  · exact cb_nn
  · exact cb_ns b1 l1 hcs.1
  · exact cb_sn b0 l0 hcs.1
  · exact cb_ss b0 l0 hcs.1 b1 l1 hcs.2.1
end Go.Proofs.Ytmjmdjcgjmjigaa
