/-
  Chapter 19: the statement ChainBytes, run at any lists.
-/
import Derived.Test.YtmjmdjcgjmjigaaResB
namespace Go.Proofs.Ytmjmdjcgjmjigaa
set_option linter.unusedSimpArgs false
set_option linter.unusedVariables false
set_option linter.unusedSectionVars false
open Go Go.RowKit

def cbT : TFun := orTz (mkT 34 [.c 1, .s 1] gKept) (orTz overT (orTz kitT chT))
theorem cbT_one : TOneZ Try.prog cbT := orTz_ok (mkT_one kept_ok) (orTz_ok over_one (orTz_ok kitT_one chT_one))
def cbV (md : Nat) : Tv := ⟨cbT, noXz, noL, fun f => bif Nat.beq f 7 then [16, 20, 48, 70] else [], allSy 7 [(27, md)], fun _ => [], fun _ => 0⟩
def cbA (n c : Nat) : Value := .slice (some ⟨0, 0, none⟩) n c
def cbB (m d : Nat) : Value := .slice (some ⟨1, 0, none⟩) m d
theorem cb_l1 (xs ys : List Value) (n c m d : Nat) : runZ (cbV 0) Try.prog 5 7 [cbA n c, cbB m d] [(0, ⟨.old, xs⟩), (1, ⟨.old, ys⟩)] 2 [true] =
Res.ok
  ((Value.bool true, [((0 : Nat), Rw.mk Kd.old xs), ((1 : Nat), Rw.mk Kd.old ys)], (2 : Nat), []), [],
    [decide ((↑n : Int) > (200 : Int)) = true]) := by kernel_rfl
theorem cb_l2 (xs ys : List Value) (n c m d : Nat) : runZ (cbV 0) Try.prog 5 7 [cbA n c, cbB m d] [(0, ⟨.old, xs⟩), (1, ⟨.old, ys⟩)] 2 [false, true] =
Res.ok
  ((Value.bool true, [((0 : Nat), Rw.mk Kd.old xs), ((1 : Nat), Rw.mk Kd.old ys)], (2 : Nat), []), [],
    [decide ((↑n : Int) > (200 : Int)) = false, decide ((↑m : Int) > (2000 : Int)) = true]) := by kernel_rfl
theorem cb_l2n (ys : List Value) (m d : Nat) : runZ (cbV 0) Try.prog 5 7 [.slice none 0 0, cbB m d] [(1, ⟨.old, ys⟩)] 2 [false, true] =
Res.ok
  ((Value.bool true, [((1 : Nat), Rw.mk Kd.old ys)], (2 : Nat), []), [],
    [false = false, decide ((↑m : Int) > (2000 : Int)) = true]) := by kernel_rfl
theorem cb_l1n (xs : List Value) (n c : Nat) : runZ (cbV 0) Try.prog 5 7 [cbA n c, .slice none 0 0] [(0, ⟨.old, xs⟩)] 2 [true] =
Res.ok
  ((Value.bool true, [((0 : Nat), Rw.mk Kd.old xs)], (2 : Nat), []), [], [decide ((↑n : Int) > (200 : Int)) = true]) := by kernel_rfl
theorem cb_e_bad (xs ys : List Value) (c m d : Nat) : runZ (cbV 4) Try.prog 5 7 [cbA 0 c, cbB m d] [(0, ⟨.old, xs⟩), (1, ⟨.old, ys⟩)] 2 ([false, false] ++ [false, true] ++ [false, true] ++ [true] ++ [true] ++ [true, true]) =
Res.ok
  ((Value.bool true, [((0 : Nat), Rw.mk Kd.old xs), ((1 : Nat), Rw.mk Kd.old ys)], (4 : Nat), []), [],
    [false = false, decide ((↑m : Int) > (2000 : Int)) = false, m ≤ d ∧ d ≤ (9223372036854775807 : Nat),
      m ≤ List.length ys, Fl (List.take m ys), Byts (List.take m ys),
      avLen (Av.sl (List.take m ys) m) ≤ (1099511627776 : Nat),
      (0 : Nat) ≤ (0 : Nat) ∧ (0 : Nat) ≤ (9223372036854775807 : Nat), (0 : Nat) ≤ (0 : Nat), Fl [],
      Ints IntKind.i64 [], (0 : Nat) = (0 : Nat), (0 : Nat) ≤ c ∧ c ≤ (9223372036854775807 : Nat),
      (0 : Nat) ≤ List.length xs, Fl [], Ints IntKind.i64 [], (0 : Nat) = (0 : Nat),
      avLen (Av.sl (List.take m ys) m) ≤ avLen (Av.sl (List.take m ys) m) + (3 : Nat) ∧
        avLen (Av.sl (List.take m ys) m) + (3 : Nat) ≤ (9223372036854775807 : Nat),
      avLen (Av.sl (List.take m ys) m) ≤
        List.length
          (List.take m ys ++
            [Value.int IntKind.u8
                (↑(((160 : Nat) + avLen (Av.sl (List.take m ys) m) % (90 : Nat)) % (256 : Nat)) : Int),
              Value.int IntKind.u8
                (↑(((160 : Nat) + (avLen (Av.sl (List.take m ys) m) + (1 : Nat)) % (90 : Nat)) % (256 : Nat)) : Int),
              Value.int IntKind.u8
                (↑(((160 : Nat) + (avLen (Av.sl (List.take m ys) m) + (1 : Nat) + (1 : Nat)) % (90 : Nat)) %
                      (256 : Nat)) :
                  Int)]),
      Fl
        (List.take (avLen (Av.sl (List.take m ys) m))
          (List.take m ys ++
            [Value.int IntKind.u8
                (↑(((160 : Nat) + avLen (Av.sl (List.take m ys) m) % (90 : Nat)) % (256 : Nat)) : Int),
              Value.int IntKind.u8
                (↑(((160 : Nat) + (avLen (Av.sl (List.take m ys) m) + (1 : Nat)) % (90 : Nat)) % (256 : Nat)) : Int),
              Value.int IntKind.u8
                (↑(((160 : Nat) + (avLen (Av.sl (List.take m ys) m) + (1 : Nat) + (1 : Nat)) % (90 : Nat)) %
                      (256 : Nat)) :
                  Int)])),
      Byts
        (List.take (avLen (Av.sl (List.take m ys) m))
          (List.take m ys ++
            [Value.int IntKind.u8
                (↑(((160 : Nat) + avLen (Av.sl (List.take m ys) m) % (90 : Nat)) % (256 : Nat)) : Int),
              Value.int IntKind.u8
                (↑(((160 : Nat) + (avLen (Av.sl (List.take m ys) m) + (1 : Nat)) % (90 : Nat)) % (256 : Nat)) : Int),
              Value.int IntKind.u8
                (↑(((160 : Nat) + (avLen (Av.sl (List.take m ys) m) + (1 : Nat) + (1 : Nat)) % (90 : Nat)) %
                      (256 : Nat)) :
                  Int)])),
      decide
          (avLen
                (Av.sl
                  (List.take (avLen (Av.sl (List.take m ys) m))
                    (List.take m ys ++
                      [Value.int IntKind.u8
                          (↑(((160 : Nat) + avLen (Av.sl (List.take m ys) m) % (90 : Nat)) % (256 : Nat)) : Int),
                        Value.int IntKind.u8
                          (↑(((160 : Nat) + (avLen (Av.sl (List.take m ys) m) + (1 : Nat)) % (90 : Nat)) %
                                (256 : Nat)) :
                            Int),
                        Value.int IntKind.u8
                          (↑(((160 : Nat) + (avLen (Av.sl (List.take m ys) m) + (1 : Nat) + (1 : Nat)) % (90 : Nat)) %
                                (256 : Nat)) :
                            Int)]))
                  (avLen (Av.sl (List.take m ys) m))) %
              (8 : Nat) =
            (0 : Nat)) =
        false,
      m ≤ d ∧ d ≤ (9223372036854775807 : Nat), m ≤ List.length ys, Fl (List.take m ys), Byts (List.take m ys),
      decide (avLen (Av.sl (List.take m ys) m) % (8 : Nat) = (0 : Nat)) = false, Byts [], Byts [], true = true,
      Ints IntKind.i64 [], ([] : List Value) = [], (0 : Nat) = (0 : Nat),
      avLen (Av.sl (List.take m ys) m) + (3 : Nat) ≤ (9223372036854775807 : Nat),
      avLen (Av.sl (List.take m ys) m) + (3 : Nat) ≤
        List.length
          (List.take m ys ++
            [Value.int IntKind.u8
                (↑(((160 : Nat) + avLen (Av.sl (List.take m ys) m) % (90 : Nat)) % (256 : Nat)) : Int),
              Value.int IntKind.u8
                (↑(((160 : Nat) + (avLen (Av.sl (List.take m ys) m) + (1 : Nat)) % (90 : Nat)) % (256 : Nat)) : Int),
              Value.int IntKind.u8
                (↑(((160 : Nat) + (avLen (Av.sl (List.take m ys) m) + (1 : Nat) + (1 : Nat)) % (90 : Nat)) %
                      (256 : Nat)) :
                  Int)]),
      Fl
        (List.take (avLen (Av.sl (List.take m ys) m) + (3 : Nat))
          (List.take m ys ++
            [Value.int IntKind.u8
                (↑(((160 : Nat) + avLen (Av.sl (List.take m ys) m) % (90 : Nat)) % (256 : Nat)) : Int),
              Value.int IntKind.u8
                (↑(((160 : Nat) + (avLen (Av.sl (List.take m ys) m) + (1 : Nat)) % (90 : Nat)) % (256 : Nat)) : Int),
              Value.int IntKind.u8
                (↑(((160 : Nat) + (avLen (Av.sl (List.take m ys) m) + (1 : Nat) + (1 : Nat)) % (90 : Nat)) %
                      (256 : Nat)) :
                  Int)])),
      m ≤ d ∧ d ≤ (9223372036854775807 : Nat), m ≤ List.length ys, Fl (List.take m ys),
      Byts
        (List.take (avLen (Av.sl (List.take m ys) m) + (3 : Nat))
          (List.take m ys ++
            [Value.int IntKind.u8
                (↑(((160 : Nat) + avLen (Av.sl (List.take m ys) m) % (90 : Nat)) % (256 : Nat)) : Int),
              Value.int IntKind.u8
                (↑(((160 : Nat) + (avLen (Av.sl (List.take m ys) m) + (1 : Nat)) % (90 : Nat)) % (256 : Nat)) : Int),
              Value.int IntKind.u8
                (↑(((160 : Nat) + (avLen (Av.sl (List.take m ys) m) + (1 : Nat) + (1 : Nat)) % (90 : Nat)) %
                      (256 : Nat)) :
                  Int)])),
      Byts (List.take m ys), avLen (Av.sl (List.take m ys) m) = avLen (Av.sl (List.take m ys) m),
      avLen (Av.sl (List.take m ys) m) + (3 : Nat) = avLen (Av.sl (List.take m ys) m) + (3 : Nat),
      avLen (Av.sl (List.take m ys) m) ≤ (1099511627776 : Nat),
      decide
          (intsOf
              (List.take (avLen (Av.sl (List.take m ys) m) + (3 : Nat))
                (List.take m ys ++
                  [Value.int IntKind.u8
                      (↑(((160 : Nat) + avLen (Av.sl (List.take m ys) m) % (90 : Nat)) % (256 : Nat)) : Int),
                    Value.int IntKind.u8
                      (↑(((160 : Nat) + (avLen (Av.sl (List.take m ys) m) + (1 : Nat)) % (90 : Nat)) % (256 : Nat)) :
                        Int),
                    Value.int IntKind.u8
                      (↑(((160 : Nat) + (avLen (Av.sl (List.take m ys) m) + (1 : Nat) + (1 : Nat)) % (90 : Nat)) %
                            (256 : Nat)) :
                        Int)])) =
            intsOf
              (List.take m ys ++
                [Value.int IntKind.u8
                    (↑(((160 : Nat) + avLen (Av.sl (List.take m ys) m) % (90 : Nat)) % (256 : Nat)) : Int),
                  Value.int IntKind.u8
                    (↑(((160 : Nat) + (avLen (Av.sl (List.take m ys) m) + (1 : Nat)) % (90 : Nat)) % (256 : Nat)) :
                      Int),
                  Value.int IntKind.u8
                    (↑(((160 : Nat) + (avLen (Av.sl (List.take m ys) m) + (1 : Nat) + (1 : Nat)) % (90 : Nat)) %
                          (256 : Nat)) :
                      Int)])) =
        true]) := by kernel_rfl
theorem cb_n_bad (ys : List Value) (m d : Nat) : runZ (cbV 4) Try.prog 5 7 [.slice none 0 0, cbB m d] [(1, ⟨.old, ys⟩)] 2 ([false, false] ++ [false, true] ++ [false, true] ++ [true] ++ [true] ++ [true, true]) =
Res.ok
  ((Value.bool true, [((1 : Nat), Rw.mk Kd.old ys)], (4 : Nat), []), [],
    [false = false, decide ((↑m : Int) > (2000 : Int)) = false, m ≤ d ∧ d ≤ (9223372036854775807 : Nat),
      m ≤ List.length ys, Fl (List.take m ys), Byts (List.take m ys),
      avLen (Av.sl (List.take m ys) m) ≤ (1099511627776 : Nat),
      (0 : Nat) ≤ (0 : Nat) ∧ (0 : Nat) ≤ (9223372036854775807 : Nat), (0 : Nat) ≤ (0 : Nat), Fl [],
      Ints IntKind.i64 [], (0 : Nat) = (0 : Nat), Ints IntKind.i64 [], (0 : Nat) = (0 : Nat),
      avLen (Av.sl (List.take m ys) m) ≤ avLen (Av.sl (List.take m ys) m) + (3 : Nat) ∧
        avLen (Av.sl (List.take m ys) m) + (3 : Nat) ≤ (9223372036854775807 : Nat),
      avLen (Av.sl (List.take m ys) m) ≤
        List.length
          (List.take m ys ++
            [Value.int IntKind.u8
                (↑(((160 : Nat) + avLen (Av.sl (List.take m ys) m) % (90 : Nat)) % (256 : Nat)) : Int),
              Value.int IntKind.u8
                (↑(((160 : Nat) + (avLen (Av.sl (List.take m ys) m) + (1 : Nat)) % (90 : Nat)) % (256 : Nat)) : Int),
              Value.int IntKind.u8
                (↑(((160 : Nat) + (avLen (Av.sl (List.take m ys) m) + (1 : Nat) + (1 : Nat)) % (90 : Nat)) %
                      (256 : Nat)) :
                  Int)]),
      Fl
        (List.take (avLen (Av.sl (List.take m ys) m))
          (List.take m ys ++
            [Value.int IntKind.u8
                (↑(((160 : Nat) + avLen (Av.sl (List.take m ys) m) % (90 : Nat)) % (256 : Nat)) : Int),
              Value.int IntKind.u8
                (↑(((160 : Nat) + (avLen (Av.sl (List.take m ys) m) + (1 : Nat)) % (90 : Nat)) % (256 : Nat)) : Int),
              Value.int IntKind.u8
                (↑(((160 : Nat) + (avLen (Av.sl (List.take m ys) m) + (1 : Nat) + (1 : Nat)) % (90 : Nat)) %
                      (256 : Nat)) :
                  Int)])),
      Byts
        (List.take (avLen (Av.sl (List.take m ys) m))
          (List.take m ys ++
            [Value.int IntKind.u8
                (↑(((160 : Nat) + avLen (Av.sl (List.take m ys) m) % (90 : Nat)) % (256 : Nat)) : Int),
              Value.int IntKind.u8
                (↑(((160 : Nat) + (avLen (Av.sl (List.take m ys) m) + (1 : Nat)) % (90 : Nat)) % (256 : Nat)) : Int),
              Value.int IntKind.u8
                (↑(((160 : Nat) + (avLen (Av.sl (List.take m ys) m) + (1 : Nat) + (1 : Nat)) % (90 : Nat)) %
                      (256 : Nat)) :
                  Int)])),
      decide
          (avLen
                (Av.sl
                  (List.take (avLen (Av.sl (List.take m ys) m))
                    (List.take m ys ++
                      [Value.int IntKind.u8
                          (↑(((160 : Nat) + avLen (Av.sl (List.take m ys) m) % (90 : Nat)) % (256 : Nat)) : Int),
                        Value.int IntKind.u8
                          (↑(((160 : Nat) + (avLen (Av.sl (List.take m ys) m) + (1 : Nat)) % (90 : Nat)) %
                                (256 : Nat)) :
                            Int),
                        Value.int IntKind.u8
                          (↑(((160 : Nat) + (avLen (Av.sl (List.take m ys) m) + (1 : Nat) + (1 : Nat)) % (90 : Nat)) %
                                (256 : Nat)) :
                            Int)]))
                  (avLen (Av.sl (List.take m ys) m))) %
              (8 : Nat) =
            (0 : Nat)) =
        false,
      m ≤ d ∧ d ≤ (9223372036854775807 : Nat), m ≤ List.length ys, Fl (List.take m ys), Byts (List.take m ys),
      decide (avLen (Av.sl (List.take m ys) m) % (8 : Nat) = (0 : Nat)) = false, Byts [], Byts [], true = true,
      Ints IntKind.i64 [], ([] : List Value) = [], (0 : Nat) = (0 : Nat),
      avLen (Av.sl (List.take m ys) m) + (3 : Nat) ≤ (9223372036854775807 : Nat),
      avLen (Av.sl (List.take m ys) m) + (3 : Nat) ≤
        List.length
          (List.take m ys ++
            [Value.int IntKind.u8
                (↑(((160 : Nat) + avLen (Av.sl (List.take m ys) m) % (90 : Nat)) % (256 : Nat)) : Int),
              Value.int IntKind.u8
                (↑(((160 : Nat) + (avLen (Av.sl (List.take m ys) m) + (1 : Nat)) % (90 : Nat)) % (256 : Nat)) : Int),
              Value.int IntKind.u8
                (↑(((160 : Nat) + (avLen (Av.sl (List.take m ys) m) + (1 : Nat) + (1 : Nat)) % (90 : Nat)) %
                      (256 : Nat)) :
                  Int)]),
      Fl
        (List.take (avLen (Av.sl (List.take m ys) m) + (3 : Nat))
          (List.take m ys ++
            [Value.int IntKind.u8
                (↑(((160 : Nat) + avLen (Av.sl (List.take m ys) m) % (90 : Nat)) % (256 : Nat)) : Int),
              Value.int IntKind.u8
                (↑(((160 : Nat) + (avLen (Av.sl (List.take m ys) m) + (1 : Nat)) % (90 : Nat)) % (256 : Nat)) : Int),
              Value.int IntKind.u8
                (↑(((160 : Nat) + (avLen (Av.sl (List.take m ys) m) + (1 : Nat) + (1 : Nat)) % (90 : Nat)) %
                      (256 : Nat)) :
                  Int)])),
      m ≤ d ∧ d ≤ (9223372036854775807 : Nat), m ≤ List.length ys, Fl (List.take m ys),
      Byts
        (List.take (avLen (Av.sl (List.take m ys) m) + (3 : Nat))
          (List.take m ys ++
            [Value.int IntKind.u8
                (↑(((160 : Nat) + avLen (Av.sl (List.take m ys) m) % (90 : Nat)) % (256 : Nat)) : Int),
              Value.int IntKind.u8
                (↑(((160 : Nat) + (avLen (Av.sl (List.take m ys) m) + (1 : Nat)) % (90 : Nat)) % (256 : Nat)) : Int),
              Value.int IntKind.u8
                (↑(((160 : Nat) + (avLen (Av.sl (List.take m ys) m) + (1 : Nat) + (1 : Nat)) % (90 : Nat)) %
                      (256 : Nat)) :
                  Int)])),
      Byts (List.take m ys), avLen (Av.sl (List.take m ys) m) = avLen (Av.sl (List.take m ys) m),
      avLen (Av.sl (List.take m ys) m) + (3 : Nat) = avLen (Av.sl (List.take m ys) m) + (3 : Nat),
      avLen (Av.sl (List.take m ys) m) ≤ (1099511627776 : Nat),
      decide
          (intsOf
              (List.take (avLen (Av.sl (List.take m ys) m) + (3 : Nat))
                (List.take m ys ++
                  [Value.int IntKind.u8
                      (↑(((160 : Nat) + avLen (Av.sl (List.take m ys) m) % (90 : Nat)) % (256 : Nat)) : Int),
                    Value.int IntKind.u8
                      (↑(((160 : Nat) + (avLen (Av.sl (List.take m ys) m) + (1 : Nat)) % (90 : Nat)) % (256 : Nat)) :
                        Int),
                    Value.int IntKind.u8
                      (↑(((160 : Nat) + (avLen (Av.sl (List.take m ys) m) + (1 : Nat) + (1 : Nat)) % (90 : Nat)) %
                            (256 : Nat)) :
                        Int)])) =
            intsOf
              (List.take m ys ++
                [Value.int IntKind.u8
                    (↑(((160 : Nat) + avLen (Av.sl (List.take m ys) m) % (90 : Nat)) % (256 : Nat)) : Int),
                  Value.int IntKind.u8
                    (↑(((160 : Nat) + (avLen (Av.sl (List.take m ys) m) + (1 : Nat)) % (90 : Nat)) % (256 : Nat)) :
                      Int),
                  Value.int IntKind.u8
                    (↑(((160 : Nat) + (avLen (Av.sl (List.take m ys) m) + (1 : Nat) + (1 : Nat)) % (90 : Nat)) %
                          (256 : Nat)) :
                      Int)])) =
        true]) := by kernel_rfl
theorem cb_e_nil (xs ys : List Value) (c m d : Nat) : runZ (cbV 4) Try.prog 5 7 [cbA 0 c, cbB m d] [(0, ⟨.old, xs⟩), (1, ⟨.old, ys⟩)] 2 ([false, false] ++ [false, true] ++ [false, true] ++ [false, true] ++ [false, true] ++ [true, true]) =
Res.ok
  ((Value.bool true, [((0 : Nat), Rw.mk Kd.old xs), ((1 : Nat), Rw.mk Kd.old ys)], (4 : Nat), []), [],
    [false = false, decide ((↑m : Int) > (2000 : Int)) = false, m ≤ d ∧ d ≤ (9223372036854775807 : Nat),
      m ≤ List.length ys, Fl (List.take m ys), Byts (List.take m ys),
      avLen (Av.sl (List.take m ys) m) ≤ (1099511627776 : Nat),
      (0 : Nat) ≤ (0 : Nat) ∧ (0 : Nat) ≤ (9223372036854775807 : Nat), (0 : Nat) ≤ (0 : Nat), Fl [],
      Ints IntKind.i64 [], (0 : Nat) = (0 : Nat), (0 : Nat) ≤ c ∧ c ≤ (9223372036854775807 : Nat),
      (0 : Nat) ≤ List.length xs, Fl [], Ints IntKind.i64 [], (0 : Nat) = (0 : Nat),
      avLen (Av.sl (List.take m ys) m) ≤ avLen (Av.sl (List.take m ys) m) + (3 : Nat) ∧
        avLen (Av.sl (List.take m ys) m) + (3 : Nat) ≤ (9223372036854775807 : Nat),
      avLen (Av.sl (List.take m ys) m) ≤
        List.length
          (List.take m ys ++
            [Value.int IntKind.u8
                (↑(((160 : Nat) + avLen (Av.sl (List.take m ys) m) % (90 : Nat)) % (256 : Nat)) : Int),
              Value.int IntKind.u8
                (↑(((160 : Nat) + (avLen (Av.sl (List.take m ys) m) + (1 : Nat)) % (90 : Nat)) % (256 : Nat)) : Int),
              Value.int IntKind.u8
                (↑(((160 : Nat) + (avLen (Av.sl (List.take m ys) m) + (1 : Nat) + (1 : Nat)) % (90 : Nat)) %
                      (256 : Nat)) :
                  Int)]),
      Fl
        (List.take (avLen (Av.sl (List.take m ys) m))
          (List.take m ys ++
            [Value.int IntKind.u8
                (↑(((160 : Nat) + avLen (Av.sl (List.take m ys) m) % (90 : Nat)) % (256 : Nat)) : Int),
              Value.int IntKind.u8
                (↑(((160 : Nat) + (avLen (Av.sl (List.take m ys) m) + (1 : Nat)) % (90 : Nat)) % (256 : Nat)) : Int),
              Value.int IntKind.u8
                (↑(((160 : Nat) + (avLen (Av.sl (List.take m ys) m) + (1 : Nat) + (1 : Nat)) % (90 : Nat)) %
                      (256 : Nat)) :
                  Int)])),
      Byts
        (List.take (avLen (Av.sl (List.take m ys) m))
          (List.take m ys ++
            [Value.int IntKind.u8
                (↑(((160 : Nat) + avLen (Av.sl (List.take m ys) m) % (90 : Nat)) % (256 : Nat)) : Int),
              Value.int IntKind.u8
                (↑(((160 : Nat) + (avLen (Av.sl (List.take m ys) m) + (1 : Nat)) % (90 : Nat)) % (256 : Nat)) : Int),
              Value.int IntKind.u8
                (↑(((160 : Nat) + (avLen (Av.sl (List.take m ys) m) + (1 : Nat) + (1 : Nat)) % (90 : Nat)) %
                      (256 : Nat)) :
                  Int)])),
      avLen
          (Av.sl
            (List.take (avLen (Av.sl (List.take m ys) m))
              (List.take m ys ++
                [Value.int IntKind.u8
                    (↑(((160 : Nat) + avLen (Av.sl (List.take m ys) m) % (90 : Nat)) % (256 : Nat)) : Int),
                  Value.int IntKind.u8
                    (↑(((160 : Nat) + (avLen (Av.sl (List.take m ys) m) + (1 : Nat)) % (90 : Nat)) % (256 : Nat)) :
                      Int),
                  Value.int IntKind.u8
                    (↑(((160 : Nat) + (avLen (Av.sl (List.take m ys) m) + (1 : Nat) + (1 : Nat)) % (90 : Nat)) %
                          (256 : Nat)) :
                      Int)]))
            (avLen (Av.sl (List.take m ys) m))) =
        (0 : Nat),
      m ≤ d ∧ d ≤ (9223372036854775807 : Nat), m ≤ List.length ys, Fl (List.take m ys), Byts (List.take m ys),
      avLen (Av.sl (List.take m ys) m) = (0 : Nat), Byts [], Byts [], true = true, Ints IntKind.i64 [], ([] : List Value) = [],
      (0 : Nat) = (0 : Nat), avLen (Av.sl (List.take m ys) m) + (3 : Nat) ≤ (9223372036854775807 : Nat),
      avLen (Av.sl (List.take m ys) m) + (3 : Nat) ≤
        List.length
          (List.take m ys ++
            [Value.int IntKind.u8
                (↑(((160 : Nat) + avLen (Av.sl (List.take m ys) m) % (90 : Nat)) % (256 : Nat)) : Int),
              Value.int IntKind.u8
                (↑(((160 : Nat) + (avLen (Av.sl (List.take m ys) m) + (1 : Nat)) % (90 : Nat)) % (256 : Nat)) : Int),
              Value.int IntKind.u8
                (↑(((160 : Nat) + (avLen (Av.sl (List.take m ys) m) + (1 : Nat) + (1 : Nat)) % (90 : Nat)) %
                      (256 : Nat)) :
                  Int)]),
      Fl
        (List.take (avLen (Av.sl (List.take m ys) m) + (3 : Nat))
          (List.take m ys ++
            [Value.int IntKind.u8
                (↑(((160 : Nat) + avLen (Av.sl (List.take m ys) m) % (90 : Nat)) % (256 : Nat)) : Int),
              Value.int IntKind.u8
                (↑(((160 : Nat) + (avLen (Av.sl (List.take m ys) m) + (1 : Nat)) % (90 : Nat)) % (256 : Nat)) : Int),
              Value.int IntKind.u8
                (↑(((160 : Nat) + (avLen (Av.sl (List.take m ys) m) + (1 : Nat) + (1 : Nat)) % (90 : Nat)) %
                      (256 : Nat)) :
                  Int)])),
      m ≤ d ∧ d ≤ (9223372036854775807 : Nat), m ≤ List.length ys, Fl (List.take m ys),
      Byts
        (List.take (avLen (Av.sl (List.take m ys) m) + (3 : Nat))
          (List.take m ys ++
            [Value.int IntKind.u8
                (↑(((160 : Nat) + avLen (Av.sl (List.take m ys) m) % (90 : Nat)) % (256 : Nat)) : Int),
              Value.int IntKind.u8
                (↑(((160 : Nat) + (avLen (Av.sl (List.take m ys) m) + (1 : Nat)) % (90 : Nat)) % (256 : Nat)) : Int),
              Value.int IntKind.u8
                (↑(((160 : Nat) + (avLen (Av.sl (List.take m ys) m) + (1 : Nat) + (1 : Nat)) % (90 : Nat)) %
                      (256 : Nat)) :
                  Int)])),
      Byts (List.take m ys), avLen (Av.sl (List.take m ys) m) = avLen (Av.sl (List.take m ys) m),
      avLen (Av.sl (List.take m ys) m) + (3 : Nat) = avLen (Av.sl (List.take m ys) m) + (3 : Nat),
      avLen (Av.sl (List.take m ys) m) ≤ (1099511627776 : Nat),
      decide
          (intsOf
              (List.take (avLen (Av.sl (List.take m ys) m) + (3 : Nat))
                (List.take m ys ++
                  [Value.int IntKind.u8
                      (↑(((160 : Nat) + avLen (Av.sl (List.take m ys) m) % (90 : Nat)) % (256 : Nat)) : Int),
                    Value.int IntKind.u8
                      (↑(((160 : Nat) + (avLen (Av.sl (List.take m ys) m) + (1 : Nat)) % (90 : Nat)) % (256 : Nat)) :
                        Int),
                    Value.int IntKind.u8
                      (↑(((160 : Nat) + (avLen (Av.sl (List.take m ys) m) + (1 : Nat) + (1 : Nat)) % (90 : Nat)) %
                            (256 : Nat)) :
                        Int)])) =
            intsOf
              (List.take m ys ++
                [Value.int IntKind.u8
                    (↑(((160 : Nat) + avLen (Av.sl (List.take m ys) m) % (90 : Nat)) % (256 : Nat)) : Int),
                  Value.int IntKind.u8
                    (↑(((160 : Nat) + (avLen (Av.sl (List.take m ys) m) + (1 : Nat)) % (90 : Nat)) % (256 : Nat)) :
                      Int),
                  Value.int IntKind.u8
                    (↑(((160 : Nat) + (avLen (Av.sl (List.take m ys) m) + (1 : Nat) + (1 : Nat)) % (90 : Nat)) %
                          (256 : Nat)) :
                      Int)])) =
        true]) := by kernel_rfl
theorem cb_n_nil (ys : List Value) (m d : Nat) : runZ (cbV 4) Try.prog 5 7 [.slice none 0 0, cbB m d] [(1, ⟨.old, ys⟩)] 2 ([false, false] ++ [false, true] ++ [false, true] ++ [false, true] ++ [false, true] ++ [true, true]) =
Res.ok
  ((Value.bool true, [((1 : Nat), Rw.mk Kd.old ys)], (4 : Nat), []), [],
    [false = false, decide ((↑m : Int) > (2000 : Int)) = false, m ≤ d ∧ d ≤ (9223372036854775807 : Nat),
      m ≤ List.length ys, Fl (List.take m ys), Byts (List.take m ys),
      avLen (Av.sl (List.take m ys) m) ≤ (1099511627776 : Nat),
      (0 : Nat) ≤ (0 : Nat) ∧ (0 : Nat) ≤ (9223372036854775807 : Nat), (0 : Nat) ≤ (0 : Nat), Fl [],
      Ints IntKind.i64 [], (0 : Nat) = (0 : Nat), Ints IntKind.i64 [], (0 : Nat) = (0 : Nat),
      avLen (Av.sl (List.take m ys) m) ≤ avLen (Av.sl (List.take m ys) m) + (3 : Nat) ∧
        avLen (Av.sl (List.take m ys) m) + (3 : Nat) ≤ (9223372036854775807 : Nat),
      avLen (Av.sl (List.take m ys) m) ≤
        List.length
          (List.take m ys ++
            [Value.int IntKind.u8
                (↑(((160 : Nat) + avLen (Av.sl (List.take m ys) m) % (90 : Nat)) % (256 : Nat)) : Int),
              Value.int IntKind.u8
                (↑(((160 : Nat) + (avLen (Av.sl (List.take m ys) m) + (1 : Nat)) % (90 : Nat)) % (256 : Nat)) : Int),
              Value.int IntKind.u8
                (↑(((160 : Nat) + (avLen (Av.sl (List.take m ys) m) + (1 : Nat) + (1 : Nat)) % (90 : Nat)) %
                      (256 : Nat)) :
                  Int)]),
      Fl
        (List.take (avLen (Av.sl (List.take m ys) m))
          (List.take m ys ++
            [Value.int IntKind.u8
                (↑(((160 : Nat) + avLen (Av.sl (List.take m ys) m) % (90 : Nat)) % (256 : Nat)) : Int),
              Value.int IntKind.u8
                (↑(((160 : Nat) + (avLen (Av.sl (List.take m ys) m) + (1 : Nat)) % (90 : Nat)) % (256 : Nat)) : Int),
              Value.int IntKind.u8
                (↑(((160 : Nat) + (avLen (Av.sl (List.take m ys) m) + (1 : Nat) + (1 : Nat)) % (90 : Nat)) %
                      (256 : Nat)) :
                  Int)])),
      Byts
        (List.take (avLen (Av.sl (List.take m ys) m))
          (List.take m ys ++
            [Value.int IntKind.u8
                (↑(((160 : Nat) + avLen (Av.sl (List.take m ys) m) % (90 : Nat)) % (256 : Nat)) : Int),
              Value.int IntKind.u8
                (↑(((160 : Nat) + (avLen (Av.sl (List.take m ys) m) + (1 : Nat)) % (90 : Nat)) % (256 : Nat)) : Int),
              Value.int IntKind.u8
                (↑(((160 : Nat) + (avLen (Av.sl (List.take m ys) m) + (1 : Nat) + (1 : Nat)) % (90 : Nat)) %
                      (256 : Nat)) :
                  Int)])),
      avLen
          (Av.sl
            (List.take (avLen (Av.sl (List.take m ys) m))
              (List.take m ys ++
                [Value.int IntKind.u8
                    (↑(((160 : Nat) + avLen (Av.sl (List.take m ys) m) % (90 : Nat)) % (256 : Nat)) : Int),
                  Value.int IntKind.u8
                    (↑(((160 : Nat) + (avLen (Av.sl (List.take m ys) m) + (1 : Nat)) % (90 : Nat)) % (256 : Nat)) :
                      Int),
                  Value.int IntKind.u8
                    (↑(((160 : Nat) + (avLen (Av.sl (List.take m ys) m) + (1 : Nat) + (1 : Nat)) % (90 : Nat)) %
                          (256 : Nat)) :
                      Int)]))
            (avLen (Av.sl (List.take m ys) m))) =
        (0 : Nat),
      m ≤ d ∧ d ≤ (9223372036854775807 : Nat), m ≤ List.length ys, Fl (List.take m ys), Byts (List.take m ys),
      avLen (Av.sl (List.take m ys) m) = (0 : Nat), Byts [], Byts [], true = true, Ints IntKind.i64 [], ([] : List Value) = [],
      (0 : Nat) = (0 : Nat), avLen (Av.sl (List.take m ys) m) + (3 : Nat) ≤ (9223372036854775807 : Nat),
      avLen (Av.sl (List.take m ys) m) + (3 : Nat) ≤
        List.length
          (List.take m ys ++
            [Value.int IntKind.u8
                (↑(((160 : Nat) + avLen (Av.sl (List.take m ys) m) % (90 : Nat)) % (256 : Nat)) : Int),
              Value.int IntKind.u8
                (↑(((160 : Nat) + (avLen (Av.sl (List.take m ys) m) + (1 : Nat)) % (90 : Nat)) % (256 : Nat)) : Int),
              Value.int IntKind.u8
                (↑(((160 : Nat) + (avLen (Av.sl (List.take m ys) m) + (1 : Nat) + (1 : Nat)) % (90 : Nat)) %
                      (256 : Nat)) :
                  Int)]),
      Fl
        (List.take (avLen (Av.sl (List.take m ys) m) + (3 : Nat))
          (List.take m ys ++
            [Value.int IntKind.u8
                (↑(((160 : Nat) + avLen (Av.sl (List.take m ys) m) % (90 : Nat)) % (256 : Nat)) : Int),
              Value.int IntKind.u8
                (↑(((160 : Nat) + (avLen (Av.sl (List.take m ys) m) + (1 : Nat)) % (90 : Nat)) % (256 : Nat)) : Int),
              Value.int IntKind.u8
                (↑(((160 : Nat) + (avLen (Av.sl (List.take m ys) m) + (1 : Nat) + (1 : Nat)) % (90 : Nat)) %
                      (256 : Nat)) :
                  Int)])),
      m ≤ d ∧ d ≤ (9223372036854775807 : Nat), m ≤ List.length ys, Fl (List.take m ys),
      Byts
        (List.take (avLen (Av.sl (List.take m ys) m) + (3 : Nat))
          (List.take m ys ++
            [Value.int IntKind.u8
                (↑(((160 : Nat) + avLen (Av.sl (List.take m ys) m) % (90 : Nat)) % (256 : Nat)) : Int),
              Value.int IntKind.u8
                (↑(((160 : Nat) + (avLen (Av.sl (List.take m ys) m) + (1 : Nat)) % (90 : Nat)) % (256 : Nat)) : Int),
              Value.int IntKind.u8
                (↑(((160 : Nat) + (avLen (Av.sl (List.take m ys) m) + (1 : Nat) + (1 : Nat)) % (90 : Nat)) %
                      (256 : Nat)) :
                  Int)])),
      Byts (List.take m ys), avLen (Av.sl (List.take m ys) m) = avLen (Av.sl (List.take m ys) m),
      avLen (Av.sl (List.take m ys) m) + (3 : Nat) = avLen (Av.sl (List.take m ys) m) + (3 : Nat),
      avLen (Av.sl (List.take m ys) m) ≤ (1099511627776 : Nat),
      decide
          (intsOf
              (List.take (avLen (Av.sl (List.take m ys) m) + (3 : Nat))
                (List.take m ys ++
                  [Value.int IntKind.u8
                      (↑(((160 : Nat) + avLen (Av.sl (List.take m ys) m) % (90 : Nat)) % (256 : Nat)) : Int),
                    Value.int IntKind.u8
                      (↑(((160 : Nat) + (avLen (Av.sl (List.take m ys) m) + (1 : Nat)) % (90 : Nat)) % (256 : Nat)) :
                        Int),
                    Value.int IntKind.u8
                      (↑(((160 : Nat) + (avLen (Av.sl (List.take m ys) m) + (1 : Nat) + (1 : Nat)) % (90 : Nat)) %
                            (256 : Nat)) :
                        Int)])) =
            intsOf
              (List.take m ys ++
                [Value.int IntKind.u8
                    (↑(((160 : Nat) + avLen (Av.sl (List.take m ys) m) % (90 : Nat)) % (256 : Nat)) : Int),
                  Value.int IntKind.u8
                    (↑(((160 : Nat) + (avLen (Av.sl (List.take m ys) m) + (1 : Nat)) % (90 : Nat)) % (256 : Nat)) :
                      Int),
                  Value.int IntKind.u8
                    (↑(((160 : Nat) + (avLen (Av.sl (List.take m ys) m) + (1 : Nat) + (1 : Nat)) % (90 : Nat)) %
                          (256 : Nat)) :
                      Int)])) =
        true]) := by kernel_rfl
theorem cb_e_not (xs ys : List Value) (c m d : Nat) : runZ (cbV 4) Try.prog 5 7 [cbA 0 c, cbB m d] [(0, ⟨.old, xs⟩), (1, ⟨.old, ys⟩)] 2 ([false, false] ++ [false, true] ++ [false, true] ++ [false, false, false] ++ [false, false, false] ++ [true, true]) =
Res.ok
  ((Value.bool true, [((0 : Nat), Rw.mk Kd.old xs), ((1 : Nat), Rw.mk Kd.old ys)], (4 : Nat), []), [],
    [false = false, decide ((↑m : Int) > (2000 : Int)) = false, m ≤ d ∧ d ≤ (9223372036854775807 : Nat),
      m ≤ List.length ys, Fl (List.take m ys), Byts (List.take m ys),
      avLen (Av.sl (List.take m ys) m) ≤ (1099511627776 : Nat),
      (0 : Nat) ≤ (0 : Nat) ∧ (0 : Nat) ≤ (9223372036854775807 : Nat), (0 : Nat) ≤ (0 : Nat), Fl [],
      Ints IntKind.i64 [], (0 : Nat) = (0 : Nat), (0 : Nat) ≤ c ∧ c ≤ (9223372036854775807 : Nat),
      (0 : Nat) ≤ List.length xs, Fl [], Ints IntKind.i64 [], (0 : Nat) = (0 : Nat),
      avLen (Av.sl (List.take m ys) m) ≤ avLen (Av.sl (List.take m ys) m) + (3 : Nat) ∧
        avLen (Av.sl (List.take m ys) m) + (3 : Nat) ≤ (9223372036854775807 : Nat),
      avLen (Av.sl (List.take m ys) m) ≤
        List.length
          (List.take m ys ++
            [Value.int IntKind.u8
                (↑(((160 : Nat) + avLen (Av.sl (List.take m ys) m) % (90 : Nat)) % (256 : Nat)) : Int),
              Value.int IntKind.u8
                (↑(((160 : Nat) + (avLen (Av.sl (List.take m ys) m) + (1 : Nat)) % (90 : Nat)) % (256 : Nat)) : Int),
              Value.int IntKind.u8
                (↑(((160 : Nat) + (avLen (Av.sl (List.take m ys) m) + (1 : Nat) + (1 : Nat)) % (90 : Nat)) %
                      (256 : Nat)) :
                  Int)]),
      Fl
        (List.take (avLen (Av.sl (List.take m ys) m))
          (List.take m ys ++
            [Value.int IntKind.u8
                (↑(((160 : Nat) + avLen (Av.sl (List.take m ys) m) % (90 : Nat)) % (256 : Nat)) : Int),
              Value.int IntKind.u8
                (↑(((160 : Nat) + (avLen (Av.sl (List.take m ys) m) + (1 : Nat)) % (90 : Nat)) % (256 : Nat)) : Int),
              Value.int IntKind.u8
                (↑(((160 : Nat) + (avLen (Av.sl (List.take m ys) m) + (1 : Nat) + (1 : Nat)) % (90 : Nat)) %
                      (256 : Nat)) :
                  Int)])),
      Byts
        (List.take (avLen (Av.sl (List.take m ys) m))
          (List.take m ys ++
            [Value.int IntKind.u8
                (↑(((160 : Nat) + avLen (Av.sl (List.take m ys) m) % (90 : Nat)) % (256 : Nat)) : Int),
              Value.int IntKind.u8
                (↑(((160 : Nat) + (avLen (Av.sl (List.take m ys) m) + (1 : Nat)) % (90 : Nat)) % (256 : Nat)) : Int),
              Value.int IntKind.u8
                (↑(((160 : Nat) + (avLen (Av.sl (List.take m ys) m) + (1 : Nat) + (1 : Nat)) % (90 : Nat)) %
                      (256 : Nat)) :
                  Int)])),
      avLen
            (Av.sl
              (List.take (avLen (Av.sl (List.take m ys) m))
                (List.take m ys ++
                  [Value.int IntKind.u8
                      (↑(((160 : Nat) + avLen (Av.sl (List.take m ys) m) % (90 : Nat)) % (256 : Nat)) : Int),
                    Value.int IntKind.u8
                      (↑(((160 : Nat) + (avLen (Av.sl (List.take m ys) m) + (1 : Nat)) % (90 : Nat)) % (256 : Nat)) :
                        Int),
                    Value.int IntKind.u8
                      (↑(((160 : Nat) + (avLen (Av.sl (List.take m ys) m) + (1 : Nat) + (1 : Nat)) % (90 : Nat)) %
                            (256 : Nat)) :
                        Int)]))
              (avLen (Av.sl (List.take m ys) m))) %
          (8 : Nat) =
        (0 : Nat),
      decide
          (avLen
              (Av.sl
                (List.take (avLen (Av.sl (List.take m ys) m))
                  (List.take m ys ++
                    [Value.int IntKind.u8
                        (↑(((160 : Nat) + avLen (Av.sl (List.take m ys) m) % (90 : Nat)) % (256 : Nat)) : Int),
                      Value.int IntKind.u8
                        (↑(((160 : Nat) + (avLen (Av.sl (List.take m ys) m) + (1 : Nat)) % (90 : Nat)) % (256 : Nat)) :
                          Int),
                      Value.int IntKind.u8
                        (↑(((160 : Nat) + (avLen (Av.sl (List.take m ys) m) + (1 : Nat) + (1 : Nat)) % (90 : Nat)) %
                              (256 : Nat)) :
                          Int)]))
                (avLen (Av.sl (List.take m ys) m))) =
            (0 : Nat)) =
        false,
      avLen
          (Av.sl
            (List.take (avLen (Av.sl (List.take m ys) m))
              (List.take m ys ++
                [Value.int IntKind.u8
                    (↑(((160 : Nat) + avLen (Av.sl (List.take m ys) m) % (90 : Nat)) % (256 : Nat)) : Int),
                  Value.int IntKind.u8
                    (↑(((160 : Nat) + (avLen (Av.sl (List.take m ys) m) + (1 : Nat)) % (90 : Nat)) % (256 : Nat)) :
                      Int),
                  Value.int IntKind.u8
                    (↑(((160 : Nat) + (avLen (Av.sl (List.take m ys) m) + (1 : Nat) + (1 : Nat)) % (90 : Nat)) %
                          (256 : Nat)) :
                      Int)]))
            (avLen (Av.sl (List.take m ys) m))) ≤
        (4096 : Nat),
      rdOk
          (List.take (avLen (Av.sl (List.take m ys) m))
            (List.take m ys ++
              [Value.int IntKind.u8
                  (↑(((160 : Nat) + avLen (Av.sl (List.take m ys) m) % (90 : Nat)) % (256 : Nat)) : Int),
                Value.int IntKind.u8
                  (↑(((160 : Nat) + (avLen (Av.sl (List.take m ys) m) + (1 : Nat)) % (90 : Nat)) % (256 : Nat)) : Int),
                Value.int IntKind.u8
                  (↑(((160 : Nat) + (avLen (Av.sl (List.take m ys) m) + (1 : Nat) + (1 : Nat)) % (90 : Nat)) %
                        (256 : Nat)) :
                    Int)]))
          (0 : Nat)
          (avLen
              (Av.sl
                (List.take (avLen (Av.sl (List.take m ys) m))
                  (List.take m ys ++
                    [Value.int IntKind.u8
                        (↑(((160 : Nat) + avLen (Av.sl (List.take m ys) m) % (90 : Nat)) % (256 : Nat)) : Int),
                      Value.int IntKind.u8
                        (↑(((160 : Nat) + (avLen (Av.sl (List.take m ys) m) + (1 : Nat)) % (90 : Nat)) % (256 : Nat)) :
                          Int),
                      Value.int IntKind.u8
                        (↑(((160 : Nat) + (avLen (Av.sl (List.take m ys) m) + (1 : Nat) + (1 : Nat)) % (90 : Nat)) %
                              (256 : Nat)) :
                          Int)]))
                (avLen (Av.sl (List.take m ys) m))) /
            (8 : Nat)) =
        false,
      m ≤ d ∧ d ≤ (9223372036854775807 : Nat), m ≤ List.length ys, Fl (List.take m ys), Byts (List.take m ys),
      avLen (Av.sl (List.take m ys) m) % (8 : Nat) = (0 : Nat),
      decide (avLen (Av.sl (List.take m ys) m) = (0 : Nat)) = false, avLen (Av.sl (List.take m ys) m) ≤ (4096 : Nat),
      rdOk (List.take m ys) (0 : Nat) (avLen (Av.sl (List.take m ys) m) / (8 : Nat)) = false, Byts [], Byts [],
      true = true, Ints IntKind.i64 [], ([] : List Value) = [], (0 : Nat) = (0 : Nat),
      avLen (Av.sl (List.take m ys) m) + (3 : Nat) ≤ (9223372036854775807 : Nat),
      avLen (Av.sl (List.take m ys) m) + (3 : Nat) ≤
        List.length
          (List.take m ys ++
            [Value.int IntKind.u8
                (↑(((160 : Nat) + avLen (Av.sl (List.take m ys) m) % (90 : Nat)) % (256 : Nat)) : Int),
              Value.int IntKind.u8
                (↑(((160 : Nat) + (avLen (Av.sl (List.take m ys) m) + (1 : Nat)) % (90 : Nat)) % (256 : Nat)) : Int),
              Value.int IntKind.u8
                (↑(((160 : Nat) + (avLen (Av.sl (List.take m ys) m) + (1 : Nat) + (1 : Nat)) % (90 : Nat)) %
                      (256 : Nat)) :
                  Int)]),
      Fl
        (List.take (avLen (Av.sl (List.take m ys) m) + (3 : Nat))
          (List.take m ys ++
            [Value.int IntKind.u8
                (↑(((160 : Nat) + avLen (Av.sl (List.take m ys) m) % (90 : Nat)) % (256 : Nat)) : Int),
              Value.int IntKind.u8
                (↑(((160 : Nat) + (avLen (Av.sl (List.take m ys) m) + (1 : Nat)) % (90 : Nat)) % (256 : Nat)) : Int),
              Value.int IntKind.u8
                (↑(((160 : Nat) + (avLen (Av.sl (List.take m ys) m) + (1 : Nat) + (1 : Nat)) % (90 : Nat)) %
                      (256 : Nat)) :
                  Int)])),
      m ≤ d ∧ d ≤ (9223372036854775807 : Nat), m ≤ List.length ys, Fl (List.take m ys),
      Byts
        (List.take (avLen (Av.sl (List.take m ys) m) + (3 : Nat))
          (List.take m ys ++
            [Value.int IntKind.u8
                (↑(((160 : Nat) + avLen (Av.sl (List.take m ys) m) % (90 : Nat)) % (256 : Nat)) : Int),
              Value.int IntKind.u8
                (↑(((160 : Nat) + (avLen (Av.sl (List.take m ys) m) + (1 : Nat)) % (90 : Nat)) % (256 : Nat)) : Int),
              Value.int IntKind.u8
                (↑(((160 : Nat) + (avLen (Av.sl (List.take m ys) m) + (1 : Nat) + (1 : Nat)) % (90 : Nat)) %
                      (256 : Nat)) :
                  Int)])),
      Byts (List.take m ys), avLen (Av.sl (List.take m ys) m) = avLen (Av.sl (List.take m ys) m),
      avLen (Av.sl (List.take m ys) m) + (3 : Nat) = avLen (Av.sl (List.take m ys) m) + (3 : Nat),
      avLen (Av.sl (List.take m ys) m) ≤ (1099511627776 : Nat),
      decide
          (intsOf
              (List.take (avLen (Av.sl (List.take m ys) m) + (3 : Nat))
                (List.take m ys ++
                  [Value.int IntKind.u8
                      (↑(((160 : Nat) + avLen (Av.sl (List.take m ys) m) % (90 : Nat)) % (256 : Nat)) : Int),
                    Value.int IntKind.u8
                      (↑(((160 : Nat) + (avLen (Av.sl (List.take m ys) m) + (1 : Nat)) % (90 : Nat)) % (256 : Nat)) :
                        Int),
                    Value.int IntKind.u8
                      (↑(((160 : Nat) + (avLen (Av.sl (List.take m ys) m) + (1 : Nat) + (1 : Nat)) % (90 : Nat)) %
                            (256 : Nat)) :
                        Int)])) =
            intsOf
              (List.take m ys ++
                [Value.int IntKind.u8
                    (↑(((160 : Nat) + avLen (Av.sl (List.take m ys) m) % (90 : Nat)) % (256 : Nat)) : Int),
                  Value.int IntKind.u8
                    (↑(((160 : Nat) + (avLen (Av.sl (List.take m ys) m) + (1 : Nat)) % (90 : Nat)) % (256 : Nat)) :
                      Int),
                  Value.int IntKind.u8
                    (↑(((160 : Nat) + (avLen (Av.sl (List.take m ys) m) + (1 : Nat) + (1 : Nat)) % (90 : Nat)) %
                          (256 : Nat)) :
                      Int)])) =
        true]) := by kernel_rfl
theorem cb_n_not (ys : List Value) (m d : Nat) : runZ (cbV 4) Try.prog 5 7 [.slice none 0 0, cbB m d] [(1, ⟨.old, ys⟩)] 2 ([false, false] ++ [false, true] ++ [false, true] ++ [false, false, false] ++ [false, false, false] ++ [true, true]) =
Res.ok
  ((Value.bool true, [((1 : Nat), Rw.mk Kd.old ys)], (4 : Nat), []), [],
    [false = false, decide ((↑m : Int) > (2000 : Int)) = false, m ≤ d ∧ d ≤ (9223372036854775807 : Nat),
      m ≤ List.length ys, Fl (List.take m ys), Byts (List.take m ys),
      avLen (Av.sl (List.take m ys) m) ≤ (1099511627776 : Nat),
      (0 : Nat) ≤ (0 : Nat) ∧ (0 : Nat) ≤ (9223372036854775807 : Nat), (0 : Nat) ≤ (0 : Nat), Fl [],
      Ints IntKind.i64 [], (0 : Nat) = (0 : Nat), Ints IntKind.i64 [], (0 : Nat) = (0 : Nat),
      avLen (Av.sl (List.take m ys) m) ≤ avLen (Av.sl (List.take m ys) m) + (3 : Nat) ∧
        avLen (Av.sl (List.take m ys) m) + (3 : Nat) ≤ (9223372036854775807 : Nat),
      avLen (Av.sl (List.take m ys) m) ≤
        List.length
          (List.take m ys ++
            [Value.int IntKind.u8
                (↑(((160 : Nat) + avLen (Av.sl (List.take m ys) m) % (90 : Nat)) % (256 : Nat)) : Int),
              Value.int IntKind.u8
                (↑(((160 : Nat) + (avLen (Av.sl (List.take m ys) m) + (1 : Nat)) % (90 : Nat)) % (256 : Nat)) : Int),
              Value.int IntKind.u8
                (↑(((160 : Nat) + (avLen (Av.sl (List.take m ys) m) + (1 : Nat) + (1 : Nat)) % (90 : Nat)) %
                      (256 : Nat)) :
                  Int)]),
      Fl
        (List.take (avLen (Av.sl (List.take m ys) m))
          (List.take m ys ++
            [Value.int IntKind.u8
                (↑(((160 : Nat) + avLen (Av.sl (List.take m ys) m) % (90 : Nat)) % (256 : Nat)) : Int),
              Value.int IntKind.u8
                (↑(((160 : Nat) + (avLen (Av.sl (List.take m ys) m) + (1 : Nat)) % (90 : Nat)) % (256 : Nat)) : Int),
              Value.int IntKind.u8
                (↑(((160 : Nat) + (avLen (Av.sl (List.take m ys) m) + (1 : Nat) + (1 : Nat)) % (90 : Nat)) %
                      (256 : Nat)) :
                  Int)])),
      Byts
        (List.take (avLen (Av.sl (List.take m ys) m))
          (List.take m ys ++
            [Value.int IntKind.u8
                (↑(((160 : Nat) + avLen (Av.sl (List.take m ys) m) % (90 : Nat)) % (256 : Nat)) : Int),
              Value.int IntKind.u8
                (↑(((160 : Nat) + (avLen (Av.sl (List.take m ys) m) + (1 : Nat)) % (90 : Nat)) % (256 : Nat)) : Int),
              Value.int IntKind.u8
                (↑(((160 : Nat) + (avLen (Av.sl (List.take m ys) m) + (1 : Nat) + (1 : Nat)) % (90 : Nat)) %
                      (256 : Nat)) :
                  Int)])),
      avLen
            (Av.sl
              (List.take (avLen (Av.sl (List.take m ys) m))
                (List.take m ys ++
                  [Value.int IntKind.u8
                      (↑(((160 : Nat) + avLen (Av.sl (List.take m ys) m) % (90 : Nat)) % (256 : Nat)) : Int),
                    Value.int IntKind.u8
                      (↑(((160 : Nat) + (avLen (Av.sl (List.take m ys) m) + (1 : Nat)) % (90 : Nat)) % (256 : Nat)) :
                        Int),
                    Value.int IntKind.u8
                      (↑(((160 : Nat) + (avLen (Av.sl (List.take m ys) m) + (1 : Nat) + (1 : Nat)) % (90 : Nat)) %
                            (256 : Nat)) :
                        Int)]))
              (avLen (Av.sl (List.take m ys) m))) %
          (8 : Nat) =
        (0 : Nat),
      decide
          (avLen
              (Av.sl
                (List.take (avLen (Av.sl (List.take m ys) m))
                  (List.take m ys ++
                    [Value.int IntKind.u8
                        (↑(((160 : Nat) + avLen (Av.sl (List.take m ys) m) % (90 : Nat)) % (256 : Nat)) : Int),
                      Value.int IntKind.u8
                        (↑(((160 : Nat) + (avLen (Av.sl (List.take m ys) m) + (1 : Nat)) % (90 : Nat)) % (256 : Nat)) :
                          Int),
                      Value.int IntKind.u8
                        (↑(((160 : Nat) + (avLen (Av.sl (List.take m ys) m) + (1 : Nat) + (1 : Nat)) % (90 : Nat)) %
                              (256 : Nat)) :
                          Int)]))
                (avLen (Av.sl (List.take m ys) m))) =
            (0 : Nat)) =
        false,
      avLen
          (Av.sl
            (List.take (avLen (Av.sl (List.take m ys) m))
              (List.take m ys ++
                [Value.int IntKind.u8
                    (↑(((160 : Nat) + avLen (Av.sl (List.take m ys) m) % (90 : Nat)) % (256 : Nat)) : Int),
                  Value.int IntKind.u8
                    (↑(((160 : Nat) + (avLen (Av.sl (List.take m ys) m) + (1 : Nat)) % (90 : Nat)) % (256 : Nat)) :
                      Int),
                  Value.int IntKind.u8
                    (↑(((160 : Nat) + (avLen (Av.sl (List.take m ys) m) + (1 : Nat) + (1 : Nat)) % (90 : Nat)) %
                          (256 : Nat)) :
                      Int)]))
            (avLen (Av.sl (List.take m ys) m))) ≤
        (4096 : Nat),
      rdOk
          (List.take (avLen (Av.sl (List.take m ys) m))
            (List.take m ys ++
              [Value.int IntKind.u8
                  (↑(((160 : Nat) + avLen (Av.sl (List.take m ys) m) % (90 : Nat)) % (256 : Nat)) : Int),
                Value.int IntKind.u8
                  (↑(((160 : Nat) + (avLen (Av.sl (List.take m ys) m) + (1 : Nat)) % (90 : Nat)) % (256 : Nat)) : Int),
                Value.int IntKind.u8
                  (↑(((160 : Nat) + (avLen (Av.sl (List.take m ys) m) + (1 : Nat) + (1 : Nat)) % (90 : Nat)) %
                        (256 : Nat)) :
                    Int)]))
          (0 : Nat)
          (avLen
              (Av.sl
                (List.take (avLen (Av.sl (List.take m ys) m))
                  (List.take m ys ++
                    [Value.int IntKind.u8
                        (↑(((160 : Nat) + avLen (Av.sl (List.take m ys) m) % (90 : Nat)) % (256 : Nat)) : Int),
                      Value.int IntKind.u8
                        (↑(((160 : Nat) + (avLen (Av.sl (List.take m ys) m) + (1 : Nat)) % (90 : Nat)) % (256 : Nat)) :
                          Int),
                      Value.int IntKind.u8
                        (↑(((160 : Nat) + (avLen (Av.sl (List.take m ys) m) + (1 : Nat) + (1 : Nat)) % (90 : Nat)) %
                              (256 : Nat)) :
                          Int)]))
                (avLen (Av.sl (List.take m ys) m))) /
            (8 : Nat)) =
        false,
      m ≤ d ∧ d ≤ (9223372036854775807 : Nat), m ≤ List.length ys, Fl (List.take m ys), Byts (List.take m ys),
      avLen (Av.sl (List.take m ys) m) % (8 : Nat) = (0 : Nat),
      decide (avLen (Av.sl (List.take m ys) m) = (0 : Nat)) = false, avLen (Av.sl (List.take m ys) m) ≤ (4096 : Nat),
      rdOk (List.take m ys) (0 : Nat) (avLen (Av.sl (List.take m ys) m) / (8 : Nat)) = false, Byts [], Byts [],
      true = true, Ints IntKind.i64 [], ([] : List Value) = [], (0 : Nat) = (0 : Nat),
      avLen (Av.sl (List.take m ys) m) + (3 : Nat) ≤ (9223372036854775807 : Nat),
      avLen (Av.sl (List.take m ys) m) + (3 : Nat) ≤
        List.length
          (List.take m ys ++
            [Value.int IntKind.u8
                (↑(((160 : Nat) + avLen (Av.sl (List.take m ys) m) % (90 : Nat)) % (256 : Nat)) : Int),
              Value.int IntKind.u8
                (↑(((160 : Nat) + (avLen (Av.sl (List.take m ys) m) + (1 : Nat)) % (90 : Nat)) % (256 : Nat)) : Int),
              Value.int IntKind.u8
                (↑(((160 : Nat) + (avLen (Av.sl (List.take m ys) m) + (1 : Nat) + (1 : Nat)) % (90 : Nat)) %
                      (256 : Nat)) :
                  Int)]),
      Fl
        (List.take (avLen (Av.sl (List.take m ys) m) + (3 : Nat))
          (List.take m ys ++
            [Value.int IntKind.u8
                (↑(((160 : Nat) + avLen (Av.sl (List.take m ys) m) % (90 : Nat)) % (256 : Nat)) : Int),
              Value.int IntKind.u8
                (↑(((160 : Nat) + (avLen (Av.sl (List.take m ys) m) + (1 : Nat)) % (90 : Nat)) % (256 : Nat)) : Int),
              Value.int IntKind.u8
                (↑(((160 : Nat) + (avLen (Av.sl (List.take m ys) m) + (1 : Nat) + (1 : Nat)) % (90 : Nat)) %
                      (256 : Nat)) :
                  Int)])),
      m ≤ d ∧ d ≤ (9223372036854775807 : Nat), m ≤ List.length ys, Fl (List.take m ys),
      Byts
        (List.take (avLen (Av.sl (List.take m ys) m) + (3 : Nat))
          (List.take m ys ++
            [Value.int IntKind.u8
                (↑(((160 : Nat) + avLen (Av.sl (List.take m ys) m) % (90 : Nat)) % (256 : Nat)) : Int),
              Value.int IntKind.u8
                (↑(((160 : Nat) + (avLen (Av.sl (List.take m ys) m) + (1 : Nat)) % (90 : Nat)) % (256 : Nat)) : Int),
              Value.int IntKind.u8
                (↑(((160 : Nat) + (avLen (Av.sl (List.take m ys) m) + (1 : Nat) + (1 : Nat)) % (90 : Nat)) %
                      (256 : Nat)) :
                  Int)])),
      Byts (List.take m ys), avLen (Av.sl (List.take m ys) m) = avLen (Av.sl (List.take m ys) m),
      avLen (Av.sl (List.take m ys) m) + (3 : Nat) = avLen (Av.sl (List.take m ys) m) + (3 : Nat),
      avLen (Av.sl (List.take m ys) m) ≤ (1099511627776 : Nat),
      decide
          (intsOf
              (List.take (avLen (Av.sl (List.take m ys) m) + (3 : Nat))
                (List.take m ys ++
                  [Value.int IntKind.u8
                      (↑(((160 : Nat) + avLen (Av.sl (List.take m ys) m) % (90 : Nat)) % (256 : Nat)) : Int),
                    Value.int IntKind.u8
                      (↑(((160 : Nat) + (avLen (Av.sl (List.take m ys) m) + (1 : Nat)) % (90 : Nat)) % (256 : Nat)) :
                        Int),
                    Value.int IntKind.u8
                      (↑(((160 : Nat) + (avLen (Av.sl (List.take m ys) m) + (1 : Nat) + (1 : Nat)) % (90 : Nat)) %
                            (256 : Nat)) :
                        Int)])) =
            intsOf
              (List.take m ys ++
                [Value.int IntKind.u8
                    (↑(((160 : Nat) + avLen (Av.sl (List.take m ys) m) % (90 : Nat)) % (256 : Nat)) : Int),
                  Value.int IntKind.u8
                    (↑(((160 : Nat) + (avLen (Av.sl (List.take m ys) m) + (1 : Nat)) % (90 : Nat)) % (256 : Nat)) :
                      Int),
                  Value.int IntKind.u8
                    (↑(((160 : Nat) + (avLen (Av.sl (List.take m ys) m) + (1 : Nat) + (1 : Nat)) % (90 : Nat)) %
                          (256 : Nat)) :
                      Int)])) =
        true]) := by kernel_rfl
theorem cb_e_long (xs ys : List Value) (c m d : Nat) : runZ (cbV 4) Try.prog 5 7 [cbA 0 c, cbB m d] [(0, ⟨.old, xs⟩), (1, ⟨.old, ys⟩)] 2 ([false, false] ++ [false, true] ++ [false, true] ++ [false, false, true, true] ++ [false, false, true, true] ++ [true, true]) =
Res.ok
  ((Value.bool true, [((0 : Nat), Rw.mk Kd.old xs), ((1 : Nat), Rw.mk Kd.old ys)], (4 : Nat), []), [],
    [false = false, decide ((↑m : Int) > (2000 : Int)) = false, m ≤ d ∧ d ≤ (9223372036854775807 : Nat),
      m ≤ List.length ys, Fl (List.take m ys), Byts (List.take m ys),
      avLen (Av.sl (List.take m ys) m) ≤ (1099511627776 : Nat),
      (0 : Nat) ≤ (0 : Nat) ∧ (0 : Nat) ≤ (9223372036854775807 : Nat), (0 : Nat) ≤ (0 : Nat), Fl [],
      Ints IntKind.i64 [], (0 : Nat) = (0 : Nat), (0 : Nat) ≤ c ∧ c ≤ (9223372036854775807 : Nat),
      (0 : Nat) ≤ List.length xs, Fl [], Ints IntKind.i64 [], (0 : Nat) = (0 : Nat),
      avLen (Av.sl (List.take m ys) m) ≤ avLen (Av.sl (List.take m ys) m) + (3 : Nat) ∧
        avLen (Av.sl (List.take m ys) m) + (3 : Nat) ≤ (9223372036854775807 : Nat),
      avLen (Av.sl (List.take m ys) m) ≤
        List.length
          (List.take m ys ++
            [Value.int IntKind.u8
                (↑(((160 : Nat) + avLen (Av.sl (List.take m ys) m) % (90 : Nat)) % (256 : Nat)) : Int),
              Value.int IntKind.u8
                (↑(((160 : Nat) + (avLen (Av.sl (List.take m ys) m) + (1 : Nat)) % (90 : Nat)) % (256 : Nat)) : Int),
              Value.int IntKind.u8
                (↑(((160 : Nat) + (avLen (Av.sl (List.take m ys) m) + (1 : Nat) + (1 : Nat)) % (90 : Nat)) %
                      (256 : Nat)) :
                  Int)]),
      Fl
        (List.take (avLen (Av.sl (List.take m ys) m))
          (List.take m ys ++
            [Value.int IntKind.u8
                (↑(((160 : Nat) + avLen (Av.sl (List.take m ys) m) % (90 : Nat)) % (256 : Nat)) : Int),
              Value.int IntKind.u8
                (↑(((160 : Nat) + (avLen (Av.sl (List.take m ys) m) + (1 : Nat)) % (90 : Nat)) % (256 : Nat)) : Int),
              Value.int IntKind.u8
                (↑(((160 : Nat) + (avLen (Av.sl (List.take m ys) m) + (1 : Nat) + (1 : Nat)) % (90 : Nat)) %
                      (256 : Nat)) :
                  Int)])),
      Byts
        (List.take (avLen (Av.sl (List.take m ys) m))
          (List.take m ys ++
            [Value.int IntKind.u8
                (↑(((160 : Nat) + avLen (Av.sl (List.take m ys) m) % (90 : Nat)) % (256 : Nat)) : Int),
              Value.int IntKind.u8
                (↑(((160 : Nat) + (avLen (Av.sl (List.take m ys) m) + (1 : Nat)) % (90 : Nat)) % (256 : Nat)) : Int),
              Value.int IntKind.u8
                (↑(((160 : Nat) + (avLen (Av.sl (List.take m ys) m) + (1 : Nat) + (1 : Nat)) % (90 : Nat)) %
                      (256 : Nat)) :
                  Int)])),
      avLen
            (Av.sl
              (List.take (avLen (Av.sl (List.take m ys) m))
                (List.take m ys ++
                  [Value.int IntKind.u8
                      (↑(((160 : Nat) + avLen (Av.sl (List.take m ys) m) % (90 : Nat)) % (256 : Nat)) : Int),
                    Value.int IntKind.u8
                      (↑(((160 : Nat) + (avLen (Av.sl (List.take m ys) m) + (1 : Nat)) % (90 : Nat)) % (256 : Nat)) :
                        Int),
                    Value.int IntKind.u8
                      (↑(((160 : Nat) + (avLen (Av.sl (List.take m ys) m) + (1 : Nat) + (1 : Nat)) % (90 : Nat)) %
                            (256 : Nat)) :
                        Int)]))
              (avLen (Av.sl (List.take m ys) m))) %
          (8 : Nat) =
        (0 : Nat),
      decide
          (avLen
              (Av.sl
                (List.take (avLen (Av.sl (List.take m ys) m))
                  (List.take m ys ++
                    [Value.int IntKind.u8
                        (↑(((160 : Nat) + avLen (Av.sl (List.take m ys) m) % (90 : Nat)) % (256 : Nat)) : Int),
                      Value.int IntKind.u8
                        (↑(((160 : Nat) + (avLen (Av.sl (List.take m ys) m) + (1 : Nat)) % (90 : Nat)) % (256 : Nat)) :
                          Int),
                      Value.int IntKind.u8
                        (↑(((160 : Nat) + (avLen (Av.sl (List.take m ys) m) + (1 : Nat) + (1 : Nat)) % (90 : Nat)) %
                              (256 : Nat)) :
                          Int)]))
                (avLen (Av.sl (List.take m ys) m))) =
            (0 : Nat)) =
        false,
      avLen
          (Av.sl
            (List.take (avLen (Av.sl (List.take m ys) m))
              (List.take m ys ++
                [Value.int IntKind.u8
                    (↑(((160 : Nat) + avLen (Av.sl (List.take m ys) m) % (90 : Nat)) % (256 : Nat)) : Int),
                  Value.int IntKind.u8
                    (↑(((160 : Nat) + (avLen (Av.sl (List.take m ys) m) + (1 : Nat)) % (90 : Nat)) % (256 : Nat)) :
                      Int),
                  Value.int IntKind.u8
                    (↑(((160 : Nat) + (avLen (Av.sl (List.take m ys) m) + (1 : Nat) + (1 : Nat)) % (90 : Nat)) %
                          (256 : Nat)) :
                      Int)]))
            (avLen (Av.sl (List.take m ys) m))) ≤
        (4096 : Nat),
      rdOk
          (List.take (avLen (Av.sl (List.take m ys) m))
            (List.take m ys ++
              [Value.int IntKind.u8
                  (↑(((160 : Nat) + avLen (Av.sl (List.take m ys) m) % (90 : Nat)) % (256 : Nat)) : Int),
                Value.int IntKind.u8
                  (↑(((160 : Nat) + (avLen (Av.sl (List.take m ys) m) + (1 : Nat)) % (90 : Nat)) % (256 : Nat)) : Int),
                Value.int IntKind.u8
                  (↑(((160 : Nat) + (avLen (Av.sl (List.take m ys) m) + (1 : Nat) + (1 : Nat)) % (90 : Nat)) %
                        (256 : Nat)) :
                    Int)]))
          (0 : Nat)
          (avLen
              (Av.sl
                (List.take (avLen (Av.sl (List.take m ys) m))
                  (List.take m ys ++
                    [Value.int IntKind.u8
                        (↑(((160 : Nat) + avLen (Av.sl (List.take m ys) m) % (90 : Nat)) % (256 : Nat)) : Int),
                      Value.int IntKind.u8
                        (↑(((160 : Nat) + (avLen (Av.sl (List.take m ys) m) + (1 : Nat)) % (90 : Nat)) % (256 : Nat)) :
                          Int),
                      Value.int IntKind.u8
                        (↑(((160 : Nat) + (avLen (Av.sl (List.take m ys) m) + (1 : Nat) + (1 : Nat)) % (90 : Nat)) %
                              (256 : Nat)) :
                          Int)]))
                (avLen (Av.sl (List.take m ys) m))) /
            (8 : Nat)) =
        true,
      decide
          (avLen
                (Av.sl
                  (List.take (avLen (Av.sl (List.take m ys) m))
                    (List.take m ys ++
                      [Value.int IntKind.u8
                          (↑(((160 : Nat) + avLen (Av.sl (List.take m ys) m) % (90 : Nat)) % (256 : Nat)) : Int),
                        Value.int IntKind.u8
                          (↑(((160 : Nat) + (avLen (Av.sl (List.take m ys) m) + (1 : Nat)) % (90 : Nat)) %
                                (256 : Nat)) :
                            Int),
                        Value.int IntKind.u8
                          (↑(((160 : Nat) + (avLen (Av.sl (List.take m ys) m) + (1 : Nat) + (1 : Nat)) % (90 : Nat)) %
                                (256 : Nat)) :
                            Int)]))
                  (avLen (Av.sl (List.take m ys) m))) /
              (8 : Nat) ≤
            (128 : Nat)) =
        false,
      m ≤ d ∧ d ≤ (9223372036854775807 : Nat), m ≤ List.length ys, Fl (List.take m ys), Byts (List.take m ys),
      avLen (Av.sl (List.take m ys) m) % (8 : Nat) = (0 : Nat),
      decide (avLen (Av.sl (List.take m ys) m) = (0 : Nat)) = false, avLen (Av.sl (List.take m ys) m) ≤ (4096 : Nat),
      rdOk (List.take m ys) (0 : Nat) (avLen (Av.sl (List.take m ys) m) / (8 : Nat)) = true,
      decide (avLen (Av.sl (List.take m ys) m) / (8 : Nat) ≤ (128 : Nat)) = false, Byts [], Byts [], true = true,
      Ints IntKind.i64 [], ([] : List Value) = [], (0 : Nat) = (0 : Nat),
      avLen (Av.sl (List.take m ys) m) + (3 : Nat) ≤ (9223372036854775807 : Nat),
      avLen (Av.sl (List.take m ys) m) + (3 : Nat) ≤
        List.length
          (List.take m ys ++
            [Value.int IntKind.u8
                (↑(((160 : Nat) + avLen (Av.sl (List.take m ys) m) % (90 : Nat)) % (256 : Nat)) : Int),
              Value.int IntKind.u8
                (↑(((160 : Nat) + (avLen (Av.sl (List.take m ys) m) + (1 : Nat)) % (90 : Nat)) % (256 : Nat)) : Int),
              Value.int IntKind.u8
                (↑(((160 : Nat) + (avLen (Av.sl (List.take m ys) m) + (1 : Nat) + (1 : Nat)) % (90 : Nat)) %
                      (256 : Nat)) :
                  Int)]),
      Fl
        (List.take (avLen (Av.sl (List.take m ys) m) + (3 : Nat))
          (List.take m ys ++
            [Value.int IntKind.u8
                (↑(((160 : Nat) + avLen (Av.sl (List.take m ys) m) % (90 : Nat)) % (256 : Nat)) : Int),
              Value.int IntKind.u8
                (↑(((160 : Nat) + (avLen (Av.sl (List.take m ys) m) + (1 : Nat)) % (90 : Nat)) % (256 : Nat)) : Int),
              Value.int IntKind.u8
                (↑(((160 : Nat) + (avLen (Av.sl (List.take m ys) m) + (1 : Nat) + (1 : Nat)) % (90 : Nat)) %
                      (256 : Nat)) :
                  Int)])),
      m ≤ d ∧ d ≤ (9223372036854775807 : Nat), m ≤ List.length ys, Fl (List.take m ys),
      Byts
        (List.take (avLen (Av.sl (List.take m ys) m) + (3 : Nat))
          (List.take m ys ++
            [Value.int IntKind.u8
                (↑(((160 : Nat) + avLen (Av.sl (List.take m ys) m) % (90 : Nat)) % (256 : Nat)) : Int),
              Value.int IntKind.u8
                (↑(((160 : Nat) + (avLen (Av.sl (List.take m ys) m) + (1 : Nat)) % (90 : Nat)) % (256 : Nat)) : Int),
              Value.int IntKind.u8
                (↑(((160 : Nat) + (avLen (Av.sl (List.take m ys) m) + (1 : Nat) + (1 : Nat)) % (90 : Nat)) %
                      (256 : Nat)) :
                  Int)])),
      Byts (List.take m ys), avLen (Av.sl (List.take m ys) m) = avLen (Av.sl (List.take m ys) m),
      avLen (Av.sl (List.take m ys) m) + (3 : Nat) = avLen (Av.sl (List.take m ys) m) + (3 : Nat),
      avLen (Av.sl (List.take m ys) m) ≤ (1099511627776 : Nat),
      decide
          (intsOf
              (List.take (avLen (Av.sl (List.take m ys) m) + (3 : Nat))
                (List.take m ys ++
                  [Value.int IntKind.u8
                      (↑(((160 : Nat) + avLen (Av.sl (List.take m ys) m) % (90 : Nat)) % (256 : Nat)) : Int),
                    Value.int IntKind.u8
                      (↑(((160 : Nat) + (avLen (Av.sl (List.take m ys) m) + (1 : Nat)) % (90 : Nat)) % (256 : Nat)) :
                        Int),
                    Value.int IntKind.u8
                      (↑(((160 : Nat) + (avLen (Av.sl (List.take m ys) m) + (1 : Nat) + (1 : Nat)) % (90 : Nat)) %
                            (256 : Nat)) :
                        Int)])) =
            intsOf
              (List.take m ys ++
                [Value.int IntKind.u8
                    (↑(((160 : Nat) + avLen (Av.sl (List.take m ys) m) % (90 : Nat)) % (256 : Nat)) : Int),
                  Value.int IntKind.u8
                    (↑(((160 : Nat) + (avLen (Av.sl (List.take m ys) m) + (1 : Nat)) % (90 : Nat)) % (256 : Nat)) :
                      Int),
                  Value.int IntKind.u8
                    (↑(((160 : Nat) + (avLen (Av.sl (List.take m ys) m) + (1 : Nat) + (1 : Nat)) % (90 : Nat)) %
                          (256 : Nat)) :
                      Int)])) =
        true]) := by kernel_rfl
theorem cb_n_long (ys : List Value) (m d : Nat) : runZ (cbV 4) Try.prog 5 7 [.slice none 0 0, cbB m d] [(1, ⟨.old, ys⟩)] 2 ([false, false] ++ [false, true] ++ [false, true] ++ [false, false, true, true] ++ [false, false, true, true] ++ [true, true]) =
Res.ok
  ((Value.bool true, [((1 : Nat), Rw.mk Kd.old ys)], (4 : Nat), []), [],
    [false = false, decide ((↑m : Int) > (2000 : Int)) = false, m ≤ d ∧ d ≤ (9223372036854775807 : Nat),
      m ≤ List.length ys, Fl (List.take m ys), Byts (List.take m ys),
      avLen (Av.sl (List.take m ys) m) ≤ (1099511627776 : Nat),
      (0 : Nat) ≤ (0 : Nat) ∧ (0 : Nat) ≤ (9223372036854775807 : Nat), (0 : Nat) ≤ (0 : Nat), Fl [],
      Ints IntKind.i64 [], (0 : Nat) = (0 : Nat), Ints IntKind.i64 [], (0 : Nat) = (0 : Nat),
      avLen (Av.sl (List.take m ys) m) ≤ avLen (Av.sl (List.take m ys) m) + (3 : Nat) ∧
        avLen (Av.sl (List.take m ys) m) + (3 : Nat) ≤ (9223372036854775807 : Nat),
      avLen (Av.sl (List.take m ys) m) ≤
        List.length
          (List.take m ys ++
            [Value.int IntKind.u8
                (↑(((160 : Nat) + avLen (Av.sl (List.take m ys) m) % (90 : Nat)) % (256 : Nat)) : Int),
              Value.int IntKind.u8
                (↑(((160 : Nat) + (avLen (Av.sl (List.take m ys) m) + (1 : Nat)) % (90 : Nat)) % (256 : Nat)) : Int),
              Value.int IntKind.u8
                (↑(((160 : Nat) + (avLen (Av.sl (List.take m ys) m) + (1 : Nat) + (1 : Nat)) % (90 : Nat)) %
                      (256 : Nat)) :
                  Int)]),
      Fl
        (List.take (avLen (Av.sl (List.take m ys) m))
          (List.take m ys ++
            [Value.int IntKind.u8
                (↑(((160 : Nat) + avLen (Av.sl (List.take m ys) m) % (90 : Nat)) % (256 : Nat)) : Int),
              Value.int IntKind.u8
                (↑(((160 : Nat) + (avLen (Av.sl (List.take m ys) m) + (1 : Nat)) % (90 : Nat)) % (256 : Nat)) : Int),
              Value.int IntKind.u8
                (↑(((160 : Nat) + (avLen (Av.sl (List.take m ys) m) + (1 : Nat) + (1 : Nat)) % (90 : Nat)) %
                      (256 : Nat)) :
                  Int)])),
      Byts
        (List.take (avLen (Av.sl (List.take m ys) m))
          (List.take m ys ++
            [Value.int IntKind.u8
                (↑(((160 : Nat) + avLen (Av.sl (List.take m ys) m) % (90 : Nat)) % (256 : Nat)) : Int),
              Value.int IntKind.u8
                (↑(((160 : Nat) + (avLen (Av.sl (List.take m ys) m) + (1 : Nat)) % (90 : Nat)) % (256 : Nat)) : Int),
              Value.int IntKind.u8
                (↑(((160 : Nat) + (avLen (Av.sl (List.take m ys) m) + (1 : Nat) + (1 : Nat)) % (90 : Nat)) %
                      (256 : Nat)) :
                  Int)])),
      avLen
            (Av.sl
              (List.take (avLen (Av.sl (List.take m ys) m))
                (List.take m ys ++
                  [Value.int IntKind.u8
                      (↑(((160 : Nat) + avLen (Av.sl (List.take m ys) m) % (90 : Nat)) % (256 : Nat)) : Int),
                    Value.int IntKind.u8
                      (↑(((160 : Nat) + (avLen (Av.sl (List.take m ys) m) + (1 : Nat)) % (90 : Nat)) % (256 : Nat)) :
                        Int),
                    Value.int IntKind.u8
                      (↑(((160 : Nat) + (avLen (Av.sl (List.take m ys) m) + (1 : Nat) + (1 : Nat)) % (90 : Nat)) %
                            (256 : Nat)) :
                        Int)]))
              (avLen (Av.sl (List.take m ys) m))) %
          (8 : Nat) =
        (0 : Nat),
      decide
          (avLen
              (Av.sl
                (List.take (avLen (Av.sl (List.take m ys) m))
                  (List.take m ys ++
                    [Value.int IntKind.u8
                        (↑(((160 : Nat) + avLen (Av.sl (List.take m ys) m) % (90 : Nat)) % (256 : Nat)) : Int),
                      Value.int IntKind.u8
                        (↑(((160 : Nat) + (avLen (Av.sl (List.take m ys) m) + (1 : Nat)) % (90 : Nat)) % (256 : Nat)) :
                          Int),
                      Value.int IntKind.u8
                        (↑(((160 : Nat) + (avLen (Av.sl (List.take m ys) m) + (1 : Nat) + (1 : Nat)) % (90 : Nat)) %
                              (256 : Nat)) :
                          Int)]))
                (avLen (Av.sl (List.take m ys) m))) =
            (0 : Nat)) =
        false,
      avLen
          (Av.sl
            (List.take (avLen (Av.sl (List.take m ys) m))
              (List.take m ys ++
                [Value.int IntKind.u8
                    (↑(((160 : Nat) + avLen (Av.sl (List.take m ys) m) % (90 : Nat)) % (256 : Nat)) : Int),
                  Value.int IntKind.u8
                    (↑(((160 : Nat) + (avLen (Av.sl (List.take m ys) m) + (1 : Nat)) % (90 : Nat)) % (256 : Nat)) :
                      Int),
                  Value.int IntKind.u8
                    (↑(((160 : Nat) + (avLen (Av.sl (List.take m ys) m) + (1 : Nat) + (1 : Nat)) % (90 : Nat)) %
                          (256 : Nat)) :
                      Int)]))
            (avLen (Av.sl (List.take m ys) m))) ≤
        (4096 : Nat),
      rdOk
          (List.take (avLen (Av.sl (List.take m ys) m))
            (List.take m ys ++
              [Value.int IntKind.u8
                  (↑(((160 : Nat) + avLen (Av.sl (List.take m ys) m) % (90 : Nat)) % (256 : Nat)) : Int),
                Value.int IntKind.u8
                  (↑(((160 : Nat) + (avLen (Av.sl (List.take m ys) m) + (1 : Nat)) % (90 : Nat)) % (256 : Nat)) : Int),
                Value.int IntKind.u8
                  (↑(((160 : Nat) + (avLen (Av.sl (List.take m ys) m) + (1 : Nat) + (1 : Nat)) % (90 : Nat)) %
                        (256 : Nat)) :
                    Int)]))
          (0 : Nat)
          (avLen
              (Av.sl
                (List.take (avLen (Av.sl (List.take m ys) m))
                  (List.take m ys ++
                    [Value.int IntKind.u8
                        (↑(((160 : Nat) + avLen (Av.sl (List.take m ys) m) % (90 : Nat)) % (256 : Nat)) : Int),
                      Value.int IntKind.u8
                        (↑(((160 : Nat) + (avLen (Av.sl (List.take m ys) m) + (1 : Nat)) % (90 : Nat)) % (256 : Nat)) :
                          Int),
                      Value.int IntKind.u8
                        (↑(((160 : Nat) + (avLen (Av.sl (List.take m ys) m) + (1 : Nat) + (1 : Nat)) % (90 : Nat)) %
                              (256 : Nat)) :
                          Int)]))
                (avLen (Av.sl (List.take m ys) m))) /
            (8 : Nat)) =
        true,
      decide
          (avLen
                (Av.sl
                  (List.take (avLen (Av.sl (List.take m ys) m))
                    (List.take m ys ++
                      [Value.int IntKind.u8
                          (↑(((160 : Nat) + avLen (Av.sl (List.take m ys) m) % (90 : Nat)) % (256 : Nat)) : Int),
                        Value.int IntKind.u8
                          (↑(((160 : Nat) + (avLen (Av.sl (List.take m ys) m) + (1 : Nat)) % (90 : Nat)) %
                                (256 : Nat)) :
                            Int),
                        Value.int IntKind.u8
                          (↑(((160 : Nat) + (avLen (Av.sl (List.take m ys) m) + (1 : Nat) + (1 : Nat)) % (90 : Nat)) %
                                (256 : Nat)) :
                            Int)]))
                  (avLen (Av.sl (List.take m ys) m))) /
              (8 : Nat) ≤
            (128 : Nat)) =
        false,
      m ≤ d ∧ d ≤ (9223372036854775807 : Nat), m ≤ List.length ys, Fl (List.take m ys), Byts (List.take m ys),
      avLen (Av.sl (List.take m ys) m) % (8 : Nat) = (0 : Nat),
      decide (avLen (Av.sl (List.take m ys) m) = (0 : Nat)) = false, avLen (Av.sl (List.take m ys) m) ≤ (4096 : Nat),
      rdOk (List.take m ys) (0 : Nat) (avLen (Av.sl (List.take m ys) m) / (8 : Nat)) = true,
      decide (avLen (Av.sl (List.take m ys) m) / (8 : Nat) ≤ (128 : Nat)) = false, Byts [], Byts [], true = true,
      Ints IntKind.i64 [], ([] : List Value) = [], (0 : Nat) = (0 : Nat),
      avLen (Av.sl (List.take m ys) m) + (3 : Nat) ≤ (9223372036854775807 : Nat),
      avLen (Av.sl (List.take m ys) m) + (3 : Nat) ≤
        List.length
          (List.take m ys ++
            [Value.int IntKind.u8
                (↑(((160 : Nat) + avLen (Av.sl (List.take m ys) m) % (90 : Nat)) % (256 : Nat)) : Int),
              Value.int IntKind.u8
                (↑(((160 : Nat) + (avLen (Av.sl (List.take m ys) m) + (1 : Nat)) % (90 : Nat)) % (256 : Nat)) : Int),
              Value.int IntKind.u8
                (↑(((160 : Nat) + (avLen (Av.sl (List.take m ys) m) + (1 : Nat) + (1 : Nat)) % (90 : Nat)) %
                      (256 : Nat)) :
                  Int)]),
      Fl
        (List.take (avLen (Av.sl (List.take m ys) m) + (3 : Nat))
          (List.take m ys ++
            [Value.int IntKind.u8
                (↑(((160 : Nat) + avLen (Av.sl (List.take m ys) m) % (90 : Nat)) % (256 : Nat)) : Int),
              Value.int IntKind.u8
                (↑(((160 : Nat) + (avLen (Av.sl (List.take m ys) m) + (1 : Nat)) % (90 : Nat)) % (256 : Nat)) : Int),
              Value.int IntKind.u8
                (↑(((160 : Nat) + (avLen (Av.sl (List.take m ys) m) + (1 : Nat) + (1 : Nat)) % (90 : Nat)) %
                      (256 : Nat)) :
                  Int)])),
      m ≤ d ∧ d ≤ (9223372036854775807 : Nat), m ≤ List.length ys, Fl (List.take m ys),
      Byts
        (List.take (avLen (Av.sl (List.take m ys) m) + (3 : Nat))
          (List.take m ys ++
            [Value.int IntKind.u8
                (↑(((160 : Nat) + avLen (Av.sl (List.take m ys) m) % (90 : Nat)) % (256 : Nat)) : Int),
              Value.int IntKind.u8
                (↑(((160 : Nat) + (avLen (Av.sl (List.take m ys) m) + (1 : Nat)) % (90 : Nat)) % (256 : Nat)) : Int),
              Value.int IntKind.u8
                (↑(((160 : Nat) + (avLen (Av.sl (List.take m ys) m) + (1 : Nat) + (1 : Nat)) % (90 : Nat)) %
                      (256 : Nat)) :
                  Int)])),
      Byts (List.take m ys), avLen (Av.sl (List.take m ys) m) = avLen (Av.sl (List.take m ys) m),
      avLen (Av.sl (List.take m ys) m) + (3 : Nat) = avLen (Av.sl (List.take m ys) m) + (3 : Nat),
      avLen (Av.sl (List.take m ys) m) ≤ (1099511627776 : Nat),
      decide
          (intsOf
              (List.take (avLen (Av.sl (List.take m ys) m) + (3 : Nat))
                (List.take m ys ++
                  [Value.int IntKind.u8
                      (↑(((160 : Nat) + avLen (Av.sl (List.take m ys) m) % (90 : Nat)) % (256 : Nat)) : Int),
                    Value.int IntKind.u8
                      (↑(((160 : Nat) + (avLen (Av.sl (List.take m ys) m) + (1 : Nat)) % (90 : Nat)) % (256 : Nat)) :
                        Int),
                    Value.int IntKind.u8
                      (↑(((160 : Nat) + (avLen (Av.sl (List.take m ys) m) + (1 : Nat) + (1 : Nat)) % (90 : Nat)) %
                            (256 : Nat)) :
                        Int)])) =
            intsOf
              (List.take m ys ++
                [Value.int IntKind.u8
                    (↑(((160 : Nat) + avLen (Av.sl (List.take m ys) m) % (90 : Nat)) % (256 : Nat)) : Int),
                  Value.int IntKind.u8
                    (↑(((160 : Nat) + (avLen (Av.sl (List.take m ys) m) + (1 : Nat)) % (90 : Nat)) % (256 : Nat)) :
                      Int),
                  Value.int IntKind.u8
                    (↑(((160 : Nat) + (avLen (Av.sl (List.take m ys) m) + (1 : Nat) + (1 : Nat)) % (90 : Nat)) %
                          (256 : Nat)) :
                      Int)])) =
        true]) := by kernel_rfl
theorem cb_e_ok (xs ys : List Value) (c m d : Nat) : runZ (cbV 4) Try.prog 5 7 [cbA 0 c, cbB m d] [(0, ⟨.old, xs⟩), (1, ⟨.old, ys⟩)] 2 ([false, false] ++ [false, true] ++ [false, true] ++ [false, false, true, false] ++ [false, false, true, false] ++ [true, true]) =
Res.ok
  ((Value.bool true, [((0 : Nat), Rw.mk Kd.old xs), ((1 : Nat), Rw.mk Kd.old ys)], (6 : Nat), []), [],
    [false = false, decide ((↑m : Int) > (2000 : Int)) = false, m ≤ d ∧ d ≤ (9223372036854775807 : Nat),
      m ≤ List.length ys, Fl (List.take m ys), Byts (List.take m ys),
      avLen (Av.sl (List.take m ys) m) ≤ (1099511627776 : Nat),
      (0 : Nat) ≤ (0 : Nat) ∧ (0 : Nat) ≤ (9223372036854775807 : Nat), (0 : Nat) ≤ (0 : Nat), Fl [],
      Ints IntKind.i64 [], (0 : Nat) = (0 : Nat), (0 : Nat) ≤ c ∧ c ≤ (9223372036854775807 : Nat),
      (0 : Nat) ≤ List.length xs, Fl [], Ints IntKind.i64 [], (0 : Nat) = (0 : Nat),
      avLen (Av.sl (List.take m ys) m) ≤ avLen (Av.sl (List.take m ys) m) + (3 : Nat) ∧
        avLen (Av.sl (List.take m ys) m) + (3 : Nat) ≤ (9223372036854775807 : Nat),
      avLen (Av.sl (List.take m ys) m) ≤
        List.length
          (List.take m ys ++
            [Value.int IntKind.u8
                (↑(((160 : Nat) + avLen (Av.sl (List.take m ys) m) % (90 : Nat)) % (256 : Nat)) : Int),
              Value.int IntKind.u8
                (↑(((160 : Nat) + (avLen (Av.sl (List.take m ys) m) + (1 : Nat)) % (90 : Nat)) % (256 : Nat)) : Int),
              Value.int IntKind.u8
                (↑(((160 : Nat) + (avLen (Av.sl (List.take m ys) m) + (1 : Nat) + (1 : Nat)) % (90 : Nat)) %
                      (256 : Nat)) :
                  Int)]),
      Fl
        (List.take (avLen (Av.sl (List.take m ys) m))
          (List.take m ys ++
            [Value.int IntKind.u8
                (↑(((160 : Nat) + avLen (Av.sl (List.take m ys) m) % (90 : Nat)) % (256 : Nat)) : Int),
              Value.int IntKind.u8
                (↑(((160 : Nat) + (avLen (Av.sl (List.take m ys) m) + (1 : Nat)) % (90 : Nat)) % (256 : Nat)) : Int),
              Value.int IntKind.u8
                (↑(((160 : Nat) + (avLen (Av.sl (List.take m ys) m) + (1 : Nat) + (1 : Nat)) % (90 : Nat)) %
                      (256 : Nat)) :
                  Int)])),
      Byts
        (List.take (avLen (Av.sl (List.take m ys) m))
          (List.take m ys ++
            [Value.int IntKind.u8
                (↑(((160 : Nat) + avLen (Av.sl (List.take m ys) m) % (90 : Nat)) % (256 : Nat)) : Int),
              Value.int IntKind.u8
                (↑(((160 : Nat) + (avLen (Av.sl (List.take m ys) m) + (1 : Nat)) % (90 : Nat)) % (256 : Nat)) : Int),
              Value.int IntKind.u8
                (↑(((160 : Nat) + (avLen (Av.sl (List.take m ys) m) + (1 : Nat) + (1 : Nat)) % (90 : Nat)) %
                      (256 : Nat)) :
                  Int)])),
      avLen
            (Av.sl
              (List.take (avLen (Av.sl (List.take m ys) m))
                (List.take m ys ++
                  [Value.int IntKind.u8
                      (↑(((160 : Nat) + avLen (Av.sl (List.take m ys) m) % (90 : Nat)) % (256 : Nat)) : Int),
                    Value.int IntKind.u8
                      (↑(((160 : Nat) + (avLen (Av.sl (List.take m ys) m) + (1 : Nat)) % (90 : Nat)) % (256 : Nat)) :
                        Int),
                    Value.int IntKind.u8
                      (↑(((160 : Nat) + (avLen (Av.sl (List.take m ys) m) + (1 : Nat) + (1 : Nat)) % (90 : Nat)) %
                            (256 : Nat)) :
                        Int)]))
              (avLen (Av.sl (List.take m ys) m))) %
          (8 : Nat) =
        (0 : Nat),
      decide
          (avLen
              (Av.sl
                (List.take (avLen (Av.sl (List.take m ys) m))
                  (List.take m ys ++
                    [Value.int IntKind.u8
                        (↑(((160 : Nat) + avLen (Av.sl (List.take m ys) m) % (90 : Nat)) % (256 : Nat)) : Int),
                      Value.int IntKind.u8
                        (↑(((160 : Nat) + (avLen (Av.sl (List.take m ys) m) + (1 : Nat)) % (90 : Nat)) % (256 : Nat)) :
                          Int),
                      Value.int IntKind.u8
                        (↑(((160 : Nat) + (avLen (Av.sl (List.take m ys) m) + (1 : Nat) + (1 : Nat)) % (90 : Nat)) %
                              (256 : Nat)) :
                          Int)]))
                (avLen (Av.sl (List.take m ys) m))) =
            (0 : Nat)) =
        false,
      avLen
          (Av.sl
            (List.take (avLen (Av.sl (List.take m ys) m))
              (List.take m ys ++
                [Value.int IntKind.u8
                    (↑(((160 : Nat) + avLen (Av.sl (List.take m ys) m) % (90 : Nat)) % (256 : Nat)) : Int),
                  Value.int IntKind.u8
                    (↑(((160 : Nat) + (avLen (Av.sl (List.take m ys) m) + (1 : Nat)) % (90 : Nat)) % (256 : Nat)) :
                      Int),
                  Value.int IntKind.u8
                    (↑(((160 : Nat) + (avLen (Av.sl (List.take m ys) m) + (1 : Nat) + (1 : Nat)) % (90 : Nat)) %
                          (256 : Nat)) :
                      Int)]))
            (avLen (Av.sl (List.take m ys) m))) ≤
        (4096 : Nat),
      rdOk
          (List.take (avLen (Av.sl (List.take m ys) m))
            (List.take m ys ++
              [Value.int IntKind.u8
                  (↑(((160 : Nat) + avLen (Av.sl (List.take m ys) m) % (90 : Nat)) % (256 : Nat)) : Int),
                Value.int IntKind.u8
                  (↑(((160 : Nat) + (avLen (Av.sl (List.take m ys) m) + (1 : Nat)) % (90 : Nat)) % (256 : Nat)) : Int),
                Value.int IntKind.u8
                  (↑(((160 : Nat) + (avLen (Av.sl (List.take m ys) m) + (1 : Nat) + (1 : Nat)) % (90 : Nat)) %
                        (256 : Nat)) :
                    Int)]))
          (0 : Nat)
          (avLen
              (Av.sl
                (List.take (avLen (Av.sl (List.take m ys) m))
                  (List.take m ys ++
                    [Value.int IntKind.u8
                        (↑(((160 : Nat) + avLen (Av.sl (List.take m ys) m) % (90 : Nat)) % (256 : Nat)) : Int),
                      Value.int IntKind.u8
                        (↑(((160 : Nat) + (avLen (Av.sl (List.take m ys) m) + (1 : Nat)) % (90 : Nat)) % (256 : Nat)) :
                          Int),
                      Value.int IntKind.u8
                        (↑(((160 : Nat) + (avLen (Av.sl (List.take m ys) m) + (1 : Nat) + (1 : Nat)) % (90 : Nat)) %
                              (256 : Nat)) :
                          Int)]))
                (avLen (Av.sl (List.take m ys) m))) /
            (8 : Nat)) =
        true,
      decide
          (avLen
                (Av.sl
                  (List.take (avLen (Av.sl (List.take m ys) m))
                    (List.take m ys ++
                      [Value.int IntKind.u8
                          (↑(((160 : Nat) + avLen (Av.sl (List.take m ys) m) % (90 : Nat)) % (256 : Nat)) : Int),
                        Value.int IntKind.u8
                          (↑(((160 : Nat) + (avLen (Av.sl (List.take m ys) m) + (1 : Nat)) % (90 : Nat)) %
                                (256 : Nat)) :
                            Int),
                        Value.int IntKind.u8
                          (↑(((160 : Nat) + (avLen (Av.sl (List.take m ys) m) + (1 : Nat) + (1 : Nat)) % (90 : Nat)) %
                                (256 : Nat)) :
                            Int)]))
                  (avLen (Av.sl (List.take m ys) m))) /
              (8 : Nat) ≤
            (128 : Nat)) =
        true,
      m ≤ d ∧ d ≤ (9223372036854775807 : Nat), m ≤ List.length ys, Fl (List.take m ys), Byts (List.take m ys),
      avLen (Av.sl (List.take m ys) m) % (8 : Nat) = (0 : Nat),
      decide (avLen (Av.sl (List.take m ys) m) = (0 : Nat)) = false, avLen (Av.sl (List.take m ys) m) ≤ (4096 : Nat),
      rdOk (List.take m ys) (0 : Nat) (avLen (Av.sl (List.take m ys) m) / (8 : Nat)) = true,
      decide (avLen (Av.sl (List.take m ys) m) / (8 : Nat) ≤ (128 : Nat)) = true, Byts [], Byts [], true = true,
      capBig + (4 : Nat) = capBig + (4 : Nat),
      avLen
              (Av.sl
                (List.take (avLen (Av.sl (List.take m ys) m))
                  (List.take m ys ++
                    [Value.int IntKind.u8
                        (↑(((160 : Nat) + avLen (Av.sl (List.take m ys) m) % (90 : Nat)) % (256 : Nat)) : Int),
                      Value.int IntKind.u8
                        (↑(((160 : Nat) + (avLen (Av.sl (List.take m ys) m) + (1 : Nat)) % (90 : Nat)) % (256 : Nat)) :
                          Int),
                      Value.int IntKind.u8
                        (↑(((160 : Nat) + (avLen (Av.sl (List.take m ys) m) + (1 : Nat) + (1 : Nat)) % (90 : Nat)) %
                              (256 : Nat)) :
                          Int)]))
                (avLen (Av.sl (List.take m ys) m))) /
            (8 : Nat) *
          (2 : Nat) ≤
        List.length
          (rdL
            (List.take (avLen (Av.sl (List.take m ys) m))
              (List.take m ys ++
                [Value.int IntKind.u8
                    (↑(((160 : Nat) + avLen (Av.sl (List.take m ys) m) % (90 : Nat)) % (256 : Nat)) : Int),
                  Value.int IntKind.u8
                    (↑(((160 : Nat) + (avLen (Av.sl (List.take m ys) m) + (1 : Nat)) % (90 : Nat)) % (256 : Nat)) :
                      Int),
                  Value.int IntKind.u8
                    (↑(((160 : Nat) + (avLen (Av.sl (List.take m ys) m) + (1 : Nat) + (1 : Nat)) % (90 : Nat)) %
                          (256 : Nat)) :
                      Int)]))
            (0 : Nat)
            (avLen
                (Av.sl
                  (List.take (avLen (Av.sl (List.take m ys) m))
                    (List.take m ys ++
                      [Value.int IntKind.u8
                          (↑(((160 : Nat) + avLen (Av.sl (List.take m ys) m) % (90 : Nat)) % (256 : Nat)) : Int),
                        Value.int IntKind.u8
                          (↑(((160 : Nat) + (avLen (Av.sl (List.take m ys) m) + (1 : Nat)) % (90 : Nat)) %
                                (256 : Nat)) :
                            Int),
                        Value.int IntKind.u8
                          (↑(((160 : Nat) + (avLen (Av.sl (List.take m ys) m) + (1 : Nat) + (1 : Nat)) % (90 : Nat)) %
                                (256 : Nat)) :
                            Int)]))
                  (avLen (Av.sl (List.take m ys) m))) /
              (8 : Nat))),
      (0 : Nat) < (2 : Nat),
      avLen
              (Av.sl
                (List.take (avLen (Av.sl (List.take m ys) m))
                  (List.take m ys ++
                    [Value.int IntKind.u8
                        (↑(((160 : Nat) + avLen (Av.sl (List.take m ys) m) % (90 : Nat)) % (256 : Nat)) : Int),
                      Value.int IntKind.u8
                        (↑(((160 : Nat) + (avLen (Av.sl (List.take m ys) m) + (1 : Nat)) % (90 : Nat)) % (256 : Nat)) :
                          Int),
                      Value.int IntKind.u8
                        (↑(((160 : Nat) + (avLen (Av.sl (List.take m ys) m) + (1 : Nat) + (1 : Nat)) % (90 : Nat)) %
                              (256 : Nat)) :
                          Int)]))
                (avLen (Av.sl (List.take m ys) m))) /
            (8 : Nat) *
          (2 : Nat) ≤
        List.length
          (rdL
            (List.take (avLen (Av.sl (List.take m ys) m))
              (List.take m ys ++
                [Value.int IntKind.u8
                    (↑(((160 : Nat) + avLen (Av.sl (List.take m ys) m) % (90 : Nat)) % (256 : Nat)) : Int),
                  Value.int IntKind.u8
                    (↑(((160 : Nat) + (avLen (Av.sl (List.take m ys) m) + (1 : Nat)) % (90 : Nat)) % (256 : Nat)) :
                      Int),
                  Value.int IntKind.u8
                    (↑(((160 : Nat) + (avLen (Av.sl (List.take m ys) m) + (1 : Nat) + (1 : Nat)) % (90 : Nat)) %
                          (256 : Nat)) :
                      Int)]))
            (0 : Nat)
            (avLen
                (Av.sl
                  (List.take (avLen (Av.sl (List.take m ys) m))
                    (List.take m ys ++
                      [Value.int IntKind.u8
                          (↑(((160 : Nat) + avLen (Av.sl (List.take m ys) m) % (90 : Nat)) % (256 : Nat)) : Int),
                        Value.int IntKind.u8
                          (↑(((160 : Nat) + (avLen (Av.sl (List.take m ys) m) + (1 : Nat)) % (90 : Nat)) %
                                (256 : Nat)) :
                            Int),
                        Value.int IntKind.u8
                          (↑(((160 : Nat) + (avLen (Av.sl (List.take m ys) m) + (1 : Nat) + (1 : Nat)) % (90 : Nat)) %
                                (256 : Nat)) :
                            Int)]))
                  (avLen (Av.sl (List.take m ys) m))) /
              (8 : Nat))),
      Fl
        (List.take
          (avLen
                (Av.sl
                  (List.take (avLen (Av.sl (List.take m ys) m))
                    (List.take m ys ++
                      [Value.int IntKind.u8
                          (↑(((160 : Nat) + avLen (Av.sl (List.take m ys) m) % (90 : Nat)) % (256 : Nat)) : Int),
                        Value.int IntKind.u8
                          (↑(((160 : Nat) + (avLen (Av.sl (List.take m ys) m) + (1 : Nat)) % (90 : Nat)) %
                                (256 : Nat)) :
                            Int),
                        Value.int IntKind.u8
                          (↑(((160 : Nat) + (avLen (Av.sl (List.take m ys) m) + (1 : Nat) + (1 : Nat)) % (90 : Nat)) %
                                (256 : Nat)) :
                            Int)]))
                  (avLen (Av.sl (List.take m ys) m))) /
              (8 : Nat) *
            (2 : Nat))
          (rdL
            (List.take (avLen (Av.sl (List.take m ys) m))
              (List.take m ys ++
                [Value.int IntKind.u8
                    (↑(((160 : Nat) + avLen (Av.sl (List.take m ys) m) % (90 : Nat)) % (256 : Nat)) : Int),
                  Value.int IntKind.u8
                    (↑(((160 : Nat) + (avLen (Av.sl (List.take m ys) m) + (1 : Nat)) % (90 : Nat)) % (256 : Nat)) :
                      Int),
                  Value.int IntKind.u8
                    (↑(((160 : Nat) + (avLen (Av.sl (List.take m ys) m) + (1 : Nat) + (1 : Nat)) % (90 : Nat)) %
                          (256 : Nat)) :
                      Int)]))
            (0 : Nat)
            (avLen
                (Av.sl
                  (List.take (avLen (Av.sl (List.take m ys) m))
                    (List.take m ys ++
                      [Value.int IntKind.u8
                          (↑(((160 : Nat) + avLen (Av.sl (List.take m ys) m) % (90 : Nat)) % (256 : Nat)) : Int),
                        Value.int IntKind.u8
                          (↑(((160 : Nat) + (avLen (Av.sl (List.take m ys) m) + (1 : Nat)) % (90 : Nat)) %
                                (256 : Nat)) :
                            Int),
                        Value.int IntKind.u8
                          (↑(((160 : Nat) + (avLen (Av.sl (List.take m ys) m) + (1 : Nat) + (1 : Nat)) % (90 : Nat)) %
                                (256 : Nat)) :
                            Int)]))
                  (avLen (Av.sl (List.take m ys) m))) /
              (8 : Nat)))),
      capBig + (5 : Nat) = capBig + (5 : Nat),
      avLen (Av.sl (List.take m ys) m) / (8 : Nat) * (2 : Nat) ≤
        List.length (rdL (List.take m ys) (0 : Nat) (avLen (Av.sl (List.take m ys) m) / (8 : Nat))),
      (0 : Nat) < (2 : Nat),
      avLen (Av.sl (List.take m ys) m) / (8 : Nat) * (2 : Nat) ≤
        List.length (rdL (List.take m ys) (0 : Nat) (avLen (Av.sl (List.take m ys) m) / (8 : Nat))),
      Fl
        (List.take (avLen (Av.sl (List.take m ys) m) / (8 : Nat) * (2 : Nat))
          (rdL (List.take m ys) (0 : Nat) (avLen (Av.sl (List.take m ys) m) / (8 : Nat)))),
      Ints IntKind.i64
        (List.take
          (avLen
                (Av.sl
                  (List.take (avLen (Av.sl (List.take m ys) m))
                    (List.take m ys ++
                      [Value.int IntKind.u8
                          (↑(((160 : Nat) + avLen (Av.sl (List.take m ys) m) % (90 : Nat)) % (256 : Nat)) : Int),
                        Value.int IntKind.u8
                          (↑(((160 : Nat) + (avLen (Av.sl (List.take m ys) m) + (1 : Nat)) % (90 : Nat)) %
                                (256 : Nat)) :
                            Int),
                        Value.int IntKind.u8
                          (↑(((160 : Nat) + (avLen (Av.sl (List.take m ys) m) + (1 : Nat) + (1 : Nat)) % (90 : Nat)) %
                                (256 : Nat)) :
                            Int)]))
                  (avLen (Av.sl (List.take m ys) m))) /
              (8 : Nat) *
            (2 : Nat))
          (rdL
            (List.take (avLen (Av.sl (List.take m ys) m))
              (List.take m ys ++
                [Value.int IntKind.u8
                    (↑(((160 : Nat) + avLen (Av.sl (List.take m ys) m) % (90 : Nat)) % (256 : Nat)) : Int),
                  Value.int IntKind.u8
                    (↑(((160 : Nat) + (avLen (Av.sl (List.take m ys) m) + (1 : Nat)) % (90 : Nat)) % (256 : Nat)) :
                      Int),
                  Value.int IntKind.u8
                    (↑(((160 : Nat) + (avLen (Av.sl (List.take m ys) m) + (1 : Nat) + (1 : Nat)) % (90 : Nat)) %
                          (256 : Nat)) :
                      Int)]))
            (0 : Nat)
            (avLen
                (Av.sl
                  (List.take (avLen (Av.sl (List.take m ys) m))
                    (List.take m ys ++
                      [Value.int IntKind.u8
                          (↑(((160 : Nat) + avLen (Av.sl (List.take m ys) m) % (90 : Nat)) % (256 : Nat)) : Int),
                        Value.int IntKind.u8
                          (↑(((160 : Nat) + (avLen (Av.sl (List.take m ys) m) + (1 : Nat)) % (90 : Nat)) %
                                (256 : Nat)) :
                            Int),
                        Value.int IntKind.u8
                          (↑(((160 : Nat) + (avLen (Av.sl (List.take m ys) m) + (1 : Nat) + (1 : Nat)) % (90 : Nat)) %
                                (256 : Nat)) :
                            Int)]))
                  (avLen (Av.sl (List.take m ys) m))) /
              (8 : Nat)))),
      List.take (avLen (Av.sl (List.take m ys) m) / (8 : Nat) * (2 : Nat))
          (rdL (List.take m ys) (0 : Nat) (avLen (Av.sl (List.take m ys) m) / (8 : Nat))) =
        List.take
          (avLen
                (Av.sl
                  (List.take (avLen (Av.sl (List.take m ys) m))
                    (List.take m ys ++
                      [Value.int IntKind.u8
                          (↑(((160 : Nat) + avLen (Av.sl (List.take m ys) m) % (90 : Nat)) % (256 : Nat)) : Int),
                        Value.int IntKind.u8
                          (↑(((160 : Nat) + (avLen (Av.sl (List.take m ys) m) + (1 : Nat)) % (90 : Nat)) %
                                (256 : Nat)) :
                            Int),
                        Value.int IntKind.u8
                          (↑(((160 : Nat) + (avLen (Av.sl (List.take m ys) m) + (1 : Nat) + (1 : Nat)) % (90 : Nat)) %
                                (256 : Nat)) :
                            Int)]))
                  (avLen (Av.sl (List.take m ys) m))) /
              (8 : Nat) *
            (2 : Nat))
          (rdL
            (List.take (avLen (Av.sl (List.take m ys) m))
              (List.take m ys ++
                [Value.int IntKind.u8
                    (↑(((160 : Nat) + avLen (Av.sl (List.take m ys) m) % (90 : Nat)) % (256 : Nat)) : Int),
                  Value.int IntKind.u8
                    (↑(((160 : Nat) + (avLen (Av.sl (List.take m ys) m) + (1 : Nat)) % (90 : Nat)) % (256 : Nat)) :
                      Int),
                  Value.int IntKind.u8
                    (↑(((160 : Nat) + (avLen (Av.sl (List.take m ys) m) + (1 : Nat) + (1 : Nat)) % (90 : Nat)) %
                          (256 : Nat)) :
                      Int)]))
            (0 : Nat)
            (avLen
                (Av.sl
                  (List.take (avLen (Av.sl (List.take m ys) m))
                    (List.take m ys ++
                      [Value.int IntKind.u8
                          (↑(((160 : Nat) + avLen (Av.sl (List.take m ys) m) % (90 : Nat)) % (256 : Nat)) : Int),
                        Value.int IntKind.u8
                          (↑(((160 : Nat) + (avLen (Av.sl (List.take m ys) m) + (1 : Nat)) % (90 : Nat)) %
                                (256 : Nat)) :
                            Int),
                        Value.int IntKind.u8
                          (↑(((160 : Nat) + (avLen (Av.sl (List.take m ys) m) + (1 : Nat) + (1 : Nat)) % (90 : Nat)) %
                                (256 : Nat)) :
                            Int)]))
                  (avLen (Av.sl (List.take m ys) m))) /
              (8 : Nat))),
      avLen
          (Av.sl
            (List.take (avLen (Av.sl (List.take m ys) m) / (8 : Nat) * (2 : Nat))
              (rdL (List.take m ys) (0 : Nat) (avLen (Av.sl (List.take m ys) m) / (8 : Nat))))
            (avLen (Av.sl (List.take m ys) m) / (8 : Nat))) =
        avLen
          (Av.sl
            (List.take
              (avLen
                    (Av.sl
                      (List.take (avLen (Av.sl (List.take m ys) m))
                        (List.take m ys ++
                          [Value.int IntKind.u8
                              (↑(((160 : Nat) + avLen (Av.sl (List.take m ys) m) % (90 : Nat)) % (256 : Nat)) : Int),
                            Value.int IntKind.u8
                              (↑(((160 : Nat) + (avLen (Av.sl (List.take m ys) m) + (1 : Nat)) % (90 : Nat)) %
                                    (256 : Nat)) :
                                Int),
                            Value.int IntKind.u8
                              (↑(((160 : Nat) +
                                      (avLen (Av.sl (List.take m ys) m) + (1 : Nat) + (1 : Nat)) % (90 : Nat)) %
                                    (256 : Nat)) :
                                Int)]))
                      (avLen (Av.sl (List.take m ys) m))) /
                  (8 : Nat) *
                (2 : Nat))
              (rdL
                (List.take (avLen (Av.sl (List.take m ys) m))
                  (List.take m ys ++
                    [Value.int IntKind.u8
                        (↑(((160 : Nat) + avLen (Av.sl (List.take m ys) m) % (90 : Nat)) % (256 : Nat)) : Int),
                      Value.int IntKind.u8
                        (↑(((160 : Nat) + (avLen (Av.sl (List.take m ys) m) + (1 : Nat)) % (90 : Nat)) % (256 : Nat)) :
                          Int),
                      Value.int IntKind.u8
                        (↑(((160 : Nat) + (avLen (Av.sl (List.take m ys) m) + (1 : Nat) + (1 : Nat)) % (90 : Nat)) %
                              (256 : Nat)) :
                          Int)]))
                (0 : Nat)
                (avLen
                    (Av.sl
                      (List.take (avLen (Av.sl (List.take m ys) m))
                        (List.take m ys ++
                          [Value.int IntKind.u8
                              (↑(((160 : Nat) + avLen (Av.sl (List.take m ys) m) % (90 : Nat)) % (256 : Nat)) : Int),
                            Value.int IntKind.u8
                              (↑(((160 : Nat) + (avLen (Av.sl (List.take m ys) m) + (1 : Nat)) % (90 : Nat)) %
                                    (256 : Nat)) :
                                Int),
                            Value.int IntKind.u8
                              (↑(((160 : Nat) +
                                      (avLen (Av.sl (List.take m ys) m) + (1 : Nat) + (1 : Nat)) % (90 : Nat)) %
                                    (256 : Nat)) :
                                Int)]))
                      (avLen (Av.sl (List.take m ys) m))) /
                  (8 : Nat))))
            (avLen
                (Av.sl
                  (List.take (avLen (Av.sl (List.take m ys) m))
                    (List.take m ys ++
                      [Value.int IntKind.u8
                          (↑(((160 : Nat) + avLen (Av.sl (List.take m ys) m) % (90 : Nat)) % (256 : Nat)) : Int),
                        Value.int IntKind.u8
                          (↑(((160 : Nat) + (avLen (Av.sl (List.take m ys) m) + (1 : Nat)) % (90 : Nat)) %
                                (256 : Nat)) :
                            Int),
                        Value.int IntKind.u8
                          (↑(((160 : Nat) + (avLen (Av.sl (List.take m ys) m) + (1 : Nat) + (1 : Nat)) % (90 : Nat)) %
                                (256 : Nat)) :
                            Int)]))
                  (avLen (Av.sl (List.take m ys) m))) /
              (8 : Nat))),
      avLen (Av.sl (List.take m ys) m) + (3 : Nat) ≤ (9223372036854775807 : Nat),
      avLen (Av.sl (List.take m ys) m) + (3 : Nat) ≤
        List.length
          (List.take m ys ++
            [Value.int IntKind.u8
                (↑(((160 : Nat) + avLen (Av.sl (List.take m ys) m) % (90 : Nat)) % (256 : Nat)) : Int),
              Value.int IntKind.u8
                (↑(((160 : Nat) + (avLen (Av.sl (List.take m ys) m) + (1 : Nat)) % (90 : Nat)) % (256 : Nat)) : Int),
              Value.int IntKind.u8
                (↑(((160 : Nat) + (avLen (Av.sl (List.take m ys) m) + (1 : Nat) + (1 : Nat)) % (90 : Nat)) %
                      (256 : Nat)) :
                  Int)]),
      Fl
        (List.take (avLen (Av.sl (List.take m ys) m) + (3 : Nat))
          (List.take m ys ++
            [Value.int IntKind.u8
                (↑(((160 : Nat) + avLen (Av.sl (List.take m ys) m) % (90 : Nat)) % (256 : Nat)) : Int),
              Value.int IntKind.u8
                (↑(((160 : Nat) + (avLen (Av.sl (List.take m ys) m) + (1 : Nat)) % (90 : Nat)) % (256 : Nat)) : Int),
              Value.int IntKind.u8
                (↑(((160 : Nat) + (avLen (Av.sl (List.take m ys) m) + (1 : Nat) + (1 : Nat)) % (90 : Nat)) %
                      (256 : Nat)) :
                  Int)])),
      m ≤ d ∧ d ≤ (9223372036854775807 : Nat), m ≤ List.length ys, Fl (List.take m ys),
      Byts
        (List.take (avLen (Av.sl (List.take m ys) m) + (3 : Nat))
          (List.take m ys ++
            [Value.int IntKind.u8
                (↑(((160 : Nat) + avLen (Av.sl (List.take m ys) m) % (90 : Nat)) % (256 : Nat)) : Int),
              Value.int IntKind.u8
                (↑(((160 : Nat) + (avLen (Av.sl (List.take m ys) m) + (1 : Nat)) % (90 : Nat)) % (256 : Nat)) : Int),
              Value.int IntKind.u8
                (↑(((160 : Nat) + (avLen (Av.sl (List.take m ys) m) + (1 : Nat) + (1 : Nat)) % (90 : Nat)) %
                      (256 : Nat)) :
                  Int)])),
      Byts (List.take m ys), avLen (Av.sl (List.take m ys) m) = avLen (Av.sl (List.take m ys) m),
      avLen (Av.sl (List.take m ys) m) + (3 : Nat) = avLen (Av.sl (List.take m ys) m) + (3 : Nat),
      avLen (Av.sl (List.take m ys) m) ≤ (1099511627776 : Nat),
      decide
          (intsOf
              (List.take (avLen (Av.sl (List.take m ys) m) + (3 : Nat))
                (List.take m ys ++
                  [Value.int IntKind.u8
                      (↑(((160 : Nat) + avLen (Av.sl (List.take m ys) m) % (90 : Nat)) % (256 : Nat)) : Int),
                    Value.int IntKind.u8
                      (↑(((160 : Nat) + (avLen (Av.sl (List.take m ys) m) + (1 : Nat)) % (90 : Nat)) % (256 : Nat)) :
                        Int),
                    Value.int IntKind.u8
                      (↑(((160 : Nat) + (avLen (Av.sl (List.take m ys) m) + (1 : Nat) + (1 : Nat)) % (90 : Nat)) %
                            (256 : Nat)) :
                        Int)])) =
            intsOf
              (List.take m ys ++
                [Value.int IntKind.u8
                    (↑(((160 : Nat) + avLen (Av.sl (List.take m ys) m) % (90 : Nat)) % (256 : Nat)) : Int),
                  Value.int IntKind.u8
                    (↑(((160 : Nat) + (avLen (Av.sl (List.take m ys) m) + (1 : Nat)) % (90 : Nat)) % (256 : Nat)) :
                      Int),
                  Value.int IntKind.u8
                    (↑(((160 : Nat) + (avLen (Av.sl (List.take m ys) m) + (1 : Nat) + (1 : Nat)) % (90 : Nat)) %
                          (256 : Nat)) :
                      Int)])) =
        true]) := by kernel_rfl
theorem cb_n_ok (ys : List Value) (m d : Nat) : runZ (cbV 4) Try.prog 5 7 [.slice none 0 0, cbB m d] [(1, ⟨.old, ys⟩)] 2 ([false, false] ++ [false, true] ++ [false, true] ++ [false, false, true, false] ++ [false, false, true, false] ++ [true, true]) =
Res.ok
  ((Value.bool true, [((1 : Nat), Rw.mk Kd.old ys)], (6 : Nat), []), [],
    [false = false, decide ((↑m : Int) > (2000 : Int)) = false, m ≤ d ∧ d ≤ (9223372036854775807 : Nat),
      m ≤ List.length ys, Fl (List.take m ys), Byts (List.take m ys),
      avLen (Av.sl (List.take m ys) m) ≤ (1099511627776 : Nat),
      (0 : Nat) ≤ (0 : Nat) ∧ (0 : Nat) ≤ (9223372036854775807 : Nat), (0 : Nat) ≤ (0 : Nat), Fl [],
      Ints IntKind.i64 [], (0 : Nat) = (0 : Nat), Ints IntKind.i64 [], (0 : Nat) = (0 : Nat),
      avLen (Av.sl (List.take m ys) m) ≤ avLen (Av.sl (List.take m ys) m) + (3 : Nat) ∧
        avLen (Av.sl (List.take m ys) m) + (3 : Nat) ≤ (9223372036854775807 : Nat),
      avLen (Av.sl (List.take m ys) m) ≤
        List.length
          (List.take m ys ++
            [Value.int IntKind.u8
                (↑(((160 : Nat) + avLen (Av.sl (List.take m ys) m) % (90 : Nat)) % (256 : Nat)) : Int),
              Value.int IntKind.u8
                (↑(((160 : Nat) + (avLen (Av.sl (List.take m ys) m) + (1 : Nat)) % (90 : Nat)) % (256 : Nat)) : Int),
              Value.int IntKind.u8
                (↑(((160 : Nat) + (avLen (Av.sl (List.take m ys) m) + (1 : Nat) + (1 : Nat)) % (90 : Nat)) %
                      (256 : Nat)) :
                  Int)]),
      Fl
        (List.take (avLen (Av.sl (List.take m ys) m))
          (List.take m ys ++
            [Value.int IntKind.u8
                (↑(((160 : Nat) + avLen (Av.sl (List.take m ys) m) % (90 : Nat)) % (256 : Nat)) : Int),
              Value.int IntKind.u8
                (↑(((160 : Nat) + (avLen (Av.sl (List.take m ys) m) + (1 : Nat)) % (90 : Nat)) % (256 : Nat)) : Int),
              Value.int IntKind.u8
                (↑(((160 : Nat) + (avLen (Av.sl (List.take m ys) m) + (1 : Nat) + (1 : Nat)) % (90 : Nat)) %
                      (256 : Nat)) :
                  Int)])),
      Byts
        (List.take (avLen (Av.sl (List.take m ys) m))
          (List.take m ys ++
            [Value.int IntKind.u8
                (↑(((160 : Nat) + avLen (Av.sl (List.take m ys) m) % (90 : Nat)) % (256 : Nat)) : Int),
              Value.int IntKind.u8
                (↑(((160 : Nat) + (avLen (Av.sl (List.take m ys) m) + (1 : Nat)) % (90 : Nat)) % (256 : Nat)) : Int),
              Value.int IntKind.u8
                (↑(((160 : Nat) + (avLen (Av.sl (List.take m ys) m) + (1 : Nat) + (1 : Nat)) % (90 : Nat)) %
                      (256 : Nat)) :
                  Int)])),
      avLen
            (Av.sl
              (List.take (avLen (Av.sl (List.take m ys) m))
                (List.take m ys ++
                  [Value.int IntKind.u8
                      (↑(((160 : Nat) + avLen (Av.sl (List.take m ys) m) % (90 : Nat)) % (256 : Nat)) : Int),
                    Value.int IntKind.u8
                      (↑(((160 : Nat) + (avLen (Av.sl (List.take m ys) m) + (1 : Nat)) % (90 : Nat)) % (256 : Nat)) :
                        Int),
                    Value.int IntKind.u8
                      (↑(((160 : Nat) + (avLen (Av.sl (List.take m ys) m) + (1 : Nat) + (1 : Nat)) % (90 : Nat)) %
                            (256 : Nat)) :
                        Int)]))
              (avLen (Av.sl (List.take m ys) m))) %
          (8 : Nat) =
        (0 : Nat),
      decide
          (avLen
              (Av.sl
                (List.take (avLen (Av.sl (List.take m ys) m))
                  (List.take m ys ++
                    [Value.int IntKind.u8
                        (↑(((160 : Nat) + avLen (Av.sl (List.take m ys) m) % (90 : Nat)) % (256 : Nat)) : Int),
                      Value.int IntKind.u8
                        (↑(((160 : Nat) + (avLen (Av.sl (List.take m ys) m) + (1 : Nat)) % (90 : Nat)) % (256 : Nat)) :
                          Int),
                      Value.int IntKind.u8
                        (↑(((160 : Nat) + (avLen (Av.sl (List.take m ys) m) + (1 : Nat) + (1 : Nat)) % (90 : Nat)) %
                              (256 : Nat)) :
                          Int)]))
                (avLen (Av.sl (List.take m ys) m))) =
            (0 : Nat)) =
        false,
      avLen
          (Av.sl
            (List.take (avLen (Av.sl (List.take m ys) m))
              (List.take m ys ++
                [Value.int IntKind.u8
                    (↑(((160 : Nat) + avLen (Av.sl (List.take m ys) m) % (90 : Nat)) % (256 : Nat)) : Int),
                  Value.int IntKind.u8
                    (↑(((160 : Nat) + (avLen (Av.sl (List.take m ys) m) + (1 : Nat)) % (90 : Nat)) % (256 : Nat)) :
                      Int),
                  Value.int IntKind.u8
                    (↑(((160 : Nat) + (avLen (Av.sl (List.take m ys) m) + (1 : Nat) + (1 : Nat)) % (90 : Nat)) %
                          (256 : Nat)) :
                      Int)]))
            (avLen (Av.sl (List.take m ys) m))) ≤
        (4096 : Nat),
      rdOk
          (List.take (avLen (Av.sl (List.take m ys) m))
            (List.take m ys ++
              [Value.int IntKind.u8
                  (↑(((160 : Nat) + avLen (Av.sl (List.take m ys) m) % (90 : Nat)) % (256 : Nat)) : Int),
                Value.int IntKind.u8
                  (↑(((160 : Nat) + (avLen (Av.sl (List.take m ys) m) + (1 : Nat)) % (90 : Nat)) % (256 : Nat)) : Int),
                Value.int IntKind.u8
                  (↑(((160 : Nat) + (avLen (Av.sl (List.take m ys) m) + (1 : Nat) + (1 : Nat)) % (90 : Nat)) %
                        (256 : Nat)) :
                    Int)]))
          (0 : Nat)
          (avLen
              (Av.sl
                (List.take (avLen (Av.sl (List.take m ys) m))
                  (List.take m ys ++
                    [Value.int IntKind.u8
                        (↑(((160 : Nat) + avLen (Av.sl (List.take m ys) m) % (90 : Nat)) % (256 : Nat)) : Int),
                      Value.int IntKind.u8
                        (↑(((160 : Nat) + (avLen (Av.sl (List.take m ys) m) + (1 : Nat)) % (90 : Nat)) % (256 : Nat)) :
                          Int),
                      Value.int IntKind.u8
                        (↑(((160 : Nat) + (avLen (Av.sl (List.take m ys) m) + (1 : Nat) + (1 : Nat)) % (90 : Nat)) %
                              (256 : Nat)) :
                          Int)]))
                (avLen (Av.sl (List.take m ys) m))) /
            (8 : Nat)) =
        true,
      decide
          (avLen
                (Av.sl
                  (List.take (avLen (Av.sl (List.take m ys) m))
                    (List.take m ys ++
                      [Value.int IntKind.u8
                          (↑(((160 : Nat) + avLen (Av.sl (List.take m ys) m) % (90 : Nat)) % (256 : Nat)) : Int),
                        Value.int IntKind.u8
                          (↑(((160 : Nat) + (avLen (Av.sl (List.take m ys) m) + (1 : Nat)) % (90 : Nat)) %
                                (256 : Nat)) :
                            Int),
                        Value.int IntKind.u8
                          (↑(((160 : Nat) + (avLen (Av.sl (List.take m ys) m) + (1 : Nat) + (1 : Nat)) % (90 : Nat)) %
                                (256 : Nat)) :
                            Int)]))
                  (avLen (Av.sl (List.take m ys) m))) /
              (8 : Nat) ≤
            (128 : Nat)) =
        true,
      m ≤ d ∧ d ≤ (9223372036854775807 : Nat), m ≤ List.length ys, Fl (List.take m ys), Byts (List.take m ys),
      avLen (Av.sl (List.take m ys) m) % (8 : Nat) = (0 : Nat),
      decide (avLen (Av.sl (List.take m ys) m) = (0 : Nat)) = false, avLen (Av.sl (List.take m ys) m) ≤ (4096 : Nat),
      rdOk (List.take m ys) (0 : Nat) (avLen (Av.sl (List.take m ys) m) / (8 : Nat)) = true,
      decide (avLen (Av.sl (List.take m ys) m) / (8 : Nat) ≤ (128 : Nat)) = true, Byts [], Byts [], true = true,
      capBig + (4 : Nat) = capBig + (4 : Nat),
      avLen
              (Av.sl
                (List.take (avLen (Av.sl (List.take m ys) m))
                  (List.take m ys ++
                    [Value.int IntKind.u8
                        (↑(((160 : Nat) + avLen (Av.sl (List.take m ys) m) % (90 : Nat)) % (256 : Nat)) : Int),
                      Value.int IntKind.u8
                        (↑(((160 : Nat) + (avLen (Av.sl (List.take m ys) m) + (1 : Nat)) % (90 : Nat)) % (256 : Nat)) :
                          Int),
                      Value.int IntKind.u8
                        (↑(((160 : Nat) + (avLen (Av.sl (List.take m ys) m) + (1 : Nat) + (1 : Nat)) % (90 : Nat)) %
                              (256 : Nat)) :
                          Int)]))
                (avLen (Av.sl (List.take m ys) m))) /
            (8 : Nat) *
          (2 : Nat) ≤
        List.length
          (rdL
            (List.take (avLen (Av.sl (List.take m ys) m))
              (List.take m ys ++
                [Value.int IntKind.u8
                    (↑(((160 : Nat) + avLen (Av.sl (List.take m ys) m) % (90 : Nat)) % (256 : Nat)) : Int),
                  Value.int IntKind.u8
                    (↑(((160 : Nat) + (avLen (Av.sl (List.take m ys) m) + (1 : Nat)) % (90 : Nat)) % (256 : Nat)) :
                      Int),
                  Value.int IntKind.u8
                    (↑(((160 : Nat) + (avLen (Av.sl (List.take m ys) m) + (1 : Nat) + (1 : Nat)) % (90 : Nat)) %
                          (256 : Nat)) :
                      Int)]))
            (0 : Nat)
            (avLen
                (Av.sl
                  (List.take (avLen (Av.sl (List.take m ys) m))
                    (List.take m ys ++
                      [Value.int IntKind.u8
                          (↑(((160 : Nat) + avLen (Av.sl (List.take m ys) m) % (90 : Nat)) % (256 : Nat)) : Int),
                        Value.int IntKind.u8
                          (↑(((160 : Nat) + (avLen (Av.sl (List.take m ys) m) + (1 : Nat)) % (90 : Nat)) %
                                (256 : Nat)) :
                            Int),
                        Value.int IntKind.u8
                          (↑(((160 : Nat) + (avLen (Av.sl (List.take m ys) m) + (1 : Nat) + (1 : Nat)) % (90 : Nat)) %
                                (256 : Nat)) :
                            Int)]))
                  (avLen (Av.sl (List.take m ys) m))) /
              (8 : Nat))),
      (0 : Nat) < (2 : Nat),
      avLen
              (Av.sl
                (List.take (avLen (Av.sl (List.take m ys) m))
                  (List.take m ys ++
                    [Value.int IntKind.u8
                        (↑(((160 : Nat) + avLen (Av.sl (List.take m ys) m) % (90 : Nat)) % (256 : Nat)) : Int),
                      Value.int IntKind.u8
                        (↑(((160 : Nat) + (avLen (Av.sl (List.take m ys) m) + (1 : Nat)) % (90 : Nat)) % (256 : Nat)) :
                          Int),
                      Value.int IntKind.u8
                        (↑(((160 : Nat) + (avLen (Av.sl (List.take m ys) m) + (1 : Nat) + (1 : Nat)) % (90 : Nat)) %
                              (256 : Nat)) :
                          Int)]))
                (avLen (Av.sl (List.take m ys) m))) /
            (8 : Nat) *
          (2 : Nat) ≤
        List.length
          (rdL
            (List.take (avLen (Av.sl (List.take m ys) m))
              (List.take m ys ++
                [Value.int IntKind.u8
                    (↑(((160 : Nat) + avLen (Av.sl (List.take m ys) m) % (90 : Nat)) % (256 : Nat)) : Int),
                  Value.int IntKind.u8
                    (↑(((160 : Nat) + (avLen (Av.sl (List.take m ys) m) + (1 : Nat)) % (90 : Nat)) % (256 : Nat)) :
                      Int),
                  Value.int IntKind.u8
                    (↑(((160 : Nat) + (avLen (Av.sl (List.take m ys) m) + (1 : Nat) + (1 : Nat)) % (90 : Nat)) %
                          (256 : Nat)) :
                      Int)]))
            (0 : Nat)
            (avLen
                (Av.sl
                  (List.take (avLen (Av.sl (List.take m ys) m))
                    (List.take m ys ++
                      [Value.int IntKind.u8
                          (↑(((160 : Nat) + avLen (Av.sl (List.take m ys) m) % (90 : Nat)) % (256 : Nat)) : Int),
                        Value.int IntKind.u8
                          (↑(((160 : Nat) + (avLen (Av.sl (List.take m ys) m) + (1 : Nat)) % (90 : Nat)) %
                                (256 : Nat)) :
                            Int),
                        Value.int IntKind.u8
                          (↑(((160 : Nat) + (avLen (Av.sl (List.take m ys) m) + (1 : Nat) + (1 : Nat)) % (90 : Nat)) %
                                (256 : Nat)) :
                            Int)]))
                  (avLen (Av.sl (List.take m ys) m))) /
              (8 : Nat))),
      Fl
        (List.take
          (avLen
                (Av.sl
                  (List.take (avLen (Av.sl (List.take m ys) m))
                    (List.take m ys ++
                      [Value.int IntKind.u8
                          (↑(((160 : Nat) + avLen (Av.sl (List.take m ys) m) % (90 : Nat)) % (256 : Nat)) : Int),
                        Value.int IntKind.u8
                          (↑(((160 : Nat) + (avLen (Av.sl (List.take m ys) m) + (1 : Nat)) % (90 : Nat)) %
                                (256 : Nat)) :
                            Int),
                        Value.int IntKind.u8
                          (↑(((160 : Nat) + (avLen (Av.sl (List.take m ys) m) + (1 : Nat) + (1 : Nat)) % (90 : Nat)) %
                                (256 : Nat)) :
                            Int)]))
                  (avLen (Av.sl (List.take m ys) m))) /
              (8 : Nat) *
            (2 : Nat))
          (rdL
            (List.take (avLen (Av.sl (List.take m ys) m))
              (List.take m ys ++
                [Value.int IntKind.u8
                    (↑(((160 : Nat) + avLen (Av.sl (List.take m ys) m) % (90 : Nat)) % (256 : Nat)) : Int),
                  Value.int IntKind.u8
                    (↑(((160 : Nat) + (avLen (Av.sl (List.take m ys) m) + (1 : Nat)) % (90 : Nat)) % (256 : Nat)) :
                      Int),
                  Value.int IntKind.u8
                    (↑(((160 : Nat) + (avLen (Av.sl (List.take m ys) m) + (1 : Nat) + (1 : Nat)) % (90 : Nat)) %
                          (256 : Nat)) :
                      Int)]))
            (0 : Nat)
            (avLen
                (Av.sl
                  (List.take (avLen (Av.sl (List.take m ys) m))
                    (List.take m ys ++
                      [Value.int IntKind.u8
                          (↑(((160 : Nat) + avLen (Av.sl (List.take m ys) m) % (90 : Nat)) % (256 : Nat)) : Int),
                        Value.int IntKind.u8
                          (↑(((160 : Nat) + (avLen (Av.sl (List.take m ys) m) + (1 : Nat)) % (90 : Nat)) %
                                (256 : Nat)) :
                            Int),
                        Value.int IntKind.u8
                          (↑(((160 : Nat) + (avLen (Av.sl (List.take m ys) m) + (1 : Nat) + (1 : Nat)) % (90 : Nat)) %
                                (256 : Nat)) :
                            Int)]))
                  (avLen (Av.sl (List.take m ys) m))) /
              (8 : Nat)))),
      capBig + (5 : Nat) = capBig + (5 : Nat),
      avLen (Av.sl (List.take m ys) m) / (8 : Nat) * (2 : Nat) ≤
        List.length (rdL (List.take m ys) (0 : Nat) (avLen (Av.sl (List.take m ys) m) / (8 : Nat))),
      (0 : Nat) < (2 : Nat),
      avLen (Av.sl (List.take m ys) m) / (8 : Nat) * (2 : Nat) ≤
        List.length (rdL (List.take m ys) (0 : Nat) (avLen (Av.sl (List.take m ys) m) / (8 : Nat))),
      Fl
        (List.take (avLen (Av.sl (List.take m ys) m) / (8 : Nat) * (2 : Nat))
          (rdL (List.take m ys) (0 : Nat) (avLen (Av.sl (List.take m ys) m) / (8 : Nat)))),
      Ints IntKind.i64
        (List.take
          (avLen
                (Av.sl
                  (List.take (avLen (Av.sl (List.take m ys) m))
                    (List.take m ys ++
                      [Value.int IntKind.u8
                          (↑(((160 : Nat) + avLen (Av.sl (List.take m ys) m) % (90 : Nat)) % (256 : Nat)) : Int),
                        Value.int IntKind.u8
                          (↑(((160 : Nat) + (avLen (Av.sl (List.take m ys) m) + (1 : Nat)) % (90 : Nat)) %
                                (256 : Nat)) :
                            Int),
                        Value.int IntKind.u8
                          (↑(((160 : Nat) + (avLen (Av.sl (List.take m ys) m) + (1 : Nat) + (1 : Nat)) % (90 : Nat)) %
                                (256 : Nat)) :
                            Int)]))
                  (avLen (Av.sl (List.take m ys) m))) /
              (8 : Nat) *
            (2 : Nat))
          (rdL
            (List.take (avLen (Av.sl (List.take m ys) m))
              (List.take m ys ++
                [Value.int IntKind.u8
                    (↑(((160 : Nat) + avLen (Av.sl (List.take m ys) m) % (90 : Nat)) % (256 : Nat)) : Int),
                  Value.int IntKind.u8
                    (↑(((160 : Nat) + (avLen (Av.sl (List.take m ys) m) + (1 : Nat)) % (90 : Nat)) % (256 : Nat)) :
                      Int),
                  Value.int IntKind.u8
                    (↑(((160 : Nat) + (avLen (Av.sl (List.take m ys) m) + (1 : Nat) + (1 : Nat)) % (90 : Nat)) %
                          (256 : Nat)) :
                      Int)]))
            (0 : Nat)
            (avLen
                (Av.sl
                  (List.take (avLen (Av.sl (List.take m ys) m))
                    (List.take m ys ++
                      [Value.int IntKind.u8
                          (↑(((160 : Nat) + avLen (Av.sl (List.take m ys) m) % (90 : Nat)) % (256 : Nat)) : Int),
                        Value.int IntKind.u8
                          (↑(((160 : Nat) + (avLen (Av.sl (List.take m ys) m) + (1 : Nat)) % (90 : Nat)) %
                                (256 : Nat)) :
                            Int),
                        Value.int IntKind.u8
                          (↑(((160 : Nat) + (avLen (Av.sl (List.take m ys) m) + (1 : Nat) + (1 : Nat)) % (90 : Nat)) %
                                (256 : Nat)) :
                            Int)]))
                  (avLen (Av.sl (List.take m ys) m))) /
              (8 : Nat)))),
      List.take (avLen (Av.sl (List.take m ys) m) / (8 : Nat) * (2 : Nat))
          (rdL (List.take m ys) (0 : Nat) (avLen (Av.sl (List.take m ys) m) / (8 : Nat))) =
        List.take
          (avLen
                (Av.sl
                  (List.take (avLen (Av.sl (List.take m ys) m))
                    (List.take m ys ++
                      [Value.int IntKind.u8
                          (↑(((160 : Nat) + avLen (Av.sl (List.take m ys) m) % (90 : Nat)) % (256 : Nat)) : Int),
                        Value.int IntKind.u8
                          (↑(((160 : Nat) + (avLen (Av.sl (List.take m ys) m) + (1 : Nat)) % (90 : Nat)) %
                                (256 : Nat)) :
                            Int),
                        Value.int IntKind.u8
                          (↑(((160 : Nat) + (avLen (Av.sl (List.take m ys) m) + (1 : Nat) + (1 : Nat)) % (90 : Nat)) %
                                (256 : Nat)) :
                            Int)]))
                  (avLen (Av.sl (List.take m ys) m))) /
              (8 : Nat) *
            (2 : Nat))
          (rdL
            (List.take (avLen (Av.sl (List.take m ys) m))
              (List.take m ys ++
                [Value.int IntKind.u8
                    (↑(((160 : Nat) + avLen (Av.sl (List.take m ys) m) % (90 : Nat)) % (256 : Nat)) : Int),
                  Value.int IntKind.u8
                    (↑(((160 : Nat) + (avLen (Av.sl (List.take m ys) m) + (1 : Nat)) % (90 : Nat)) % (256 : Nat)) :
                      Int),
                  Value.int IntKind.u8
                    (↑(((160 : Nat) + (avLen (Av.sl (List.take m ys) m) + (1 : Nat) + (1 : Nat)) % (90 : Nat)) %
                          (256 : Nat)) :
                      Int)]))
            (0 : Nat)
            (avLen
                (Av.sl
                  (List.take (avLen (Av.sl (List.take m ys) m))
                    (List.take m ys ++
                      [Value.int IntKind.u8
                          (↑(((160 : Nat) + avLen (Av.sl (List.take m ys) m) % (90 : Nat)) % (256 : Nat)) : Int),
                        Value.int IntKind.u8
                          (↑(((160 : Nat) + (avLen (Av.sl (List.take m ys) m) + (1 : Nat)) % (90 : Nat)) %
                                (256 : Nat)) :
                            Int),
                        Value.int IntKind.u8
                          (↑(((160 : Nat) + (avLen (Av.sl (List.take m ys) m) + (1 : Nat) + (1 : Nat)) % (90 : Nat)) %
                                (256 : Nat)) :
                            Int)]))
                  (avLen (Av.sl (List.take m ys) m))) /
              (8 : Nat))),
      avLen
          (Av.sl
            (List.take (avLen (Av.sl (List.take m ys) m) / (8 : Nat) * (2 : Nat))
              (rdL (List.take m ys) (0 : Nat) (avLen (Av.sl (List.take m ys) m) / (8 : Nat))))
            (avLen (Av.sl (List.take m ys) m) / (8 : Nat))) =
        avLen
          (Av.sl
            (List.take
              (avLen
                    (Av.sl
                      (List.take (avLen (Av.sl (List.take m ys) m))
                        (List.take m ys ++
                          [Value.int IntKind.u8
                              (↑(((160 : Nat) + avLen (Av.sl (List.take m ys) m) % (90 : Nat)) % (256 : Nat)) : Int),
                            Value.int IntKind.u8
                              (↑(((160 : Nat) + (avLen (Av.sl (List.take m ys) m) + (1 : Nat)) % (90 : Nat)) %
                                    (256 : Nat)) :
                                Int),
                            Value.int IntKind.u8
                              (↑(((160 : Nat) +
                                      (avLen (Av.sl (List.take m ys) m) + (1 : Nat) + (1 : Nat)) % (90 : Nat)) %
                                    (256 : Nat)) :
                                Int)]))
                      (avLen (Av.sl (List.take m ys) m))) /
                  (8 : Nat) *
                (2 : Nat))
              (rdL
                (List.take (avLen (Av.sl (List.take m ys) m))
                  (List.take m ys ++
                    [Value.int IntKind.u8
                        (↑(((160 : Nat) + avLen (Av.sl (List.take m ys) m) % (90 : Nat)) % (256 : Nat)) : Int),
                      Value.int IntKind.u8
                        (↑(((160 : Nat) + (avLen (Av.sl (List.take m ys) m) + (1 : Nat)) % (90 : Nat)) % (256 : Nat)) :
                          Int),
                      Value.int IntKind.u8
                        (↑(((160 : Nat) + (avLen (Av.sl (List.take m ys) m) + (1 : Nat) + (1 : Nat)) % (90 : Nat)) %
                              (256 : Nat)) :
                          Int)]))
                (0 : Nat)
                (avLen
                    (Av.sl
                      (List.take (avLen (Av.sl (List.take m ys) m))
                        (List.take m ys ++
                          [Value.int IntKind.u8
                              (↑(((160 : Nat) + avLen (Av.sl (List.take m ys) m) % (90 : Nat)) % (256 : Nat)) : Int),
                            Value.int IntKind.u8
                              (↑(((160 : Nat) + (avLen (Av.sl (List.take m ys) m) + (1 : Nat)) % (90 : Nat)) %
                                    (256 : Nat)) :
                                Int),
                            Value.int IntKind.u8
                              (↑(((160 : Nat) +
                                      (avLen (Av.sl (List.take m ys) m) + (1 : Nat) + (1 : Nat)) % (90 : Nat)) %
                                    (256 : Nat)) :
                                Int)]))
                      (avLen (Av.sl (List.take m ys) m))) /
                  (8 : Nat))))
            (avLen
                (Av.sl
                  (List.take (avLen (Av.sl (List.take m ys) m))
                    (List.take m ys ++
                      [Value.int IntKind.u8
                          (↑(((160 : Nat) + avLen (Av.sl (List.take m ys) m) % (90 : Nat)) % (256 : Nat)) : Int),
                        Value.int IntKind.u8
                          (↑(((160 : Nat) + (avLen (Av.sl (List.take m ys) m) + (1 : Nat)) % (90 : Nat)) %
                                (256 : Nat)) :
                            Int),
                        Value.int IntKind.u8
                          (↑(((160 : Nat) + (avLen (Av.sl (List.take m ys) m) + (1 : Nat) + (1 : Nat)) % (90 : Nat)) %
                                (256 : Nat)) :
                            Int)]))
                  (avLen (Av.sl (List.take m ys) m))) /
              (8 : Nat))),
      avLen (Av.sl (List.take m ys) m) + (3 : Nat) ≤ (9223372036854775807 : Nat),
      avLen (Av.sl (List.take m ys) m) + (3 : Nat) ≤
        List.length
          (List.take m ys ++
            [Value.int IntKind.u8
                (↑(((160 : Nat) + avLen (Av.sl (List.take m ys) m) % (90 : Nat)) % (256 : Nat)) : Int),
              Value.int IntKind.u8
                (↑(((160 : Nat) + (avLen (Av.sl (List.take m ys) m) + (1 : Nat)) % (90 : Nat)) % (256 : Nat)) : Int),
              Value.int IntKind.u8
                (↑(((160 : Nat) + (avLen (Av.sl (List.take m ys) m) + (1 : Nat) + (1 : Nat)) % (90 : Nat)) %
                      (256 : Nat)) :
                  Int)]),
      Fl
        (List.take (avLen (Av.sl (List.take m ys) m) + (3 : Nat))
          (List.take m ys ++
            [Value.int IntKind.u8
                (↑(((160 : Nat) + avLen (Av.sl (List.take m ys) m) % (90 : Nat)) % (256 : Nat)) : Int),
              Value.int IntKind.u8
                (↑(((160 : Nat) + (avLen (Av.sl (List.take m ys) m) + (1 : Nat)) % (90 : Nat)) % (256 : Nat)) : Int),
              Value.int IntKind.u8
                (↑(((160 : Nat) + (avLen (Av.sl (List.take m ys) m) + (1 : Nat) + (1 : Nat)) % (90 : Nat)) %
                      (256 : Nat)) :
                  Int)])),
      m ≤ d ∧ d ≤ (9223372036854775807 : Nat), m ≤ List.length ys, Fl (List.take m ys),
      Byts
        (List.take (avLen (Av.sl (List.take m ys) m) + (3 : Nat))
          (List.take m ys ++
            [Value.int IntKind.u8
                (↑(((160 : Nat) + avLen (Av.sl (List.take m ys) m) % (90 : Nat)) % (256 : Nat)) : Int),
              Value.int IntKind.u8
                (↑(((160 : Nat) + (avLen (Av.sl (List.take m ys) m) + (1 : Nat)) % (90 : Nat)) % (256 : Nat)) : Int),
              Value.int IntKind.u8
                (↑(((160 : Nat) + (avLen (Av.sl (List.take m ys) m) + (1 : Nat) + (1 : Nat)) % (90 : Nat)) %
                      (256 : Nat)) :
                  Int)])),
      Byts (List.take m ys), avLen (Av.sl (List.take m ys) m) = avLen (Av.sl (List.take m ys) m),
      avLen (Av.sl (List.take m ys) m) + (3 : Nat) = avLen (Av.sl (List.take m ys) m) + (3 : Nat),
      avLen (Av.sl (List.take m ys) m) ≤ (1099511627776 : Nat),
      decide
          (intsOf
              (List.take (avLen (Av.sl (List.take m ys) m) + (3 : Nat))
                (List.take m ys ++
                  [Value.int IntKind.u8
                      (↑(((160 : Nat) + avLen (Av.sl (List.take m ys) m) % (90 : Nat)) % (256 : Nat)) : Int),
                    Value.int IntKind.u8
                      (↑(((160 : Nat) + (avLen (Av.sl (List.take m ys) m) + (1 : Nat)) % (90 : Nat)) % (256 : Nat)) :
                        Int),
                    Value.int IntKind.u8
                      (↑(((160 : Nat) + (avLen (Av.sl (List.take m ys) m) + (1 : Nat) + (1 : Nat)) % (90 : Nat)) %
                            (256 : Nat)) :
                        Int)])) =
            intsOf
              (List.take m ys ++
                [Value.int IntKind.u8
                    (↑(((160 : Nat) + avLen (Av.sl (List.take m ys) m) % (90 : Nat)) % (256 : Nat)) : Int),
                  Value.int IntKind.u8
                    (↑(((160 : Nat) + (avLen (Av.sl (List.take m ys) m) + (1 : Nat)) % (90 : Nat)) % (256 : Nat)) :
                      Int),
                  Value.int IntKind.u8
                    (↑(((160 : Nat) + (avLen (Av.sl (List.take m ys) m) + (1 : Nat) + (1 : Nat)) % (90 : Nat)) %
                          (256 : Nat)) :
                      Int)])) =
        true]) := by kernel_rfl
theorem cb_es {ys : List Value} {m c d : Nat} (hx : Ints .i64 []) (hc : 0 ≤ c ∧ c ≤ 9223372036854775807) (hy : Byts ys) (hm : ys.length = m) (hd : m ≤ d ∧ d ≤ 9223372036854775807) (h2 : m ≤ 2000) :
    RunsTrue Try.prog 7 [cbA 0 c, cbB m d] [(0, ⟨.old, []⟩), (1, ⟨.old, ys⟩)] 2 := by
  have hX : ∀ md, XOkZ (cbV md) Try.prog := fun md => noXz_ok rfl
  have hT : ∀ md, TOkZ (cbV md) Try.prog := fun md => T_okV rfl cbT_one
  have hL : ∀ md, LOkZ (cbV md) Try.prog := fun md => noL_okV rfl
  have ex1 : True := trivial
  have exw : True := trivial
  have ey1 : ys.take m = ys := take_len hm
  have hml : (ys ++ mk3 m).length = m + 3 := by simp [mk3, hm]
  have ey2 : (ys ++ mk3 m).take m = ys := by rw [← hm, List.take_left]
  have ey3 : (ys ++ mk3 m).take (m + 3) = ys ++ mk3 m := take_len hml
  have eyr : (rdL ys 0 (m / 8)).take (m / 8 * 2) = rdL ys 0 (m / 8) := take_len (rdL_len ys (m / 8) 0)
  have f1 := fl_byts hy
  have b2 := hy.app (mk3_byts m)
  have f2 := fl_byts b2
  have i4 := rdL_Ints ys (m / 8) 0
  have f4 := i4.fl
  have lr := rdL_len ys (m / 8) 0
  unfold mk3 at ey2 ey3 hml b2 f2
  have g2 : decide ((m : Int) > 2000) = false := by simp only [decide_eq_false_iff_not]; omega
  cases k0 : decide (m % 8 = 0)
  ·
    refine ⟨_, _, _, run_tri (hX _) (hT _) (hL _) (cb_e_bad [] ys c m d) ?_ rfl⟩
    simp only [Alls, avLen, Nat.zero_add, List.take_zero, List.drop_zero, List.nil_append, List.length_nil, ex1, exw, ey1, ey2, ey3, eyr, Nat.zero_mul, Nat.zero_div]
    repeat' (first | with_reducible exact trivial | with_reducible apply And.intro)
    all_goals first | with_reducible assumption | omega | with_reducible rfl | (first | exact k0 | exact k1 | exact k3 | exact z | exact w0 | exact decide_eq_true rfl | exact Byts.nil | exact Fl.of rfl | exact Ints.of (l := []) | exact mk3_byts 0 | exact fl_byts (mk3_byts 0) | rfl)
  have k0' : m % 8 = 0 := by simpa using k0
  cases k1 : decide (m = 0)
  case true =>
    have k1' : m = 0 := by simpa using k1
    refine ⟨_, _, _, run_tri (hX _) (hT _) (hL _) (cb_e_nil [] ys c m d) ?_ rfl⟩
    simp only [Alls, avLen, Nat.zero_add, List.take_zero, List.drop_zero, List.nil_append, List.length_nil, ex1, exw, ey1, ey2, ey3, eyr, Nat.zero_mul, Nat.zero_div]
    repeat' (first | with_reducible exact trivial | with_reducible apply And.intro)
    all_goals first | with_reducible assumption | omega | with_reducible rfl | (first | exact k0 | exact k1 | exact k3 | exact z | exact w0 | exact decide_eq_true rfl | exact Byts.nil | exact Fl.of rfl | exact Ints.of (l := []) | exact mk3_byts 0 | exact fl_byts (mk3_byts 0) | rfl)
  cases k2 : rdOk ys 0 (m / 8)
  ·
    refine ⟨_, _, _, run_tri (hX _) (hT _) (hL _) (cb_e_not [] ys c m d) ?_ rfl⟩
    simp only [Alls, avLen, Nat.zero_add, List.take_zero, List.drop_zero, List.nil_append, List.length_nil, ex1, exw, ey1, ey2, ey3, eyr, Nat.zero_mul, Nat.zero_div]
    repeat' (first | with_reducible exact trivial | with_reducible apply And.intro)
    all_goals first | with_reducible assumption | omega | with_reducible rfl | (first | exact k0 | exact k1 | exact k3 | exact z | exact w0 | exact decide_eq_true rfl | exact Byts.nil | exact Fl.of rfl | exact Ints.of (l := []) | exact mk3_byts 0 | exact fl_byts (mk3_byts 0) | rfl)
  cases k3 : decide (m / 8 ≤ 128)
  ·
    refine ⟨_, _, _, run_tri (hX _) (hT _) (hL _) (cb_e_long [] ys c m d) ?_ rfl⟩
    simp only [Alls, avLen, Nat.zero_add, List.take_zero, List.drop_zero, List.nil_append, List.length_nil, ex1, exw, ey1, ey2, ey3, eyr, Nat.zero_mul, Nat.zero_div]
    repeat' (first | with_reducible exact trivial | with_reducible apply And.intro)
    all_goals first | with_reducible assumption | omega | with_reducible rfl | (first | exact k0 | exact k1 | exact k3 | exact z | exact w0 | exact decide_eq_true rfl | exact Byts.nil | exact Fl.of rfl | exact Ints.of (l := []) | exact mk3_byts 0 | exact fl_byts (mk3_byts 0) | rfl)
  ·
    refine ⟨_, _, _, run_tri (hX _) (hT _) (hL _) (cb_e_ok [] ys c m d) ?_ rfl⟩
    simp only [Alls, avLen, Nat.zero_add, List.take_zero, List.drop_zero, List.nil_append, List.length_nil, ex1, exw, ey1, ey2, ey3, eyr, Nat.zero_mul, Nat.zero_div]
    repeat' (first | with_reducible exact trivial | with_reducible apply And.intro)
    all_goals first | with_reducible assumption | omega | with_reducible rfl | (first | exact k0 | exact k1 | exact k3 | exact z | exact w0 | exact decide_eq_true rfl | exact Byts.nil | exact Fl.of rfl | exact Ints.of (l := []) | exact mk3_byts 0 | exact fl_byts (mk3_byts 0) | rfl)
theorem cb_ns {ys : List Value} {m d : Nat} (hy : Byts ys) (hm : ys.length = m) (hd : m ≤ d ∧ d ≤ 9223372036854775807) :
    RunsTrue Try.prog 7 [.slice none 0 0, cbB m d] [(1, ⟨.old, ys⟩)] 2 := by
  have hX : ∀ md, XOkZ (cbV md) Try.prog := fun md => noXz_ok rfl
  have hT : ∀ md, TOkZ (cbV md) Try.prog := fun md => T_okV rfl cbT_one
  have hL : ∀ md, LOkZ (cbV md) Try.prog := fun md => noL_okV rfl
  have ex1 : True := trivial
  have exw : True := trivial
  have ey1 : ys.take m = ys := take_len hm
  have hml : (ys ++ mk3 m).length = m + 3 := by simp [mk3, hm]
  have ey2 : (ys ++ mk3 m).take m = ys := by rw [← hm, List.take_left]
  have ey3 : (ys ++ mk3 m).take (m + 3) = ys ++ mk3 m := take_len hml
  have eyr : (rdL ys 0 (m / 8)).take (m / 8 * 2) = rdL ys 0 (m / 8) := take_len (rdL_len ys (m / 8) 0)
  have f1 := fl_byts hy
  have b2 := hy.app (mk3_byts m)
  have f2 := fl_byts b2
  have i4 := rdL_Ints ys (m / 8) 0
  have f4 := i4.fl
  have lr := rdL_len ys (m / 8) 0
  unfold mk3 at ey2 ey3 hml b2 f2
  by_cases h2 : m ≤ 2000
  case neg =>
    refine ⟨_, _, _, run_tri (hX _) (hT _) (hL _) (cb_l2n ys m d) ?_ rfl⟩
    simp only [Alls, decide_eq_true_eq, decide_eq_false_iff_not]
    repeat' (first | with_reducible exact trivial | with_reducible apply And.intro)
    all_goals first | with_reducible assumption | omega | with_reducible rfl | (skip)
  have g2 : decide ((m : Int) > 2000) = false := by simp only [decide_eq_false_iff_not]; omega
  cases k0 : decide (m % 8 = 0)
  ·
    refine ⟨_, _, _, run_tri (hX _) (hT _) (hL _) (cb_n_bad ys m d) ?_ rfl⟩
    simp only [Alls, avLen, Nat.zero_add, List.take_zero, List.drop_zero, List.nil_append, List.length_nil, ex1, exw, ey1, ey2, ey3, eyr, Nat.zero_mul, Nat.zero_div]
    repeat' (first | with_reducible exact trivial | with_reducible apply And.intro)
    all_goals first | with_reducible assumption | omega | with_reducible rfl | (first | exact k0 | exact k1 | exact k3 | exact z | exact w0 | exact decide_eq_true rfl | exact Byts.nil | exact Fl.of rfl | exact Ints.of (l := []) | exact mk3_byts 0 | exact fl_byts (mk3_byts 0) | rfl)
  have k0' : m % 8 = 0 := by simpa using k0
  cases k1 : decide (m = 0)
  case true =>
    have k1' : m = 0 := by simpa using k1
    refine ⟨_, _, _, run_tri (hX _) (hT _) (hL _) (cb_n_nil ys m d) ?_ rfl⟩
    simp only [Alls, avLen, Nat.zero_add, List.take_zero, List.drop_zero, List.nil_append, List.length_nil, ex1, exw, ey1, ey2, ey3, eyr, Nat.zero_mul, Nat.zero_div]
    repeat' (first | with_reducible exact trivial | with_reducible apply And.intro)
    all_goals first | with_reducible assumption | omega | with_reducible rfl | (first | exact k0 | exact k1 | exact k3 | exact z | exact w0 | exact decide_eq_true rfl | exact Byts.nil | exact Fl.of rfl | exact Ints.of (l := []) | exact mk3_byts 0 | exact fl_byts (mk3_byts 0) | rfl)
  cases k2 : rdOk ys 0 (m / 8)
  ·
    refine ⟨_, _, _, run_tri (hX _) (hT _) (hL _) (cb_n_not ys m d) ?_ rfl⟩
    simp only [Alls, avLen, Nat.zero_add, List.take_zero, List.drop_zero, List.nil_append, List.length_nil, ex1, exw, ey1, ey2, ey3, eyr, Nat.zero_mul, Nat.zero_div]
    repeat' (first | with_reducible exact trivial | with_reducible apply And.intro)
    all_goals first | with_reducible assumption | omega | with_reducible rfl | (first | exact k0 | exact k1 | exact k3 | exact z | exact w0 | exact decide_eq_true rfl | exact Byts.nil | exact Fl.of rfl | exact Ints.of (l := []) | exact mk3_byts 0 | exact fl_byts (mk3_byts 0) | rfl)
  cases k3 : decide (m / 8 ≤ 128)
  ·
    refine ⟨_, _, _, run_tri (hX _) (hT _) (hL _) (cb_n_long ys m d) ?_ rfl⟩
    simp only [Alls, avLen, Nat.zero_add, List.take_zero, List.drop_zero, List.nil_append, List.length_nil, ex1, exw, ey1, ey2, ey3, eyr, Nat.zero_mul, Nat.zero_div]
    repeat' (first | with_reducible exact trivial | with_reducible apply And.intro)
    all_goals first | with_reducible assumption | omega | with_reducible rfl | (first | exact k0 | exact k1 | exact k3 | exact z | exact w0 | exact decide_eq_true rfl | exact Byts.nil | exact Fl.of rfl | exact Ints.of (l := []) | exact mk3_byts 0 | exact fl_byts (mk3_byts 0) | rfl)
  ·
    refine ⟨_, _, _, run_tri (hX _) (hT _) (hL _) (cb_n_ok ys m d) ?_ rfl⟩
    simp only [Alls, avLen, Nat.zero_add, List.take_zero, List.drop_zero, List.nil_append, List.length_nil, ex1, exw, ey1, ey2, ey3, eyr, Nat.zero_mul, Nat.zero_div]
    repeat' (first | with_reducible exact trivial | with_reducible apply And.intro)
    all_goals first | with_reducible assumption | omega | with_reducible rfl | (first | exact k0 | exact k1 | exact k3 | exact z | exact w0 | exact decide_eq_true rfl | exact Byts.nil | exact Fl.of rfl | exact Ints.of (l := []) | exact mk3_byts 0 | exact fl_byts (mk3_byts 0) | rfl)
end Go.Proofs.Ytmjmdjcgjmjigaa
