/-
  Chapter 19: the statement ChainBack, run at any lists.
-/
import Derived.Test.YtmjmdjcgjmjigaaResP
namespace Go.Proofs.Ytmjmdjcgjmjigaa
set_option linter.unusedSimpArgs false
set_option linter.unusedVariables false
set_option linter.unusedSectionVars false
open Go Go.RowKit

def bkT : TFun := orTz kitT chT
theorem bkT_one : TOneZ Try.prog bkT := orTz_ok kitT_one chT_one
def bkV : Tv := ⟨bkT, noXz, noL, fun f => bif Nat.beq f 8 then [17, 21, 50, 73] else [], allSy 8 [], fun _ => [], fun _ => 0⟩
def cbA (n c : Nat) : Value := .slice (some ⟨0, 0, none⟩) n c
def cbB (m d : Nat) : Value := .slice (some ⟨1, 0, none⟩) m d
theorem bk_l1 (xs ys : List Value) (n c m d : Nat) : runZ bkV Try.prog 5 8 [cbA n c, cbB m d] [(0, ⟨.old, xs⟩), (1, ⟨.old, ys⟩)] 2 [true] =
Res.ok
  ((Value.bool true, [((0 : Nat), Rw.mk Kd.old xs), ((1 : Nat), Rw.mk Kd.old ys)], (2 : Nat), []), [],
    [decide ((↑n : Int) > (200 : Int)) = true]) := by kernel_rfl
theorem bk_l2 (xs ys : List Value) (n c m d : Nat) : runZ bkV Try.prog 5 8 [cbA n c, cbB m d] [(0, ⟨.old, xs⟩), (1, ⟨.old, ys⟩)] 2 [false, true] =
Res.ok
  ((Value.bool true, [((0 : Nat), Rw.mk Kd.old xs), ((1 : Nat), Rw.mk Kd.old ys)], (2 : Nat), []), [],
    [decide ((↑n : Int) > (200 : Int)) = false, decide ((↑m : Int) > (2000 : Int)) = true]) := by kernel_rfl
theorem bk_l2n (ys : List Value) (m d : Nat) : runZ bkV Try.prog 5 8 [.slice none 0 0, cbB m d] [(1, ⟨.old, ys⟩)] 2 [false, true] =
Res.ok
  ((Value.bool true, [((1 : Nat), Rw.mk Kd.old ys)], (2 : Nat), []), [],
    [false = false, decide ((↑m : Int) > (2000 : Int)) = true]) := by kernel_rfl
theorem bk_l1n (xs : List Value) (n c : Nat) : runZ bkV Try.prog 5 8 [cbA n c, .slice none 0 0] [(0, ⟨.old, xs⟩)] 2 [true] =
Res.ok
  ((Value.bool true, [((0 : Nat), Rw.mk Kd.old xs)], (2 : Nat), []), [], [decide ((↑n : Int) > (200 : Int)) = true]) := by kernel_rfl
theorem bk_e_bad (xs ys : List Value) (c m d : Nat) : runZ bkV Try.prog 5 8 [cbA 0 c, cbB m d] [(0, ⟨.old, xs⟩), (1, ⟨.old, ys⟩)] 2 ([false, false] ++ [false, true] ++ [false, true] ++ [false] ++ [true]) =
Res.ok
  ((Value.bool true, [((0 : Nat), Rw.mk Kd.old xs), ((1 : Nat), Rw.mk Kd.old ys)], (2 : Nat), []), [],
    [false = false, decide ((↑m : Int) > (2000 : Int)) = false, (0 : Nat) ≤ c ∧ c ≤ (9223372036854775807 : Nat),
      (0 : Nat) ≤ List.length xs, Fl [], Ints IntKind.i64 [], (0 : Nat) = (0 : Nat), Byts [], (0 : Nat) = (0 : Nat),
      (0 : Nat) ≤ c ∧ c ≤ (9223372036854775807 : Nat), (0 : Nat) ≤ List.length xs, Fl [], Ints IntKind.i64 [], ([] : List Value) = [],
      (0 : Nat) = (0 : Nat), rg IntKind.i64 (0 : Int), false = false, m ≤ d ∧ d ≤ (9223372036854775807 : Nat),
      m ≤ List.length ys, Fl (List.take m ys), Byts (List.take m ys),
      decide (avLen (Av.sl (List.take m ys) m) % (8 : Nat) = (0 : Nat)) = false]) := by kernel_rfl
theorem bk_n_bad (ys : List Value) (m d : Nat) : runZ bkV Try.prog 5 8 [.slice none 0 0, cbB m d] [(1, ⟨.old, ys⟩)] 2 ([false, false] ++ [false, true] ++ [false, true] ++ [false] ++ [true]) =
Res.ok
  ((Value.bool true, [((1 : Nat), Rw.mk Kd.old ys)], (2 : Nat), []), [],
    [false = false, decide ((↑m : Int) > (2000 : Int)) = false, Ints IntKind.i64 [], (0 : Nat) = (0 : Nat), Byts [],
      (0 : Nat) = (0 : Nat), Ints IntKind.i64 [], ([] : List Value) = [], (0 : Nat) = (0 : Nat), rg IntKind.i64 (0 : Int),
      false = false, m ≤ d ∧ d ≤ (9223372036854775807 : Nat), m ≤ List.length ys, Fl (List.take m ys),
      Byts (List.take m ys), decide (avLen (Av.sl (List.take m ys) m) % (8 : Nat) = (0 : Nat)) = false]) := by kernel_rfl
theorem bk_e_nil (xs ys : List Value) (c m d : Nat) : runZ bkV Try.prog 5 8 [cbA 0 c, cbB m d] [(0, ⟨.old, xs⟩), (1, ⟨.old, ys⟩)] 2 ([false, false] ++ [false, true] ++ [false, true] ++ [false] ++ [false, true] ++ [false, true] ++ [true]) =
Res.ok
  ((Value.bool true, [((0 : Nat), Rw.mk Kd.old xs), ((1 : Nat), Rw.mk Kd.old ys)], (2 : Nat), []), [],
    [false = false, decide ((↑m : Int) > (2000 : Int)) = false, (0 : Nat) ≤ c ∧ c ≤ (9223372036854775807 : Nat),
      (0 : Nat) ≤ List.length xs, Fl [], Ints IntKind.i64 [], (0 : Nat) = (0 : Nat), Byts [], (0 : Nat) = (0 : Nat),
      (0 : Nat) ≤ c ∧ c ≤ (9223372036854775807 : Nat), (0 : Nat) ≤ List.length xs, Fl [], Ints IntKind.i64 [], ([] : List Value) = [],
      (0 : Nat) = (0 : Nat), rg IntKind.i64 (0 : Int), false = false, m ≤ d ∧ d ≤ (9223372036854775807 : Nat),
      m ≤ List.length ys, Fl (List.take m ys), Byts (List.take m ys), avLen (Av.sl (List.take m ys) m) = (0 : Nat),
      Ints IntKind.i64 [], (0 : Nat) = (0 : Nat), m ≤ d ∧ d ≤ (9223372036854775807 : Nat), m ≤ List.length ys,
      Fl (List.take m ys), Byts [], Byts (List.take m ys), decide (intsOf [] = intsOf (List.take m ys)) = true]) := by kernel_rfl
theorem bk_n_nil (ys : List Value) (m d : Nat) : runZ bkV Try.prog 5 8 [.slice none 0 0, cbB m d] [(1, ⟨.old, ys⟩)] 2 ([false, false] ++ [false, true] ++ [false, true] ++ [false] ++ [false, true] ++ [false, true] ++ [true]) =
Res.ok
  ((Value.bool true, [((1 : Nat), Rw.mk Kd.old ys)], (2 : Nat), []), [],
    [false = false, decide ((↑m : Int) > (2000 : Int)) = false, Ints IntKind.i64 [], (0 : Nat) = (0 : Nat), Byts [],
      (0 : Nat) = (0 : Nat), Ints IntKind.i64 [], ([] : List Value) = [], (0 : Nat) = (0 : Nat), rg IntKind.i64 (0 : Int),
      false = false, m ≤ d ∧ d ≤ (9223372036854775807 : Nat), m ≤ List.length ys, Fl (List.take m ys),
      Byts (List.take m ys), avLen (Av.sl (List.take m ys) m) = (0 : Nat), Ints IntKind.i64 [], (0 : Nat) = (0 : Nat),
      m ≤ d ∧ d ≤ (9223372036854775807 : Nat), m ≤ List.length ys, Fl (List.take m ys), Byts [], Byts (List.take m ys),
      decide (intsOf [] = intsOf (List.take m ys)) = true]) := by kernel_rfl
theorem bk_e_not (xs ys : List Value) (c m d : Nat) : runZ bkV Try.prog 5 8 [cbA 0 c, cbB m d] [(0, ⟨.old, xs⟩), (1, ⟨.old, ys⟩)] 2 ([false, false] ++ [false, true] ++ [false, true] ++ [false] ++ [false, false, false]) =
Res.ok
  ((Value.bool true, [((0 : Nat), Rw.mk Kd.old xs), ((1 : Nat), Rw.mk Kd.old ys)], (2 : Nat), []), [],
    [false = false, decide ((↑m : Int) > (2000 : Int)) = false, (0 : Nat) ≤ c ∧ c ≤ (9223372036854775807 : Nat),
      (0 : Nat) ≤ List.length xs, Fl [], Ints IntKind.i64 [], (0 : Nat) = (0 : Nat), Byts [], (0 : Nat) = (0 : Nat),
      (0 : Nat) ≤ c ∧ c ≤ (9223372036854775807 : Nat), (0 : Nat) ≤ List.length xs, Fl [], Ints IntKind.i64 [], ([] : List Value) = [],
      (0 : Nat) = (0 : Nat), rg IntKind.i64 (0 : Int), false = false, m ≤ d ∧ d ≤ (9223372036854775807 : Nat),
      m ≤ List.length ys, Fl (List.take m ys), Byts (List.take m ys),
      avLen (Av.sl (List.take m ys) m) % (8 : Nat) = (0 : Nat),
      decide (avLen (Av.sl (List.take m ys) m) = (0 : Nat)) = false, avLen (Av.sl (List.take m ys) m) ≤ (4096 : Nat),
      rdOk (List.take m ys) (0 : Nat) (avLen (Av.sl (List.take m ys) m) / (8 : Nat)) = false]) := by kernel_rfl
theorem bk_n_not (ys : List Value) (m d : Nat) : runZ bkV Try.prog 5 8 [.slice none 0 0, cbB m d] [(1, ⟨.old, ys⟩)] 2 ([false, false] ++ [false, true] ++ [false, true] ++ [false] ++ [false, false, false]) =
Res.ok
  ((Value.bool true, [((1 : Nat), Rw.mk Kd.old ys)], (2 : Nat), []), [],
    [false = false, decide ((↑m : Int) > (2000 : Int)) = false, Ints IntKind.i64 [], (0 : Nat) = (0 : Nat), Byts [],
      (0 : Nat) = (0 : Nat), Ints IntKind.i64 [], ([] : List Value) = [], (0 : Nat) = (0 : Nat), rg IntKind.i64 (0 : Int),
      false = false, m ≤ d ∧ d ≤ (9223372036854775807 : Nat), m ≤ List.length ys, Fl (List.take m ys),
      Byts (List.take m ys), avLen (Av.sl (List.take m ys) m) % (8 : Nat) = (0 : Nat),
      decide (avLen (Av.sl (List.take m ys) m) = (0 : Nat)) = false, avLen (Av.sl (List.take m ys) m) ≤ (4096 : Nat),
      rdOk (List.take m ys) (0 : Nat) (avLen (Av.sl (List.take m ys) m) / (8 : Nat)) = false]) := by kernel_rfl
theorem bk_e_long (xs ys : List Value) (c m d : Nat) : runZ bkV Try.prog 5 8 [cbA 0 c, cbB m d] [(0, ⟨.old, xs⟩), (1, ⟨.old, ys⟩)] 2 ([false, false] ++ [false, true] ++ [false, true] ++ [false] ++ [false, false, true, true]) =
Res.ok
  ((Value.bool true, [((0 : Nat), Rw.mk Kd.old xs), ((1 : Nat), Rw.mk Kd.old ys)], (2 : Nat), []), [],
    [false = false, decide ((↑m : Int) > (2000 : Int)) = false, (0 : Nat) ≤ c ∧ c ≤ (9223372036854775807 : Nat),
      (0 : Nat) ≤ List.length xs, Fl [], Ints IntKind.i64 [], (0 : Nat) = (0 : Nat), Byts [], (0 : Nat) = (0 : Nat),
      (0 : Nat) ≤ c ∧ c ≤ (9223372036854775807 : Nat), (0 : Nat) ≤ List.length xs, Fl [], Ints IntKind.i64 [], ([] : List Value) = [],
      (0 : Nat) = (0 : Nat), rg IntKind.i64 (0 : Int), false = false, m ≤ d ∧ d ≤ (9223372036854775807 : Nat),
      m ≤ List.length ys, Fl (List.take m ys), Byts (List.take m ys),
      avLen (Av.sl (List.take m ys) m) % (8 : Nat) = (0 : Nat),
      decide (avLen (Av.sl (List.take m ys) m) = (0 : Nat)) = false, avLen (Av.sl (List.take m ys) m) ≤ (4096 : Nat),
      rdOk (List.take m ys) (0 : Nat) (avLen (Av.sl (List.take m ys) m) / (8 : Nat)) = true,
      decide (avLen (Av.sl (List.take m ys) m) / (8 : Nat) ≤ (128 : Nat)) = false]) := by kernel_rfl
theorem bk_n_long (ys : List Value) (m d : Nat) : runZ bkV Try.prog 5 8 [.slice none 0 0, cbB m d] [(1, ⟨.old, ys⟩)] 2 ([false, false] ++ [false, true] ++ [false, true] ++ [false] ++ [false, false, true, true]) =
Res.ok
  ((Value.bool true, [((1 : Nat), Rw.mk Kd.old ys)], (2 : Nat), []), [],
    [false = false, decide ((↑m : Int) > (2000 : Int)) = false, Ints IntKind.i64 [], (0 : Nat) = (0 : Nat), Byts [],
      (0 : Nat) = (0 : Nat), Ints IntKind.i64 [], ([] : List Value) = [], (0 : Nat) = (0 : Nat), rg IntKind.i64 (0 : Int),
      false = false, m ≤ d ∧ d ≤ (9223372036854775807 : Nat), m ≤ List.length ys, Fl (List.take m ys),
      Byts (List.take m ys), avLen (Av.sl (List.take m ys) m) % (8 : Nat) = (0 : Nat),
      decide (avLen (Av.sl (List.take m ys) m) = (0 : Nat)) = false, avLen (Av.sl (List.take m ys) m) ≤ (4096 : Nat),
      rdOk (List.take m ys) (0 : Nat) (avLen (Av.sl (List.take m ys) m) / (8 : Nat)) = true,
      decide (avLen (Av.sl (List.take m ys) m) / (8 : Nat) ≤ (128 : Nat)) = false]) := by kernel_rfl
theorem bk_e_ok (xs ys : List Value) (c m d : Nat) : runZ bkV Try.prog 5 8 [cbA 0 c, cbB m d] [(0, ⟨.old, xs⟩), (1, ⟨.old, ys⟩)] 2 ([false, false] ++ [false, true] ++ [false, true] ++ [false] ++ [false, false, true, false] ++ [false, false, true] ++ [true]) =
Res.ok
  ((Value.bool true, [((0 : Nat), Rw.mk Kd.old xs), ((1 : Nat), Rw.mk Kd.old ys)], (4 : Nat), []), [],
    [false = false, decide ((↑m : Int) > (2000 : Int)) = false, (0 : Nat) ≤ c ∧ c ≤ (9223372036854775807 : Nat),
      (0 : Nat) ≤ List.length xs, Fl [], Ints IntKind.i64 [], (0 : Nat) = (0 : Nat), Byts [], (0 : Nat) = (0 : Nat),
      (0 : Nat) ≤ c ∧ c ≤ (9223372036854775807 : Nat), (0 : Nat) ≤ List.length xs, Fl [], Ints IntKind.i64 [], ([] : List Value) = [],
      (0 : Nat) = (0 : Nat), rg IntKind.i64 (0 : Int), false = false, m ≤ d ∧ d ≤ (9223372036854775807 : Nat),
      m ≤ List.length ys, Fl (List.take m ys), Byts (List.take m ys),
      avLen (Av.sl (List.take m ys) m) % (8 : Nat) = (0 : Nat),
      decide (avLen (Av.sl (List.take m ys) m) = (0 : Nat)) = false, avLen (Av.sl (List.take m ys) m) ≤ (4096 : Nat),
      rdOk (List.take m ys) (0 : Nat) (avLen (Av.sl (List.take m ys) m) / (8 : Nat)) = true,
      decide (avLen (Av.sl (List.take m ys) m) / (8 : Nat) ≤ (128 : Nat)) = true,
      capBig + (2 : Nat) = capBig + (2 : Nat),
      avLen (Av.sl (List.take m ys) m) / (8 : Nat) * (2 : Nat) ≤
        List.length (rdL (List.take m ys) (0 : Nat) (avLen (Av.sl (List.take m ys) m) / (8 : Nat))),
      (0 : Nat) < (2 : Nat),
      avLen (Av.sl (List.take m ys) m) / (8 : Nat) * (2 : Nat) ≤
        List.length (rdL (List.take m ys) (0 : Nat) (avLen (Av.sl (List.take m ys) m) / (8 : Nat))),
      Fl
        (List.take (avLen (Av.sl (List.take m ys) m) / (8 : Nat) * (2 : Nat))
          (rdL (List.take m ys) (0 : Nat) (avLen (Av.sl (List.take m ys) m) / (8 : Nat)))),
      Ints IntKind.i64
        (List.take (avLen (Av.sl (List.take m ys) m) / (8 : Nat) * (2 : Nat))
          (rdL (List.take m ys) (0 : Nat) (avLen (Av.sl (List.take m ys) m) / (8 : Nat)))),
      decide
          (avLen
              (Av.sl
                (List.take (avLen (Av.sl (List.take m ys) m) / (8 : Nat) * (2 : Nat))
                  (rdL (List.take m ys) (0 : Nat) (avLen (Av.sl (List.take m ys) m) / (8 : Nat))))
                (avLen (Av.sl (List.take m ys) m) / (8 : Nat))) =
            (0 : Nat)) =
        false,
      decide
          (avLen
              (Av.sl
                (List.take (avLen (Av.sl (List.take m ys) m) / (8 : Nat) * (2 : Nat))
                  (rdL (List.take m ys) (0 : Nat) (avLen (Av.sl (List.take m ys) m) / (8 : Nat))))
                (avLen (Av.sl (List.take m ys) m) / (8 : Nat))) ≤
            (128 : Nat)) =
        true,
      wrOk
          (List.take (avLen (Av.sl (List.take m ys) m) / (8 : Nat) * (2 : Nat))
            (rdL (List.take m ys) (0 : Nat) (avLen (Av.sl (List.take m ys) m) / (8 : Nat))))
          (0 : Nat)
          (avLen
            (Av.sl
              (List.take (avLen (Av.sl (List.take m ys) m) / (8 : Nat) * (2 : Nat))
                (rdL (List.take m ys) (0 : Nat) (avLen (Av.sl (List.take m ys) m) / (8 : Nat))))
              (avLen (Av.sl (List.take m ys) m) / (8 : Nat)))) =
        true,
      capBig + (3 : Nat) = capBig + (3 : Nat),
      avLen
            (Av.sl
              (List.take (avLen (Av.sl (List.take m ys) m) / (8 : Nat) * (2 : Nat))
                (rdL (List.take m ys) (0 : Nat) (avLen (Av.sl (List.take m ys) m) / (8 : Nat))))
              (avLen (Av.sl (List.take m ys) m) / (8 : Nat))) *
          (8 : Nat) ≤
        List.length
          (wrL
            (List.take (avLen (Av.sl (List.take m ys) m) / (8 : Nat) * (2 : Nat))
              (rdL (List.take m ys) (0 : Nat) (avLen (Av.sl (List.take m ys) m) / (8 : Nat))))
            (0 : Nat)
            (avLen
              (Av.sl
                (List.take (avLen (Av.sl (List.take m ys) m) / (8 : Nat) * (2 : Nat))
                  (rdL (List.take m ys) (0 : Nat) (avLen (Av.sl (List.take m ys) m) / (8 : Nat))))
                (avLen (Av.sl (List.take m ys) m) / (8 : Nat))))),
      (0 : Nat) < (1 : Nat),
      avLen
            (Av.sl
              (List.take (avLen (Av.sl (List.take m ys) m) / (8 : Nat) * (2 : Nat))
                (rdL (List.take m ys) (0 : Nat) (avLen (Av.sl (List.take m ys) m) / (8 : Nat))))
              (avLen (Av.sl (List.take m ys) m) / (8 : Nat))) *
          (8 : Nat) ≤
        List.length
          (wrL
            (List.take (avLen (Av.sl (List.take m ys) m) / (8 : Nat) * (2 : Nat))
              (rdL (List.take m ys) (0 : Nat) (avLen (Av.sl (List.take m ys) m) / (8 : Nat))))
            (0 : Nat)
            (avLen
              (Av.sl
                (List.take (avLen (Av.sl (List.take m ys) m) / (8 : Nat) * (2 : Nat))
                  (rdL (List.take m ys) (0 : Nat) (avLen (Av.sl (List.take m ys) m) / (8 : Nat))))
                (avLen (Av.sl (List.take m ys) m) / (8 : Nat))))),
      Fl
        (List.take
          (avLen
              (Av.sl
                (List.take (avLen (Av.sl (List.take m ys) m) / (8 : Nat) * (2 : Nat))
                  (rdL (List.take m ys) (0 : Nat) (avLen (Av.sl (List.take m ys) m) / (8 : Nat))))
                (avLen (Av.sl (List.take m ys) m) / (8 : Nat))) *
            (8 : Nat))
          (wrL
            (List.take (avLen (Av.sl (List.take m ys) m) / (8 : Nat) * (2 : Nat))
              (rdL (List.take m ys) (0 : Nat) (avLen (Av.sl (List.take m ys) m) / (8 : Nat))))
            (0 : Nat)
            (avLen
              (Av.sl
                (List.take (avLen (Av.sl (List.take m ys) m) / (8 : Nat) * (2 : Nat))
                  (rdL (List.take m ys) (0 : Nat) (avLen (Av.sl (List.take m ys) m) / (8 : Nat))))
                (avLen (Av.sl (List.take m ys) m) / (8 : Nat)))))),
      m ≤ d ∧ d ≤ (9223372036854775807 : Nat), m ≤ List.length ys, Fl (List.take m ys),
      Byts
        (List.take
          (avLen
              (Av.sl
                (List.take (avLen (Av.sl (List.take m ys) m) / (8 : Nat) * (2 : Nat))
                  (rdL (List.take m ys) (0 : Nat) (avLen (Av.sl (List.take m ys) m) / (8 : Nat))))
                (avLen (Av.sl (List.take m ys) m) / (8 : Nat))) *
            (8 : Nat))
          (wrL
            (List.take (avLen (Av.sl (List.take m ys) m) / (8 : Nat) * (2 : Nat))
              (rdL (List.take m ys) (0 : Nat) (avLen (Av.sl (List.take m ys) m) / (8 : Nat))))
            (0 : Nat)
            (avLen
              (Av.sl
                (List.take (avLen (Av.sl (List.take m ys) m) / (8 : Nat) * (2 : Nat))
                  (rdL (List.take m ys) (0 : Nat) (avLen (Av.sl (List.take m ys) m) / (8 : Nat))))
                (avLen (Av.sl (List.take m ys) m) / (8 : Nat)))))),
      Byts (List.take m ys),
      decide
          (intsOf
              (List.take
                (avLen
                    (Av.sl
                      (List.take (avLen (Av.sl (List.take m ys) m) / (8 : Nat) * (2 : Nat))
                        (rdL (List.take m ys) (0 : Nat) (avLen (Av.sl (List.take m ys) m) / (8 : Nat))))
                      (avLen (Av.sl (List.take m ys) m) / (8 : Nat))) *
                  (8 : Nat))
                (wrL
                  (List.take (avLen (Av.sl (List.take m ys) m) / (8 : Nat) * (2 : Nat))
                    (rdL (List.take m ys) (0 : Nat) (avLen (Av.sl (List.take m ys) m) / (8 : Nat))))
                  (0 : Nat)
                  (avLen
                    (Av.sl
                      (List.take (avLen (Av.sl (List.take m ys) m) / (8 : Nat) * (2 : Nat))
                        (rdL (List.take m ys) (0 : Nat) (avLen (Av.sl (List.take m ys) m) / (8 : Nat))))
                      (avLen (Av.sl (List.take m ys) m) / (8 : Nat)))))) =
            intsOf (List.take m ys)) =
        true]) := by kernel_rfl
theorem bk_n_ok (ys : List Value) (m d : Nat) : runZ bkV Try.prog 5 8 [.slice none 0 0, cbB m d] [(1, ⟨.old, ys⟩)] 2 ([false, false] ++ [false, true] ++ [false, true] ++ [false] ++ [false, false, true, false] ++ [false, false, true] ++ [true]) =
Res.ok
  ((Value.bool true, [((1 : Nat), Rw.mk Kd.old ys)], (4 : Nat), []), [],
    [false = false, decide ((↑m : Int) > (2000 : Int)) = false, Ints IntKind.i64 [], (0 : Nat) = (0 : Nat), Byts [],
      (0 : Nat) = (0 : Nat), Ints IntKind.i64 [], ([] : List Value) = [], (0 : Nat) = (0 : Nat), rg IntKind.i64 (0 : Int),
      false = false, m ≤ d ∧ d ≤ (9223372036854775807 : Nat), m ≤ List.length ys, Fl (List.take m ys),
      Byts (List.take m ys), avLen (Av.sl (List.take m ys) m) % (8 : Nat) = (0 : Nat),
      decide (avLen (Av.sl (List.take m ys) m) = (0 : Nat)) = false, avLen (Av.sl (List.take m ys) m) ≤ (4096 : Nat),
      rdOk (List.take m ys) (0 : Nat) (avLen (Av.sl (List.take m ys) m) / (8 : Nat)) = true,
      decide (avLen (Av.sl (List.take m ys) m) / (8 : Nat) ≤ (128 : Nat)) = true,
      capBig + (2 : Nat) = capBig + (2 : Nat),
      avLen (Av.sl (List.take m ys) m) / (8 : Nat) * (2 : Nat) ≤
        List.length (rdL (List.take m ys) (0 : Nat) (avLen (Av.sl (List.take m ys) m) / (8 : Nat))),
      (0 : Nat) < (2 : Nat),
      avLen (Av.sl (List.take m ys) m) / (8 : Nat) * (2 : Nat) ≤
        List.length (rdL (List.take m ys) (0 : Nat) (avLen (Av.sl (List.take m ys) m) / (8 : Nat))),
      Fl
        (List.take (avLen (Av.sl (List.take m ys) m) / (8 : Nat) * (2 : Nat))
          (rdL (List.take m ys) (0 : Nat) (avLen (Av.sl (List.take m ys) m) / (8 : Nat)))),
      Ints IntKind.i64
        (List.take (avLen (Av.sl (List.take m ys) m) / (8 : Nat) * (2 : Nat))
          (rdL (List.take m ys) (0 : Nat) (avLen (Av.sl (List.take m ys) m) / (8 : Nat)))),
      decide
          (avLen
              (Av.sl
                (List.take (avLen (Av.sl (List.take m ys) m) / (8 : Nat) * (2 : Nat))
                  (rdL (List.take m ys) (0 : Nat) (avLen (Av.sl (List.take m ys) m) / (8 : Nat))))
                (avLen (Av.sl (List.take m ys) m) / (8 : Nat))) =
            (0 : Nat)) =
        false,
      decide
          (avLen
              (Av.sl
                (List.take (avLen (Av.sl (List.take m ys) m) / (8 : Nat) * (2 : Nat))
                  (rdL (List.take m ys) (0 : Nat) (avLen (Av.sl (List.take m ys) m) / (8 : Nat))))
                (avLen (Av.sl (List.take m ys) m) / (8 : Nat))) ≤
            (128 : Nat)) =
        true,
      wrOk
          (List.take (avLen (Av.sl (List.take m ys) m) / (8 : Nat) * (2 : Nat))
            (rdL (List.take m ys) (0 : Nat) (avLen (Av.sl (List.take m ys) m) / (8 : Nat))))
          (0 : Nat)
          (avLen
            (Av.sl
              (List.take (avLen (Av.sl (List.take m ys) m) / (8 : Nat) * (2 : Nat))
                (rdL (List.take m ys) (0 : Nat) (avLen (Av.sl (List.take m ys) m) / (8 : Nat))))
              (avLen (Av.sl (List.take m ys) m) / (8 : Nat)))) =
        true,
      capBig + (3 : Nat) = capBig + (3 : Nat),
      avLen
            (Av.sl
              (List.take (avLen (Av.sl (List.take m ys) m) / (8 : Nat) * (2 : Nat))
                (rdL (List.take m ys) (0 : Nat) (avLen (Av.sl (List.take m ys) m) / (8 : Nat))))
              (avLen (Av.sl (List.take m ys) m) / (8 : Nat))) *
          (8 : Nat) ≤
        List.length
          (wrL
            (List.take (avLen (Av.sl (List.take m ys) m) / (8 : Nat) * (2 : Nat))
              (rdL (List.take m ys) (0 : Nat) (avLen (Av.sl (List.take m ys) m) / (8 : Nat))))
            (0 : Nat)
            (avLen
              (Av.sl
                (List.take (avLen (Av.sl (List.take m ys) m) / (8 : Nat) * (2 : Nat))
                  (rdL (List.take m ys) (0 : Nat) (avLen (Av.sl (List.take m ys) m) / (8 : Nat))))
                (avLen (Av.sl (List.take m ys) m) / (8 : Nat))))),
      (0 : Nat) < (1 : Nat),
      avLen
            (Av.sl
              (List.take (avLen (Av.sl (List.take m ys) m) / (8 : Nat) * (2 : Nat))
                (rdL (List.take m ys) (0 : Nat) (avLen (Av.sl (List.take m ys) m) / (8 : Nat))))
              (avLen (Av.sl (List.take m ys) m) / (8 : Nat))) *
          (8 : Nat) ≤
        List.length
          (wrL
            (List.take (avLen (Av.sl (List.take m ys) m) / (8 : Nat) * (2 : Nat))
              (rdL (List.take m ys) (0 : Nat) (avLen (Av.sl (List.take m ys) m) / (8 : Nat))))
            (0 : Nat)
            (avLen
              (Av.sl
                (List.take (avLen (Av.sl (List.take m ys) m) / (8 : Nat) * (2 : Nat))
                  (rdL (List.take m ys) (0 : Nat) (avLen (Av.sl (List.take m ys) m) / (8 : Nat))))
                (avLen (Av.sl (List.take m ys) m) / (8 : Nat))))),
      Fl
        (List.take
          (avLen
              (Av.sl
                (List.take (avLen (Av.sl (List.take m ys) m) / (8 : Nat) * (2 : Nat))
                  (rdL (List.take m ys) (0 : Nat) (avLen (Av.sl (List.take m ys) m) / (8 : Nat))))
                (avLen (Av.sl (List.take m ys) m) / (8 : Nat))) *
            (8 : Nat))
          (wrL
            (List.take (avLen (Av.sl (List.take m ys) m) / (8 : Nat) * (2 : Nat))
              (rdL (List.take m ys) (0 : Nat) (avLen (Av.sl (List.take m ys) m) / (8 : Nat))))
            (0 : Nat)
            (avLen
              (Av.sl
                (List.take (avLen (Av.sl (List.take m ys) m) / (8 : Nat) * (2 : Nat))
                  (rdL (List.take m ys) (0 : Nat) (avLen (Av.sl (List.take m ys) m) / (8 : Nat))))
                (avLen (Av.sl (List.take m ys) m) / (8 : Nat)))))),
      m ≤ d ∧ d ≤ (9223372036854775807 : Nat), m ≤ List.length ys, Fl (List.take m ys),
      Byts
        (List.take
          (avLen
              (Av.sl
                (List.take (avLen (Av.sl (List.take m ys) m) / (8 : Nat) * (2 : Nat))
                  (rdL (List.take m ys) (0 : Nat) (avLen (Av.sl (List.take m ys) m) / (8 : Nat))))
                (avLen (Av.sl (List.take m ys) m) / (8 : Nat))) *
            (8 : Nat))
          (wrL
            (List.take (avLen (Av.sl (List.take m ys) m) / (8 : Nat) * (2 : Nat))
              (rdL (List.take m ys) (0 : Nat) (avLen (Av.sl (List.take m ys) m) / (8 : Nat))))
            (0 : Nat)
            (avLen
              (Av.sl
                (List.take (avLen (Av.sl (List.take m ys) m) / (8 : Nat) * (2 : Nat))
                  (rdL (List.take m ys) (0 : Nat) (avLen (Av.sl (List.take m ys) m) / (8 : Nat))))
                (avLen (Av.sl (List.take m ys) m) / (8 : Nat)))))),
      Byts (List.take m ys),
      decide
          (intsOf
              (List.take
                (avLen
                    (Av.sl
                      (List.take (avLen (Av.sl (List.take m ys) m) / (8 : Nat) * (2 : Nat))
                        (rdL (List.take m ys) (0 : Nat) (avLen (Av.sl (List.take m ys) m) / (8 : Nat))))
                      (avLen (Av.sl (List.take m ys) m) / (8 : Nat))) *
                  (8 : Nat))
                (wrL
                  (List.take (avLen (Av.sl (List.take m ys) m) / (8 : Nat) * (2 : Nat))
                    (rdL (List.take m ys) (0 : Nat) (avLen (Av.sl (List.take m ys) m) / (8 : Nat))))
                  (0 : Nat)
                  (avLen
                    (Av.sl
                      (List.take (avLen (Av.sl (List.take m ys) m) / (8 : Nat) * (2 : Nat))
                        (rdL (List.take m ys) (0 : Nat) (avLen (Av.sl (List.take m ys) m) / (8 : Nat))))
                      (avLen (Av.sl (List.take m ys) m) / (8 : Nat)))))) =
            intsOf (List.take m ys)) =
        true]) := by kernel_rfl
theorem bk_es {ys : List Value} {m c d : Nat} (hx : Ints .i64 []) (hc : 0 ≤ c ∧ c ≤ 9223372036854775807) (hy : Byts ys) (hm : ys.length = m) (hd : m ≤ d ∧ d ≤ 9223372036854775807) (h2 : m ≤ 2000) :
    RunsTrue Try.prog 8 [cbA 0 c, cbB m d] [(0, ⟨.old, []⟩), (1, ⟨.old, ys⟩)] 2 := by
  have hX : XOkZ bkV Try.prog := noXz_ok rfl
  have hT : TOkZ bkV Try.prog := T_okV rfl bkT_one
  have hL : LOkZ bkV Try.prog := noL_okV rfl
  have ex1 : True := trivial
  have exw : True := trivial
  have e88 : True := trivial
  have ert : True := trivial
  have ey1 : ys.take m = ys := take_len hm
  have eyr : (rdL ys 0 (m / 8)).take (m / 8 * 2) = rdL ys 0 (m / 8) := take_len (rdL_len ys (m / 8) 0)
  have f1 := fl_byts hy
  have i4 := rdL_Ints ys (m / 8) 0
  have f4 := i4.fl
  have lr := rdL_len ys (m / 8) 0
  have g2 : decide ((m : Int) > 2000) = false := by simp only [decide_eq_false_iff_not]; omega
  cases k0 : decide (m % 8 = 0)
  ·
    have ewr : True := trivial
    have em8 : True := trivial
    refine ⟨_, _, _, run_tri hX hT hL (bk_e_bad [] ys c m d) ?_ rfl⟩
    simp only [Alls, avLen, Nat.zero_add, List.take_zero, List.drop_zero, List.nil_append, List.length_nil, ex1, exw, e88, ert, ey1, eyr, ewr, em8, Nat.zero_mul, Nat.zero_div, mlI_eq, rg]
    repeat' (first | with_reducible exact trivial | with_reducible apply And.intro)
    all_goals first | with_reducible assumption | omega | with_reducible rfl | (first | exact k0 | exact k1 | exact k3 | exact z | exact w0 | exact z8 | exact z8w | exact e50 | exact decide_eq_true rfl | exact Byts.nil | exact Fl.of rfl | exact Ints.of (l := []) | rfl)
  have k0' : m % 8 = 0 := by simpa using k0
  have em8 : m / 8 * 8 = m := by omega
  have ewr : wrL (rdL ys 0 (m / 8)) 0 (m / 8) = ys := by
    rw [wrL_rdL hy (m / 8) 0 (by omega), List.drop_zero, em8]; exact ey1
  cases k1 : decide (m = 0)
  case true =>
    have k1' : m = 0 := by simpa using k1
    subst k1'
    obtain rfl : ys = [] := List.eq_nil_of_length_eq_zero (by omega)
    refine ⟨_, _, _, run_tri hX hT hL (bk_e_nil [] [] c 0 d) ?_ rfl⟩
    simp only [Alls, avLen, Nat.zero_add, List.take_zero, List.drop_zero, List.nil_append, List.length_nil, ex1, exw, e88, ert, ey1, eyr, ewr, em8, Nat.zero_mul, Nat.zero_div, mlI_eq, rg]
    repeat' (first | with_reducible exact trivial | with_reducible apply And.intro)
    all_goals first | with_reducible assumption | omega | with_reducible rfl | (first | exact k0 | exact k1 | exact k3 | exact z | exact w0 | exact z8 | exact z8w | exact e50 | exact decide_eq_true rfl | exact Byts.nil | exact Fl.of rfl | exact Ints.of (l := []) | rfl)
  cases k2 : rdOk ys 0 (m / 8)
  ·
    refine ⟨_, _, _, run_tri hX hT hL (bk_e_not [] ys c m d) ?_ rfl⟩
    simp only [Alls, avLen, Nat.zero_add, List.take_zero, List.drop_zero, List.nil_append, List.length_nil, ex1, exw, e88, ert, ey1, eyr, ewr, em8, Nat.zero_mul, Nat.zero_div, mlI_eq, rg]
    repeat' (first | with_reducible exact trivial | with_reducible apply And.intro)
    all_goals first | with_reducible assumption | omega | with_reducible rfl | (first | exact k0 | exact k1 | exact k3 | exact z | exact w0 | exact z8 | exact z8w | exact e50 | exact decide_eq_true rfl | exact Byts.nil | exact Fl.of rfl | exact Ints.of (l := []) | rfl)
  cases k3 : decide (m / 8 ≤ 128)
  ·
    refine ⟨_, _, _, run_tri hX hT hL (bk_e_long [] ys c m d) ?_ rfl⟩
    simp only [Alls, avLen, Nat.zero_add, List.take_zero, List.drop_zero, List.nil_append, List.length_nil, ex1, exw, e88, ert, ey1, eyr, ewr, em8, Nat.zero_mul, Nat.zero_div, mlI_eq, rg]
    repeat' (first | with_reducible exact trivial | with_reducible apply And.intro)
    all_goals first | with_reducible assumption | omega | with_reducible rfl | (first | exact k0 | exact k1 | exact k3 | exact z | exact w0 | exact z8 | exact z8w | exact e50 | exact decide_eq_true rfl | exact Byts.nil | exact Fl.of rfl | exact Ints.of (l := []) | rfl)
  ·
    have kw := wrOk_rdL hy (m / 8) 0 (by omega) k2
    have z8 : decide (m / 8 = 0) = false := by
      have k1' : m ≠ 0 := by simpa using k1
      simp only [decide_eq_false_iff_not]; omega
    refine ⟨_, _, _, run_tri hX hT hL (bk_e_ok [] ys c m d) ?_ rfl⟩
    simp only [Alls, avLen, Nat.zero_add, List.take_zero, List.drop_zero, List.nil_append, List.length_nil, ex1, exw, e88, ert, ey1, eyr, ewr, em8, Nat.zero_mul, Nat.zero_div, mlI_eq, rg]
    repeat' (first | with_reducible exact trivial | with_reducible apply And.intro)
    all_goals first | with_reducible assumption | omega | with_reducible rfl | (first | exact k0 | exact k1 | exact k3 | exact z | exact w0 | exact z8 | exact z8w | exact e50 | exact decide_eq_true rfl | exact Byts.nil | exact Fl.of rfl | exact Ints.of (l := []) | rfl)
theorem bk_ns {ys : List Value} {m d : Nat} (hy : Byts ys) (hm : ys.length = m) (hd : m ≤ d ∧ d ≤ 9223372036854775807) :
    RunsTrue Try.prog 8 [.slice none 0 0, cbB m d] [(1, ⟨.old, ys⟩)] 2 := by
  have hX : XOkZ bkV Try.prog := noXz_ok rfl
  have hT : TOkZ bkV Try.prog := T_okV rfl bkT_one
  have hL : LOkZ bkV Try.prog := noL_okV rfl
  have ex1 : True := trivial
  have exw : True := trivial
  have e88 : True := trivial
  have ert : True := trivial
  have ey1 : ys.take m = ys := take_len hm
  have eyr : (rdL ys 0 (m / 8)).take (m / 8 * 2) = rdL ys 0 (m / 8) := take_len (rdL_len ys (m / 8) 0)
  have f1 := fl_byts hy
  have i4 := rdL_Ints ys (m / 8) 0
  have f4 := i4.fl
  have lr := rdL_len ys (m / 8) 0
  by_cases h2 : m ≤ 2000
  case neg =>
    refine ⟨_, _, _, run_tri hX hT hL (bk_l2n ys m d) ?_ rfl⟩
    simp only [Alls, decide_eq_true_eq, decide_eq_false_iff_not]
    repeat' (first | with_reducible exact trivial | with_reducible apply And.intro)
    all_goals first | with_reducible assumption | omega | with_reducible rfl | (skip)
  have g2 : decide ((m : Int) > 2000) = false := by simp only [decide_eq_false_iff_not]; omega
  cases k0 : decide (m % 8 = 0)
  ·
    have ewr : True := trivial
    have em8 : True := trivial
    refine ⟨_, _, _, run_tri hX hT hL (bk_n_bad ys m d) ?_ rfl⟩
    simp only [Alls, avLen, Nat.zero_add, List.take_zero, List.drop_zero, List.nil_append, List.length_nil, ex1, exw, e88, ert, ey1, eyr, ewr, em8, Nat.zero_mul, Nat.zero_div, mlI_eq, rg]
    repeat' (first | with_reducible exact trivial | with_reducible apply And.intro)
    all_goals first | with_reducible assumption | omega | with_reducible rfl | (first | exact k0 | exact k1 | exact k3 | exact z | exact w0 | exact z8 | exact z8w | exact e50 | exact decide_eq_true rfl | exact Byts.nil | exact Fl.of rfl | exact Ints.of (l := []) | rfl)
  have k0' : m % 8 = 0 := by simpa using k0
  have em8 : m / 8 * 8 = m := by omega
  have ewr : wrL (rdL ys 0 (m / 8)) 0 (m / 8) = ys := by
    rw [wrL_rdL hy (m / 8) 0 (by omega), List.drop_zero, em8]; exact ey1
  cases k1 : decide (m = 0)
  case true =>
    have k1' : m = 0 := by simpa using k1
    subst k1'
    obtain rfl : ys = [] := List.eq_nil_of_length_eq_zero (by omega)
    refine ⟨_, _, _, run_tri hX hT hL (bk_n_nil [] 0 d) ?_ rfl⟩
    simp only [Alls, avLen, Nat.zero_add, List.take_zero, List.drop_zero, List.nil_append, List.length_nil, ex1, exw, e88, ert, ey1, eyr, ewr, em8, Nat.zero_mul, Nat.zero_div, mlI_eq, rg]
    repeat' (first | with_reducible exact trivial | with_reducible apply And.intro)
    all_goals first | with_reducible assumption | omega | with_reducible rfl | (first | exact k0 | exact k1 | exact k3 | exact z | exact w0 | exact z8 | exact z8w | exact e50 | exact decide_eq_true rfl | exact Byts.nil | exact Fl.of rfl | exact Ints.of (l := []) | rfl)
  cases k2 : rdOk ys 0 (m / 8)
  ·
    refine ⟨_, _, _, run_tri hX hT hL (bk_n_not ys m d) ?_ rfl⟩
    simp only [Alls, avLen, Nat.zero_add, List.take_zero, List.drop_zero, List.nil_append, List.length_nil, ex1, exw, e88, ert, ey1, eyr, ewr, em8, Nat.zero_mul, Nat.zero_div, mlI_eq, rg]
    repeat' (first | with_reducible exact trivial | with_reducible apply And.intro)
    all_goals first | with_reducible assumption | omega | with_reducible rfl | (first | exact k0 | exact k1 | exact k3 | exact z | exact w0 | exact z8 | exact z8w | exact e50 | exact decide_eq_true rfl | exact Byts.nil | exact Fl.of rfl | exact Ints.of (l := []) | rfl)
  cases k3 : decide (m / 8 ≤ 128)
  ·
    refine ⟨_, _, _, run_tri hX hT hL (bk_n_long ys m d) ?_ rfl⟩
    simp only [Alls, avLen, Nat.zero_add, List.take_zero, List.drop_zero, List.nil_append, List.length_nil, ex1, exw, e88, ert, ey1, eyr, ewr, em8, Nat.zero_mul, Nat.zero_div, mlI_eq, rg]
    repeat' (first | with_reducible exact trivial | with_reducible apply And.intro)
    all_goals first | with_reducible assumption | omega | with_reducible rfl | (first | exact k0 | exact k1 | exact k3 | exact z | exact w0 | exact z8 | exact z8w | exact e50 | exact decide_eq_true rfl | exact Byts.nil | exact Fl.of rfl | exact Ints.of (l := []) | rfl)
  ·
    have kw := wrOk_rdL hy (m / 8) 0 (by omega) k2
    have z8 : decide (m / 8 = 0) = false := by
      have k1' : m ≠ 0 := by simpa using k1
      simp only [decide_eq_false_iff_not]; omega
    refine ⟨_, _, _, run_tri hX hT hL (bk_n_ok ys m d) ?_ rfl⟩
    simp only [Alls, avLen, Nat.zero_add, List.take_zero, List.drop_zero, List.nil_append, List.length_nil, ex1, exw, e88, ert, ey1, eyr, ewr, em8, Nat.zero_mul, Nat.zero_div, mlI_eq, rg]
    repeat' (first | with_reducible exact trivial | with_reducible apply And.intro)
    all_goals first | with_reducible assumption | omega | with_reducible rfl | (first | exact k0 | exact k1 | exact k3 | exact z | exact w0 | exact z8 | exact z8w | exact e50 | exact decide_eq_true rfl | exact Byts.nil | exact Fl.of rfl | exact Ints.of (l := []) | rfl)
end Go.Proofs.Ytmjmdjcgjmjigaa
