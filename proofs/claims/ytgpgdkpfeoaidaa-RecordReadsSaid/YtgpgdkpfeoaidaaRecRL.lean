/-
  Chapter 02: the statement RecordReads, run at any bytes.
-/
import Derived.Test.YtgpgdkpfeoaidaaRecRr
namespace Go.Proofs.Ytgpgdkpfeoaidaa
set_option linter.unusedSimpArgs false
set_option linter.unusedVariables false
set_option linter.unusedSectionVars false
open Go Go.RowKit

def rrlT : TFun := orTz (mkT 14 [] gTrueY) (orTz (mkT 20 [.c 1, .s 1] gKept) (orTz kitT rrT))
theorem rrlT_one : TOneZ Try.prog rrlT := orTz_ok (mkT_one aw_gok) (orTz_ok (mkT_one kept_ok) (orTz_ok kitT_one rrT_one))
def rrlV : Tv := ⟨rrlT, noXz, noL, fun f => bif Nat.beq f 4 then [14, 39, 48, 58] else [], allSy 4 [], fun _ => [], fun _ => 0⟩
theorem rr_l (xs : List Value) (n c : Nat) : runZ rrlV Try.prog 5 4 [.slice (some ⟨0, 0, none⟩) n c] [(0, ⟨.old, xs⟩)] 1 [true] =
Res.ok
  ((Value.bool true, [((0 : Nat), Rw.mk Kd.old xs)], (1 : Nat), []), [], [decide ((↑n : Int) > (1000 : Int)) = true]) := by kernel_rfl
theorem rr_b (xs : List Value) (n c : Nat) : runZ rrlV Try.prog 5 4 [.slice (some ⟨0, 0, none⟩) n c] [(0, ⟨.old, xs⟩)] 1 ([false] ++ [true, true, true, true] ++ [true, true, true]) =
Res.ok
  ((Value.bool true, [((0 : Nat), Rw.mk Kd.old xs)], (6 : Nat), []), [],
    [decide ((↑n : Int) > (1000 : Int)) = false, n ≤ c ∧ c ≤ (9223372036854775807 : Nat), n ≤ List.length xs,
      Fl (List.take n xs), Byts (List.take n xs), avLen (Av.sl (List.take n xs) n) ≤ (1099511627776 : Nat),
      avLen (Av.sl (List.take n xs) n) ≤ avLen (Av.sl (List.take n xs) n) + (3 : Nat) ∧
        avLen (Av.sl (List.take n xs) n) + (3 : Nat) ≤ (9223372036854775807 : Nat),
      avLen (Av.sl (List.take n xs) n) ≤
        List.length
          (List.take n xs ++
            [Value.int IntKind.u8
                (↑(((160 : Nat) + avLen (Av.sl (List.take n xs) n) % (90 : Nat)) % (256 : Nat)) : Int),
              Value.int IntKind.u8
                (↑(((160 : Nat) + (avLen (Av.sl (List.take n xs) n) + (1 : Nat)) % (90 : Nat)) % (256 : Nat)) : Int),
              Value.int IntKind.u8
                (↑(((160 : Nat) + (avLen (Av.sl (List.take n xs) n) + (1 : Nat) + (1 : Nat)) % (90 : Nat)) %
                      (256 : Nat)) :
                  Int)]),
      Fl
        (List.take (avLen (Av.sl (List.take n xs) n))
          (List.take n xs ++
            [Value.int IntKind.u8
                (↑(((160 : Nat) + avLen (Av.sl (List.take n xs) n) % (90 : Nat)) % (256 : Nat)) : Int),
              Value.int IntKind.u8
                (↑(((160 : Nat) + (avLen (Av.sl (List.take n xs) n) + (1 : Nat)) % (90 : Nat)) % (256 : Nat)) : Int),
              Value.int IntKind.u8
                (↑(((160 : Nat) + (avLen (Av.sl (List.take n xs) n) + (1 : Nat) + (1 : Nat)) % (90 : Nat)) %
                      (256 : Nat)) :
                  Int)])),
      avLen
          (Av.sl
            (List.take (avLen (Av.sl (List.take n xs) n))
              (List.take n xs ++
                [Value.int IntKind.u8
                    (↑(((160 : Nat) + avLen (Av.sl (List.take n xs) n) % (90 : Nat)) % (256 : Nat)) : Int),
                  Value.int IntKind.u8
                    (↑(((160 : Nat) + (avLen (Av.sl (List.take n xs) n) + (1 : Nat)) % (90 : Nat)) % (256 : Nat)) :
                      Int),
                  Value.int IntKind.u8
                    (↑(((160 : Nat) + (avLen (Av.sl (List.take n xs) n) + (1 : Nat) + (1 : Nat)) % (90 : Nat)) %
                          (256 : Nat)) :
                      Int)]))
            (avLen (Av.sl (List.take n xs) n))) ≠
        (128 : Nat),
      (19 : Nat) ≤ (19 : Nat), n ≤ c ∧ c ≤ (9223372036854775807 : Nat), n ≤ List.length xs, Fl (List.take n xs),
      avLen (Av.sl (List.take n xs) n) ≠ (128 : Nat), (19 : Nat) ≤ (19 : Nat),
      avLen (Av.sl (List.take n xs) n) ≤ avLen (Av.sl (List.take n xs) n) + (3 : Nat) ∧
        avLen (Av.sl (List.take n xs) n) + (3 : Nat) ≤ (9223372036854775807 : Nat),
      avLen (Av.sl (List.take n xs) n) ≤
        List.length
          (List.take n xs ++
            [Value.int IntKind.u8
                (↑(((160 : Nat) + avLen (Av.sl (List.take n xs) n) % (90 : Nat)) % (256 : Nat)) : Int),
              Value.int IntKind.u8
                (↑(((160 : Nat) + (avLen (Av.sl (List.take n xs) n) + (1 : Nat)) % (90 : Nat)) % (256 : Nat)) : Int),
              Value.int IntKind.u8
                (↑(((160 : Nat) + (avLen (Av.sl (List.take n xs) n) + (1 : Nat) + (1 : Nat)) % (90 : Nat)) %
                      (256 : Nat)) :
                  Int)]),
      Fl
        (List.take (avLen (Av.sl (List.take n xs) n))
          (List.take n xs ++
            [Value.int IntKind.u8
                (↑(((160 : Nat) + avLen (Av.sl (List.take n xs) n) % (90 : Nat)) % (256 : Nat)) : Int),
              Value.int IntKind.u8
                (↑(((160 : Nat) + (avLen (Av.sl (List.take n xs) n) + (1 : Nat)) % (90 : Nat)) % (256 : Nat)) : Int),
              Value.int IntKind.u8
                (↑(((160 : Nat) + (avLen (Av.sl (List.take n xs) n) + (1 : Nat) + (1 : Nat)) % (90 : Nat)) %
                      (256 : Nat)) :
                  Int)])),
      avLen
          (Av.sl
            (List.take (avLen (Av.sl (List.take n xs) n))
              (List.take n xs ++
                [Value.int IntKind.u8
                    (↑(((160 : Nat) + avLen (Av.sl (List.take n xs) n) % (90 : Nat)) % (256 : Nat)) : Int),
                  Value.int IntKind.u8
                    (↑(((160 : Nat) + (avLen (Av.sl (List.take n xs) n) + (1 : Nat)) % (90 : Nat)) % (256 : Nat)) :
                      Int),
                  Value.int IntKind.u8
                    (↑(((160 : Nat) + (avLen (Av.sl (List.take n xs) n) + (1 : Nat) + (1 : Nat)) % (90 : Nat)) %
                          (256 : Nat)) :
                      Int)]))
            (avLen (Av.sl (List.take n xs) n))) ≠
        (128 : Nat),
      (19 : Nat) ≤ (19 : Nat), n ≤ c ∧ c ≤ (9223372036854775807 : Nat), n ≤ List.length xs, Fl (List.take n xs),
      avLen (Av.sl (List.take n xs) n) ≠ (128 : Nat), (19 : Nat) ≤ (19 : Nat),
      [Value.int IntKind.u64 (0 : Int), Value.int IntKind.u64 (0 : Int), Value.int IntKind.u64 (0 : Int),
          Value.int IntKind.u64 (0 : Int), Value.int IntKind.u64 (0 : Int), Value.int IntKind.u64 (0 : Int),
          Value.int IntKind.u64 (0 : Int), Value.int IntKind.u64 (0 : Int), Value.int IntKind.u64 (0 : Int),
          Value.int IntKind.u64 (0 : Int), Value.int IntKind.u64 (0 : Int), Value.int IntKind.u64 (0 : Int),
          Value.int IntKind.u64 (0 : Int), Value.int IntKind.u32 (0 : Int), Value.int IntKind.u32 (0 : Int),
          Value.int IntKind.u32 (0 : Int), Value.int IntKind.u16 (0 : Int), Value.int IntKind.u16 (0 : Int),
          Value.int IntKind.u64 (0 : Int)] =
        [Value.int IntKind.u64 (0 : Int), Value.int IntKind.u64 (0 : Int), Value.int IntKind.u64 (0 : Int),
          Value.int IntKind.u64 (0 : Int), Value.int IntKind.u64 (0 : Int), Value.int IntKind.u64 (0 : Int),
          Value.int IntKind.u64 (0 : Int), Value.int IntKind.u64 (0 : Int), Value.int IntKind.u64 (0 : Int),
          Value.int IntKind.u64 (0 : Int), Value.int IntKind.u64 (0 : Int), Value.int IntKind.u64 (0 : Int),
          Value.int IntKind.u64 (0 : Int), Value.int IntKind.u32 (0 : Int), Value.int IntKind.u32 (0 : Int),
          Value.int IntKind.u32 (0 : Int), Value.int IntKind.u16 (0 : Int), Value.int IntKind.u16 (0 : Int),
          Value.int IntKind.u64 (0 : Int)],
      [Value.int IntKind.u64 (0 : Int), Value.int IntKind.u64 (0 : Int), Value.int IntKind.u64 (0 : Int),
          Value.int IntKind.u64 (0 : Int), Value.int IntKind.u64 (0 : Int), Value.int IntKind.u64 (0 : Int),
          Value.int IntKind.u64 (0 : Int), Value.int IntKind.u64 (0 : Int), Value.int IntKind.u64 (0 : Int),
          Value.int IntKind.u64 (0 : Int), Value.int IntKind.u64 (0 : Int), Value.int IntKind.u64 (0 : Int),
          Value.int IntKind.u64 (0 : Int), Value.int IntKind.u32 (0 : Int), Value.int IntKind.u32 (0 : Int),
          Value.int IntKind.u32 (0 : Int), Value.int IntKind.u16 (0 : Int), Value.int IntKind.u16 (0 : Int),
          Value.int IntKind.u64 (0 : Int)] =
        [Value.int IntKind.u64 (0 : Int), Value.int IntKind.u64 (0 : Int), Value.int IntKind.u64 (0 : Int),
          Value.int IntKind.u64 (0 : Int), Value.int IntKind.u64 (0 : Int), Value.int IntKind.u64 (0 : Int),
          Value.int IntKind.u64 (0 : Int), Value.int IntKind.u64 (0 : Int), Value.int IntKind.u64 (0 : Int),
          Value.int IntKind.u64 (0 : Int), Value.int IntKind.u64 (0 : Int), Value.int IntKind.u64 (0 : Int),
          Value.int IntKind.u64 (0 : Int), Value.int IntKind.u32 (0 : Int), Value.int IntKind.u32 (0 : Int),
          Value.int IntKind.u32 (0 : Int), Value.int IntKind.u16 (0 : Int), Value.int IntKind.u16 (0 : Int),
          Value.int IntKind.u64 (0 : Int)],
      true = true,
      [Value.int IntKind.u64 (0 : Int), Value.int IntKind.u64 (0 : Int), Value.int IntKind.u64 (0 : Int),
          Value.int IntKind.u64 (0 : Int), Value.int IntKind.u64 (0 : Int), Value.int IntKind.u64 (0 : Int),
          Value.int IntKind.u64 (0 : Int), Value.int IntKind.u64 (0 : Int), Value.int IntKind.u64 (0 : Int),
          Value.int IntKind.u64 (0 : Int), Value.int IntKind.u64 (0 : Int), Value.int IntKind.u64 (0 : Int),
          Value.int IntKind.u64 (0 : Int), Value.int IntKind.u32 (0 : Int), Value.int IntKind.u32 (0 : Int),
          Value.int IntKind.u32 (0 : Int), Value.int IntKind.u16 (0 : Int), Value.int IntKind.u16 (0 : Int),
          Value.int IntKind.u64 (0 : Int)] =
        [Value.int IntKind.u64 (0 : Int), Value.int IntKind.u64 (0 : Int), Value.int IntKind.u64 (0 : Int),
          Value.int IntKind.u64 (0 : Int), Value.int IntKind.u64 (0 : Int), Value.int IntKind.u64 (0 : Int),
          Value.int IntKind.u64 (0 : Int), Value.int IntKind.u64 (0 : Int), Value.int IntKind.u64 (0 : Int),
          Value.int IntKind.u64 (0 : Int), Value.int IntKind.u64 (0 : Int), Value.int IntKind.u64 (0 : Int),
          Value.int IntKind.u64 (0 : Int), Value.int IntKind.u32 (0 : Int), Value.int IntKind.u32 (0 : Int),
          Value.int IntKind.u32 (0 : Int), Value.int IntKind.u16 (0 : Int), Value.int IntKind.u16 (0 : Int),
          Value.int IntKind.u64 (0 : Int)],
      [Value.int IntKind.u64 (0 : Int), Value.int IntKind.u64 (0 : Int), Value.int IntKind.u64 (0 : Int),
          Value.int IntKind.u64 (0 : Int), Value.int IntKind.u64 (0 : Int), Value.int IntKind.u64 (0 : Int),
          Value.int IntKind.u64 (0 : Int), Value.int IntKind.u64 (0 : Int), Value.int IntKind.u64 (0 : Int),
          Value.int IntKind.u64 (0 : Int), Value.int IntKind.u64 (0 : Int), Value.int IntKind.u64 (0 : Int),
          Value.int IntKind.u64 (0 : Int), Value.int IntKind.u32 (0 : Int), Value.int IntKind.u32 (0 : Int),
          Value.int IntKind.u32 (0 : Int), Value.int IntKind.u16 (0 : Int), Value.int IntKind.u16 (0 : Int),
          Value.int IntKind.u64 (0 : Int)] =
        [Value.int IntKind.u64 (0 : Int), Value.int IntKind.u64 (0 : Int), Value.int IntKind.u64 (0 : Int),
          Value.int IntKind.u64 (0 : Int), Value.int IntKind.u64 (0 : Int), Value.int IntKind.u64 (0 : Int),
          Value.int IntKind.u64 (0 : Int), Value.int IntKind.u64 (0 : Int), Value.int IntKind.u64 (0 : Int),
          Value.int IntKind.u64 (0 : Int), Value.int IntKind.u64 (0 : Int), Value.int IntKind.u64 (0 : Int),
          Value.int IntKind.u64 (0 : Int), Value.int IntKind.u32 (0 : Int), Value.int IntKind.u32 (0 : Int),
          Value.int IntKind.u32 (0 : Int), Value.int IntKind.u16 (0 : Int), Value.int IntKind.u16 (0 : Int),
          Value.int IntKind.u64 (0 : Int)],
      true = true, avLen (Av.sl (List.take n xs) n) + (3 : Nat) ≤ (9223372036854775807 : Nat),
      avLen (Av.sl (List.take n xs) n) + (3 : Nat) ≤
        List.length
          (List.take n xs ++
            [Value.int IntKind.u8
                (↑(((160 : Nat) + avLen (Av.sl (List.take n xs) n) % (90 : Nat)) % (256 : Nat)) : Int),
              Value.int IntKind.u8
                (↑(((160 : Nat) + (avLen (Av.sl (List.take n xs) n) + (1 : Nat)) % (90 : Nat)) % (256 : Nat)) : Int),
              Value.int IntKind.u8
                (↑(((160 : Nat) + (avLen (Av.sl (List.take n xs) n) + (1 : Nat) + (1 : Nat)) % (90 : Nat)) %
                      (256 : Nat)) :
                  Int)]),
      Fl
        (List.take (avLen (Av.sl (List.take n xs) n) + (3 : Nat))
          (List.take n xs ++
            [Value.int IntKind.u8
                (↑(((160 : Nat) + avLen (Av.sl (List.take n xs) n) % (90 : Nat)) % (256 : Nat)) : Int),
              Value.int IntKind.u8
                (↑(((160 : Nat) + (avLen (Av.sl (List.take n xs) n) + (1 : Nat)) % (90 : Nat)) % (256 : Nat)) : Int),
              Value.int IntKind.u8
                (↑(((160 : Nat) + (avLen (Av.sl (List.take n xs) n) + (1 : Nat) + (1 : Nat)) % (90 : Nat)) %
                      (256 : Nat)) :
                  Int)])),
      n ≤ c ∧ c ≤ (9223372036854775807 : Nat), n ≤ List.length xs, Fl (List.take n xs),
      Byts
        (List.take (avLen (Av.sl (List.take n xs) n) + (3 : Nat))
          (List.take n xs ++
            [Value.int IntKind.u8
                (↑(((160 : Nat) + avLen (Av.sl (List.take n xs) n) % (90 : Nat)) % (256 : Nat)) : Int),
              Value.int IntKind.u8
                (↑(((160 : Nat) + (avLen (Av.sl (List.take n xs) n) + (1 : Nat)) % (90 : Nat)) % (256 : Nat)) : Int),
              Value.int IntKind.u8
                (↑(((160 : Nat) + (avLen (Av.sl (List.take n xs) n) + (1 : Nat) + (1 : Nat)) % (90 : Nat)) %
                      (256 : Nat)) :
                  Int)])),
      Byts (List.take n xs), avLen (Av.sl (List.take n xs) n) = avLen (Av.sl (List.take n xs) n),
      avLen (Av.sl (List.take n xs) n) + (3 : Nat) = avLen (Av.sl (List.take n xs) n) + (3 : Nat),
      avLen (Av.sl (List.take n xs) n) ≤ (1099511627776 : Nat),
      decide
          (intsOf
              (List.take (avLen (Av.sl (List.take n xs) n) + (3 : Nat))
                (List.take n xs ++
                  [Value.int IntKind.u8
                      (↑(((160 : Nat) + avLen (Av.sl (List.take n xs) n) % (90 : Nat)) % (256 : Nat)) : Int),
                    Value.int IntKind.u8
                      (↑(((160 : Nat) + (avLen (Av.sl (List.take n xs) n) + (1 : Nat)) % (90 : Nat)) % (256 : Nat)) :
                        Int),
                    Value.int IntKind.u8
                      (↑(((160 : Nat) + (avLen (Av.sl (List.take n xs) n) + (1 : Nat) + (1 : Nat)) % (90 : Nat)) %
                            (256 : Nat)) :
                        Int)])) =
            intsOf
              (List.take n xs ++
                [Value.int IntKind.u8
                    (↑(((160 : Nat) + avLen (Av.sl (List.take n xs) n) % (90 : Nat)) % (256 : Nat)) : Int),
                  Value.int IntKind.u8
                    (↑(((160 : Nat) + (avLen (Av.sl (List.take n xs) n) + (1 : Nat)) % (90 : Nat)) % (256 : Nat)) :
                      Int),
                  Value.int IntKind.u8
                    (↑(((160 : Nat) + (avLen (Av.sl (List.take n xs) n) + (1 : Nat) + (1 : Nat)) % (90 : Nat)) %
                          (256 : Nat)) :
                      Int)])) =
        true]) := by kernel_rfl
theorem rr_o (xs : List Value) (n c : Nat) : runZ rrlV Try.prog 5 4 [.slice (some ⟨0, 0, none⟩) n c] [(0, ⟨.old, xs⟩)] 1 ([false] ++ [false, false, false, false] ++ [true, true, true]) =
Res.ok
  ((Value.bool true, [((0 : Nat), Rw.mk Kd.old xs)], (6 : Nat), []), [],
    [decide ((↑n : Int) > (1000 : Int)) = false, n ≤ c ∧ c ≤ (9223372036854775807 : Nat), n ≤ List.length xs,
      Fl (List.take n xs), Byts (List.take n xs), avLen (Av.sl (List.take n xs) n) ≤ (1099511627776 : Nat),
      avLen (Av.sl (List.take n xs) n) ≤ avLen (Av.sl (List.take n xs) n) + (3 : Nat) ∧
        avLen (Av.sl (List.take n xs) n) + (3 : Nat) ≤ (9223372036854775807 : Nat),
      avLen (Av.sl (List.take n xs) n) ≤
        List.length
          (List.take n xs ++
            [Value.int IntKind.u8
                (↑(((160 : Nat) + avLen (Av.sl (List.take n xs) n) % (90 : Nat)) % (256 : Nat)) : Int),
              Value.int IntKind.u8
                (↑(((160 : Nat) + (avLen (Av.sl (List.take n xs) n) + (1 : Nat)) % (90 : Nat)) % (256 : Nat)) : Int),
              Value.int IntKind.u8
                (↑(((160 : Nat) + (avLen (Av.sl (List.take n xs) n) + (1 : Nat) + (1 : Nat)) % (90 : Nat)) %
                      (256 : Nat)) :
                  Int)]),
      Fl
        (List.take (avLen (Av.sl (List.take n xs) n))
          (List.take n xs ++
            [Value.int IntKind.u8
                (↑(((160 : Nat) + avLen (Av.sl (List.take n xs) n) % (90 : Nat)) % (256 : Nat)) : Int),
              Value.int IntKind.u8
                (↑(((160 : Nat) + (avLen (Av.sl (List.take n xs) n) + (1 : Nat)) % (90 : Nat)) % (256 : Nat)) : Int),
              Value.int IntKind.u8
                (↑(((160 : Nat) + (avLen (Av.sl (List.take n xs) n) + (1 : Nat) + (1 : Nat)) % (90 : Nat)) %
                      (256 : Nat)) :
                  Int)])),
      Byts
        (List.take (avLen (Av.sl (List.take n xs) n))
          (List.take n xs ++
            [Value.int IntKind.u8
                (↑(((160 : Nat) + avLen (Av.sl (List.take n xs) n) % (90 : Nat)) % (256 : Nat)) : Int),
              Value.int IntKind.u8
                (↑(((160 : Nat) + (avLen (Av.sl (List.take n xs) n) + (1 : Nat)) % (90 : Nat)) % (256 : Nat)) : Int),
              Value.int IntKind.u8
                (↑(((160 : Nat) + (avLen (Av.sl (List.take n xs) n) + (1 : Nat) + (1 : Nat)) % (90 : Nat)) %
                      (256 : Nat)) :
                  Int)])),
      avLen
          (Av.sl
            (List.take (avLen (Av.sl (List.take n xs) n))
              (List.take n xs ++
                [Value.int IntKind.u8
                    (↑(((160 : Nat) + avLen (Av.sl (List.take n xs) n) % (90 : Nat)) % (256 : Nat)) : Int),
                  Value.int IntKind.u8
                    (↑(((160 : Nat) + (avLen (Av.sl (List.take n xs) n) + (1 : Nat)) % (90 : Nat)) % (256 : Nat)) :
                      Int),
                  Value.int IntKind.u8
                    (↑(((160 : Nat) + (avLen (Av.sl (List.take n xs) n) + (1 : Nat) + (1 : Nat)) % (90 : Nat)) %
                          (256 : Nat)) :
                      Int)]))
            (avLen (Av.sl (List.take n xs) n))) =
        (128 : Nat),
      (19 : Nat) ≤ (19 : Nat), n ≤ c ∧ c ≤ (9223372036854775807 : Nat), n ≤ List.length xs, Fl (List.take n xs),
      Byts (List.take n xs), avLen (Av.sl (List.take n xs) n) = (128 : Nat), (19 : Nat) ≤ (19 : Nat),
      avLen (Av.sl (List.take n xs) n) ≤ avLen (Av.sl (List.take n xs) n) + (3 : Nat) ∧
        avLen (Av.sl (List.take n xs) n) + (3 : Nat) ≤ (9223372036854775807 : Nat),
      avLen (Av.sl (List.take n xs) n) ≤
        List.length
          (List.take n xs ++
            [Value.int IntKind.u8
                (↑(((160 : Nat) + avLen (Av.sl (List.take n xs) n) % (90 : Nat)) % (256 : Nat)) : Int),
              Value.int IntKind.u8
                (↑(((160 : Nat) + (avLen (Av.sl (List.take n xs) n) + (1 : Nat)) % (90 : Nat)) % (256 : Nat)) : Int),
              Value.int IntKind.u8
                (↑(((160 : Nat) + (avLen (Av.sl (List.take n xs) n) + (1 : Nat) + (1 : Nat)) % (90 : Nat)) %
                      (256 : Nat)) :
                  Int)]),
      Fl
        (List.take (avLen (Av.sl (List.take n xs) n))
          (List.take n xs ++
            [Value.int IntKind.u8
                (↑(((160 : Nat) + avLen (Av.sl (List.take n xs) n) % (90 : Nat)) % (256 : Nat)) : Int),
              Value.int IntKind.u8
                (↑(((160 : Nat) + (avLen (Av.sl (List.take n xs) n) + (1 : Nat)) % (90 : Nat)) % (256 : Nat)) : Int),
              Value.int IntKind.u8
                (↑(((160 : Nat) + (avLen (Av.sl (List.take n xs) n) + (1 : Nat) + (1 : Nat)) % (90 : Nat)) %
                      (256 : Nat)) :
                  Int)])),
      Byts
        (List.take (avLen (Av.sl (List.take n xs) n))
          (List.take n xs ++
            [Value.int IntKind.u8
                (↑(((160 : Nat) + avLen (Av.sl (List.take n xs) n) % (90 : Nat)) % (256 : Nat)) : Int),
              Value.int IntKind.u8
                (↑(((160 : Nat) + (avLen (Av.sl (List.take n xs) n) + (1 : Nat)) % (90 : Nat)) % (256 : Nat)) : Int),
              Value.int IntKind.u8
                (↑(((160 : Nat) + (avLen (Av.sl (List.take n xs) n) + (1 : Nat) + (1 : Nat)) % (90 : Nat)) %
                      (256 : Nat)) :
                  Int)])),
      avLen
          (Av.sl
            (List.take (avLen (Av.sl (List.take n xs) n))
              (List.take n xs ++
                [Value.int IntKind.u8
                    (↑(((160 : Nat) + avLen (Av.sl (List.take n xs) n) % (90 : Nat)) % (256 : Nat)) : Int),
                  Value.int IntKind.u8
                    (↑(((160 : Nat) + (avLen (Av.sl (List.take n xs) n) + (1 : Nat)) % (90 : Nat)) % (256 : Nat)) :
                      Int),
                  Value.int IntKind.u8
                    (↑(((160 : Nat) + (avLen (Av.sl (List.take n xs) n) + (1 : Nat) + (1 : Nat)) % (90 : Nat)) %
                          (256 : Nat)) :
                      Int)]))
            (avLen (Av.sl (List.take n xs) n))) =
        (128 : Nat),
      (19 : Nat) ≤ (19 : Nat), n ≤ c ∧ c ≤ (9223372036854775807 : Nat), n ≤ List.length xs, Fl (List.take n xs),
      Byts (List.take n xs), avLen (Av.sl (List.take n xs) n) = (128 : Nat), (19 : Nat) ≤ (19 : Nat),
      [Value.int IntKind.u64
            (r8
              (List.drop (8 : Nat)
                (List.take (avLen (Av.sl (List.take n xs) n))
                  (List.take n xs ++
                    [Value.int IntKind.u8
                        (↑(((160 : Nat) + avLen (Av.sl (List.take n xs) n) % (90 : Nat)) % (256 : Nat)) : Int),
                      Value.int IntKind.u8
                        (↑(((160 : Nat) + (avLen (Av.sl (List.take n xs) n) + (1 : Nat)) % (90 : Nat)) % (256 : Nat)) :
                          Int),
                      Value.int IntKind.u8
                        (↑(((160 : Nat) + (avLen (Av.sl (List.take n xs) n) + (1 : Nat) + (1 : Nat)) % (90 : Nat)) %
                              (256 : Nat)) :
                          Int)])))),
          Value.int IntKind.u64
            (r8
              (List.drop (0 : Nat)
                (List.take (avLen (Av.sl (List.take n xs) n))
                  (List.take n xs ++
                    [Value.int IntKind.u8
                        (↑(((160 : Nat) + avLen (Av.sl (List.take n xs) n) % (90 : Nat)) % (256 : Nat)) : Int),
                      Value.int IntKind.u8
                        (↑(((160 : Nat) + (avLen (Av.sl (List.take n xs) n) + (1 : Nat)) % (90 : Nat)) % (256 : Nat)) :
                          Int),
                      Value.int IntKind.u8
                        (↑(((160 : Nat) + (avLen (Av.sl (List.take n xs) n) + (1 : Nat) + (1 : Nat)) % (90 : Nat)) %
                              (256 : Nat)) :
                          Int)])))),
          Value.int IntKind.u64
            (r8
              (List.drop (24 : Nat)
                (List.take (avLen (Av.sl (List.take n xs) n))
                  (List.take n xs ++
                    [Value.int IntKind.u8
                        (↑(((160 : Nat) + avLen (Av.sl (List.take n xs) n) % (90 : Nat)) % (256 : Nat)) : Int),
                      Value.int IntKind.u8
                        (↑(((160 : Nat) + (avLen (Av.sl (List.take n xs) n) + (1 : Nat)) % (90 : Nat)) % (256 : Nat)) :
                          Int),
                      Value.int IntKind.u8
                        (↑(((160 : Nat) + (avLen (Av.sl (List.take n xs) n) + (1 : Nat) + (1 : Nat)) % (90 : Nat)) %
                              (256 : Nat)) :
                          Int)])))),
          Value.int IntKind.u64
            (r8
              (List.drop (16 : Nat)
                (List.take (avLen (Av.sl (List.take n xs) n))
                  (List.take n xs ++
                    [Value.int IntKind.u8
                        (↑(((160 : Nat) + avLen (Av.sl (List.take n xs) n) % (90 : Nat)) % (256 : Nat)) : Int),
                      Value.int IntKind.u8
                        (↑(((160 : Nat) + (avLen (Av.sl (List.take n xs) n) + (1 : Nat)) % (90 : Nat)) % (256 : Nat)) :
                          Int),
                      Value.int IntKind.u8
                        (↑(((160 : Nat) + (avLen (Av.sl (List.take n xs) n) + (1 : Nat) + (1 : Nat)) % (90 : Nat)) %
                              (256 : Nat)) :
                          Int)])))),
          Value.int IntKind.u64
            (r8
              (List.drop (40 : Nat)
                (List.take (avLen (Av.sl (List.take n xs) n))
                  (List.take n xs ++
                    [Value.int IntKind.u8
                        (↑(((160 : Nat) + avLen (Av.sl (List.take n xs) n) % (90 : Nat)) % (256 : Nat)) : Int),
                      Value.int IntKind.u8
                        (↑(((160 : Nat) + (avLen (Av.sl (List.take n xs) n) + (1 : Nat)) % (90 : Nat)) % (256 : Nat)) :
                          Int),
                      Value.int IntKind.u8
                        (↑(((160 : Nat) + (avLen (Av.sl (List.take n xs) n) + (1 : Nat) + (1 : Nat)) % (90 : Nat)) %
                              (256 : Nat)) :
                          Int)])))),
          Value.int IntKind.u64
            (r8
              (List.drop (32 : Nat)
                (List.take (avLen (Av.sl (List.take n xs) n))
                  (List.take n xs ++
                    [Value.int IntKind.u8
                        (↑(((160 : Nat) + avLen (Av.sl (List.take n xs) n) % (90 : Nat)) % (256 : Nat)) : Int),
                      Value.int IntKind.u8
                        (↑(((160 : Nat) + (avLen (Av.sl (List.take n xs) n) + (1 : Nat)) % (90 : Nat)) % (256 : Nat)) :
                          Int),
                      Value.int IntKind.u8
                        (↑(((160 : Nat) + (avLen (Av.sl (List.take n xs) n) + (1 : Nat) + (1 : Nat)) % (90 : Nat)) %
                              (256 : Nat)) :
                          Int)])))),
          Value.int IntKind.u64
            (r8
              (List.drop (56 : Nat)
                (List.take (avLen (Av.sl (List.take n xs) n))
                  (List.take n xs ++
                    [Value.int IntKind.u8
                        (↑(((160 : Nat) + avLen (Av.sl (List.take n xs) n) % (90 : Nat)) % (256 : Nat)) : Int),
                      Value.int IntKind.u8
                        (↑(((160 : Nat) + (avLen (Av.sl (List.take n xs) n) + (1 : Nat)) % (90 : Nat)) % (256 : Nat)) :
                          Int),
                      Value.int IntKind.u8
                        (↑(((160 : Nat) + (avLen (Av.sl (List.take n xs) n) + (1 : Nat) + (1 : Nat)) % (90 : Nat)) %
                              (256 : Nat)) :
                          Int)])))),
          Value.int IntKind.u64
            (r8
              (List.drop (48 : Nat)
                (List.take (avLen (Av.sl (List.take n xs) n))
                  (List.take n xs ++
                    [Value.int IntKind.u8
                        (↑(((160 : Nat) + avLen (Av.sl (List.take n xs) n) % (90 : Nat)) % (256 : Nat)) : Int),
                      Value.int IntKind.u8
                        (↑(((160 : Nat) + (avLen (Av.sl (List.take n xs) n) + (1 : Nat)) % (90 : Nat)) % (256 : Nat)) :
                          Int),
                      Value.int IntKind.u8
                        (↑(((160 : Nat) + (avLen (Av.sl (List.take n xs) n) + (1 : Nat) + (1 : Nat)) % (90 : Nat)) %
                              (256 : Nat)) :
                          Int)])))),
          Value.int IntKind.u64
            (r8
              (List.drop (72 : Nat)
                (List.take (avLen (Av.sl (List.take n xs) n))
                  (List.take n xs ++
                    [Value.int IntKind.u8
                        (↑(((160 : Nat) + avLen (Av.sl (List.take n xs) n) % (90 : Nat)) % (256 : Nat)) : Int),
                      Value.int IntKind.u8
                        (↑(((160 : Nat) + (avLen (Av.sl (List.take n xs) n) + (1 : Nat)) % (90 : Nat)) % (256 : Nat)) :
                          Int),
                      Value.int IntKind.u8
                        (↑(((160 : Nat) + (avLen (Av.sl (List.take n xs) n) + (1 : Nat) + (1 : Nat)) % (90 : Nat)) %
                              (256 : Nat)) :
                          Int)])))),
          Value.int IntKind.u64
            (r8
              (List.drop (64 : Nat)
                (List.take (avLen (Av.sl (List.take n xs) n))
                  (List.take n xs ++
                    [Value.int IntKind.u8
                        (↑(((160 : Nat) + avLen (Av.sl (List.take n xs) n) % (90 : Nat)) % (256 : Nat)) : Int),
                      Value.int IntKind.u8
                        (↑(((160 : Nat) + (avLen (Av.sl (List.take n xs) n) + (1 : Nat)) % (90 : Nat)) % (256 : Nat)) :
                          Int),
                      Value.int IntKind.u8
                        (↑(((160 : Nat) + (avLen (Av.sl (List.take n xs) n) + (1 : Nat) + (1 : Nat)) % (90 : Nat)) %
                              (256 : Nat)) :
                          Int)])))),
          Value.int IntKind.u64
            (r8
              (List.drop (88 : Nat)
                (List.take (avLen (Av.sl (List.take n xs) n))
                  (List.take n xs ++
                    [Value.int IntKind.u8
                        (↑(((160 : Nat) + avLen (Av.sl (List.take n xs) n) % (90 : Nat)) % (256 : Nat)) : Int),
                      Value.int IntKind.u8
                        (↑(((160 : Nat) + (avLen (Av.sl (List.take n xs) n) + (1 : Nat)) % (90 : Nat)) % (256 : Nat)) :
                          Int),
                      Value.int IntKind.u8
                        (↑(((160 : Nat) + (avLen (Av.sl (List.take n xs) n) + (1 : Nat) + (1 : Nat)) % (90 : Nat)) %
                              (256 : Nat)) :
                          Int)])))),
          Value.int IntKind.u64
            (r8
              (List.drop (80 : Nat)
                (List.take (avLen (Av.sl (List.take n xs) n))
                  (List.take n xs ++
                    [Value.int IntKind.u8
                        (↑(((160 : Nat) + avLen (Av.sl (List.take n xs) n) % (90 : Nat)) % (256 : Nat)) : Int),
                      Value.int IntKind.u8
                        (↑(((160 : Nat) + (avLen (Av.sl (List.take n xs) n) + (1 : Nat)) % (90 : Nat)) % (256 : Nat)) :
                          Int),
                      Value.int IntKind.u8
                        (↑(((160 : Nat) + (avLen (Av.sl (List.take n xs) n) + (1 : Nat) + (1 : Nat)) % (90 : Nat)) %
                              (256 : Nat)) :
                          Int)])))),
          Value.int IntKind.u64
            (r8
              (List.drop (96 : Nat)
                (List.take (avLen (Av.sl (List.take n xs) n))
                  (List.take n xs ++
                    [Value.int IntKind.u8
                        (↑(((160 : Nat) + avLen (Av.sl (List.take n xs) n) % (90 : Nat)) % (256 : Nat)) : Int),
                      Value.int IntKind.u8
                        (↑(((160 : Nat) + (avLen (Av.sl (List.take n xs) n) + (1 : Nat)) % (90 : Nat)) % (256 : Nat)) :
                          Int),
                      Value.int IntKind.u8
                        (↑(((160 : Nat) + (avLen (Av.sl (List.take n xs) n) + (1 : Nat) + (1 : Nat)) % (90 : Nat)) %
                              (256 : Nat)) :
                          Int)])))),
          Value.int IntKind.u32
            (r4
              (List.drop (104 : Nat)
                (List.take (avLen (Av.sl (List.take n xs) n))
                  (List.take n xs ++
                    [Value.int IntKind.u8
                        (↑(((160 : Nat) + avLen (Av.sl (List.take n xs) n) % (90 : Nat)) % (256 : Nat)) : Int),
                      Value.int IntKind.u8
                        (↑(((160 : Nat) + (avLen (Av.sl (List.take n xs) n) + (1 : Nat)) % (90 : Nat)) % (256 : Nat)) :
                          Int),
                      Value.int IntKind.u8
                        (↑(((160 : Nat) + (avLen (Av.sl (List.take n xs) n) + (1 : Nat) + (1 : Nat)) % (90 : Nat)) %
                              (256 : Nat)) :
                          Int)])))),
          Value.int IntKind.u32
            (r4
              (List.drop (108 : Nat)
                (List.take (avLen (Av.sl (List.take n xs) n))
                  (List.take n xs ++
                    [Value.int IntKind.u8
                        (↑(((160 : Nat) + avLen (Av.sl (List.take n xs) n) % (90 : Nat)) % (256 : Nat)) : Int),
                      Value.int IntKind.u8
                        (↑(((160 : Nat) + (avLen (Av.sl (List.take n xs) n) + (1 : Nat)) % (90 : Nat)) % (256 : Nat)) :
                          Int),
                      Value.int IntKind.u8
                        (↑(((160 : Nat) + (avLen (Av.sl (List.take n xs) n) + (1 : Nat) + (1 : Nat)) % (90 : Nat)) %
                              (256 : Nat)) :
                          Int)])))),
          Value.int IntKind.u32
            (r4
              (List.drop (112 : Nat)
                (List.take (avLen (Av.sl (List.take n xs) n))
                  (List.take n xs ++
                    [Value.int IntKind.u8
                        (↑(((160 : Nat) + avLen (Av.sl (List.take n xs) n) % (90 : Nat)) % (256 : Nat)) : Int),
                      Value.int IntKind.u8
                        (↑(((160 : Nat) + (avLen (Av.sl (List.take n xs) n) + (1 : Nat)) % (90 : Nat)) % (256 : Nat)) :
                          Int),
                      Value.int IntKind.u8
                        (↑(((160 : Nat) + (avLen (Av.sl (List.take n xs) n) + (1 : Nat) + (1 : Nat)) % (90 : Nat)) %
                              (256 : Nat)) :
                          Int)])))),
          Value.int IntKind.u16
            (r2
              (List.drop (116 : Nat)
                (List.take (avLen (Av.sl (List.take n xs) n))
                  (List.take n xs ++
                    [Value.int IntKind.u8
                        (↑(((160 : Nat) + avLen (Av.sl (List.take n xs) n) % (90 : Nat)) % (256 : Nat)) : Int),
                      Value.int IntKind.u8
                        (↑(((160 : Nat) + (avLen (Av.sl (List.take n xs) n) + (1 : Nat)) % (90 : Nat)) % (256 : Nat)) :
                          Int),
                      Value.int IntKind.u8
                        (↑(((160 : Nat) + (avLen (Av.sl (List.take n xs) n) + (1 : Nat) + (1 : Nat)) % (90 : Nat)) %
                              (256 : Nat)) :
                          Int)])))),
          Value.int IntKind.u16
            (r2
              (List.drop (118 : Nat)
                (List.take (avLen (Av.sl (List.take n xs) n))
                  (List.take n xs ++
                    [Value.int IntKind.u8
                        (↑(((160 : Nat) + avLen (Av.sl (List.take n xs) n) % (90 : Nat)) % (256 : Nat)) : Int),
                      Value.int IntKind.u8
                        (↑(((160 : Nat) + (avLen (Av.sl (List.take n xs) n) + (1 : Nat)) % (90 : Nat)) % (256 : Nat)) :
                          Int),
                      Value.int IntKind.u8
                        (↑(((160 : Nat) + (avLen (Av.sl (List.take n xs) n) + (1 : Nat) + (1 : Nat)) % (90 : Nat)) %
                              (256 : Nat)) :
                          Int)])))),
          Value.int IntKind.u64
            (r8
              (List.drop (120 : Nat)
                (List.take (avLen (Av.sl (List.take n xs) n))
                  (List.take n xs ++
                    [Value.int IntKind.u8
                        (↑(((160 : Nat) + avLen (Av.sl (List.take n xs) n) % (90 : Nat)) % (256 : Nat)) : Int),
                      Value.int IntKind.u8
                        (↑(((160 : Nat) + (avLen (Av.sl (List.take n xs) n) + (1 : Nat)) % (90 : Nat)) % (256 : Nat)) :
                          Int),
                      Value.int IntKind.u8
                        (↑(((160 : Nat) + (avLen (Av.sl (List.take n xs) n) + (1 : Nat) + (1 : Nat)) % (90 : Nat)) %
                              (256 : Nat)) :
                          Int)]))))] =
        [Value.int IntKind.u64
            (r8
              (List.drop (8 : Nat)
                (List.take (avLen (Av.sl (List.take n xs) n))
                  (List.take n xs ++
                    [Value.int IntKind.u8
                        (↑(((160 : Nat) + avLen (Av.sl (List.take n xs) n) % (90 : Nat)) % (256 : Nat)) : Int),
                      Value.int IntKind.u8
                        (↑(((160 : Nat) + (avLen (Av.sl (List.take n xs) n) + (1 : Nat)) % (90 : Nat)) % (256 : Nat)) :
                          Int),
                      Value.int IntKind.u8
                        (↑(((160 : Nat) + (avLen (Av.sl (List.take n xs) n) + (1 : Nat) + (1 : Nat)) % (90 : Nat)) %
                              (256 : Nat)) :
                          Int)])))),
          Value.int IntKind.u64
            (r8
              (List.drop (0 : Nat)
                (List.take (avLen (Av.sl (List.take n xs) n))
                  (List.take n xs ++
                    [Value.int IntKind.u8
                        (↑(((160 : Nat) + avLen (Av.sl (List.take n xs) n) % (90 : Nat)) % (256 : Nat)) : Int),
                      Value.int IntKind.u8
                        (↑(((160 : Nat) + (avLen (Av.sl (List.take n xs) n) + (1 : Nat)) % (90 : Nat)) % (256 : Nat)) :
                          Int),
                      Value.int IntKind.u8
                        (↑(((160 : Nat) + (avLen (Av.sl (List.take n xs) n) + (1 : Nat) + (1 : Nat)) % (90 : Nat)) %
                              (256 : Nat)) :
                          Int)])))),
          Value.int IntKind.u64
            (r8
              (List.drop (24 : Nat)
                (List.take (avLen (Av.sl (List.take n xs) n))
                  (List.take n xs ++
                    [Value.int IntKind.u8
                        (↑(((160 : Nat) + avLen (Av.sl (List.take n xs) n) % (90 : Nat)) % (256 : Nat)) : Int),
                      Value.int IntKind.u8
                        (↑(((160 : Nat) + (avLen (Av.sl (List.take n xs) n) + (1 : Nat)) % (90 : Nat)) % (256 : Nat)) :
                          Int),
                      Value.int IntKind.u8
                        (↑(((160 : Nat) + (avLen (Av.sl (List.take n xs) n) + (1 : Nat) + (1 : Nat)) % (90 : Nat)) %
                              (256 : Nat)) :
                          Int)])))),
          Value.int IntKind.u64
            (r8
              (List.drop (16 : Nat)
                (List.take (avLen (Av.sl (List.take n xs) n))
                  (List.take n xs ++
                    [Value.int IntKind.u8
                        (↑(((160 : Nat) + avLen (Av.sl (List.take n xs) n) % (90 : Nat)) % (256 : Nat)) : Int),
                      Value.int IntKind.u8
                        (↑(((160 : Nat) + (avLen (Av.sl (List.take n xs) n) + (1 : Nat)) % (90 : Nat)) % (256 : Nat)) :
                          Int),
                      Value.int IntKind.u8
                        (↑(((160 : Nat) + (avLen (Av.sl (List.take n xs) n) + (1 : Nat) + (1 : Nat)) % (90 : Nat)) %
                              (256 : Nat)) :
                          Int)])))),
          Value.int IntKind.u64
            (r8
              (List.drop (40 : Nat)
                (List.take (avLen (Av.sl (List.take n xs) n))
                  (List.take n xs ++
                    [Value.int IntKind.u8
                        (↑(((160 : Nat) + avLen (Av.sl (List.take n xs) n) % (90 : Nat)) % (256 : Nat)) : Int),
                      Value.int IntKind.u8
                        (↑(((160 : Nat) + (avLen (Av.sl (List.take n xs) n) + (1 : Nat)) % (90 : Nat)) % (256 : Nat)) :
                          Int),
                      Value.int IntKind.u8
                        (↑(((160 : Nat) + (avLen (Av.sl (List.take n xs) n) + (1 : Nat) + (1 : Nat)) % (90 : Nat)) %
                              (256 : Nat)) :
                          Int)])))),
          Value.int IntKind.u64
            (r8
              (List.drop (32 : Nat)
                (List.take (avLen (Av.sl (List.take n xs) n))
                  (List.take n xs ++
                    [Value.int IntKind.u8
                        (↑(((160 : Nat) + avLen (Av.sl (List.take n xs) n) % (90 : Nat)) % (256 : Nat)) : Int),
                      Value.int IntKind.u8
                        (↑(((160 : Nat) + (avLen (Av.sl (List.take n xs) n) + (1 : Nat)) % (90 : Nat)) % (256 : Nat)) :
                          Int),
                      Value.int IntKind.u8
                        (↑(((160 : Nat) + (avLen (Av.sl (List.take n xs) n) + (1 : Nat) + (1 : Nat)) % (90 : Nat)) %
                              (256 : Nat)) :
                          Int)])))),
          Value.int IntKind.u64
            (r8
              (List.drop (56 : Nat)
                (List.take (avLen (Av.sl (List.take n xs) n))
                  (List.take n xs ++
                    [Value.int IntKind.u8
                        (↑(((160 : Nat) + avLen (Av.sl (List.take n xs) n) % (90 : Nat)) % (256 : Nat)) : Int),
                      Value.int IntKind.u8
                        (↑(((160 : Nat) + (avLen (Av.sl (List.take n xs) n) + (1 : Nat)) % (90 : Nat)) % (256 : Nat)) :
                          Int),
                      Value.int IntKind.u8
                        (↑(((160 : Nat) + (avLen (Av.sl (List.take n xs) n) + (1 : Nat) + (1 : Nat)) % (90 : Nat)) %
                              (256 : Nat)) :
                          Int)])))),
          Value.int IntKind.u64
            (r8
              (List.drop (48 : Nat)
                (List.take (avLen (Av.sl (List.take n xs) n))
                  (List.take n xs ++
                    [Value.int IntKind.u8
                        (↑(((160 : Nat) + avLen (Av.sl (List.take n xs) n) % (90 : Nat)) % (256 : Nat)) : Int),
                      Value.int IntKind.u8
                        (↑(((160 : Nat) + (avLen (Av.sl (List.take n xs) n) + (1 : Nat)) % (90 : Nat)) % (256 : Nat)) :
                          Int),
                      Value.int IntKind.u8
                        (↑(((160 : Nat) + (avLen (Av.sl (List.take n xs) n) + (1 : Nat) + (1 : Nat)) % (90 : Nat)) %
                              (256 : Nat)) :
                          Int)])))),
          Value.int IntKind.u64
            (r8
              (List.drop (72 : Nat)
                (List.take (avLen (Av.sl (List.take n xs) n))
                  (List.take n xs ++
                    [Value.int IntKind.u8
                        (↑(((160 : Nat) + avLen (Av.sl (List.take n xs) n) % (90 : Nat)) % (256 : Nat)) : Int),
                      Value.int IntKind.u8
                        (↑(((160 : Nat) + (avLen (Av.sl (List.take n xs) n) + (1 : Nat)) % (90 : Nat)) % (256 : Nat)) :
                          Int),
                      Value.int IntKind.u8
                        (↑(((160 : Nat) + (avLen (Av.sl (List.take n xs) n) + (1 : Nat) + (1 : Nat)) % (90 : Nat)) %
                              (256 : Nat)) :
                          Int)])))),
          Value.int IntKind.u64
            (r8
              (List.drop (64 : Nat)
                (List.take (avLen (Av.sl (List.take n xs) n))
                  (List.take n xs ++
                    [Value.int IntKind.u8
                        (↑(((160 : Nat) + avLen (Av.sl (List.take n xs) n) % (90 : Nat)) % (256 : Nat)) : Int),
                      Value.int IntKind.u8
                        (↑(((160 : Nat) + (avLen (Av.sl (List.take n xs) n) + (1 : Nat)) % (90 : Nat)) % (256 : Nat)) :
                          Int),
                      Value.int IntKind.u8
                        (↑(((160 : Nat) + (avLen (Av.sl (List.take n xs) n) + (1 : Nat) + (1 : Nat)) % (90 : Nat)) %
                              (256 : Nat)) :
                          Int)])))),
          Value.int IntKind.u64
            (r8
              (List.drop (88 : Nat)
                (List.take (avLen (Av.sl (List.take n xs) n))
                  (List.take n xs ++
                    [Value.int IntKind.u8
                        (↑(((160 : Nat) + avLen (Av.sl (List.take n xs) n) % (90 : Nat)) % (256 : Nat)) : Int),
                      Value.int IntKind.u8
                        (↑(((160 : Nat) + (avLen (Av.sl (List.take n xs) n) + (1 : Nat)) % (90 : Nat)) % (256 : Nat)) :
                          Int),
                      Value.int IntKind.u8
                        (↑(((160 : Nat) + (avLen (Av.sl (List.take n xs) n) + (1 : Nat) + (1 : Nat)) % (90 : Nat)) %
                              (256 : Nat)) :
                          Int)])))),
          Value.int IntKind.u64
            (r8
              (List.drop (80 : Nat)
                (List.take (avLen (Av.sl (List.take n xs) n))
                  (List.take n xs ++
                    [Value.int IntKind.u8
                        (↑(((160 : Nat) + avLen (Av.sl (List.take n xs) n) % (90 : Nat)) % (256 : Nat)) : Int),
                      Value.int IntKind.u8
                        (↑(((160 : Nat) + (avLen (Av.sl (List.take n xs) n) + (1 : Nat)) % (90 : Nat)) % (256 : Nat)) :
                          Int),
                      Value.int IntKind.u8
                        (↑(((160 : Nat) + (avLen (Av.sl (List.take n xs) n) + (1 : Nat) + (1 : Nat)) % (90 : Nat)) %
                              (256 : Nat)) :
                          Int)])))),
          Value.int IntKind.u64
            (r8
              (List.drop (96 : Nat)
                (List.take (avLen (Av.sl (List.take n xs) n))
                  (List.take n xs ++
                    [Value.int IntKind.u8
                        (↑(((160 : Nat) + avLen (Av.sl (List.take n xs) n) % (90 : Nat)) % (256 : Nat)) : Int),
                      Value.int IntKind.u8
                        (↑(((160 : Nat) + (avLen (Av.sl (List.take n xs) n) + (1 : Nat)) % (90 : Nat)) % (256 : Nat)) :
                          Int),
                      Value.int IntKind.u8
                        (↑(((160 : Nat) + (avLen (Av.sl (List.take n xs) n) + (1 : Nat) + (1 : Nat)) % (90 : Nat)) %
                              (256 : Nat)) :
                          Int)])))),
          Value.int IntKind.u32
            (r4
              (List.drop (104 : Nat)
                (List.take (avLen (Av.sl (List.take n xs) n))
                  (List.take n xs ++
                    [Value.int IntKind.u8
                        (↑(((160 : Nat) + avLen (Av.sl (List.take n xs) n) % (90 : Nat)) % (256 : Nat)) : Int),
                      Value.int IntKind.u8
                        (↑(((160 : Nat) + (avLen (Av.sl (List.take n xs) n) + (1 : Nat)) % (90 : Nat)) % (256 : Nat)) :
                          Int),
                      Value.int IntKind.u8
                        (↑(((160 : Nat) + (avLen (Av.sl (List.take n xs) n) + (1 : Nat) + (1 : Nat)) % (90 : Nat)) %
                              (256 : Nat)) :
                          Int)])))),
          Value.int IntKind.u32
            (r4
              (List.drop (108 : Nat)
                (List.take (avLen (Av.sl (List.take n xs) n))
                  (List.take n xs ++
                    [Value.int IntKind.u8
                        (↑(((160 : Nat) + avLen (Av.sl (List.take n xs) n) % (90 : Nat)) % (256 : Nat)) : Int),
                      Value.int IntKind.u8
                        (↑(((160 : Nat) + (avLen (Av.sl (List.take n xs) n) + (1 : Nat)) % (90 : Nat)) % (256 : Nat)) :
                          Int),
                      Value.int IntKind.u8
                        (↑(((160 : Nat) + (avLen (Av.sl (List.take n xs) n) + (1 : Nat) + (1 : Nat)) % (90 : Nat)) %
                              (256 : Nat)) :
                          Int)])))),
          Value.int IntKind.u32
            (r4
              (List.drop (112 : Nat)
                (List.take (avLen (Av.sl (List.take n xs) n))
                  (List.take n xs ++
                    [Value.int IntKind.u8
                        (↑(((160 : Nat) + avLen (Av.sl (List.take n xs) n) % (90 : Nat)) % (256 : Nat)) : Int),
                      Value.int IntKind.u8
                        (↑(((160 : Nat) + (avLen (Av.sl (List.take n xs) n) + (1 : Nat)) % (90 : Nat)) % (256 : Nat)) :
                          Int),
                      Value.int IntKind.u8
                        (↑(((160 : Nat) + (avLen (Av.sl (List.take n xs) n) + (1 : Nat) + (1 : Nat)) % (90 : Nat)) %
                              (256 : Nat)) :
                          Int)])))),
          Value.int IntKind.u16
            (r2
              (List.drop (116 : Nat)
                (List.take (avLen (Av.sl (List.take n xs) n))
                  (List.take n xs ++
                    [Value.int IntKind.u8
                        (↑(((160 : Nat) + avLen (Av.sl (List.take n xs) n) % (90 : Nat)) % (256 : Nat)) : Int),
                      Value.int IntKind.u8
                        (↑(((160 : Nat) + (avLen (Av.sl (List.take n xs) n) + (1 : Nat)) % (90 : Nat)) % (256 : Nat)) :
                          Int),
                      Value.int IntKind.u8
                        (↑(((160 : Nat) + (avLen (Av.sl (List.take n xs) n) + (1 : Nat) + (1 : Nat)) % (90 : Nat)) %
                              (256 : Nat)) :
                          Int)])))),
          Value.int IntKind.u16
            (r2
              (List.drop (118 : Nat)
                (List.take (avLen (Av.sl (List.take n xs) n))
                  (List.take n xs ++
                    [Value.int IntKind.u8
                        (↑(((160 : Nat) + avLen (Av.sl (List.take n xs) n) % (90 : Nat)) % (256 : Nat)) : Int),
                      Value.int IntKind.u8
                        (↑(((160 : Nat) + (avLen (Av.sl (List.take n xs) n) + (1 : Nat)) % (90 : Nat)) % (256 : Nat)) :
                          Int),
                      Value.int IntKind.u8
                        (↑(((160 : Nat) + (avLen (Av.sl (List.take n xs) n) + (1 : Nat) + (1 : Nat)) % (90 : Nat)) %
                              (256 : Nat)) :
                          Int)])))),
          Value.int IntKind.u64
            (r8
              (List.drop (120 : Nat)
                (List.take (avLen (Av.sl (List.take n xs) n))
                  (List.take n xs ++
                    [Value.int IntKind.u8
                        (↑(((160 : Nat) + avLen (Av.sl (List.take n xs) n) % (90 : Nat)) % (256 : Nat)) : Int),
                      Value.int IntKind.u8
                        (↑(((160 : Nat) + (avLen (Av.sl (List.take n xs) n) + (1 : Nat)) % (90 : Nat)) % (256 : Nat)) :
                          Int),
                      Value.int IntKind.u8
                        (↑(((160 : Nat) + (avLen (Av.sl (List.take n xs) n) + (1 : Nat) + (1 : Nat)) % (90 : Nat)) %
                              (256 : Nat)) :
                          Int)]))))],
      [Value.int IntKind.u64 (r8 (List.drop (8 : Nat) (List.take n xs))),
          Value.int IntKind.u64 (r8 (List.drop (0 : Nat) (List.take n xs))),
          Value.int IntKind.u64 (r8 (List.drop (24 : Nat) (List.take n xs))),
          Value.int IntKind.u64 (r8 (List.drop (16 : Nat) (List.take n xs))),
          Value.int IntKind.u64 (r8 (List.drop (40 : Nat) (List.take n xs))),
          Value.int IntKind.u64 (r8 (List.drop (32 : Nat) (List.take n xs))),
          Value.int IntKind.u64 (r8 (List.drop (56 : Nat) (List.take n xs))),
          Value.int IntKind.u64 (r8 (List.drop (48 : Nat) (List.take n xs))),
          Value.int IntKind.u64 (r8 (List.drop (72 : Nat) (List.take n xs))),
          Value.int IntKind.u64 (r8 (List.drop (64 : Nat) (List.take n xs))),
          Value.int IntKind.u64 (r8 (List.drop (88 : Nat) (List.take n xs))),
          Value.int IntKind.u64 (r8 (List.drop (80 : Nat) (List.take n xs))),
          Value.int IntKind.u64 (r8 (List.drop (96 : Nat) (List.take n xs))),
          Value.int IntKind.u32 (r4 (List.drop (104 : Nat) (List.take n xs))),
          Value.int IntKind.u32 (r4 (List.drop (108 : Nat) (List.take n xs))),
          Value.int IntKind.u32 (r4 (List.drop (112 : Nat) (List.take n xs))),
          Value.int IntKind.u16 (r2 (List.drop (116 : Nat) (List.take n xs))),
          Value.int IntKind.u16 (r2 (List.drop (118 : Nat) (List.take n xs))),
          Value.int IntKind.u64 (r8 (List.drop (120 : Nat) (List.take n xs)))] =
        [Value.int IntKind.u64 (r8 (List.drop (8 : Nat) (List.take n xs))),
          Value.int IntKind.u64 (r8 (List.drop (0 : Nat) (List.take n xs))),
          Value.int IntKind.u64 (r8 (List.drop (24 : Nat) (List.take n xs))),
          Value.int IntKind.u64 (r8 (List.drop (16 : Nat) (List.take n xs))),
          Value.int IntKind.u64 (r8 (List.drop (40 : Nat) (List.take n xs))),
          Value.int IntKind.u64 (r8 (List.drop (32 : Nat) (List.take n xs))),
          Value.int IntKind.u64 (r8 (List.drop (56 : Nat) (List.take n xs))),
          Value.int IntKind.u64 (r8 (List.drop (48 : Nat) (List.take n xs))),
          Value.int IntKind.u64 (r8 (List.drop (72 : Nat) (List.take n xs))),
          Value.int IntKind.u64 (r8 (List.drop (64 : Nat) (List.take n xs))),
          Value.int IntKind.u64 (r8 (List.drop (88 : Nat) (List.take n xs))),
          Value.int IntKind.u64 (r8 (List.drop (80 : Nat) (List.take n xs))),
          Value.int IntKind.u64 (r8 (List.drop (96 : Nat) (List.take n xs))),
          Value.int IntKind.u32 (r4 (List.drop (104 : Nat) (List.take n xs))),
          Value.int IntKind.u32 (r4 (List.drop (108 : Nat) (List.take n xs))),
          Value.int IntKind.u32 (r4 (List.drop (112 : Nat) (List.take n xs))),
          Value.int IntKind.u16 (r2 (List.drop (116 : Nat) (List.take n xs))),
          Value.int IntKind.u16 (r2 (List.drop (118 : Nat) (List.take n xs))),
          Value.int IntKind.u64 (r8 (List.drop (120 : Nat) (List.take n xs)))],
      (r8
                (List.drop (8 : Nat)
                  (List.take (avLen (Av.sl (List.take n xs) n))
                    (List.take n xs ++
                      [Value.int IntKind.u8
                          (↑(((160 : Nat) + avLen (Av.sl (List.take n xs) n) % (90 : Nat)) % (256 : Nat)) : Int),
                        Value.int IntKind.u8
                          (↑(((160 : Nat) + (avLen (Av.sl (List.take n xs) n) + (1 : Nat)) % (90 : Nat)) %
                                (256 : Nat)) :
                            Int),
                        Value.int IntKind.u8
                          (↑(((160 : Nat) + (avLen (Av.sl (List.take n xs) n) + (1 : Nat) + (1 : Nat)) % (90 : Nat)) %
                                (256 : Nat)) :
                            Int)]))) ==
              r8 (List.drop (8 : Nat) (List.take n xs)) &&
            (r8
                  (List.drop (0 : Nat)
                    (List.take (avLen (Av.sl (List.take n xs) n))
                      (List.take n xs ++
                        [Value.int IntKind.u8
                            (↑(((160 : Nat) + avLen (Av.sl (List.take n xs) n) % (90 : Nat)) % (256 : Nat)) : Int),
                          Value.int IntKind.u8
                            (↑(((160 : Nat) + (avLen (Av.sl (List.take n xs) n) + (1 : Nat)) % (90 : Nat)) %
                                  (256 : Nat)) :
                              Int),
                          Value.int IntKind.u8
                            (↑(((160 : Nat) + (avLen (Av.sl (List.take n xs) n) + (1 : Nat) + (1 : Nat)) % (90 : Nat)) %
                                  (256 : Nat)) :
                              Int)]))) ==
                r8 (List.drop (0 : Nat) (List.take n xs)) &&
              true) &&
          (r8
                  (List.drop (24 : Nat)
                    (List.take (avLen (Av.sl (List.take n xs) n))
                      (List.take n xs ++
                        [Value.int IntKind.u8
                            (↑(((160 : Nat) + avLen (Av.sl (List.take n xs) n) % (90 : Nat)) % (256 : Nat)) : Int),
                          Value.int IntKind.u8
                            (↑(((160 : Nat) + (avLen (Av.sl (List.take n xs) n) + (1 : Nat)) % (90 : Nat)) %
                                  (256 : Nat)) :
                              Int),
                          Value.int IntKind.u8
                            (↑(((160 : Nat) + (avLen (Av.sl (List.take n xs) n) + (1 : Nat) + (1 : Nat)) % (90 : Nat)) %
                                  (256 : Nat)) :
                              Int)]))) ==
                r8 (List.drop (24 : Nat) (List.take n xs)) &&
              (r8
                    (List.drop (16 : Nat)
                      (List.take (avLen (Av.sl (List.take n xs) n))
                        (List.take n xs ++
                          [Value.int IntKind.u8
                              (↑(((160 : Nat) + avLen (Av.sl (List.take n xs) n) % (90 : Nat)) % (256 : Nat)) : Int),
                            Value.int IntKind.u8
                              (↑(((160 : Nat) + (avLen (Av.sl (List.take n xs) n) + (1 : Nat)) % (90 : Nat)) %
                                    (256 : Nat)) :
                                Int),
                            Value.int IntKind.u8
                              (↑(((160 : Nat) +
                                      (avLen (Av.sl (List.take n xs) n) + (1 : Nat) + (1 : Nat)) % (90 : Nat)) %
                                    (256 : Nat)) :
                                Int)]))) ==
                  r8 (List.drop (16 : Nat) (List.take n xs)) &&
                true) &&
            (r8
                    (List.drop (40 : Nat)
                      (List.take (avLen (Av.sl (List.take n xs) n))
                        (List.take n xs ++
                          [Value.int IntKind.u8
                              (↑(((160 : Nat) + avLen (Av.sl (List.take n xs) n) % (90 : Nat)) % (256 : Nat)) : Int),
                            Value.int IntKind.u8
                              (↑(((160 : Nat) + (avLen (Av.sl (List.take n xs) n) + (1 : Nat)) % (90 : Nat)) %
                                    (256 : Nat)) :
                                Int),
                            Value.int IntKind.u8
                              (↑(((160 : Nat) +
                                      (avLen (Av.sl (List.take n xs) n) + (1 : Nat) + (1 : Nat)) % (90 : Nat)) %
                                    (256 : Nat)) :
                                Int)]))) ==
                  r8 (List.drop (40 : Nat) (List.take n xs)) &&
                (r8
                      (List.drop (32 : Nat)
                        (List.take (avLen (Av.sl (List.take n xs) n))
                          (List.take n xs ++
                            [Value.int IntKind.u8
                                (↑(((160 : Nat) + avLen (Av.sl (List.take n xs) n) % (90 : Nat)) % (256 : Nat)) : Int),
                              Value.int IntKind.u8
                                (↑(((160 : Nat) + (avLen (Av.sl (List.take n xs) n) + (1 : Nat)) % (90 : Nat)) %
                                      (256 : Nat)) :
                                  Int),
                              Value.int IntKind.u8
                                (↑(((160 : Nat) +
                                        (avLen (Av.sl (List.take n xs) n) + (1 : Nat) + (1 : Nat)) % (90 : Nat)) %
                                      (256 : Nat)) :
                                  Int)]))) ==
                    r8 (List.drop (32 : Nat) (List.take n xs)) &&
                  true) &&
              (r8
                      (List.drop (56 : Nat)
                        (List.take (avLen (Av.sl (List.take n xs) n))
                          (List.take n xs ++
                            [Value.int IntKind.u8
                                (↑(((160 : Nat) + avLen (Av.sl (List.take n xs) n) % (90 : Nat)) % (256 : Nat)) : Int),
                              Value.int IntKind.u8
                                (↑(((160 : Nat) + (avLen (Av.sl (List.take n xs) n) + (1 : Nat)) % (90 : Nat)) %
                                      (256 : Nat)) :
                                  Int),
                              Value.int IntKind.u8
                                (↑(((160 : Nat) +
                                        (avLen (Av.sl (List.take n xs) n) + (1 : Nat) + (1 : Nat)) % (90 : Nat)) %
                                      (256 : Nat)) :
                                  Int)]))) ==
                    r8 (List.drop (56 : Nat) (List.take n xs)) &&
                  (r8
                        (List.drop (48 : Nat)
                          (List.take (avLen (Av.sl (List.take n xs) n))
                            (List.take n xs ++
                              [Value.int IntKind.u8
                                  (↑(((160 : Nat) + avLen (Av.sl (List.take n xs) n) % (90 : Nat)) % (256 : Nat)) :
                                    Int),
                                Value.int IntKind.u8
                                  (↑(((160 : Nat) + (avLen (Av.sl (List.take n xs) n) + (1 : Nat)) % (90 : Nat)) %
                                        (256 : Nat)) :
                                    Int),
                                Value.int IntKind.u8
                                  (↑(((160 : Nat) +
                                          (avLen (Av.sl (List.take n xs) n) + (1 : Nat) + (1 : Nat)) % (90 : Nat)) %
                                        (256 : Nat)) :
                                    Int)]))) ==
                      r8 (List.drop (48 : Nat) (List.take n xs)) &&
                    true) &&
                (r8
                        (List.drop (72 : Nat)
                          (List.take (avLen (Av.sl (List.take n xs) n))
                            (List.take n xs ++
                              [Value.int IntKind.u8
                                  (↑(((160 : Nat) + avLen (Av.sl (List.take n xs) n) % (90 : Nat)) % (256 : Nat)) :
                                    Int),
                                Value.int IntKind.u8
                                  (↑(((160 : Nat) + (avLen (Av.sl (List.take n xs) n) + (1 : Nat)) % (90 : Nat)) %
                                        (256 : Nat)) :
                                    Int),
                                Value.int IntKind.u8
                                  (↑(((160 : Nat) +
                                          (avLen (Av.sl (List.take n xs) n) + (1 : Nat) + (1 : Nat)) % (90 : Nat)) %
                                        (256 : Nat)) :
                                    Int)]))) ==
                      r8 (List.drop (72 : Nat) (List.take n xs)) &&
                    (r8
                          (List.drop (64 : Nat)
                            (List.take (avLen (Av.sl (List.take n xs) n))
                              (List.take n xs ++
                                [Value.int IntKind.u8
                                    (↑(((160 : Nat) + avLen (Av.sl (List.take n xs) n) % (90 : Nat)) % (256 : Nat)) :
                                      Int),
                                  Value.int IntKind.u8
                                    (↑(((160 : Nat) + (avLen (Av.sl (List.take n xs) n) + (1 : Nat)) % (90 : Nat)) %
                                          (256 : Nat)) :
                                      Int),
                                  Value.int IntKind.u8
                                    (↑(((160 : Nat) +
                                            (avLen (Av.sl (List.take n xs) n) + (1 : Nat) + (1 : Nat)) % (90 : Nat)) %
                                          (256 : Nat)) :
                                      Int)]))) ==
                        r8 (List.drop (64 : Nat) (List.take n xs)) &&
                      true) &&
                  (r8
                          (List.drop (88 : Nat)
                            (List.take (avLen (Av.sl (List.take n xs) n))
                              (List.take n xs ++
                                [Value.int IntKind.u8
                                    (↑(((160 : Nat) + avLen (Av.sl (List.take n xs) n) % (90 : Nat)) % (256 : Nat)) :
                                      Int),
                                  Value.int IntKind.u8
                                    (↑(((160 : Nat) + (avLen (Av.sl (List.take n xs) n) + (1 : Nat)) % (90 : Nat)) %
                                          (256 : Nat)) :
                                      Int),
                                  Value.int IntKind.u8
                                    (↑(((160 : Nat) +
                                            (avLen (Av.sl (List.take n xs) n) + (1 : Nat) + (1 : Nat)) % (90 : Nat)) %
                                          (256 : Nat)) :
                                      Int)]))) ==
                        r8 (List.drop (88 : Nat) (List.take n xs)) &&
                      (r8
                            (List.drop (80 : Nat)
                              (List.take (avLen (Av.sl (List.take n xs) n))
                                (List.take n xs ++
                                  [Value.int IntKind.u8
                                      (↑(((160 : Nat) + avLen (Av.sl (List.take n xs) n) % (90 : Nat)) % (256 : Nat)) :
                                        Int),
                                    Value.int IntKind.u8
                                      (↑(((160 : Nat) + (avLen (Av.sl (List.take n xs) n) + (1 : Nat)) % (90 : Nat)) %
                                            (256 : Nat)) :
                                        Int),
                                    Value.int IntKind.u8
                                      (↑(((160 : Nat) +
                                              (avLen (Av.sl (List.take n xs) n) + (1 : Nat) + (1 : Nat)) % (90 : Nat)) %
                                            (256 : Nat)) :
                                        Int)]))) ==
                          r8 (List.drop (80 : Nat) (List.take n xs)) &&
                        true) &&
                    (r8
                          (List.drop (96 : Nat)
                            (List.take (avLen (Av.sl (List.take n xs) n))
                              (List.take n xs ++
                                [Value.int IntKind.u8
                                    (↑(((160 : Nat) + avLen (Av.sl (List.take n xs) n) % (90 : Nat)) % (256 : Nat)) :
                                      Int),
                                  Value.int IntKind.u8
                                    (↑(((160 : Nat) + (avLen (Av.sl (List.take n xs) n) + (1 : Nat)) % (90 : Nat)) %
                                          (256 : Nat)) :
                                      Int),
                                  Value.int IntKind.u8
                                    (↑(((160 : Nat) +
                                            (avLen (Av.sl (List.take n xs) n) + (1 : Nat) + (1 : Nat)) % (90 : Nat)) %
                                          (256 : Nat)) :
                                      Int)]))) ==
                        r8 (List.drop (96 : Nat) (List.take n xs)) &&
                      (r4
                            (List.drop (104 : Nat)
                              (List.take (avLen (Av.sl (List.take n xs) n))
                                (List.take n xs ++
                                  [Value.int IntKind.u8
                                      (↑(((160 : Nat) + avLen (Av.sl (List.take n xs) n) % (90 : Nat)) % (256 : Nat)) :
                                        Int),
                                    Value.int IntKind.u8
                                      (↑(((160 : Nat) + (avLen (Av.sl (List.take n xs) n) + (1 : Nat)) % (90 : Nat)) %
                                            (256 : Nat)) :
                                        Int),
                                    Value.int IntKind.u8
                                      (↑(((160 : Nat) +
                                              (avLen (Av.sl (List.take n xs) n) + (1 : Nat) + (1 : Nat)) % (90 : Nat)) %
                                            (256 : Nat)) :
                                        Int)]))) ==
                          r4 (List.drop (104 : Nat) (List.take n xs)) &&
                        (r4
                              (List.drop (108 : Nat)
                                (List.take (avLen (Av.sl (List.take n xs) n))
                                  (List.take n xs ++
                                    [Value.int IntKind.u8
                                        (↑(((160 : Nat) + avLen (Av.sl (List.take n xs) n) % (90 : Nat)) %
                                              (256 : Nat)) :
                                          Int),
                                      Value.int IntKind.u8
                                        (↑(((160 : Nat) + (avLen (Av.sl (List.take n xs) n) + (1 : Nat)) % (90 : Nat)) %
                                              (256 : Nat)) :
                                          Int),
                                      Value.int IntKind.u8
                                        (↑(((160 : Nat) +
                                                (avLen (Av.sl (List.take n xs) n) + (1 : Nat) + (1 : Nat)) %
                                                  (90 : Nat)) %
                                              (256 : Nat)) :
                                          Int)]))) ==
                            r4 (List.drop (108 : Nat) (List.take n xs)) &&
                          (r4
                                (List.drop (112 : Nat)
                                  (List.take (avLen (Av.sl (List.take n xs) n))
                                    (List.take n xs ++
                                      [Value.int IntKind.u8
                                          (↑(((160 : Nat) + avLen (Av.sl (List.take n xs) n) % (90 : Nat)) %
                                                (256 : Nat)) :
                                            Int),
                                        Value.int IntKind.u8
                                          (↑(((160 : Nat) +
                                                  (avLen (Av.sl (List.take n xs) n) + (1 : Nat)) % (90 : Nat)) %
                                                (256 : Nat)) :
                                            Int),
                                        Value.int IntKind.u8
                                          (↑(((160 : Nat) +
                                                  (avLen (Av.sl (List.take n xs) n) + (1 : Nat) + (1 : Nat)) %
                                                    (90 : Nat)) %
                                                (256 : Nat)) :
                                            Int)]))) ==
                              r4 (List.drop (112 : Nat) (List.take n xs)) &&
                            (r2
                                  (List.drop (116 : Nat)
                                    (List.take (avLen (Av.sl (List.take n xs) n))
                                      (List.take n xs ++
                                        [Value.int IntKind.u8
                                            (↑(((160 : Nat) + avLen (Av.sl (List.take n xs) n) % (90 : Nat)) %
                                                  (256 : Nat)) :
                                              Int),
                                          Value.int IntKind.u8
                                            (↑(((160 : Nat) +
                                                    (avLen (Av.sl (List.take n xs) n) + (1 : Nat)) % (90 : Nat)) %
                                                  (256 : Nat)) :
                                              Int),
                                          Value.int IntKind.u8
                                            (↑(((160 : Nat) +
                                                    (avLen (Av.sl (List.take n xs) n) + (1 : Nat) + (1 : Nat)) %
                                                      (90 : Nat)) %
                                                  (256 : Nat)) :
                                              Int)]))) ==
                                r2 (List.drop (116 : Nat) (List.take n xs)) &&
                              (r2
                                    (List.drop (118 : Nat)
                                      (List.take (avLen (Av.sl (List.take n xs) n))
                                        (List.take n xs ++
                                          [Value.int IntKind.u8
                                              (↑(((160 : Nat) + avLen (Av.sl (List.take n xs) n) % (90 : Nat)) %
                                                    (256 : Nat)) :
                                                Int),
                                            Value.int IntKind.u8
                                              (↑(((160 : Nat) +
                                                      (avLen (Av.sl (List.take n xs) n) + (1 : Nat)) % (90 : Nat)) %
                                                    (256 : Nat)) :
                                                Int),
                                            Value.int IntKind.u8
                                              (↑(((160 : Nat) +
                                                      (avLen (Av.sl (List.take n xs) n) + (1 : Nat) + (1 : Nat)) %
                                                        (90 : Nat)) %
                                                    (256 : Nat)) :
                                                Int)]))) ==
                                  r2 (List.drop (118 : Nat) (List.take n xs)) &&
                                (r8
                                      (List.drop (120 : Nat)
                                        (List.take (avLen (Av.sl (List.take n xs) n))
                                          (List.take n xs ++
                                            [Value.int IntKind.u8
                                                (↑(((160 : Nat) + avLen (Av.sl (List.take n xs) n) % (90 : Nat)) %
                                                      (256 : Nat)) :
                                                  Int),
                                              Value.int IntKind.u8
                                                (↑(((160 : Nat) +
                                                        (avLen (Av.sl (List.take n xs) n) + (1 : Nat)) % (90 : Nat)) %
                                                      (256 : Nat)) :
                                                  Int),
                                              Value.int IntKind.u8
                                                (↑(((160 : Nat) +
                                                        (avLen (Av.sl (List.take n xs) n) + (1 : Nat) + (1 : Nat)) %
                                                          (90 : Nat)) %
                                                      (256 : Nat)) :
                                                  Int)]))) ==
                                    r8 (List.drop (120 : Nat) (List.take n xs)) &&
                                  true))))))))))))) =
        true,
      [Value.int IntKind.u64
            (r8
              (List.drop (8 : Nat)
                (List.take (avLen (Av.sl (List.take n xs) n))
                  (List.take n xs ++
                    [Value.int IntKind.u8
                        (↑(((160 : Nat) + avLen (Av.sl (List.take n xs) n) % (90 : Nat)) % (256 : Nat)) : Int),
                      Value.int IntKind.u8
                        (↑(((160 : Nat) + (avLen (Av.sl (List.take n xs) n) + (1 : Nat)) % (90 : Nat)) % (256 : Nat)) :
                          Int),
                      Value.int IntKind.u8
                        (↑(((160 : Nat) + (avLen (Av.sl (List.take n xs) n) + (1 : Nat) + (1 : Nat)) % (90 : Nat)) %
                              (256 : Nat)) :
                          Int)])))),
          Value.int IntKind.u64
            (r8
              (List.drop (0 : Nat)
                (List.take (avLen (Av.sl (List.take n xs) n))
                  (List.take n xs ++
                    [Value.int IntKind.u8
                        (↑(((160 : Nat) + avLen (Av.sl (List.take n xs) n) % (90 : Nat)) % (256 : Nat)) : Int),
                      Value.int IntKind.u8
                        (↑(((160 : Nat) + (avLen (Av.sl (List.take n xs) n) + (1 : Nat)) % (90 : Nat)) % (256 : Nat)) :
                          Int),
                      Value.int IntKind.u8
                        (↑(((160 : Nat) + (avLen (Av.sl (List.take n xs) n) + (1 : Nat) + (1 : Nat)) % (90 : Nat)) %
                              (256 : Nat)) :
                          Int)])))),
          Value.int IntKind.u64
            (r8
              (List.drop (24 : Nat)
                (List.take (avLen (Av.sl (List.take n xs) n))
                  (List.take n xs ++
                    [Value.int IntKind.u8
                        (↑(((160 : Nat) + avLen (Av.sl (List.take n xs) n) % (90 : Nat)) % (256 : Nat)) : Int),
                      Value.int IntKind.u8
                        (↑(((160 : Nat) + (avLen (Av.sl (List.take n xs) n) + (1 : Nat)) % (90 : Nat)) % (256 : Nat)) :
                          Int),
                      Value.int IntKind.u8
                        (↑(((160 : Nat) + (avLen (Av.sl (List.take n xs) n) + (1 : Nat) + (1 : Nat)) % (90 : Nat)) %
                              (256 : Nat)) :
                          Int)])))),
          Value.int IntKind.u64
            (r8
              (List.drop (16 : Nat)
                (List.take (avLen (Av.sl (List.take n xs) n))
                  (List.take n xs ++
                    [Value.int IntKind.u8
                        (↑(((160 : Nat) + avLen (Av.sl (List.take n xs) n) % (90 : Nat)) % (256 : Nat)) : Int),
                      Value.int IntKind.u8
                        (↑(((160 : Nat) + (avLen (Av.sl (List.take n xs) n) + (1 : Nat)) % (90 : Nat)) % (256 : Nat)) :
                          Int),
                      Value.int IntKind.u8
                        (↑(((160 : Nat) + (avLen (Av.sl (List.take n xs) n) + (1 : Nat) + (1 : Nat)) % (90 : Nat)) %
                              (256 : Nat)) :
                          Int)])))),
          Value.int IntKind.u64
            (r8
              (List.drop (40 : Nat)
                (List.take (avLen (Av.sl (List.take n xs) n))
                  (List.take n xs ++
                    [Value.int IntKind.u8
                        (↑(((160 : Nat) + avLen (Av.sl (List.take n xs) n) % (90 : Nat)) % (256 : Nat)) : Int),
                      Value.int IntKind.u8
                        (↑(((160 : Nat) + (avLen (Av.sl (List.take n xs) n) + (1 : Nat)) % (90 : Nat)) % (256 : Nat)) :
                          Int),
                      Value.int IntKind.u8
                        (↑(((160 : Nat) + (avLen (Av.sl (List.take n xs) n) + (1 : Nat) + (1 : Nat)) % (90 : Nat)) %
                              (256 : Nat)) :
                          Int)])))),
          Value.int IntKind.u64
            (r8
              (List.drop (32 : Nat)
                (List.take (avLen (Av.sl (List.take n xs) n))
                  (List.take n xs ++
                    [Value.int IntKind.u8
                        (↑(((160 : Nat) + avLen (Av.sl (List.take n xs) n) % (90 : Nat)) % (256 : Nat)) : Int),
                      Value.int IntKind.u8
                        (↑(((160 : Nat) + (avLen (Av.sl (List.take n xs) n) + (1 : Nat)) % (90 : Nat)) % (256 : Nat)) :
                          Int),
                      Value.int IntKind.u8
                        (↑(((160 : Nat) + (avLen (Av.sl (List.take n xs) n) + (1 : Nat) + (1 : Nat)) % (90 : Nat)) %
                              (256 : Nat)) :
                          Int)])))),
          Value.int IntKind.u64
            (r8
              (List.drop (56 : Nat)
                (List.take (avLen (Av.sl (List.take n xs) n))
                  (List.take n xs ++
                    [Value.int IntKind.u8
                        (↑(((160 : Nat) + avLen (Av.sl (List.take n xs) n) % (90 : Nat)) % (256 : Nat)) : Int),
                      Value.int IntKind.u8
                        (↑(((160 : Nat) + (avLen (Av.sl (List.take n xs) n) + (1 : Nat)) % (90 : Nat)) % (256 : Nat)) :
                          Int),
                      Value.int IntKind.u8
                        (↑(((160 : Nat) + (avLen (Av.sl (List.take n xs) n) + (1 : Nat) + (1 : Nat)) % (90 : Nat)) %
                              (256 : Nat)) :
                          Int)])))),
          Value.int IntKind.u64
            (r8
              (List.drop (48 : Nat)
                (List.take (avLen (Av.sl (List.take n xs) n))
                  (List.take n xs ++
                    [Value.int IntKind.u8
                        (↑(((160 : Nat) + avLen (Av.sl (List.take n xs) n) % (90 : Nat)) % (256 : Nat)) : Int),
                      Value.int IntKind.u8
                        (↑(((160 : Nat) + (avLen (Av.sl (List.take n xs) n) + (1 : Nat)) % (90 : Nat)) % (256 : Nat)) :
                          Int),
                      Value.int IntKind.u8
                        (↑(((160 : Nat) + (avLen (Av.sl (List.take n xs) n) + (1 : Nat) + (1 : Nat)) % (90 : Nat)) %
                              (256 : Nat)) :
                          Int)])))),
          Value.int IntKind.u64
            (r8
              (List.drop (72 : Nat)
                (List.take (avLen (Av.sl (List.take n xs) n))
                  (List.take n xs ++
                    [Value.int IntKind.u8
                        (↑(((160 : Nat) + avLen (Av.sl (List.take n xs) n) % (90 : Nat)) % (256 : Nat)) : Int),
                      Value.int IntKind.u8
                        (↑(((160 : Nat) + (avLen (Av.sl (List.take n xs) n) + (1 : Nat)) % (90 : Nat)) % (256 : Nat)) :
                          Int),
                      Value.int IntKind.u8
                        (↑(((160 : Nat) + (avLen (Av.sl (List.take n xs) n) + (1 : Nat) + (1 : Nat)) % (90 : Nat)) %
                              (256 : Nat)) :
                          Int)])))),
          Value.int IntKind.u64
            (r8
              (List.drop (64 : Nat)
                (List.take (avLen (Av.sl (List.take n xs) n))
                  (List.take n xs ++
                    [Value.int IntKind.u8
                        (↑(((160 : Nat) + avLen (Av.sl (List.take n xs) n) % (90 : Nat)) % (256 : Nat)) : Int),
                      Value.int IntKind.u8
                        (↑(((160 : Nat) + (avLen (Av.sl (List.take n xs) n) + (1 : Nat)) % (90 : Nat)) % (256 : Nat)) :
                          Int),
                      Value.int IntKind.u8
                        (↑(((160 : Nat) + (avLen (Av.sl (List.take n xs) n) + (1 : Nat) + (1 : Nat)) % (90 : Nat)) %
                              (256 : Nat)) :
                          Int)])))),
          Value.int IntKind.u64
            (r8
              (List.drop (88 : Nat)
                (List.take (avLen (Av.sl (List.take n xs) n))
                  (List.take n xs ++
                    [Value.int IntKind.u8
                        (↑(((160 : Nat) + avLen (Av.sl (List.take n xs) n) % (90 : Nat)) % (256 : Nat)) : Int),
                      Value.int IntKind.u8
                        (↑(((160 : Nat) + (avLen (Av.sl (List.take n xs) n) + (1 : Nat)) % (90 : Nat)) % (256 : Nat)) :
                          Int),
                      Value.int IntKind.u8
                        (↑(((160 : Nat) + (avLen (Av.sl (List.take n xs) n) + (1 : Nat) + (1 : Nat)) % (90 : Nat)) %
                              (256 : Nat)) :
                          Int)])))),
          Value.int IntKind.u64
            (r8
              (List.drop (80 : Nat)
                (List.take (avLen (Av.sl (List.take n xs) n))
                  (List.take n xs ++
                    [Value.int IntKind.u8
                        (↑(((160 : Nat) + avLen (Av.sl (List.take n xs) n) % (90 : Nat)) % (256 : Nat)) : Int),
                      Value.int IntKind.u8
                        (↑(((160 : Nat) + (avLen (Av.sl (List.take n xs) n) + (1 : Nat)) % (90 : Nat)) % (256 : Nat)) :
                          Int),
                      Value.int IntKind.u8
                        (↑(((160 : Nat) + (avLen (Av.sl (List.take n xs) n) + (1 : Nat) + (1 : Nat)) % (90 : Nat)) %
                              (256 : Nat)) :
                          Int)])))),
          Value.int IntKind.u64
            (r8
              (List.drop (96 : Nat)
                (List.take (avLen (Av.sl (List.take n xs) n))
                  (List.take n xs ++
                    [Value.int IntKind.u8
                        (↑(((160 : Nat) + avLen (Av.sl (List.take n xs) n) % (90 : Nat)) % (256 : Nat)) : Int),
                      Value.int IntKind.u8
                        (↑(((160 : Nat) + (avLen (Av.sl (List.take n xs) n) + (1 : Nat)) % (90 : Nat)) % (256 : Nat)) :
                          Int),
                      Value.int IntKind.u8
                        (↑(((160 : Nat) + (avLen (Av.sl (List.take n xs) n) + (1 : Nat) + (1 : Nat)) % (90 : Nat)) %
                              (256 : Nat)) :
                          Int)])))),
          Value.int IntKind.u32
            (r4
              (List.drop (104 : Nat)
                (List.take (avLen (Av.sl (List.take n xs) n))
                  (List.take n xs ++
                    [Value.int IntKind.u8
                        (↑(((160 : Nat) + avLen (Av.sl (List.take n xs) n) % (90 : Nat)) % (256 : Nat)) : Int),
                      Value.int IntKind.u8
                        (↑(((160 : Nat) + (avLen (Av.sl (List.take n xs) n) + (1 : Nat)) % (90 : Nat)) % (256 : Nat)) :
                          Int),
                      Value.int IntKind.u8
                        (↑(((160 : Nat) + (avLen (Av.sl (List.take n xs) n) + (1 : Nat) + (1 : Nat)) % (90 : Nat)) %
                              (256 : Nat)) :
                          Int)])))),
          Value.int IntKind.u32
            (r4
              (List.drop (108 : Nat)
                (List.take (avLen (Av.sl (List.take n xs) n))
                  (List.take n xs ++
                    [Value.int IntKind.u8
                        (↑(((160 : Nat) + avLen (Av.sl (List.take n xs) n) % (90 : Nat)) % (256 : Nat)) : Int),
                      Value.int IntKind.u8
                        (↑(((160 : Nat) + (avLen (Av.sl (List.take n xs) n) + (1 : Nat)) % (90 : Nat)) % (256 : Nat)) :
                          Int),
                      Value.int IntKind.u8
                        (↑(((160 : Nat) + (avLen (Av.sl (List.take n xs) n) + (1 : Nat) + (1 : Nat)) % (90 : Nat)) %
                              (256 : Nat)) :
                          Int)])))),
          Value.int IntKind.u32
            (r4
              (List.drop (112 : Nat)
                (List.take (avLen (Av.sl (List.take n xs) n))
                  (List.take n xs ++
                    [Value.int IntKind.u8
                        (↑(((160 : Nat) + avLen (Av.sl (List.take n xs) n) % (90 : Nat)) % (256 : Nat)) : Int),
                      Value.int IntKind.u8
                        (↑(((160 : Nat) + (avLen (Av.sl (List.take n xs) n) + (1 : Nat)) % (90 : Nat)) % (256 : Nat)) :
                          Int),
                      Value.int IntKind.u8
                        (↑(((160 : Nat) + (avLen (Av.sl (List.take n xs) n) + (1 : Nat) + (1 : Nat)) % (90 : Nat)) %
                              (256 : Nat)) :
                          Int)])))),
          Value.int IntKind.u16
            (r2
              (List.drop (116 : Nat)
                (List.take (avLen (Av.sl (List.take n xs) n))
                  (List.take n xs ++
                    [Value.int IntKind.u8
                        (↑(((160 : Nat) + avLen (Av.sl (List.take n xs) n) % (90 : Nat)) % (256 : Nat)) : Int),
                      Value.int IntKind.u8
                        (↑(((160 : Nat) + (avLen (Av.sl (List.take n xs) n) + (1 : Nat)) % (90 : Nat)) % (256 : Nat)) :
                          Int),
                      Value.int IntKind.u8
                        (↑(((160 : Nat) + (avLen (Av.sl (List.take n xs) n) + (1 : Nat) + (1 : Nat)) % (90 : Nat)) %
                              (256 : Nat)) :
                          Int)])))),
          Value.int IntKind.u16
            (r2
              (List.drop (118 : Nat)
                (List.take (avLen (Av.sl (List.take n xs) n))
                  (List.take n xs ++
                    [Value.int IntKind.u8
                        (↑(((160 : Nat) + avLen (Av.sl (List.take n xs) n) % (90 : Nat)) % (256 : Nat)) : Int),
                      Value.int IntKind.u8
                        (↑(((160 : Nat) + (avLen (Av.sl (List.take n xs) n) + (1 : Nat)) % (90 : Nat)) % (256 : Nat)) :
                          Int),
                      Value.int IntKind.u8
                        (↑(((160 : Nat) + (avLen (Av.sl (List.take n xs) n) + (1 : Nat) + (1 : Nat)) % (90 : Nat)) %
                              (256 : Nat)) :
                          Int)])))),
          Value.int IntKind.u64
            (r8
              (List.drop (120 : Nat)
                (List.take (avLen (Av.sl (List.take n xs) n))
                  (List.take n xs ++
                    [Value.int IntKind.u8
                        (↑(((160 : Nat) + avLen (Av.sl (List.take n xs) n) % (90 : Nat)) % (256 : Nat)) : Int),
                      Value.int IntKind.u8
                        (↑(((160 : Nat) + (avLen (Av.sl (List.take n xs) n) + (1 : Nat)) % (90 : Nat)) % (256 : Nat)) :
                          Int),
                      Value.int IntKind.u8
                        (↑(((160 : Nat) + (avLen (Av.sl (List.take n xs) n) + (1 : Nat) + (1 : Nat)) % (90 : Nat)) %
                              (256 : Nat)) :
                          Int)]))))] =
        [Value.int IntKind.u64
            (r8
              (List.drop (8 : Nat)
                (List.take (avLen (Av.sl (List.take n xs) n))
                  (List.take n xs ++
                    [Value.int IntKind.u8
                        (↑(((160 : Nat) + avLen (Av.sl (List.take n xs) n) % (90 : Nat)) % (256 : Nat)) : Int),
                      Value.int IntKind.u8
                        (↑(((160 : Nat) + (avLen (Av.sl (List.take n xs) n) + (1 : Nat)) % (90 : Nat)) % (256 : Nat)) :
                          Int),
                      Value.int IntKind.u8
                        (↑(((160 : Nat) + (avLen (Av.sl (List.take n xs) n) + (1 : Nat) + (1 : Nat)) % (90 : Nat)) %
                              (256 : Nat)) :
                          Int)])))),
          Value.int IntKind.u64
            (r8
              (List.drop (0 : Nat)
                (List.take (avLen (Av.sl (List.take n xs) n))
                  (List.take n xs ++
                    [Value.int IntKind.u8
                        (↑(((160 : Nat) + avLen (Av.sl (List.take n xs) n) % (90 : Nat)) % (256 : Nat)) : Int),
                      Value.int IntKind.u8
                        (↑(((160 : Nat) + (avLen (Av.sl (List.take n xs) n) + (1 : Nat)) % (90 : Nat)) % (256 : Nat)) :
                          Int),
                      Value.int IntKind.u8
                        (↑(((160 : Nat) + (avLen (Av.sl (List.take n xs) n) + (1 : Nat) + (1 : Nat)) % (90 : Nat)) %
                              (256 : Nat)) :
                          Int)])))),
          Value.int IntKind.u64
            (r8
              (List.drop (24 : Nat)
                (List.take (avLen (Av.sl (List.take n xs) n))
                  (List.take n xs ++
                    [Value.int IntKind.u8
                        (↑(((160 : Nat) + avLen (Av.sl (List.take n xs) n) % (90 : Nat)) % (256 : Nat)) : Int),
                      Value.int IntKind.u8
                        (↑(((160 : Nat) + (avLen (Av.sl (List.take n xs) n) + (1 : Nat)) % (90 : Nat)) % (256 : Nat)) :
                          Int),
                      Value.int IntKind.u8
                        (↑(((160 : Nat) + (avLen (Av.sl (List.take n xs) n) + (1 : Nat) + (1 : Nat)) % (90 : Nat)) %
                              (256 : Nat)) :
                          Int)])))),
          Value.int IntKind.u64
            (r8
              (List.drop (16 : Nat)
                (List.take (avLen (Av.sl (List.take n xs) n))
                  (List.take n xs ++
                    [Value.int IntKind.u8
                        (↑(((160 : Nat) + avLen (Av.sl (List.take n xs) n) % (90 : Nat)) % (256 : Nat)) : Int),
                      Value.int IntKind.u8
                        (↑(((160 : Nat) + (avLen (Av.sl (List.take n xs) n) + (1 : Nat)) % (90 : Nat)) % (256 : Nat)) :
                          Int),
                      Value.int IntKind.u8
                        (↑(((160 : Nat) + (avLen (Av.sl (List.take n xs) n) + (1 : Nat) + (1 : Nat)) % (90 : Nat)) %
                              (256 : Nat)) :
                          Int)])))),
          Value.int IntKind.u64
            (r8
              (List.drop (40 : Nat)
                (List.take (avLen (Av.sl (List.take n xs) n))
                  (List.take n xs ++
                    [Value.int IntKind.u8
                        (↑(((160 : Nat) + avLen (Av.sl (List.take n xs) n) % (90 : Nat)) % (256 : Nat)) : Int),
                      Value.int IntKind.u8
                        (↑(((160 : Nat) + (avLen (Av.sl (List.take n xs) n) + (1 : Nat)) % (90 : Nat)) % (256 : Nat)) :
                          Int),
                      Value.int IntKind.u8
                        (↑(((160 : Nat) + (avLen (Av.sl (List.take n xs) n) + (1 : Nat) + (1 : Nat)) % (90 : Nat)) %
                              (256 : Nat)) :
                          Int)])))),
          Value.int IntKind.u64
            (r8
              (List.drop (32 : Nat)
                (List.take (avLen (Av.sl (List.take n xs) n))
                  (List.take n xs ++
                    [Value.int IntKind.u8
                        (↑(((160 : Nat) + avLen (Av.sl (List.take n xs) n) % (90 : Nat)) % (256 : Nat)) : Int),
                      Value.int IntKind.u8
                        (↑(((160 : Nat) + (avLen (Av.sl (List.take n xs) n) + (1 : Nat)) % (90 : Nat)) % (256 : Nat)) :
                          Int),
                      Value.int IntKind.u8
                        (↑(((160 : Nat) + (avLen (Av.sl (List.take n xs) n) + (1 : Nat) + (1 : Nat)) % (90 : Nat)) %
                              (256 : Nat)) :
                          Int)])))),
          Value.int IntKind.u64
            (r8
              (List.drop (56 : Nat)
                (List.take (avLen (Av.sl (List.take n xs) n))
                  (List.take n xs ++
                    [Value.int IntKind.u8
                        (↑(((160 : Nat) + avLen (Av.sl (List.take n xs) n) % (90 : Nat)) % (256 : Nat)) : Int),
                      Value.int IntKind.u8
                        (↑(((160 : Nat) + (avLen (Av.sl (List.take n xs) n) + (1 : Nat)) % (90 : Nat)) % (256 : Nat)) :
                          Int),
                      Value.int IntKind.u8
                        (↑(((160 : Nat) + (avLen (Av.sl (List.take n xs) n) + (1 : Nat) + (1 : Nat)) % (90 : Nat)) %
                              (256 : Nat)) :
                          Int)])))),
          Value.int IntKind.u64
            (r8
              (List.drop (48 : Nat)
                (List.take (avLen (Av.sl (List.take n xs) n))
                  (List.take n xs ++
                    [Value.int IntKind.u8
                        (↑(((160 : Nat) + avLen (Av.sl (List.take n xs) n) % (90 : Nat)) % (256 : Nat)) : Int),
                      Value.int IntKind.u8
                        (↑(((160 : Nat) + (avLen (Av.sl (List.take n xs) n) + (1 : Nat)) % (90 : Nat)) % (256 : Nat)) :
                          Int),
                      Value.int IntKind.u8
                        (↑(((160 : Nat) + (avLen (Av.sl (List.take n xs) n) + (1 : Nat) + (1 : Nat)) % (90 : Nat)) %
                              (256 : Nat)) :
                          Int)])))),
          Value.int IntKind.u64
            (r8
              (List.drop (72 : Nat)
                (List.take (avLen (Av.sl (List.take n xs) n))
                  (List.take n xs ++
                    [Value.int IntKind.u8
                        (↑(((160 : Nat) + avLen (Av.sl (List.take n xs) n) % (90 : Nat)) % (256 : Nat)) : Int),
                      Value.int IntKind.u8
                        (↑(((160 : Nat) + (avLen (Av.sl (List.take n xs) n) + (1 : Nat)) % (90 : Nat)) % (256 : Nat)) :
                          Int),
                      Value.int IntKind.u8
                        (↑(((160 : Nat) + (avLen (Av.sl (List.take n xs) n) + (1 : Nat) + (1 : Nat)) % (90 : Nat)) %
                              (256 : Nat)) :
                          Int)])))),
          Value.int IntKind.u64
            (r8
              (List.drop (64 : Nat)
                (List.take (avLen (Av.sl (List.take n xs) n))
                  (List.take n xs ++
                    [Value.int IntKind.u8
                        (↑(((160 : Nat) + avLen (Av.sl (List.take n xs) n) % (90 : Nat)) % (256 : Nat)) : Int),
                      Value.int IntKind.u8
                        (↑(((160 : Nat) + (avLen (Av.sl (List.take n xs) n) + (1 : Nat)) % (90 : Nat)) % (256 : Nat)) :
                          Int),
                      Value.int IntKind.u8
                        (↑(((160 : Nat) + (avLen (Av.sl (List.take n xs) n) + (1 : Nat) + (1 : Nat)) % (90 : Nat)) %
                              (256 : Nat)) :
                          Int)])))),
          Value.int IntKind.u64
            (r8
              (List.drop (88 : Nat)
                (List.take (avLen (Av.sl (List.take n xs) n))
                  (List.take n xs ++
                    [Value.int IntKind.u8
                        (↑(((160 : Nat) + avLen (Av.sl (List.take n xs) n) % (90 : Nat)) % (256 : Nat)) : Int),
                      Value.int IntKind.u8
                        (↑(((160 : Nat) + (avLen (Av.sl (List.take n xs) n) + (1 : Nat)) % (90 : Nat)) % (256 : Nat)) :
                          Int),
                      Value.int IntKind.u8
                        (↑(((160 : Nat) + (avLen (Av.sl (List.take n xs) n) + (1 : Nat) + (1 : Nat)) % (90 : Nat)) %
                              (256 : Nat)) :
                          Int)])))),
          Value.int IntKind.u64
            (r8
              (List.drop (80 : Nat)
                (List.take (avLen (Av.sl (List.take n xs) n))
                  (List.take n xs ++
                    [Value.int IntKind.u8
                        (↑(((160 : Nat) + avLen (Av.sl (List.take n xs) n) % (90 : Nat)) % (256 : Nat)) : Int),
                      Value.int IntKind.u8
                        (↑(((160 : Nat) + (avLen (Av.sl (List.take n xs) n) + (1 : Nat)) % (90 : Nat)) % (256 : Nat)) :
                          Int),
                      Value.int IntKind.u8
                        (↑(((160 : Nat) + (avLen (Av.sl (List.take n xs) n) + (1 : Nat) + (1 : Nat)) % (90 : Nat)) %
                              (256 : Nat)) :
                          Int)])))),
          Value.int IntKind.u64
            (r8
              (List.drop (96 : Nat)
                (List.take (avLen (Av.sl (List.take n xs) n))
                  (List.take n xs ++
                    [Value.int IntKind.u8
                        (↑(((160 : Nat) + avLen (Av.sl (List.take n xs) n) % (90 : Nat)) % (256 : Nat)) : Int),
                      Value.int IntKind.u8
                        (↑(((160 : Nat) + (avLen (Av.sl (List.take n xs) n) + (1 : Nat)) % (90 : Nat)) % (256 : Nat)) :
                          Int),
                      Value.int IntKind.u8
                        (↑(((160 : Nat) + (avLen (Av.sl (List.take n xs) n) + (1 : Nat) + (1 : Nat)) % (90 : Nat)) %
                              (256 : Nat)) :
                          Int)])))),
          Value.int IntKind.u32
            (r4
              (List.drop (104 : Nat)
                (List.take (avLen (Av.sl (List.take n xs) n))
                  (List.take n xs ++
                    [Value.int IntKind.u8
                        (↑(((160 : Nat) + avLen (Av.sl (List.take n xs) n) % (90 : Nat)) % (256 : Nat)) : Int),
                      Value.int IntKind.u8
                        (↑(((160 : Nat) + (avLen (Av.sl (List.take n xs) n) + (1 : Nat)) % (90 : Nat)) % (256 : Nat)) :
                          Int),
                      Value.int IntKind.u8
                        (↑(((160 : Nat) + (avLen (Av.sl (List.take n xs) n) + (1 : Nat) + (1 : Nat)) % (90 : Nat)) %
                              (256 : Nat)) :
                          Int)])))),
          Value.int IntKind.u32
            (r4
              (List.drop (108 : Nat)
                (List.take (avLen (Av.sl (List.take n xs) n))
                  (List.take n xs ++
                    [Value.int IntKind.u8
                        (↑(((160 : Nat) + avLen (Av.sl (List.take n xs) n) % (90 : Nat)) % (256 : Nat)) : Int),
                      Value.int IntKind.u8
                        (↑(((160 : Nat) + (avLen (Av.sl (List.take n xs) n) + (1 : Nat)) % (90 : Nat)) % (256 : Nat)) :
                          Int),
                      Value.int IntKind.u8
                        (↑(((160 : Nat) + (avLen (Av.sl (List.take n xs) n) + (1 : Nat) + (1 : Nat)) % (90 : Nat)) %
                              (256 : Nat)) :
                          Int)])))),
          Value.int IntKind.u32
            (r4
              (List.drop (112 : Nat)
                (List.take (avLen (Av.sl (List.take n xs) n))
                  (List.take n xs ++
                    [Value.int IntKind.u8
                        (↑(((160 : Nat) + avLen (Av.sl (List.take n xs) n) % (90 : Nat)) % (256 : Nat)) : Int),
                      Value.int IntKind.u8
                        (↑(((160 : Nat) + (avLen (Av.sl (List.take n xs) n) + (1 : Nat)) % (90 : Nat)) % (256 : Nat)) :
                          Int),
                      Value.int IntKind.u8
                        (↑(((160 : Nat) + (avLen (Av.sl (List.take n xs) n) + (1 : Nat) + (1 : Nat)) % (90 : Nat)) %
                              (256 : Nat)) :
                          Int)])))),
          Value.int IntKind.u16
            (r2
              (List.drop (116 : Nat)
                (List.take (avLen (Av.sl (List.take n xs) n))
                  (List.take n xs ++
                    [Value.int IntKind.u8
                        (↑(((160 : Nat) + avLen (Av.sl (List.take n xs) n) % (90 : Nat)) % (256 : Nat)) : Int),
                      Value.int IntKind.u8
                        (↑(((160 : Nat) + (avLen (Av.sl (List.take n xs) n) + (1 : Nat)) % (90 : Nat)) % (256 : Nat)) :
                          Int),
                      Value.int IntKind.u8
                        (↑(((160 : Nat) + (avLen (Av.sl (List.take n xs) n) + (1 : Nat) + (1 : Nat)) % (90 : Nat)) %
                              (256 : Nat)) :
                          Int)])))),
          Value.int IntKind.u16
            (r2
              (List.drop (118 : Nat)
                (List.take (avLen (Av.sl (List.take n xs) n))
                  (List.take n xs ++
                    [Value.int IntKind.u8
                        (↑(((160 : Nat) + avLen (Av.sl (List.take n xs) n) % (90 : Nat)) % (256 : Nat)) : Int),
                      Value.int IntKind.u8
                        (↑(((160 : Nat) + (avLen (Av.sl (List.take n xs) n) + (1 : Nat)) % (90 : Nat)) % (256 : Nat)) :
                          Int),
                      Value.int IntKind.u8
                        (↑(((160 : Nat) + (avLen (Av.sl (List.take n xs) n) + (1 : Nat) + (1 : Nat)) % (90 : Nat)) %
                              (256 : Nat)) :
                          Int)])))),
          Value.int IntKind.u64
            (r8
              (List.drop (120 : Nat)
                (List.take (avLen (Av.sl (List.take n xs) n))
                  (List.take n xs ++
                    [Value.int IntKind.u8
                        (↑(((160 : Nat) + avLen (Av.sl (List.take n xs) n) % (90 : Nat)) % (256 : Nat)) : Int),
                      Value.int IntKind.u8
                        (↑(((160 : Nat) + (avLen (Av.sl (List.take n xs) n) + (1 : Nat)) % (90 : Nat)) % (256 : Nat)) :
                          Int),
                      Value.int IntKind.u8
                        (↑(((160 : Nat) + (avLen (Av.sl (List.take n xs) n) + (1 : Nat) + (1 : Nat)) % (90 : Nat)) %
                              (256 : Nat)) :
                          Int)]))))],
      [Value.int IntKind.u64 (r8 (List.drop (8 : Nat) (List.take n xs))),
          Value.int IntKind.u64 (r8 (List.drop (0 : Nat) (List.take n xs))),
          Value.int IntKind.u64 (r8 (List.drop (24 : Nat) (List.take n xs))),
          Value.int IntKind.u64 (r8 (List.drop (16 : Nat) (List.take n xs))),
          Value.int IntKind.u64 (r8 (List.drop (40 : Nat) (List.take n xs))),
          Value.int IntKind.u64 (r8 (List.drop (32 : Nat) (List.take n xs))),
          Value.int IntKind.u64 (r8 (List.drop (56 : Nat) (List.take n xs))),
          Value.int IntKind.u64 (r8 (List.drop (48 : Nat) (List.take n xs))),
          Value.int IntKind.u64 (r8 (List.drop (72 : Nat) (List.take n xs))),
          Value.int IntKind.u64 (r8 (List.drop (64 : Nat) (List.take n xs))),
          Value.int IntKind.u64 (r8 (List.drop (88 : Nat) (List.take n xs))),
          Value.int IntKind.u64 (r8 (List.drop (80 : Nat) (List.take n xs))),
          Value.int IntKind.u64 (r8 (List.drop (96 : Nat) (List.take n xs))),
          Value.int IntKind.u32 (r4 (List.drop (104 : Nat) (List.take n xs))),
          Value.int IntKind.u32 (r4 (List.drop (108 : Nat) (List.take n xs))),
          Value.int IntKind.u32 (r4 (List.drop (112 : Nat) (List.take n xs))),
          Value.int IntKind.u16 (r2 (List.drop (116 : Nat) (List.take n xs))),
          Value.int IntKind.u16 (r2 (List.drop (118 : Nat) (List.take n xs))),
          Value.int IntKind.u64 (r8 (List.drop (120 : Nat) (List.take n xs)))] =
        [Value.int IntKind.u64 (r8 (List.drop (8 : Nat) (List.take n xs))),
          Value.int IntKind.u64 (r8 (List.drop (0 : Nat) (List.take n xs))),
          Value.int IntKind.u64 (r8 (List.drop (24 : Nat) (List.take n xs))),
          Value.int IntKind.u64 (r8 (List.drop (16 : Nat) (List.take n xs))),
          Value.int IntKind.u64 (r8 (List.drop (40 : Nat) (List.take n xs))),
          Value.int IntKind.u64 (r8 (List.drop (32 : Nat) (List.take n xs))),
          Value.int IntKind.u64 (r8 (List.drop (56 : Nat) (List.take n xs))),
          Value.int IntKind.u64 (r8 (List.drop (48 : Nat) (List.take n xs))),
          Value.int IntKind.u64 (r8 (List.drop (72 : Nat) (List.take n xs))),
          Value.int IntKind.u64 (r8 (List.drop (64 : Nat) (List.take n xs))),
          Value.int IntKind.u64 (r8 (List.drop (88 : Nat) (List.take n xs))),
          Value.int IntKind.u64 (r8 (List.drop (80 : Nat) (List.take n xs))),
          Value.int IntKind.u64 (r8 (List.drop (96 : Nat) (List.take n xs))),
          Value.int IntKind.u32 (r4 (List.drop (104 : Nat) (List.take n xs))),
          Value.int IntKind.u32 (r4 (List.drop (108 : Nat) (List.take n xs))),
          Value.int IntKind.u32 (r4 (List.drop (112 : Nat) (List.take n xs))),
          Value.int IntKind.u16 (r2 (List.drop (116 : Nat) (List.take n xs))),
          Value.int IntKind.u16 (r2 (List.drop (118 : Nat) (List.take n xs))),
          Value.int IntKind.u64 (r8 (List.drop (120 : Nat) (List.take n xs)))],
      (r8
                (List.drop (8 : Nat)
                  (List.take (avLen (Av.sl (List.take n xs) n))
                    (List.take n xs ++
                      [Value.int IntKind.u8
                          (↑(((160 : Nat) + avLen (Av.sl (List.take n xs) n) % (90 : Nat)) % (256 : Nat)) : Int),
                        Value.int IntKind.u8
                          (↑(((160 : Nat) + (avLen (Av.sl (List.take n xs) n) + (1 : Nat)) % (90 : Nat)) %
                                (256 : Nat)) :
                            Int),
                        Value.int IntKind.u8
                          (↑(((160 : Nat) + (avLen (Av.sl (List.take n xs) n) + (1 : Nat) + (1 : Nat)) % (90 : Nat)) %
                                (256 : Nat)) :
                            Int)]))) ==
              r8 (List.drop (8 : Nat) (List.take n xs)) &&
            (r8
                  (List.drop (0 : Nat)
                    (List.take (avLen (Av.sl (List.take n xs) n))
                      (List.take n xs ++
                        [Value.int IntKind.u8
                            (↑(((160 : Nat) + avLen (Av.sl (List.take n xs) n) % (90 : Nat)) % (256 : Nat)) : Int),
                          Value.int IntKind.u8
                            (↑(((160 : Nat) + (avLen (Av.sl (List.take n xs) n) + (1 : Nat)) % (90 : Nat)) %
                                  (256 : Nat)) :
                              Int),
                          Value.int IntKind.u8
                            (↑(((160 : Nat) + (avLen (Av.sl (List.take n xs) n) + (1 : Nat) + (1 : Nat)) % (90 : Nat)) %
                                  (256 : Nat)) :
                              Int)]))) ==
                r8 (List.drop (0 : Nat) (List.take n xs)) &&
              true) &&
          (r8
                  (List.drop (24 : Nat)
                    (List.take (avLen (Av.sl (List.take n xs) n))
                      (List.take n xs ++
                        [Value.int IntKind.u8
                            (↑(((160 : Nat) + avLen (Av.sl (List.take n xs) n) % (90 : Nat)) % (256 : Nat)) : Int),
                          Value.int IntKind.u8
                            (↑(((160 : Nat) + (avLen (Av.sl (List.take n xs) n) + (1 : Nat)) % (90 : Nat)) %
                                  (256 : Nat)) :
                              Int),
                          Value.int IntKind.u8
                            (↑(((160 : Nat) + (avLen (Av.sl (List.take n xs) n) + (1 : Nat) + (1 : Nat)) % (90 : Nat)) %
                                  (256 : Nat)) :
                              Int)]))) ==
                r8 (List.drop (24 : Nat) (List.take n xs)) &&
              (r8
                    (List.drop (16 : Nat)
                      (List.take (avLen (Av.sl (List.take n xs) n))
                        (List.take n xs ++
                          [Value.int IntKind.u8
                              (↑(((160 : Nat) + avLen (Av.sl (List.take n xs) n) % (90 : Nat)) % (256 : Nat)) : Int),
                            Value.int IntKind.u8
                              (↑(((160 : Nat) + (avLen (Av.sl (List.take n xs) n) + (1 : Nat)) % (90 : Nat)) %
                                    (256 : Nat)) :
                                Int),
                            Value.int IntKind.u8
                              (↑(((160 : Nat) +
                                      (avLen (Av.sl (List.take n xs) n) + (1 : Nat) + (1 : Nat)) % (90 : Nat)) %
                                    (256 : Nat)) :
                                Int)]))) ==
                  r8 (List.drop (16 : Nat) (List.take n xs)) &&
                true) &&
            (r8
                    (List.drop (40 : Nat)
                      (List.take (avLen (Av.sl (List.take n xs) n))
                        (List.take n xs ++
                          [Value.int IntKind.u8
                              (↑(((160 : Nat) + avLen (Av.sl (List.take n xs) n) % (90 : Nat)) % (256 : Nat)) : Int),
                            Value.int IntKind.u8
                              (↑(((160 : Nat) + (avLen (Av.sl (List.take n xs) n) + (1 : Nat)) % (90 : Nat)) %
                                    (256 : Nat)) :
                                Int),
                            Value.int IntKind.u8
                              (↑(((160 : Nat) +
                                      (avLen (Av.sl (List.take n xs) n) + (1 : Nat) + (1 : Nat)) % (90 : Nat)) %
                                    (256 : Nat)) :
                                Int)]))) ==
                  r8 (List.drop (40 : Nat) (List.take n xs)) &&
                (r8
                      (List.drop (32 : Nat)
                        (List.take (avLen (Av.sl (List.take n xs) n))
                          (List.take n xs ++
                            [Value.int IntKind.u8
                                (↑(((160 : Nat) + avLen (Av.sl (List.take n xs) n) % (90 : Nat)) % (256 : Nat)) : Int),
                              Value.int IntKind.u8
                                (↑(((160 : Nat) + (avLen (Av.sl (List.take n xs) n) + (1 : Nat)) % (90 : Nat)) %
                                      (256 : Nat)) :
                                  Int),
                              Value.int IntKind.u8
                                (↑(((160 : Nat) +
                                        (avLen (Av.sl (List.take n xs) n) + (1 : Nat) + (1 : Nat)) % (90 : Nat)) %
                                      (256 : Nat)) :
                                  Int)]))) ==
                    r8 (List.drop (32 : Nat) (List.take n xs)) &&
                  true) &&
              (r8
                      (List.drop (56 : Nat)
                        (List.take (avLen (Av.sl (List.take n xs) n))
                          (List.take n xs ++
                            [Value.int IntKind.u8
                                (↑(((160 : Nat) + avLen (Av.sl (List.take n xs) n) % (90 : Nat)) % (256 : Nat)) : Int),
                              Value.int IntKind.u8
                                (↑(((160 : Nat) + (avLen (Av.sl (List.take n xs) n) + (1 : Nat)) % (90 : Nat)) %
                                      (256 : Nat)) :
                                  Int),
                              Value.int IntKind.u8
                                (↑(((160 : Nat) +
                                        (avLen (Av.sl (List.take n xs) n) + (1 : Nat) + (1 : Nat)) % (90 : Nat)) %
                                      (256 : Nat)) :
                                  Int)]))) ==
                    r8 (List.drop (56 : Nat) (List.take n xs)) &&
                  (r8
                        (List.drop (48 : Nat)
                          (List.take (avLen (Av.sl (List.take n xs) n))
                            (List.take n xs ++
                              [Value.int IntKind.u8
                                  (↑(((160 : Nat) + avLen (Av.sl (List.take n xs) n) % (90 : Nat)) % (256 : Nat)) :
                                    Int),
                                Value.int IntKind.u8
                                  (↑(((160 : Nat) + (avLen (Av.sl (List.take n xs) n) + (1 : Nat)) % (90 : Nat)) %
                                        (256 : Nat)) :
                                    Int),
                                Value.int IntKind.u8
                                  (↑(((160 : Nat) +
                                          (avLen (Av.sl (List.take n xs) n) + (1 : Nat) + (1 : Nat)) % (90 : Nat)) %
                                        (256 : Nat)) :
                                    Int)]))) ==
                      r8 (List.drop (48 : Nat) (List.take n xs)) &&
                    true) &&
                (r8
                        (List.drop (72 : Nat)
                          (List.take (avLen (Av.sl (List.take n xs) n))
                            (List.take n xs ++
                              [Value.int IntKind.u8
                                  (↑(((160 : Nat) + avLen (Av.sl (List.take n xs) n) % (90 : Nat)) % (256 : Nat)) :
                                    Int),
                                Value.int IntKind.u8
                                  (↑(((160 : Nat) + (avLen (Av.sl (List.take n xs) n) + (1 : Nat)) % (90 : Nat)) %
                                        (256 : Nat)) :
                                    Int),
                                Value.int IntKind.u8
                                  (↑(((160 : Nat) +
                                          (avLen (Av.sl (List.take n xs) n) + (1 : Nat) + (1 : Nat)) % (90 : Nat)) %
                                        (256 : Nat)) :
                                    Int)]))) ==
                      r8 (List.drop (72 : Nat) (List.take n xs)) &&
                    (r8
                          (List.drop (64 : Nat)
                            (List.take (avLen (Av.sl (List.take n xs) n))
                              (List.take n xs ++
                                [Value.int IntKind.u8
                                    (↑(((160 : Nat) + avLen (Av.sl (List.take n xs) n) % (90 : Nat)) % (256 : Nat)) :
                                      Int),
                                  Value.int IntKind.u8
                                    (↑(((160 : Nat) + (avLen (Av.sl (List.take n xs) n) + (1 : Nat)) % (90 : Nat)) %
                                          (256 : Nat)) :
                                      Int),
                                  Value.int IntKind.u8
                                    (↑(((160 : Nat) +
                                            (avLen (Av.sl (List.take n xs) n) + (1 : Nat) + (1 : Nat)) % (90 : Nat)) %
                                          (256 : Nat)) :
                                      Int)]))) ==
                        r8 (List.drop (64 : Nat) (List.take n xs)) &&
                      true) &&
                  (r8
                          (List.drop (88 : Nat)
                            (List.take (avLen (Av.sl (List.take n xs) n))
                              (List.take n xs ++
                                [Value.int IntKind.u8
                                    (↑(((160 : Nat) + avLen (Av.sl (List.take n xs) n) % (90 : Nat)) % (256 : Nat)) :
                                      Int),
                                  Value.int IntKind.u8
                                    (↑(((160 : Nat) + (avLen (Av.sl (List.take n xs) n) + (1 : Nat)) % (90 : Nat)) %
                                          (256 : Nat)) :
                                      Int),
                                  Value.int IntKind.u8
                                    (↑(((160 : Nat) +
                                            (avLen (Av.sl (List.take n xs) n) + (1 : Nat) + (1 : Nat)) % (90 : Nat)) %
                                          (256 : Nat)) :
                                      Int)]))) ==
                        r8 (List.drop (88 : Nat) (List.take n xs)) &&
                      (r8
                            (List.drop (80 : Nat)
                              (List.take (avLen (Av.sl (List.take n xs) n))
                                (List.take n xs ++
                                  [Value.int IntKind.u8
                                      (↑(((160 : Nat) + avLen (Av.sl (List.take n xs) n) % (90 : Nat)) % (256 : Nat)) :
                                        Int),
                                    Value.int IntKind.u8
                                      (↑(((160 : Nat) + (avLen (Av.sl (List.take n xs) n) + (1 : Nat)) % (90 : Nat)) %
                                            (256 : Nat)) :
                                        Int),
                                    Value.int IntKind.u8
                                      (↑(((160 : Nat) +
                                              (avLen (Av.sl (List.take n xs) n) + (1 : Nat) + (1 : Nat)) % (90 : Nat)) %
                                            (256 : Nat)) :
                                        Int)]))) ==
                          r8 (List.drop (80 : Nat) (List.take n xs)) &&
                        true) &&
                    (r8
                          (List.drop (96 : Nat)
                            (List.take (avLen (Av.sl (List.take n xs) n))
                              (List.take n xs ++
                                [Value.int IntKind.u8
                                    (↑(((160 : Nat) + avLen (Av.sl (List.take n xs) n) % (90 : Nat)) % (256 : Nat)) :
                                      Int),
                                  Value.int IntKind.u8
                                    (↑(((160 : Nat) + (avLen (Av.sl (List.take n xs) n) + (1 : Nat)) % (90 : Nat)) %
                                          (256 : Nat)) :
                                      Int),
                                  Value.int IntKind.u8
                                    (↑(((160 : Nat) +
                                            (avLen (Av.sl (List.take n xs) n) + (1 : Nat) + (1 : Nat)) % (90 : Nat)) %
                                          (256 : Nat)) :
                                      Int)]))) ==
                        r8 (List.drop (96 : Nat) (List.take n xs)) &&
                      (r4
                            (List.drop (104 : Nat)
                              (List.take (avLen (Av.sl (List.take n xs) n))
                                (List.take n xs ++
                                  [Value.int IntKind.u8
                                      (↑(((160 : Nat) + avLen (Av.sl (List.take n xs) n) % (90 : Nat)) % (256 : Nat)) :
                                        Int),
                                    Value.int IntKind.u8
                                      (↑(((160 : Nat) + (avLen (Av.sl (List.take n xs) n) + (1 : Nat)) % (90 : Nat)) %
                                            (256 : Nat)) :
                                        Int),
                                    Value.int IntKind.u8
                                      (↑(((160 : Nat) +
                                              (avLen (Av.sl (List.take n xs) n) + (1 : Nat) + (1 : Nat)) % (90 : Nat)) %
                                            (256 : Nat)) :
                                        Int)]))) ==
                          r4 (List.drop (104 : Nat) (List.take n xs)) &&
                        (r4
                              (List.drop (108 : Nat)
                                (List.take (avLen (Av.sl (List.take n xs) n))
                                  (List.take n xs ++
                                    [Value.int IntKind.u8
                                        (↑(((160 : Nat) + avLen (Av.sl (List.take n xs) n) % (90 : Nat)) %
                                              (256 : Nat)) :
                                          Int),
                                      Value.int IntKind.u8
                                        (↑(((160 : Nat) + (avLen (Av.sl (List.take n xs) n) + (1 : Nat)) % (90 : Nat)) %
                                              (256 : Nat)) :
                                          Int),
                                      Value.int IntKind.u8
                                        (↑(((160 : Nat) +
                                                (avLen (Av.sl (List.take n xs) n) + (1 : Nat) + (1 : Nat)) %
                                                  (90 : Nat)) %
                                              (256 : Nat)) :
                                          Int)]))) ==
                            r4 (List.drop (108 : Nat) (List.take n xs)) &&
                          (r4
                                (List.drop (112 : Nat)
                                  (List.take (avLen (Av.sl (List.take n xs) n))
                                    (List.take n xs ++
                                      [Value.int IntKind.u8
                                          (↑(((160 : Nat) + avLen (Av.sl (List.take n xs) n) % (90 : Nat)) %
                                                (256 : Nat)) :
                                            Int),
                                        Value.int IntKind.u8
                                          (↑(((160 : Nat) +
                                                  (avLen (Av.sl (List.take n xs) n) + (1 : Nat)) % (90 : Nat)) %
                                                (256 : Nat)) :
                                            Int),
                                        Value.int IntKind.u8
                                          (↑(((160 : Nat) +
                                                  (avLen (Av.sl (List.take n xs) n) + (1 : Nat) + (1 : Nat)) %
                                                    (90 : Nat)) %
                                                (256 : Nat)) :
                                            Int)]))) ==
                              r4 (List.drop (112 : Nat) (List.take n xs)) &&
                            (r2
                                  (List.drop (116 : Nat)
                                    (List.take (avLen (Av.sl (List.take n xs) n))
                                      (List.take n xs ++
                                        [Value.int IntKind.u8
                                            (↑(((160 : Nat) + avLen (Av.sl (List.take n xs) n) % (90 : Nat)) %
                                                  (256 : Nat)) :
                                              Int),
                                          Value.int IntKind.u8
                                            (↑(((160 : Nat) +
                                                    (avLen (Av.sl (List.take n xs) n) + (1 : Nat)) % (90 : Nat)) %
                                                  (256 : Nat)) :
                                              Int),
                                          Value.int IntKind.u8
                                            (↑(((160 : Nat) +
                                                    (avLen (Av.sl (List.take n xs) n) + (1 : Nat) + (1 : Nat)) %
                                                      (90 : Nat)) %
                                                  (256 : Nat)) :
                                              Int)]))) ==
                                r2 (List.drop (116 : Nat) (List.take n xs)) &&
                              (r2
                                    (List.drop (118 : Nat)
                                      (List.take (avLen (Av.sl (List.take n xs) n))
                                        (List.take n xs ++
                                          [Value.int IntKind.u8
                                              (↑(((160 : Nat) + avLen (Av.sl (List.take n xs) n) % (90 : Nat)) %
                                                    (256 : Nat)) :
                                                Int),
                                            Value.int IntKind.u8
                                              (↑(((160 : Nat) +
                                                      (avLen (Av.sl (List.take n xs) n) + (1 : Nat)) % (90 : Nat)) %
                                                    (256 : Nat)) :
                                                Int),
                                            Value.int IntKind.u8
                                              (↑(((160 : Nat) +
                                                      (avLen (Av.sl (List.take n xs) n) + (1 : Nat) + (1 : Nat)) %
                                                        (90 : Nat)) %
                                                    (256 : Nat)) :
                                                Int)]))) ==
                                  r2 (List.drop (118 : Nat) (List.take n xs)) &&
                                (r8
                                      (List.drop (120 : Nat)
                                        (List.take (avLen (Av.sl (List.take n xs) n))
                                          (List.take n xs ++
                                            [Value.int IntKind.u8
                                                (↑(((160 : Nat) + avLen (Av.sl (List.take n xs) n) % (90 : Nat)) %
                                                      (256 : Nat)) :
                                                  Int),
                                              Value.int IntKind.u8
                                                (↑(((160 : Nat) +
                                                        (avLen (Av.sl (List.take n xs) n) + (1 : Nat)) % (90 : Nat)) %
                                                      (256 : Nat)) :
                                                  Int),
                                              Value.int IntKind.u8
                                                (↑(((160 : Nat) +
                                                        (avLen (Av.sl (List.take n xs) n) + (1 : Nat) + (1 : Nat)) %
                                                          (90 : Nat)) %
                                                      (256 : Nat)) :
                                                  Int)]))) ==
                                    r8 (List.drop (120 : Nat) (List.take n xs)) &&
                                  true))))))))))))) =
        true,
      avLen (Av.sl (List.take n xs) n) + (3 : Nat) ≤ (9223372036854775807 : Nat),
      avLen (Av.sl (List.take n xs) n) + (3 : Nat) ≤
        List.length
          (List.take n xs ++
            [Value.int IntKind.u8
                (↑(((160 : Nat) + avLen (Av.sl (List.take n xs) n) % (90 : Nat)) % (256 : Nat)) : Int),
              Value.int IntKind.u8
                (↑(((160 : Nat) + (avLen (Av.sl (List.take n xs) n) + (1 : Nat)) % (90 : Nat)) % (256 : Nat)) : Int),
              Value.int IntKind.u8
                (↑(((160 : Nat) + (avLen (Av.sl (List.take n xs) n) + (1 : Nat) + (1 : Nat)) % (90 : Nat)) %
                      (256 : Nat)) :
                  Int)]),
      Fl
        (List.take (avLen (Av.sl (List.take n xs) n) + (3 : Nat))
          (List.take n xs ++
            [Value.int IntKind.u8
                (↑(((160 : Nat) + avLen (Av.sl (List.take n xs) n) % (90 : Nat)) % (256 : Nat)) : Int),
              Value.int IntKind.u8
                (↑(((160 : Nat) + (avLen (Av.sl (List.take n xs) n) + (1 : Nat)) % (90 : Nat)) % (256 : Nat)) : Int),
              Value.int IntKind.u8
                (↑(((160 : Nat) + (avLen (Av.sl (List.take n xs) n) + (1 : Nat) + (1 : Nat)) % (90 : Nat)) %
                      (256 : Nat)) :
                  Int)])),
      n ≤ c ∧ c ≤ (9223372036854775807 : Nat), n ≤ List.length xs, Fl (List.take n xs),
      Byts
        (List.take (avLen (Av.sl (List.take n xs) n) + (3 : Nat))
          (List.take n xs ++
            [Value.int IntKind.u8
                (↑(((160 : Nat) + avLen (Av.sl (List.take n xs) n) % (90 : Nat)) % (256 : Nat)) : Int),
              Value.int IntKind.u8
                (↑(((160 : Nat) + (avLen (Av.sl (List.take n xs) n) + (1 : Nat)) % (90 : Nat)) % (256 : Nat)) : Int),
              Value.int IntKind.u8
                (↑(((160 : Nat) + (avLen (Av.sl (List.take n xs) n) + (1 : Nat) + (1 : Nat)) % (90 : Nat)) %
                      (256 : Nat)) :
                  Int)])),
      Byts (List.take n xs), avLen (Av.sl (List.take n xs) n) = avLen (Av.sl (List.take n xs) n),
      avLen (Av.sl (List.take n xs) n) + (3 : Nat) = avLen (Av.sl (List.take n xs) n) + (3 : Nat),
      avLen (Av.sl (List.take n xs) n) ≤ (1099511627776 : Nat),
      decide
          (intsOf
              (List.take (avLen (Av.sl (List.take n xs) n) + (3 : Nat))
                (List.take n xs ++
                  [Value.int IntKind.u8
                      (↑(((160 : Nat) + avLen (Av.sl (List.take n xs) n) % (90 : Nat)) % (256 : Nat)) : Int),
                    Value.int IntKind.u8
                      (↑(((160 : Nat) + (avLen (Av.sl (List.take n xs) n) + (1 : Nat)) % (90 : Nat)) % (256 : Nat)) :
                        Int),
                    Value.int IntKind.u8
                      (↑(((160 : Nat) + (avLen (Av.sl (List.take n xs) n) + (1 : Nat) + (1 : Nat)) % (90 : Nat)) %
                            (256 : Nat)) :
                        Int)])) =
            intsOf
              (List.take n xs ++
                [Value.int IntKind.u8
                    (↑(((160 : Nat) + avLen (Av.sl (List.take n xs) n) % (90 : Nat)) % (256 : Nat)) : Int),
                  Value.int IntKind.u8
                    (↑(((160 : Nat) + (avLen (Av.sl (List.take n xs) n) + (1 : Nat)) % (90 : Nat)) % (256 : Nat)) :
                      Int),
                  Value.int IntKind.u8
                    (↑(((160 : Nat) + (avLen (Av.sl (List.take n xs) n) + (1 : Nat) + (1 : Nat)) % (90 : Nat)) %
                          (256 : Nat)) :
                      Int)])) =
        true]) := by kernel_rfl
theorem rr_n  : runZ rrlV Try.prog 5 4 [.slice none 0 0] [] 1 ([false] ++ [true, true, true, true] ++ [true, true, true]) =
Res.ok
  ((Value.bool true, [], (6 : Nat), []), [],
    [false = false, Byts [], (0 : Nat) ≤ (1099511627776 : Nat),
      (0 : Nat) ≤ (3 : Nat) ∧ (3 : Nat) ≤ (9223372036854775807 : Nat), (0 : Nat) ≤ (3 : Nat), Fl [],
      (0 : Nat) ≠ (128 : Nat), (19 : Nat) ≤ (19 : Nat), (0 : Nat) ≠ (128 : Nat), (19 : Nat) ≤ (19 : Nat),
      (0 : Nat) ≤ (3 : Nat) ∧ (3 : Nat) ≤ (9223372036854775807 : Nat), (0 : Nat) ≤ (3 : Nat), Fl [],
      (0 : Nat) ≠ (128 : Nat), (19 : Nat) ≤ (19 : Nat), (0 : Nat) ≠ (128 : Nat), (19 : Nat) ≤ (19 : Nat),
      [Value.int IntKind.u64 (0 : Int), Value.int IntKind.u64 (0 : Int), Value.int IntKind.u64 (0 : Int),
          Value.int IntKind.u64 (0 : Int), Value.int IntKind.u64 (0 : Int), Value.int IntKind.u64 (0 : Int),
          Value.int IntKind.u64 (0 : Int), Value.int IntKind.u64 (0 : Int), Value.int IntKind.u64 (0 : Int),
          Value.int IntKind.u64 (0 : Int), Value.int IntKind.u64 (0 : Int), Value.int IntKind.u64 (0 : Int),
          Value.int IntKind.u64 (0 : Int), Value.int IntKind.u32 (0 : Int), Value.int IntKind.u32 (0 : Int),
          Value.int IntKind.u32 (0 : Int), Value.int IntKind.u16 (0 : Int), Value.int IntKind.u16 (0 : Int),
          Value.int IntKind.u64 (0 : Int)] =
        [Value.int IntKind.u64 (0 : Int), Value.int IntKind.u64 (0 : Int), Value.int IntKind.u64 (0 : Int),
          Value.int IntKind.u64 (0 : Int), Value.int IntKind.u64 (0 : Int), Value.int IntKind.u64 (0 : Int),
          Value.int IntKind.u64 (0 : Int), Value.int IntKind.u64 (0 : Int), Value.int IntKind.u64 (0 : Int),
          Value.int IntKind.u64 (0 : Int), Value.int IntKind.u64 (0 : Int), Value.int IntKind.u64 (0 : Int),
          Value.int IntKind.u64 (0 : Int), Value.int IntKind.u32 (0 : Int), Value.int IntKind.u32 (0 : Int),
          Value.int IntKind.u32 (0 : Int), Value.int IntKind.u16 (0 : Int), Value.int IntKind.u16 (0 : Int),
          Value.int IntKind.u64 (0 : Int)],
      [Value.int IntKind.u64 (0 : Int), Value.int IntKind.u64 (0 : Int), Value.int IntKind.u64 (0 : Int),
          Value.int IntKind.u64 (0 : Int), Value.int IntKind.u64 (0 : Int), Value.int IntKind.u64 (0 : Int),
          Value.int IntKind.u64 (0 : Int), Value.int IntKind.u64 (0 : Int), Value.int IntKind.u64 (0 : Int),
          Value.int IntKind.u64 (0 : Int), Value.int IntKind.u64 (0 : Int), Value.int IntKind.u64 (0 : Int),
          Value.int IntKind.u64 (0 : Int), Value.int IntKind.u32 (0 : Int), Value.int IntKind.u32 (0 : Int),
          Value.int IntKind.u32 (0 : Int), Value.int IntKind.u16 (0 : Int), Value.int IntKind.u16 (0 : Int),
          Value.int IntKind.u64 (0 : Int)] =
        [Value.int IntKind.u64 (0 : Int), Value.int IntKind.u64 (0 : Int), Value.int IntKind.u64 (0 : Int),
          Value.int IntKind.u64 (0 : Int), Value.int IntKind.u64 (0 : Int), Value.int IntKind.u64 (0 : Int),
          Value.int IntKind.u64 (0 : Int), Value.int IntKind.u64 (0 : Int), Value.int IntKind.u64 (0 : Int),
          Value.int IntKind.u64 (0 : Int), Value.int IntKind.u64 (0 : Int), Value.int IntKind.u64 (0 : Int),
          Value.int IntKind.u64 (0 : Int), Value.int IntKind.u32 (0 : Int), Value.int IntKind.u32 (0 : Int),
          Value.int IntKind.u32 (0 : Int), Value.int IntKind.u16 (0 : Int), Value.int IntKind.u16 (0 : Int),
          Value.int IntKind.u64 (0 : Int)],
      true = true,
      [Value.int IntKind.u64 (0 : Int), Value.int IntKind.u64 (0 : Int), Value.int IntKind.u64 (0 : Int),
          Value.int IntKind.u64 (0 : Int), Value.int IntKind.u64 (0 : Int), Value.int IntKind.u64 (0 : Int),
          Value.int IntKind.u64 (0 : Int), Value.int IntKind.u64 (0 : Int), Value.int IntKind.u64 (0 : Int),
          Value.int IntKind.u64 (0 : Int), Value.int IntKind.u64 (0 : Int), Value.int IntKind.u64 (0 : Int),
          Value.int IntKind.u64 (0 : Int), Value.int IntKind.u32 (0 : Int), Value.int IntKind.u32 (0 : Int),
          Value.int IntKind.u32 (0 : Int), Value.int IntKind.u16 (0 : Int), Value.int IntKind.u16 (0 : Int),
          Value.int IntKind.u64 (0 : Int)] =
        [Value.int IntKind.u64 (0 : Int), Value.int IntKind.u64 (0 : Int), Value.int IntKind.u64 (0 : Int),
          Value.int IntKind.u64 (0 : Int), Value.int IntKind.u64 (0 : Int), Value.int IntKind.u64 (0 : Int),
          Value.int IntKind.u64 (0 : Int), Value.int IntKind.u64 (0 : Int), Value.int IntKind.u64 (0 : Int),
          Value.int IntKind.u64 (0 : Int), Value.int IntKind.u64 (0 : Int), Value.int IntKind.u64 (0 : Int),
          Value.int IntKind.u64 (0 : Int), Value.int IntKind.u32 (0 : Int), Value.int IntKind.u32 (0 : Int),
          Value.int IntKind.u32 (0 : Int), Value.int IntKind.u16 (0 : Int), Value.int IntKind.u16 (0 : Int),
          Value.int IntKind.u64 (0 : Int)],
      [Value.int IntKind.u64 (0 : Int), Value.int IntKind.u64 (0 : Int), Value.int IntKind.u64 (0 : Int),
          Value.int IntKind.u64 (0 : Int), Value.int IntKind.u64 (0 : Int), Value.int IntKind.u64 (0 : Int),
          Value.int IntKind.u64 (0 : Int), Value.int IntKind.u64 (0 : Int), Value.int IntKind.u64 (0 : Int),
          Value.int IntKind.u64 (0 : Int), Value.int IntKind.u64 (0 : Int), Value.int IntKind.u64 (0 : Int),
          Value.int IntKind.u64 (0 : Int), Value.int IntKind.u32 (0 : Int), Value.int IntKind.u32 (0 : Int),
          Value.int IntKind.u32 (0 : Int), Value.int IntKind.u16 (0 : Int), Value.int IntKind.u16 (0 : Int),
          Value.int IntKind.u64 (0 : Int)] =
        [Value.int IntKind.u64 (0 : Int), Value.int IntKind.u64 (0 : Int), Value.int IntKind.u64 (0 : Int),
          Value.int IntKind.u64 (0 : Int), Value.int IntKind.u64 (0 : Int), Value.int IntKind.u64 (0 : Int),
          Value.int IntKind.u64 (0 : Int), Value.int IntKind.u64 (0 : Int), Value.int IntKind.u64 (0 : Int),
          Value.int IntKind.u64 (0 : Int), Value.int IntKind.u64 (0 : Int), Value.int IntKind.u64 (0 : Int),
          Value.int IntKind.u64 (0 : Int), Value.int IntKind.u32 (0 : Int), Value.int IntKind.u32 (0 : Int),
          Value.int IntKind.u32 (0 : Int), Value.int IntKind.u16 (0 : Int), Value.int IntKind.u16 (0 : Int),
          Value.int IntKind.u64 (0 : Int)],
      true = true, (3 : Nat) ≤ (9223372036854775807 : Nat), (3 : Nat) ≤ (3 : Nat),
      Fl [Value.int IntKind.u8 (160 : Int), Value.int IntKind.u8 (161 : Int), Value.int IntKind.u8 (162 : Int)],
      Byts [Value.int IntKind.u8 (160 : Int), Value.int IntKind.u8 (161 : Int), Value.int IntKind.u8 (162 : Int)],
      Byts [], (0 : Nat) = (0 : Nat), (3 : Nat) = (3 : Nat), (0 : Nat) ≤ (1099511627776 : Nat), true = true]) := by kernel_rfl
theorem rr_run {xs : List Value} {n c : Nat} (hb : Byts xs) (hl : xs.length = n) (hc : n ≤ c ∧ c ≤ 9223372036854775807) :
    RunsTrue Try.prog 4 [.slice (some ⟨0, 0, none⟩) n c] [(0, ⟨.old, xs⟩)] 1 := by
  have hX : XOkZ rrlV Try.prog := noXz_ok rfl
  have hT : TOkZ rrlV Try.prog := T_okV rfl rrlT_one
  have hL : LOkZ rrlV Try.prog := noL_okV rfl
  have ex1 : xs.take n = xs := take_len hl
  have hml : (xs ++ mk3 n).length = n + 3 := by simp [mk3, hl]
  have ex2 : (xs ++ mk3 n).take n = xs := by rw [← hl, List.take_left]
  have ex3 : (xs ++ mk3 n).take (n + 3) = xs ++ mk3 n := take_len hml
  have f1 := fl_byts hb
  have b2 := hb.app (mk3_byts n)
  have f2 := fl_byts b2
  unfold mk3 at ex2 ex3 hml b2 f2
  by_cases h1 : n ≤ 1000
  case neg =>
    refine ⟨_, _, _, run_tri hX hT hL (rr_l xs n c) ?_ rfl⟩
    simp only [Alls, decide_eq_true_eq]
    repeat' (first | with_reducible exact trivial | with_reducible apply And.intro)
    all_goals first | with_reducible assumption | omega | with_reducible rfl | (skip)
  have g1 : decide ((n : Int) > 1000) = false := by simp only [decide_eq_false_iff_not]; omega
  by_cases k0 : n = 128
  ·
    refine ⟨_, _, _, run_tri hX hT hL (rr_o xs n c) ?_ rfl⟩
    simp only [Alls, avLen, ex1, ex2, ex3]
    repeat' (first | with_reducible exact trivial | with_reducible apply And.intro)
    all_goals first | with_reducible assumption | omega | with_reducible rfl | (first | exact k0 | exact decide_eq_true rfl | exact b2 | exact f2 | rfl | (simp only [beq_self_eq_true, Bool.and_self]; done))
  ·
    refine ⟨_, _, _, run_tri hX hT hL (rr_b xs n c) ?_ rfl⟩
    simp only [Alls, avLen, ex1, ex2, ex3]
    repeat' (first | with_reducible exact trivial | with_reducible apply And.intro)
    all_goals first | with_reducible assumption | omega | with_reducible rfl | (first | exact k0 | exact decide_eq_true rfl | exact b2 | exact f2 | rfl | (simp only [beq_self_eq_true, Bool.and_self]; done))
theorem rr_run_n : RunsTrue Try.prog 4 [.slice none 0 0] [] 1 := by
  have hX : XOkZ rrlV Try.prog := noXz_ok rfl
  have hT : TOkZ rrlV Try.prog := T_okV rfl rrlT_one
  have hL : LOkZ rrlV Try.prog := noL_okV rfl
  refine ⟨_, _, _, run_tri hX hT hL rr_n ?_ rfl⟩
  simp only [Alls]
  repeat' (first | with_reducible exact trivial | with_reducible apply And.intro)
  all_goals first | with_reducible assumption | omega | with_reducible rfl | (first | exact decide_eq_true rfl | exact Byts.nil | exact fl_byts (mk3_byts 0) | exact mk3_byts 0 | exact Fl.of rfl | rfl | (simp only [beq_self_eq_true, Bool.and_self]; done))
theorem reads_any {W : World} {v0 : Value} {a0 : Av} {q0 : Option (Addr × Nat)} {z0 : List (List Int)} (h0 : (a0 = .fl (.slice none 0 0) ∧ z0 = []) ∨ a0 = .sl (z0.map (cellsK [.u8])).flatten z0.length)
    (A0 : AvAt a0 v0 q0) (L0 : Lies W a0 q0) (w0 : ∀ zs ∈ z0, AllWf [.u8] zs) :
    Calls Try.prog 4 #[v0] W fun e w' => e = .returned (.bool true) ∧ Ext W w' := by
  have b0 := flat_Byts w0
  have l0 : ((z0.map (cellsK [.u8])).flatten).length = z0.length := by rw [flat_len w0]; simp
  refine calls_sl (avs := [a0]) (vs := [v0]) (ps := [q0]) ⟨A0, trivial⟩ ⟨L0, trivial⟩ (fun σ => rfl) fun cs hcs => ?_
  obtain ⟨c, rfl⟩ := caps1 hcs
  rcases h0 with ⟨rfl, rfl⟩ | rfl
  · exact rr_run_n
  · exact rr_run b0 l0 hcs.1
end Go.Proofs.Ytgpgdkpfeoaidaa
