/-
  Chapter 01: the statement U128Bytes, run at any number and any bytes.
-/
import Derived.Test.YtpiapipmhlpmjaaU128ZB
import Derived.Test.YtpiapipmhlpmjaaU128KW
import Derived.Test.YtpiapipmhlpmjaaOpenSl
namespace Go.Proofs.Ytpiapipmhlpmjaa
set_option linter.unusedSimpArgs false
set_option linter.unusedVariables false
set_option linter.unusedSectionVars false
open Go Go.RowKit

def gTrueZ : GSpec := fun av tp => match av with
  | [] => some (⟨fun _ => .bool true, []⟩, tp, [])
  | _ => none
theorem gTrueZ_ok {f : FuncId} (H : ∀ W : World, Calls Try.prog f #[] W fun e w' => e = .returned (.bool true) ∧ Ext W w') : GOk Try.prog f [] gTrueZ := by
  intro av tp gr tp' ob hG ho hP caps hcap
  unfold gTrueZ at hG
  split at hG
  case h_2 => cases hG
  simp only [Option.some.injEq, Prod.mk.injEq] at hG
  obtain ⟨rfl, rfl, rfl⟩ := hG
  refine ⟨_, _, _, _, fun n => n, tri_quiet (v := .bool true) (fun σ args' ha => ?_) (fun σ => rfl) fun w => ?_, GrIs.flat fun σ => rfl⟩
  · simp only [canV, renL, Option.some.injEq] at ha
    exact ha.symm
  · exact H w
def ublT : TFun := orTz (mkT 13 [] gTrueZ) (orTz (mkT 33 [.c 1, .s 1] gKept) (orTz overT (orTz kitT u9T)))
theorem ublT_one : TOneZ Try.prog ublT := orTz_ok (mkT_one (gTrueZ_ok awake_any)) (orTz_ok (mkT_one kept_ok) (orTz_ok over_one (orTz_ok kitT_one u9T_one)))
def ublV : Tv := ⟨ublT, noXz, noL, fun f => bif Nat.beq f 5 then [18, 46, 55, 60, 70, 80, 87] else [], allSy 5 [], fun _ => [], fun _ => 0⟩
theorem ub_l (a b : Int) (xs : List Value) (n c : Nat) : runZ ublV Try.prog 5 5 [.agg ⟨[.int .u64 a, .int .u64 b]⟩, .slice (some ⟨1, 0, none⟩) n c] [(1, ⟨.old, xs⟩)] 2 [true] =
Res.ok
  ((Value.bool true, [((1 : Nat), Rw.mk Kd.old xs)], (3 : Nat), []), [], [decide ((↑n : Int) > (1000 : Int)) = true]) := by kernel_rfl
theorem ub_b (a b : Int) (xs : List Value) (n c : Nat) : runZ ublV Try.prog 5 5 [.agg ⟨[.int .u64 a, .int .u64 b]⟩, .slice (some ⟨1, 0, none⟩) n c] [(1, ⟨.old, xs⟩)] 2 ([false] ++ [true, true, true, true] ++ [true, true, true, true, true, true]) =
Res.ok
  ((Value.bool true, [((1 : Nat), Rw.mk Kd.old xs)], (12 : Nat), []), [],
    [decide ((↑n : Int) > (1000 : Int)) = false, n ≤ c ∧ c ≤ (9223372036854775807 : Nat), n ≤ List.length xs,
      Fl (List.take n xs), Byts (List.take n xs), avLen (Av.sl (List.take n xs) n) ≤ (1099511627776 : Nat),
      avLen (Av.sl (List.take n xs) n) ≤ avLen (Av.sl (List.take n xs) n) + (3 : Nat) ∧
        avLen (Av.sl (List.take n xs) n) + (3 : Nat) ≤ (9223372036854775807 : Nat),
      avLen (Av.sl (List.take n xs) n) ≤
        List.length
          (List.take n xs ++
            [Value.int IntKind.u8
                (↑(((160 : Nat) + avLen (Av.sl (List.take n xs) n) % (90 : Nat)) % (256 : Nat)) : Int),
              Value.int IntKind.u8
                (↑(((160 : Nat) + (avLen (Av.sl (List.take n xs) n) + (1 : Nat)) % (90 : Nat)) % (256 : Nat)) : Int),
              Value.int IntKind.u8
                (↑(((160 : Nat) + (avLen (Av.sl (List.take n xs) n) + (1 : Nat) + (1 : Nat)) % (90 : Nat)) %
                      (256 : Nat)) :
                  Int)]),
      Fl
        (List.take (avLen (Av.sl (List.take n xs) n))
          (List.take n xs ++
            [Value.int IntKind.u8
                (↑(((160 : Nat) + avLen (Av.sl (List.take n xs) n) % (90 : Nat)) % (256 : Nat)) : Int),
              Value.int IntKind.u8
                (↑(((160 : Nat) + (avLen (Av.sl (List.take n xs) n) + (1 : Nat)) % (90 : Nat)) % (256 : Nat)) : Int),
              Value.int IntKind.u8
                (↑(((160 : Nat) + (avLen (Av.sl (List.take n xs) n) + (1 : Nat) + (1 : Nat)) % (90 : Nat)) %
                      (256 : Nat)) :
                  Int)])),
      avLen
          (Av.sl
            (List.take (avLen (Av.sl (List.take n xs) n))
              (List.take n xs ++
                [Value.int IntKind.u8
                    (↑(((160 : Nat) + avLen (Av.sl (List.take n xs) n) % (90 : Nat)) % (256 : Nat)) : Int),
                  Value.int IntKind.u8
                    (↑(((160 : Nat) + (avLen (Av.sl (List.take n xs) n) + (1 : Nat)) % (90 : Nat)) % (256 : Nat)) :
                      Int),
                  Value.int IntKind.u8
                    (↑(((160 : Nat) + (avLen (Av.sl (List.take n xs) n) + (1 : Nat) + (1 : Nat)) % (90 : Nat)) %
                          (256 : Nat)) :
                      Int)]))
            (avLen (Av.sl (List.take n xs) n))) ≠
        (16 : Nat),
      (2 : Nat) ≤ (2 : Nat), n ≤ c ∧ c ≤ (9223372036854775807 : Nat), n ≤ List.length xs, Fl (List.take n xs),
      avLen (Av.sl (List.take n xs) n) ≠ (16 : Nat), (2 : Nat) ≤ (2 : Nat),
      avLen (Av.sl (List.take n xs) n) ≤ avLen (Av.sl (List.take n xs) n) + (3 : Nat) ∧
        avLen (Av.sl (List.take n xs) n) + (3 : Nat) ≤ (9223372036854775807 : Nat),
      avLen (Av.sl (List.take n xs) n) ≤
        List.length
          (List.take n xs ++
            [Value.int IntKind.u8
                (↑(((160 : Nat) + avLen (Av.sl (List.take n xs) n) % (90 : Nat)) % (256 : Nat)) : Int),
              Value.int IntKind.u8
                (↑(((160 : Nat) + (avLen (Av.sl (List.take n xs) n) + (1 : Nat)) % (90 : Nat)) % (256 : Nat)) : Int),
              Value.int IntKind.u8
                (↑(((160 : Nat) + (avLen (Av.sl (List.take n xs) n) + (1 : Nat) + (1 : Nat)) % (90 : Nat)) %
                      (256 : Nat)) :
                  Int)]),
      Fl
        (List.take (avLen (Av.sl (List.take n xs) n))
          (List.take n xs ++
            [Value.int IntKind.u8
                (↑(((160 : Nat) + avLen (Av.sl (List.take n xs) n) % (90 : Nat)) % (256 : Nat)) : Int),
              Value.int IntKind.u8
                (↑(((160 : Nat) + (avLen (Av.sl (List.take n xs) n) + (1 : Nat)) % (90 : Nat)) % (256 : Nat)) : Int),
              Value.int IntKind.u8
                (↑(((160 : Nat) + (avLen (Av.sl (List.take n xs) n) + (1 : Nat) + (1 : Nat)) % (90 : Nat)) %
                      (256 : Nat)) :
                  Int)])),
      avLen
          (Av.sl
            (List.take (avLen (Av.sl (List.take n xs) n))
              (List.take n xs ++
                [Value.int IntKind.u8
                    (↑(((160 : Nat) + avLen (Av.sl (List.take n xs) n) % (90 : Nat)) % (256 : Nat)) : Int),
                  Value.int IntKind.u8
                    (↑(((160 : Nat) + (avLen (Av.sl (List.take n xs) n) + (1 : Nat)) % (90 : Nat)) % (256 : Nat)) :
                      Int),
                  Value.int IntKind.u8
                    (↑(((160 : Nat) + (avLen (Av.sl (List.take n xs) n) + (1 : Nat) + (1 : Nat)) % (90 : Nat)) %
                          (256 : Nat)) :
                      Int)]))
            (avLen (Av.sl (List.take n xs) n))) ≠
        (16 : Nat),
      (2 : Nat) ≤ (2 : Nat), n ≤ c ∧ c ≤ (9223372036854775807 : Nat), n ≤ List.length xs, Fl (List.take n xs),
      avLen (Av.sl (List.take n xs) n) ≠ (16 : Nat), (2 : Nat) ≤ (2 : Nat),
      [Value.int IntKind.u64 a, Value.int IntKind.u64 b] = [Value.int IntKind.u64 a, Value.int IntKind.u64 b],
      [Value.int IntKind.u64 a, Value.int IntKind.u64 b] = [Value.int IntKind.u64 a, Value.int IntKind.u64 b],
      (16 : Nat) ≤ (16 : Nat) ∧ (16 : Nat) ≤ (9223372036854775807 : Nat), (16 : Nat) ≤ (16 : Nat),
      Fl
        [Value.int IntKind.u8 (a / (72057594037927936 : Int) % (256 : Int)),
          Value.int IntKind.u8 (a / (281474976710656 : Int) % (256 : Int)),
          Value.int IntKind.u8 (a / (1099511627776 : Int) % (256 : Int)),
          Value.int IntKind.u8 (a / (4294967296 : Int) % (256 : Int)),
          Value.int IntKind.u8 (a / (16777216 : Int) % (256 : Int)),
          Value.int IntKind.u8 (a / (65536 : Int) % (256 : Int)), Value.int IntKind.u8 (a / (256 : Int) % (256 : Int)),
          Value.int IntKind.u8 (a % (256 : Int)), Value.int IntKind.u8 (b / (72057594037927936 : Int) % (256 : Int)),
          Value.int IntKind.u8 (b / (281474976710656 : Int) % (256 : Int)),
          Value.int IntKind.u8 (b / (1099511627776 : Int) % (256 : Int)),
          Value.int IntKind.u8 (b / (4294967296 : Int) % (256 : Int)),
          Value.int IntKind.u8 (b / (16777216 : Int) % (256 : Int)),
          Value.int IntKind.u8 (b / (65536 : Int) % (256 : Int)), Value.int IntKind.u8 (b / (256 : Int) % (256 : Int)),
          Value.int IntKind.u8 (b % (256 : Int))],
      capBig + (9 : Nat) = capBig + (9 : Nat), (16 : Nat) ≤ (16 : Nat), (0 : Nat) < (1 : Nat), (16 : Nat) ≤ (16 : Nat),
      Fl
        [Value.int IntKind.u8 (a / (72057594037927936 : Int) % (256 : Int)),
          Value.int IntKind.u8 (a / (281474976710656 : Int) % (256 : Int)),
          Value.int IntKind.u8 (a / (1099511627776 : Int) % (256 : Int)),
          Value.int IntKind.u8 (a / (4294967296 : Int) % (256 : Int)),
          Value.int IntKind.u8 (a / (16777216 : Int) % (256 : Int)),
          Value.int IntKind.u8 (a / (65536 : Int) % (256 : Int)), Value.int IntKind.u8 (a / (256 : Int) % (256 : Int)),
          Value.int IntKind.u8 (a % (256 : Int)), Value.int IntKind.u8 (b / (72057594037927936 : Int) % (256 : Int)),
          Value.int IntKind.u8 (b / (281474976710656 : Int) % (256 : Int)),
          Value.int IntKind.u8 (b / (1099511627776 : Int) % (256 : Int)),
          Value.int IntKind.u8 (b / (4294967296 : Int) % (256 : Int)),
          Value.int IntKind.u8 (b / (16777216 : Int) % (256 : Int)),
          Value.int IntKind.u8 (b / (65536 : Int) % (256 : Int)), Value.int IntKind.u8 (b / (256 : Int) % (256 : Int)),
          Value.int IntKind.u8 (b % (256 : Int))],
      Byts
        [Value.int IntKind.u8 (a / (72057594037927936 : Int) % (256 : Int)),
          Value.int IntKind.u8 (a / (281474976710656 : Int) % (256 : Int)),
          Value.int IntKind.u8 (a / (1099511627776 : Int) % (256 : Int)),
          Value.int IntKind.u8 (a / (4294967296 : Int) % (256 : Int)),
          Value.int IntKind.u8 (a / (16777216 : Int) % (256 : Int)),
          Value.int IntKind.u8 (a / (65536 : Int) % (256 : Int)), Value.int IntKind.u8 (a / (256 : Int) % (256 : Int)),
          Value.int IntKind.u8 (a % (256 : Int)), Value.int IntKind.u8 (b / (72057594037927936 : Int) % (256 : Int)),
          Value.int IntKind.u8 (b / (281474976710656 : Int) % (256 : Int)),
          Value.int IntKind.u8 (b / (1099511627776 : Int) % (256 : Int)),
          Value.int IntKind.u8 (b / (4294967296 : Int) % (256 : Int)),
          Value.int IntKind.u8 (b / (16777216 : Int) % (256 : Int)),
          Value.int IntKind.u8 (b / (65536 : Int) % (256 : Int)), Value.int IntKind.u8 (b / (256 : Int) % (256 : Int)),
          Value.int IntKind.u8 (b % (256 : Int))],
      Byts
        [Value.int IntKind.u8 (a / (72057594037927936 : Int) % (256 : Int)),
          Value.int IntKind.u8 (a / (281474976710656 : Int) % (256 : Int)),
          Value.int IntKind.u8 (a / (1099511627776 : Int) % (256 : Int)),
          Value.int IntKind.u8 (a / (4294967296 : Int) % (256 : Int)),
          Value.int IntKind.u8 (a / (16777216 : Int) % (256 : Int)),
          Value.int IntKind.u8 (a / (65536 : Int) % (256 : Int)), Value.int IntKind.u8 (a / (256 : Int) % (256 : Int)),
          Value.int IntKind.u8 (a % (256 : Int)), Value.int IntKind.u8 (b / (72057594037927936 : Int) % (256 : Int)),
          Value.int IntKind.u8 (b / (281474976710656 : Int) % (256 : Int)),
          Value.int IntKind.u8 (b / (1099511627776 : Int) % (256 : Int)),
          Value.int IntKind.u8 (b / (4294967296 : Int) % (256 : Int)),
          Value.int IntKind.u8 (b / (16777216 : Int) % (256 : Int)),
          Value.int IntKind.u8 (b / (65536 : Int) % (256 : Int)), Value.int IntKind.u8 (b / (256 : Int) % (256 : Int)),
          Value.int IntKind.u8 (b % (256 : Int))],
      decide
          (intsOf
              [Value.int IntKind.u8 (a / (72057594037927936 : Int) % (256 : Int)),
                Value.int IntKind.u8 (a / (281474976710656 : Int) % (256 : Int)),
                Value.int IntKind.u8 (a / (1099511627776 : Int) % (256 : Int)),
                Value.int IntKind.u8 (a / (4294967296 : Int) % (256 : Int)),
                Value.int IntKind.u8 (a / (16777216 : Int) % (256 : Int)),
                Value.int IntKind.u8 (a / (65536 : Int) % (256 : Int)),
                Value.int IntKind.u8 (a / (256 : Int) % (256 : Int)), Value.int IntKind.u8 (a % (256 : Int)),
                Value.int IntKind.u8 (b / (72057594037927936 : Int) % (256 : Int)),
                Value.int IntKind.u8 (b / (281474976710656 : Int) % (256 : Int)),
                Value.int IntKind.u8 (b / (1099511627776 : Int) % (256 : Int)),
                Value.int IntKind.u8 (b / (4294967296 : Int) % (256 : Int)),
                Value.int IntKind.u8 (b / (16777216 : Int) % (256 : Int)),
                Value.int IntKind.u8 (b / (65536 : Int) % (256 : Int)),
                Value.int IntKind.u8 (b / (256 : Int) % (256 : Int)), Value.int IntKind.u8 (b % (256 : Int))] =
            intsOf
              [Value.int IntKind.u8 (a / (72057594037927936 : Int) % (256 : Int)),
                Value.int IntKind.u8 (a / (281474976710656 : Int) % (256 : Int)),
                Value.int IntKind.u8 (a / (1099511627776 : Int) % (256 : Int)),
                Value.int IntKind.u8 (a / (4294967296 : Int) % (256 : Int)),
                Value.int IntKind.u8 (a / (16777216 : Int) % (256 : Int)),
                Value.int IntKind.u8 (a / (65536 : Int) % (256 : Int)),
                Value.int IntKind.u8 (a / (256 : Int) % (256 : Int)), Value.int IntKind.u8 (a % (256 : Int)),
                Value.int IntKind.u8 (b / (72057594037927936 : Int) % (256 : Int)),
                Value.int IntKind.u8 (b / (281474976710656 : Int) % (256 : Int)),
                Value.int IntKind.u8 (b / (1099511627776 : Int) % (256 : Int)),
                Value.int IntKind.u8 (b / (4294967296 : Int) % (256 : Int)),
                Value.int IntKind.u8 (b / (16777216 : Int) % (256 : Int)),
                Value.int IntKind.u8 (b / (65536 : Int) % (256 : Int)),
                Value.int IntKind.u8 (b / (256 : Int) % (256 : Int)), Value.int IntKind.u8 (b % (256 : Int))]) =
        true,
      (0 : Nat) = (0 : Nat), (16 : Nat) = (16 : Nat), (16 : Nat) ≤ (9223372036854775807 : Nat), (16 : Nat) ≤ (16 : Nat),
      Byts
        [Value.int IntKind.u8 (a / (72057594037927936 : Int) % (256 : Int)),
          Value.int IntKind.u8 (a / (281474976710656 : Int) % (256 : Int)),
          Value.int IntKind.u8 (a / (1099511627776 : Int) % (256 : Int)),
          Value.int IntKind.u8 (a / (4294967296 : Int) % (256 : Int)),
          Value.int IntKind.u8 (a / (16777216 : Int) % (256 : Int)),
          Value.int IntKind.u8 (a / (65536 : Int) % (256 : Int)), Value.int IntKind.u8 (a / (256 : Int) % (256 : Int)),
          Value.int IntKind.u8 (a % (256 : Int)), Value.int IntKind.u8 (b / (72057594037927936 : Int) % (256 : Int)),
          Value.int IntKind.u8 (b / (281474976710656 : Int) % (256 : Int)),
          Value.int IntKind.u8 (b / (1099511627776 : Int) % (256 : Int)),
          Value.int IntKind.u8 (b / (4294967296 : Int) % (256 : Int)),
          Value.int IntKind.u8 (b / (16777216 : Int) % (256 : Int)),
          Value.int IntKind.u8 (b / (65536 : Int) % (256 : Int)), Value.int IntKind.u8 (b / (256 : Int) % (256 : Int)),
          Value.int IntKind.u8 (b % (256 : Int))],
      [Value.int IntKind.u64 a, Value.int IntKind.u64 b] = [Value.int IntKind.u64 a, Value.int IntKind.u64 b],
      [Value.int IntKind.u64 a, Value.int IntKind.u64 b] = [Value.int IntKind.u64 a, Value.int IntKind.u64 b],
      (b % (256 : Int) == b % (256 : Int) &&
          (b / (256 : Int) % (256 : Int) == b / (256 : Int) % (256 : Int) &&
            (b / (65536 : Int) % (256 : Int) == b / (65536 : Int) % (256 : Int) &&
              (b / (16777216 : Int) % (256 : Int) == b / (16777216 : Int) % (256 : Int) &&
                (b / (4294967296 : Int) % (256 : Int) == b / (4294967296 : Int) % (256 : Int) &&
                  (b / (1099511627776 : Int) % (256 : Int) == b / (1099511627776 : Int) % (256 : Int) &&
                    (b / (281474976710656 : Int) % (256 : Int) == b / (281474976710656 : Int) % (256 : Int) &&
                      (b / (72057594037927936 : Int) % (256 : Int) == b / (72057594037927936 : Int) % (256 : Int) &&
                        (a % (256 : Int) == a % (256 : Int) &&
                          (a / (256 : Int) % (256 : Int) == a / (256 : Int) % (256 : Int) &&
                            (a / (65536 : Int) % (256 : Int) == a / (65536 : Int) % (256 : Int) &&
                              (a / (16777216 : Int) % (256 : Int) == a / (16777216 : Int) % (256 : Int) &&
                                (a / (4294967296 : Int) % (256 : Int) == a / (4294967296 : Int) % (256 : Int) &&
                                  (a / (1099511627776 : Int) % (256 : Int) == a / (1099511627776 : Int) % (256 : Int) &&
                                    (a / (281474976710656 : Int) % (256 : Int) ==
                                        a / (281474976710656 : Int) % (256 : Int) &&
                                      (a / (72057594037927936 : Int) % (256 : Int) ==
                                          a / (72057594037927936 : Int) % (256 : Int) &&
                                        true)))))))))))))))) =
        true,
      [Value.int IntKind.u64 (0 : Int), Value.int IntKind.u64 (0 : Int)] =
        [Value.int IntKind.u64 (0 : Int), Value.int IntKind.u64 (0 : Int)],
      [Value.int IntKind.u64 (0 : Int), Value.int IntKind.u64 (0 : Int)] =
        [Value.int IntKind.u64 (0 : Int), Value.int IntKind.u64 (0 : Int)],
      true = true,
      [Value.int IntKind.u64 (0 : Int), Value.int IntKind.u64 (0 : Int)] =
        [Value.int IntKind.u64 (0 : Int), Value.int IntKind.u64 (0 : Int)],
      [Value.int IntKind.u64 (0 : Int), Value.int IntKind.u64 (0 : Int)] =
        [Value.int IntKind.u64 (0 : Int), Value.int IntKind.u64 (0 : Int)],
      true = true, avLen (Av.sl (List.take n xs) n) + (3 : Nat) ≤ (9223372036854775807 : Nat),
      avLen (Av.sl (List.take n xs) n) + (3 : Nat) ≤
        List.length
          (List.take n xs ++
            [Value.int IntKind.u8
                (↑(((160 : Nat) + avLen (Av.sl (List.take n xs) n) % (90 : Nat)) % (256 : Nat)) : Int),
              Value.int IntKind.u8
                (↑(((160 : Nat) + (avLen (Av.sl (List.take n xs) n) + (1 : Nat)) % (90 : Nat)) % (256 : Nat)) : Int),
              Value.int IntKind.u8
                (↑(((160 : Nat) + (avLen (Av.sl (List.take n xs) n) + (1 : Nat) + (1 : Nat)) % (90 : Nat)) %
                      (256 : Nat)) :
                  Int)]),
      Fl
        (List.take (avLen (Av.sl (List.take n xs) n) + (3 : Nat))
          (List.take n xs ++
            [Value.int IntKind.u8
                (↑(((160 : Nat) + avLen (Av.sl (List.take n xs) n) % (90 : Nat)) % (256 : Nat)) : Int),
              Value.int IntKind.u8
                (↑(((160 : Nat) + (avLen (Av.sl (List.take n xs) n) + (1 : Nat)) % (90 : Nat)) % (256 : Nat)) : Int),
              Value.int IntKind.u8
                (↑(((160 : Nat) + (avLen (Av.sl (List.take n xs) n) + (1 : Nat) + (1 : Nat)) % (90 : Nat)) %
                      (256 : Nat)) :
                  Int)])),
      n ≤ c ∧ c ≤ (9223372036854775807 : Nat), n ≤ List.length xs, Fl (List.take n xs),
      Byts
        (List.take (avLen (Av.sl (List.take n xs) n) + (3 : Nat))
          (List.take n xs ++
            [Value.int IntKind.u8
                (↑(((160 : Nat) + avLen (Av.sl (List.take n xs) n) % (90 : Nat)) % (256 : Nat)) : Int),
              Value.int IntKind.u8
                (↑(((160 : Nat) + (avLen (Av.sl (List.take n xs) n) + (1 : Nat)) % (90 : Nat)) % (256 : Nat)) : Int),
              Value.int IntKind.u8
                (↑(((160 : Nat) + (avLen (Av.sl (List.take n xs) n) + (1 : Nat) + (1 : Nat)) % (90 : Nat)) %
                      (256 : Nat)) :
                  Int)])),
      Byts (List.take n xs), avLen (Av.sl (List.take n xs) n) = avLen (Av.sl (List.take n xs) n),
      avLen (Av.sl (List.take n xs) n) + (3 : Nat) = avLen (Av.sl (List.take n xs) n) + (3 : Nat),
      avLen (Av.sl (List.take n xs) n) ≤ (1099511627776 : Nat),
      decide
          (intsOf
              (List.take (avLen (Av.sl (List.take n xs) n) + (3 : Nat))
                (List.take n xs ++
                  [Value.int IntKind.u8
                      (↑(((160 : Nat) + avLen (Av.sl (List.take n xs) n) % (90 : Nat)) % (256 : Nat)) : Int),
                    Value.int IntKind.u8
                      (↑(((160 : Nat) + (avLen (Av.sl (List.take n xs) n) + (1 : Nat)) % (90 : Nat)) % (256 : Nat)) :
                        Int),
                    Value.int IntKind.u8
                      (↑(((160 : Nat) + (avLen (Av.sl (List.take n xs) n) + (1 : Nat) + (1 : Nat)) % (90 : Nat)) %
                            (256 : Nat)) :
                        Int)])) =
            intsOf
              (List.take n xs ++
                [Value.int IntKind.u8
                    (↑(((160 : Nat) + avLen (Av.sl (List.take n xs) n) % (90 : Nat)) % (256 : Nat)) : Int),
                  Value.int IntKind.u8
                    (↑(((160 : Nat) + (avLen (Av.sl (List.take n xs) n) + (1 : Nat)) % (90 : Nat)) % (256 : Nat)) :
                      Int),
                  Value.int IntKind.u8
                    (↑(((160 : Nat) + (avLen (Av.sl (List.take n xs) n) + (1 : Nat) + (1 : Nat)) % (90 : Nat)) %
                          (256 : Nat)) :
                      Int)])) =
        true,
      [Value.int IntKind.u64 a, Value.int IntKind.u64 b] = [Value.int IntKind.u64 a, Value.int IntKind.u64 b],
      [Value.int IntKind.u64 a, Value.int IntKind.u64 b] = [Value.int IntKind.u64 a, Value.int IntKind.u64 b],
      (16 : Nat) ≤ (16 : Nat) ∧ (16 : Nat) ≤ (9223372036854775807 : Nat), (16 : Nat) ≤ (16 : Nat),
      Fl
        [Value.int IntKind.u8 (a / (72057594037927936 : Int) % (256 : Int)),
          Value.int IntKind.u8 (a / (281474976710656 : Int) % (256 : Int)),
          Value.int IntKind.u8 (a / (1099511627776 : Int) % (256 : Int)),
          Value.int IntKind.u8 (a / (4294967296 : Int) % (256 : Int)),
          Value.int IntKind.u8 (a / (16777216 : Int) % (256 : Int)),
          Value.int IntKind.u8 (a / (65536 : Int) % (256 : Int)), Value.int IntKind.u8 (a / (256 : Int) % (256 : Int)),
          Value.int IntKind.u8 (a % (256 : Int)), Value.int IntKind.u8 (b / (72057594037927936 : Int) % (256 : Int)),
          Value.int IntKind.u8 (b / (281474976710656 : Int) % (256 : Int)),
          Value.int IntKind.u8 (b / (1099511627776 : Int) % (256 : Int)),
          Value.int IntKind.u8 (b / (4294967296 : Int) % (256 : Int)),
          Value.int IntKind.u8 (b / (16777216 : Int) % (256 : Int)),
          Value.int IntKind.u8 (b / (65536 : Int) % (256 : Int)), Value.int IntKind.u8 (b / (256 : Int) % (256 : Int)),
          Value.int IntKind.u8 (b % (256 : Int))],
      capBig + (11 : Nat) = capBig + (11 : Nat), (16 : Nat) ≤ (16 : Nat), (0 : Nat) < (1 : Nat),
      (16 : Nat) ≤ (16 : Nat),
      Fl
        [Value.int IntKind.u8 (a / (72057594037927936 : Int) % (256 : Int)),
          Value.int IntKind.u8 (a / (281474976710656 : Int) % (256 : Int)),
          Value.int IntKind.u8 (a / (1099511627776 : Int) % (256 : Int)),
          Value.int IntKind.u8 (a / (4294967296 : Int) % (256 : Int)),
          Value.int IntKind.u8 (a / (16777216 : Int) % (256 : Int)),
          Value.int IntKind.u8 (a / (65536 : Int) % (256 : Int)), Value.int IntKind.u8 (a / (256 : Int) % (256 : Int)),
          Value.int IntKind.u8 (a % (256 : Int)), Value.int IntKind.u8 (b / (72057594037927936 : Int) % (256 : Int)),
          Value.int IntKind.u8 (b / (281474976710656 : Int) % (256 : Int)),
          Value.int IntKind.u8 (b / (1099511627776 : Int) % (256 : Int)),
          Value.int IntKind.u8 (b / (4294967296 : Int) % (256 : Int)),
          Value.int IntKind.u8 (b / (16777216 : Int) % (256 : Int)),
          Value.int IntKind.u8 (b / (65536 : Int) % (256 : Int)), Value.int IntKind.u8 (b / (256 : Int) % (256 : Int)),
          Value.int IntKind.u8 (b % (256 : Int))],
      Byts
        [Value.int IntKind.u8 (a / (72057594037927936 : Int) % (256 : Int)),
          Value.int IntKind.u8 (a / (281474976710656 : Int) % (256 : Int)),
          Value.int IntKind.u8 (a / (1099511627776 : Int) % (256 : Int)),
          Value.int IntKind.u8 (a / (4294967296 : Int) % (256 : Int)),
          Value.int IntKind.u8 (a / (16777216 : Int) % (256 : Int)),
          Value.int IntKind.u8 (a / (65536 : Int) % (256 : Int)), Value.int IntKind.u8 (a / (256 : Int) % (256 : Int)),
          Value.int IntKind.u8 (a % (256 : Int)), Value.int IntKind.u8 (b / (72057594037927936 : Int) % (256 : Int)),
          Value.int IntKind.u8 (b / (281474976710656 : Int) % (256 : Int)),
          Value.int IntKind.u8 (b / (1099511627776 : Int) % (256 : Int)),
          Value.int IntKind.u8 (b / (4294967296 : Int) % (256 : Int)),
          Value.int IntKind.u8 (b / (16777216 : Int) % (256 : Int)),
          Value.int IntKind.u8 (b / (65536 : Int) % (256 : Int)), Value.int IntKind.u8 (b / (256 : Int) % (256 : Int)),
          Value.int IntKind.u8 (b % (256 : Int))],
      Byts
        [Value.int IntKind.u8 (a / (72057594037927936 : Int) % (256 : Int)),
          Value.int IntKind.u8 (a / (281474976710656 : Int) % (256 : Int)),
          Value.int IntKind.u8 (a / (1099511627776 : Int) % (256 : Int)),
          Value.int IntKind.u8 (a / (4294967296 : Int) % (256 : Int)),
          Value.int IntKind.u8 (a / (16777216 : Int) % (256 : Int)),
          Value.int IntKind.u8 (a / (65536 : Int) % (256 : Int)), Value.int IntKind.u8 (a / (256 : Int) % (256 : Int)),
          Value.int IntKind.u8 (a % (256 : Int)), Value.int IntKind.u8 (b / (72057594037927936 : Int) % (256 : Int)),
          Value.int IntKind.u8 (b / (281474976710656 : Int) % (256 : Int)),
          Value.int IntKind.u8 (b / (1099511627776 : Int) % (256 : Int)),
          Value.int IntKind.u8 (b / (4294967296 : Int) % (256 : Int)),
          Value.int IntKind.u8 (b / (16777216 : Int) % (256 : Int)),
          Value.int IntKind.u8 (b / (65536 : Int) % (256 : Int)), Value.int IntKind.u8 (b / (256 : Int) % (256 : Int)),
          Value.int IntKind.u8 (b % (256 : Int))],
      decide
          (intsOf
              [Value.int IntKind.u8 (a / (72057594037927936 : Int) % (256 : Int)),
                Value.int IntKind.u8 (a / (281474976710656 : Int) % (256 : Int)),
                Value.int IntKind.u8 (a / (1099511627776 : Int) % (256 : Int)),
                Value.int IntKind.u8 (a / (4294967296 : Int) % (256 : Int)),
                Value.int IntKind.u8 (a / (16777216 : Int) % (256 : Int)),
                Value.int IntKind.u8 (a / (65536 : Int) % (256 : Int)),
                Value.int IntKind.u8 (a / (256 : Int) % (256 : Int)), Value.int IntKind.u8 (a % (256 : Int)),
                Value.int IntKind.u8 (b / (72057594037927936 : Int) % (256 : Int)),
                Value.int IntKind.u8 (b / (281474976710656 : Int) % (256 : Int)),
                Value.int IntKind.u8 (b / (1099511627776 : Int) % (256 : Int)),
                Value.int IntKind.u8 (b / (4294967296 : Int) % (256 : Int)),
                Value.int IntKind.u8 (b / (16777216 : Int) % (256 : Int)),
                Value.int IntKind.u8 (b / (65536 : Int) % (256 : Int)),
                Value.int IntKind.u8 (b / (256 : Int) % (256 : Int)), Value.int IntKind.u8 (b % (256 : Int))] =
            intsOf
              [Value.int IntKind.u8 (a / (72057594037927936 : Int) % (256 : Int)),
                Value.int IntKind.u8 (a / (281474976710656 : Int) % (256 : Int)),
                Value.int IntKind.u8 (a / (1099511627776 : Int) % (256 : Int)),
                Value.int IntKind.u8 (a / (4294967296 : Int) % (256 : Int)),
                Value.int IntKind.u8 (a / (16777216 : Int) % (256 : Int)),
                Value.int IntKind.u8 (a / (65536 : Int) % (256 : Int)),
                Value.int IntKind.u8 (a / (256 : Int) % (256 : Int)), Value.int IntKind.u8 (a % (256 : Int)),
                Value.int IntKind.u8 (b / (72057594037927936 : Int) % (256 : Int)),
                Value.int IntKind.u8 (b / (281474976710656 : Int) % (256 : Int)),
                Value.int IntKind.u8 (b / (1099511627776 : Int) % (256 : Int)),
                Value.int IntKind.u8 (b / (4294967296 : Int) % (256 : Int)),
                Value.int IntKind.u8 (b / (16777216 : Int) % (256 : Int)),
                Value.int IntKind.u8 (b / (65536 : Int) % (256 : Int)),
                Value.int IntKind.u8 (b / (256 : Int) % (256 : Int)), Value.int IntKind.u8 (b % (256 : Int))]) =
        true]) := by kernel_rfl
theorem ub_o (a b : Int) (xs : List Value) (n c : Nat) : runZ ublV Try.prog 5 5 [.agg ⟨[.int .u64 a, .int .u64 b]⟩, .slice (some ⟨1, 0, none⟩) n c] [(1, ⟨.old, xs⟩)] 2 ([false] ++ [false, false, false, false] ++ [true, true, true, true, true, true]) =
Res.ok
  ((Value.bool true, [((1 : Nat), Rw.mk Kd.old xs)], (12 : Nat), []), [],
    [decide ((↑n : Int) > (1000 : Int)) = false, n ≤ c ∧ c ≤ (9223372036854775807 : Nat), n ≤ List.length xs,
      Fl (List.take n xs), Byts (List.take n xs), avLen (Av.sl (List.take n xs) n) ≤ (1099511627776 : Nat),
      avLen (Av.sl (List.take n xs) n) ≤ avLen (Av.sl (List.take n xs) n) + (3 : Nat) ∧
        avLen (Av.sl (List.take n xs) n) + (3 : Nat) ≤ (9223372036854775807 : Nat),
      avLen (Av.sl (List.take n xs) n) ≤
        List.length
          (List.take n xs ++
            [Value.int IntKind.u8
                (↑(((160 : Nat) + avLen (Av.sl (List.take n xs) n) % (90 : Nat)) % (256 : Nat)) : Int),
              Value.int IntKind.u8
                (↑(((160 : Nat) + (avLen (Av.sl (List.take n xs) n) + (1 : Nat)) % (90 : Nat)) % (256 : Nat)) : Int),
              Value.int IntKind.u8
                (↑(((160 : Nat) + (avLen (Av.sl (List.take n xs) n) + (1 : Nat) + (1 : Nat)) % (90 : Nat)) %
                      (256 : Nat)) :
                  Int)]),
      Fl
        (List.take (avLen (Av.sl (List.take n xs) n))
          (List.take n xs ++
            [Value.int IntKind.u8
                (↑(((160 : Nat) + avLen (Av.sl (List.take n xs) n) % (90 : Nat)) % (256 : Nat)) : Int),
              Value.int IntKind.u8
                (↑(((160 : Nat) + (avLen (Av.sl (List.take n xs) n) + (1 : Nat)) % (90 : Nat)) % (256 : Nat)) : Int),
              Value.int IntKind.u8
                (↑(((160 : Nat) + (avLen (Av.sl (List.take n xs) n) + (1 : Nat) + (1 : Nat)) % (90 : Nat)) %
                      (256 : Nat)) :
                  Int)])),
      Byts
        (List.take (avLen (Av.sl (List.take n xs) n))
          (List.take n xs ++
            [Value.int IntKind.u8
                (↑(((160 : Nat) + avLen (Av.sl (List.take n xs) n) % (90 : Nat)) % (256 : Nat)) : Int),
              Value.int IntKind.u8
                (↑(((160 : Nat) + (avLen (Av.sl (List.take n xs) n) + (1 : Nat)) % (90 : Nat)) % (256 : Nat)) : Int),
              Value.int IntKind.u8
                (↑(((160 : Nat) + (avLen (Av.sl (List.take n xs) n) + (1 : Nat) + (1 : Nat)) % (90 : Nat)) %
                      (256 : Nat)) :
                  Int)])),
      avLen
          (Av.sl
            (List.take (avLen (Av.sl (List.take n xs) n))
              (List.take n xs ++
                [Value.int IntKind.u8
                    (↑(((160 : Nat) + avLen (Av.sl (List.take n xs) n) % (90 : Nat)) % (256 : Nat)) : Int),
                  Value.int IntKind.u8
                    (↑(((160 : Nat) + (avLen (Av.sl (List.take n xs) n) + (1 : Nat)) % (90 : Nat)) % (256 : Nat)) :
                      Int),
                  Value.int IntKind.u8
                    (↑(((160 : Nat) + (avLen (Av.sl (List.take n xs) n) + (1 : Nat) + (1 : Nat)) % (90 : Nat)) %
                          (256 : Nat)) :
                      Int)]))
            (avLen (Av.sl (List.take n xs) n))) =
        (16 : Nat),
      (2 : Nat) ≤ (2 : Nat), n ≤ c ∧ c ≤ (9223372036854775807 : Nat), n ≤ List.length xs, Fl (List.take n xs),
      Byts (List.take n xs), avLen (Av.sl (List.take n xs) n) = (16 : Nat), (2 : Nat) ≤ (2 : Nat),
      avLen (Av.sl (List.take n xs) n) ≤ avLen (Av.sl (List.take n xs) n) + (3 : Nat) ∧
        avLen (Av.sl (List.take n xs) n) + (3 : Nat) ≤ (9223372036854775807 : Nat),
      avLen (Av.sl (List.take n xs) n) ≤
        List.length
          (List.take n xs ++
            [Value.int IntKind.u8
                (↑(((160 : Nat) + avLen (Av.sl (List.take n xs) n) % (90 : Nat)) % (256 : Nat)) : Int),
              Value.int IntKind.u8
                (↑(((160 : Nat) + (avLen (Av.sl (List.take n xs) n) + (1 : Nat)) % (90 : Nat)) % (256 : Nat)) : Int),
              Value.int IntKind.u8
                (↑(((160 : Nat) + (avLen (Av.sl (List.take n xs) n) + (1 : Nat) + (1 : Nat)) % (90 : Nat)) %
                      (256 : Nat)) :
                  Int)]),
      Fl
        (List.take (avLen (Av.sl (List.take n xs) n))
          (List.take n xs ++
            [Value.int IntKind.u8
                (↑(((160 : Nat) + avLen (Av.sl (List.take n xs) n) % (90 : Nat)) % (256 : Nat)) : Int),
              Value.int IntKind.u8
                (↑(((160 : Nat) + (avLen (Av.sl (List.take n xs) n) + (1 : Nat)) % (90 : Nat)) % (256 : Nat)) : Int),
              Value.int IntKind.u8
                (↑(((160 : Nat) + (avLen (Av.sl (List.take n xs) n) + (1 : Nat) + (1 : Nat)) % (90 : Nat)) %
                      (256 : Nat)) :
                  Int)])),
      Byts
        (List.take (avLen (Av.sl (List.take n xs) n))
          (List.take n xs ++
            [Value.int IntKind.u8
                (↑(((160 : Nat) + avLen (Av.sl (List.take n xs) n) % (90 : Nat)) % (256 : Nat)) : Int),
              Value.int IntKind.u8
                (↑(((160 : Nat) + (avLen (Av.sl (List.take n xs) n) + (1 : Nat)) % (90 : Nat)) % (256 : Nat)) : Int),
              Value.int IntKind.u8
                (↑(((160 : Nat) + (avLen (Av.sl (List.take n xs) n) + (1 : Nat) + (1 : Nat)) % (90 : Nat)) %
                      (256 : Nat)) :
                  Int)])),
      avLen
          (Av.sl
            (List.take (avLen (Av.sl (List.take n xs) n))
              (List.take n xs ++
                [Value.int IntKind.u8
                    (↑(((160 : Nat) + avLen (Av.sl (List.take n xs) n) % (90 : Nat)) % (256 : Nat)) : Int),
                  Value.int IntKind.u8
                    (↑(((160 : Nat) + (avLen (Av.sl (List.take n xs) n) + (1 : Nat)) % (90 : Nat)) % (256 : Nat)) :
                      Int),
                  Value.int IntKind.u8
                    (↑(((160 : Nat) + (avLen (Av.sl (List.take n xs) n) + (1 : Nat) + (1 : Nat)) % (90 : Nat)) %
                          (256 : Nat)) :
                      Int)]))
            (avLen (Av.sl (List.take n xs) n))) =
        (16 : Nat),
      (2 : Nat) ≤ (2 : Nat), n ≤ c ∧ c ≤ (9223372036854775807 : Nat), n ≤ List.length xs, Fl (List.take n xs),
      Byts (List.take n xs), avLen (Av.sl (List.take n xs) n) = (16 : Nat), (2 : Nat) ≤ (2 : Nat),
      [Value.int IntKind.u64 a, Value.int IntKind.u64 b] = [Value.int IntKind.u64 a, Value.int IntKind.u64 b],
      [Value.int IntKind.u64 a, Value.int IntKind.u64 b] = [Value.int IntKind.u64 a, Value.int IntKind.u64 b],
      (16 : Nat) ≤ (16 : Nat) ∧ (16 : Nat) ≤ (9223372036854775807 : Nat), (16 : Nat) ≤ (16 : Nat),
      Fl
        [Value.int IntKind.u8 (a / (72057594037927936 : Int) % (256 : Int)),
          Value.int IntKind.u8 (a / (281474976710656 : Int) % (256 : Int)),
          Value.int IntKind.u8 (a / (1099511627776 : Int) % (256 : Int)),
          Value.int IntKind.u8 (a / (4294967296 : Int) % (256 : Int)),
          Value.int IntKind.u8 (a / (16777216 : Int) % (256 : Int)),
          Value.int IntKind.u8 (a / (65536 : Int) % (256 : Int)), Value.int IntKind.u8 (a / (256 : Int) % (256 : Int)),
          Value.int IntKind.u8 (a % (256 : Int)), Value.int IntKind.u8 (b / (72057594037927936 : Int) % (256 : Int)),
          Value.int IntKind.u8 (b / (281474976710656 : Int) % (256 : Int)),
          Value.int IntKind.u8 (b / (1099511627776 : Int) % (256 : Int)),
          Value.int IntKind.u8 (b / (4294967296 : Int) % (256 : Int)),
          Value.int IntKind.u8 (b / (16777216 : Int) % (256 : Int)),
          Value.int IntKind.u8 (b / (65536 : Int) % (256 : Int)), Value.int IntKind.u8 (b / (256 : Int) % (256 : Int)),
          Value.int IntKind.u8 (b % (256 : Int))],
      capBig + (9 : Nat) = capBig + (9 : Nat), (16 : Nat) ≤ (16 : Nat), (0 : Nat) < (1 : Nat), (16 : Nat) ≤ (16 : Nat),
      Fl
        [Value.int IntKind.u8 (a / (72057594037927936 : Int) % (256 : Int)),
          Value.int IntKind.u8 (a / (281474976710656 : Int) % (256 : Int)),
          Value.int IntKind.u8 (a / (1099511627776 : Int) % (256 : Int)),
          Value.int IntKind.u8 (a / (4294967296 : Int) % (256 : Int)),
          Value.int IntKind.u8 (a / (16777216 : Int) % (256 : Int)),
          Value.int IntKind.u8 (a / (65536 : Int) % (256 : Int)), Value.int IntKind.u8 (a / (256 : Int) % (256 : Int)),
          Value.int IntKind.u8 (a % (256 : Int)), Value.int IntKind.u8 (b / (72057594037927936 : Int) % (256 : Int)),
          Value.int IntKind.u8 (b / (281474976710656 : Int) % (256 : Int)),
          Value.int IntKind.u8 (b / (1099511627776 : Int) % (256 : Int)),
          Value.int IntKind.u8 (b / (4294967296 : Int) % (256 : Int)),
          Value.int IntKind.u8 (b / (16777216 : Int) % (256 : Int)),
          Value.int IntKind.u8 (b / (65536 : Int) % (256 : Int)), Value.int IntKind.u8 (b / (256 : Int) % (256 : Int)),
          Value.int IntKind.u8 (b % (256 : Int))],
      Byts
        [Value.int IntKind.u8 (a / (72057594037927936 : Int) % (256 : Int)),
          Value.int IntKind.u8 (a / (281474976710656 : Int) % (256 : Int)),
          Value.int IntKind.u8 (a / (1099511627776 : Int) % (256 : Int)),
          Value.int IntKind.u8 (a / (4294967296 : Int) % (256 : Int)),
          Value.int IntKind.u8 (a / (16777216 : Int) % (256 : Int)),
          Value.int IntKind.u8 (a / (65536 : Int) % (256 : Int)), Value.int IntKind.u8 (a / (256 : Int) % (256 : Int)),
          Value.int IntKind.u8 (a % (256 : Int)), Value.int IntKind.u8 (b / (72057594037927936 : Int) % (256 : Int)),
          Value.int IntKind.u8 (b / (281474976710656 : Int) % (256 : Int)),
          Value.int IntKind.u8 (b / (1099511627776 : Int) % (256 : Int)),
          Value.int IntKind.u8 (b / (4294967296 : Int) % (256 : Int)),
          Value.int IntKind.u8 (b / (16777216 : Int) % (256 : Int)),
          Value.int IntKind.u8 (b / (65536 : Int) % (256 : Int)), Value.int IntKind.u8 (b / (256 : Int) % (256 : Int)),
          Value.int IntKind.u8 (b % (256 : Int))],
      Byts
        [Value.int IntKind.u8 (a / (72057594037927936 : Int) % (256 : Int)),
          Value.int IntKind.u8 (a / (281474976710656 : Int) % (256 : Int)),
          Value.int IntKind.u8 (a / (1099511627776 : Int) % (256 : Int)),
          Value.int IntKind.u8 (a / (4294967296 : Int) % (256 : Int)),
          Value.int IntKind.u8 (a / (16777216 : Int) % (256 : Int)),
          Value.int IntKind.u8 (a / (65536 : Int) % (256 : Int)), Value.int IntKind.u8 (a / (256 : Int) % (256 : Int)),
          Value.int IntKind.u8 (a % (256 : Int)), Value.int IntKind.u8 (b / (72057594037927936 : Int) % (256 : Int)),
          Value.int IntKind.u8 (b / (281474976710656 : Int) % (256 : Int)),
          Value.int IntKind.u8 (b / (1099511627776 : Int) % (256 : Int)),
          Value.int IntKind.u8 (b / (4294967296 : Int) % (256 : Int)),
          Value.int IntKind.u8 (b / (16777216 : Int) % (256 : Int)),
          Value.int IntKind.u8 (b / (65536 : Int) % (256 : Int)), Value.int IntKind.u8 (b / (256 : Int) % (256 : Int)),
          Value.int IntKind.u8 (b % (256 : Int))],
      decide
          (intsOf
              [Value.int IntKind.u8 (a / (72057594037927936 : Int) % (256 : Int)),
                Value.int IntKind.u8 (a / (281474976710656 : Int) % (256 : Int)),
                Value.int IntKind.u8 (a / (1099511627776 : Int) % (256 : Int)),
                Value.int IntKind.u8 (a / (4294967296 : Int) % (256 : Int)),
                Value.int IntKind.u8 (a / (16777216 : Int) % (256 : Int)),
                Value.int IntKind.u8 (a / (65536 : Int) % (256 : Int)),
                Value.int IntKind.u8 (a / (256 : Int) % (256 : Int)), Value.int IntKind.u8 (a % (256 : Int)),
                Value.int IntKind.u8 (b / (72057594037927936 : Int) % (256 : Int)),
                Value.int IntKind.u8 (b / (281474976710656 : Int) % (256 : Int)),
                Value.int IntKind.u8 (b / (1099511627776 : Int) % (256 : Int)),
                Value.int IntKind.u8 (b / (4294967296 : Int) % (256 : Int)),
                Value.int IntKind.u8 (b / (16777216 : Int) % (256 : Int)),
                Value.int IntKind.u8 (b / (65536 : Int) % (256 : Int)),
                Value.int IntKind.u8 (b / (256 : Int) % (256 : Int)), Value.int IntKind.u8 (b % (256 : Int))] =
            intsOf
              [Value.int IntKind.u8 (a / (72057594037927936 : Int) % (256 : Int)),
                Value.int IntKind.u8 (a / (281474976710656 : Int) % (256 : Int)),
                Value.int IntKind.u8 (a / (1099511627776 : Int) % (256 : Int)),
                Value.int IntKind.u8 (a / (4294967296 : Int) % (256 : Int)),
                Value.int IntKind.u8 (a / (16777216 : Int) % (256 : Int)),
                Value.int IntKind.u8 (a / (65536 : Int) % (256 : Int)),
                Value.int IntKind.u8 (a / (256 : Int) % (256 : Int)), Value.int IntKind.u8 (a % (256 : Int)),
                Value.int IntKind.u8 (b / (72057594037927936 : Int) % (256 : Int)),
                Value.int IntKind.u8 (b / (281474976710656 : Int) % (256 : Int)),
                Value.int IntKind.u8 (b / (1099511627776 : Int) % (256 : Int)),
                Value.int IntKind.u8 (b / (4294967296 : Int) % (256 : Int)),
                Value.int IntKind.u8 (b / (16777216 : Int) % (256 : Int)),
                Value.int IntKind.u8 (b / (65536 : Int) % (256 : Int)),
                Value.int IntKind.u8 (b / (256 : Int) % (256 : Int)), Value.int IntKind.u8 (b % (256 : Int))]) =
        true,
      (0 : Nat) = (0 : Nat), (16 : Nat) = (16 : Nat), (16 : Nat) ≤ (9223372036854775807 : Nat), (16 : Nat) ≤ (16 : Nat),
      Byts
        [Value.int IntKind.u8 (a / (72057594037927936 : Int) % (256 : Int)),
          Value.int IntKind.u8 (a / (281474976710656 : Int) % (256 : Int)),
          Value.int IntKind.u8 (a / (1099511627776 : Int) % (256 : Int)),
          Value.int IntKind.u8 (a / (4294967296 : Int) % (256 : Int)),
          Value.int IntKind.u8 (a / (16777216 : Int) % (256 : Int)),
          Value.int IntKind.u8 (a / (65536 : Int) % (256 : Int)), Value.int IntKind.u8 (a / (256 : Int) % (256 : Int)),
          Value.int IntKind.u8 (a % (256 : Int)), Value.int IntKind.u8 (b / (72057594037927936 : Int) % (256 : Int)),
          Value.int IntKind.u8 (b / (281474976710656 : Int) % (256 : Int)),
          Value.int IntKind.u8 (b / (1099511627776 : Int) % (256 : Int)),
          Value.int IntKind.u8 (b / (4294967296 : Int) % (256 : Int)),
          Value.int IntKind.u8 (b / (16777216 : Int) % (256 : Int)),
          Value.int IntKind.u8 (b / (65536 : Int) % (256 : Int)), Value.int IntKind.u8 (b / (256 : Int) % (256 : Int)),
          Value.int IntKind.u8 (b % (256 : Int))],
      [Value.int IntKind.u64 a, Value.int IntKind.u64 b] = [Value.int IntKind.u64 a, Value.int IntKind.u64 b],
      [Value.int IntKind.u64 a, Value.int IntKind.u64 b] = [Value.int IntKind.u64 a, Value.int IntKind.u64 b],
      (b % (256 : Int) == b % (256 : Int) &&
          (b / (256 : Int) % (256 : Int) == b / (256 : Int) % (256 : Int) &&
            (b / (65536 : Int) % (256 : Int) == b / (65536 : Int) % (256 : Int) &&
              (b / (16777216 : Int) % (256 : Int) == b / (16777216 : Int) % (256 : Int) &&
                (b / (4294967296 : Int) % (256 : Int) == b / (4294967296 : Int) % (256 : Int) &&
                  (b / (1099511627776 : Int) % (256 : Int) == b / (1099511627776 : Int) % (256 : Int) &&
                    (b / (281474976710656 : Int) % (256 : Int) == b / (281474976710656 : Int) % (256 : Int) &&
                      (b / (72057594037927936 : Int) % (256 : Int) == b / (72057594037927936 : Int) % (256 : Int) &&
                        (a % (256 : Int) == a % (256 : Int) &&
                          (a / (256 : Int) % (256 : Int) == a / (256 : Int) % (256 : Int) &&
                            (a / (65536 : Int) % (256 : Int) == a / (65536 : Int) % (256 : Int) &&
                              (a / (16777216 : Int) % (256 : Int) == a / (16777216 : Int) % (256 : Int) &&
                                (a / (4294967296 : Int) % (256 : Int) == a / (4294967296 : Int) % (256 : Int) &&
                                  (a / (1099511627776 : Int) % (256 : Int) == a / (1099511627776 : Int) % (256 : Int) &&
                                    (a / (281474976710656 : Int) % (256 : Int) ==
                                        a / (281474976710656 : Int) % (256 : Int) &&
                                      (a / (72057594037927936 : Int) % (256 : Int) ==
                                          a / (72057594037927936 : Int) % (256 : Int) &&
                                        true)))))))))))))))) =
        true,
      [Value.int IntKind.u64
            (r8
              (List.drop (8 : Nat)
                (List.take (avLen (Av.sl (List.take n xs) n))
                  (List.take n xs ++
                    [Value.int IntKind.u8
                        (↑(((160 : Nat) + avLen (Av.sl (List.take n xs) n) % (90 : Nat)) % (256 : Nat)) : Int),
                      Value.int IntKind.u8
                        (↑(((160 : Nat) + (avLen (Av.sl (List.take n xs) n) + (1 : Nat)) % (90 : Nat)) % (256 : Nat)) :
                          Int),
                      Value.int IntKind.u8
                        (↑(((160 : Nat) + (avLen (Av.sl (List.take n xs) n) + (1 : Nat) + (1 : Nat)) % (90 : Nat)) %
                              (256 : Nat)) :
                          Int)])))),
          Value.int IntKind.u64
            (r8
              (List.take (avLen (Av.sl (List.take n xs) n))
                (List.take n xs ++
                  [Value.int IntKind.u8
                      (↑(((160 : Nat) + avLen (Av.sl (List.take n xs) n) % (90 : Nat)) % (256 : Nat)) : Int),
                    Value.int IntKind.u8
                      (↑(((160 : Nat) + (avLen (Av.sl (List.take n xs) n) + (1 : Nat)) % (90 : Nat)) % (256 : Nat)) :
                        Int),
                    Value.int IntKind.u8
                      (↑(((160 : Nat) + (avLen (Av.sl (List.take n xs) n) + (1 : Nat) + (1 : Nat)) % (90 : Nat)) %
                            (256 : Nat)) :
                        Int)])))] =
        [Value.int IntKind.u64
            (r8
              (List.drop (8 : Nat)
                (List.take (avLen (Av.sl (List.take n xs) n))
                  (List.take n xs ++
                    [Value.int IntKind.u8
                        (↑(((160 : Nat) + avLen (Av.sl (List.take n xs) n) % (90 : Nat)) % (256 : Nat)) : Int),
                      Value.int IntKind.u8
                        (↑(((160 : Nat) + (avLen (Av.sl (List.take n xs) n) + (1 : Nat)) % (90 : Nat)) % (256 : Nat)) :
                          Int),
                      Value.int IntKind.u8
                        (↑(((160 : Nat) + (avLen (Av.sl (List.take n xs) n) + (1 : Nat) + (1 : Nat)) % (90 : Nat)) %
                              (256 : Nat)) :
                          Int)])))),
          Value.int IntKind.u64
            (r8
              (List.take (avLen (Av.sl (List.take n xs) n))
                (List.take n xs ++
                  [Value.int IntKind.u8
                      (↑(((160 : Nat) + avLen (Av.sl (List.take n xs) n) % (90 : Nat)) % (256 : Nat)) : Int),
                    Value.int IntKind.u8
                      (↑(((160 : Nat) + (avLen (Av.sl (List.take n xs) n) + (1 : Nat)) % (90 : Nat)) % (256 : Nat)) :
                        Int),
                    Value.int IntKind.u8
                      (↑(((160 : Nat) + (avLen (Av.sl (List.take n xs) n) + (1 : Nat) + (1 : Nat)) % (90 : Nat)) %
                            (256 : Nat)) :
                        Int)])))],
      [Value.int IntKind.u64 (r8 (List.drop (8 : Nat) (List.take n xs))), Value.int IntKind.u64 (r8 (List.take n xs))] =
        [Value.int IntKind.u64 (r8 (List.drop (8 : Nat) (List.take n xs))),
          Value.int IntKind.u64 (r8 (List.take n xs))],
      (r8
              (List.drop (8 : Nat)
                (List.take (avLen (Av.sl (List.take n xs) n))
                  (List.take n xs ++
                    [Value.int IntKind.u8
                        (↑(((160 : Nat) + avLen (Av.sl (List.take n xs) n) % (90 : Nat)) % (256 : Nat)) : Int),
                      Value.int IntKind.u8
                        (↑(((160 : Nat) + (avLen (Av.sl (List.take n xs) n) + (1 : Nat)) % (90 : Nat)) % (256 : Nat)) :
                          Int),
                      Value.int IntKind.u8
                        (↑(((160 : Nat) + (avLen (Av.sl (List.take n xs) n) + (1 : Nat) + (1 : Nat)) % (90 : Nat)) %
                              (256 : Nat)) :
                          Int)]))) ==
            r8 (List.drop (8 : Nat) (List.take n xs)) &&
          (r8
                (List.take (avLen (Av.sl (List.take n xs) n))
                  (List.take n xs ++
                    [Value.int IntKind.u8
                        (↑(((160 : Nat) + avLen (Av.sl (List.take n xs) n) % (90 : Nat)) % (256 : Nat)) : Int),
                      Value.int IntKind.u8
                        (↑(((160 : Nat) + (avLen (Av.sl (List.take n xs) n) + (1 : Nat)) % (90 : Nat)) % (256 : Nat)) :
                          Int),
                      Value.int IntKind.u8
                        (↑(((160 : Nat) + (avLen (Av.sl (List.take n xs) n) + (1 : Nat) + (1 : Nat)) % (90 : Nat)) %
                              (256 : Nat)) :
                          Int)])) ==
              r8 (List.take n xs) &&
            true)) =
        true,
      [Value.int IntKind.u64
            (r8
              (List.drop (8 : Nat)
                (List.reverse
                  (List.take (avLen (Av.sl (List.take n xs) n))
                    (List.take n xs ++
                      [Value.int IntKind.u8
                          (↑(((160 : Nat) + avLen (Av.sl (List.take n xs) n) % (90 : Nat)) % (256 : Nat)) : Int),
                        Value.int IntKind.u8
                          (↑(((160 : Nat) + (avLen (Av.sl (List.take n xs) n) + (1 : Nat)) % (90 : Nat)) %
                                (256 : Nat)) :
                            Int),
                        Value.int IntKind.u8
                          (↑(((160 : Nat) + (avLen (Av.sl (List.take n xs) n) + (1 : Nat) + (1 : Nat)) % (90 : Nat)) %
                                (256 : Nat)) :
                            Int)]))))),
          Value.int IntKind.u64
            (r8
              (List.reverse
                (List.take (avLen (Av.sl (List.take n xs) n))
                  (List.take n xs ++
                    [Value.int IntKind.u8
                        (↑(((160 : Nat) + avLen (Av.sl (List.take n xs) n) % (90 : Nat)) % (256 : Nat)) : Int),
                      Value.int IntKind.u8
                        (↑(((160 : Nat) + (avLen (Av.sl (List.take n xs) n) + (1 : Nat)) % (90 : Nat)) % (256 : Nat)) :
                          Int),
                      Value.int IntKind.u8
                        (↑(((160 : Nat) + (avLen (Av.sl (List.take n xs) n) + (1 : Nat) + (1 : Nat)) % (90 : Nat)) %
                              (256 : Nat)) :
                          Int)]))))] =
        [Value.int IntKind.u64
            (r8
              (List.drop (8 : Nat)
                (List.reverse
                  (List.take (avLen (Av.sl (List.take n xs) n))
                    (List.take n xs ++
                      [Value.int IntKind.u8
                          (↑(((160 : Nat) + avLen (Av.sl (List.take n xs) n) % (90 : Nat)) % (256 : Nat)) : Int),
                        Value.int IntKind.u8
                          (↑(((160 : Nat) + (avLen (Av.sl (List.take n xs) n) + (1 : Nat)) % (90 : Nat)) %
                                (256 : Nat)) :
                            Int),
                        Value.int IntKind.u8
                          (↑(((160 : Nat) + (avLen (Av.sl (List.take n xs) n) + (1 : Nat) + (1 : Nat)) % (90 : Nat)) %
                                (256 : Nat)) :
                            Int)]))))),
          Value.int IntKind.u64
            (r8
              (List.reverse
                (List.take (avLen (Av.sl (List.take n xs) n))
                  (List.take n xs ++
                    [Value.int IntKind.u8
                        (↑(((160 : Nat) + avLen (Av.sl (List.take n xs) n) % (90 : Nat)) % (256 : Nat)) : Int),
                      Value.int IntKind.u8
                        (↑(((160 : Nat) + (avLen (Av.sl (List.take n xs) n) + (1 : Nat)) % (90 : Nat)) % (256 : Nat)) :
                          Int),
                      Value.int IntKind.u8
                        (↑(((160 : Nat) + (avLen (Av.sl (List.take n xs) n) + (1 : Nat) + (1 : Nat)) % (90 : Nat)) %
                              (256 : Nat)) :
                          Int)]))))],
      [Value.int IntKind.u64 (r8 (List.drop (8 : Nat) (List.reverse (List.take n xs)))),
          Value.int IntKind.u64 (r8 (List.reverse (List.take n xs)))] =
        [Value.int IntKind.u64 (r8 (List.drop (8 : Nat) (List.reverse (List.take n xs)))),
          Value.int IntKind.u64 (r8 (List.reverse (List.take n xs)))],
      (r8
              (List.drop (8 : Nat)
                (List.reverse
                  (List.take (avLen (Av.sl (List.take n xs) n))
                    (List.take n xs ++
                      [Value.int IntKind.u8
                          (↑(((160 : Nat) + avLen (Av.sl (List.take n xs) n) % (90 : Nat)) % (256 : Nat)) : Int),
                        Value.int IntKind.u8
                          (↑(((160 : Nat) + (avLen (Av.sl (List.take n xs) n) + (1 : Nat)) % (90 : Nat)) %
                                (256 : Nat)) :
                            Int),
                        Value.int IntKind.u8
                          (↑(((160 : Nat) + (avLen (Av.sl (List.take n xs) n) + (1 : Nat) + (1 : Nat)) % (90 : Nat)) %
                                (256 : Nat)) :
                            Int)])))) ==
            r8 (List.drop (8 : Nat) (List.reverse (List.take n xs))) &&
          (r8
                (List.reverse
                  (List.take (avLen (Av.sl (List.take n xs) n))
                    (List.take n xs ++
                      [Value.int IntKind.u8
                          (↑(((160 : Nat) + avLen (Av.sl (List.take n xs) n) % (90 : Nat)) % (256 : Nat)) : Int),
                        Value.int IntKind.u8
                          (↑(((160 : Nat) + (avLen (Av.sl (List.take n xs) n) + (1 : Nat)) % (90 : Nat)) %
                                (256 : Nat)) :
                            Int),
                        Value.int IntKind.u8
                          (↑(((160 : Nat) + (avLen (Av.sl (List.take n xs) n) + (1 : Nat) + (1 : Nat)) % (90 : Nat)) %
                                (256 : Nat)) :
                            Int)]))) ==
              r8 (List.reverse (List.take n xs)) &&
            true)) =
        true,
      avLen (Av.sl (List.take n xs) n) + (3 : Nat) ≤ (9223372036854775807 : Nat),
      avLen (Av.sl (List.take n xs) n) + (3 : Nat) ≤
        List.length
          (List.take n xs ++
            [Value.int IntKind.u8
                (↑(((160 : Nat) + avLen (Av.sl (List.take n xs) n) % (90 : Nat)) % (256 : Nat)) : Int),
              Value.int IntKind.u8
                (↑(((160 : Nat) + (avLen (Av.sl (List.take n xs) n) + (1 : Nat)) % (90 : Nat)) % (256 : Nat)) : Int),
              Value.int IntKind.u8
                (↑(((160 : Nat) + (avLen (Av.sl (List.take n xs) n) + (1 : Nat) + (1 : Nat)) % (90 : Nat)) %
                      (256 : Nat)) :
                  Int)]),
      Fl
        (List.take (avLen (Av.sl (List.take n xs) n) + (3 : Nat))
          (List.take n xs ++
            [Value.int IntKind.u8
                (↑(((160 : Nat) + avLen (Av.sl (List.take n xs) n) % (90 : Nat)) % (256 : Nat)) : Int),
              Value.int IntKind.u8
                (↑(((160 : Nat) + (avLen (Av.sl (List.take n xs) n) + (1 : Nat)) % (90 : Nat)) % (256 : Nat)) : Int),
              Value.int IntKind.u8
                (↑(((160 : Nat) + (avLen (Av.sl (List.take n xs) n) + (1 : Nat) + (1 : Nat)) % (90 : Nat)) %
                      (256 : Nat)) :
                  Int)])),
      n ≤ c ∧ c ≤ (9223372036854775807 : Nat), n ≤ List.length xs, Fl (List.take n xs),
      Byts
        (List.take (avLen (Av.sl (List.take n xs) n) + (3 : Nat))
          (List.take n xs ++
            [Value.int IntKind.u8
                (↑(((160 : Nat) + avLen (Av.sl (List.take n xs) n) % (90 : Nat)) % (256 : Nat)) : Int),
              Value.int IntKind.u8
                (↑(((160 : Nat) + (avLen (Av.sl (List.take n xs) n) + (1 : Nat)) % (90 : Nat)) % (256 : Nat)) : Int),
              Value.int IntKind.u8
                (↑(((160 : Nat) + (avLen (Av.sl (List.take n xs) n) + (1 : Nat) + (1 : Nat)) % (90 : Nat)) %
                      (256 : Nat)) :
                  Int)])),
      Byts (List.take n xs), avLen (Av.sl (List.take n xs) n) = avLen (Av.sl (List.take n xs) n),
      avLen (Av.sl (List.take n xs) n) + (3 : Nat) = avLen (Av.sl (List.take n xs) n) + (3 : Nat),
      avLen (Av.sl (List.take n xs) n) ≤ (1099511627776 : Nat),
      decide
          (intsOf
              (List.take (avLen (Av.sl (List.take n xs) n) + (3 : Nat))
                (List.take n xs ++
                  [Value.int IntKind.u8
                      (↑(((160 : Nat) + avLen (Av.sl (List.take n xs) n) % (90 : Nat)) % (256 : Nat)) : Int),
                    Value.int IntKind.u8
                      (↑(((160 : Nat) + (avLen (Av.sl (List.take n xs) n) + (1 : Nat)) % (90 : Nat)) % (256 : Nat)) :
                        Int),
                    Value.int IntKind.u8
                      (↑(((160 : Nat) + (avLen (Av.sl (List.take n xs) n) + (1 : Nat) + (1 : Nat)) % (90 : Nat)) %
                            (256 : Nat)) :
                        Int)])) =
            intsOf
              (List.take n xs ++
                [Value.int IntKind.u8
                    (↑(((160 : Nat) + avLen (Av.sl (List.take n xs) n) % (90 : Nat)) % (256 : Nat)) : Int),
                  Value.int IntKind.u8
                    (↑(((160 : Nat) + (avLen (Av.sl (List.take n xs) n) + (1 : Nat)) % (90 : Nat)) % (256 : Nat)) :
                      Int),
                  Value.int IntKind.u8
                    (↑(((160 : Nat) + (avLen (Av.sl (List.take n xs) n) + (1 : Nat) + (1 : Nat)) % (90 : Nat)) %
                          (256 : Nat)) :
                      Int)])) =
        true,
      [Value.int IntKind.u64 a, Value.int IntKind.u64 b] = [Value.int IntKind.u64 a, Value.int IntKind.u64 b],
      [Value.int IntKind.u64 a, Value.int IntKind.u64 b] = [Value.int IntKind.u64 a, Value.int IntKind.u64 b],
      (16 : Nat) ≤ (16 : Nat) ∧ (16 : Nat) ≤ (9223372036854775807 : Nat), (16 : Nat) ≤ (16 : Nat),
      Fl
        [Value.int IntKind.u8 (a / (72057594037927936 : Int) % (256 : Int)),
          Value.int IntKind.u8 (a / (281474976710656 : Int) % (256 : Int)),
          Value.int IntKind.u8 (a / (1099511627776 : Int) % (256 : Int)),
          Value.int IntKind.u8 (a / (4294967296 : Int) % (256 : Int)),
          Value.int IntKind.u8 (a / (16777216 : Int) % (256 : Int)),
          Value.int IntKind.u8 (a / (65536 : Int) % (256 : Int)), Value.int IntKind.u8 (a / (256 : Int) % (256 : Int)),
          Value.int IntKind.u8 (a % (256 : Int)), Value.int IntKind.u8 (b / (72057594037927936 : Int) % (256 : Int)),
          Value.int IntKind.u8 (b / (281474976710656 : Int) % (256 : Int)),
          Value.int IntKind.u8 (b / (1099511627776 : Int) % (256 : Int)),
          Value.int IntKind.u8 (b / (4294967296 : Int) % (256 : Int)),
          Value.int IntKind.u8 (b / (16777216 : Int) % (256 : Int)),
          Value.int IntKind.u8 (b / (65536 : Int) % (256 : Int)), Value.int IntKind.u8 (b / (256 : Int) % (256 : Int)),
          Value.int IntKind.u8 (b % (256 : Int))],
      capBig + (11 : Nat) = capBig + (11 : Nat), (16 : Nat) ≤ (16 : Nat), (0 : Nat) < (1 : Nat),
      (16 : Nat) ≤ (16 : Nat),
      Fl
        [Value.int IntKind.u8 (a / (72057594037927936 : Int) % (256 : Int)),
          Value.int IntKind.u8 (a / (281474976710656 : Int) % (256 : Int)),
          Value.int IntKind.u8 (a / (1099511627776 : Int) % (256 : Int)),
          Value.int IntKind.u8 (a / (4294967296 : Int) % (256 : Int)),
          Value.int IntKind.u8 (a / (16777216 : Int) % (256 : Int)),
          Value.int IntKind.u8 (a / (65536 : Int) % (256 : Int)), Value.int IntKind.u8 (a / (256 : Int) % (256 : Int)),
          Value.int IntKind.u8 (a % (256 : Int)), Value.int IntKind.u8 (b / (72057594037927936 : Int) % (256 : Int)),
          Value.int IntKind.u8 (b / (281474976710656 : Int) % (256 : Int)),
          Value.int IntKind.u8 (b / (1099511627776 : Int) % (256 : Int)),
          Value.int IntKind.u8 (b / (4294967296 : Int) % (256 : Int)),
          Value.int IntKind.u8 (b / (16777216 : Int) % (256 : Int)),
          Value.int IntKind.u8 (b / (65536 : Int) % (256 : Int)), Value.int IntKind.u8 (b / (256 : Int) % (256 : Int)),
          Value.int IntKind.u8 (b % (256 : Int))],
      Byts
        [Value.int IntKind.u8 (a / (72057594037927936 : Int) % (256 : Int)),
          Value.int IntKind.u8 (a / (281474976710656 : Int) % (256 : Int)),
          Value.int IntKind.u8 (a / (1099511627776 : Int) % (256 : Int)),
          Value.int IntKind.u8 (a / (4294967296 : Int) % (256 : Int)),
          Value.int IntKind.u8 (a / (16777216 : Int) % (256 : Int)),
          Value.int IntKind.u8 (a / (65536 : Int) % (256 : Int)), Value.int IntKind.u8 (a / (256 : Int) % (256 : Int)),
          Value.int IntKind.u8 (a % (256 : Int)), Value.int IntKind.u8 (b / (72057594037927936 : Int) % (256 : Int)),
          Value.int IntKind.u8 (b / (281474976710656 : Int) % (256 : Int)),
          Value.int IntKind.u8 (b / (1099511627776 : Int) % (256 : Int)),
          Value.int IntKind.u8 (b / (4294967296 : Int) % (256 : Int)),
          Value.int IntKind.u8 (b / (16777216 : Int) % (256 : Int)),
          Value.int IntKind.u8 (b / (65536 : Int) % (256 : Int)), Value.int IntKind.u8 (b / (256 : Int) % (256 : Int)),
          Value.int IntKind.u8 (b % (256 : Int))],
      Byts
        [Value.int IntKind.u8 (a / (72057594037927936 : Int) % (256 : Int)),
          Value.int IntKind.u8 (a / (281474976710656 : Int) % (256 : Int)),
          Value.int IntKind.u8 (a / (1099511627776 : Int) % (256 : Int)),
          Value.int IntKind.u8 (a / (4294967296 : Int) % (256 : Int)),
          Value.int IntKind.u8 (a / (16777216 : Int) % (256 : Int)),
          Value.int IntKind.u8 (a / (65536 : Int) % (256 : Int)), Value.int IntKind.u8 (a / (256 : Int) % (256 : Int)),
          Value.int IntKind.u8 (a % (256 : Int)), Value.int IntKind.u8 (b / (72057594037927936 : Int) % (256 : Int)),
          Value.int IntKind.u8 (b / (281474976710656 : Int) % (256 : Int)),
          Value.int IntKind.u8 (b / (1099511627776 : Int) % (256 : Int)),
          Value.int IntKind.u8 (b / (4294967296 : Int) % (256 : Int)),
          Value.int IntKind.u8 (b / (16777216 : Int) % (256 : Int)),
          Value.int IntKind.u8 (b / (65536 : Int) % (256 : Int)), Value.int IntKind.u8 (b / (256 : Int) % (256 : Int)),
          Value.int IntKind.u8 (b % (256 : Int))],
      decide
          (intsOf
              [Value.int IntKind.u8 (a / (72057594037927936 : Int) % (256 : Int)),
                Value.int IntKind.u8 (a / (281474976710656 : Int) % (256 : Int)),
                Value.int IntKind.u8 (a / (1099511627776 : Int) % (256 : Int)),
                Value.int IntKind.u8 (a / (4294967296 : Int) % (256 : Int)),
                Value.int IntKind.u8 (a / (16777216 : Int) % (256 : Int)),
                Value.int IntKind.u8 (a / (65536 : Int) % (256 : Int)),
                Value.int IntKind.u8 (a / (256 : Int) % (256 : Int)), Value.int IntKind.u8 (a % (256 : Int)),
                Value.int IntKind.u8 (b / (72057594037927936 : Int) % (256 : Int)),
                Value.int IntKind.u8 (b / (281474976710656 : Int) % (256 : Int)),
                Value.int IntKind.u8 (b / (1099511627776 : Int) % (256 : Int)),
                Value.int IntKind.u8 (b / (4294967296 : Int) % (256 : Int)),
                Value.int IntKind.u8 (b / (16777216 : Int) % (256 : Int)),
                Value.int IntKind.u8 (b / (65536 : Int) % (256 : Int)),
                Value.int IntKind.u8 (b / (256 : Int) % (256 : Int)), Value.int IntKind.u8 (b % (256 : Int))] =
            intsOf
              [Value.int IntKind.u8 (a / (72057594037927936 : Int) % (256 : Int)),
                Value.int IntKind.u8 (a / (281474976710656 : Int) % (256 : Int)),
                Value.int IntKind.u8 (a / (1099511627776 : Int) % (256 : Int)),
                Value.int IntKind.u8 (a / (4294967296 : Int) % (256 : Int)),
                Value.int IntKind.u8 (a / (16777216 : Int) % (256 : Int)),
                Value.int IntKind.u8 (a / (65536 : Int) % (256 : Int)),
                Value.int IntKind.u8 (a / (256 : Int) % (256 : Int)), Value.int IntKind.u8 (a % (256 : Int)),
                Value.int IntKind.u8 (b / (72057594037927936 : Int) % (256 : Int)),
                Value.int IntKind.u8 (b / (281474976710656 : Int) % (256 : Int)),
                Value.int IntKind.u8 (b / (1099511627776 : Int) % (256 : Int)),
                Value.int IntKind.u8 (b / (4294967296 : Int) % (256 : Int)),
                Value.int IntKind.u8 (b / (16777216 : Int) % (256 : Int)),
                Value.int IntKind.u8 (b / (65536 : Int) % (256 : Int)),
                Value.int IntKind.u8 (b / (256 : Int) % (256 : Int)), Value.int IntKind.u8 (b % (256 : Int))]) =
        true]) := by kernel_rfl
theorem ub_n (a b : Int) : runZ ublV Try.prog 5 5 [.agg ⟨[.int .u64 a, .int .u64 b]⟩, .slice none 0 0] [] 2 ([false] ++ [true, true, true, true] ++ [true, true, true, true, true, true]) =
Res.ok
  ((Value.bool true, [], (12 : Nat), []), [],
    [false = false, Byts [], (0 : Nat) ≤ (1099511627776 : Nat),
      (0 : Nat) ≤ (3 : Nat) ∧ (3 : Nat) ≤ (9223372036854775807 : Nat), (0 : Nat) ≤ (3 : Nat), Fl [],
      (0 : Nat) ≠ (16 : Nat), (2 : Nat) ≤ (2 : Nat), (0 : Nat) ≠ (16 : Nat), (2 : Nat) ≤ (2 : Nat),
      (0 : Nat) ≤ (3 : Nat) ∧ (3 : Nat) ≤ (9223372036854775807 : Nat), (0 : Nat) ≤ (3 : Nat), Fl [],
      (0 : Nat) ≠ (16 : Nat), (2 : Nat) ≤ (2 : Nat), (0 : Nat) ≠ (16 : Nat), (2 : Nat) ≤ (2 : Nat),
      [Value.int IntKind.u64 a, Value.int IntKind.u64 b] = [Value.int IntKind.u64 a, Value.int IntKind.u64 b],
      [Value.int IntKind.u64 a, Value.int IntKind.u64 b] = [Value.int IntKind.u64 a, Value.int IntKind.u64 b],
      (16 : Nat) ≤ (16 : Nat) ∧ (16 : Nat) ≤ (9223372036854775807 : Nat), (16 : Nat) ≤ (16 : Nat),
      Fl
        [Value.int IntKind.u8 (a / (72057594037927936 : Int) % (256 : Int)),
          Value.int IntKind.u8 (a / (281474976710656 : Int) % (256 : Int)),
          Value.int IntKind.u8 (a / (1099511627776 : Int) % (256 : Int)),
          Value.int IntKind.u8 (a / (4294967296 : Int) % (256 : Int)),
          Value.int IntKind.u8 (a / (16777216 : Int) % (256 : Int)),
          Value.int IntKind.u8 (a / (65536 : Int) % (256 : Int)), Value.int IntKind.u8 (a / (256 : Int) % (256 : Int)),
          Value.int IntKind.u8 (a % (256 : Int)), Value.int IntKind.u8 (b / (72057594037927936 : Int) % (256 : Int)),
          Value.int IntKind.u8 (b / (281474976710656 : Int) % (256 : Int)),
          Value.int IntKind.u8 (b / (1099511627776 : Int) % (256 : Int)),
          Value.int IntKind.u8 (b / (4294967296 : Int) % (256 : Int)),
          Value.int IntKind.u8 (b / (16777216 : Int) % (256 : Int)),
          Value.int IntKind.u8 (b / (65536 : Int) % (256 : Int)), Value.int IntKind.u8 (b / (256 : Int) % (256 : Int)),
          Value.int IntKind.u8 (b % (256 : Int))],
      capBig + (9 : Nat) = capBig + (9 : Nat), (16 : Nat) ≤ (16 : Nat), (0 : Nat) < (1 : Nat), (16 : Nat) ≤ (16 : Nat),
      Fl
        [Value.int IntKind.u8 (a / (72057594037927936 : Int) % (256 : Int)),
          Value.int IntKind.u8 (a / (281474976710656 : Int) % (256 : Int)),
          Value.int IntKind.u8 (a / (1099511627776 : Int) % (256 : Int)),
          Value.int IntKind.u8 (a / (4294967296 : Int) % (256 : Int)),
          Value.int IntKind.u8 (a / (16777216 : Int) % (256 : Int)),
          Value.int IntKind.u8 (a / (65536 : Int) % (256 : Int)), Value.int IntKind.u8 (a / (256 : Int) % (256 : Int)),
          Value.int IntKind.u8 (a % (256 : Int)), Value.int IntKind.u8 (b / (72057594037927936 : Int) % (256 : Int)),
          Value.int IntKind.u8 (b / (281474976710656 : Int) % (256 : Int)),
          Value.int IntKind.u8 (b / (1099511627776 : Int) % (256 : Int)),
          Value.int IntKind.u8 (b / (4294967296 : Int) % (256 : Int)),
          Value.int IntKind.u8 (b / (16777216 : Int) % (256 : Int)),
          Value.int IntKind.u8 (b / (65536 : Int) % (256 : Int)), Value.int IntKind.u8 (b / (256 : Int) % (256 : Int)),
          Value.int IntKind.u8 (b % (256 : Int))],
      Byts
        [Value.int IntKind.u8 (a / (72057594037927936 : Int) % (256 : Int)),
          Value.int IntKind.u8 (a / (281474976710656 : Int) % (256 : Int)),
          Value.int IntKind.u8 (a / (1099511627776 : Int) % (256 : Int)),
          Value.int IntKind.u8 (a / (4294967296 : Int) % (256 : Int)),
          Value.int IntKind.u8 (a / (16777216 : Int) % (256 : Int)),
          Value.int IntKind.u8 (a / (65536 : Int) % (256 : Int)), Value.int IntKind.u8 (a / (256 : Int) % (256 : Int)),
          Value.int IntKind.u8 (a % (256 : Int)), Value.int IntKind.u8 (b / (72057594037927936 : Int) % (256 : Int)),
          Value.int IntKind.u8 (b / (281474976710656 : Int) % (256 : Int)),
          Value.int IntKind.u8 (b / (1099511627776 : Int) % (256 : Int)),
          Value.int IntKind.u8 (b / (4294967296 : Int) % (256 : Int)),
          Value.int IntKind.u8 (b / (16777216 : Int) % (256 : Int)),
          Value.int IntKind.u8 (b / (65536 : Int) % (256 : Int)), Value.int IntKind.u8 (b / (256 : Int) % (256 : Int)),
          Value.int IntKind.u8 (b % (256 : Int))],
      Byts
        [Value.int IntKind.u8 (a / (72057594037927936 : Int) % (256 : Int)),
          Value.int IntKind.u8 (a / (281474976710656 : Int) % (256 : Int)),
          Value.int IntKind.u8 (a / (1099511627776 : Int) % (256 : Int)),
          Value.int IntKind.u8 (a / (4294967296 : Int) % (256 : Int)),
          Value.int IntKind.u8 (a / (16777216 : Int) % (256 : Int)),
          Value.int IntKind.u8 (a / (65536 : Int) % (256 : Int)), Value.int IntKind.u8 (a / (256 : Int) % (256 : Int)),
          Value.int IntKind.u8 (a % (256 : Int)), Value.int IntKind.u8 (b / (72057594037927936 : Int) % (256 : Int)),
          Value.int IntKind.u8 (b / (281474976710656 : Int) % (256 : Int)),
          Value.int IntKind.u8 (b / (1099511627776 : Int) % (256 : Int)),
          Value.int IntKind.u8 (b / (4294967296 : Int) % (256 : Int)),
          Value.int IntKind.u8 (b / (16777216 : Int) % (256 : Int)),
          Value.int IntKind.u8 (b / (65536 : Int) % (256 : Int)), Value.int IntKind.u8 (b / (256 : Int) % (256 : Int)),
          Value.int IntKind.u8 (b % (256 : Int))],
      decide
          (intsOf
              [Value.int IntKind.u8 (a / (72057594037927936 : Int) % (256 : Int)),
                Value.int IntKind.u8 (a / (281474976710656 : Int) % (256 : Int)),
                Value.int IntKind.u8 (a / (1099511627776 : Int) % (256 : Int)),
                Value.int IntKind.u8 (a / (4294967296 : Int) % (256 : Int)),
                Value.int IntKind.u8 (a / (16777216 : Int) % (256 : Int)),
                Value.int IntKind.u8 (a / (65536 : Int) % (256 : Int)),
                Value.int IntKind.u8 (a / (256 : Int) % (256 : Int)), Value.int IntKind.u8 (a % (256 : Int)),
                Value.int IntKind.u8 (b / (72057594037927936 : Int) % (256 : Int)),
                Value.int IntKind.u8 (b / (281474976710656 : Int) % (256 : Int)),
                Value.int IntKind.u8 (b / (1099511627776 : Int) % (256 : Int)),
                Value.int IntKind.u8 (b / (4294967296 : Int) % (256 : Int)),
                Value.int IntKind.u8 (b / (16777216 : Int) % (256 : Int)),
                Value.int IntKind.u8 (b / (65536 : Int) % (256 : Int)),
                Value.int IntKind.u8 (b / (256 : Int) % (256 : Int)), Value.int IntKind.u8 (b % (256 : Int))] =
            intsOf
              [Value.int IntKind.u8 (a / (72057594037927936 : Int) % (256 : Int)),
                Value.int IntKind.u8 (a / (281474976710656 : Int) % (256 : Int)),
                Value.int IntKind.u8 (a / (1099511627776 : Int) % (256 : Int)),
                Value.int IntKind.u8 (a / (4294967296 : Int) % (256 : Int)),
                Value.int IntKind.u8 (a / (16777216 : Int) % (256 : Int)),
                Value.int IntKind.u8 (a / (65536 : Int) % (256 : Int)),
                Value.int IntKind.u8 (a / (256 : Int) % (256 : Int)), Value.int IntKind.u8 (a % (256 : Int)),
                Value.int IntKind.u8 (b / (72057594037927936 : Int) % (256 : Int)),
                Value.int IntKind.u8 (b / (281474976710656 : Int) % (256 : Int)),
                Value.int IntKind.u8 (b / (1099511627776 : Int) % (256 : Int)),
                Value.int IntKind.u8 (b / (4294967296 : Int) % (256 : Int)),
                Value.int IntKind.u8 (b / (16777216 : Int) % (256 : Int)),
                Value.int IntKind.u8 (b / (65536 : Int) % (256 : Int)),
                Value.int IntKind.u8 (b / (256 : Int) % (256 : Int)), Value.int IntKind.u8 (b % (256 : Int))]) =
        true,
      (0 : Nat) = (0 : Nat), (16 : Nat) = (16 : Nat), (16 : Nat) ≤ (9223372036854775807 : Nat), (16 : Nat) ≤ (16 : Nat),
      Byts
        [Value.int IntKind.u8 (a / (72057594037927936 : Int) % (256 : Int)),
          Value.int IntKind.u8 (a / (281474976710656 : Int) % (256 : Int)),
          Value.int IntKind.u8 (a / (1099511627776 : Int) % (256 : Int)),
          Value.int IntKind.u8 (a / (4294967296 : Int) % (256 : Int)),
          Value.int IntKind.u8 (a / (16777216 : Int) % (256 : Int)),
          Value.int IntKind.u8 (a / (65536 : Int) % (256 : Int)), Value.int IntKind.u8 (a / (256 : Int) % (256 : Int)),
          Value.int IntKind.u8 (a % (256 : Int)), Value.int IntKind.u8 (b / (72057594037927936 : Int) % (256 : Int)),
          Value.int IntKind.u8 (b / (281474976710656 : Int) % (256 : Int)),
          Value.int IntKind.u8 (b / (1099511627776 : Int) % (256 : Int)),
          Value.int IntKind.u8 (b / (4294967296 : Int) % (256 : Int)),
          Value.int IntKind.u8 (b / (16777216 : Int) % (256 : Int)),
          Value.int IntKind.u8 (b / (65536 : Int) % (256 : Int)), Value.int IntKind.u8 (b / (256 : Int) % (256 : Int)),
          Value.int IntKind.u8 (b % (256 : Int))],
      [Value.int IntKind.u64 a, Value.int IntKind.u64 b] = [Value.int IntKind.u64 a, Value.int IntKind.u64 b],
      [Value.int IntKind.u64 a, Value.int IntKind.u64 b] = [Value.int IntKind.u64 a, Value.int IntKind.u64 b],
      (b % (256 : Int) == b % (256 : Int) &&
          (b / (256 : Int) % (256 : Int) == b / (256 : Int) % (256 : Int) &&
            (b / (65536 : Int) % (256 : Int) == b / (65536 : Int) % (256 : Int) &&
              (b / (16777216 : Int) % (256 : Int) == b / (16777216 : Int) % (256 : Int) &&
                (b / (4294967296 : Int) % (256 : Int) == b / (4294967296 : Int) % (256 : Int) &&
                  (b / (1099511627776 : Int) % (256 : Int) == b / (1099511627776 : Int) % (256 : Int) &&
                    (b / (281474976710656 : Int) % (256 : Int) == b / (281474976710656 : Int) % (256 : Int) &&
                      (b / (72057594037927936 : Int) % (256 : Int) == b / (72057594037927936 : Int) % (256 : Int) &&
                        (a % (256 : Int) == a % (256 : Int) &&
                          (a / (256 : Int) % (256 : Int) == a / (256 : Int) % (256 : Int) &&
                            (a / (65536 : Int) % (256 : Int) == a / (65536 : Int) % (256 : Int) &&
                              (a / (16777216 : Int) % (256 : Int) == a / (16777216 : Int) % (256 : Int) &&
                                (a / (4294967296 : Int) % (256 : Int) == a / (4294967296 : Int) % (256 : Int) &&
                                  (a / (1099511627776 : Int) % (256 : Int) == a / (1099511627776 : Int) % (256 : Int) &&
                                    (a / (281474976710656 : Int) % (256 : Int) ==
                                        a / (281474976710656 : Int) % (256 : Int) &&
                                      (a / (72057594037927936 : Int) % (256 : Int) ==
                                          a / (72057594037927936 : Int) % (256 : Int) &&
                                        true)))))))))))))))) =
        true,
      [Value.int IntKind.u64 (0 : Int), Value.int IntKind.u64 (0 : Int)] =
        [Value.int IntKind.u64 (0 : Int), Value.int IntKind.u64 (0 : Int)],
      [Value.int IntKind.u64 (0 : Int), Value.int IntKind.u64 (0 : Int)] =
        [Value.int IntKind.u64 (0 : Int), Value.int IntKind.u64 (0 : Int)],
      true = true,
      [Value.int IntKind.u64 (0 : Int), Value.int IntKind.u64 (0 : Int)] =
        [Value.int IntKind.u64 (0 : Int), Value.int IntKind.u64 (0 : Int)],
      [Value.int IntKind.u64 (0 : Int), Value.int IntKind.u64 (0 : Int)] =
        [Value.int IntKind.u64 (0 : Int), Value.int IntKind.u64 (0 : Int)],
      true = true, (3 : Nat) ≤ (9223372036854775807 : Nat), (3 : Nat) ≤ (3 : Nat),
      Fl [Value.int IntKind.u8 (160 : Int), Value.int IntKind.u8 (161 : Int), Value.int IntKind.u8 (162 : Int)],
      Byts [Value.int IntKind.u8 (160 : Int), Value.int IntKind.u8 (161 : Int), Value.int IntKind.u8 (162 : Int)],
      Byts [], (0 : Nat) = (0 : Nat), (3 : Nat) = (3 : Nat), (0 : Nat) ≤ (1099511627776 : Nat), true = true,
      [Value.int IntKind.u64 a, Value.int IntKind.u64 b] = [Value.int IntKind.u64 a, Value.int IntKind.u64 b],
      [Value.int IntKind.u64 a, Value.int IntKind.u64 b] = [Value.int IntKind.u64 a, Value.int IntKind.u64 b],
      (16 : Nat) ≤ (16 : Nat) ∧ (16 : Nat) ≤ (9223372036854775807 : Nat), (16 : Nat) ≤ (16 : Nat),
      Fl
        [Value.int IntKind.u8 (a / (72057594037927936 : Int) % (256 : Int)),
          Value.int IntKind.u8 (a / (281474976710656 : Int) % (256 : Int)),
          Value.int IntKind.u8 (a / (1099511627776 : Int) % (256 : Int)),
          Value.int IntKind.u8 (a / (4294967296 : Int) % (256 : Int)),
          Value.int IntKind.u8 (a / (16777216 : Int) % (256 : Int)),
          Value.int IntKind.u8 (a / (65536 : Int) % (256 : Int)), Value.int IntKind.u8 (a / (256 : Int) % (256 : Int)),
          Value.int IntKind.u8 (a % (256 : Int)), Value.int IntKind.u8 (b / (72057594037927936 : Int) % (256 : Int)),
          Value.int IntKind.u8 (b / (281474976710656 : Int) % (256 : Int)),
          Value.int IntKind.u8 (b / (1099511627776 : Int) % (256 : Int)),
          Value.int IntKind.u8 (b / (4294967296 : Int) % (256 : Int)),
          Value.int IntKind.u8 (b / (16777216 : Int) % (256 : Int)),
          Value.int IntKind.u8 (b / (65536 : Int) % (256 : Int)), Value.int IntKind.u8 (b / (256 : Int) % (256 : Int)),
          Value.int IntKind.u8 (b % (256 : Int))],
      capBig + (11 : Nat) = capBig + (11 : Nat), (16 : Nat) ≤ (16 : Nat), (0 : Nat) < (1 : Nat),
      (16 : Nat) ≤ (16 : Nat),
      Fl
        [Value.int IntKind.u8 (a / (72057594037927936 : Int) % (256 : Int)),
          Value.int IntKind.u8 (a / (281474976710656 : Int) % (256 : Int)),
          Value.int IntKind.u8 (a / (1099511627776 : Int) % (256 : Int)),
          Value.int IntKind.u8 (a / (4294967296 : Int) % (256 : Int)),
          Value.int IntKind.u8 (a / (16777216 : Int) % (256 : Int)),
          Value.int IntKind.u8 (a / (65536 : Int) % (256 : Int)), Value.int IntKind.u8 (a / (256 : Int) % (256 : Int)),
          Value.int IntKind.u8 (a % (256 : Int)), Value.int IntKind.u8 (b / (72057594037927936 : Int) % (256 : Int)),
          Value.int IntKind.u8 (b / (281474976710656 : Int) % (256 : Int)),
          Value.int IntKind.u8 (b / (1099511627776 : Int) % (256 : Int)),
          Value.int IntKind.u8 (b / (4294967296 : Int) % (256 : Int)),
          Value.int IntKind.u8 (b / (16777216 : Int) % (256 : Int)),
          Value.int IntKind.u8 (b / (65536 : Int) % (256 : Int)), Value.int IntKind.u8 (b / (256 : Int) % (256 : Int)),
          Value.int IntKind.u8 (b % (256 : Int))],
      Byts
        [Value.int IntKind.u8 (a / (72057594037927936 : Int) % (256 : Int)),
          Value.int IntKind.u8 (a / (281474976710656 : Int) % (256 : Int)),
          Value.int IntKind.u8 (a / (1099511627776 : Int) % (256 : Int)),
          Value.int IntKind.u8 (a / (4294967296 : Int) % (256 : Int)),
          Value.int IntKind.u8 (a / (16777216 : Int) % (256 : Int)),
          Value.int IntKind.u8 (a / (65536 : Int) % (256 : Int)), Value.int IntKind.u8 (a / (256 : Int) % (256 : Int)),
          Value.int IntKind.u8 (a % (256 : Int)), Value.int IntKind.u8 (b / (72057594037927936 : Int) % (256 : Int)),
          Value.int IntKind.u8 (b / (281474976710656 : Int) % (256 : Int)),
          Value.int IntKind.u8 (b / (1099511627776 : Int) % (256 : Int)),
          Value.int IntKind.u8 (b / (4294967296 : Int) % (256 : Int)),
          Value.int IntKind.u8 (b / (16777216 : Int) % (256 : Int)),
          Value.int IntKind.u8 (b / (65536 : Int) % (256 : Int)), Value.int IntKind.u8 (b / (256 : Int) % (256 : Int)),
          Value.int IntKind.u8 (b % (256 : Int))],
      Byts
        [Value.int IntKind.u8 (a / (72057594037927936 : Int) % (256 : Int)),
          Value.int IntKind.u8 (a / (281474976710656 : Int) % (256 : Int)),
          Value.int IntKind.u8 (a / (1099511627776 : Int) % (256 : Int)),
          Value.int IntKind.u8 (a / (4294967296 : Int) % (256 : Int)),
          Value.int IntKind.u8 (a / (16777216 : Int) % (256 : Int)),
          Value.int IntKind.u8 (a / (65536 : Int) % (256 : Int)), Value.int IntKind.u8 (a / (256 : Int) % (256 : Int)),
          Value.int IntKind.u8 (a % (256 : Int)), Value.int IntKind.u8 (b / (72057594037927936 : Int) % (256 : Int)),
          Value.int IntKind.u8 (b / (281474976710656 : Int) % (256 : Int)),
          Value.int IntKind.u8 (b / (1099511627776 : Int) % (256 : Int)),
          Value.int IntKind.u8 (b / (4294967296 : Int) % (256 : Int)),
          Value.int IntKind.u8 (b / (16777216 : Int) % (256 : Int)),
          Value.int IntKind.u8 (b / (65536 : Int) % (256 : Int)), Value.int IntKind.u8 (b / (256 : Int) % (256 : Int)),
          Value.int IntKind.u8 (b % (256 : Int))],
      decide
          (intsOf
              [Value.int IntKind.u8 (a / (72057594037927936 : Int) % (256 : Int)),
                Value.int IntKind.u8 (a / (281474976710656 : Int) % (256 : Int)),
                Value.int IntKind.u8 (a / (1099511627776 : Int) % (256 : Int)),
                Value.int IntKind.u8 (a / (4294967296 : Int) % (256 : Int)),
                Value.int IntKind.u8 (a / (16777216 : Int) % (256 : Int)),
                Value.int IntKind.u8 (a / (65536 : Int) % (256 : Int)),
                Value.int IntKind.u8 (a / (256 : Int) % (256 : Int)), Value.int IntKind.u8 (a % (256 : Int)),
                Value.int IntKind.u8 (b / (72057594037927936 : Int) % (256 : Int)),
                Value.int IntKind.u8 (b / (281474976710656 : Int) % (256 : Int)),
                Value.int IntKind.u8 (b / (1099511627776 : Int) % (256 : Int)),
                Value.int IntKind.u8 (b / (4294967296 : Int) % (256 : Int)),
                Value.int IntKind.u8 (b / (16777216 : Int) % (256 : Int)),
                Value.int IntKind.u8 (b / (65536 : Int) % (256 : Int)),
                Value.int IntKind.u8 (b / (256 : Int) % (256 : Int)), Value.int IntKind.u8 (b % (256 : Int))] =
            intsOf
              [Value.int IntKind.u8 (a / (72057594037927936 : Int) % (256 : Int)),
                Value.int IntKind.u8 (a / (281474976710656 : Int) % (256 : Int)),
                Value.int IntKind.u8 (a / (1099511627776 : Int) % (256 : Int)),
                Value.int IntKind.u8 (a / (4294967296 : Int) % (256 : Int)),
                Value.int IntKind.u8 (a / (16777216 : Int) % (256 : Int)),
                Value.int IntKind.u8 (a / (65536 : Int) % (256 : Int)),
                Value.int IntKind.u8 (a / (256 : Int) % (256 : Int)), Value.int IntKind.u8 (a % (256 : Int)),
                Value.int IntKind.u8 (b / (72057594037927936 : Int) % (256 : Int)),
                Value.int IntKind.u8 (b / (281474976710656 : Int) % (256 : Int)),
                Value.int IntKind.u8 (b / (1099511627776 : Int) % (256 : Int)),
                Value.int IntKind.u8 (b / (4294967296 : Int) % (256 : Int)),
                Value.int IntKind.u8 (b / (16777216 : Int) % (256 : Int)),
                Value.int IntKind.u8 (b / (65536 : Int) % (256 : Int)),
                Value.int IntKind.u8 (b / (256 : Int) % (256 : Int)), Value.int IntKind.u8 (b % (256 : Int))]) =
        true]) := by kernel_rfl
def LawRuns (P : Program) (f : FuncId) (args : List Value) (h : Hp) (nx : Nat) : Prop := ∃ h' nx' d, Tri P f args h nx (.bool true, h', nx', d)
theorem ub_run {a b : Int} {xs : List Value} {n c : Nat} (hb : Byts xs) (hl : xs.length = n) (hc : n ≤ c ∧ c ≤ 9223372036854775807) :
    LawRuns Try.prog 5 [.agg ⟨[.int .u64 a, .int .u64 b]⟩, .slice (some ⟨1, 0, none⟩) n c] [(1, ⟨.old, xs⟩)] 2 := by
  have hX : XOkZ ublV Try.prog := noXz_ok rfl
  have hT : TOkZ ublV Try.prog := T_okV rfl ublT_one
  have hL : LOkZ ublV Try.prog := noL_okV rfl
  have ex1 : xs.take n = xs := take_len hl
  have hml : (xs ++ mk3 n).length = n + 3 := by simp [mk3, hl]
  have ex2 : (xs ++ mk3 n).take n = xs := by rw [← hl, List.take_left]
  have ex3 : (xs ++ mk3 n).take (n + 3) = xs ++ mk3 n := take_len hml
  have f1 := fl_byts hb
  have b2 := hb.app (mk3_byts n)
  have f2 := fl_byts b2
  unfold mk3 at ex2 ex3 hml b2 f2
  by_cases h1 : n ≤ 1000
  case neg =>
    refine ⟨_, _, _, run_tri hX hT hL (ub_l a b xs n c) ?_ rfl⟩
    simp only [Alls, decide_eq_true_eq]
    repeat' (first | with_reducible exact trivial | with_reducible apply And.intro)
    all_goals first | with_reducible assumption | omega | with_reducible rfl | (skip)
  have g1 : decide ((n : Int) > 1000) = false := by simp only [decide_eq_false_iff_not]; omega
  by_cases k0 : n = 16
  ·
    refine ⟨_, _, _, run_tri hX hT hL (ub_o a b xs n c) ?_ rfl⟩
    simp only [Alls, avLen, ex1, ex2, ex3]
    repeat' (first | with_reducible exact trivial | with_reducible apply And.intro)
    all_goals first | with_reducible assumption | omega | with_reducible rfl | (first | exact k0 | exact fl_byts (keyB_Byts a b) | exact keyB_Byts a b | exact decide_eq_true rfl | exact Byts.nil | exact fl_byts (mk3_byts 0) | exact mk3_byts 0 | exact b2 | exact f2 | exact Fl.of rfl | rfl | (simp only [beq_self_eq_true, Bool.and_self]; done))
  ·
    refine ⟨_, _, _, run_tri hX hT hL (ub_b a b xs n c) ?_ rfl⟩
    simp only [Alls, avLen, ex1, ex2, ex3]
    repeat' (first | with_reducible exact trivial | with_reducible apply And.intro)
    all_goals first | with_reducible assumption | omega | with_reducible rfl | (first | exact k0 | exact fl_byts (keyB_Byts a b) | exact keyB_Byts a b | exact decide_eq_true rfl | exact Byts.nil | exact fl_byts (mk3_byts 0) | exact mk3_byts 0 | exact b2 | exact f2 | exact Fl.of rfl | rfl | (simp only [beq_self_eq_true, Bool.and_self]; done))
theorem ub_run_n {a b : Int} : LawRuns Try.prog 5 [.agg ⟨[.int .u64 a, .int .u64 b]⟩, .slice none 0 0] [] 2 := by
  have hX : XOkZ ublV Try.prog := noXz_ok rfl
  have hT : TOkZ ublV Try.prog := T_okV rfl ublT_one
  have hL : LOkZ ublV Try.prog := noL_okV rfl
  refine ⟨_, _, _, run_tri hX hT hL (ub_n a b) ?_ rfl⟩
  simp only [Alls]
  repeat' (first | with_reducible exact trivial | with_reducible apply And.intro)
  all_goals first | with_reducible assumption | omega | with_reducible rfl | (first | exact fl_byts (keyB_Byts a b) | exact keyB_Byts a b | exact decide_eq_true rfl | exact Byts.nil | exact fl_byts (mk3_byts 0) | exact mk3_byts 0 | exact Fl.of rfl | rfl | (simp only [beq_self_eq_true, Bool.and_self]; done))
theorem bytes_any {W : World} {v0 : Value} {a b : Int} {a0 : Av} {q0 : Option (Addr × Nat)} {z0 : List (List Int)} (h0 : (a0 = .fl (.slice none 0 0) ∧ z0 = []) ∨ a0 = .sl (z0.map (cellsK [.u8])).flatten z0.length)
    (A0 : AvAt a0 v0 q0) (L0 : Lies W a0 q0) (w0 : ∀ zs ∈ z0, AllWf [.u8] zs) :
    Calls Try.prog 5 #[.agg ⟨[.int .u64 a, .int .u64 b]⟩, v0] W fun e w' => e = .returned (.bool true) ∧ Ext W w' := by
  have b0 := flat_Byts w0
  have l0 : ((z0.map (cellsK [.u8])).flatten).length = z0.length := by rw [flat_len w0]; simp
  refine calls_sl (avs := [.fl (.agg ⟨[.int .u64 a, .int .u64 b]⟩), a0]) (vs := [.agg ⟨[.int .u64 a, .int .u64 b]⟩, v0]) (ps := [none, q0]) ⟨⟨rfl, fun σ => rfl, rfl⟩, A0, trivial⟩ ⟨(fun ad c e => by cases e), L0, trivial⟩ (fun σ => rfl) fun cs hcs => ?_
  obtain ⟨c, d, rfl⟩ := caps2 hcs
  rcases h0 with ⟨rfl, rfl⟩ | rfl
  · exact ub_run_n
  · exact ub_run b0 l0 hcs.1
end Go.Proofs.Ytpiapipmhlpmjaa
