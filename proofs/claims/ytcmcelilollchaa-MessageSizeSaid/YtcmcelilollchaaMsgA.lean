/-
  Chapter 23: numbers of four bytes, bounds, which entries may be a log's; the program's functions and the document's.
-/
import Derived.Test.YtcmcelilollchaaKitS
namespace Go.Proofs.Ytcmcelilollchaa
set_option linter.unusedSimpArgs false
set_option linter.unusedVariables false
set_option linter.unusedSectionVars false
open Go Go.RowKit

def nmV : Tv := ⟨noTz, noXz, noL, fun _ => [], fun f s => bif Nat.beq f 26 then (match mdOf [(12, 7), (18, 7), (24, 7)] s with | some m => some m | none => some 0) else bif Nat.beq f 28 then some 0 else none, fun _ => [], fun _ => 0⟩
theorem num_i (xs : List Value) (n c : Nat) : runZ nmV Try.prog 5 26 [.slice (some ⟨0, 0, none⟩) n c] [(0, ⟨.old, xs⟩)] 1 [] =
Res.ok
  ((Value.int IntKind.i64
        (adI (adI (adI (intAt xs (0 : Nat)) (slI (intAt xs (1 : Nat)) (8 : Int))) (slI (intAt xs (2 : Nat)) (16 : Int)))
          (slI (intAt xs (3 : Nat)) (24 : Int))),
      [((0 : Nat), Rw.mk Kd.old xs)], (1 : Nat), []),
    [],
    [(0 : Int) ≤ (0 : Int) ∧ (0 : Int) < (↑n : Int), xs[(0 : Nat)]? = some (Value.int IntKind.u8 (intAt xs (0 : Nat))),
      rg IntKind.u32 (intAt xs (0 : Nat)), (0 : Int) ≤ (1 : Int) ∧ (1 : Int) < (↑n : Int),
      xs[(1 : Nat)]? = some (Value.int IntKind.u8 (intAt xs (1 : Nat))), rg IntKind.u32 (intAt xs (1 : Nat)),
      (0 : Int) ≤ (8 : Int) ∧ (8 : Int) ≤ (32 : Int) ∧ rg IntKind.u32 (slI (intAt xs (1 : Nat)) (8 : Int)),
      IntKind.wrap IntKind.u32
          (↑(BitVec.toNat
                (BitVec.ofInt (32 : Nat) (intAt xs (0 : Nat)) |||
                  BitVec.ofInt (32 : Nat) (slI (intAt xs (1 : Nat)) (8 : Int)))) :
            Int) =
        adI (intAt xs (0 : Nat)) (slI (intAt xs (1 : Nat)) (8 : Int)),
      (0 : Int) ≤ (2 : Int) ∧ (2 : Int) < (↑n : Int), xs[(2 : Nat)]? = some (Value.int IntKind.u8 (intAt xs (2 : Nat))),
      rg IntKind.u32 (intAt xs (2 : Nat)),
      (0 : Int) ≤ (16 : Int) ∧ (16 : Int) ≤ (32 : Int) ∧ rg IntKind.u32 (slI (intAt xs (2 : Nat)) (16 : Int)),
      IntKind.wrap IntKind.u32
          (↑(BitVec.toNat
                (BitVec.ofInt (32 : Nat) (adI (intAt xs (0 : Nat)) (slI (intAt xs (1 : Nat)) (8 : Int))) |||
                  BitVec.ofInt (32 : Nat) (slI (intAt xs (2 : Nat)) (16 : Int)))) :
            Int) =
        adI (adI (intAt xs (0 : Nat)) (slI (intAt xs (1 : Nat)) (8 : Int))) (slI (intAt xs (2 : Nat)) (16 : Int)),
      (0 : Int) ≤ (3 : Int) ∧ (3 : Int) < (↑n : Int), xs[(3 : Nat)]? = some (Value.int IntKind.u8 (intAt xs (3 : Nat))),
      rg IntKind.u32 (intAt xs (3 : Nat)),
      (0 : Int) ≤ (24 : Int) ∧ (24 : Int) ≤ (32 : Int) ∧ rg IntKind.u32 (slI (intAt xs (3 : Nat)) (24 : Int)),
      IntKind.wrap IntKind.u32
          (↑(BitVec.toNat
                (BitVec.ofInt (32 : Nat)
                    (adI (adI (intAt xs (0 : Nat)) (slI (intAt xs (1 : Nat)) (8 : Int)))
                      (slI (intAt xs (2 : Nat)) (16 : Int))) |||
                  BitVec.ofInt (32 : Nat) (slI (intAt xs (3 : Nat)) (24 : Int)))) :
            Int) =
        adI (adI (adI (intAt xs (0 : Nat)) (slI (intAt xs (1 : Nat)) (8 : Int))) (slI (intAt xs (2 : Nat)) (16 : Int)))
          (slI (intAt xs (3 : Nat)) (24 : Int)),
      rg IntKind.i64
        (adI (adI (adI (intAt xs (0 : Nat)) (slI (intAt xs (1 : Nat)) (8 : Int))) (slI (intAt xs (2 : Nat)) (16 : Int)))
          (slI (intAt xs (3 : Nat)) (24 : Int)))]) := by kernel_rfl
theorem num_r (xs : List Value) (n c : Nat) : runZ nmV Try.prog 5 28 [.slice (some ⟨0, 0, none⟩) n c] [(0, ⟨.old, xs⟩)] 1 [] =
Res.ok
  ((Value.int IntKind.i64
        (adI
          (adI (adI (intAt xs (0 : Nat)) (mlI (256 : Int) (intAt xs (1 : Nat))))
            (mlI (65536 : Int) (intAt xs (2 : Nat))))
          (mlI (16777216 : Int) (intAt xs (3 : Nat)))),
      [((0 : Nat), Rw.mk Kd.old xs)], (1 : Nat), []),
    [],
    [(0 : Int) ≤ (0 : Int) ∧ (0 : Int) < (↑n : Int), xs[(0 : Nat)]? = some (Value.int IntKind.u8 (intAt xs (0 : Nat))),
      rg IntKind.i64 (intAt xs (0 : Nat)), (0 : Int) ≤ (1 : Int) ∧ (1 : Int) < (↑n : Int),
      xs[(1 : Nat)]? = some (Value.int IntKind.u8 (intAt xs (1 : Nat))), rg IntKind.i64 (intAt xs (1 : Nat)),
      rg IntKind.i64 (mlI (256 : Int) (intAt xs (1 : Nat))),
      rg IntKind.i64 (adI (intAt xs (0 : Nat)) (mlI (256 : Int) (intAt xs (1 : Nat)))),
      (0 : Int) ≤ (2 : Int) ∧ (2 : Int) < (↑n : Int), xs[(2 : Nat)]? = some (Value.int IntKind.u8 (intAt xs (2 : Nat))),
      rg IntKind.i64 (intAt xs (2 : Nat)), rg IntKind.i64 (mlI (65536 : Int) (intAt xs (2 : Nat))),
      rg IntKind.i64
        (adI (adI (intAt xs (0 : Nat)) (mlI (256 : Int) (intAt xs (1 : Nat))))
          (mlI (65536 : Int) (intAt xs (2 : Nat)))),
      (0 : Int) ≤ (3 : Int) ∧ (3 : Int) < (↑n : Int), xs[(3 : Nat)]? = some (Value.int IntKind.u8 (intAt xs (3 : Nat))),
      rg IntKind.i64 (intAt xs (3 : Nat)), rg IntKind.i64 (mlI (16777216 : Int) (intAt xs (3 : Nat))),
      rg IntKind.i64
        (adI
          (adI (adI (intAt xs (0 : Nat)) (mlI (256 : Int) (intAt xs (1 : Nat))))
            (mlI (65536 : Int) (intAt xs (2 : Nat))))
          (mlI (16777216 : Int) (intAt xs (3 : Nat))))]) := by kernel_rfl
def wiV : Tv := ⟨noTz, noXz, noL, fun f => bif Nat.beq f 32 then [10] else bif Nat.beq f 39 then [10] else [], noSy, fun _ => [], fun _ => 0⟩
theorem wi_t (a b c : Int) : runZ wiV Try.prog 5 32 [.int .i64 a, .int .i64 b, .int .i64 c] [] 3 [true] =
Res.ok ((Value.bool (bif true then decide (a ≤ c) else false), [], (3 : Nat), []), [], [decide (a ≥ b) = true]) := by kernel_rfl
theorem wi_f (a b c : Int) : runZ wiV Try.prog 5 32 [.int .i64 a, .int .i64 b, .int .i64 c] [] 3 [false] =
Res.ok ((Value.bool false, [], (3 : Nat), []), [], [decide (a ≥ b) = false]) := by kernel_rfl
theorem fr_t (a b c : Int) : runZ wiV Try.prog 5 39 [.int .i64 a, .int .i64 b, .int .i64 c] [] 3 [true] =
Res.ok ((Value.bool (bif true then decide (a ≤ c) else false), [], (3 : Nat), []), [], [decide (a ≥ b) = true]) := by kernel_rfl
theorem fr_f (a b c : Int) : runZ wiV Try.prog 5 39 [.int .i64 a, .int .i64 b, .int .i64 c] [] 3 [false] =
Res.ok ((Value.bool false, [], (3 : Nat), []), [], [decide (a ≥ b) = false]) := by kernel_rfl
/-! ### what the functions answer -/
def n4 (xs : List Value) : Int := intAt xs 0 + 256 * intAt xs 1 + 65536 * intAt xs 2 + 16777216 * intAt xs 3
def gNum : GSpec := fun av tp => match av with
  | [.sl xs n] => some (⟨fun _ => .int .i64 (n4 xs), []⟩, tp, [Byts xs, 4 ≤ n])
  | _ => none
def gWi : GSpec := fun av tp => match av with
  | [.fl (.int .i64 n), .fl (.int .i64 l), .fl (.int .i64 m)] => some (⟨fun _ => .bool (decide (n ≥ l) && decide (n ≤ m)), []⟩, tp, [])
  | _ => none
def msgT : TFun := orTz (mkT 32 [.f, .f, .f] gWi) (orTz (mkT 39 [.f, .f, .f] gWi) (orTz (mkT 26 [.s 1] gNum) (orTz (mkT 28 [.s 1] gNum) (orTz kitT overT))))
/-! ### logs -/
def lgV (L : LFun) : Tv := ⟨msgT, noXz, L, fun f => bif Nat.beq f 27 then [9, 18, 24, 30, 34, 39] else bif Nat.beq f 29 then [8, 20, 29, 38, 45, 53] else [], orSy (exSy 27 [13, 20, 26, 32, 36, 41, 100005] []) (allSy 29 []), fun _ => [], fun _ => 0⟩
def lgB (P : Program) : Code := bodyIn P 27 3
def lgS (n c i : Nat) (last : Int) : List (Nat × Value) := [(0, .slice (some ⟨0, 0, none⟩) n c), (2, .bool false), (3, .int .i64 last), (6, .slice (some ⟨0, 0, none⟩) n c), (7, .int .i64 (n : Int)), (8, .int .i64 (i : Int))]
theorem lg_ok1 (inr : Bool) (xs : List Value) (n c i : Nat) (last : Int) : prjZ [0, 2, 3, 6, 7, 8] (codeZ (lgV noL) Try.prog (runZ (lgV noL) Try.prog 5) 27 inr 100000 (lgB Try.prog) (SL 46 (lgS n c i last)) [(0, ⟨.old, xs⟩)] 1 [true, false, false, false, false, false]) =
Res.ok
  ((Xt.normal, (46 : Nat),
      [((0 : Nat), Value.slice (some (Addr.mk (0 : Nat) (0 : Nat) none)) n c), ((2 : Nat), Value.bool false),
        ((3 : Nat), Value.int IntKind.i64 (intAt xs (i * (3 : Nat)))),
        ((6 : Nat), Value.slice (some (Addr.mk (0 : Nat) (0 : Nat) none)) n c),
        ((7 : Nat), Value.int IntKind.i64 (↑n : Int)), ((8 : Nat), Value.int IntKind.i64 (↑(i + (1 : Nat)) : Int))],
      [((1 : Nat),
          Rw.mk Kd.shut
            [Value.int IntKind.i64 (intAt xs (i * (3 : Nat))),
              Value.int IntKind.i64 (intAt xs (i * (3 : Nat) + (1 : Nat))),
              Value.int IntKind.i64 (intAt xs (i * (3 : Nat) + (1 : Nat) + (1 : Nat)))]),
        ((0 : Nat), Rw.mk Kd.old xs)],
      (2 : Nat), [(1 : Nat)], []),
    [],
    [decide ((↑i : Int) < (↑n : Int)) = true, (0 : Int) ≤ (↑i : Int) ∧ (↑i : Int) < (↑n : Int),
      List.take (3 : Nat) (List.drop (i * (3 : Nat)) xs) =
        [Value.int IntKind.i64 (intAt xs (i * (3 : Nat))), Value.int IntKind.i64 (intAt xs (i * (3 : Nat) + (1 : Nat))),
          Value.int IntKind.i64 (intAt xs (i * (3 : Nat) + (1 : Nat) + (1 : Nat)))],
      rg IntKind.i64 (adI last (1 : Int)),
      (!(decide (intAt xs (i * (3 : Nat)) ≥ adI last (1 : Int)) &&
            decide (intAt xs (i * (3 : Nat)) ≤ (1073741824 : Int)))) =
        false,
      (bif false then true
        else
          !(decide (intAt xs (i * (3 : Nat) + (1 : Nat)) ≥ (0 : Int)) &&
              decide (intAt xs (i * (3 : Nat) + (1 : Nat)) ≤ (1073741824 : Int)))) =
        false,
      (bif false then true
        else
          !(decide (intAt xs (i * (3 : Nat) + (1 : Nat) + (1 : Nat)) ≥ (1 : Int)) &&
              decide (intAt xs (i * (3 : Nat) + (1 : Nat) + (1 : Nat)) ≤ (4 : Int)))) =
        false,
      (intAt xs (i * (3 : Nat) + (1 : Nat) + (1 : Nat)) == (3 : Int)) = false, false = false,
      rg IntKind.i64 (↑(i + (1 : Nat)) : Int)]) := by kernel_rfl
theorem lg_ok2 (inr : Bool) (xs : List Value) (n c i : Nat) (last : Int) : prjZ [0, 2, 3, 6, 7, 8] (codeZ (lgV noL) Try.prog (runZ (lgV noL) Try.prog 5) 27 inr 100000 (lgB Try.prog) (SL 46 (lgS n c i last)) [(0, ⟨.old, xs⟩)] 1 [true, false, false, false, true, false]) =
Res.ok
  ((Xt.normal, (46 : Nat),
      [((0 : Nat), Value.slice (some (Addr.mk (0 : Nat) (0 : Nat) none)) n c), ((2 : Nat), Value.bool false),
        ((3 : Nat), Value.int IntKind.i64 (intAt xs (i * (3 : Nat)))),
        ((6 : Nat), Value.slice (some (Addr.mk (0 : Nat) (0 : Nat) none)) n c),
        ((7 : Nat), Value.int IntKind.i64 (↑n : Int)), ((8 : Nat), Value.int IntKind.i64 (↑(i + (1 : Nat)) : Int))],
      [((1 : Nat),
          Rw.mk Kd.shut
            [Value.int IntKind.i64 (intAt xs (i * (3 : Nat))),
              Value.int IntKind.i64 (intAt xs (i * (3 : Nat) + (1 : Nat))),
              Value.int IntKind.i64 (intAt xs (i * (3 : Nat) + (1 : Nat) + (1 : Nat)))]),
        ((0 : Nat), Rw.mk Kd.old xs)],
      (2 : Nat), [(1 : Nat)], []),
    [],
    [decide ((↑i : Int) < (↑n : Int)) = true, (0 : Int) ≤ (↑i : Int) ∧ (↑i : Int) < (↑n : Int),
      List.take (3 : Nat) (List.drop (i * (3 : Nat)) xs) =
        [Value.int IntKind.i64 (intAt xs (i * (3 : Nat))), Value.int IntKind.i64 (intAt xs (i * (3 : Nat) + (1 : Nat))),
          Value.int IntKind.i64 (intAt xs (i * (3 : Nat) + (1 : Nat) + (1 : Nat)))],
      rg IntKind.i64 (adI last (1 : Int)),
      (!(decide (intAt xs (i * (3 : Nat)) ≥ adI last (1 : Int)) &&
            decide (intAt xs (i * (3 : Nat)) ≤ (1073741824 : Int)))) =
        false,
      (bif false then true
        else
          !(decide (intAt xs (i * (3 : Nat) + (1 : Nat)) ≥ (0 : Int)) &&
              decide (intAt xs (i * (3 : Nat) + (1 : Nat)) ≤ (1073741824 : Int)))) =
        false,
      (bif false then true
        else
          !(decide (intAt xs (i * (3 : Nat) + (1 : Nat) + (1 : Nat)) ≥ (1 : Int)) &&
              decide (intAt xs (i * (3 : Nat) + (1 : Nat) + (1 : Nat)) ≤ (4 : Int)))) =
        false,
      (intAt xs (i * (3 : Nat) + (1 : Nat) + (1 : Nat)) == (3 : Int)) = true,
      (bif false then true else bif true then intAt xs (i * (3 : Nat) + (1 : Nat)) != (0 : Int) else false) = false,
      rg IntKind.i64 (↑(i + (1 : Nat)) : Int)]) := by kernel_rfl
theorem lg_bad1 (inr : Bool) (xs : List Value) (n c i : Nat) (last : Int) : prjZ [0, 2, 3, 6, 7, 8] (codeZ (lgV noL) Try.prog (runZ (lgV noL) Try.prog 5) 27 inr 100000 (lgB Try.prog) (SL 46 (lgS n c i last)) [(0, ⟨.old, xs⟩)] 1 [true, true, true, true, true]) =
Res.ok
  ((Xt.ret, (46 : Nat),
      [((0 : Nat), Value.slice (some (Addr.mk (0 : Nat) (0 : Nat) none)) n c), ((2 : Nat), Value.bool false),
        ((3 : Nat), Value.int IntKind.i64 last), ((6 : Nat), Value.slice (some (Addr.mk (0 : Nat) (0 : Nat) none)) n c),
        ((7 : Nat), Value.int IntKind.i64 (↑n : Int)), ((8 : Nat), Value.int IntKind.i64 (↑i : Int))],
      [((1 : Nat),
          Rw.mk Kd.shut
            [Value.int IntKind.i64 (intAt xs (i * (3 : Nat))),
              Value.int IntKind.i64 (intAt xs (i * (3 : Nat) + (1 : Nat))),
              Value.int IntKind.i64 (intAt xs (i * (3 : Nat) + (1 : Nat) + (1 : Nat)))]),
        ((0 : Nat), Rw.mk Kd.old xs)],
      (2 : Nat), [(1 : Nat)], []),
    [],
    [decide ((↑i : Int) < (↑n : Int)) = true, (0 : Int) ≤ (↑i : Int) ∧ (↑i : Int) < (↑n : Int),
      List.take (3 : Nat) (List.drop (i * (3 : Nat)) xs) =
        [Value.int IntKind.i64 (intAt xs (i * (3 : Nat))), Value.int IntKind.i64 (intAt xs (i * (3 : Nat) + (1 : Nat))),
          Value.int IntKind.i64 (intAt xs (i * (3 : Nat) + (1 : Nat) + (1 : Nat)))],
      rg IntKind.i64 (adI last (1 : Int)),
      (!(decide (intAt xs (i * (3 : Nat)) ≥ adI last (1 : Int)) &&
            decide (intAt xs (i * (3 : Nat)) ≤ (1073741824 : Int)))) =
        true,
      true = true, true = true, true = true]) := by kernel_rfl
theorem lg_bad2 (inr : Bool) (xs : List Value) (n c i : Nat) (last : Int) : prjZ [0, 2, 3, 6, 7, 8] (codeZ (lgV noL) Try.prog (runZ (lgV noL) Try.prog 5) 27 inr 100000 (lgB Try.prog) (SL 46 (lgS n c i last)) [(0, ⟨.old, xs⟩)] 1 [true, false, true, true, true]) =
Res.ok
  ((Xt.ret, (46 : Nat),
      [((0 : Nat), Value.slice (some (Addr.mk (0 : Nat) (0 : Nat) none)) n c), ((2 : Nat), Value.bool false),
        ((3 : Nat), Value.int IntKind.i64 last), ((6 : Nat), Value.slice (some (Addr.mk (0 : Nat) (0 : Nat) none)) n c),
        ((7 : Nat), Value.int IntKind.i64 (↑n : Int)), ((8 : Nat), Value.int IntKind.i64 (↑i : Int))],
      [((1 : Nat),
          Rw.mk Kd.shut
            [Value.int IntKind.i64 (intAt xs (i * (3 : Nat))),
              Value.int IntKind.i64 (intAt xs (i * (3 : Nat) + (1 : Nat))),
              Value.int IntKind.i64 (intAt xs (i * (3 : Nat) + (1 : Nat) + (1 : Nat)))]),
        ((0 : Nat), Rw.mk Kd.old xs)],
      (2 : Nat), [(1 : Nat)], []),
    [],
    [decide ((↑i : Int) < (↑n : Int)) = true, (0 : Int) ≤ (↑i : Int) ∧ (↑i : Int) < (↑n : Int),
      List.take (3 : Nat) (List.drop (i * (3 : Nat)) xs) =
        [Value.int IntKind.i64 (intAt xs (i * (3 : Nat))), Value.int IntKind.i64 (intAt xs (i * (3 : Nat) + (1 : Nat))),
          Value.int IntKind.i64 (intAt xs (i * (3 : Nat) + (1 : Nat) + (1 : Nat)))],
      rg IntKind.i64 (adI last (1 : Int)),
      (!(decide (intAt xs (i * (3 : Nat)) ≥ adI last (1 : Int)) &&
            decide (intAt xs (i * (3 : Nat)) ≤ (1073741824 : Int)))) =
        false,
      (bif false then true
        else
          !(decide (intAt xs (i * (3 : Nat) + (1 : Nat)) ≥ (0 : Int)) &&
              decide (intAt xs (i * (3 : Nat) + (1 : Nat)) ≤ (1073741824 : Int)))) =
        true,
      true = true, true = true]) := by kernel_rfl
theorem lg_bad3 (inr : Bool) (xs : List Value) (n c i : Nat) (last : Int) : prjZ [0, 2, 3, 6, 7, 8] (codeZ (lgV noL) Try.prog (runZ (lgV noL) Try.prog 5) 27 inr 100000 (lgB Try.prog) (SL 46 (lgS n c i last)) [(0, ⟨.old, xs⟩)] 1 [true, false, false, true, true]) =
Res.ok
  ((Xt.ret, (46 : Nat),
      [((0 : Nat), Value.slice (some (Addr.mk (0 : Nat) (0 : Nat) none)) n c), ((2 : Nat), Value.bool false),
        ((3 : Nat), Value.int IntKind.i64 last), ((6 : Nat), Value.slice (some (Addr.mk (0 : Nat) (0 : Nat) none)) n c),
        ((7 : Nat), Value.int IntKind.i64 (↑n : Int)), ((8 : Nat), Value.int IntKind.i64 (↑i : Int))],
      [((1 : Nat),
          Rw.mk Kd.shut
            [Value.int IntKind.i64 (intAt xs (i * (3 : Nat))),
              Value.int IntKind.i64 (intAt xs (i * (3 : Nat) + (1 : Nat))),
              Value.int IntKind.i64 (intAt xs (i * (3 : Nat) + (1 : Nat) + (1 : Nat)))]),
        ((0 : Nat), Rw.mk Kd.old xs)],
      (2 : Nat), [(1 : Nat)], []),
    [],
    [decide ((↑i : Int) < (↑n : Int)) = true, (0 : Int) ≤ (↑i : Int) ∧ (↑i : Int) < (↑n : Int),
      List.take (3 : Nat) (List.drop (i * (3 : Nat)) xs) =
        [Value.int IntKind.i64 (intAt xs (i * (3 : Nat))), Value.int IntKind.i64 (intAt xs (i * (3 : Nat) + (1 : Nat))),
          Value.int IntKind.i64 (intAt xs (i * (3 : Nat) + (1 : Nat) + (1 : Nat)))],
      rg IntKind.i64 (adI last (1 : Int)),
      (!(decide (intAt xs (i * (3 : Nat)) ≥ adI last (1 : Int)) &&
            decide (intAt xs (i * (3 : Nat)) ≤ (1073741824 : Int)))) =
        false,
      (bif false then true
        else
          !(decide (intAt xs (i * (3 : Nat) + (1 : Nat)) ≥ (0 : Int)) &&
              decide (intAt xs (i * (3 : Nat) + (1 : Nat)) ≤ (1073741824 : Int)))) =
        false,
      (bif false then true
        else
          !(decide (intAt xs (i * (3 : Nat) + (1 : Nat) + (1 : Nat)) ≥ (1 : Int)) &&
              decide (intAt xs (i * (3 : Nat) + (1 : Nat) + (1 : Nat)) ≤ (4 : Int)))) =
        true,
      true = true]) := by kernel_rfl
theorem lg_bad4 (inr : Bool) (xs : List Value) (n c i : Nat) (last : Int) : prjZ [0, 2, 3, 6, 7, 8] (codeZ (lgV noL) Try.prog (runZ (lgV noL) Try.prog 5) 27 inr 100000 (lgB Try.prog) (SL 46 (lgS n c i last)) [(0, ⟨.old, xs⟩)] 1 [true, false, false, false, true, true]) =
Res.ok
  ((Xt.ret, (46 : Nat),
      [((0 : Nat), Value.slice (some (Addr.mk (0 : Nat) (0 : Nat) none)) n c), ((2 : Nat), Value.bool false),
        ((3 : Nat), Value.int IntKind.i64 last), ((6 : Nat), Value.slice (some (Addr.mk (0 : Nat) (0 : Nat) none)) n c),
        ((7 : Nat), Value.int IntKind.i64 (↑n : Int)), ((8 : Nat), Value.int IntKind.i64 (↑i : Int))],
      [((1 : Nat),
          Rw.mk Kd.shut
            [Value.int IntKind.i64 (intAt xs (i * (3 : Nat))),
              Value.int IntKind.i64 (intAt xs (i * (3 : Nat) + (1 : Nat))),
              Value.int IntKind.i64 (intAt xs (i * (3 : Nat) + (1 : Nat) + (1 : Nat)))]),
        ((0 : Nat), Rw.mk Kd.old xs)],
      (2 : Nat), [(1 : Nat)], []),
    [],
    [decide ((↑i : Int) < (↑n : Int)) = true, (0 : Int) ≤ (↑i : Int) ∧ (↑i : Int) < (↑n : Int),
      List.take (3 : Nat) (List.drop (i * (3 : Nat)) xs) =
        [Value.int IntKind.i64 (intAt xs (i * (3 : Nat))), Value.int IntKind.i64 (intAt xs (i * (3 : Nat) + (1 : Nat))),
          Value.int IntKind.i64 (intAt xs (i * (3 : Nat) + (1 : Nat) + (1 : Nat)))],
      rg IntKind.i64 (adI last (1 : Int)),
      (!(decide (intAt xs (i * (3 : Nat)) ≥ adI last (1 : Int)) &&
            decide (intAt xs (i * (3 : Nat)) ≤ (1073741824 : Int)))) =
        false,
      (bif false then true
        else
          !(decide (intAt xs (i * (3 : Nat) + (1 : Nat)) ≥ (0 : Int)) &&
              decide (intAt xs (i * (3 : Nat) + (1 : Nat)) ≤ (1073741824 : Int)))) =
        false,
      (bif false then true
        else
          !(decide (intAt xs (i * (3 : Nat) + (1 : Nat) + (1 : Nat)) ≥ (1 : Int)) &&
              decide (intAt xs (i * (3 : Nat) + (1 : Nat) + (1 : Nat)) ≤ (4 : Int)))) =
        false,
      (intAt xs (i * (3 : Nat) + (1 : Nat) + (1 : Nat)) == (3 : Int)) = true,
      (bif false then true else bif true then intAt xs (i * (3 : Nat) + (1 : Nat)) != (0 : Int) else false) = true]) := by kernel_rfl
theorem lg_done (inr : Bool) (xs : List Value) (n c i : Nat) (last : Int) : prjZ [0, 2, 3, 6, 7, 8] (codeZ (lgV noL) Try.prog (runZ (lgV noL) Try.prog 5) 27 inr 100000 (lgB Try.prog) (SL 46 (lgS n c i last)) [(0, ⟨.old, xs⟩)] 1 [false]) =
Res.ok
  ((Xt.exit (0 : Nat), (46 : Nat),
      [((0 : Nat), Value.slice (some (Addr.mk (0 : Nat) (0 : Nat) none)) n c), ((2 : Nat), Value.bool false),
        ((3 : Nat), Value.int IntKind.i64 last), ((6 : Nat), Value.slice (some (Addr.mk (0 : Nat) (0 : Nat) none)) n c),
        ((7 : Nat), Value.int IntKind.i64 (↑n : Int)), ((8 : Nat), Value.int IntKind.i64 (↑i : Int))],
      [((0 : Nat), Rw.mk Kd.old xs)], (1 : Nat), [], []),
    [], [decide ((↑i : Int) < (↑n : Int)) = false]) := by kernel_rfl
def rlB (P : Program) : Code := bodyIn P 29 3
def rlS (n c i : Nat) (last : Int) : List (Nat × Value) := [(0, .slice (some ⟨0, 0, none⟩) n c), (2, .bool false), (3, .int .i64 last), (4, .int .i64 (i : Int))]
theorem rl_ok1 (inr : Bool) (xs : List Value) (n c i : Nat) (last : Int) : prjZ [0, 2, 3, 4] (codeZ (lgV noL) Try.prog (runZ (lgV noL) Try.prog 5) 29 inr 100000 (rlB Try.prog) (SL 62 (rlS n c i last)) [(0, ⟨.old, xs⟩)] 1 [true, false, false, false, false, false]) =
Res.ok
  ((Xt.normal, (62 : Nat),
      [((0 : Nat), Value.slice (some (Addr.mk (0 : Nat) (0 : Nat) none)) n c), ((2 : Nat), Value.bool false),
        ((3 : Nat), Value.int IntKind.i64 (intAt xs (i * (3 : Nat) + (0 : Nat)))),
        ((4 : Nat), Value.int IntKind.i64 (↑(i + (1 : Nat)) : Int))],
      [((0 : Nat), Rw.mk Kd.old xs)], (1 : Nat), [], []),
    [],
    [decide ((↑i : Int) < (↑n : Int)) = true, (0 : Int) ≤ (↑i : Int) ∧ (↑i : Int) < (↑n : Int),
      xs[i * (3 : Nat) + (0 : Nat)]? = some (Value.int IntKind.i64 (intAt xs (i * (3 : Nat) + (0 : Nat)))),
      rg IntKind.i64 (adI last (1 : Int)),
      (!(decide (intAt xs (i * (3 : Nat) + (0 : Nat)) ≥ adI last (1 : Int)) &&
            decide (intAt xs (i * (3 : Nat) + (0 : Nat)) ≤ (1073741824 : Int)))) =
        false,
      (0 : Int) ≤ (↑i : Int) ∧ (↑i : Int) < (↑n : Int),
      xs[i * (3 : Nat) + (1 : Nat)]? = some (Value.int IntKind.i64 (intAt xs (i * (3 : Nat) + (1 : Nat)))),
      (bif false then true
        else
          !(decide (intAt xs (i * (3 : Nat) + (1 : Nat)) ≥ (0 : Int)) &&
              decide (intAt xs (i * (3 : Nat) + (1 : Nat)) ≤ (1073741824 : Int)))) =
        false,
      (0 : Int) ≤ (↑i : Int) ∧ (↑i : Int) < (↑n : Int),
      xs[i * (3 : Nat) + (2 : Nat)]? = some (Value.int IntKind.i64 (intAt xs (i * (3 : Nat) + (2 : Nat)))),
      (bif false then true
        else
          !(decide (intAt xs (i * (3 : Nat) + (2 : Nat)) ≥ (1 : Int)) &&
              decide (intAt xs (i * (3 : Nat) + (2 : Nat)) ≤ (4 : Int)))) =
        false,
      (0 : Int) ≤ (↑i : Int) ∧ (↑i : Int) < (↑n : Int),
      xs[i * (3 : Nat) + (2 : Nat)]? = some (Value.int IntKind.i64 (intAt xs (i * (3 : Nat) + (2 : Nat)))),
      (intAt xs (i * (3 : Nat) + (2 : Nat)) == (3 : Int)) = false, false = false,
      (0 : Int) ≤ (↑i : Int) ∧ (↑i : Int) < (↑n : Int),
      xs[i * (3 : Nat) + (0 : Nat)]? = some (Value.int IntKind.i64 (intAt xs (i * (3 : Nat) + (0 : Nat)))),
      rg IntKind.i64 (↑(i + (1 : Nat)) : Int)]) := by kernel_rfl
theorem rl_ok2 (inr : Bool) (xs : List Value) (n c i : Nat) (last : Int) : prjZ [0, 2, 3, 4] (codeZ (lgV noL) Try.prog (runZ (lgV noL) Try.prog 5) 29 inr 100000 (rlB Try.prog) (SL 62 (rlS n c i last)) [(0, ⟨.old, xs⟩)] 1 [true, false, false, false, true, false]) =
Res.ok
  ((Xt.normal, (62 : Nat),
      [((0 : Nat), Value.slice (some (Addr.mk (0 : Nat) (0 : Nat) none)) n c), ((2 : Nat), Value.bool false),
        ((3 : Nat), Value.int IntKind.i64 (intAt xs (i * (3 : Nat) + (0 : Nat)))),
        ((4 : Nat), Value.int IntKind.i64 (↑(i + (1 : Nat)) : Int))],
      [((0 : Nat), Rw.mk Kd.old xs)], (1 : Nat), [], []),
    [],
    [decide ((↑i : Int) < (↑n : Int)) = true, (0 : Int) ≤ (↑i : Int) ∧ (↑i : Int) < (↑n : Int),
      xs[i * (3 : Nat) + (0 : Nat)]? = some (Value.int IntKind.i64 (intAt xs (i * (3 : Nat) + (0 : Nat)))),
      rg IntKind.i64 (adI last (1 : Int)),
      (!(decide (intAt xs (i * (3 : Nat) + (0 : Nat)) ≥ adI last (1 : Int)) &&
            decide (intAt xs (i * (3 : Nat) + (0 : Nat)) ≤ (1073741824 : Int)))) =
        false,
      (0 : Int) ≤ (↑i : Int) ∧ (↑i : Int) < (↑n : Int),
      xs[i * (3 : Nat) + (1 : Nat)]? = some (Value.int IntKind.i64 (intAt xs (i * (3 : Nat) + (1 : Nat)))),
      (bif false then true
        else
          !(decide (intAt xs (i * (3 : Nat) + (1 : Nat)) ≥ (0 : Int)) &&
              decide (intAt xs (i * (3 : Nat) + (1 : Nat)) ≤ (1073741824 : Int)))) =
        false,
      (0 : Int) ≤ (↑i : Int) ∧ (↑i : Int) < (↑n : Int),
      xs[i * (3 : Nat) + (2 : Nat)]? = some (Value.int IntKind.i64 (intAt xs (i * (3 : Nat) + (2 : Nat)))),
      (bif false then true
        else
          !(decide (intAt xs (i * (3 : Nat) + (2 : Nat)) ≥ (1 : Int)) &&
              decide (intAt xs (i * (3 : Nat) + (2 : Nat)) ≤ (4 : Int)))) =
        false,
      (0 : Int) ≤ (↑i : Int) ∧ (↑i : Int) < (↑n : Int),
      xs[i * (3 : Nat) + (2 : Nat)]? = some (Value.int IntKind.i64 (intAt xs (i * (3 : Nat) + (2 : Nat)))),
      (intAt xs (i * (3 : Nat) + (2 : Nat)) == (3 : Int)) = true, (0 : Int) ≤ (↑i : Int) ∧ (↑i : Int) < (↑n : Int),
      xs[i * (3 : Nat) + (1 : Nat)]? = some (Value.int IntKind.i64 (intAt xs (i * (3 : Nat) + (1 : Nat)))),
      (bif false then true else bif true then intAt xs (i * (3 : Nat) + (1 : Nat)) != (0 : Int) else false) = false,
      (0 : Int) ≤ (↑i : Int) ∧ (↑i : Int) < (↑n : Int),
      xs[i * (3 : Nat) + (0 : Nat)]? = some (Value.int IntKind.i64 (intAt xs (i * (3 : Nat) + (0 : Nat)))),
      rg IntKind.i64 (↑(i + (1 : Nat)) : Int)]) := by kernel_rfl
theorem rl_bad1 (inr : Bool) (xs : List Value) (n c i : Nat) (last : Int) : prjZ [0, 2, 3, 4] (codeZ (lgV noL) Try.prog (runZ (lgV noL) Try.prog 5) 29 inr 100000 (rlB Try.prog) (SL 62 (rlS n c i last)) [(0, ⟨.old, xs⟩)] 1 [true, true, true, true, true]) =
Res.ok
  ((Xt.ret, (62 : Nat),
      [((0 : Nat), Value.slice (some (Addr.mk (0 : Nat) (0 : Nat) none)) n c), ((2 : Nat), Value.bool false),
        ((3 : Nat), Value.int IntKind.i64 last), ((4 : Nat), Value.int IntKind.i64 (↑i : Int))],
      [((0 : Nat), Rw.mk Kd.old xs)], (1 : Nat), [], []),
    [],
    [decide ((↑i : Int) < (↑n : Int)) = true, (0 : Int) ≤ (↑i : Int) ∧ (↑i : Int) < (↑n : Int),
      xs[i * (3 : Nat) + (0 : Nat)]? = some (Value.int IntKind.i64 (intAt xs (i * (3 : Nat) + (0 : Nat)))),
      rg IntKind.i64 (adI last (1 : Int)),
      (!(decide (intAt xs (i * (3 : Nat) + (0 : Nat)) ≥ adI last (1 : Int)) &&
            decide (intAt xs (i * (3 : Nat) + (0 : Nat)) ≤ (1073741824 : Int)))) =
        true,
      true = true, true = true, true = true]) := by kernel_rfl
theorem rl_bad2 (inr : Bool) (xs : List Value) (n c i : Nat) (last : Int) : prjZ [0, 2, 3, 4] (codeZ (lgV noL) Try.prog (runZ (lgV noL) Try.prog 5) 29 inr 100000 (rlB Try.prog) (SL 62 (rlS n c i last)) [(0, ⟨.old, xs⟩)] 1 [true, false, true, true, true]) =
Res.ok
  ((Xt.ret, (62 : Nat),
      [((0 : Nat), Value.slice (some (Addr.mk (0 : Nat) (0 : Nat) none)) n c), ((2 : Nat), Value.bool false),
        ((3 : Nat), Value.int IntKind.i64 last), ((4 : Nat), Value.int IntKind.i64 (↑i : Int))],
      [((0 : Nat), Rw.mk Kd.old xs)], (1 : Nat), [], []),
    [],
    [decide ((↑i : Int) < (↑n : Int)) = true, (0 : Int) ≤ (↑i : Int) ∧ (↑i : Int) < (↑n : Int),
      xs[i * (3 : Nat) + (0 : Nat)]? = some (Value.int IntKind.i64 (intAt xs (i * (3 : Nat) + (0 : Nat)))),
      rg IntKind.i64 (adI last (1 : Int)),
      (!(decide (intAt xs (i * (3 : Nat) + (0 : Nat)) ≥ adI last (1 : Int)) &&
            decide (intAt xs (i * (3 : Nat) + (0 : Nat)) ≤ (1073741824 : Int)))) =
        false,
      (0 : Int) ≤ (↑i : Int) ∧ (↑i : Int) < (↑n : Int),
      xs[i * (3 : Nat) + (1 : Nat)]? = some (Value.int IntKind.i64 (intAt xs (i * (3 : Nat) + (1 : Nat)))),
      (bif false then true
        else
          !(decide (intAt xs (i * (3 : Nat) + (1 : Nat)) ≥ (0 : Int)) &&
              decide (intAt xs (i * (3 : Nat) + (1 : Nat)) ≤ (1073741824 : Int)))) =
        true,
      true = true, true = true]) := by kernel_rfl
theorem rl_bad3 (inr : Bool) (xs : List Value) (n c i : Nat) (last : Int) : prjZ [0, 2, 3, 4] (codeZ (lgV noL) Try.prog (runZ (lgV noL) Try.prog 5) 29 inr 100000 (rlB Try.prog) (SL 62 (rlS n c i last)) [(0, ⟨.old, xs⟩)] 1 [true, false, false, true, true]) =
Res.ok
  ((Xt.ret, (62 : Nat),
      [((0 : Nat), Value.slice (some (Addr.mk (0 : Nat) (0 : Nat) none)) n c), ((2 : Nat), Value.bool false),
        ((3 : Nat), Value.int IntKind.i64 last), ((4 : Nat), Value.int IntKind.i64 (↑i : Int))],
      [((0 : Nat), Rw.mk Kd.old xs)], (1 : Nat), [], []),
    [],
    [decide ((↑i : Int) < (↑n : Int)) = true, (0 : Int) ≤ (↑i : Int) ∧ (↑i : Int) < (↑n : Int),
      xs[i * (3 : Nat) + (0 : Nat)]? = some (Value.int IntKind.i64 (intAt xs (i * (3 : Nat) + (0 : Nat)))),
      rg IntKind.i64 (adI last (1 : Int)),
      (!(decide (intAt xs (i * (3 : Nat) + (0 : Nat)) ≥ adI last (1 : Int)) &&
            decide (intAt xs (i * (3 : Nat) + (0 : Nat)) ≤ (1073741824 : Int)))) =
        false,
      (0 : Int) ≤ (↑i : Int) ∧ (↑i : Int) < (↑n : Int),
      xs[i * (3 : Nat) + (1 : Nat)]? = some (Value.int IntKind.i64 (intAt xs (i * (3 : Nat) + (1 : Nat)))),
      (bif false then true
        else
          !(decide (intAt xs (i * (3 : Nat) + (1 : Nat)) ≥ (0 : Int)) &&
              decide (intAt xs (i * (3 : Nat) + (1 : Nat)) ≤ (1073741824 : Int)))) =
        false,
      (0 : Int) ≤ (↑i : Int) ∧ (↑i : Int) < (↑n : Int),
      xs[i * (3 : Nat) + (2 : Nat)]? = some (Value.int IntKind.i64 (intAt xs (i * (3 : Nat) + (2 : Nat)))),
      (bif false then true
        else
          !(decide (intAt xs (i * (3 : Nat) + (2 : Nat)) ≥ (1 : Int)) &&
              decide (intAt xs (i * (3 : Nat) + (2 : Nat)) ≤ (4 : Int)))) =
        true,
      true = true]) := by kernel_rfl
theorem rl_bad4 (inr : Bool) (xs : List Value) (n c i : Nat) (last : Int) : prjZ [0, 2, 3, 4] (codeZ (lgV noL) Try.prog (runZ (lgV noL) Try.prog 5) 29 inr 100000 (rlB Try.prog) (SL 62 (rlS n c i last)) [(0, ⟨.old, xs⟩)] 1 [true, false, false, false, true, true]) =
Res.ok
  ((Xt.ret, (62 : Nat),
      [((0 : Nat), Value.slice (some (Addr.mk (0 : Nat) (0 : Nat) none)) n c), ((2 : Nat), Value.bool false),
        ((3 : Nat), Value.int IntKind.i64 last), ((4 : Nat), Value.int IntKind.i64 (↑i : Int))],
      [((0 : Nat), Rw.mk Kd.old xs)], (1 : Nat), [], []),
    [],
    [decide ((↑i : Int) < (↑n : Int)) = true, (0 : Int) ≤ (↑i : Int) ∧ (↑i : Int) < (↑n : Int),
      xs[i * (3 : Nat) + (0 : Nat)]? = some (Value.int IntKind.i64 (intAt xs (i * (3 : Nat) + (0 : Nat)))),
      rg IntKind.i64 (adI last (1 : Int)),
      (!(decide (intAt xs (i * (3 : Nat) + (0 : Nat)) ≥ adI last (1 : Int)) &&
            decide (intAt xs (i * (3 : Nat) + (0 : Nat)) ≤ (1073741824 : Int)))) =
        false,
      (0 : Int) ≤ (↑i : Int) ∧ (↑i : Int) < (↑n : Int),
      xs[i * (3 : Nat) + (1 : Nat)]? = some (Value.int IntKind.i64 (intAt xs (i * (3 : Nat) + (1 : Nat)))),
      (bif false then true
        else
          !(decide (intAt xs (i * (3 : Nat) + (1 : Nat)) ≥ (0 : Int)) &&
              decide (intAt xs (i * (3 : Nat) + (1 : Nat)) ≤ (1073741824 : Int)))) =
        false,
      (0 : Int) ≤ (↑i : Int) ∧ (↑i : Int) < (↑n : Int),
      xs[i * (3 : Nat) + (2 : Nat)]? = some (Value.int IntKind.i64 (intAt xs (i * (3 : Nat) + (2 : Nat)))),
      (bif false then true
        else
          !(decide (intAt xs (i * (3 : Nat) + (2 : Nat)) ≥ (1 : Int)) &&
              decide (intAt xs (i * (3 : Nat) + (2 : Nat)) ≤ (4 : Int)))) =
        false,
      (0 : Int) ≤ (↑i : Int) ∧ (↑i : Int) < (↑n : Int),
      xs[i * (3 : Nat) + (2 : Nat)]? = some (Value.int IntKind.i64 (intAt xs (i * (3 : Nat) + (2 : Nat)))),
      (intAt xs (i * (3 : Nat) + (2 : Nat)) == (3 : Int)) = true, (0 : Int) ≤ (↑i : Int) ∧ (↑i : Int) < (↑n : Int),
      xs[i * (3 : Nat) + (1 : Nat)]? = some (Value.int IntKind.i64 (intAt xs (i * (3 : Nat) + (1 : Nat)))),
      (bif false then true else bif true then intAt xs (i * (3 : Nat) + (1 : Nat)) != (0 : Int) else false) = true]) := by kernel_rfl
theorem rl_done (inr : Bool) (xs : List Value) (n c i : Nat) (last : Int) : prjZ [0, 2, 3, 4] (codeZ (lgV noL) Try.prog (runZ (lgV noL) Try.prog 5) 29 inr 100000 (rlB Try.prog) (SL 62 (rlS n c i last)) [(0, ⟨.old, xs⟩)] 1 [false]) =
Res.ok
  ((Xt.exit (0 : Nat), (62 : Nat),
      [((0 : Nat), Value.slice (some (Addr.mk (0 : Nat) (0 : Nat) none)) n c), ((2 : Nat), Value.bool false),
        ((3 : Nat), Value.int IntKind.i64 last), ((4 : Nat), Value.int IntKind.i64 (↑i : Int))],
      [((0 : Nat), Rw.mk Kd.old xs)], (1 : Nat), [], []),
    [], [decide ((↑i : Int) < (↑n : Int)) = false]) := by kernel_rfl

def logL (xs : List Value) : Nat → Nat → Int → Bool
  | 0, _, _ => true
  | k + 1, i, last => bif (decide (intAt xs (i * 3) ≥ last + 1) && decide (intAt xs (i * 3) ≤ 1073741824)) && (decide (intAt xs (i * 3 + 1) ≥ 0) && decide (intAt xs (i * 3 + 1) ≤ 1073741824)) &&
      (decide (intAt xs (i * 3 + 2) ≥ 1) && decide (intAt xs (i * 3 + 2) ≤ 4)) && !((intAt xs (i * 3 + 2) == 3) && (intAt xs (i * 3 + 1) != 0)) then logL xs k (i + 1) (intAt xs (i * 3)) else false
def logSpec (S : Nat → Nat → Nat → Int → List (Nat × Value)) : LSpec := lspec (fun live h => match live, h with | (_, .slice _ n c) :: _, [(_, r)] => some (n, c, r.cs) | _, _ => none) (fun a => (S a.1 a.2.1 0 0, [(0, ⟨.old, a.2.2⟩)], 1))
  (fun a tp => match tp with
    | r :: tp' => some ((bif r then .exit 0 else .ret, [(0, .slice (some ⟨0, 0, none⟩) a.1 a.2.1), (2, .bool false)], [(0, ⟨.old, a.2.2⟩)], 2, []), tp', [logL a.2.2 a.1 0 0 = r, Ints .i64 a.2.2, a.2.2.length = a.1 * 3, a.1 ≤ a.2.1 ∧ a.2.1 ≤ 9223372036854775807])
    | [] => none)
def gLog : GSpec := fun av tp => match av with
  | [a] => match bytsA a with
    | some xs => some (⟨fun _ => .bool (logL xs (avLen a) 0 0 && decide (avLen a ≤ 64)), []⟩, tp, [Ints .i64 xs])
    | none => none
  | _ => none
def lgL (P : Program) : LFun := orL (mkL 27 3 46 [0, 2, 3, 6, 7, 8] (lgB P) (logSpec lgS)) (mkL 29 3 62 [0, 2, 3, 4] (rlB P) (logSpec rlS))
theorem lg_t (xs : List Value) (n c : Nat) : runZ (lgV (lgL Try.prog)) Try.prog 5 27 [.slice (some ⟨0, 0, none⟩) n c] [(0, ⟨.old, xs⟩)] 1 [true] =
Res.ok
  ((Value.bool (decide ((↑n : Int) ≤ (64 : Int))), [((0 : Nat), Rw.mk Kd.old xs)], (2 : Nat), []), [],
    [lgB Try.prog = lgB Try.prog,
      [((0 : Nat), Value.slice (some (Addr.mk (0 : Nat) (0 : Nat) none)) n c), ((2 : Nat), Value.bool false),
          ((3 : Nat), Value.int IntKind.i64 (0 : Int)),
          ((6 : Nat), Value.slice (some (Addr.mk (0 : Nat) (0 : Nat) none)) n c),
          ((7 : Nat), Value.int IntKind.i64 (↑n : Int)), ((8 : Nat), Value.int IntKind.i64 (0 : Int))] =
        lgS n c (0 : Nat) (0 : Int),
      [((0 : Nat), Rw.mk Kd.old xs)] = [((0 : Nat), Rw.mk Kd.old xs)], (1 : Nat) = (1 : Nat),
      logL xs n (0 : Nat) (0 : Int) = true, Ints IntKind.i64 xs, List.length xs = n * (3 : Nat),
      n ≤ c ∧ c ≤ (9223372036854775807 : Nat)]) := by kernel_rfl
theorem lg_f (xs : List Value) (n c : Nat) : runZ (lgV (lgL Try.prog)) Try.prog 5 27 [.slice (some ⟨0, 0, none⟩) n c] [(0, ⟨.old, xs⟩)] 1 [false] =
Res.ok
  ((Value.bool false, [((0 : Nat), Rw.mk Kd.old xs)], (2 : Nat), []), [],
    [lgB Try.prog = lgB Try.prog,
      [((0 : Nat), Value.slice (some (Addr.mk (0 : Nat) (0 : Nat) none)) n c), ((2 : Nat), Value.bool false),
          ((3 : Nat), Value.int IntKind.i64 (0 : Int)),
          ((6 : Nat), Value.slice (some (Addr.mk (0 : Nat) (0 : Nat) none)) n c),
          ((7 : Nat), Value.int IntKind.i64 (↑n : Int)), ((8 : Nat), Value.int IntKind.i64 (0 : Int))] =
        lgS n c (0 : Nat) (0 : Int),
      [((0 : Nat), Rw.mk Kd.old xs)] = [((0 : Nat), Rw.mk Kd.old xs)], (1 : Nat) = (1 : Nat),
      logL xs n (0 : Nat) (0 : Int) = false, Ints IntKind.i64 xs, List.length xs = n * (3 : Nat),
      n ≤ c ∧ c ≤ (9223372036854775807 : Nat)]) := by kernel_rfl
theorem lg_n  : runZ (lgV noL) Try.prog 5 27 [.slice none 0 0] [] 1 [false] =
Res.ok ((Value.bool true, [], (1 : Nat), []), [], [false = false]) := by kernel_rfl
theorem rl_t (xs : List Value) (n c : Nat) : runZ (lgV (lgL Try.prog)) Try.prog 5 29 [.slice (some ⟨0, 0, none⟩) n c] [(0, ⟨.old, xs⟩)] 1 [true] =
Res.ok
  ((Value.bool (decide ((↑n : Int) ≤ (64 : Int))), [((0 : Nat), Rw.mk Kd.old xs)], (2 : Nat), []), [],
    [rlB Try.prog = rlB Try.prog,
      [((0 : Nat), Value.slice (some (Addr.mk (0 : Nat) (0 : Nat) none)) n c), ((2 : Nat), Value.bool false),
          ((3 : Nat), Value.int IntKind.i64 (0 : Int)), ((4 : Nat), Value.int IntKind.i64 (0 : Int))] =
        rlS n c (0 : Nat) (0 : Int),
      [((0 : Nat), Rw.mk Kd.old xs)] = [((0 : Nat), Rw.mk Kd.old xs)], (1 : Nat) = (1 : Nat),
      logL xs n (0 : Nat) (0 : Int) = true, Ints IntKind.i64 xs, List.length xs = n * (3 : Nat),
      n ≤ c ∧ c ≤ (9223372036854775807 : Nat)]) := by kernel_rfl
theorem rl_f (xs : List Value) (n c : Nat) : runZ (lgV (lgL Try.prog)) Try.prog 5 29 [.slice (some ⟨0, 0, none⟩) n c] [(0, ⟨.old, xs⟩)] 1 [false] =
Res.ok
  ((Value.bool false, [((0 : Nat), Rw.mk Kd.old xs)], (2 : Nat), []), [],
    [rlB Try.prog = rlB Try.prog,
      [((0 : Nat), Value.slice (some (Addr.mk (0 : Nat) (0 : Nat) none)) n c), ((2 : Nat), Value.bool false),
          ((3 : Nat), Value.int IntKind.i64 (0 : Int)), ((4 : Nat), Value.int IntKind.i64 (0 : Int))] =
        rlS n c (0 : Nat) (0 : Int),
      [((0 : Nat), Rw.mk Kd.old xs)] = [((0 : Nat), Rw.mk Kd.old xs)], (1 : Nat) = (1 : Nat),
      logL xs n (0 : Nat) (0 : Int) = false, Ints IntKind.i64 xs, List.length xs = n * (3 : Nat),
      n ≤ c ∧ c ≤ (9223372036854775807 : Nat)]) := by kernel_rfl
theorem rl_n  : runZ (lgV noL) Try.prog 5 29 [.slice none 0 0] [] 1 [false] =
Res.ok ((Value.bool true, [], (1 : Nat), []), [], [false = false]) := by kernel_rfl

/-! ### numbers -/
theorem or_add {x y : Nat} (m K : Nat) (hK : 2 ^ m = K) (hx : x < K) (hs : x + y * K < 4294967296) : IntKind.u32.wrap (((BitVec.ofInt 32 (x : Int) ||| BitVec.ofInt 32 ((y : Int) * (K : Int))).toNat : Nat) : Int) = (x : Int) + (y : Int) * (K : Int) := by
  have e : ((y : Int) * (K : Int)) = ((y * K : Nat) : Int) := by push_cast; rfl
  have h1 : x < 2 ^ 32 := by omega
  have h2 : y * K < 2 ^ 32 := by omega
  rw [e]
  simp only [BitVec.toNat_or, BitVec.ofInt_natCast, BitVec.toNat_ofNat, Nat.mod_eq_of_lt h1, Nat.mod_eq_of_lt h2]
  rw [Nat.or_comm, Nat.mul_comm y K, ← hK, ← Nat.two_pow_add_eq_or_of_lt (by omega), IntKind.wrap_u32, hK, Nat.mul_comm]
  have : (x : Int) + (y * K : Nat) < 4294967296 := by omega
  omega
theorem sl8 (a : Int) : slI a 8 = a * 256 := by rw [slI_eq]; rfl
theorem sl16 (a : Int) : slI a 16 = a * 65536 := by rw [slI_eq]; rfl
theorem sl24 (a : Int) : slI a 24 = a * 16777216 := by rw [slI_eq]; rfl
theorem num_ok : GOk Try.prog 26 [.s 1] gNum ∧ GOk Try.prog 28 [.s 1] gNum := by
  have hX : XOkZ nmV Try.prog := noXz_ok rfl
  have hT : TOkZ nmV Try.prog := noTz_okV rfl
  have hL : LOkZ nmV Try.prog := noL_okV rfl
  refine ⟨?_, ?_⟩ <;> intro av tp gr tp' ob hG ho hP caps hcap <;> (
    obtain ⟨a, rfl, pa⟩ := avps1 hP
    obtain ⟨c, rfl⟩ := caps1 hcap
    unfold gNum at hG
    split at hG
    case h_2 => cases hG
    rename_i xs n e
    simp only [List.cons.injEq, and_true] at e
    subst e
    simp only [Option.some.injEq, Prod.mk.injEq] at hG
    obtain ⟨rfl, rfl, rfl⟩ := hG
    obtain ⟨hb, hn, _⟩ := ho
    have hl : xs.length = n := by have := pa.2; omega
    obtain ⟨g0, l0, u0⟩ := hb.get (i := 0) (by omega)
    obtain ⟨g1, l1, u1⟩ := hb.get (i := 1) (by omega)
    obtain ⟨g2, l2, u2⟩ := hb.get (i := 2) (by omega)
    obtain ⟨g3, l3, u3⟩ := hb.get (i := 3) (by omega)
    obtain ⟨x0, e0⟩ := Int.eq_ofNat_of_zero_le l0
    obtain ⟨x1, e1⟩ := Int.eq_ofNat_of_zero_le l1
    obtain ⟨x2, e2⟩ := Int.eq_ofNat_of_zero_le l2
    obtain ⟨x3, e3⟩ := Int.eq_ofNat_of_zero_le l3
    have o1 := or_add (x := x0) (y := x1) 8 256 (by decide) (by omega) (by omega)
    have o2 := or_add (x := x0 + x1 * 256) (y := x2) 16 65536 (by decide) (by omega) (by omega)
    have o3 := or_add (x := x0 + x1 * 256 + x2 * 65536) (y := x3) 24 16777216 (by decide) (by omega) (by omega)
    rw [show ((x0 + x1 * 256 : Nat) : Int) = (x0 : Int) + (x1 : Int) * 256 by omega] at o2
    rw [show ((x0 + x1 * 256 + x2 * 65536 : Nat) : Int) = (x0 : Int) + (x1 : Int) * 256 + (x2 : Int) * 65536 by omega] at o3)
  · refine ⟨_, _, _, _, fun n => n, run_tri hX hT hL (num_i xs n c) ?_ rfl, ?_⟩
    · repeat' (first | exact alls_nil | refine alls_cons ?_ ?_)
      all_goals first
        | exact g0
        | exact g1
        | exact g2
        | exact g3
        | (rw [adI_eq, sl8, e0, e1]; exact o1)
        | (rw [adI_eq, adI_eq, sl8, sl16, e0, e1, e2]; exact o2)
        | (rw [adI_eq, adI_eq, adI_eq, sl8, sl16, sl24, e0, e1, e2, e3]; exact o3)
        | ((try simp only [rg, adI_eq, sl8, sl16, sl24, e0, e1, e2, e3]); omega)
    · have e : adI (adI (adI (intAt xs 0) (slI (intAt xs 1) 8)) (slI (intAt xs 2) 16)) (slI (intAt xs 3) 24) = n4 xs := by
        simp only [adI_eq, sl8, sl16, sl24, n4]; omega
      rw [e]
      exact GrIs.flat fun σ => rfl
  · refine ⟨_, _, _, _, fun n => n, run_tri hX hT hL (num_r xs n c) ?_ rfl, ?_⟩
    · simp only [Alls, rg, adI_eq, mlI_eq, e0, e1, e2, e3] at g0 g1 g2 g3 ⊢
      repeat' (first | with_reducible exact trivial | with_reducible apply And.intro)
      all_goals first | with_reducible assumption | omega | with_reducible rfl | (skip)
    · have e : adI (adI (adI (intAt xs 0) (mlI 256 (intAt xs 1))) (mlI 65536 (intAt xs 2))) (mlI 16777216 (intAt xs 3)) = n4 xs := by
        simp only [adI_eq, mlI_eq, n4]
      rw [e]
      exact GrIs.flat fun σ => rfl
theorem wi_ok : GOk Try.prog 32 [.f, .f, .f] gWi ∧ GOk Try.prog 39 [.f, .f, .f] gWi := by
  have hX : XOkZ wiV Try.prog := noXz_ok rfl
  have hT : TOkZ wiV Try.prog := noTz_okV rfl
  have hL : LOkZ wiV Try.prog := noL_okV rfl
  refine ⟨?_, ?_⟩ <;> intro av tp gr tp' ob hG ho hP caps hcap <;> (
    obtain ⟨x, y, z, rfl, pa, pb, pc⟩ := avps3 hP
    obtain ⟨c1, c2, c3, rfl⟩ := caps3 hcap
    unfold gWi at hG
    split at hG
    case h_2 => cases hG
    rename_i a b c e
    simp only [List.cons.injEq, and_true] at e
    obtain ⟨rfl, rfl, rfl⟩ := e
    simp only [Option.some.injEq, Prod.mk.injEq] at hG
    obtain ⟨rfl, rfl, rfl⟩ := hG
    cases h : decide (a ≥ b))
  · exact ⟨_, _, _, _, fun n => n, run_tri hX hT hL (wi_f a b c) ⟨h, trivial⟩ rfl, GrIs.flat fun σ => rfl⟩
  · exact ⟨_, _, _, _, fun n => n, run_tri hX hT hL (wi_t a b c) ⟨h, trivial⟩ rfl, GrIs.flat fun σ => rfl⟩
  · exact ⟨_, _, _, _, fun n => n, run_tri hX hT hL (fr_f a b c) ⟨h, trivial⟩ rfl, GrIs.flat fun σ => rfl⟩
  · exact ⟨_, _, _, _, fun n => n, run_tri hX hT hL (fr_t a b c) ⟨h, trivial⟩ rfl, GrIs.flat fun σ => rfl⟩
theorem msgT_one : TOneZ Try.prog msgT := orTz_ok (mkT_one wi_ok.1) (orTz_ok (mkT_one wi_ok.2) (orTz_ok (mkT_one num_ok.1) (orTz_ok (mkT_one num_ok.2) (orTz_ok kitT_one over_one))))

/-! ### logs -/
theorem Ints.take3 {k : IntKind} {xs : List Value} (h : Ints k xs) {o : Nat} (ho : o + 3 ≤ xs.length) : (xs.drop o).take 3 = [.int k (intAt xs o), .int k (intAt xs (o + 1)), .int k (intAt xs (o + 1 + 1))] := by
  rw [drop_get (h.get (i := o) (by omega)), drop_get (h.get (i := o + 1) (by omega)), drop_get (h.get (i := o + 1 + 1) (by omega))]
  rfl
theorem lg_loop {inr : Bool} {h0 : Hp} {xs : List Value} {n c : Nat} (hxs : Ints .i64 xs) (hl : xs.length = n * 3) (hc : n ≤ c ∧ c ≤ 9223372036854775807) : ∀ (k i : Nat) (last : Int), i + k = n → 0 ≤ last → last ≤ 1073741824 →
    LRuns inr Try.prog (lgB Try.prog) 1 2 h0 46 (lgS n c i last) [(0, ⟨.old, xs⟩)] 1
      (bif logL xs k i last then (.exit 0, [(0, .slice (some ⟨0, 0, none⟩) n c), (2, .bool false)], [(0, ⟨.old, xs⟩)]) else (.ret, [(0, .slice (some ⟨0, 0, none⟩) n c), (2, .bool false)], [(0, ⟨.old, xs⟩)]))
  | 0, i, last, hi, h1, h2 => by
      have hX : XOkZ (lgV noL) Try.prog := noXz_ok rfl
      have hT : TOkZ (lgV noL) Try.prog := T_okV rfl msgT_one
      have hL : LOkZ (lgV noL) Try.prog := noL_okV rfl
      obtain rfl : i = n := by omega
      refine LRuns.exit (code_runs hX hL (runZ_ok hX hT hL mixed 5) mixed (lg_done inr xs i c i last) ?_) (by intro e; cases e) rfl (Nat.le_refl _) (by omega) (fun n => n) ?_ ?_ rfl
      · simp [Alls]
      · exact ⟨rfl, rb_slc rfl (by unfold capBig; omega), rfl, rfl, trivial⟩
      · exact ⟨⟨0, _, rfl, rfl, rfl, rfl, .inl (hxs.fl _)⟩, trivial⟩
  | k + 1, i, last, hi, h1, h2 => by
      have hX : XOkZ (lgV noL) Try.prog := noXz_ok rfl
      have hT : TOkZ (lgV noL) Try.prog := T_okV rfl msgT_one
      have hL : LOkZ (lgV noL) Try.prog := noL_okV rfl
      have g3 := hxs.take3 (o := i * 3) (by omega)
      have ga := hxs.get (i := i * 3) (by omega)
      have gb := hxs.get (i := i * 3 + 1) (by omega)
      have gc := hxs.get (i := i * 3 + 2) (by omega)
      have hrow : RbL 1 2 (fun n => n) h0 [(0, ⟨.old, xs⟩)] [(0, ⟨.old, xs⟩)] := ⟨⟨0, _, rfl, rfl, rfl, rfl, .inl (hxs.fl _)⟩, trivial⟩
      have hr2 : ∀ N l, lk l 0 = some ⟨.old, xs⟩ → 1 ≤ N → N ≤ 2 → RbL 1 N (fun n => n) h0 l [(0, ⟨.old, xs⟩)] := fun N l e a b => ⟨⟨0, _, rfl, e, rfl, rfl, .inl (hxs.fl _)⟩, trivial⟩
      cases c1 : (decide (intAt xs (i * 3) ≥ last + 1) && decide (intAt xs (i * 3) ≤ 1073741824))
      · rw [show logL xs (k + 1) i last = false by simp only [logL, c1]; rfl]
        refine LRuns.exit (code_runs hX hL (runZ_ok hX hT hL mixed 5) mixed (lg_bad1 inr xs n c i last) ?_) (by intro e; cases e) rfl (Nat.le_refl _) (by omega) (fun n => n) ?_ (hr2 _ _ rfl (by omega) (by omega)) rfl
        · simp only [Alls, rg, adI_eq, Nat.add_zero, c1, decide_eq_true_eq]
          repeat' (first | with_reducible exact trivial | with_reducible apply And.intro)
          all_goals first | with_reducible assumption | omega | with_reducible rfl | (first | exact g3 | exact ga | exact gb | exact gc | exact c1 | rfl)
        · exact ⟨rfl, rb_slc rfl (by unfold capBig; omega), rfl, rfl, trivial⟩
      cases c2 : (decide (intAt xs (i * 3 + 1) ≥ 0) && decide (intAt xs (i * 3 + 1) ≤ 1073741824))
      · rw [show logL xs (k + 1) i last = false by simp only [logL, c1, c2]; rfl]
        refine LRuns.exit (code_runs hX hL (runZ_ok hX hT hL mixed 5) mixed (lg_bad2 inr xs n c i last) ?_) (by intro e; cases e) rfl (Nat.le_refl _) (by omega) (fun n => n) ?_ (hr2 _ _ rfl (by omega) (by omega)) rfl
        · simp only [Alls, rg, adI_eq, Nat.add_zero, c1, c2, decide_eq_true_eq]
          repeat' (first | with_reducible exact trivial | with_reducible apply And.intro)
          all_goals first | with_reducible assumption | omega | with_reducible rfl | (first | exact g3 | exact ga | exact gb | exact gc | exact c1 | rfl)
        · exact ⟨rfl, rb_slc rfl (by unfold capBig; omega), rfl, rfl, trivial⟩
      cases c3 : (decide (intAt xs (i * 3 + 2) ≥ 1) && decide (intAt xs (i * 3 + 2) ≤ 4))
      · rw [show logL xs (k + 1) i last = false by simp only [logL, c1, c2, c3]; rfl]
        refine LRuns.exit (code_runs hX hL (runZ_ok hX hT hL mixed 5) mixed (lg_bad3 inr xs n c i last) ?_) (by intro e; cases e) rfl (Nat.le_refl _) (by omega) (fun n => n) ?_ (hr2 _ _ rfl (by omega) (by omega)) rfl
        · simp only [Alls, rg, adI_eq, Nat.add_zero, c1, c2, c3, decide_eq_true_eq]
          repeat' (first | with_reducible exact trivial | with_reducible apply And.intro)
          all_goals first | with_reducible assumption | omega | with_reducible rfl | (first | exact g3 | exact ga | exact gb | exact gc | exact c1 | rfl)
        · exact ⟨rfl, rb_slc rfl (by unfold capBig; omega), rfl, rfl, trivial⟩
      have hop : 0 ≤ intAt xs (i * 3) ∧ intAt xs (i * 3) ≤ 1073741824 := by
        simp only [Bool.and_eq_true, decide_eq_true_eq] at c1; omega
      cases c4 : (intAt xs (i * 3 + 2) == 3)
      · rw [show logL xs (k + 1) i last = logL xs k (i + 1) (intAt xs (i * 3)) by simp only [logL, c1, c2, c3, c4]; rfl]
        refine LRuns.step (l2 := lgS n c (i + 1) (intAt xs (i * 3))) (code_runs hX hL (runZ_ok hX hT hL mixed 5) mixed (lg_ok1 inr xs n c i last) ?_) rfl (Nat.le_refl _) (by omega) (fun n => n) ?_ (hr2 _ _ rfl (by omega) (by omega)) rfl (lg_loop hxs hl hc k (i + 1) _ (by omega) hop.1 hop.2)
        · simp only [Alls, rg, adI_eq, Nat.add_zero, c1, c2, c3, c4, decide_eq_true_eq]
          repeat' (first | with_reducible exact trivial | with_reducible apply And.intro)
          all_goals first | with_reducible assumption | omega | with_reducible rfl | (first | exact g3 | exact ga | exact gb | exact gc | exact c1 | rfl)
        · exact ⟨rfl, rb_slc rfl (by unfold capBig; omega), rfl, rfl, rfl, rfl, rfl, rb_slc rfl (by unfold capBig; omega), rfl, rfl, rfl, rfl, trivial⟩
      cases c5 : (intAt xs (i * 3 + 1) != 0)
      · rw [show logL xs (k + 1) i last = logL xs k (i + 1) (intAt xs (i * 3)) by simp only [logL, c1, c2, c3, c4, c5]; rfl]
        refine LRuns.step (l2 := lgS n c (i + 1) (intAt xs (i * 3))) (code_runs hX hL (runZ_ok hX hT hL mixed 5) mixed (lg_ok2 inr xs n c i last) ?_) rfl (Nat.le_refl _) (by omega) (fun n => n) ?_ (hr2 _ _ rfl (by omega) (by omega)) rfl (lg_loop hxs hl hc k (i + 1) _ (by omega) hop.1 hop.2)
        · simp only [Alls, rg, adI_eq, Nat.add_zero, c1, c2, c3, c4, c5, decide_eq_true_eq]
          repeat' (first | with_reducible exact trivial | with_reducible apply And.intro)
          all_goals first | with_reducible assumption | omega | with_reducible rfl | (first | exact g3 | exact ga | exact gb | exact gc | exact c1 | rfl)
        · exact ⟨rfl, rb_slc rfl (by unfold capBig; omega), rfl, rfl, rfl, rfl, rfl, rb_slc rfl (by unfold capBig; omega), rfl, rfl, rfl, rfl, trivial⟩
      · rw [show logL xs (k + 1) i last = false by simp only [logL, c1, c2, c3, c4, c5]; rfl]
        refine LRuns.exit (code_runs hX hL (runZ_ok hX hT hL mixed 5) mixed (lg_bad4 inr xs n c i last) ?_) (by intro e; cases e) rfl (Nat.le_refl _) (by omega) (fun n => n) ?_ (hr2 _ _ rfl (by omega) (by omega)) rfl
        · simp only [Alls, rg, adI_eq, Nat.add_zero, c1, c2, c3, c4, c5, decide_eq_true_eq]
          repeat' (first | with_reducible exact trivial | with_reducible apply And.intro)
          all_goals first | with_reducible assumption | omega | with_reducible rfl | (first | exact g3 | exact ga | exact gb | exact gc | exact c1 | rfl)
        · exact ⟨rfl, rb_slc rfl (by unfold capBig; omega), rfl, rfl, trivial⟩
theorem rl_loop {inr : Bool} {h0 : Hp} {xs : List Value} {n c : Nat} (hxs : Ints .i64 xs) (hl : xs.length = n * 3) (hc : n ≤ c ∧ c ≤ 9223372036854775807) : ∀ (k i : Nat) (last : Int), i + k = n → 0 ≤ last → last ≤ 1073741824 →
    LRuns inr Try.prog (rlB Try.prog) 1 2 h0 62 (rlS n c i last) [(0, ⟨.old, xs⟩)] 1
      (bif logL xs k i last then (.exit 0, [(0, .slice (some ⟨0, 0, none⟩) n c), (2, .bool false)], [(0, ⟨.old, xs⟩)]) else (.ret, [(0, .slice (some ⟨0, 0, none⟩) n c), (2, .bool false)], [(0, ⟨.old, xs⟩)]))
  | 0, i, last, hi, h1, h2 => by
      have hX : XOkZ (lgV noL) Try.prog := noXz_ok rfl
      have hT : TOkZ (lgV noL) Try.prog := T_okV rfl msgT_one
      have hL : LOkZ (lgV noL) Try.prog := noL_okV rfl
      obtain rfl : i = n := by omega
      refine LRuns.exit (code_runs hX hL (runZ_ok hX hT hL mixed 5) mixed (rl_done inr xs i c i last) ?_) (by intro e; cases e) rfl (Nat.le_refl _) (by omega) (fun n => n) ?_ ?_ rfl
      · simp [Alls]
      · exact ⟨rfl, rb_slc rfl (by unfold capBig; omega), rfl, rfl, trivial⟩
      · exact ⟨⟨0, _, rfl, rfl, rfl, rfl, .inl (hxs.fl _)⟩, trivial⟩
  | k + 1, i, last, hi, h1, h2 => by
      have hX : XOkZ (lgV noL) Try.prog := noXz_ok rfl
      have hT : TOkZ (lgV noL) Try.prog := T_okV rfl msgT_one
      have hL : LOkZ (lgV noL) Try.prog := noL_okV rfl
      have g3 := hxs.take3 (o := i * 3) (by omega)
      have ga := hxs.get (i := i * 3) (by omega)
      have gb := hxs.get (i := i * 3 + 1) (by omega)
      have gc := hxs.get (i := i * 3 + 2) (by omega)
      have hrow : RbL 1 2 (fun n => n) h0 [(0, ⟨.old, xs⟩)] [(0, ⟨.old, xs⟩)] := ⟨⟨0, _, rfl, rfl, rfl, rfl, .inl (hxs.fl _)⟩, trivial⟩
      have hr2 : ∀ N l, lk l 0 = some ⟨.old, xs⟩ → 1 ≤ N → N ≤ 2 → RbL 1 N (fun n => n) h0 l [(0, ⟨.old, xs⟩)] := fun N l e a b => ⟨⟨0, _, rfl, e, rfl, rfl, .inl (hxs.fl _)⟩, trivial⟩
      cases c1 : (decide (intAt xs (i * 3) ≥ last + 1) && decide (intAt xs (i * 3) ≤ 1073741824))
      · rw [show logL xs (k + 1) i last = false by simp only [logL, c1]; rfl]
        refine LRuns.exit (code_runs hX hL (runZ_ok hX hT hL mixed 5) mixed (rl_bad1 inr xs n c i last) ?_) (by intro e; cases e) rfl (Nat.le_refl _) (by omega) (fun n => n) ?_ (hr2 _ _ rfl (by omega) (by omega)) rfl
        · simp only [Alls, rg, adI_eq, Nat.add_zero, c1, decide_eq_true_eq]
          repeat' (first | with_reducible exact trivial | with_reducible apply And.intro)
          all_goals first | with_reducible assumption | omega | with_reducible rfl | (first | exact g3 | exact ga | exact gb | exact gc | exact c1 | rfl)
        · exact ⟨rfl, rb_slc rfl (by unfold capBig; omega), rfl, rfl, trivial⟩
      cases c2 : (decide (intAt xs (i * 3 + 1) ≥ 0) && decide (intAt xs (i * 3 + 1) ≤ 1073741824))
      · rw [show logL xs (k + 1) i last = false by simp only [logL, c1, c2]; rfl]
        refine LRuns.exit (code_runs hX hL (runZ_ok hX hT hL mixed 5) mixed (rl_bad2 inr xs n c i last) ?_) (by intro e; cases e) rfl (Nat.le_refl _) (by omega) (fun n => n) ?_ (hr2 _ _ rfl (by omega) (by omega)) rfl
        · simp only [Alls, rg, adI_eq, Nat.add_zero, c1, c2, decide_eq_true_eq]
          repeat' (first | with_reducible exact trivial | with_reducible apply And.intro)
          all_goals first | with_reducible assumption | omega | with_reducible rfl | (first | exact g3 | exact ga | exact gb | exact gc | exact c1 | rfl)
        · exact ⟨rfl, rb_slc rfl (by unfold capBig; omega), rfl, rfl, trivial⟩
      cases c3 : (decide (intAt xs (i * 3 + 2) ≥ 1) && decide (intAt xs (i * 3 + 2) ≤ 4))
      · rw [show logL xs (k + 1) i last = false by simp only [logL, c1, c2, c3]; rfl]
        refine LRuns.exit (code_runs hX hL (runZ_ok hX hT hL mixed 5) mixed (rl_bad3 inr xs n c i last) ?_) (by intro e; cases e) rfl (Nat.le_refl _) (by omega) (fun n => n) ?_ (hr2 _ _ rfl (by omega) (by omega)) rfl
        · simp only [Alls, rg, adI_eq, Nat.add_zero, c1, c2, c3, decide_eq_true_eq]
          repeat' (first | with_reducible exact trivial | with_reducible apply And.intro)
          all_goals first | with_reducible assumption | omega | with_reducible rfl | (first | exact g3 | exact ga | exact gb | exact gc | exact c1 | rfl)
        · exact ⟨rfl, rb_slc rfl (by unfold capBig; omega), rfl, rfl, trivial⟩
      have hop : 0 ≤ intAt xs (i * 3) ∧ intAt xs (i * 3) ≤ 1073741824 := by
        simp only [Bool.and_eq_true, decide_eq_true_eq] at c1; omega
      cases c4 : (intAt xs (i * 3 + 2) == 3)
      · rw [show logL xs (k + 1) i last = logL xs k (i + 1) (intAt xs (i * 3)) by simp only [logL, c1, c2, c3, c4]; rfl]
        refine LRuns.step (l2 := rlS n c (i + 1) (intAt xs (i * 3))) (code_runs hX hL (runZ_ok hX hT hL mixed 5) mixed (rl_ok1 inr xs n c i last) ?_) rfl (Nat.le_refl _) (by omega) (fun n => n) ?_ (hr2 _ _ rfl (by omega) (by omega)) rfl (rl_loop hxs hl hc k (i + 1) _ (by omega) hop.1 hop.2)
        · simp only [Alls, rg, adI_eq, Nat.add_zero, c1, c2, c3, c4, decide_eq_true_eq]
          repeat' (first | with_reducible exact trivial | with_reducible apply And.intro)
          all_goals first | with_reducible assumption | omega | with_reducible rfl | (first | exact g3 | exact ga | exact gb | exact gc | exact c1 | rfl)
        · exact ⟨rfl, rb_slc rfl (by unfold capBig; omega), rfl, rfl, rfl, rfl, rfl, rfl, trivial⟩
      cases c5 : (intAt xs (i * 3 + 1) != 0)
      · rw [show logL xs (k + 1) i last = logL xs k (i + 1) (intAt xs (i * 3)) by simp only [logL, c1, c2, c3, c4, c5]; rfl]
        refine LRuns.step (l2 := rlS n c (i + 1) (intAt xs (i * 3))) (code_runs hX hL (runZ_ok hX hT hL mixed 5) mixed (rl_ok2 inr xs n c i last) ?_) rfl (Nat.le_refl _) (by omega) (fun n => n) ?_ (hr2 _ _ rfl (by omega) (by omega)) rfl (rl_loop hxs hl hc k (i + 1) _ (by omega) hop.1 hop.2)
        · simp only [Alls, rg, adI_eq, Nat.add_zero, c1, c2, c3, c4, c5, decide_eq_true_eq]
          repeat' (first | with_reducible exact trivial | with_reducible apply And.intro)
          all_goals first | with_reducible assumption | omega | with_reducible rfl | (first | exact g3 | exact ga | exact gb | exact gc | exact c1 | rfl)
        · exact ⟨rfl, rb_slc rfl (by unfold capBig; omega), rfl, rfl, rfl, rfl, rfl, rfl, trivial⟩
      · rw [show logL xs (k + 1) i last = false by simp only [logL, c1, c2, c3, c4, c5]; rfl]
        refine LRuns.exit (code_runs hX hL (runZ_ok hX hT hL mixed 5) mixed (rl_bad4 inr xs n c i last) ?_) (by intro e; cases e) rfl (Nat.le_refl _) (by omega) (fun n => n) ?_ (hr2 _ _ rfl (by omega) (by omega)) rfl
        · simp only [Alls, rg, adI_eq, Nat.add_zero, c1, c2, c3, c4, c5, decide_eq_true_eq]
          repeat' (first | with_reducible exact trivial | with_reducible apply And.intro)
          all_goals first | with_reducible assumption | omega | with_reducible rfl | (first | exact g3 | exact ga | exact gb | exact gc | exact c1 | rfl)
        · exact ⟨rfl, rb_slc rfl (by unfold capBig; omega), rfl, rfl, trivial⟩
theorem lg_spec_ok : LSOk Try.prog 46 [0, 2, 3, 6, 7, 8] (lgB Try.prog) (logSpec lgS) := by
  refine lspec_ok fun a tp xt l2 h2 nx2 d tp' ob hs ho inr ts hn hg => ?_
  obtain ⟨n, c, xs⟩ := a
  simp only at hs hg
  split at hs
  case h_2 => cases hs
  rename_i r tp2
  simp only [Option.some.injEq, Prod.mk.injEq] at hs
  obtain ⟨⟨rfl, rfl, rfl, rfl, rfl⟩, rfl, rfl⟩ := hs
  obtain ⟨hr, hxs, hl, hc, _⟩ := ho
  have key := lg_loop (inr := inr) (h0 := [(0, ⟨.old, xs⟩)]) hxs hl hc n 0 0 (by omega) (by omega) (by omega)
  rw [hr] at key
  have e : (bif r then ((.exit 0, [(0, .slice (some ⟨0, 0, none⟩) n c), (2, .bool false)], [(0, ⟨.old, xs⟩)]) : LO) else (.ret, [(0, .slice (some ⟨0, 0, none⟩) n c), (2, .bool false)], [(0, ⟨.old, xs⟩)])) = (bif r then .exit 0 else .ret, [(0, .slice (some ⟨0, 0, none⟩) n c), (2, .bool false)], [(0, ⟨.old, xs⟩)]) := by cases r <;> rfl
  rw [e] at key
  refine LRuns.enter (l2 := lgS n c 0 0) hn hg (Nat.le_refl 1) (by omega) (fun n => n) ?_ ?_ rfl key ?_
  · exact ⟨rfl, rb_slc rfl (by unfold capBig; omega), rfl, rfl, rfl, rfl, rfl, rb_slc rfl (by unfold capBig; omega), rfl, rfl, rfl, rfl, trivial⟩
  · exact ⟨⟨0, _, rfl, rfl, rfl, rfl, .inl (hxs.fl _)⟩, trivial⟩
  · exact tidy_of (by omega) (fun n hn hd => rfl) rfl
theorem rl_spec_ok : LSOk Try.prog 62 [0, 2, 3, 4] (rlB Try.prog) (logSpec rlS) := by
  refine lspec_ok fun a tp xt l2 h2 nx2 d tp' ob hs ho inr ts hn hg => ?_
  obtain ⟨n, c, xs⟩ := a
  simp only at hs hg
  split at hs
  case h_2 => cases hs
  rename_i r tp2
  simp only [Option.some.injEq, Prod.mk.injEq] at hs
  obtain ⟨⟨rfl, rfl, rfl, rfl, rfl⟩, rfl, rfl⟩ := hs
  obtain ⟨hr, hxs, hl, hc, _⟩ := ho
  have key := rl_loop (inr := inr) (h0 := [(0, ⟨.old, xs⟩)]) hxs hl hc n 0 0 (by omega) (by omega) (by omega)
  rw [hr] at key
  have e : (bif r then ((.exit 0, [(0, .slice (some ⟨0, 0, none⟩) n c), (2, .bool false)], [(0, ⟨.old, xs⟩)]) : LO) else (.ret, [(0, .slice (some ⟨0, 0, none⟩) n c), (2, .bool false)], [(0, ⟨.old, xs⟩)])) = (bif r then .exit 0 else .ret, [(0, .slice (some ⟨0, 0, none⟩) n c), (2, .bool false)], [(0, ⟨.old, xs⟩)]) := by cases r <;> rfl
  rw [e] at key
  refine LRuns.enter (l2 := rlS n c 0 0) hn hg (Nat.le_refl 1) (by omega) (fun n => n) ?_ ?_ rfl key ?_
  · exact ⟨rfl, rb_slc rfl (by unfold capBig; omega), rfl, rfl, rfl, rfl, rfl, rfl, trivial⟩
  · exact ⟨⟨0, _, rfl, rfl, rfl, rfl, .inl (hxs.fl _)⟩, trivial⟩
  · exact tidy_of (by omega) (fun n hn hd => rfl) rfl
theorem log_ok : GOk Try.prog 27 [.s 3] gLog ∧ GOk Try.prog 29 [.s 3] gLog := by
  have hX : ∀ L, XOkZ (lgV L) Try.prog := fun L => noXz_ok rfl
  have hT : ∀ L, TOkZ (lgV L) Try.prog := fun L => T_okV rfl msgT_one
  have hL : LOkZ (lgV (lgL Try.prog)) Try.prog := L_okV rfl (orL_ok (mkL_ok lg_spec_ok) (mkL_ok rl_spec_ok))
  have hL0 : LOkZ (lgV noL) Try.prog := noL_okV rfl
  refine ⟨?_, ?_⟩ <;> intro av tp gr tp' ob hG ho hP caps hcap <;> (
    obtain ⟨a, rfl, pa⟩ := avps1 hP
    obtain ⟨c, rfl⟩ := caps1 hcap
    simp only [gLog] at hG
    split at hG
    case h_2 => cases hG
    rename_i xs ha
    simp only [Option.some.injEq, Prod.mk.injEq] at hG
    obtain ⟨rfl, rfl, rfl⟩ := hG
    obtain ⟨hxs, _⟩ := ho
    cases a with
    | ag p zs m => simp [AvP] at pa
    | sc zs l m => simp [AvP] at pa
    | fl v =>
      simp only [AvP] at pa
      subst pa
      simp only [bytsA, Option.some.injEq] at ha
      subst ha
      first
        | exact ⟨_, _, _, _, fun n => n, run_tri (hX _) (hT _) hL0 lg_n (by simp [Alls, rg]) rfl, GrIs.flat fun σ => rfl⟩
        | exact ⟨_, _, _, _, fun n => n, run_tri (hX _) (hT _) hL0 rl_n (by simp [Alls, rg]) rfl, GrIs.flat fun σ => rfl⟩
    | sl zs n =>
      simp only [bytsA, Option.some.injEq] at ha
      subst ha
      simp only [CapsOk] at hcap
      have hl := pa.2
      have hv : ∀ r h, logL zs n 0 0 = r → GrIs ⟨fun _ => Value.bool (logL zs (avLen (.sl zs n)) 0 0 && decide (avLen (.sl zs n) ≤ 64)), []⟩ (.bool (bif r then decide ((n : Int) ≤ 64) else false)) h (fun n => n) := fun r h e => by
        have e2 : Value.bool (logL zs n 0 0 && decide (n ≤ 64)) = .bool (bif r then decide ((n : Int) ≤ 64) else false) := by
          rw [e]; cases r
          · rfl
          · show Value.bool (decide (n ≤ 64)) = Value.bool (decide ((n : Int) ≤ 64))
            rw [decide_eq_decide.2 (show n ≤ 64 ↔ (n : Int) ≤ 64 by omega)]
        show GrIs ⟨fun _ => Value.bool (logL zs n 0 0 && decide (n ≤ 64)), []⟩ _ _ _
        rw [e2]; exact GrIs.flat fun σ => rfl
      cases hr : logL zs n 0 0
      · first
          | (refine ⟨_, _, _, _, fun n => n, run_tri (hX _) (hT _) hL (lg_f zs n c) ?_ rfl, ?_⟩
             · simp only [Alls]
               repeat' (first | with_reducible exact trivial | with_reducible apply And.intro)
               all_goals first | with_reducible assumption | omega | with_reducible rfl | (first | exact hr | rfl)
             · exact hv _ _ hr)
          | (refine ⟨_, _, _, _, fun n => n, run_tri (hX _) (hT _) hL (rl_f zs n c) ?_ rfl, ?_⟩
             · simp only [Alls]
               repeat' (first | with_reducible exact trivial | with_reducible apply And.intro)
               all_goals first | with_reducible assumption | omega | with_reducible rfl | (first | exact hr | rfl)
             · exact hv _ _ hr)
      · first
          | (refine ⟨_, _, _, _, fun n => n, run_tri (hX _) (hT _) hL (lg_t zs n c) ?_ rfl, ?_⟩
             · simp only [Alls]
               repeat' (first | with_reducible exact trivial | with_reducible apply And.intro)
               all_goals first | with_reducible assumption | omega | with_reducible rfl | (first | exact hr | rfl)
             · exact hv _ _ hr)
          | (refine ⟨_, _, _, _, fun n => n, run_tri (hX _) (hT _) hL (rl_t zs n c) ?_ rfl, ?_⟩
             · simp only [Alls]
               repeat' (first | with_reducible exact trivial | with_reducible apply And.intro)
               all_goals first | with_reducible assumption | omega | with_reducible rfl | (first | exact hr | rfl)
             · exact hv _ _ hr))
end Go.Proofs.Ytcmcelilollchaa
