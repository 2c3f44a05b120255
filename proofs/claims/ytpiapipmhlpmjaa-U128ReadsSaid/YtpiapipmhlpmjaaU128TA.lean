/-
  Chapter 01: a number by ten: Div64 at ten, the document's tenth: contracts.
-/
import Derived.Test.YtpiapipmhlpmjaaU128S
import Derived.Test.YtpiapipmhlpmjaaU128Z
namespace Go.Proofs.Ytpiapipmhlpmjaa
set_option linter.unusedSimpArgs false
set_option linter.unusedVariables false
set_option linter.unusedSectionVars false
open Go Go.RowKit

def dvV : Tv := ⟨noTz, noXz, noL, tbl 46 [24, 27, 68, 77, 103, 112], lsSy 46 [(30, 0), (33, 0), (46, 0), (50, 0), (51, 7), (54, 8), (56, 0), (58, 0), (61, 0), (65, 0), (66, 0), (72, 0), (74, 0), (76, 0), (87, 8), (89, 8), (92, 8), (93, 8), (96, 0), (100, 0), (101, 0), (107, 0), (109, 0), (111, 0), (122, 0), (124, 0), (126, 8), (128, 8), (131, 8), (132, 8), (134, 0)], fun _ => [], fun _ => 0⟩
theorem dv_z (l : Int) : runZ dvV Try.prog 9 46 [.int .u64 0, .int .u64 l, .int .u64 10] [] 3 [false, true] =
  Res.ok ((Value.tuple (Array.mk [Value.int IntKind.u64 (dvI l (10 : Int)), Value.int IntKind.u64 (mdI l (10 : Int))]), [], 3, []), [], [false = false, true = true, (0 : Int) ≤ l ∧ (0 : Int) < (10 : Int) ∧ rg IntKind.u64 l,
 (0 : Int) ≤ l ∧ (0 : Int) < (10 : Int)]) := by kernel_rfl
theorem dv_g (h l : Int) : runZ dvV Try.prog 9 46 [.int .u64 h, .int .u64 l, .int .u64 10] [] 3 [false, false, false, false, false, false] =
  Res.ok ((Value.tuple (Array.mk [Value.int IntKind.u64 (adI (mlI (dvI (adI (slI h (60 : Int)) (srI l (4 : Int))) (2684354560 : Int)) (4294967296 : Int)) (dvI (IntKind.wrap IntKind.u64 (IntKind.wrap IntKind.u64
 (IntKind.wrap IntKind.u64 (adI (slI h (60 : Int)) (srI l (4 : Int)) * (4294967296 : Int)) + srI (IntKind.wrap IntKind.u64 (l * (1152921504606846976 : Int))) (32 : Int)) - IntKind.wrap IntKind.u64 (dvI (adI (slI h (60 :
 Int)) (srI l (4 : Int))) (2684354560 : Int) * (11529215046068469760 : Int)))) (2684354560 : Int))), Value.int IntKind.u64 (srI (IntKind.wrap IntKind.u64 (IntKind.wrap IntKind.u64 (IntKind.wrap IntKind.u64 (IntKind.wrap
 IntKind.u64 (IntKind.wrap IntKind.u64 (IntKind.wrap IntKind.u64 (adI (slI h (60 : Int)) (srI l (4 : Int)) * (4294967296 : Int)) + srI (IntKind.wrap IntKind.u64 (l * (1152921504606846976 : Int))) (32 : Int)) - IntKind.wrap
 IntKind.u64 (dvI (adI (slI h (60 : Int)) (srI l (4 : Int))) (2684354560 : Int) * (11529215046068469760 : Int))) * (4294967296 : Int)) + IntKind.wrap IntKind.u64 (↑(BitVec.toNat (BitVec.ofInt 64 (IntKind.wrap IntKind.u64
 (l * (1152921504606846976 : Int))) &&& BitVec.ofInt 64 (4294967295 : Int))) : Int)) - IntKind.wrap IntKind.u64 (dvI (IntKind.wrap IntKind.u64 (IntKind.wrap IntKind.u64 (IntKind.wrap IntKind.u64 (adI (slI h (60 : Int))
 (srI l (4 : Int)) * (4294967296 : Int)) + srI (IntKind.wrap IntKind.u64 (l * (1152921504606846976 : Int))) (32 : Int)) - IntKind.wrap IntKind.u64 (dvI (adI (slI h (60 : Int)) (srI l (4 : Int))) (2684354560 : Int) *
 (11529215046068469760 : Int)))) (2684354560 : Int) * (11529215046068469760 : Int)))) (60 : Int))]), [], 3, []), [], [decide ((10 : Int) ≤ h) = false, (h == (0 : Int)) = false, (0 : Int) ≤ (60 : Int) ∧ (60 : Int) ≤ (64 :
 Int) ∧ rg IntKind.u64 (slI h (60 : Int)), (0 : Int) ≤ (4 : Int) ∧ (4 : Int) ≤ (64 : Int), IntKind.wrap IntKind.u64 (↑(BitVec.toNat (BitVec.ofInt 64 (slI h (60 : Int)) ||| BitVec.ofInt 64 (srI l (4 : Int)))) : Int) = adI
 (slI h (60 : Int)) (srI l (4 : Int)), (0 : Int) ≤ (32 : Int) ∧ (32 : Int) ≤ (64 : Int), (0 : Int) ≤ adI (slI h (60 : Int)) (srI l (4 : Int)) ∧ (0 : Int) < (2684354560 : Int) ∧ rg IntKind.u64 (adI (slI h (60 : Int)) (srI l
 (4 : Int))), rg IntKind.u64 (mlI (dvI (adI (slI h (60 : Int)) (srI l (4 : Int))) (2684354560 : Int)) (2684354560 : Int)), rg IntKind.u64 (adI (slI h (60 : Int)) (srI l (4 : Int)) - mlI (dvI (adI (slI h (60 : Int)) (srI l
 (4 : Int))) (2684354560 : Int)) (2684354560 : Int)), decide (dvI (adI (slI h (60 : Int)) (srI l (4 : Int))) (2684354560 : Int) ≥ (4294967296 : Int)) = false, rg IntKind.u64 (mlI (dvI (adI (slI h (60 : Int)) (srI l (4 :
 Int))) (2684354560 : Int)) (0 : Int)), rg IntKind.u64 (mlI (4294967296 : Int) (adI (slI h (60 : Int)) (srI l (4 : Int)) - mlI (dvI (adI (slI h (60 : Int)) (srI l (4 : Int))) (2684354560 : Int)) (2684354560 : Int))), rg
 IntKind.u64 (adI (mlI (4294967296 : Int) (adI (slI h (60 : Int)) (srI l (4 : Int)) - mlI (dvI (adI (slI h (60 : Int)) (srI l (4 : Int))) (2684354560 : Int)) (2684354560 : Int))) (srI (IntKind.wrap IntKind.u64 (l *
 (1152921504606846976 : Int))) (32 : Int))), decide (mlI (dvI (adI (slI h (60 : Int)) (srI l (4 : Int))) (2684354560 : Int)) (0 : Int) > adI (mlI (4294967296 : Int) (adI (slI h (60 : Int)) (srI l (4 : Int)) - mlI (dvI (adI
 (slI h (60 : Int)) (srI l (4 : Int))) (2684354560 : Int)) (2684354560 : Int))) (srI (IntKind.wrap IntKind.u64 (l * (1152921504606846976 : Int))) (32 : Int))) = false, (0 : Int) ≤ IntKind.wrap IntKind.u64 (IntKind.wrap
 IntKind.u64 (IntKind.wrap IntKind.u64 (adI (slI h (60 : Int)) (srI l (4 : Int)) * (4294967296 : Int)) + srI (IntKind.wrap IntKind.u64 (l * (1152921504606846976 : Int))) (32 : Int)) - IntKind.wrap IntKind.u64 (dvI (adI
 (slI h (60 : Int)) (srI l (4 : Int))) (2684354560 : Int) * (11529215046068469760 : Int))) ∧ (0 : Int) < (2684354560 : Int) ∧ rg IntKind.u64 (IntKind.wrap IntKind.u64 (IntKind.wrap IntKind.u64 (IntKind.wrap IntKind.u64
 (adI (slI h (60 : Int)) (srI l (4 : Int)) * (4294967296 : Int)) + srI (IntKind.wrap IntKind.u64 (l * (1152921504606846976 : Int))) (32 : Int)) - IntKind.wrap IntKind.u64 (dvI (adI (slI h (60 : Int)) (srI l (4 : Int)))
 (2684354560 : Int) * (11529215046068469760 : Int)))), rg IntKind.u64 (mlI (dvI (IntKind.wrap IntKind.u64 (IntKind.wrap IntKind.u64 (IntKind.wrap IntKind.u64 (adI (slI h (60 : Int)) (srI l (4 : Int)) * (4294967296 : Int))
 + srI (IntKind.wrap IntKind.u64 (l * (1152921504606846976 : Int))) (32 : Int)) - IntKind.wrap IntKind.u64 (dvI (adI (slI h (60 : Int)) (srI l (4 : Int))) (2684354560 : Int) * (11529215046068469760 : Int)))) (2684354560 :
 Int)) (2684354560 : Int)), rg IntKind.u64 (IntKind.wrap IntKind.u64 (IntKind.wrap IntKind.u64 (IntKind.wrap IntKind.u64 (adI (slI h (60 : Int)) (srI l (4 : Int)) * (4294967296 : Int)) + srI (IntKind.wrap IntKind.u64 (l *
 (1152921504606846976 : Int))) (32 : Int)) - IntKind.wrap IntKind.u64 (dvI (adI (slI h (60 : Int)) (srI l (4 : Int))) (2684354560 : Int) * (11529215046068469760 : Int))) - mlI (dvI (IntKind.wrap IntKind.u64 (IntKind.wrap
 IntKind.u64 (IntKind.wrap IntKind.u64 (adI (slI h (60 : Int)) (srI l (4 : Int)) * (4294967296 : Int)) + srI (IntKind.wrap IntKind.u64 (l * (1152921504606846976 : Int))) (32 : Int)) - IntKind.wrap IntKind.u64 (dvI (adI
 (slI h (60 : Int)) (srI l (4 : Int))) (2684354560 : Int) * (11529215046068469760 : Int)))) (2684354560 : Int)) (2684354560 : Int)), decide (dvI (IntKind.wrap IntKind.u64 (IntKind.wrap IntKind.u64 (IntKind.wrap IntKind.u64
 (adI (slI h (60 : Int)) (srI l (4 : Int)) * (4294967296 : Int)) + srI (IntKind.wrap IntKind.u64 (l * (1152921504606846976 : Int))) (32 : Int)) - IntKind.wrap IntKind.u64 (dvI (adI (slI h (60 : Int)) (srI l (4 : Int)))
 (2684354560 : Int) * (11529215046068469760 : Int)))) (2684354560 : Int) ≥ (4294967296 : Int)) = false, rg IntKind.u64 (mlI (dvI (IntKind.wrap IntKind.u64 (IntKind.wrap IntKind.u64 (IntKind.wrap IntKind.u64 (adI (slI h (60
 : Int)) (srI l (4 : Int)) * (4294967296 : Int)) + srI (IntKind.wrap IntKind.u64 (l * (1152921504606846976 : Int))) (32 : Int)) - IntKind.wrap IntKind.u64 (dvI (adI (slI h (60 : Int)) (srI l (4 : Int))) (2684354560 : Int)
 * (11529215046068469760 : Int)))) (2684354560 : Int)) (0 : Int)), rg IntKind.u64 (mlI (4294967296 : Int) (IntKind.wrap IntKind.u64 (IntKind.wrap IntKind.u64 (IntKind.wrap IntKind.u64 (adI (slI h (60 : Int)) (srI l (4 :
 Int)) * (4294967296 : Int)) + srI (IntKind.wrap IntKind.u64 (l * (1152921504606846976 : Int))) (32 : Int)) - IntKind.wrap IntKind.u64 (dvI (adI (slI h (60 : Int)) (srI l (4 : Int))) (2684354560 : Int) *
 (11529215046068469760 : Int))) - mlI (dvI (IntKind.wrap IntKind.u64 (IntKind.wrap IntKind.u64 (IntKind.wrap IntKind.u64 (adI (slI h (60 : Int)) (srI l (4 : Int)) * (4294967296 : Int)) + srI (IntKind.wrap IntKind.u64 (l *
 (1152921504606846976 : Int))) (32 : Int)) - IntKind.wrap IntKind.u64 (dvI (adI (slI h (60 : Int)) (srI l (4 : Int))) (2684354560 : Int) * (11529215046068469760 : Int)))) (2684354560 : Int)) (2684354560 : Int))), rg
 IntKind.u64 (adI (mlI (4294967296 : Int) (IntKind.wrap IntKind.u64 (IntKind.wrap IntKind.u64 (IntKind.wrap IntKind.u64 (adI (slI h (60 : Int)) (srI l (4 : Int)) * (4294967296 : Int)) + srI (IntKind.wrap IntKind.u64 (l *
 (1152921504606846976 : Int))) (32 : Int)) - IntKind.wrap IntKind.u64 (dvI (adI (slI h (60 : Int)) (srI l (4 : Int))) (2684354560 : Int) * (11529215046068469760 : Int))) - mlI (dvI (IntKind.wrap IntKind.u64 (IntKind.wrap
 IntKind.u64 (IntKind.wrap IntKind.u64 (adI (slI h (60 : Int)) (srI l (4 : Int)) * (4294967296 : Int)) + srI (IntKind.wrap IntKind.u64 (l * (1152921504606846976 : Int))) (32 : Int)) - IntKind.wrap IntKind.u64 (dvI (adI
 (slI h (60 : Int)) (srI l (4 : Int))) (2684354560 : Int) * (11529215046068469760 : Int)))) (2684354560 : Int)) (2684354560 : Int))) (IntKind.wrap IntKind.u64 (↑(BitVec.toNat (BitVec.ofInt 64 (IntKind.wrap IntKind.u64 (l *
 (1152921504606846976 : Int))) &&& BitVec.ofInt 64 (4294967295 : Int))) : Int))), decide (mlI (dvI (IntKind.wrap IntKind.u64 (IntKind.wrap IntKind.u64 (IntKind.wrap IntKind.u64 (adI (slI h (60 : Int)) (srI l (4 : Int)) *
 (4294967296 : Int)) + srI (IntKind.wrap IntKind.u64 (l * (1152921504606846976 : Int))) (32 : Int)) - IntKind.wrap IntKind.u64 (dvI (adI (slI h (60 : Int)) (srI l (4 : Int))) (2684354560 : Int) * (11529215046068469760 :
 Int)))) (2684354560 : Int)) (0 : Int) > adI (mlI (4294967296 : Int) (IntKind.wrap IntKind.u64 (IntKind.wrap IntKind.u64 (IntKind.wrap IntKind.u64 (adI (slI h (60 : Int)) (srI l (4 : Int)) * (4294967296 : Int)) + srI
 (IntKind.wrap IntKind.u64 (l * (1152921504606846976 : Int))) (32 : Int)) - IntKind.wrap IntKind.u64 (dvI (adI (slI h (60 : Int)) (srI l (4 : Int))) (2684354560 : Int) * (11529215046068469760 : Int))) - mlI (dvI
 (IntKind.wrap IntKind.u64 (IntKind.wrap IntKind.u64 (IntKind.wrap IntKind.u64 (adI (slI h (60 : Int)) (srI l (4 : Int)) * (4294967296 : Int)) + srI (IntKind.wrap IntKind.u64 (l * (1152921504606846976 : Int))) (32 : Int))
 - IntKind.wrap IntKind.u64 (dvI (adI (slI h (60 : Int)) (srI l (4 : Int))) (2684354560 : Int) * (11529215046068469760 : Int)))) (2684354560 : Int)) (2684354560 : Int))) (IntKind.wrap IntKind.u64 (↑(BitVec.toNat
 (BitVec.ofInt 64 (IntKind.wrap IntKind.u64 (l * (1152921504606846976 : Int))) &&& BitVec.ofInt 64 (4294967295 : Int))) : Int))) = false, rg IntKind.u64 (mlI (dvI (adI (slI h (60 : Int)) (srI l (4 : Int))) (2684354560 :
 Int)) (4294967296 : Int)), rg IntKind.u64 (adI (mlI (dvI (adI (slI h (60 : Int)) (srI l (4 : Int))) (2684354560 : Int)) (4294967296 : Int)) (dvI (IntKind.wrap IntKind.u64 (IntKind.wrap IntKind.u64 (IntKind.wrap
 IntKind.u64 (adI (slI h (60 : Int)) (srI l (4 : Int)) * (4294967296 : Int)) + srI (IntKind.wrap IntKind.u64 (l * (1152921504606846976 : Int))) (32 : Int)) - IntKind.wrap IntKind.u64 (dvI (adI (slI h (60 : Int)) (srI l (4
 : Int))) (2684354560 : Int) * (11529215046068469760 : Int)))) (2684354560 : Int))), (0 : Int) ≤ (60 : Int) ∧ (60 : Int) ≤ (64 : Int)]) := by kernel_rfl
theorem of_r (x0 x1 x2 x3 x4 x5 x6 x7 x8 x9 x10 x11 x12 x13 x14 x15 : Int) : runZ u8V Try.prog 5 42 [.agg ⟨[.int .u8 x0, .int .u8 x1, .int .u8 x2, .int .u8 x3, .int .u8 x4, .int .u8 x5, .int .u8 x6, .int .u8 x7, .int .u8 x8, .int .u8 x9, .int .u8 x10, .int .u8 x11, .int .u8 x12, .int .u8 x13, .int .u8 x14, .int .u8 x15]⟩] [] 1 [] =
  Res.ok ((Value.agg (Array.mk [Value.int IntKind.u64 (adI (slI (adI (slI (adI (slI (adI (slI (adI (slI (adI (slI (adI (slI (adI (0 : Int) x15) (8 : Int)) x14) (8 : Int)) x13) (8 : Int)) x12) (8 : Int)) x11) (8 : Int)) x10)
 (8 : Int)) x9) (8 : Int)) x8), Value.int IntKind.u64 (adI (slI (adI (slI (adI (slI (adI (slI (adI (slI (adI (slI (adI (slI (adI (0 : Int) x7) (8 : Int)) x6) (8 : Int)) x5) (8 : Int)) x4) (8 : Int)) x3) (8 : Int)) x2) (8 :
 Int)) x1) (8 : Int)) x0)]), [], 4, []), [], [(0 : Int) ≤ (8 : Int) ∧ (8 : Int) ≤ (64 : Int) ∧ rg IntKind.u64 (0 : Int), [Value.int IntKind.u8 x0, Value.int IntKind.u8 x1, Value.int IntKind.u8 x2, Value.int IntKind.u8 x3,
 Value.int IntKind.u8 x4, Value.int IntKind.u8 x5, Value.int IntKind.u8 x6, Value.int IntKind.u8 x7, Value.int IntKind.u8 x8, Value.int IntKind.u8 x9, Value.int IntKind.u8 x10, Value.int IntKind.u8 x11, Value.int
 IntKind.u8 x12, Value.int IntKind.u8 x13, Value.int IntKind.u8 x14, Value.int IntKind.u8 x15][7]? = some (Value.int IntKind.u8 x7), rg IntKind.u64 x7, IntKind.wrap IntKind.u64 (↑(BitVec.toNat (BitVec.ofInt 64 (0 : Int)
 ||| BitVec.ofInt 64 x7)) : Int) = adI (0 : Int) x7, (0 : Int) ≤ (8 : Int) ∧ (8 : Int) ≤ (64 : Int) ∧ rg IntKind.u64 (0 : Int), [Value.int IntKind.u8 x0, Value.int IntKind.u8 x1, Value.int IntKind.u8 x2, Value.int
 IntKind.u8 x3, Value.int IntKind.u8 x4, Value.int IntKind.u8 x5, Value.int IntKind.u8 x6, Value.int IntKind.u8 x7, Value.int IntKind.u8 x8, Value.int IntKind.u8 x9, Value.int IntKind.u8 x10, Value.int IntKind.u8 x11,
 Value.int IntKind.u8 x12, Value.int IntKind.u8 x13, Value.int IntKind.u8 x14, Value.int IntKind.u8 x15][15]? = some (Value.int IntKind.u8 x15), rg IntKind.u64 x15, IntKind.wrap IntKind.u64 (↑(BitVec.toNat (BitVec.ofInt 64
 (0 : Int) ||| BitVec.ofInt 64 x15)) : Int) = adI (0 : Int) x15, (0 : Int) ≤ (8 : Int) ∧ (8 : Int) ≤ (64 : Int) ∧ rg IntKind.u64 (slI (adI (0 : Int) x7) (8 : Int)), [Value.int IntKind.u8 x0, Value.int IntKind.u8 x1,
 Value.int IntKind.u8 x2, Value.int IntKind.u8 x3, Value.int IntKind.u8 x4, Value.int IntKind.u8 x5, Value.int IntKind.u8 x6, Value.int IntKind.u8 x7, Value.int IntKind.u8 x8, Value.int IntKind.u8 x9, Value.int IntKind.u8
 x10, Value.int IntKind.u8 x11, Value.int IntKind.u8 x12, Value.int IntKind.u8 x13, Value.int IntKind.u8 x14, Value.int IntKind.u8 x15][6]? = some (Value.int IntKind.u8 x6), rg IntKind.u64 x6, IntKind.wrap IntKind.u64
 (↑(BitVec.toNat (BitVec.ofInt 64 (slI (adI (0 : Int) x7) (8 : Int)) ||| BitVec.ofInt 64 x6)) : Int) = adI (slI (adI (0 : Int) x7) (8 : Int)) x6, (0 : Int) ≤ (8 : Int) ∧ (8 : Int) ≤ (64 : Int) ∧ rg IntKind.u64 (slI (adI (0
 : Int) x15) (8 : Int)), [Value.int IntKind.u8 x0, Value.int IntKind.u8 x1, Value.int IntKind.u8 x2, Value.int IntKind.u8 x3, Value.int IntKind.u8 x4, Value.int IntKind.u8 x5, Value.int IntKind.u8 x6, Value.int IntKind.u8
 x7, Value.int IntKind.u8 x8, Value.int IntKind.u8 x9, Value.int IntKind.u8 x10, Value.int IntKind.u8 x11, Value.int IntKind.u8 x12, Value.int IntKind.u8 x13, Value.int IntKind.u8 x14, Value.int IntKind.u8 x15][14]? = some
 (Value.int IntKind.u8 x14), rg IntKind.u64 x14, IntKind.wrap IntKind.u64 (↑(BitVec.toNat (BitVec.ofInt 64 (slI (adI (0 : Int) x15) (8 : Int)) ||| BitVec.ofInt 64 x14)) : Int) = adI (slI (adI (0 : Int) x15) (8 : Int)) x14,
 (0 : Int) ≤ (8 : Int) ∧ (8 : Int) ≤ (64 : Int) ∧ rg IntKind.u64 (slI (adI (slI (adI (0 : Int) x7) (8 : Int)) x6) (8 : Int)), [Value.int IntKind.u8 x0, Value.int IntKind.u8 x1, Value.int IntKind.u8 x2, Value.int IntKind.u8
 x3, Value.int IntKind.u8 x4, Value.int IntKind.u8 x5, Value.int IntKind.u8 x6, Value.int IntKind.u8 x7, Value.int IntKind.u8 x8, Value.int IntKind.u8 x9, Value.int IntKind.u8 x10, Value.int IntKind.u8 x11, Value.int
 IntKind.u8 x12, Value.int IntKind.u8 x13, Value.int IntKind.u8 x14, Value.int IntKind.u8 x15][5]? = some (Value.int IntKind.u8 x5), rg IntKind.u64 x5, IntKind.wrap IntKind.u64 (↑(BitVec.toNat (BitVec.ofInt 64 (slI (adI
 (slI (adI (0 : Int) x7) (8 : Int)) x6) (8 : Int)) ||| BitVec.ofInt 64 x5)) : Int) = adI (slI (adI (slI (adI (0 : Int) x7) (8 : Int)) x6) (8 : Int)) x5, (0 : Int) ≤ (8 : Int) ∧ (8 : Int) ≤ (64 : Int) ∧ rg IntKind.u64 (slI
 (adI (slI (adI (0 : Int) x15) (8 : Int)) x14) (8 : Int)), [Value.int IntKind.u8 x0, Value.int IntKind.u8 x1, Value.int IntKind.u8 x2, Value.int IntKind.u8 x3, Value.int IntKind.u8 x4, Value.int IntKind.u8 x5, Value.int
 IntKind.u8 x6, Value.int IntKind.u8 x7, Value.int IntKind.u8 x8, Value.int IntKind.u8 x9, Value.int IntKind.u8 x10, Value.int IntKind.u8 x11, Value.int IntKind.u8 x12, Value.int IntKind.u8 x13, Value.int IntKind.u8 x14,
 Value.int IntKind.u8 x15][13]? = some (Value.int IntKind.u8 x13), rg IntKind.u64 x13, IntKind.wrap IntKind.u64 (↑(BitVec.toNat (BitVec.ofInt 64 (slI (adI (slI (adI (0 : Int) x15) (8 : Int)) x14) (8 : Int)) |||
 BitVec.ofInt 64 x13)) : Int) = adI (slI (adI (slI (adI (0 : Int) x15) (8 : Int)) x14) (8 : Int)) x13, (0 : Int) ≤ (8 : Int) ∧ (8 : Int) ≤ (64 : Int) ∧ rg IntKind.u64 (slI (adI (slI (adI (slI (adI (0 : Int) x7) (8 : Int))
 x6) (8 : Int)) x5) (8 : Int)), [Value.int IntKind.u8 x0, Value.int IntKind.u8 x1, Value.int IntKind.u8 x2, Value.int IntKind.u8 x3, Value.int IntKind.u8 x4, Value.int IntKind.u8 x5, Value.int IntKind.u8 x6, Value.int
 IntKind.u8 x7, Value.int IntKind.u8 x8, Value.int IntKind.u8 x9, Value.int IntKind.u8 x10, Value.int IntKind.u8 x11, Value.int IntKind.u8 x12, Value.int IntKind.u8 x13, Value.int IntKind.u8 x14, Value.int IntKind.u8
 x15][4]? = some (Value.int IntKind.u8 x4), rg IntKind.u64 x4, IntKind.wrap IntKind.u64 (↑(BitVec.toNat (BitVec.ofInt 64 (slI (adI (slI (adI (slI (adI (0 : Int) x7) (8 : Int)) x6) (8 : Int)) x5) (8 : Int)) ||| BitVec.ofInt
 64 x4)) : Int) = adI (slI (adI (slI (adI (slI (adI (0 : Int) x7) (8 : Int)) x6) (8 : Int)) x5) (8 : Int)) x4, (0 : Int) ≤ (8 : Int) ∧ (8 : Int) ≤ (64 : Int) ∧ rg IntKind.u64 (slI (adI (slI (adI (slI (adI (0 : Int) x15) (8
 : Int)) x14) (8 : Int)) x13) (8 : Int)), [Value.int IntKind.u8 x0, Value.int IntKind.u8 x1, Value.int IntKind.u8 x2, Value.int IntKind.u8 x3, Value.int IntKind.u8 x4, Value.int IntKind.u8 x5, Value.int IntKind.u8 x6,
 Value.int IntKind.u8 x7, Value.int IntKind.u8 x8, Value.int IntKind.u8 x9, Value.int IntKind.u8 x10, Value.int IntKind.u8 x11, Value.int IntKind.u8 x12, Value.int IntKind.u8 x13, Value.int IntKind.u8 x14, Value.int
 IntKind.u8 x15][12]? = some (Value.int IntKind.u8 x12), rg IntKind.u64 x12, IntKind.wrap IntKind.u64 (↑(BitVec.toNat (BitVec.ofInt 64 (slI (adI (slI (adI (slI (adI (0 : Int) x15) (8 : Int)) x14) (8 : Int)) x13) (8 : Int))
 ||| BitVec.ofInt 64 x12)) : Int) = adI (slI (adI (slI (adI (slI (adI (0 : Int) x15) (8 : Int)) x14) (8 : Int)) x13) (8 : Int)) x12, (0 : Int) ≤ (8 : Int) ∧ (8 : Int) ≤ (64 : Int) ∧ rg IntKind.u64 (slI (adI (slI (adI (slI
 (adI (slI (adI (0 : Int) x7) (8 : Int)) x6) (8 : Int)) x5) (8 : Int)) x4) (8 : Int)), [Value.int IntKind.u8 x0, Value.int IntKind.u8 x1, Value.int IntKind.u8 x2, Value.int IntKind.u8 x3, Value.int IntKind.u8 x4, Value.int
 IntKind.u8 x5, Value.int IntKind.u8 x6, Value.int IntKind.u8 x7, Value.int IntKind.u8 x8, Value.int IntKind.u8 x9, Value.int IntKind.u8 x10, Value.int IntKind.u8 x11, Value.int IntKind.u8 x12, Value.int IntKind.u8 x13,
 Value.int IntKind.u8 x14, Value.int IntKind.u8 x15][3]? = some (Value.int IntKind.u8 x3), rg IntKind.u64 x3, IntKind.wrap IntKind.u64 (↑(BitVec.toNat (BitVec.ofInt 64 (slI (adI (slI (adI (slI (adI (slI (adI (0 : Int) x7)
 (8 : Int)) x6) (8 : Int)) x5) (8 : Int)) x4) (8 : Int)) ||| BitVec.ofInt 64 x3)) : Int) = adI (slI (adI (slI (adI (slI (adI (slI (adI (0 : Int) x7) (8 : Int)) x6) (8 : Int)) x5) (8 : Int)) x4) (8 : Int)) x3, (0 : Int) ≤
 (8 : Int) ∧ (8 : Int) ≤ (64 : Int) ∧ rg IntKind.u64 (slI (adI (slI (adI (slI (adI (slI (adI (0 : Int) x15) (8 : Int)) x14) (8 : Int)) x13) (8 : Int)) x12) (8 : Int)), [Value.int IntKind.u8 x0, Value.int IntKind.u8 x1,
 Value.int IntKind.u8 x2, Value.int IntKind.u8 x3, Value.int IntKind.u8 x4, Value.int IntKind.u8 x5, Value.int IntKind.u8 x6, Value.int IntKind.u8 x7, Value.int IntKind.u8 x8, Value.int IntKind.u8 x9, Value.int IntKind.u8
 x10, Value.int IntKind.u8 x11, Value.int IntKind.u8 x12, Value.int IntKind.u8 x13, Value.int IntKind.u8 x14, Value.int IntKind.u8 x15][11]? = some (Value.int IntKind.u8 x11), rg IntKind.u64 x11, IntKind.wrap IntKind.u64
 (↑(BitVec.toNat (BitVec.ofInt 64 (slI (adI (slI (adI (slI (adI (slI (adI (0 : Int) x15) (8 : Int)) x14) (8 : Int)) x13) (8 : Int)) x12) (8 : Int)) ||| BitVec.ofInt 64 x11)) : Int) = adI (slI (adI (slI (adI (slI (adI (slI
 (adI (0 : Int) x15) (8 : Int)) x14) (8 : Int)) x13) (8 : Int)) x12) (8 : Int)) x11, (0 : Int) ≤ (8 : Int) ∧ (8 : Int) ≤ (64 : Int) ∧ rg IntKind.u64 (slI (adI (slI (adI (slI (adI (slI (adI (slI (adI (0 : Int) x7) (8 :
 Int)) x6) (8 : Int)) x5) (8 : Int)) x4) (8 : Int)) x3) (8 : Int)), [Value.int IntKind.u8 x0, Value.int IntKind.u8 x1, Value.int IntKind.u8 x2, Value.int IntKind.u8 x3, Value.int IntKind.u8 x4, Value.int IntKind.u8 x5,
 Value.int IntKind.u8 x6, Value.int IntKind.u8 x7, Value.int IntKind.u8 x8, Value.int IntKind.u8 x9, Value.int IntKind.u8 x10, Value.int IntKind.u8 x11, Value.int IntKind.u8 x12, Value.int IntKind.u8 x13, Value.int
 IntKind.u8 x14, Value.int IntKind.u8 x15][2]? = some (Value.int IntKind.u8 x2), rg IntKind.u64 x2, IntKind.wrap IntKind.u64 (↑(BitVec.toNat (BitVec.ofInt 64 (slI (adI (slI (adI (slI (adI (slI (adI (slI (adI (0 : Int) x7)
 (8 : Int)) x6) (8 : Int)) x5) (8 : Int)) x4) (8 : Int)) x3) (8 : Int)) ||| BitVec.ofInt 64 x2)) : Int) = adI (slI (adI (slI (adI (slI (adI (slI (adI (slI (adI (0 : Int) x7) (8 : Int)) x6) (8 : Int)) x5) (8 : Int)) x4) (8
 : Int)) x3) (8 : Int)) x2, (0 : Int) ≤ (8 : Int) ∧ (8 : Int) ≤ (64 : Int) ∧ rg IntKind.u64 (slI (adI (slI (adI (slI (adI (slI (adI (slI (adI (0 : Int) x15) (8 : Int)) x14) (8 : Int)) x13) (8 : Int)) x12) (8 : Int)) x11)
 (8 : Int)), [Value.int IntKind.u8 x0, Value.int IntKind.u8 x1, Value.int IntKind.u8 x2, Value.int IntKind.u8 x3, Value.int IntKind.u8 x4, Value.int IntKind.u8 x5, Value.int IntKind.u8 x6, Value.int IntKind.u8 x7,
 Value.int IntKind.u8 x8, Value.int IntKind.u8 x9, Value.int IntKind.u8 x10, Value.int IntKind.u8 x11, Value.int IntKind.u8 x12, Value.int IntKind.u8 x13, Value.int IntKind.u8 x14, Value.int IntKind.u8 x15][10]? = some
 (Value.int IntKind.u8 x10), rg IntKind.u64 x10, IntKind.wrap IntKind.u64 (↑(BitVec.toNat (BitVec.ofInt 64 (slI (adI (slI (adI (slI (adI (slI (adI (slI (adI (0 : Int) x15) (8 : Int)) x14) (8 : Int)) x13) (8 : Int)) x12) (8
 : Int)) x11) (8 : Int)) ||| BitVec.ofInt 64 x10)) : Int) = adI (slI (adI (slI (adI (slI (adI (slI (adI (slI (adI (0 : Int) x15) (8 : Int)) x14) (8 : Int)) x13) (8 : Int)) x12) (8 : Int)) x11) (8 : Int)) x10, (0 : Int) ≤
 (8 : Int) ∧ (8 : Int) ≤ (64 : Int) ∧ rg IntKind.u64 (slI (adI (slI (adI (slI (adI (slI (adI (slI (adI (slI (adI (0 : Int) x7) (8 : Int)) x6) (8 : Int)) x5) (8 : Int)) x4) (8 : Int)) x3) (8 : Int)) x2) (8 : Int)),
 [Value.int IntKind.u8 x0, Value.int IntKind.u8 x1, Value.int IntKind.u8 x2, Value.int IntKind.u8 x3, Value.int IntKind.u8 x4, Value.int IntKind.u8 x5, Value.int IntKind.u8 x6, Value.int IntKind.u8 x7, Value.int IntKind.u8
 x8, Value.int IntKind.u8 x9, Value.int IntKind.u8 x10, Value.int IntKind.u8 x11, Value.int IntKind.u8 x12, Value.int IntKind.u8 x13, Value.int IntKind.u8 x14, Value.int IntKind.u8 x15][1]? = some (Value.int IntKind.u8
 x1), rg IntKind.u64 x1, IntKind.wrap IntKind.u64 (↑(BitVec.toNat (BitVec.ofInt 64 (slI (adI (slI (adI (slI (adI (slI (adI (slI (adI (slI (adI (0 : Int) x7) (8 : Int)) x6) (8 : Int)) x5) (8 : Int)) x4) (8 : Int)) x3) (8 :
 Int)) x2) (8 : Int)) ||| BitVec.ofInt 64 x1)) : Int) = adI (slI (adI (slI (adI (slI (adI (slI (adI (slI (adI (slI (adI (0 : Int) x7) (8 : Int)) x6) (8 : Int)) x5) (8 : Int)) x4) (8 : Int)) x3) (8 : Int)) x2) (8 : Int))
 x1, (0 : Int) ≤ (8 : Int) ∧ (8 : Int) ≤ (64 : Int) ∧ rg IntKind.u64 (slI (adI (slI (adI (slI (adI (slI (adI (slI (adI (slI (adI (0 : Int) x15) (8 : Int)) x14) (8 : Int)) x13) (8 : Int)) x12) (8 : Int)) x11) (8 : Int))
 x10) (8 : Int)), [Value.int IntKind.u8 x0, Value.int IntKind.u8 x1, Value.int IntKind.u8 x2, Value.int IntKind.u8 x3, Value.int IntKind.u8 x4, Value.int IntKind.u8 x5, Value.int IntKind.u8 x6, Value.int IntKind.u8 x7,
 Value.int IntKind.u8 x8, Value.int IntKind.u8 x9, Value.int IntKind.u8 x10, Value.int IntKind.u8 x11, Value.int IntKind.u8 x12, Value.int IntKind.u8 x13, Value.int IntKind.u8 x14, Value.int IntKind.u8 x15][9]? = some
 (Value.int IntKind.u8 x9), rg IntKind.u64 x9, IntKind.wrap IntKind.u64 (↑(BitVec.toNat (BitVec.ofInt 64 (slI (adI (slI (adI (slI (adI (slI (adI (slI (adI (slI (adI (0 : Int) x15) (8 : Int)) x14) (8 : Int)) x13) (8 : Int))
 x12) (8 : Int)) x11) (8 : Int)) x10) (8 : Int)) ||| BitVec.ofInt 64 x9)) : Int) = adI (slI (adI (slI (adI (slI (adI (slI (adI (slI (adI (slI (adI (0 : Int) x15) (8 : Int)) x14) (8 : Int)) x13) (8 : Int)) x12) (8 : Int))
 x11) (8 : Int)) x10) (8 : Int)) x9, (0 : Int) ≤ (8 : Int) ∧ (8 : Int) ≤ (64 : Int) ∧ rg IntKind.u64 (slI (adI (slI (adI (slI (adI (slI (adI (slI (adI (slI (adI (slI (adI (0 : Int) x7) (8 : Int)) x6) (8 : Int)) x5) (8 :
 Int)) x4) (8 : Int)) x3) (8 : Int)) x2) (8 : Int)) x1) (8 : Int)), [Value.int IntKind.u8 x0, Value.int IntKind.u8 x1, Value.int IntKind.u8 x2, Value.int IntKind.u8 x3, Value.int IntKind.u8 x4, Value.int IntKind.u8 x5,
 Value.int IntKind.u8 x6, Value.int IntKind.u8 x7, Value.int IntKind.u8 x8, Value.int IntKind.u8 x9, Value.int IntKind.u8 x10, Value.int IntKind.u8 x11, Value.int IntKind.u8 x12, Value.int IntKind.u8 x13, Value.int
 IntKind.u8 x14, Value.int IntKind.u8 x15][0]? = some (Value.int IntKind.u8 x0), rg IntKind.u64 x0, IntKind.wrap IntKind.u64 (↑(BitVec.toNat (BitVec.ofInt 64 (slI (adI (slI (adI (slI (adI (slI (adI (slI (adI (slI (adI (slI
 (adI (0 : Int) x7) (8 : Int)) x6) (8 : Int)) x5) (8 : Int)) x4) (8 : Int)) x3) (8 : Int)) x2) (8 : Int)) x1) (8 : Int)) ||| BitVec.ofInt 64 x0)) : Int) = adI (slI (adI (slI (adI (slI (adI (slI (adI (slI (adI (slI (adI
 (slI (adI (0 : Int) x7) (8 : Int)) x6) (8 : Int)) x5) (8 : Int)) x4) (8 : Int)) x3) (8 : Int)) x2) (8 : Int)) x1) (8 : Int)) x0, (0 : Int) ≤ (8 : Int) ∧ (8 : Int) ≤ (64 : Int) ∧ rg IntKind.u64 (slI (adI (slI (adI (slI
 (adI (slI (adI (slI (adI (slI (adI (slI (adI (0 : Int) x15) (8 : Int)) x14) (8 : Int)) x13) (8 : Int)) x12) (8 : Int)) x11) (8 : Int)) x10) (8 : Int)) x9) (8 : Int)), [Value.int IntKind.u8 x0, Value.int IntKind.u8 x1,
 Value.int IntKind.u8 x2, Value.int IntKind.u8 x3, Value.int IntKind.u8 x4, Value.int IntKind.u8 x5, Value.int IntKind.u8 x6, Value.int IntKind.u8 x7, Value.int IntKind.u8 x8, Value.int IntKind.u8 x9, Value.int IntKind.u8
 x10, Value.int IntKind.u8 x11, Value.int IntKind.u8 x12, Value.int IntKind.u8 x13, Value.int IntKind.u8 x14, Value.int IntKind.u8 x15][8]? = some (Value.int IntKind.u8 x8), rg IntKind.u64 x8, IntKind.wrap IntKind.u64
 (↑(BitVec.toNat (BitVec.ofInt 64 (slI (adI (slI (adI (slI (adI (slI (adI (slI (adI (slI (adI (slI (adI (0 : Int) x15) (8 : Int)) x14) (8 : Int)) x13) (8 : Int)) x12) (8 : Int)) x11) (8 : Int)) x10) (8 : Int)) x9) (8 :
 Int)) ||| BitVec.ofInt 64 x8)) : Int) = adI (slI (adI (slI (adI (slI (adI (slI (adI (slI (adI (slI (adI (slI (adI (0 : Int) x15) (8 : Int)) x14) (8 : Int)) x13) (8 : Int)) x12) (8 : Int)) x11) (8 : Int)) x10) (8 : Int))
 x9) (8 : Int)) x8]) := by kernel_rfl
theorem wr64 (n : Int) : IntKind.wrap IntKind.u64 n = n % 18446744073709551616 := IntKind.wrap_u64 n
theorem or60 {h l : Int} (h0 : 0 ≤ h ∧ h < 10) (l0 : wf64 l) : IntKind.wrap IntKind.u64 ((BitVec.ofInt 64 (slI h 60) ||| BitVec.ofInt 64 (srI l 4)).toNat : Nat) = adI (slI h 60) (srI l 4) := by
  obtain ⟨y, rfl⟩ := Int.eq_ofNat_of_zero_le h0.1
  obtain ⟨x, rfl⟩ := Int.eq_ofNat_of_zero_le l0.1
  have e1 : slI (y : Int) 60 = ((y * 1152921504606846976 : Nat) : Int) := by rw [slI_eq]; rfl
  have e2 : srI (x : Int) 4 = ((x / 16 : Nat) : Int) := by rw [srI_eq]; rfl
  have h2 := l0.2
  rw [e1, e2, adI_eq, BitVec.or_comm, orN 60 1152921504606846976 (by decide) (by omega) (by omega), wr64]
  omega
theorem and32 {x : Int} (h : 0 ≤ x ∧ x < 18446744073709551616) : ((BitVec.ofInt 64 x &&& BitVec.ofInt 64 4294967295).toNat : Int) = x % 4294967296 := by
  obtain ⟨y, rfl⟩ := Int.eq_ofNat_of_zero_le h.1
  have hy : y < 2 ^ 64 := by have := h.2; omega
  have e : (BitVec.ofInt 64 4294967295).toNat = 2 ^ 32 - 1 := by decide
  rw [BitVec.toNat_and, BitVec.ofInt_natCast, BitVec.toNat_ofNat, Nat.mod_eq_of_lt hy, e, Nat.and_two_pow_sub_one_eq_mod]
  omega
def gDiv : GSpec := fun av tp => match av with
  | [.fl (.int .u64 h), .fl (.int .u64 l), .fl (.int .u64 10)] => some (⟨fun _ => .tuple ⟨[.int .u64 ((h * 18446744073709551616 + l) / 10), .int .u64 ((h * 18446744073709551616 + l) % 10)]⟩, []⟩, tp, [0 ≤ h ∧ h < 10, wf64 l])
  | _ => none
theorem dv_run {h l : Int} (h0 : 0 ≤ h ∧ h < 10) (l0 : wf64 l) : Ran Try.prog 46 [.int .u64 h, .int .u64 l, .int .u64 10] [] 3 ⟨fun _ => .tuple ⟨[.int .u64 ((h * 18446744073709551616 + l) / 10), .int .u64 ((h * 18446744073709551616 + l) % 10)]⟩, []⟩ := by
  have hX : XOkZ dvV Try.prog := noXz_ok rfl
  have hT : TOkZ dvV Try.prog := noTz_okV rfl
  have hL : LOkZ dvV Try.prog := noL_okV rfl
  have l1 := l0.1
  have l2 := l0.2
  by_cases hz : h = 0
  · subst hz
    refine ⟨_, _, _, _, fun n => n, run_tri hX hT hL (dv_z l) ?_ rfl, ?_⟩
    · simp only [Alls, rg]
      repeat' (first | with_reducible exact trivial | with_reducible apply And.intro)
      all_goals first | with_reducible assumption | omega | with_reducible rfl | (skip)
    · rw [dvI_eq, mdI_eq, Int.zero_mul, Int.zero_add]
      exact GrIs.flat fun σ => rfl
  · obtain ⟨u, hu⟩ : ∃ u, adI (slI h 60) (srI l 4) = u := ⟨_, rfl⟩
    have u1 : u = h * 1152921504606846976 + l / 16 := by
      have e1 : slI h 60 = h * 1152921504606846976 := by rw [slI_eq]; rfl
      have e2 : srI l 4 = l / 16 := by rw [srI_eq]; rfl
      rw [← hu, adI_eq, e1, e2]
    have e3 : slI h 60 = h * 1152921504606846976 := by rw [slI_eq]; rfl
    obtain ⟨s, hs⟩ : ∃ s, srI (IntKind.wrap IntKind.u64 (l * 1152921504606846976)) 32 = s := ⟨_, rfl⟩
    have s1 : s = l % 16 * 268435456 := by rw [← hs, t32, wr64]; omega
    obtain ⟨q, hq⟩ : ∃ q, dvI u 2684354560 = q := ⟨_, rfl⟩
    have q1 : q = u / 2684354560 := by rw [← hq, dvI_eq]
    obtain ⟨v, hv⟩ : ∃ v, IntKind.wrap IntKind.u64 (IntKind.wrap IntKind.u64 (IntKind.wrap IntKind.u64 (u * 4294967296) + s) - IntKind.wrap IntKind.u64 (q * 11529215046068469760)) = v := ⟨_, rfl⟩
    have v1 : v = (u % 2684354560) * 4294967296 + s := by rw [← hv, wr64, wr64, wr64, wr64]; omega
    obtain ⟨p, hp⟩ : ∃ p, dvI v 2684354560 = p := ⟨_, rfl⟩
    have p1 : p = v / 2684354560 := by rw [← hp, dvI_eq]
    have ha : IntKind.wrap IntKind.u64 ((BitVec.ofInt 64 (IntKind.wrap IntKind.u64 (l * 1152921504606846976)) &&& BitVec.ofInt 64 4294967295).toNat : Nat) = 0 := by
      rw [and32 (by rw [wr64]; omega), wr64, wr64]
      omega
    obtain ⟨r, hr⟩ : ∃ r, srI (IntKind.wrap IntKind.u64 (IntKind.wrap IntKind.u64 (IntKind.wrap IntKind.u64 (v * 4294967296) + 0) - IntKind.wrap IntKind.u64 (p * 11529215046068469760))) 60 = r := ⟨_, rfl⟩
    have r1 : r = (v % 2684354560) / 268435456 := by
      have e1 : ∀ x, srI x 60 = x / 1152921504606846976 := fun x => by rw [srI_eq]; rfl
      rw [← hr, e1, wr64, wr64, wr64, wr64]
      omega
    have ho := or60 h0 l0
    rw [hu] at ho
    have hR := fun o => run_tri hX hT hL (dv_g h l) o rfl
    simp only [hu, hs, hq, hv, hp, ha, hr] at hR
    have u2 : 0 ≤ u ∧ u < 11529215046068469760 := by omega
    have q2 : 0 ≤ q ∧ q < 4294967296 := by omega
    have v2 : 0 ≤ v ∧ v < 11529215046068469760 := by omega
    have p2 : 0 ≤ p ∧ p < 4294967296 := by omega
    refine ⟨_, _, _, _, fun n => n, hR ?_, ?_⟩
    · repeat' (first | exact alls_nil | refine alls_cons ?_ ?_)
      all_goals first | with_reducible assumption | omega | (simp only [rg, mlI_eq, adI_eq, e3, beq_eq_false_iff_ne, ne_eq, decide_eq_false_iff_not]; omega)
    · have g1 : adI (mlI q 4294967296) p = (h * 18446744073709551616 + l) / 10 := by rw [adI_eq, mlI_eq]; omega
      have g2 : r = (h * 18446744073709551616 + l) % 10 := by omega
      rw [g1, g2]
      exact GrIs.flat fun σ => rfl
theorem dv_gok : GOk Try.prog 46 [.f, .f, .f] gDiv := by
  intro av tp gr tp' ob hG ho hP caps hcap
  unfold gDiv at hG
  split at hG
  case h_2 => cases hG
  rename_i h l
  simp only [Option.some.injEq, Prod.mk.injEq] at hG
  obtain ⟨rfl, rfl, rfl⟩ := hG
  exact dv_run ho.1 ho.2.1
def gOfB : GSpec := fun av tp => match av with
  | [.fl (.agg ⟨[.int .u8 x0, .int .u8 x1, .int .u8 x2, .int .u8 x3, .int .u8 x4, .int .u8 x5, .int .u8 x6, .int .u8 x7, .int .u8 x8, .int .u8 x9, .int .u8 x10, .int .u8 x11, .int .u8 x12, .int .u8 x13, .int .u8 x14, .int .u8 x15]⟩)] => some (⟨fun _ => .agg ⟨[.int .u64 (x8 + 256 * (x9 + 256 * (x10 + 256 * (x11 + 256 * (x12 + 256 * (x13 + 256 * (x14 + 256 * (x15)))))))), .int .u64 (x0 + 256 * (x1 + 256 * (x2 + 256 * (x3 + 256 * (x4 + 256 * (x5 + 256 * (x6 + 256 * (x7))))))))]⟩, []⟩, tp, [0 ≤ x0 ∧ x0 < 256, 0 ≤ x1 ∧ x1 < 256, 0 ≤ x2 ∧ x2 < 256, 0 ≤ x3 ∧ x3 < 256, 0 ≤ x4 ∧ x4 < 256, 0 ≤ x5 ∧ x5 < 256, 0 ≤ x6 ∧ x6 < 256, 0 ≤ x7 ∧ x7 < 256, 0 ≤ x8 ∧ x8 < 256, 0 ≤ x9 ∧ x9 < 256, 0 ≤ x10 ∧ x10 < 256, 0 ≤ x11 ∧ x11 < 256, 0 ≤ x12 ∧ x12 < 256, 0 ≤ x13 ∧ x13 < 256, 0 ≤ x14 ∧ x14 < 256, 0 ≤ x15 ∧ x15 < 256])
  | _ => none
theorem of_gok : GOk Try.prog 42 [.f] gOfB := by
  have hX : XOkZ u8V Try.prog := noXz_ok rfl
  have hT : TOkZ u8V Try.prog := noTz_okV rfl
  have hL : LOkZ u8V Try.prog := noL_okV rfl
  intro av tp gr tp' ob hG ho hP caps hcap
  unfold gOfB at hG
  split at hG
  case h_2 => cases hG
  rename_i x0 x1 x2 x3 x4 x5 x6 x7 x8 x9 x10 x11 x12 x13 x14 x15
  simp only [Option.some.injEq, Prod.mk.injEq] at hG
  obtain ⟨rfl, rfl, rfl⟩ := hG
  obtain ⟨h0, h1, h2, h3, h4, h5, h6, h7, h8, h9, h10, h11, h12, h13, h14, h15, _⟩ := ho
  obtain ⟨⟨a0, ⟨a1, b1⟩, ⟨a2, b2⟩, ⟨a3, b3⟩, ⟨a4, b4⟩, ⟨a5, b5⟩, ⟨a6, b6⟩, a7, b7⟩, va⟩ := or_horner h0 h1 h2 h3 h4 h5 h6 h7
  obtain ⟨⟨c0, ⟨c1, d1⟩, ⟨c2, d2⟩, ⟨c3, d3⟩, ⟨c4, d4⟩, ⟨c5, d5⟩, ⟨c6, d6⟩, c7, d7⟩, vc⟩ := or_horner h8 h9 h10 h11 h12 h13 h14 h15
  have z64 : rg .u64 0 := by simp only [rg]; omega
  refine ⟨_, _, _, _, fun n => n, run_tri hX hT hL (of_r x0 x1 x2 x3 x4 x5 x6 x7 x8 x9 x10 x11 x12 x13 x14 x15) ?_ rfl, ?_⟩
  · repeat' (first | exact alls_nil | refine alls_cons ?_ ?_)
    all_goals first | with_reducible assumption | with_reducible rfl | (refine ⟨by omega, by omega, ?_⟩; assumption) | (simp only [rg]; omega) | rfl
  · rw [va, vc]
    exact GrIs.flat fun σ => rfl
end Go.Proofs.Ytpiapipmhlpmjaa
