/-
  Keys of numbers, and numbers of bytes and of keys, of any length: the program's functions and the document's, by contracts.
-/
import Derived.Test.YtpiapipmhlpmjaaU128Z
namespace Go.Proofs.Ytpiapipmhlpmjaa
set_option linter.unusedSimpArgs false
set_option linter.unusedVariables false
set_option linter.unusedSectionVars false
open Go Go.RowKit

def keV : Tv := ⟨u8T, noXz, noL, fun _ => [], orSy (lsSy 26 [(18, 0), (19, 0)]) (orSy (lsSy 25 [(9, 0), (10, 0)]) (lsSy 42 [(11, 0), (14, 0), (15, 0), (16, 7), (20, 0), (24, 0), (25, 0), (26, 7)])), fun _ => [], fun _ => 0⟩
def kbV : Tv := ⟨noTz, noXz, noL, fun f => bif Nat.beq f 25 then [6] else [8], fun _ s => bif memN s [5, 6, 7, 8] then some 0 else none, fun _ => [], fun _ => 0⟩
theorem ke_i (a b : Int) : runZ keV Try.prog 6 27 [.agg ⟨[.int .u64 a, .int .u64 b]⟩] [] 1 [] =
  Res.ok ((Value.slice (some (Addr.mk 3 0 none)) 16 16, [(19, Rw.mk Kd.shut [Value.int IntKind.u8 (b % (256 : Int))]), (18, Rw.mk Kd.shut [Value.int IntKind.u8 (b / (256 : Int) % (256 : Int))]), (17, Rw.mk Kd.shut
 [Value.int IntKind.u8 (b / (65536 : Int) % (256 : Int))]), (16, Rw.mk Kd.shut [Value.int IntKind.u8 (b / (16777216 : Int) % (256 : Int))]), (15, Rw.mk Kd.shut [Value.int IntKind.u8 (b / (4294967296 : Int) % (256 :
 Int))]), (14, Rw.mk Kd.shut [Value.int IntKind.u8 (b / (1099511627776 : Int) % (256 : Int))]), (13, Rw.mk Kd.shut [Value.int IntKind.u8 (b / (281474976710656 : Int) % (256 : Int))]), (12, Rw.mk Kd.shut [Value.int
 IntKind.u8 (b / (72057594037927936 : Int) % (256 : Int))]), (11, Rw.mk Kd.shut [Value.int IntKind.u8 (a % (256 : Int))]), (10, Rw.mk Kd.shut [Value.int IntKind.u8 (a / (256 : Int) % (256 : Int))]), (9, Rw.mk Kd.shut
 [Value.int IntKind.u8 (a / (65536 : Int) % (256 : Int))]), (8, Rw.mk Kd.shut [Value.int IntKind.u8 (a / (16777216 : Int) % (256 : Int))]), (7, Rw.mk Kd.shut [Value.int IntKind.u8 (a / (4294967296 : Int) % (256 : Int))]),
 (6, Rw.mk Kd.shut [Value.int IntKind.u8 (a / (1099511627776 : Int) % (256 : Int))]), (5, Rw.mk Kd.shut [Value.int IntKind.u8 (a / (281474976710656 : Int) % (256 : Int))]), (4, Rw.mk Kd.shut [Value.int IntKind.u8 (a /
 (72057594037927936 : Int) % (256 : Int))]), (3, Rw.mk Kd.shut [Value.int IntKind.u8 (a / (72057594037927936 : Int) % (256 : Int)), Value.int IntKind.u8 (a / (281474976710656 : Int) % (256 : Int)), Value.int IntKind.u8 (a
 / (1099511627776 : Int) % (256 : Int)), Value.int IntKind.u8 (a / (4294967296 : Int) % (256 : Int)), Value.int IntKind.u8 (a / (16777216 : Int) % (256 : Int)), Value.int IntKind.u8 (a / (65536 : Int) % (256 : Int)),
 Value.int IntKind.u8 (a / (256 : Int) % (256 : Int)), Value.int IntKind.u8 (a % (256 : Int)), Value.int IntKind.u8 (b / (72057594037927936 : Int) % (256 : Int)), Value.int IntKind.u8 (b / (281474976710656 : Int) % (256 :
 Int)), Value.int IntKind.u8 (b / (1099511627776 : Int) % (256 : Int)), Value.int IntKind.u8 (b / (4294967296 : Int) % (256 : Int)), Value.int IntKind.u8 (b / (16777216 : Int) % (256 : Int)), Value.int IntKind.u8 (b /
 (65536 : Int) % (256 : Int)), Value.int IntKind.u8 (b / (256 : Int) % (256 : Int)), Value.int IntKind.u8 (b % (256 : Int))]), (2, Rw.mk Kd.shut [Value.int IntKind.u8 (b % (256 : Int)), Value.int IntKind.u8 (b / (256 :
 Int) % (256 : Int)), Value.int IntKind.u8 (b / (65536 : Int) % (256 : Int)), Value.int IntKind.u8 (b / (16777216 : Int) % (256 : Int)), Value.int IntKind.u8 (b / (4294967296 : Int) % (256 : Int)), Value.int IntKind.u8 (b
 / (1099511627776 : Int) % (256 : Int)), Value.int IntKind.u8 (b / (281474976710656 : Int) % (256 : Int)), Value.int IntKind.u8 (b / (72057594037927936 : Int) % (256 : Int)), Value.int IntKind.u8 (a % (256 : Int)),
 Value.int IntKind.u8 (a / (256 : Int) % (256 : Int)), Value.int IntKind.u8 (a / (65536 : Int) % (256 : Int)), Value.int IntKind.u8 (a / (16777216 : Int) % (256 : Int)), Value.int IntKind.u8 (a / (4294967296 : Int) % (256
 : Int)), Value.int IntKind.u8 (a / (1099511627776 : Int) % (256 : Int)), Value.int IntKind.u8 (a / (281474976710656 : Int) % (256 : Int)), Value.int IntKind.u8 (a / (72057594037927936 : Int) % (256 : Int))]), (1, Rw.mk
 Kd.shut [Value.int IntKind.u64 a, Value.int IntKind.u64 b])], 20, []), [], []) := by kernel_rfl
theorem ke_r (a b : Int) : runZ keV Try.prog 6 29 [.agg ⟨[.int .u64 a, .int .u64 b]⟩] [] 1 [] =
  Res.ok ((Value.slice (some (Addr.mk 34 0 none)) 16 (capBig + 34), [(34, Rw.mk (Kd.room 1 [Value.int IntKind.u8 (0 : Int)]) [Value.int IntKind.u8 (a / (72057594037927936 : Int) % (256 : Int)), Value.int IntKind.u8 (a /
 (281474976710656 : Int) % (256 : Int)), Value.int IntKind.u8 (a / (1099511627776 : Int) % (256 : Int)), Value.int IntKind.u8 (a / (4294967296 : Int) % (256 : Int)), Value.int IntKind.u8 (a / (16777216 : Int) % (256 :
 Int)), Value.int IntKind.u8 (a / (65536 : Int) % (256 : Int)), Value.int IntKind.u8 (a / (256 : Int) % (256 : Int)), Value.int IntKind.u8 (a % (256 : Int)), Value.int IntKind.u8 (b / (72057594037927936 : Int) % (256 :
 Int)), Value.int IntKind.u8 (b / (281474976710656 : Int) % (256 : Int)), Value.int IntKind.u8 (b / (1099511627776 : Int) % (256 : Int)), Value.int IntKind.u8 (b / (4294967296 : Int) % (256 : Int)), Value.int IntKind.u8 (b
 / (16777216 : Int) % (256 : Int)), Value.int IntKind.u8 (b / (65536 : Int) % (256 : Int)), Value.int IntKind.u8 (b / (256 : Int) % (256 : Int)), Value.int IntKind.u8 (b % (256 : Int))]), (33, Rw.mk Kd.shut [Value.int
 IntKind.u8 (b % (256 : Int))]), (31, Rw.mk Kd.shut [Value.int IntKind.u8 (b / (256 : Int) % (256 : Int))]), (29, Rw.mk Kd.shut [Value.int IntKind.u8 (b / (65536 : Int) % (256 : Int))]), (27, Rw.mk Kd.shut [Value.int
 IntKind.u8 (b / (16777216 : Int) % (256 : Int))]), (25, Rw.mk Kd.shut [Value.int IntKind.u8 (b / (4294967296 : Int) % (256 : Int))]), (23, Rw.mk Kd.shut [Value.int IntKind.u8 (b / (1099511627776 : Int) % (256 : Int))]),
 (21, Rw.mk Kd.shut [Value.int IntKind.u8 (b / (281474976710656 : Int) % (256 : Int))]), (19, Rw.mk Kd.shut [Value.int IntKind.u8 (b / (72057594037927936 : Int) % (256 : Int))]), (17, Rw.mk Kd.shut [Value.int IntKind.u8 (a
 % (256 : Int))]), (15, Rw.mk Kd.shut [Value.int IntKind.u8 (a / (256 : Int) % (256 : Int))]), (13, Rw.mk Kd.shut [Value.int IntKind.u8 (a / (65536 : Int) % (256 : Int))]), (11, Rw.mk Kd.shut [Value.int IntKind.u8 (a /
 (16777216 : Int) % (256 : Int))]), (9, Rw.mk Kd.shut [Value.int IntKind.u8 (a / (4294967296 : Int) % (256 : Int))]), (7, Rw.mk Kd.shut [Value.int IntKind.u8 (a / (1099511627776 : Int) % (256 : Int))]), (5, Rw.mk Kd.shut
 [Value.int IntKind.u8 (a / (281474976710656 : Int) % (256 : Int))]), (3, Rw.mk Kd.shut [Value.int IntKind.u8 (a / (72057594037927936 : Int) % (256 : Int))]), (2, Rw.mk Kd.shut [Value.int IntKind.u8 (b % (256 : Int)),
 Value.int IntKind.u8 (b / (256 : Int) % (256 : Int)), Value.int IntKind.u8 (b / (65536 : Int) % (256 : Int)), Value.int IntKind.u8 (b / (16777216 : Int) % (256 : Int)), Value.int IntKind.u8 (b / (4294967296 : Int) % (256
 : Int)), Value.int IntKind.u8 (b / (1099511627776 : Int) % (256 : Int)), Value.int IntKind.u8 (b / (281474976710656 : Int) % (256 : Int)), Value.int IntKind.u8 (b / (72057594037927936 : Int) % (256 : Int)), Value.int
 IntKind.u8 (a % (256 : Int)), Value.int IntKind.u8 (a / (256 : Int) % (256 : Int)), Value.int IntKind.u8 (a / (65536 : Int) % (256 : Int)), Value.int IntKind.u8 (a / (16777216 : Int) % (256 : Int)), Value.int IntKind.u8
 (a / (4294967296 : Int) % (256 : Int)), Value.int IntKind.u8 (a / (1099511627776 : Int) % (256 : Int)), Value.int IntKind.u8 (a / (281474976710656 : Int) % (256 : Int)), Value.int IntKind.u8 (a / (72057594037927936 : Int)
 % (256 : Int))]), (1, Rw.mk Kd.shut [Value.int IntKind.u64 a, Value.int IntKind.u64 b])], 35, []), [], []) := by kernel_rfl
theorem kr_i (xs : List Value) (c : Nat) : runZ keV Try.prog 6 25 [.slice (some ⟨0, 0, none⟩) 16 c] [(0, ⟨.old, xs⟩)] 1 [] =
  Res.ok ((Value.tuple (Array.mk [Value.agg (Array.mk [Value.int IntKind.u64 (r8 [Value.int IntKind.u8 (intAt xs 7), Value.int IntKind.u8 (intAt xs 6), Value.int IntKind.u8 (intAt xs 5), Value.int IntKind.u8 (intAt xs 4),
 Value.int IntKind.u8 (intAt xs 3), Value.int IntKind.u8 (intAt xs 2), Value.int IntKind.u8 (intAt xs 1), Value.int IntKind.u8 (intAt xs 0)]), Value.int IntKind.u64 (r8 [Value.int IntKind.u8 (intAt xs 15), Value.int
 IntKind.u8 (intAt xs 14), Value.int IntKind.u8 (intAt xs 13), Value.int IntKind.u8 (intAt xs 12), Value.int IntKind.u8 (intAt xs 11), Value.int IntKind.u8 (intAt xs 10), Value.int IntKind.u8 (intAt xs 9), Value.int
 IntKind.u8 (intAt xs 8), Value.int IntKind.u8 (intAt xs 7), Value.int IntKind.u8 (intAt xs 6), Value.int IntKind.u8 (intAt xs 5), Value.int IntKind.u8 (intAt xs 4), Value.int IntKind.u8 (intAt xs 3), Value.int IntKind.u8
 (intAt xs 2), Value.int IntKind.u8 (intAt xs 1), Value.int IntKind.u8 (intAt xs 0)])]), Value.int IntKind.i64 (0 : Int)]), [(0, Rw.mk Kd.old xs)], 20, []), [], [List.take 16 (List.drop 0 xs) = [Value.int IntKind.u8 (intAt
 xs 0), Value.int IntKind.u8 (intAt xs 1), Value.int IntKind.u8 (intAt xs 2), Value.int IntKind.u8 (intAt xs 3), Value.int IntKind.u8 (intAt xs 4), Value.int IntKind.u8 (intAt xs 5), Value.int IntKind.u8 (intAt xs 6),
 Value.int IntKind.u8 (intAt xs 7), Value.int IntKind.u8 (intAt xs 8), Value.int IntKind.u8 (intAt xs 9), Value.int IntKind.u8 (intAt xs 10), Value.int IntKind.u8 (intAt xs 11), Value.int IntKind.u8 (intAt xs 12),
 Value.int IntKind.u8 (intAt xs 13), Value.int IntKind.u8 (intAt xs 14), Value.int IntKind.u8 (intAt xs 15)], 16 ≤ 16 ∧ 16 ≤ 9223372036854775807, 16 ≤ 16, Fl [Value.int IntKind.u8 (intAt xs 15), Value.int IntKind.u8 (intAt
 xs 14), Value.int IntKind.u8 (intAt xs 13), Value.int IntKind.u8 (intAt xs 12), Value.int IntKind.u8 (intAt xs 11), Value.int IntKind.u8 (intAt xs 10), Value.int IntKind.u8 (intAt xs 9), Value.int IntKind.u8 (intAt xs 8),
 Value.int IntKind.u8 (intAt xs 7), Value.int IntKind.u8 (intAt xs 6), Value.int IntKind.u8 (intAt xs 5), Value.int IntKind.u8 (intAt xs 4), Value.int IntKind.u8 (intAt xs 3), Value.int IntKind.u8 (intAt xs 2), Value.int
 IntKind.u8 (intAt xs 1), Value.int IntKind.u8 (intAt xs 0)], Byts [Value.int IntKind.u8 (intAt xs 15), Value.int IntKind.u8 (intAt xs 14), Value.int IntKind.u8 (intAt xs 13), Value.int IntKind.u8 (intAt xs 12), Value.int
 IntKind.u8 (intAt xs 11), Value.int IntKind.u8 (intAt xs 10), Value.int IntKind.u8 (intAt xs 9), Value.int IntKind.u8 (intAt xs 8), Value.int IntKind.u8 (intAt xs 7), Value.int IntKind.u8 (intAt xs 6), Value.int
 IntKind.u8 (intAt xs 5), Value.int IntKind.u8 (intAt xs 4), Value.int IntKind.u8 (intAt xs 3), Value.int IntKind.u8 (intAt xs 2), Value.int IntKind.u8 (intAt xs 1), Value.int IntKind.u8 (intAt xs 0)], 16 = 16]) := by kernel_rfl
theorem kr_r (xs : List Value) (c : Nat) : runZ keV Try.prog 6 26 [.slice (some ⟨0, 0, none⟩) 16 c] [(0, ⟨.old, xs⟩)] 1 [] =
  Res.ok ((Value.tuple (Array.mk [Value.agg (Array.mk [Value.int IntKind.u64 (adI (slI (adI (slI (adI (slI (adI (slI (adI (slI (adI (slI (adI (slI (adI (0 : Int) (intAt xs 0)) (8 : Int)) (intAt xs 1)) (8 : Int)) (intAt xs
 2)) (8 : Int)) (intAt xs 3)) (8 : Int)) (intAt xs 4)) (8 : Int)) (intAt xs 5)) (8 : Int)) (intAt xs 6)) (8 : Int)) (intAt xs 7)), Value.int IntKind.u64 (adI (slI (adI (slI (adI (slI (adI (slI (adI (slI (adI (slI (adI (slI
 (adI (0 : Int) (intAt xs 8)) (8 : Int)) (intAt xs 9)) (8 : Int)) (intAt xs 10)) (8 : Int)) (intAt xs 11)) (8 : Int)) (intAt xs 12)) (8 : Int)) (intAt xs 13)) (8 : Int)) (intAt xs 14)) (8 : Int)) (intAt xs 15))]),
 Value.int IntKind.i64 (0 : Int)]), [(0, Rw.mk Kd.old xs)], 6, []), [], [(0 : Int) ≤ (0 : Int) ∧ (0 : Int) < (16 : Int), xs[0]? = some (Value.int IntKind.u8 (intAt xs 0)), (0 : Int) ≤ (1 : Int) ∧ (1 : Int) < (16 : Int),
 xs[1]? = some (Value.int IntKind.u8 (intAt xs 1)), (0 : Int) ≤ (2 : Int) ∧ (2 : Int) < (16 : Int), xs[2]? = some (Value.int IntKind.u8 (intAt xs 2)), (0 : Int) ≤ (3 : Int) ∧ (3 : Int) < (16 : Int), xs[3]? = some
 (Value.int IntKind.u8 (intAt xs 3)), (0 : Int) ≤ (4 : Int) ∧ (4 : Int) < (16 : Int), xs[4]? = some (Value.int IntKind.u8 (intAt xs 4)), (0 : Int) ≤ (5 : Int) ∧ (5 : Int) < (16 : Int), xs[5]? = some (Value.int IntKind.u8
 (intAt xs 5)), (0 : Int) ≤ (6 : Int) ∧ (6 : Int) < (16 : Int), xs[6]? = some (Value.int IntKind.u8 (intAt xs 6)), (0 : Int) ≤ (7 : Int) ∧ (7 : Int) < (16 : Int), xs[7]? = some (Value.int IntKind.u8 (intAt xs 7)), (0 :
 Int) ≤ (8 : Int) ∧ (8 : Int) < (16 : Int), xs[8]? = some (Value.int IntKind.u8 (intAt xs 8)), (0 : Int) ≤ (9 : Int) ∧ (9 : Int) < (16 : Int), xs[9]? = some (Value.int IntKind.u8 (intAt xs 9)), (0 : Int) ≤ (10 : Int) ∧ (10
 : Int) < (16 : Int), xs[10]? = some (Value.int IntKind.u8 (intAt xs 10)), (0 : Int) ≤ (11 : Int) ∧ (11 : Int) < (16 : Int), xs[11]? = some (Value.int IntKind.u8 (intAt xs 11)), (0 : Int) ≤ (12 : Int) ∧ (12 : Int) < (16 :
 Int), xs[12]? = some (Value.int IntKind.u8 (intAt xs 12)), (0 : Int) ≤ (13 : Int) ∧ (13 : Int) < (16 : Int), xs[13]? = some (Value.int IntKind.u8 (intAt xs 13)), (0 : Int) ≤ (14 : Int) ∧ (14 : Int) < (16 : Int), xs[14]? =
 some (Value.int IntKind.u8 (intAt xs 14)), (0 : Int) ≤ (15 : Int) ∧ (15 : Int) < (16 : Int), xs[15]? = some (Value.int IntKind.u8 (intAt xs 15)), (0 : Int) ≤ (8 : Int) ∧ (8 : Int) ≤ (64 : Int) ∧ rg IntKind.u64 (0 : Int),
 [Value.int IntKind.u8 (intAt xs 15), Value.int IntKind.u8 (intAt xs 14), Value.int IntKind.u8 (intAt xs 13), Value.int IntKind.u8 (intAt xs 12), Value.int IntKind.u8 (intAt xs 11), Value.int IntKind.u8 (intAt xs 10),
 Value.int IntKind.u8 (intAt xs 9), Value.int IntKind.u8 (intAt xs 8), Value.int IntKind.u8 (intAt xs 7), Value.int IntKind.u8 (intAt xs 6), Value.int IntKind.u8 (intAt xs 5), Value.int IntKind.u8 (intAt xs 4), Value.int
 IntKind.u8 (intAt xs 3), Value.int IntKind.u8 (intAt xs 2), Value.int IntKind.u8 (intAt xs 1), Value.int IntKind.u8 (intAt xs 0)][7]? = some (Value.int IntKind.u8 (intAt xs 8)), rg IntKind.u64 (intAt xs 8), IntKind.wrap
 IntKind.u64 (↑(BitVec.toNat (BitVec.ofInt 64 (0 : Int) ||| BitVec.ofInt 64 (intAt xs 8))) : Int) = adI (0 : Int) (intAt xs 8), (0 : Int) ≤ (8 : Int) ∧ (8 : Int) ≤ (64 : Int) ∧ rg IntKind.u64 (0 : Int), [Value.int
 IntKind.u8 (intAt xs 15), Value.int IntKind.u8 (intAt xs 14), Value.int IntKind.u8 (intAt xs 13), Value.int IntKind.u8 (intAt xs 12), Value.int IntKind.u8 (intAt xs 11), Value.int IntKind.u8 (intAt xs 10), Value.int
 IntKind.u8 (intAt xs 9), Value.int IntKind.u8 (intAt xs 8), Value.int IntKind.u8 (intAt xs 7), Value.int IntKind.u8 (intAt xs 6), Value.int IntKind.u8 (intAt xs 5), Value.int IntKind.u8 (intAt xs 4), Value.int IntKind.u8
 (intAt xs 3), Value.int IntKind.u8 (intAt xs 2), Value.int IntKind.u8 (intAt xs 1), Value.int IntKind.u8 (intAt xs 0)][15]? = some (Value.int IntKind.u8 (intAt xs 0)), rg IntKind.u64 (intAt xs 0), IntKind.wrap IntKind.u64
 (↑(BitVec.toNat (BitVec.ofInt 64 (0 : Int) ||| BitVec.ofInt 64 (intAt xs 0))) : Int) = adI (0 : Int) (intAt xs 0), (0 : Int) ≤ (8 : Int) ∧ (8 : Int) ≤ (64 : Int) ∧ rg IntKind.u64 (slI (adI (0 : Int) (intAt xs 8)) (8 :
 Int)), [Value.int IntKind.u8 (intAt xs 15), Value.int IntKind.u8 (intAt xs 14), Value.int IntKind.u8 (intAt xs 13), Value.int IntKind.u8 (intAt xs 12), Value.int IntKind.u8 (intAt xs 11), Value.int IntKind.u8 (intAt xs
 10), Value.int IntKind.u8 (intAt xs 9), Value.int IntKind.u8 (intAt xs 8), Value.int IntKind.u8 (intAt xs 7), Value.int IntKind.u8 (intAt xs 6), Value.int IntKind.u8 (intAt xs 5), Value.int IntKind.u8 (intAt xs 4),
 Value.int IntKind.u8 (intAt xs 3), Value.int IntKind.u8 (intAt xs 2), Value.int IntKind.u8 (intAt xs 1), Value.int IntKind.u8 (intAt xs 0)][6]? = some (Value.int IntKind.u8 (intAt xs 9)), rg IntKind.u64 (intAt xs 9),
 IntKind.wrap IntKind.u64 (↑(BitVec.toNat (BitVec.ofInt 64 (slI (adI (0 : Int) (intAt xs 8)) (8 : Int)) ||| BitVec.ofInt 64 (intAt xs 9))) : Int) = adI (slI (adI (0 : Int) (intAt xs 8)) (8 : Int)) (intAt xs 9), (0 : Int) ≤
 (8 : Int) ∧ (8 : Int) ≤ (64 : Int) ∧ rg IntKind.u64 (slI (adI (0 : Int) (intAt xs 0)) (8 : Int)), [Value.int IntKind.u8 (intAt xs 15), Value.int IntKind.u8 (intAt xs 14), Value.int IntKind.u8 (intAt xs 13), Value.int
 IntKind.u8 (intAt xs 12), Value.int IntKind.u8 (intAt xs 11), Value.int IntKind.u8 (intAt xs 10), Value.int IntKind.u8 (intAt xs 9), Value.int IntKind.u8 (intAt xs 8), Value.int IntKind.u8 (intAt xs 7), Value.int
 IntKind.u8 (intAt xs 6), Value.int IntKind.u8 (intAt xs 5), Value.int IntKind.u8 (intAt xs 4), Value.int IntKind.u8 (intAt xs 3), Value.int IntKind.u8 (intAt xs 2), Value.int IntKind.u8 (intAt xs 1), Value.int IntKind.u8
 (intAt xs 0)][14]? = some (Value.int IntKind.u8 (intAt xs 1)), rg IntKind.u64 (intAt xs 1), IntKind.wrap IntKind.u64 (↑(BitVec.toNat (BitVec.ofInt 64 (slI (adI (0 : Int) (intAt xs 0)) (8 : Int)) ||| BitVec.ofInt 64 (intAt
 xs 1))) : Int) = adI (slI (adI (0 : Int) (intAt xs 0)) (8 : Int)) (intAt xs 1), (0 : Int) ≤ (8 : Int) ∧ (8 : Int) ≤ (64 : Int) ∧ rg IntKind.u64 (slI (adI (slI (adI (0 : Int) (intAt xs 8)) (8 : Int)) (intAt xs 9)) (8 :
 Int)), [Value.int IntKind.u8 (intAt xs 15), Value.int IntKind.u8 (intAt xs 14), Value.int IntKind.u8 (intAt xs 13), Value.int IntKind.u8 (intAt xs 12), Value.int IntKind.u8 (intAt xs 11), Value.int IntKind.u8 (intAt xs
 10), Value.int IntKind.u8 (intAt xs 9), Value.int IntKind.u8 (intAt xs 8), Value.int IntKind.u8 (intAt xs 7), Value.int IntKind.u8 (intAt xs 6), Value.int IntKind.u8 (intAt xs 5), Value.int IntKind.u8 (intAt xs 4),
 Value.int IntKind.u8 (intAt xs 3), Value.int IntKind.u8 (intAt xs 2), Value.int IntKind.u8 (intAt xs 1), Value.int IntKind.u8 (intAt xs 0)][5]? = some (Value.int IntKind.u8 (intAt xs 10)), rg IntKind.u64 (intAt xs 10),
 IntKind.wrap IntKind.u64 (↑(BitVec.toNat (BitVec.ofInt 64 (slI (adI (slI (adI (0 : Int) (intAt xs 8)) (8 : Int)) (intAt xs 9)) (8 : Int)) ||| BitVec.ofInt 64 (intAt xs 10))) : Int) = adI (slI (adI (slI (adI (0 : Int)
 (intAt xs 8)) (8 : Int)) (intAt xs 9)) (8 : Int)) (intAt xs 10), (0 : Int) ≤ (8 : Int) ∧ (8 : Int) ≤ (64 : Int) ∧ rg IntKind.u64 (slI (adI (slI (adI (0 : Int) (intAt xs 0)) (8 : Int)) (intAt xs 1)) (8 : Int)), [Value.int
 IntKind.u8 (intAt xs 15), Value.int IntKind.u8 (intAt xs 14), Value.int IntKind.u8 (intAt xs 13), Value.int IntKind.u8 (intAt xs 12), Value.int IntKind.u8 (intAt xs 11), Value.int IntKind.u8 (intAt xs 10), Value.int
 IntKind.u8 (intAt xs 9), Value.int IntKind.u8 (intAt xs 8), Value.int IntKind.u8 (intAt xs 7), Value.int IntKind.u8 (intAt xs 6), Value.int IntKind.u8 (intAt xs 5), Value.int IntKind.u8 (intAt xs 4), Value.int IntKind.u8
 (intAt xs 3), Value.int IntKind.u8 (intAt xs 2), Value.int IntKind.u8 (intAt xs 1), Value.int IntKind.u8 (intAt xs 0)][13]? = some (Value.int IntKind.u8 (intAt xs 2)), rg IntKind.u64 (intAt xs 2), IntKind.wrap IntKind.u64
 (↑(BitVec.toNat (BitVec.ofInt 64 (slI (adI (slI (adI (0 : Int) (intAt xs 0)) (8 : Int)) (intAt xs 1)) (8 : Int)) ||| BitVec.ofInt 64 (intAt xs 2))) : Int) = adI (slI (adI (slI (adI (0 : Int) (intAt xs 0)) (8 : Int))
 (intAt xs 1)) (8 : Int)) (intAt xs 2), (0 : Int) ≤ (8 : Int) ∧ (8 : Int) ≤ (64 : Int) ∧ rg IntKind.u64 (slI (adI (slI (adI (slI (adI (0 : Int) (intAt xs 8)) (8 : Int)) (intAt xs 9)) (8 : Int)) (intAt xs 10)) (8 : Int)),
 [Value.int IntKind.u8 (intAt xs 15), Value.int IntKind.u8 (intAt xs 14), Value.int IntKind.u8 (intAt xs 13), Value.int IntKind.u8 (intAt xs 12), Value.int IntKind.u8 (intAt xs 11), Value.int IntKind.u8 (intAt xs 10),
 Value.int IntKind.u8 (intAt xs 9), Value.int IntKind.u8 (intAt xs 8), Value.int IntKind.u8 (intAt xs 7), Value.int IntKind.u8 (intAt xs 6), Value.int IntKind.u8 (intAt xs 5), Value.int IntKind.u8 (intAt xs 4), Value.int
 IntKind.u8 (intAt xs 3), Value.int IntKind.u8 (intAt xs 2), Value.int IntKind.u8 (intAt xs 1), Value.int IntKind.u8 (intAt xs 0)][4]? = some (Value.int IntKind.u8 (intAt xs 11)), rg IntKind.u64 (intAt xs 11), IntKind.wrap
 IntKind.u64 (↑(BitVec.toNat (BitVec.ofInt 64 (slI (adI (slI (adI (slI (adI (0 : Int) (intAt xs 8)) (8 : Int)) (intAt xs 9)) (8 : Int)) (intAt xs 10)) (8 : Int)) ||| BitVec.ofInt 64 (intAt xs 11))) : Int) = adI (slI (adI
 (slI (adI (slI (adI (0 : Int) (intAt xs 8)) (8 : Int)) (intAt xs 9)) (8 : Int)) (intAt xs 10)) (8 : Int)) (intAt xs 11), (0 : Int) ≤ (8 : Int) ∧ (8 : Int) ≤ (64 : Int) ∧ rg IntKind.u64 (slI (adI (slI (adI (slI (adI (0 :
 Int) (intAt xs 0)) (8 : Int)) (intAt xs 1)) (8 : Int)) (intAt xs 2)) (8 : Int)), [Value.int IntKind.u8 (intAt xs 15), Value.int IntKind.u8 (intAt xs 14), Value.int IntKind.u8 (intAt xs 13), Value.int IntKind.u8 (intAt xs
 12), Value.int IntKind.u8 (intAt xs 11), Value.int IntKind.u8 (intAt xs 10), Value.int IntKind.u8 (intAt xs 9), Value.int IntKind.u8 (intAt xs 8), Value.int IntKind.u8 (intAt xs 7), Value.int IntKind.u8 (intAt xs 6),
 Value.int IntKind.u8 (intAt xs 5), Value.int IntKind.u8 (intAt xs 4), Value.int IntKind.u8 (intAt xs 3), Value.int IntKind.u8 (intAt xs 2), Value.int IntKind.u8 (intAt xs 1), Value.int IntKind.u8 (intAt xs 0)][12]? = some
 (Value.int IntKind.u8 (intAt xs 3)), rg IntKind.u64 (intAt xs 3), IntKind.wrap IntKind.u64 (↑(BitVec.toNat (BitVec.ofInt 64 (slI (adI (slI (adI (slI (adI (0 : Int) (intAt xs 0)) (8 : Int)) (intAt xs 1)) (8 : Int)) (intAt
 xs 2)) (8 : Int)) ||| BitVec.ofInt 64 (intAt xs 3))) : Int) = adI (slI (adI (slI (adI (slI (adI (0 : Int) (intAt xs 0)) (8 : Int)) (intAt xs 1)) (8 : Int)) (intAt xs 2)) (8 : Int)) (intAt xs 3), (0 : Int) ≤ (8 : Int) ∧ (8
 : Int) ≤ (64 : Int) ∧ rg IntKind.u64 (slI (adI (slI (adI (slI (adI (slI (adI (0 : Int) (intAt xs 8)) (8 : Int)) (intAt xs 9)) (8 : Int)) (intAt xs 10)) (8 : Int)) (intAt xs 11)) (8 : Int)), [Value.int IntKind.u8 (intAt xs
 15), Value.int IntKind.u8 (intAt xs 14), Value.int IntKind.u8 (intAt xs 13), Value.int IntKind.u8 (intAt xs 12), Value.int IntKind.u8 (intAt xs 11), Value.int IntKind.u8 (intAt xs 10), Value.int IntKind.u8 (intAt xs 9),
 Value.int IntKind.u8 (intAt xs 8), Value.int IntKind.u8 (intAt xs 7), Value.int IntKind.u8 (intAt xs 6), Value.int IntKind.u8 (intAt xs 5), Value.int IntKind.u8 (intAt xs 4), Value.int IntKind.u8 (intAt xs 3), Value.int
 IntKind.u8 (intAt xs 2), Value.int IntKind.u8 (intAt xs 1), Value.int IntKind.u8 (intAt xs 0)][3]? = some (Value.int IntKind.u8 (intAt xs 12)), rg IntKind.u64 (intAt xs 12), IntKind.wrap IntKind.u64 (↑(BitVec.toNat
 (BitVec.ofInt 64 (slI (adI (slI (adI (slI (adI (slI (adI (0 : Int) (intAt xs 8)) (8 : Int)) (intAt xs 9)) (8 : Int)) (intAt xs 10)) (8 : Int)) (intAt xs 11)) (8 : Int)) ||| BitVec.ofInt 64 (intAt xs 12))) : Int) = adI
 (slI (adI (slI (adI (slI (adI (slI (adI (0 : Int) (intAt xs 8)) (8 : Int)) (intAt xs 9)) (8 : Int)) (intAt xs 10)) (8 : Int)) (intAt xs 11)) (8 : Int)) (intAt xs 12), (0 : Int) ≤ (8 : Int) ∧ (8 : Int) ≤ (64 : Int) ∧ rg
 IntKind.u64 (slI (adI (slI (adI (slI (adI (slI (adI (0 : Int) (intAt xs 0)) (8 : Int)) (intAt xs 1)) (8 : Int)) (intAt xs 2)) (8 : Int)) (intAt xs 3)) (8 : Int)), [Value.int IntKind.u8 (intAt xs 15), Value.int IntKind.u8
 (intAt xs 14), Value.int IntKind.u8 (intAt xs 13), Value.int IntKind.u8 (intAt xs 12), Value.int IntKind.u8 (intAt xs 11), Value.int IntKind.u8 (intAt xs 10), Value.int IntKind.u8 (intAt xs 9), Value.int IntKind.u8 (intAt
 xs 8), Value.int IntKind.u8 (intAt xs 7), Value.int IntKind.u8 (intAt xs 6), Value.int IntKind.u8 (intAt xs 5), Value.int IntKind.u8 (intAt xs 4), Value.int IntKind.u8 (intAt xs 3), Value.int IntKind.u8 (intAt xs 2),
 Value.int IntKind.u8 (intAt xs 1), Value.int IntKind.u8 (intAt xs 0)][11]? = some (Value.int IntKind.u8 (intAt xs 4)), rg IntKind.u64 (intAt xs 4), IntKind.wrap IntKind.u64 (↑(BitVec.toNat (BitVec.ofInt 64 (slI (adI (slI
 (adI (slI (adI (slI (adI (0 : Int) (intAt xs 0)) (8 : Int)) (intAt xs 1)) (8 : Int)) (intAt xs 2)) (8 : Int)) (intAt xs 3)) (8 : Int)) ||| BitVec.ofInt 64 (intAt xs 4))) : Int) = adI (slI (adI (slI (adI (slI (adI (slI
 (adI (0 : Int) (intAt xs 0)) (8 : Int)) (intAt xs 1)) (8 : Int)) (intAt xs 2)) (8 : Int)) (intAt xs 3)) (8 : Int)) (intAt xs 4), (0 : Int) ≤ (8 : Int) ∧ (8 : Int) ≤ (64 : Int) ∧ rg IntKind.u64 (slI (adI (slI (adI (slI
 (adI (slI (adI (slI (adI (0 : Int) (intAt xs 8)) (8 : Int)) (intAt xs 9)) (8 : Int)) (intAt xs 10)) (8 : Int)) (intAt xs 11)) (8 : Int)) (intAt xs 12)) (8 : Int)), [Value.int IntKind.u8 (intAt xs 15), Value.int IntKind.u8
 (intAt xs 14), Value.int IntKind.u8 (intAt xs 13), Value.int IntKind.u8 (intAt xs 12), Value.int IntKind.u8 (intAt xs 11), Value.int IntKind.u8 (intAt xs 10), Value.int IntKind.u8 (intAt xs 9), Value.int IntKind.u8 (intAt
 xs 8), Value.int IntKind.u8 (intAt xs 7), Value.int IntKind.u8 (intAt xs 6), Value.int IntKind.u8 (intAt xs 5), Value.int IntKind.u8 (intAt xs 4), Value.int IntKind.u8 (intAt xs 3), Value.int IntKind.u8 (intAt xs 2),
 Value.int IntKind.u8 (intAt xs 1), Value.int IntKind.u8 (intAt xs 0)][2]? = some (Value.int IntKind.u8 (intAt xs 13)), rg IntKind.u64 (intAt xs 13), IntKind.wrap IntKind.u64 (↑(BitVec.toNat (BitVec.ofInt 64 (slI (adI (slI
 (adI (slI (adI (slI (adI (slI (adI (0 : Int) (intAt xs 8)) (8 : Int)) (intAt xs 9)) (8 : Int)) (intAt xs 10)) (8 : Int)) (intAt xs 11)) (8 : Int)) (intAt xs 12)) (8 : Int)) ||| BitVec.ofInt 64 (intAt xs 13))) : Int) = adI
 (slI (adI (slI (adI (slI (adI (slI (adI (slI (adI (0 : Int) (intAt xs 8)) (8 : Int)) (intAt xs 9)) (8 : Int)) (intAt xs 10)) (8 : Int)) (intAt xs 11)) (8 : Int)) (intAt xs 12)) (8 : Int)) (intAt xs 13), (0 : Int) ≤ (8 :
 Int) ∧ (8 : Int) ≤ (64 : Int) ∧ rg IntKind.u64 (slI (adI (slI (adI (slI (adI (slI (adI (slI (adI (0 : Int) (intAt xs 0)) (8 : Int)) (intAt xs 1)) (8 : Int)) (intAt xs 2)) (8 : Int)) (intAt xs 3)) (8 : Int)) (intAt xs 4))
 (8 : Int)), [Value.int IntKind.u8 (intAt xs 15), Value.int IntKind.u8 (intAt xs 14), Value.int IntKind.u8 (intAt xs 13), Value.int IntKind.u8 (intAt xs 12), Value.int IntKind.u8 (intAt xs 11), Value.int IntKind.u8 (intAt
 xs 10), Value.int IntKind.u8 (intAt xs 9), Value.int IntKind.u8 (intAt xs 8), Value.int IntKind.u8 (intAt xs 7), Value.int IntKind.u8 (intAt xs 6), Value.int IntKind.u8 (intAt xs 5), Value.int IntKind.u8 (intAt xs 4),
 Value.int IntKind.u8 (intAt xs 3), Value.int IntKind.u8 (intAt xs 2), Value.int IntKind.u8 (intAt xs 1), Value.int IntKind.u8 (intAt xs 0)][10]? = some (Value.int IntKind.u8 (intAt xs 5)), rg IntKind.u64 (intAt xs 5),
 IntKind.wrap IntKind.u64 (↑(BitVec.toNat (BitVec.ofInt 64 (slI (adI (slI (adI (slI (adI (slI (adI (slI (adI (0 : Int) (intAt xs 0)) (8 : Int)) (intAt xs 1)) (8 : Int)) (intAt xs 2)) (8 : Int)) (intAt xs 3)) (8 : Int))
 (intAt xs 4)) (8 : Int)) ||| BitVec.ofInt 64 (intAt xs 5))) : Int) = adI (slI (adI (slI (adI (slI (adI (slI (adI (slI (adI (0 : Int) (intAt xs 0)) (8 : Int)) (intAt xs 1)) (8 : Int)) (intAt xs 2)) (8 : Int)) (intAt xs 3))
 (8 : Int)) (intAt xs 4)) (8 : Int)) (intAt xs 5), (0 : Int) ≤ (8 : Int) ∧ (8 : Int) ≤ (64 : Int) ∧ rg IntKind.u64 (slI (adI (slI (adI (slI (adI (slI (adI (slI (adI (slI (adI (0 : Int) (intAt xs 8)) (8 : Int)) (intAt xs
 9)) (8 : Int)) (intAt xs 10)) (8 : Int)) (intAt xs 11)) (8 : Int)) (intAt xs 12)) (8 : Int)) (intAt xs 13)) (8 : Int)), [Value.int IntKind.u8 (intAt xs 15), Value.int IntKind.u8 (intAt xs 14), Value.int IntKind.u8 (intAt
 xs 13), Value.int IntKind.u8 (intAt xs 12), Value.int IntKind.u8 (intAt xs 11), Value.int IntKind.u8 (intAt xs 10), Value.int IntKind.u8 (intAt xs 9), Value.int IntKind.u8 (intAt xs 8), Value.int IntKind.u8 (intAt xs 7),
 Value.int IntKind.u8 (intAt xs 6), Value.int IntKind.u8 (intAt xs 5), Value.int IntKind.u8 (intAt xs 4), Value.int IntKind.u8 (intAt xs 3), Value.int IntKind.u8 (intAt xs 2), Value.int IntKind.u8 (intAt xs 1), Value.int
 IntKind.u8 (intAt xs 0)][1]? = some (Value.int IntKind.u8 (intAt xs 14)), rg IntKind.u64 (intAt xs 14), IntKind.wrap IntKind.u64 (↑(BitVec.toNat (BitVec.ofInt 64 (slI (adI (slI (adI (slI (adI (slI (adI (slI (adI (slI (adI
 (0 : Int) (intAt xs 8)) (8 : Int)) (intAt xs 9)) (8 : Int)) (intAt xs 10)) (8 : Int)) (intAt xs 11)) (8 : Int)) (intAt xs 12)) (8 : Int)) (intAt xs 13)) (8 : Int)) ||| BitVec.ofInt 64 (intAt xs 14))) : Int) = adI (slI
 (adI (slI (adI (slI (adI (slI (adI (slI (adI (slI (adI (0 : Int) (intAt xs 8)) (8 : Int)) (intAt xs 9)) (8 : Int)) (intAt xs 10)) (8 : Int)) (intAt xs 11)) (8 : Int)) (intAt xs 12)) (8 : Int)) (intAt xs 13)) (8 : Int))
 (intAt xs 14), (0 : Int) ≤ (8 : Int) ∧ (8 : Int) ≤ (64 : Int) ∧ rg IntKind.u64 (slI (adI (slI (adI (slI (adI (slI (adI (slI (adI (slI (adI (0 : Int) (intAt xs 0)) (8 : Int)) (intAt xs 1)) (8 : Int)) (intAt xs 2)) (8 :
 Int)) (intAt xs 3)) (8 : Int)) (intAt xs 4)) (8 : Int)) (intAt xs 5)) (8 : Int)), [Value.int IntKind.u8 (intAt xs 15), Value.int IntKind.u8 (intAt xs 14), Value.int IntKind.u8 (intAt xs 13), Value.int IntKind.u8 (intAt xs
 12), Value.int IntKind.u8 (intAt xs 11), Value.int IntKind.u8 (intAt xs 10), Value.int IntKind.u8 (intAt xs 9), Value.int IntKind.u8 (intAt xs 8), Value.int IntKind.u8 (intAt xs 7), Value.int IntKind.u8 (intAt xs 6),
 Value.int IntKind.u8 (intAt xs 5), Value.int IntKind.u8 (intAt xs 4), Value.int IntKind.u8 (intAt xs 3), Value.int IntKind.u8 (intAt xs 2), Value.int IntKind.u8 (intAt xs 1), Value.int IntKind.u8 (intAt xs 0)][9]? = some
 (Value.int IntKind.u8 (intAt xs 6)), rg IntKind.u64 (intAt xs 6), IntKind.wrap IntKind.u64 (↑(BitVec.toNat (BitVec.ofInt 64 (slI (adI (slI (adI (slI (adI (slI (adI (slI (adI (slI (adI (0 : Int) (intAt xs 0)) (8 : Int))
 (intAt xs 1)) (8 : Int)) (intAt xs 2)) (8 : Int)) (intAt xs 3)) (8 : Int)) (intAt xs 4)) (8 : Int)) (intAt xs 5)) (8 : Int)) ||| BitVec.ofInt 64 (intAt xs 6))) : Int) = adI (slI (adI (slI (adI (slI (adI (slI (adI (slI
 (adI (slI (adI (0 : Int) (intAt xs 0)) (8 : Int)) (intAt xs 1)) (8 : Int)) (intAt xs 2)) (8 : Int)) (intAt xs 3)) (8 : Int)) (intAt xs 4)) (8 : Int)) (intAt xs 5)) (8 : Int)) (intAt xs 6), (0 : Int) ≤ (8 : Int) ∧ (8 :
 Int) ≤ (64 : Int) ∧ rg IntKind.u64 (slI (adI (slI (adI (slI (adI (slI (adI (slI (adI (slI (adI (slI (adI (0 : Int) (intAt xs 8)) (8 : Int)) (intAt xs 9)) (8 : Int)) (intAt xs 10)) (8 : Int)) (intAt xs 11)) (8 : Int))
 (intAt xs 12)) (8 : Int)) (intAt xs 13)) (8 : Int)) (intAt xs 14)) (8 : Int)), [Value.int IntKind.u8 (intAt xs 15), Value.int IntKind.u8 (intAt xs 14), Value.int IntKind.u8 (intAt xs 13), Value.int IntKind.u8 (intAt xs
 12), Value.int IntKind.u8 (intAt xs 11), Value.int IntKind.u8 (intAt xs 10), Value.int IntKind.u8 (intAt xs 9), Value.int IntKind.u8 (intAt xs 8), Value.int IntKind.u8 (intAt xs 7), Value.int IntKind.u8 (intAt xs 6),
 Value.int IntKind.u8 (intAt xs 5), Value.int IntKind.u8 (intAt xs 4), Value.int IntKind.u8 (intAt xs 3), Value.int IntKind.u8 (intAt xs 2), Value.int IntKind.u8 (intAt xs 1), Value.int IntKind.u8 (intAt xs 0)][0]? = some
 (Value.int IntKind.u8 (intAt xs 15)), rg IntKind.u64 (intAt xs 15), IntKind.wrap IntKind.u64 (↑(BitVec.toNat (BitVec.ofInt 64 (slI (adI (slI (adI (slI (adI (slI (adI (slI (adI (slI (adI (slI (adI (0 : Int) (intAt xs 8))
 (8 : Int)) (intAt xs 9)) (8 : Int)) (intAt xs 10)) (8 : Int)) (intAt xs 11)) (8 : Int)) (intAt xs 12)) (8 : Int)) (intAt xs 13)) (8 : Int)) (intAt xs 14)) (8 : Int)) ||| BitVec.ofInt 64 (intAt xs 15))) : Int) = adI (slI
 (adI (slI (adI (slI (adI (slI (adI (slI (adI (slI (adI (slI (adI (0 : Int) (intAt xs 8)) (8 : Int)) (intAt xs 9)) (8 : Int)) (intAt xs 10)) (8 : Int)) (intAt xs 11)) (8 : Int)) (intAt xs 12)) (8 : Int)) (intAt xs 13)) (8
 : Int)) (intAt xs 14)) (8 : Int)) (intAt xs 15), (0 : Int) ≤ (8 : Int) ∧ (8 : Int) ≤ (64 : Int) ∧ rg IntKind.u64 (slI (adI (slI (adI (slI (adI (slI (adI (slI (adI (slI (adI (slI (adI (0 : Int) (intAt xs 0)) (8 : Int))
 (intAt xs 1)) (8 : Int)) (intAt xs 2)) (8 : Int)) (intAt xs 3)) (8 : Int)) (intAt xs 4)) (8 : Int)) (intAt xs 5)) (8 : Int)) (intAt xs 6)) (8 : Int)), [Value.int IntKind.u8 (intAt xs 15), Value.int IntKind.u8 (intAt xs
 14), Value.int IntKind.u8 (intAt xs 13), Value.int IntKind.u8 (intAt xs 12), Value.int IntKind.u8 (intAt xs 11), Value.int IntKind.u8 (intAt xs 10), Value.int IntKind.u8 (intAt xs 9), Value.int IntKind.u8 (intAt xs 8),
 Value.int IntKind.u8 (intAt xs 7), Value.int IntKind.u8 (intAt xs 6), Value.int IntKind.u8 (intAt xs 5), Value.int IntKind.u8 (intAt xs 4), Value.int IntKind.u8 (intAt xs 3), Value.int IntKind.u8 (intAt xs 2), Value.int
 IntKind.u8 (intAt xs 1), Value.int IntKind.u8 (intAt xs 0)][8]? = some (Value.int IntKind.u8 (intAt xs 7)), rg IntKind.u64 (intAt xs 7), IntKind.wrap IntKind.u64 (↑(BitVec.toNat (BitVec.ofInt 64 (slI (adI (slI (adI (slI
 (adI (slI (adI (slI (adI (slI (adI (slI (adI (0 : Int) (intAt xs 0)) (8 : Int)) (intAt xs 1)) (8 : Int)) (intAt xs 2)) (8 : Int)) (intAt xs 3)) (8 : Int)) (intAt xs 4)) (8 : Int)) (intAt xs 5)) (8 : Int)) (intAt xs 6)) (8
 : Int)) ||| BitVec.ofInt 64 (intAt xs 7))) : Int) = adI (slI (adI (slI (adI (slI (adI (slI (adI (slI (adI (slI (adI (slI (adI (0 : Int) (intAt xs 0)) (8 : Int)) (intAt xs 1)) (8 : Int)) (intAt xs 2)) (8 : Int)) (intAt xs
 3)) (8 : Int)) (intAt xs 4)) (8 : Int)) (intAt xs 5)) (8 : Int)) (intAt xs 6)) (8 : Int)) (intAt xs 7)]) := by kernel_rfl
theorem rd_i_bad (xs : List Value) (n c : Nat) : runZ kbV Try.prog 6 23 [.slice (some ⟨0, 0, none⟩) n c] [(0, ⟨.old, xs⟩)] 1 [true] =
  Res.ok ((Value.tuple (Array.mk [Value.agg (Array.mk [Value.int IntKind.u64 (0 : Int), Value.int IntKind.u64 (0 : Int)]), Value.int IntKind.i64 (4 : Int)]), [(0, Rw.mk Kd.old xs)], 2, []), [], [((↑n : Int) != (16 : Int)) =
 true]) := by kernel_rfl
theorem rd_i_bn  : runZ kbV Try.prog 6 23 [.slice none 0 0] [] 1 [true] =
  Res.ok ((Value.tuple (Array.mk [Value.agg (Array.mk [Value.int IntKind.u64 (0 : Int), Value.int IntKind.u64 (0 : Int)]), Value.int IntKind.i64 (4 : Int)]), [], 2, []), [], [true = true]) := by kernel_rfl
theorem rd_r_bad (xs : List Value) (n c : Nat) : runZ kbV Try.prog 6 24 [.slice (some ⟨0, 0, none⟩) n c] [(0, ⟨.old, xs⟩)] 1 [true] =
  Res.ok ((Value.tuple (Array.mk [Value.agg (Array.mk [Value.int IntKind.u64 (0 : Int), Value.int IntKind.u64 (0 : Int)]), Value.int IntKind.i64 (4 : Int)]), [(0, Rw.mk Kd.old xs)], 2, []), [], [((↑n : Int) != (16 : Int)) =
 true]) := by kernel_rfl
theorem rd_r_bn  : runZ kbV Try.prog 6 24 [.slice none 0 0] [] 1 [true] =
  Res.ok ((Value.tuple (Array.mk [Value.agg (Array.mk [Value.int IntKind.u64 (0 : Int), Value.int IntKind.u64 (0 : Int)]), Value.int IntKind.i64 (4 : Int)]), [], 2, []), [], [true = true]) := by kernel_rfl
theorem kr_i_bad (xs : List Value) (n c : Nat) : runZ kbV Try.prog 6 25 [.slice (some ⟨0, 0, none⟩) n c] [(0, ⟨.old, xs⟩)] 1 [true] =
  Res.ok ((Value.tuple (Array.mk [Value.agg (Array.mk [Value.int IntKind.u64 (0 : Int), Value.int IntKind.u64 (0 : Int)]), Value.int IntKind.i64 (4 : Int)]), [(0, Rw.mk Kd.old xs)], 2, []), [], [((↑n : Int) != (16 : Int)) =
 true]) := by kernel_rfl
theorem kr_i_bn  : runZ kbV Try.prog 6 25 [.slice none 0 0] [] 1 [true] =
  Res.ok ((Value.tuple (Array.mk [Value.agg (Array.mk [Value.int IntKind.u64 (0 : Int), Value.int IntKind.u64 (0 : Int)]), Value.int IntKind.i64 (4 : Int)]), [], 2, []), [], [true = true]) := by kernel_rfl
theorem kr_r_bad (xs : List Value) (n c : Nat) : runZ kbV Try.prog 6 26 [.slice (some ⟨0, 0, none⟩) n c] [(0, ⟨.old, xs⟩)] 1 [true] =
  Res.ok ((Value.tuple (Array.mk [Value.agg (Array.mk [Value.int IntKind.u64 (0 : Int), Value.int IntKind.u64 (0 : Int)]), Value.int IntKind.i64 (4 : Int)]), [(0, Rw.mk Kd.old xs)], 2, []), [], [((↑n : Int) != (16 : Int)) =
 true]) := by kernel_rfl
theorem kr_r_bn  : runZ kbV Try.prog 6 26 [.slice none 0 0] [] 1 [true] =
  Res.ok ((Value.tuple (Array.mk [Value.agg (Array.mk [Value.int IntKind.u64 (0 : Int), Value.int IntKind.u64 (0 : Int)]), Value.int IntKind.i64 (4 : Int)]), [], 2, []), [], [true = true]) := by kernel_rfl
/-! ### a list of sixteen bytes -/
theorem lit16 {xs : List Value} (hb : Byts xs) (hl : xs.length = 16) : xs = [.int .u8 (intAt xs 0), .int .u8 (intAt xs 1), .int .u8 (intAt xs 2), .int .u8 (intAt xs 3), .int .u8 (intAt xs 4), .int .u8 (intAt xs 5), .int .u8 (intAt xs 6), .int .u8 (intAt xs 7), .int .u8 (intAt xs 8), .int .u8 (intAt xs 9), .int .u8 (intAt xs 10), .int .u8 (intAt xs 11), .int .u8 (intAt xs 12), .int .u8 (intAt xs 13), .int .u8 (intAt xs 14), .int .u8 (intAt xs 15)] := by
  refine List.ext_getElem? fun i => ?_
  match i with
  | 0 => exact (hb.get (i := 0) (by omega)).1
  | 1 => exact (hb.get (i := 1) (by omega)).1
  | 2 => exact (hb.get (i := 2) (by omega)).1
  | 3 => exact (hb.get (i := 3) (by omega)).1
  | 4 => exact (hb.get (i := 4) (by omega)).1
  | 5 => exact (hb.get (i := 5) (by omega)).1
  | 6 => exact (hb.get (i := 6) (by omega)).1
  | 7 => exact (hb.get (i := 7) (by omega)).1
  | 8 => exact (hb.get (i := 8) (by omega)).1
  | 9 => exact (hb.get (i := 9) (by omega)).1
  | 10 => exact (hb.get (i := 10) (by omega)).1
  | 11 => exact (hb.get (i := 11) (by omega)).1
  | 12 => exact (hb.get (i := 12) (by omega)).1
  | 13 => exact (hb.get (i := 13) (by omega)).1
  | 14 => exact (hb.get (i := 14) (by omega)).1
  | 15 => exact (hb.get (i := 15) (by omega)).1
  | i + 16 => rw [List.getElem?_eq_none (by omega)]; rfl
theorem lit16r {xs : List Value} (hb : Byts xs) (hl : xs.length = 16) : xs.reverse = [.int .u8 (intAt xs 15), .int .u8 (intAt xs 14), .int .u8 (intAt xs 13), .int .u8 (intAt xs 12), .int .u8 (intAt xs 11), .int .u8 (intAt xs 10), .int .u8 (intAt xs 9), .int .u8 (intAt xs 8), .int .u8 (intAt xs 7), .int .u8 (intAt xs 6), .int .u8 (intAt xs 5), .int .u8 (intAt xs 4), .int .u8 (intAt xs 3), .int .u8 (intAt xs 2), .int .u8 (intAt xs 1), .int .u8 (intAt xs 0)] := by
  have h := congrArg List.reverse (lit16 hb hl)
  exact h
theorem Byts.rev {xs : List Value} (h : Byts xs) : Byts xs.reverse := by
  have e : intsOf xs.reverse = (intsOf xs).reverse := by unfold intsOf; rw [List.map_reverse]
  refine ⟨?_, fun x hx => h.2 x ?_⟩
  · rw [e, List.map_reverse, ← h.1]
  · rw [e] at hx; exact List.mem_reverse.1 hx
/-! ### contracts -/
/-- A new slice of a row of its own; one that was grown. -/
theorem GrIs.one {n c : Nat} {kd : Kd} {cs : List Value} {h0' : Hp} {m : Nat} (hl : lk h0' m = some ⟨kd, cs⟩) (hf : Fl cs) (hk : plainKd kd = true) (ho : kd ≠ .old) (hc : c ≤ 9223372036854775807) :
    GrIs ⟨fun nx => .slice (some ⟨nx, 0, none⟩) n c, [⟨kd, cs⟩]⟩ (.slice (some ⟨m, 0, none⟩) n c) h0' (fun _ => m) := by
  refine ⟨fun nx => ?_, fun j r hj => ?_, fun i j hi hj _ => ?_⟩
  · have hb : (f2s nx 1 fun _ => m).b nx = some (m, 0) := by simp [f2s]
    have := renV_slice_mk (l := n) (c := c) (c' := c) (o := 0) hb (by unfold cpR; rw [if_pos (by unfold capBig; omega)])
    simpa using this
  · match j, hj with
    | 0, hj => cases hj; exact ⟨hf, hk, ho, hl⟩
  · simp at hi hj; omega
theorem GrIs.big {n size : Nat} {z cs : List Value} {h0' : Hp} {m : Nat} (hl : lk h0' m = some ⟨.room size z, cs⟩) (hf : Fl cs) :
    GrIs ⟨fun nx => .slice (some ⟨nx, 0, none⟩) n (capBig + nx), [⟨.room size z, cs⟩]⟩ (.slice (some ⟨m, 0, none⟩) n (capBig + m)) h0' (fun _ => m) := by
  refine ⟨fun nx => ?_, fun j r hj => ?_, fun i j hi hj _ => ?_⟩
  · exact f2s_slice0 (g := fun _ => m) (by simp) n
  · match j, hj with
    | 0, hj => cases hj; exact ⟨hf, rfl, (fun e => by cases e), hl⟩
  · simp at hi hj; omega
def keyB (a b : Int) : List Value := (d8 b ++ d8 a).reverse
theorem keyB_len (a b : Int) : (keyB a b).length = 16 := rfl
theorem d8_Byts (a : Int) : Byts (d8 a) := by
  refine ⟨rfl, fun x hx => ?_⟩
  simp only [d8, intsOf, List.map_cons, List.map_nil, List.mem_cons, List.not_mem_nil, or_false] at hx
  rcases hx with rfl | rfl | rfl | rfl | rfl | rfl | rfl | rfl <;> omega
theorem keyB_Byts (a b : Int) : Byts (keyB a b) := ((d8_Byts b).app (d8_Byts a)).rev
def gKe (room : Bool) : GSpec := fun av tp => match av with
  | [.fl (.agg ⟨[.int .u64 a, .int .u64 b]⟩)] => some (bif room then ⟨fun nx => .slice (some ⟨nx, 0, none⟩) 16 (capBig + nx), [⟨.room 1 [.int .u8 0], keyB a b⟩]⟩ else ⟨fun nx => .slice (some ⟨nx, 0, none⟩) 16 16, [⟨.shut, keyB a b⟩]⟩, tp, [])
  | _ => none
def badU : Value := .tuple ⟨[.agg ⟨[.int .u64 0, .int .u64 0]⟩, .int .i64 4]⟩
def u1V (xs : List Value) : Value := .tuple ⟨[.agg ⟨[.int .u64 (r8 (xs.drop 8)), .int .u64 (r8 xs)]⟩, .int .i64 0]⟩
def sR2 : Spec1 := fun xs n tp => match tp with
  | true :: tp => some (⟨fun _ => badU, []⟩, tp, [n ≠ 16])
  | false :: tp => some (⟨fun _ => u1V xs, []⟩, tp, [Byts xs, n = 16])
  | [] => none
def sK2 : Spec1 := fun xs n tp => match tp with
  | true :: tp => some (⟨fun _ => badU, []⟩, tp, [n ≠ 16])
  | false :: tp => some (⟨fun _ => u1V xs.reverse, []⟩, tp, [Byts xs, n = 16])
  | [] => none
theorem ke_i_gok : GOk Try.prog 27 [.f] (gKe false) := by
  have hX : XOkZ keV Try.prog := noXz_ok rfl
  have hT : TOkZ keV Try.prog := T_okV rfl u8T_one
  have hL : LOkZ keV Try.prog := noL_okV rfl
  intro av tp gr tp' ob hG ho hP caps hcap
  obtain ⟨a, rfl, pa⟩ := avps1 hP
  obtain ⟨c, rfl⟩ := caps1 hcap
  unfold gKe at hG
  split at hG
  case h_2 => cases hG
  rename_i a b e
  simp only [List.cons.injEq, and_true] at e
  subst e
  simp only [Option.some.injEq, Prod.mk.injEq, cond_true, cond_false] at hG
  obtain ⟨rfl, rfl, rfl⟩ := hG
  refine ⟨_, _, _, _, fun _ => 3, run_tri hX hT hL (ke_i a b) ?_ rfl, ?_⟩
  · simp only [Alls]
  · exact GrIs.one rfl (fl_byts (keyB_Byts a b)) rfl (fun e => by cases e) (by omega)
theorem ke_r_gok : GOk Try.prog 29 [.f] (gKe true) := by
  have hX : XOkZ keV Try.prog := noXz_ok rfl
  have hT : TOkZ keV Try.prog := T_okV rfl u8T_one
  have hL : LOkZ keV Try.prog := noL_okV rfl
  intro av tp gr tp' ob hG ho hP caps hcap
  obtain ⟨a, rfl, pa⟩ := avps1 hP
  obtain ⟨c, rfl⟩ := caps1 hcap
  unfold gKe at hG
  split at hG
  case h_2 => cases hG
  rename_i a b e
  simp only [List.cons.injEq, and_true] at e
  subst e
  simp only [Option.some.injEq, Prod.mk.injEq, cond_true, cond_false] at hG
  obtain ⟨rfl, rfl, rfl⟩ := hG
  refine ⟨_, _, _, _, fun _ => 34, run_tri hX hT hL (ke_r a b) ?_ rfl, ?_⟩
  · simp only [Alls]
  · exact GrIs.big rfl (fl_byts (keyB_Byts a b))
theorem ne16 {n : Nat} (h : n ≠ 16) : ((n : Int) != 16) = true := by simp only [bne_iff_ne, ne_eq]; omega
/-- What the first contract says at sixteen bytes. -/
theorem gS_sl {P : Program} {f : FuncId} {size : Nat} {S : Spec1} (H : GOk P f [.s size] (gS S)) {xs : List Value} {n c : Nat} {tp tp' : Tape} {gr : Gr} {ob : List Prop} (hG : S xs n tp = some (gr, tp', ob)) (ho : Alls ob) (hfl : Fl xs) (hl : xs.length = n * size) (hc : n ≤ c ∧ c ≤ 9223372036854775807) : Ran P f [.slice (some ⟨0, 0, none⟩) n c] [(0, ⟨.old, xs⟩)] 1 gr :=
  H [.sl xs n] tp gr tp' ob hG ho ⟨⟨hfl, hl⟩, trivial⟩ [c] ⟨hc, trivial⟩
theorem rd_i2_gok : GOk Try.prog 23 [.s 1] (gS sR2) := by
  have hX : XOkZ kbV Try.prog := noXz_ok rfl
  have hT : TOkZ kbV Try.prog := noTz_okV rfl
  have hL : LOkZ kbV Try.prog := noL_okV rfl
  refine gS_ok (fun tp gr tp' ob hG ho => ?_) (fun xs n c tp gr tp' ob hG ho hfl hl0 hc => ?_)
  · unfold sR2 at hG
    split at hG
    · simp only [Option.some.injEq, Prod.mk.injEq] at hG
      obtain ⟨rfl, rfl, rfl⟩ := hG
      exact ⟨_, _, _, _, fun n => n, run_tri hX hT hL rd_i_bn (by simp [Alls]) rfl, GrIs.flat fun σ => rfl⟩
    · simp only [Option.some.injEq, Prod.mk.injEq] at hG
      obtain ⟨rfl, rfl, rfl⟩ := hG
      exact absurd ho.2.1 (by decide)
    · cases hG
  · unfold sR2 at hG
    split at hG
    · simp only [Option.some.injEq, Prod.mk.injEq] at hG
      obtain ⟨rfl, rfl, rfl⟩ := hG
      exact ⟨_, _, _, _, fun n => n, run_tri hX hT hL (rd_i_bad xs n c) ⟨ne16 ho.1, trivial⟩ rfl, GrIs.flat fun σ => rfl⟩
    · simp only [Option.some.injEq, Prod.mk.injEq] at hG
      obtain ⟨rfl, rfl, rfl⟩ := hG
      exact gS_sl rd_i_gok (S := sRd) (tp := []) rfl ho hfl hl0 hc
    · cases hG
theorem rd_r2_gok : GOk Try.prog 24 [.s 1] (gS sR2) := by
  have hX : XOkZ kbV Try.prog := noXz_ok rfl
  have hT : TOkZ kbV Try.prog := noTz_okV rfl
  have hL : LOkZ kbV Try.prog := noL_okV rfl
  refine gS_ok (fun tp gr tp' ob hG ho => ?_) (fun xs n c tp gr tp' ob hG ho hfl hl0 hc => ?_)
  · unfold sR2 at hG
    split at hG
    · simp only [Option.some.injEq, Prod.mk.injEq] at hG
      obtain ⟨rfl, rfl, rfl⟩ := hG
      exact ⟨_, _, _, _, fun n => n, run_tri hX hT hL rd_r_bn (by simp [Alls]) rfl, GrIs.flat fun σ => rfl⟩
    · simp only [Option.some.injEq, Prod.mk.injEq] at hG
      obtain ⟨rfl, rfl, rfl⟩ := hG
      exact absurd ho.2.1 (by decide)
    · cases hG
  · unfold sR2 at hG
    split at hG
    · simp only [Option.some.injEq, Prod.mk.injEq] at hG
      obtain ⟨rfl, rfl, rfl⟩ := hG
      exact ⟨_, _, _, _, fun n => n, run_tri hX hT hL (rd_r_bad xs n c) ⟨ne16 ho.1, trivial⟩ rfl, GrIs.flat fun σ => rfl⟩
    · simp only [Option.some.injEq, Prod.mk.injEq] at hG
      obtain ⟨rfl, rfl, rfl⟩ := hG
      exact gS_sl rd_r_gok (S := sRd) (tp := []) rfl ho hfl hl0 hc
    · cases hG
theorem kri_run {xs : List Value} {c : Nat} (hb : Byts xs) (hl : xs.length = 16) (hc : 16 ≤ c ∧ c ≤ 9223372036854775807) : Ran Try.prog 25 [.slice (some ⟨0, 0, none⟩) 16 c] [(0, ⟨.old, xs⟩)] 1 ⟨fun _ => u1V xs.reverse, []⟩ := by
  have hX : XOkZ keV Try.prog := noXz_ok rfl
  have hT : TOkZ keV Try.prog := T_okV rfl u8T_one
  have hL : LOkZ keV Try.prog := noL_okV rfl
  have h1 := lit16 hb hl
  have h2 := lit16r hb hl
  have h3 := hb.rev
  have h4 := fl_byts h3
  rw [h2] at h3 h4
  refine ⟨_, _, _, _, fun n => n, run_tri hX hT hL (kr_i xs c) ?_ rfl, ?_⟩
  · repeat' (first | exact alls_nil | refine alls_cons ?_ ?_)
    all_goals first
      | omega
      | (rw [List.drop_zero, take_len hl]; exact h1)
      | exact h3
      | exact h4
  · unfold u1V
    rw [h2]
    exact GrIs.flat fun σ => rfl
theorem krr_run {xs : List Value} {c : Nat} (hb : Byts xs) (hl : xs.length = 16) (hc : 16 ≤ c ∧ c ≤ 9223372036854775807) : Ran Try.prog 26 [.slice (some ⟨0, 0, none⟩) 16 c] [(0, ⟨.old, xs⟩)] 1 ⟨fun _ => u1V xs.reverse, []⟩ := by
  have hX : XOkZ keV Try.prog := noXz_ok rfl
  have hT : TOkZ keV Try.prog := T_okV rfl u8T_one
  have hL : LOkZ keV Try.prog := noL_okV rfl
  have h2 := lit16r hb hl
  obtain ⟨g0, l0, u0⟩ := hb.get (i := 0) (by omega)
  obtain ⟨g1, l1, u1⟩ := hb.get (i := 1) (by omega)
  obtain ⟨g2, l2, u2⟩ := hb.get (i := 2) (by omega)
  obtain ⟨g3, l3, u3⟩ := hb.get (i := 3) (by omega)
  obtain ⟨g4, l4, u4⟩ := hb.get (i := 4) (by omega)
  obtain ⟨g5, l5, u5⟩ := hb.get (i := 5) (by omega)
  obtain ⟨g6, l6, u6⟩ := hb.get (i := 6) (by omega)
  obtain ⟨g7, l7, u7⟩ := hb.get (i := 7) (by omega)
  obtain ⟨g8, l8, u8⟩ := hb.get (i := 8) (by omega)
  obtain ⟨g9, l9, u9⟩ := hb.get (i := 9) (by omega)
  obtain ⟨g10, l10, u10⟩ := hb.get (i := 10) (by omega)
  obtain ⟨g11, l11, u11⟩ := hb.get (i := 11) (by omega)
  obtain ⟨g12, l12, u12⟩ := hb.get (i := 12) (by omega)
  obtain ⟨g13, l13, u13⟩ := hb.get (i := 13) (by omega)
  obtain ⟨g14, l14, u14⟩ := hb.get (i := 14) (by omega)
  obtain ⟨g15, l15, u15⟩ := hb.get (i := 15) (by omega)
  obtain ⟨⟨p0, ⟨p1, a1⟩, ⟨p2, a2⟩, ⟨p3, a3⟩, ⟨p4, a4⟩, ⟨p5, a5⟩, ⟨p6, a6⟩, p7, a7⟩, vl⟩ := or_horner ⟨l15, u15⟩ ⟨l14, u14⟩ ⟨l13, u13⟩ ⟨l12, u12⟩ ⟨l11, u11⟩ ⟨l10, u10⟩ ⟨l9, u9⟩ ⟨l8, u8⟩
  obtain ⟨⟨q0, ⟨q1, b1⟩, ⟨q2, b2⟩, ⟨q3, b3⟩, ⟨q4, b4⟩, ⟨q5, b5⟩, ⟨q6, b6⟩, q7, b7⟩, vh⟩ := or_horner ⟨l7, u7⟩ ⟨l6, u6⟩ ⟨l5, u5⟩ ⟨l4, u4⟩ ⟨l3, u3⟩ ⟨l2, u2⟩ ⟨l1, u1⟩ ⟨l0, u0⟩
  refine ⟨_, _, _, _, fun n => n, run_tri hX hT hL (kr_r xs c) ?_ rfl, ?_⟩
  · repeat' (first | exact alls_nil | refine alls_cons ?_ ?_)
    all_goals first
      | with_reducible assumption
      | omega
      | (refine ⟨by omega, by omega, ?_⟩; with_reducible assumption)
      | (simp only [rg]; omega)
      | rfl
  · rw [vl, vh]
    unfold u1V
    rw [h2]
    exact GrIs.flat fun σ => rfl
theorem kr_i2_gok : GOk Try.prog 25 [.s 1] (gS sK2) := by
  have hX : XOkZ kbV Try.prog := noXz_ok rfl
  have hT : TOkZ kbV Try.prog := noTz_okV rfl
  have hL : LOkZ kbV Try.prog := noL_okV rfl
  refine gS_ok (fun tp gr tp' ob hG ho => ?_) (fun xs n c tp gr tp' ob hG ho hfl hl0 hc => ?_)
  · unfold sK2 at hG
    split at hG
    · simp only [Option.some.injEq, Prod.mk.injEq] at hG
      obtain ⟨rfl, rfl, rfl⟩ := hG
      exact ⟨_, _, _, _, fun n => n, run_tri hX hT hL kr_i_bn (by simp [Alls]) rfl, GrIs.flat fun σ => rfl⟩
    · simp only [Option.some.injEq, Prod.mk.injEq] at hG
      obtain ⟨rfl, rfl, rfl⟩ := hG
      exact absurd ho.2.1 (by decide)
    · cases hG
  · unfold sK2 at hG
    split at hG
    · simp only [Option.some.injEq, Prod.mk.injEq] at hG
      obtain ⟨rfl, rfl, rfl⟩ := hG
      exact ⟨_, _, _, _, fun n => n, run_tri hX hT hL (kr_i_bad xs n c) ⟨ne16 ho.1, trivial⟩ rfl, GrIs.flat fun σ => rfl⟩
    · simp only [Option.some.injEq, Prod.mk.injEq] at hG
      obtain ⟨rfl, rfl, rfl⟩ := hG
      obtain ⟨hb, rfl, _⟩ := ho; exact kri_run hb (by omega) hc
    · cases hG
theorem kr_r2_gok : GOk Try.prog 26 [.s 1] (gS sK2) := by
  have hX : XOkZ kbV Try.prog := noXz_ok rfl
  have hT : TOkZ kbV Try.prog := noTz_okV rfl
  have hL : LOkZ kbV Try.prog := noL_okV rfl
  refine gS_ok (fun tp gr tp' ob hG ho => ?_) (fun xs n c tp gr tp' ob hG ho hfl hl0 hc => ?_)
  · unfold sK2 at hG
    split at hG
    · simp only [Option.some.injEq, Prod.mk.injEq] at hG
      obtain ⟨rfl, rfl, rfl⟩ := hG
      exact ⟨_, _, _, _, fun n => n, run_tri hX hT hL kr_r_bn (by simp [Alls]) rfl, GrIs.flat fun σ => rfl⟩
    · simp only [Option.some.injEq, Prod.mk.injEq] at hG
      obtain ⟨rfl, rfl, rfl⟩ := hG
      exact absurd ho.2.1 (by decide)
    · cases hG
  · unfold sK2 at hG
    split at hG
    · simp only [Option.some.injEq, Prod.mk.injEq] at hG
      obtain ⟨rfl, rfl, rfl⟩ := hG
      exact ⟨_, _, _, _, fun n => n, run_tri hX hT hL (kr_r_bad xs n c) ⟨ne16 ho.1, trivial⟩ rfl, GrIs.flat fun σ => rfl⟩
    · simp only [Option.some.injEq, Prod.mk.injEq] at hG
      obtain ⟨rfl, rfl, rfl⟩ := hG
      obtain ⟨hb, rfl, _⟩ := ho; exact krr_run hb (by omega) hc
    · cases hG
def u9T : TFun := orTz (mkT 31 [.f] gBy) (orTz (mkT 32 [.f] gBy) (orTz (mkT 23 [.s 1] (gS sR2)) (orTz (mkT 24 [.s 1] (gS sR2)) (orTz (mkT 25 [.s 1] (gS sK2)) (orTz (mkT 26 [.s 1] (gS sK2)) (orTz (mkT 27 [.f] (gKe false)) (mkT 29 [.f] (gKe true))))))))
theorem u9T_one : TOneZ Try.prog u9T := orTz_ok (mkT_one by_i_gok) (orTz_ok (mkT_one by_r_gok) (orTz_ok (mkT_one rd_i2_gok) (orTz_ok (mkT_one rd_r2_gok) (orTz_ok (mkT_one kr_i2_gok) (orTz_ok (mkT_one kr_r2_gok) (orTz_ok (mkT_one ke_i_gok) (mkT_one ke_r_gok)))))))
end Go.Proofs.Ytpiapipmhlpmjaa
