/-
  Chapter 02: the bytes of accounts and of transfers: the program's functions and the document's, by contracts.
-/
import Derived.Test.YtgpgdkpfeoaidaaU128Z
import Derived.Test.YtgpgdkpfeoaidaaKitY
namespace Go.Proofs.Ytgpgdkpfeoaidaa
set_option linter.unusedSimpArgs false
set_option linter.unusedVariables false
set_option linter.unusedSectionVars false
open Go Go.RowKit

def e8 (n : Int) : List Value := [.int .u8 (lowI .u8 (srI n 0)), .int .u8 (lowI .u8 (srI n 8)), .int .u8 (lowI .u8 (srI n 16)), .int .u8 (lowI .u8 (srI n 24)), .int .u8 (lowI .u8 (srI n 32)), .int .u8 (lowI .u8 (srI n 40)), .int .u8 (lowI .u8 (srI n 48)), .int .u8 (lowI .u8 (srI n 56))]
def e4 (n : Int) : List Value := [.int .u8 (lowI .u8 (srI n 0)), .int .u8 (lowI .u8 (srI n 8)), .int .u8 (lowI .u8 (srI n 16)), .int .u8 (lowI .u8 (srI n 24))]
def e2 (n : Int) : List Value := [.int .u8 (lowI .u8 (srI n 0)), .int .u8 (lowI .u8 (srI n 8))]
/-- A record's bytes, by its fields. -/
def rcdB (a0 a1 a2 a3 a4 a5 a6 a7 a8 a9 a10 a11 a12 a13 a14 a15 a16 a17 a18 : Int) : List Value := d8 a1 ++ d8 a0 ++ d8 a3 ++ d8 a2 ++ d8 a5 ++ d8 a4 ++ d8 a7 ++ d8 a6 ++ d8 a9 ++ d8 a8 ++ d8 a11 ++ d8 a10 ++ e8 a12 ++ e4 a13 ++ e4 a14 ++ e4 a15 ++ e2 a16 ++ e2 a17 ++ e8 a18
def rcdV (a0 a1 a2 a3 a4 a5 a6 a7 a8 a9 a10 a11 a12 a13 a14 a15 a16 a17 a18 : Int) : Value := .agg ⟨[.int .u64 a0, .int .u64 a1, .int .u64 a2, .int .u64 a3, .int .u64 a4, .int .u64 a5, .int .u64 a6, .int .u64 a7, .int .u64 a8, .int .u64 a9, .int .u64 a10, .int .u64 a11, .int .u64 a12, .int .u32 a13, .int .u32 a14, .int .u32 a15, .int .u16 a16, .int .u16 a17, .int .u64 a18]⟩
def rwV : Tv := ⟨u8T, noXz, noL, fun _ => [], orSy (lsSy 45 [(17, 0), (18, 0)]) (orSy (lsSy 34 [(17, 0), (18, 0)]) (orSy (lsSy 31 [(30, 0), (34, 0), (38, 0), (43, 0), (47, 0)]) (orSy (lsSy 32 [(30, 0), (34, 0), (38, 0), (43, 0), (47, 0)]) (orSy (lsSy 11 [(38, 0), (43, 0), (48, 0), (53, 0), (58, 0)]) (lsSy 12 [(38, 0), (43, 0), (48, 0), (53, 0), (58, 0)]))))), fun _ => [], fun _ => 0⟩
theorem ab_i (a0 a1 a2 a3 a4 a5 a6 a7 a8 a9 a10 a11 a12 a13 a14 a15 a16 a17 a18) : prjR 2 (runZ rwV Try.prog 9 8 [rcdV a0 a1 a2 a3 a4 a5 a6 a7 a8 a9 a10 a11 a12 a13 a14 a15 a16 a17 a18] [] 1 []) =
  Res.ok ((Value.slice (some (Addr.mk 2 0 none)) 128 128, Rw.mk Kd.shut [Value.int IntKind.u8 (a1 % (256 : Int)), Value.int IntKind.u8 (a1 / (256 : Int) % (256 : Int)), Value.int IntKind.u8 (a1 / (65536 : Int) % (256 :
 Int)), Value.int IntKind.u8 (a1 / (16777216 : Int) % (256 : Int)), Value.int IntKind.u8 (a1 / (4294967296 : Int) % (256 : Int)), Value.int IntKind.u8 (a1 / (1099511627776 : Int) % (256 : Int)), Value.int IntKind.u8 (a1 /
 (281474976710656 : Int) % (256 : Int)), Value.int IntKind.u8 (a1 / (72057594037927936 : Int) % (256 : Int)), Value.int IntKind.u8 (a0 % (256 : Int)), Value.int IntKind.u8 (a0 / (256 : Int) % (256 : Int)), Value.int
 IntKind.u8 (a0 / (65536 : Int) % (256 : Int)), Value.int IntKind.u8 (a0 / (16777216 : Int) % (256 : Int)), Value.int IntKind.u8 (a0 / (4294967296 : Int) % (256 : Int)), Value.int IntKind.u8 (a0 / (1099511627776 : Int) %
 (256 : Int)), Value.int IntKind.u8 (a0 / (281474976710656 : Int) % (256 : Int)), Value.int IntKind.u8 (a0 / (72057594037927936 : Int) % (256 : Int)), Value.int IntKind.u8 (a3 % (256 : Int)), Value.int IntKind.u8 (a3 /
 (256 : Int) % (256 : Int)), Value.int IntKind.u8 (a3 / (65536 : Int) % (256 : Int)), Value.int IntKind.u8 (a3 / (16777216 : Int) % (256 : Int)), Value.int IntKind.u8 (a3 / (4294967296 : Int) % (256 : Int)), Value.int
 IntKind.u8 (a3 / (1099511627776 : Int) % (256 : Int)), Value.int IntKind.u8 (a3 / (281474976710656 : Int) % (256 : Int)), Value.int IntKind.u8 (a3 / (72057594037927936 : Int) % (256 : Int)), Value.int IntKind.u8 (a2 %
 (256 : Int)), Value.int IntKind.u8 (a2 / (256 : Int) % (256 : Int)), Value.int IntKind.u8 (a2 / (65536 : Int) % (256 : Int)), Value.int IntKind.u8 (a2 / (16777216 : Int) % (256 : Int)), Value.int IntKind.u8 (a2 /
 (4294967296 : Int) % (256 : Int)), Value.int IntKind.u8 (a2 / (1099511627776 : Int) % (256 : Int)), Value.int IntKind.u8 (a2 / (281474976710656 : Int) % (256 : Int)), Value.int IntKind.u8 (a2 / (72057594037927936 : Int) %
 (256 : Int)), Value.int IntKind.u8 (a5 % (256 : Int)), Value.int IntKind.u8 (a5 / (256 : Int) % (256 : Int)), Value.int IntKind.u8 (a5 / (65536 : Int) % (256 : Int)), Value.int IntKind.u8 (a5 / (16777216 : Int) % (256 :
 Int)), Value.int IntKind.u8 (a5 / (4294967296 : Int) % (256 : Int)), Value.int IntKind.u8 (a5 / (1099511627776 : Int) % (256 : Int)), Value.int IntKind.u8 (a5 / (281474976710656 : Int) % (256 : Int)), Value.int IntKind.u8
 (a5 / (72057594037927936 : Int) % (256 : Int)), Value.int IntKind.u8 (a4 % (256 : Int)), Value.int IntKind.u8 (a4 / (256 : Int) % (256 : Int)), Value.int IntKind.u8 (a4 / (65536 : Int) % (256 : Int)), Value.int IntKind.u8
 (a4 / (16777216 : Int) % (256 : Int)), Value.int IntKind.u8 (a4 / (4294967296 : Int) % (256 : Int)), Value.int IntKind.u8 (a4 / (1099511627776 : Int) % (256 : Int)), Value.int IntKind.u8 (a4 / (281474976710656 : Int) %
 (256 : Int)), Value.int IntKind.u8 (a4 / (72057594037927936 : Int) % (256 : Int)), Value.int IntKind.u8 (a7 % (256 : Int)), Value.int IntKind.u8 (a7 / (256 : Int) % (256 : Int)), Value.int IntKind.u8 (a7 / (65536 : Int) %
 (256 : Int)), Value.int IntKind.u8 (a7 / (16777216 : Int) % (256 : Int)), Value.int IntKind.u8 (a7 / (4294967296 : Int) % (256 : Int)), Value.int IntKind.u8 (a7 / (1099511627776 : Int) % (256 : Int)), Value.int IntKind.u8
 (a7 / (281474976710656 : Int) % (256 : Int)), Value.int IntKind.u8 (a7 / (72057594037927936 : Int) % (256 : Int)), Value.int IntKind.u8 (a6 % (256 : Int)), Value.int IntKind.u8 (a6 / (256 : Int) % (256 : Int)), Value.int
 IntKind.u8 (a6 / (65536 : Int) % (256 : Int)), Value.int IntKind.u8 (a6 / (16777216 : Int) % (256 : Int)), Value.int IntKind.u8 (a6 / (4294967296 : Int) % (256 : Int)), Value.int IntKind.u8 (a6 / (1099511627776 : Int) %
 (256 : Int)), Value.int IntKind.u8 (a6 / (281474976710656 : Int) % (256 : Int)), Value.int IntKind.u8 (a6 / (72057594037927936 : Int) % (256 : Int)), Value.int IntKind.u8 (a9 % (256 : Int)), Value.int IntKind.u8 (a9 /
 (256 : Int) % (256 : Int)), Value.int IntKind.u8 (a9 / (65536 : Int) % (256 : Int)), Value.int IntKind.u8 (a9 / (16777216 : Int) % (256 : Int)), Value.int IntKind.u8 (a9 / (4294967296 : Int) % (256 : Int)), Value.int
 IntKind.u8 (a9 / (1099511627776 : Int) % (256 : Int)), Value.int IntKind.u8 (a9 / (281474976710656 : Int) % (256 : Int)), Value.int IntKind.u8 (a9 / (72057594037927936 : Int) % (256 : Int)), Value.int IntKind.u8 (a8 %
 (256 : Int)), Value.int IntKind.u8 (a8 / (256 : Int) % (256 : Int)), Value.int IntKind.u8 (a8 / (65536 : Int) % (256 : Int)), Value.int IntKind.u8 (a8 / (16777216 : Int) % (256 : Int)), Value.int IntKind.u8 (a8 /
 (4294967296 : Int) % (256 : Int)), Value.int IntKind.u8 (a8 / (1099511627776 : Int) % (256 : Int)), Value.int IntKind.u8 (a8 / (281474976710656 : Int) % (256 : Int)), Value.int IntKind.u8 (a8 / (72057594037927936 : Int) %
 (256 : Int)), Value.int IntKind.u8 (a11 % (256 : Int)), Value.int IntKind.u8 (a11 / (256 : Int) % (256 : Int)), Value.int IntKind.u8 (a11 / (65536 : Int) % (256 : Int)), Value.int IntKind.u8 (a11 / (16777216 : Int) % (256
 : Int)), Value.int IntKind.u8 (a11 / (4294967296 : Int) % (256 : Int)), Value.int IntKind.u8 (a11 / (1099511627776 : Int) % (256 : Int)), Value.int IntKind.u8 (a11 / (281474976710656 : Int) % (256 : Int)), Value.int
 IntKind.u8 (a11 / (72057594037927936 : Int) % (256 : Int)), Value.int IntKind.u8 (a10 % (256 : Int)), Value.int IntKind.u8 (a10 / (256 : Int) % (256 : Int)), Value.int IntKind.u8 (a10 / (65536 : Int) % (256 : Int)),
 Value.int IntKind.u8 (a10 / (16777216 : Int) % (256 : Int)), Value.int IntKind.u8 (a10 / (4294967296 : Int) % (256 : Int)), Value.int IntKind.u8 (a10 / (1099511627776 : Int) % (256 : Int)), Value.int IntKind.u8 (a10 /
 (281474976710656 : Int) % (256 : Int)), Value.int IntKind.u8 (a10 / (72057594037927936 : Int) % (256 : Int)), Value.int IntKind.u8 (lowI IntKind.u8 (srI a12 (0 : Int))), Value.int IntKind.u8 (lowI IntKind.u8 (srI a12 (8 :
 Int))), Value.int IntKind.u8 (lowI IntKind.u8 (srI a12 (16 : Int))), Value.int IntKind.u8 (lowI IntKind.u8 (srI a12 (24 : Int))), Value.int IntKind.u8 (lowI IntKind.u8 (srI a12 (32 : Int))), Value.int IntKind.u8 (lowI
 IntKind.u8 (srI a12 (40 : Int))), Value.int IntKind.u8 (lowI IntKind.u8 (srI a12 (48 : Int))), Value.int IntKind.u8 (lowI IntKind.u8 (srI a12 (56 : Int))), Value.int IntKind.u8 (lowI IntKind.u8 (srI a13 (0 : Int))),
 Value.int IntKind.u8 (lowI IntKind.u8 (srI a13 (8 : Int))), Value.int IntKind.u8 (lowI IntKind.u8 (srI a13 (16 : Int))), Value.int IntKind.u8 (lowI IntKind.u8 (srI a13 (24 : Int))), Value.int IntKind.u8 (lowI IntKind.u8
 (srI a14 (0 : Int))), Value.int IntKind.u8 (lowI IntKind.u8 (srI a14 (8 : Int))), Value.int IntKind.u8 (lowI IntKind.u8 (srI a14 (16 : Int))), Value.int IntKind.u8 (lowI IntKind.u8 (srI a14 (24 : Int))), Value.int
 IntKind.u8 (lowI IntKind.u8 (srI a15 (0 : Int))), Value.int IntKind.u8 (lowI IntKind.u8 (srI a15 (8 : Int))), Value.int IntKind.u8 (lowI IntKind.u8 (srI a15 (16 : Int))), Value.int IntKind.u8 (lowI IntKind.u8 (srI a15 (24
 : Int))), Value.int IntKind.u8 (lowI IntKind.u8 (srI a16 (0 : Int))), Value.int IntKind.u8 (lowI IntKind.u8 (srI a16 (8 : Int))), Value.int IntKind.u8 (lowI IntKind.u8 (srI a17 (0 : Int))), Value.int IntKind.u8 (lowI
 IntKind.u8 (srI a17 (8 : Int))), Value.int IntKind.u8 (lowI IntKind.u8 (srI a18 (0 : Int))), Value.int IntKind.u8 (lowI IntKind.u8 (srI a18 (8 : Int))), Value.int IntKind.u8 (lowI IntKind.u8 (srI a18 (16 : Int))),
 Value.int IntKind.u8 (lowI IntKind.u8 (srI a18 (24 : Int))), Value.int IntKind.u8 (lowI IntKind.u8 (srI a18 (32 : Int))), Value.int IntKind.u8 (lowI IntKind.u8 (srI a18 (40 : Int))), Value.int IntKind.u8 (lowI IntKind.u8
 (srI a18 (48 : Int))), Value.int IntKind.u8 (lowI IntKind.u8 (srI a18 (56 : Int)))]), [], ((fun (q0 q1 q2 q3 q4 q5 q6 q7 : Prop) => [q0, q1, q2, q3, q4, q5, q6, q7, rg IntKind.u64 a13, q0, q1, q2, q3, rg IntKind.u64 a14,
 q0, q1, q2, q3, rg IntKind.u64 a15, q0, q1, q2, q3, rg IntKind.u64 a16, q0, q1, rg IntKind.u64 a17, q0, q1, q0, q1, q2, q3, q4, q5, q6, q7]) ((0 : Int) ≤ (0 : Int) ∧ (0 : Int) ≤ (64 : Int)) ((0 : Int) ≤ (8 : Int) ∧ (8 :
 Int) ≤ (64 : Int)) ((0 : Int) ≤ (16 : Int) ∧ (16 : Int) ≤ (64 : Int)) ((0 : Int) ≤ (24 : Int) ∧ (24 : Int) ≤ (64 : Int)) ((0 : Int) ≤ (32 : Int) ∧ (32 : Int) ≤ (64 : Int)) ((0 : Int) ≤ (40 : Int) ∧ (40 : Int) ≤ (64 :
 Int)) ((0 : Int) ≤ (48 : Int) ∧ (48 : Int) ≤ (64 : Int)) ((0 : Int) ≤ (56 : Int) ∧ (56 : Int) ≤ (64 : Int)))) := by kernel_rfl
theorem tb_i (a0 a1 a2 a3 a4 a5 a6 a7 a8 a9 a10 a11 a12 a13 a14 a15 a16 a17 a18) : prjR 2 (runZ rwV Try.prog 9 9 [rcdV a0 a1 a2 a3 a4 a5 a6 a7 a8 a9 a10 a11 a12 a13 a14 a15 a16 a17 a18] [] 1 []) =
  Res.ok ((Value.slice (some (Addr.mk 2 0 none)) 128 128, Rw.mk Kd.shut [Value.int IntKind.u8 (a1 % (256 : Int)), Value.int IntKind.u8 (a1 / (256 : Int) % (256 : Int)), Value.int IntKind.u8 (a1 / (65536 : Int) % (256 :
 Int)), Value.int IntKind.u8 (a1 / (16777216 : Int) % (256 : Int)), Value.int IntKind.u8 (a1 / (4294967296 : Int) % (256 : Int)), Value.int IntKind.u8 (a1 / (1099511627776 : Int) % (256 : Int)), Value.int IntKind.u8 (a1 /
 (281474976710656 : Int) % (256 : Int)), Value.int IntKind.u8 (a1 / (72057594037927936 : Int) % (256 : Int)), Value.int IntKind.u8 (a0 % (256 : Int)), Value.int IntKind.u8 (a0 / (256 : Int) % (256 : Int)), Value.int
 IntKind.u8 (a0 / (65536 : Int) % (256 : Int)), Value.int IntKind.u8 (a0 / (16777216 : Int) % (256 : Int)), Value.int IntKind.u8 (a0 / (4294967296 : Int) % (256 : Int)), Value.int IntKind.u8 (a0 / (1099511627776 : Int) %
 (256 : Int)), Value.int IntKind.u8 (a0 / (281474976710656 : Int) % (256 : Int)), Value.int IntKind.u8 (a0 / (72057594037927936 : Int) % (256 : Int)), Value.int IntKind.u8 (a3 % (256 : Int)), Value.int IntKind.u8 (a3 /
 (256 : Int) % (256 : Int)), Value.int IntKind.u8 (a3 / (65536 : Int) % (256 : Int)), Value.int IntKind.u8 (a3 / (16777216 : Int) % (256 : Int)), Value.int IntKind.u8 (a3 / (4294967296 : Int) % (256 : Int)), Value.int
 IntKind.u8 (a3 / (1099511627776 : Int) % (256 : Int)), Value.int IntKind.u8 (a3 / (281474976710656 : Int) % (256 : Int)), Value.int IntKind.u8 (a3 / (72057594037927936 : Int) % (256 : Int)), Value.int IntKind.u8 (a2 %
 (256 : Int)), Value.int IntKind.u8 (a2 / (256 : Int) % (256 : Int)), Value.int IntKind.u8 (a2 / (65536 : Int) % (256 : Int)), Value.int IntKind.u8 (a2 / (16777216 : Int) % (256 : Int)), Value.int IntKind.u8 (a2 /
 (4294967296 : Int) % (256 : Int)), Value.int IntKind.u8 (a2 / (1099511627776 : Int) % (256 : Int)), Value.int IntKind.u8 (a2 / (281474976710656 : Int) % (256 : Int)), Value.int IntKind.u8 (a2 / (72057594037927936 : Int) %
 (256 : Int)), Value.int IntKind.u8 (a5 % (256 : Int)), Value.int IntKind.u8 (a5 / (256 : Int) % (256 : Int)), Value.int IntKind.u8 (a5 / (65536 : Int) % (256 : Int)), Value.int IntKind.u8 (a5 / (16777216 : Int) % (256 :
 Int)), Value.int IntKind.u8 (a5 / (4294967296 : Int) % (256 : Int)), Value.int IntKind.u8 (a5 / (1099511627776 : Int) % (256 : Int)), Value.int IntKind.u8 (a5 / (281474976710656 : Int) % (256 : Int)), Value.int IntKind.u8
 (a5 / (72057594037927936 : Int) % (256 : Int)), Value.int IntKind.u8 (a4 % (256 : Int)), Value.int IntKind.u8 (a4 / (256 : Int) % (256 : Int)), Value.int IntKind.u8 (a4 / (65536 : Int) % (256 : Int)), Value.int IntKind.u8
 (a4 / (16777216 : Int) % (256 : Int)), Value.int IntKind.u8 (a4 / (4294967296 : Int) % (256 : Int)), Value.int IntKind.u8 (a4 / (1099511627776 : Int) % (256 : Int)), Value.int IntKind.u8 (a4 / (281474976710656 : Int) %
 (256 : Int)), Value.int IntKind.u8 (a4 / (72057594037927936 : Int) % (256 : Int)), Value.int IntKind.u8 (a7 % (256 : Int)), Value.int IntKind.u8 (a7 / (256 : Int) % (256 : Int)), Value.int IntKind.u8 (a7 / (65536 : Int) %
 (256 : Int)), Value.int IntKind.u8 (a7 / (16777216 : Int) % (256 : Int)), Value.int IntKind.u8 (a7 / (4294967296 : Int) % (256 : Int)), Value.int IntKind.u8 (a7 / (1099511627776 : Int) % (256 : Int)), Value.int IntKind.u8
 (a7 / (281474976710656 : Int) % (256 : Int)), Value.int IntKind.u8 (a7 / (72057594037927936 : Int) % (256 : Int)), Value.int IntKind.u8 (a6 % (256 : Int)), Value.int IntKind.u8 (a6 / (256 : Int) % (256 : Int)), Value.int
 IntKind.u8 (a6 / (65536 : Int) % (256 : Int)), Value.int IntKind.u8 (a6 / (16777216 : Int) % (256 : Int)), Value.int IntKind.u8 (a6 / (4294967296 : Int) % (256 : Int)), Value.int IntKind.u8 (a6 / (1099511627776 : Int) %
 (256 : Int)), Value.int IntKind.u8 (a6 / (281474976710656 : Int) % (256 : Int)), Value.int IntKind.u8 (a6 / (72057594037927936 : Int) % (256 : Int)), Value.int IntKind.u8 (a9 % (256 : Int)), Value.int IntKind.u8 (a9 /
 (256 : Int) % (256 : Int)), Value.int IntKind.u8 (a9 / (65536 : Int) % (256 : Int)), Value.int IntKind.u8 (a9 / (16777216 : Int) % (256 : Int)), Value.int IntKind.u8 (a9 / (4294967296 : Int) % (256 : Int)), Value.int
 IntKind.u8 (a9 / (1099511627776 : Int) % (256 : Int)), Value.int IntKind.u8 (a9 / (281474976710656 : Int) % (256 : Int)), Value.int IntKind.u8 (a9 / (72057594037927936 : Int) % (256 : Int)), Value.int IntKind.u8 (a8 %
 (256 : Int)), Value.int IntKind.u8 (a8 / (256 : Int) % (256 : Int)), Value.int IntKind.u8 (a8 / (65536 : Int) % (256 : Int)), Value.int IntKind.u8 (a8 / (16777216 : Int) % (256 : Int)), Value.int IntKind.u8 (a8 /
 (4294967296 : Int) % (256 : Int)), Value.int IntKind.u8 (a8 / (1099511627776 : Int) % (256 : Int)), Value.int IntKind.u8 (a8 / (281474976710656 : Int) % (256 : Int)), Value.int IntKind.u8 (a8 / (72057594037927936 : Int) %
 (256 : Int)), Value.int IntKind.u8 (a11 % (256 : Int)), Value.int IntKind.u8 (a11 / (256 : Int) % (256 : Int)), Value.int IntKind.u8 (a11 / (65536 : Int) % (256 : Int)), Value.int IntKind.u8 (a11 / (16777216 : Int) % (256
 : Int)), Value.int IntKind.u8 (a11 / (4294967296 : Int) % (256 : Int)), Value.int IntKind.u8 (a11 / (1099511627776 : Int) % (256 : Int)), Value.int IntKind.u8 (a11 / (281474976710656 : Int) % (256 : Int)), Value.int
 IntKind.u8 (a11 / (72057594037927936 : Int) % (256 : Int)), Value.int IntKind.u8 (a10 % (256 : Int)), Value.int IntKind.u8 (a10 / (256 : Int) % (256 : Int)), Value.int IntKind.u8 (a10 / (65536 : Int) % (256 : Int)),
 Value.int IntKind.u8 (a10 / (16777216 : Int) % (256 : Int)), Value.int IntKind.u8 (a10 / (4294967296 : Int) % (256 : Int)), Value.int IntKind.u8 (a10 / (1099511627776 : Int) % (256 : Int)), Value.int IntKind.u8 (a10 /
 (281474976710656 : Int) % (256 : Int)), Value.int IntKind.u8 (a10 / (72057594037927936 : Int) % (256 : Int)), Value.int IntKind.u8 (lowI IntKind.u8 (srI a12 (0 : Int))), Value.int IntKind.u8 (lowI IntKind.u8 (srI a12 (8 :
 Int))), Value.int IntKind.u8 (lowI IntKind.u8 (srI a12 (16 : Int))), Value.int IntKind.u8 (lowI IntKind.u8 (srI a12 (24 : Int))), Value.int IntKind.u8 (lowI IntKind.u8 (srI a12 (32 : Int))), Value.int IntKind.u8 (lowI
 IntKind.u8 (srI a12 (40 : Int))), Value.int IntKind.u8 (lowI IntKind.u8 (srI a12 (48 : Int))), Value.int IntKind.u8 (lowI IntKind.u8 (srI a12 (56 : Int))), Value.int IntKind.u8 (lowI IntKind.u8 (srI a13 (0 : Int))),
 Value.int IntKind.u8 (lowI IntKind.u8 (srI a13 (8 : Int))), Value.int IntKind.u8 (lowI IntKind.u8 (srI a13 (16 : Int))), Value.int IntKind.u8 (lowI IntKind.u8 (srI a13 (24 : Int))), Value.int IntKind.u8 (lowI IntKind.u8
 (srI a14 (0 : Int))), Value.int IntKind.u8 (lowI IntKind.u8 (srI a14 (8 : Int))), Value.int IntKind.u8 (lowI IntKind.u8 (srI a14 (16 : Int))), Value.int IntKind.u8 (lowI IntKind.u8 (srI a14 (24 : Int))), Value.int
 IntKind.u8 (lowI IntKind.u8 (srI a15 (0 : Int))), Value.int IntKind.u8 (lowI IntKind.u8 (srI a15 (8 : Int))), Value.int IntKind.u8 (lowI IntKind.u8 (srI a15 (16 : Int))), Value.int IntKind.u8 (lowI IntKind.u8 (srI a15 (24
 : Int))), Value.int IntKind.u8 (lowI IntKind.u8 (srI a16 (0 : Int))), Value.int IntKind.u8 (lowI IntKind.u8 (srI a16 (8 : Int))), Value.int IntKind.u8 (lowI IntKind.u8 (srI a17 (0 : Int))), Value.int IntKind.u8 (lowI
 IntKind.u8 (srI a17 (8 : Int))), Value.int IntKind.u8 (lowI IntKind.u8 (srI a18 (0 : Int))), Value.int IntKind.u8 (lowI IntKind.u8 (srI a18 (8 : Int))), Value.int IntKind.u8 (lowI IntKind.u8 (srI a18 (16 : Int))),
 Value.int IntKind.u8 (lowI IntKind.u8 (srI a18 (24 : Int))), Value.int IntKind.u8 (lowI IntKind.u8 (srI a18 (32 : Int))), Value.int IntKind.u8 (lowI IntKind.u8 (srI a18 (40 : Int))), Value.int IntKind.u8 (lowI IntKind.u8
 (srI a18 (48 : Int))), Value.int IntKind.u8 (lowI IntKind.u8 (srI a18 (56 : Int)))]), [], ((fun (q0 q1 q2 q3 q4 q5 q6 q7 : Prop) => [q0, q1, q2, q3, q4, q5, q6, q7, rg IntKind.u64 a13, q0, q1, q2, q3, rg IntKind.u64 a14,
 q0, q1, q2, q3, rg IntKind.u64 a15, q0, q1, q2, q3, rg IntKind.u64 a16, q0, q1, rg IntKind.u64 a17, q0, q1, q0, q1, q2, q3, q4, q5, q6, q7]) ((0 : Int) ≤ (0 : Int) ∧ (0 : Int) ≤ (64 : Int)) ((0 : Int) ≤ (8 : Int) ∧ (8 :
 Int) ≤ (64 : Int)) ((0 : Int) ≤ (16 : Int) ∧ (16 : Int) ≤ (64 : Int)) ((0 : Int) ≤ (24 : Int) ∧ (24 : Int) ≤ (64 : Int)) ((0 : Int) ≤ (32 : Int) ∧ (32 : Int) ≤ (64 : Int)) ((0 : Int) ≤ (40 : Int) ∧ (40 : Int) ≤ (64 :
 Int)) ((0 : Int) ≤ (48 : Int) ∧ (48 : Int) ≤ (64 : Int)) ((0 : Int) ≤ (56 : Int) ∧ (56 : Int) ≤ (64 : Int)))) := by kernel_rfl
/-- A field that may be. -/
def wfK (n : Int) (m : Int) : Prop := 0 ≤ n ∧ n < m
def recW (a13 a14 a15 a16 a17 : Int) : Prop := wfK a13 4294967296 ∧ wfK a14 4294967296 ∧ wfK a15 4294967296 ∧ wfK a16 65536 ∧ wfK a17 65536
def gRec (room : Bool) : GSpec := fun av tp => match av with
  | [.fl (.agg ⟨[.int .u64 a0, .int .u64 a1, .int .u64 a2, .int .u64 a3, .int .u64 a4, .int .u64 a5, .int .u64 a6, .int .u64 a7, .int .u64 a8, .int .u64 a9, .int .u64 a10, .int .u64 a11, .int .u64 a12, .int .u32 a13, .int .u32 a14, .int .u32 a15, .int .u16 a16, .int .u16 a17, .int .u64 a18]⟩)] =>
      some (bif room then ⟨fun nx => .slice (some ⟨nx, 0, none⟩) 128 (capBig + nx), [⟨.room 1 [.int .u8 0], rcdB a0 a1 a2 a3 a4 a5 a6 a7 a8 a9 a10 a11 a12 a13 a14 a15 a16 a17 a18⟩]⟩ else ⟨fun nx => .slice (some ⟨nx, 0, none⟩) 128 128, [⟨.shut, rcdB a0 a1 a2 a3 a4 a5 a6 a7 a8 a9 a10 a11 a12 a13 a14 a15 a16 a17 a18⟩]⟩, tp, [recW a13 a14 a15 a16 a17])
  | _ => none
theorem lw (x : Int) : lowI .u8 x = x % 256 := by unfold lowI; rw [mdI_eq]; rfl
theorem lw_u8 (x : Int) : 0 ≤ lowI .u8 x ∧ lowI .u8 x < 256 := by rw [lw]; omega
theorem e8_Byts (n : Int) : Byts (e8 n) := by
  refine ⟨rfl, fun x hx => ?_⟩
  simp only [e8, intsOf, List.map_cons, List.map_nil, List.mem_cons, List.not_mem_nil, or_false] at hx
  rcases hx with rfl | rfl | rfl | rfl | rfl | rfl | rfl | rfl <;> exact lw_u8 _
theorem e4_Byts (n : Int) : Byts (e4 n) := by
  refine ⟨rfl, fun x hx => ?_⟩
  simp only [e4, intsOf, List.map_cons, List.map_nil, List.mem_cons, List.not_mem_nil, or_false] at hx
  rcases hx with rfl | rfl | rfl | rfl <;> exact lw_u8 _
theorem e2_Byts (n : Int) : Byts (e2 n) := by
  refine ⟨rfl, fun x hx => ?_⟩
  simp only [e2, intsOf, List.map_cons, List.map_nil, List.mem_cons, List.not_mem_nil, or_false] at hx
  rcases hx with rfl | rfl <;> exact lw_u8 _
theorem d8_Byts (a : Int) : Byts (d8 a) := by
  refine ⟨rfl, fun x hx => ?_⟩
  simp only [d8, intsOf, List.map_cons, List.map_nil, List.mem_cons, List.not_mem_nil, or_false] at hx
  rcases hx with rfl | rfl | rfl | rfl | rfl | rfl | rfl | rfl <;> omega
theorem rcdB_Byts (a0 a1 a2 a3 a4 a5 a6 a7 a8 a9 a10 a11 a12 a13 a14 a15 a16 a17 a18 : Int) : Byts (rcdB a0 a1 a2 a3 a4 a5 a6 a7 a8 a9 a10 a11 a12 a13 a14 a15 a16 a17 a18) := by
  unfold rcdB
  exact ((((((((((((((((((d8_Byts _).app (d8_Byts _)).app (d8_Byts _)).app (d8_Byts _)).app (d8_Byts _)).app (d8_Byts _)).app (d8_Byts _)).app (d8_Byts _)).app (d8_Byts _)).app (d8_Byts _)).app (d8_Byts _)).app (d8_Byts _)).app (e8_Byts _)).app (e4_Byts _)).app (e4_Byts _)).app (e4_Byts _)).app (e2_Byts _)).app (e2_Byts _)).app (e8_Byts _)
theorem rcdB_len (a0 a1 a2 a3 a4 a5 a6 a7 a8 a9 a10 a11 a12 a13 a14 a15 a16 a17 a18 : Int) : (rcdB a0 a1 a2 a3 a4 a5 a6 a7 a8 a9 a10 a11 a12 a13 a14 a15 a16 a17 a18).length = 128 := by kernel_rfl
theorem ab_i_gok : GOk Try.prog 8 [.f] (gRec false) := by
  have hX : XOkZ rwV Try.prog := noXz_ok rfl
  have hT : TOkZ rwV Try.prog := T_okV rfl u8T_one
  have hL : LOkZ rwV Try.prog := noL_okV rfl
  intro av tp gr tp' ob hG ho hP caps hcap
  obtain ⟨a, rfl, pa⟩ := avps1 hP
  obtain ⟨c, rfl⟩ := caps1 hcap
  unfold gRec at hG
  split at hG
  case h_2 => cases hG
  rename_i a0 a1 a2 a3 a4 a5 a6 a7 a8 a9 a10 a11 a12 a13 a14 a15 a16 a17 a18 e
  simp only [List.cons.injEq, and_true] at e
  subst e
  simp only [Option.some.injEq, Prod.mk.injEq, cond_true, cond_false] at hG
  obtain ⟨rfl, rfl, rfl⟩ := hG
  obtain ⟨⟨⟨x0, y0⟩, ⟨x1, y1⟩, ⟨x2, y2⟩, ⟨x3, y3⟩, x4, y4⟩, _⟩ := ho
  refine ran_one (run_row hX hT hL (ab_i a0 a1 a2 a3 a4 a5 a6 a7 a8 a9 a10 a11 a12 a13 a14 a15 a16 a17 a18) ?_ rfl) (by kernel_rfl) (fl_byts (rcdB_Byts a0 a1 a2 a3 a4 a5 a6 a7 a8 a9 a10 a11 a12 a13 a14 a15 a16 a17 a18)) rfl (fun e => by cases e) (by omega)
  simp only [Alls, rg]
  repeat' (first | with_reducible exact trivial | with_reducible apply And.intro)
  all_goals first | with_reducible assumption | omega | with_reducible rfl | (fail)
theorem tb_i_gok : GOk Try.prog 9 [.f] (gRec false) := by
  have hX : XOkZ rwV Try.prog := noXz_ok rfl
  have hT : TOkZ rwV Try.prog := T_okV rfl u8T_one
  have hL : LOkZ rwV Try.prog := noL_okV rfl
  intro av tp gr tp' ob hG ho hP caps hcap
  obtain ⟨a, rfl, pa⟩ := avps1 hP
  obtain ⟨c, rfl⟩ := caps1 hcap
  unfold gRec at hG
  split at hG
  case h_2 => cases hG
  rename_i a0 a1 a2 a3 a4 a5 a6 a7 a8 a9 a10 a11 a12 a13 a14 a15 a16 a17 a18 e
  simp only [List.cons.injEq, and_true] at e
  subst e
  simp only [Option.some.injEq, Prod.mk.injEq, cond_true, cond_false] at hG
  obtain ⟨rfl, rfl, rfl⟩ := hG
  obtain ⟨⟨⟨x0, y0⟩, ⟨x1, y1⟩, ⟨x2, y2⟩, ⟨x3, y3⟩, x4, y4⟩, _⟩ := ho
  refine ran_one (run_row hX hT hL (tb_i a0 a1 a2 a3 a4 a5 a6 a7 a8 a9 a10 a11 a12 a13 a14 a15 a16 a17 a18) ?_ rfl) (by kernel_rfl) (fl_byts (rcdB_Byts a0 a1 a2 a3 a4 a5 a6 a7 a8 a9 a10 a11 a12 a13 a14 a15 a16 a17 a18)) rfl (fun e => by cases e) (by omega)
  simp only [Alls, rg]
  repeat' (first | with_reducible exact trivial | with_reducible apply And.intro)
  all_goals first | with_reducible assumption | omega | with_reducible rfl | (fail)
/-- The same contracts; the bytes have a name. -/
def RcdIs (R : List Value) (a0 a1 a2 a3 a4 a5 a6 a7 a8 a9 a10 a11 a12 a13 a14 a15 a16 a17 a18 : Int) : Prop := R = rcdB a0 a1 a2 a3 a4 a5 a6 a7 a8 a9 a10 a11 a12 a13 a14 a15 a16 a17 a18
def gRecX (room : Bool) (R : List Value) : GSpec := fun av tp => match av with
  | [.fl (.agg ⟨[.int .u64 a0, .int .u64 a1, .int .u64 a2, .int .u64 a3, .int .u64 a4, .int .u64 a5, .int .u64 a6, .int .u64 a7, .int .u64 a8, .int .u64 a9, .int .u64 a10, .int .u64 a11, .int .u64 a12, .int .u32 a13, .int .u32 a14, .int .u32 a15, .int .u16 a16, .int .u16 a17, .int .u64 a18]⟩)] =>
      some (bif room then ⟨fun nx => .slice (some ⟨nx, 0, none⟩) 128 (capBig + nx), [⟨.room 1 [.int .u8 0], R⟩]⟩ else ⟨fun nx => .slice (some ⟨nx, 0, none⟩) 128 128, [⟨.shut, R⟩]⟩, tp, [RcdIs R a0 a1 a2 a3 a4 a5 a6 a7 a8 a9 a10 a11 a12 a13 a14 a15 a16 a17 a18, recW a13 a14 a15 a16 a17])
  | _ => none
theorem gRecX_ok {f : FuncId} {room : Bool} (H : GOk Try.prog f [.f] (gRec room)) (R : List Value) : GOk Try.prog f [.f] (gRecX room R) := by
  intro av tp gr tp' ob hG ho hP caps hcap
  obtain ⟨a, rfl, pa⟩ := avps1 hP
  unfold gRecX at hG
  split at hG
  case h_2 => cases hG
  rename_i a0 a1 a2 a3 a4 a5 a6 a7 a8 a9 a10 a11 a12 a13 a14 a15 a16 a17 a18 e
  simp only [List.cons.injEq, and_true] at e
  subst e
  simp only [Option.some.injEq, Prod.mk.injEq] at hG
  obtain ⟨rfl, rfl, rfl⟩ := hG
  obtain ⟨hR, hw⟩ := ho
  unfold RcdIs at hR
  subst hR
  exact H _ tp _ tp _ (show gRec room [.fl (rcdV a0 a1 a2 a3 a4 a5 a6 a7 a8 a9 a10 a11 a12 a13 a14 a15 a16 a17 a18)] tp = some (_, tp, _) from rfl) hw hP caps hcap
end Go.Proofs.Ytgpgdkpfeoaidaa
