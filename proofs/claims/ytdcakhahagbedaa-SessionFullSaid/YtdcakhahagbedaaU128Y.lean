/-
  Bytes of numbers of 128 bits, and numbers of bytes: the program's functions and the document's, by contracts.
-/
import Derived.Test.YtdcakhahagbedaaKitS
namespace Go.Proofs.Ytdcakhahagbedaa
set_option linter.unusedSimpArgs false
set_option linter.unusedVariables false
set_option linter.unusedSectionVars false
open Go Go.RowKit

/-- Eight bytes' number, the lowest first. -/
def r8 (xs : List Value) : Int := intAt xs 0 + 256 * (intAt xs 1 + 256 * (intAt xs 2 + 256 * (intAt xs 3 + 256 * (intAt xs 4 + 256 * (intAt xs 5 + 256 * (intAt xs 6 + 256 * intAt xs 7))))))
def d8 (n : Int) : List Value := [.int .u8 (n % 256), .int .u8 (n / 256 % 256), .int .u8 (n / 65536 % 256), .int .u8 (n / 16777216 % 256), .int .u8 (n / 4294967296 % 256), .int .u8 (n / 1099511627776 % 256), .int .u8 (n / 281474976710656 % 256), .int .u8 (n / 72057594037927936 % 256)]
def u8V : Tv := ⟨noTz, noXz, noL, fun _ => [], orSy (lsSy 40 [(18, 0), (19, 0), (22, 0), (23, 7), (31, 0), (32, 0), (35, 0), (36, 7), (17, 0), (30, 0)]) (lsSy 52 [(15, 0), (16, 0), (21, 0), (22, 0)]), fun _ => [], fun _ => 0⟩
theorem by_i (a b : Int) : runZ u8V Try.prog 5 52 [.agg ⟨[.int .u64 a, .int .u64 b]⟩] [] 1 [] =
  Res.ok ((Value.agg (Array.mk [Value.int IntKind.u8 (lowI IntKind.u8 (srI b (0 : Int))), Value.int IntKind.u8 (lowI IntKind.u8 (srI b (8 : Int))), Value.int IntKind.u8 (lowI IntKind.u8 (srI b (16 : Int))), Value.int
 IntKind.u8 (lowI IntKind.u8 (srI b (24 : Int))), Value.int IntKind.u8 (lowI IntKind.u8 (srI b (32 : Int))), Value.int IntKind.u8 (lowI IntKind.u8 (srI b (40 : Int))), Value.int IntKind.u8 (lowI IntKind.u8 (srI b (48 :
 Int))), Value.int IntKind.u8 (lowI IntKind.u8 (srI b (56 : Int))), Value.int IntKind.u8 (lowI IntKind.u8 (srI a (0 : Int))), Value.int IntKind.u8 (lowI IntKind.u8 (srI a (8 : Int))), Value.int IntKind.u8 (lowI IntKind.u8
 (srI a (16 : Int))), Value.int IntKind.u8 (lowI IntKind.u8 (srI a (24 : Int))), Value.int IntKind.u8 (lowI IntKind.u8 (srI a (32 : Int))), Value.int IntKind.u8 (lowI IntKind.u8 (srI a (40 : Int))), Value.int IntKind.u8
 (lowI IntKind.u8 (srI a (48 : Int))), Value.int IntKind.u8 (lowI IntKind.u8 (srI a (56 : Int)))]), [], 4, []), [], ((fun (q0 q1 q2 q3 q4 q5 q6 q7 : Prop) => [q0, q0, q1, q1, q2, q2, q3, q3, q4, q4, q5, q5, q6, q6, q7,
 q7]) ((0 : Int) ≤ (0 : Int) ∧ (0 : Int) ≤ (64 : Int)) ((0 : Int) ≤ (8 : Int) ∧ (8 : Int) ≤ (64 : Int)) ((0 : Int) ≤ (16 : Int) ∧ (16 : Int) ≤ (64 : Int)) ((0 : Int) ≤ (24 : Int) ∧ (24 : Int) ≤ (64 : Int)) ((0 : Int) ≤ (32
 : Int) ∧ (32 : Int) ≤ (64 : Int)) ((0 : Int) ≤ (40 : Int) ∧ (40 : Int) ≤ (64 : Int)) ((0 : Int) ≤ (48 : Int) ∧ (48 : Int) ≤ (64 : Int)) ((0 : Int) ≤ (56 : Int) ∧ (56 : Int) ≤ (64 : Int)))) := by kernel_rfl
theorem rd_i (xs : List Value) (c : Nat) : runZ u8V Try.prog 5 40 [.slice (some ⟨0, 0, none⟩) 16 c] [(0, ⟨.old, xs⟩)] 1 [] =
  Res.ok ((Value.tuple (Array.mk [Value.agg (Array.mk [Value.int IntKind.u64 (adI (adI (adI (adI (adI (adI (adI (adI (0 : Int) (slI (intAt xs 8) (0 : Int))) (slI (intAt xs 9) (8 : Int))) (slI (intAt xs 10) (16 : Int))) (slI
 (intAt xs 11) (24 : Int))) (slI (intAt xs 12) (32 : Int))) (slI (intAt xs 13) (40 : Int))) (slI (intAt xs 14) (48 : Int))) (slI (intAt xs 15) (56 : Int))), Value.int IntKind.u64 (adI (adI (adI (adI (adI (adI (adI (adI (0
 : Int) (slI (intAt xs 0) (0 : Int))) (slI (intAt xs 1) (8 : Int))) (slI (intAt xs 2) (16 : Int))) (slI (intAt xs 3) (24 : Int))) (slI (intAt xs 4) (32 : Int))) (slI (intAt xs 5) (40 : Int))) (slI (intAt xs 6) (48 : Int)))
 (slI (intAt xs 7) (56 : Int)))]), Value.int IntKind.i64 (0 : Int)]), [(0, Rw.mk Kd.old xs)], 3, []), [], [(0 : Int) ≤ (0 : Int) ∧ (0 : Int) < (16 : Int), xs[0]? = some (Value.int IntKind.u8 (intAt xs 0)), rg IntKind.u64
 (intAt xs 0), (0 : Int) ≤ (0 : Int) ∧ (0 : Int) ≤ (64 : Int) ∧ rg IntKind.u64 (slI (intAt xs 0) (0 : Int)), IntKind.wrap IntKind.u64 (↑(BitVec.toNat (BitVec.ofInt 64 (0 : Int) ||| BitVec.ofInt 64 (slI (intAt xs 0) (0 :
 Int)))) : Int) = adI (0 : Int) (slI (intAt xs 0) (0 : Int)), (0 : Int) ≤ (8 : Int) ∧ (8 : Int) < (16 : Int), xs[8]? = some (Value.int IntKind.u8 (intAt xs 8)), rg IntKind.u64 (intAt xs 8), (0 : Int) ≤ (0 : Int) ∧ (0 :
 Int) ≤ (64 : Int) ∧ rg IntKind.u64 (slI (intAt xs 8) (0 : Int)), IntKind.wrap IntKind.u64 (↑(BitVec.toNat (BitVec.ofInt 64 (0 : Int) ||| BitVec.ofInt 64 (slI (intAt xs 8) (0 : Int)))) : Int) = adI (0 : Int) (slI (intAt xs
 8) (0 : Int)), (0 : Int) ≤ (1 : Int) ∧ (1 : Int) < (16 : Int), xs[1]? = some (Value.int IntKind.u8 (intAt xs 1)), rg IntKind.u64 (intAt xs 1), (0 : Int) ≤ (8 : Int) ∧ (8 : Int) ≤ (64 : Int) ∧ rg IntKind.u64 (slI (intAt xs
 1) (8 : Int)), IntKind.wrap IntKind.u64 (↑(BitVec.toNat (BitVec.ofInt 64 (adI (0 : Int) (slI (intAt xs 0) (0 : Int))) ||| BitVec.ofInt 64 (slI (intAt xs 1) (8 : Int)))) : Int) = adI (adI (0 : Int) (slI (intAt xs 0) (0 :
 Int))) (slI (intAt xs 1) (8 : Int)), (0 : Int) ≤ (9 : Int) ∧ (9 : Int) < (16 : Int), xs[9]? = some (Value.int IntKind.u8 (intAt xs 9)), rg IntKind.u64 (intAt xs 9), (0 : Int) ≤ (8 : Int) ∧ (8 : Int) ≤ (64 : Int) ∧ rg
 IntKind.u64 (slI (intAt xs 9) (8 : Int)), IntKind.wrap IntKind.u64 (↑(BitVec.toNat (BitVec.ofInt 64 (adI (0 : Int) (slI (intAt xs 8) (0 : Int))) ||| BitVec.ofInt 64 (slI (intAt xs 9) (8 : Int)))) : Int) = adI (adI (0 :
 Int) (slI (intAt xs 8) (0 : Int))) (slI (intAt xs 9) (8 : Int)), (0 : Int) ≤ (2 : Int) ∧ (2 : Int) < (16 : Int), xs[2]? = some (Value.int IntKind.u8 (intAt xs 2)), rg IntKind.u64 (intAt xs 2), (0 : Int) ≤ (16 : Int) ∧ (16
 : Int) ≤ (64 : Int) ∧ rg IntKind.u64 (slI (intAt xs 2) (16 : Int)), IntKind.wrap IntKind.u64 (↑(BitVec.toNat (BitVec.ofInt 64 (adI (adI (0 : Int) (slI (intAt xs 0) (0 : Int))) (slI (intAt xs 1) (8 : Int))) |||
 BitVec.ofInt 64 (slI (intAt xs 2) (16 : Int)))) : Int) = adI (adI (adI (0 : Int) (slI (intAt xs 0) (0 : Int))) (slI (intAt xs 1) (8 : Int))) (slI (intAt xs 2) (16 : Int)), (0 : Int) ≤ (10 : Int) ∧ (10 : Int) < (16 : Int),
 xs[10]? = some (Value.int IntKind.u8 (intAt xs 10)), rg IntKind.u64 (intAt xs 10), (0 : Int) ≤ (16 : Int) ∧ (16 : Int) ≤ (64 : Int) ∧ rg IntKind.u64 (slI (intAt xs 10) (16 : Int)), IntKind.wrap IntKind.u64 (↑(BitVec.toNat
 (BitVec.ofInt 64 (adI (adI (0 : Int) (slI (intAt xs 8) (0 : Int))) (slI (intAt xs 9) (8 : Int))) ||| BitVec.ofInt 64 (slI (intAt xs 10) (16 : Int)))) : Int) = adI (adI (adI (0 : Int) (slI (intAt xs 8) (0 : Int))) (slI
 (intAt xs 9) (8 : Int))) (slI (intAt xs 10) (16 : Int)), (0 : Int) ≤ (3 : Int) ∧ (3 : Int) < (16 : Int), xs[3]? = some (Value.int IntKind.u8 (intAt xs 3)), rg IntKind.u64 (intAt xs 3), (0 : Int) ≤ (24 : Int) ∧ (24 : Int)
 ≤ (64 : Int) ∧ rg IntKind.u64 (slI (intAt xs 3) (24 : Int)), IntKind.wrap IntKind.u64 (↑(BitVec.toNat (BitVec.ofInt 64 (adI (adI (adI (0 : Int) (slI (intAt xs 0) (0 : Int))) (slI (intAt xs 1) (8 : Int))) (slI (intAt xs 2)
 (16 : Int))) ||| BitVec.ofInt 64 (slI (intAt xs 3) (24 : Int)))) : Int) = adI (adI (adI (adI (0 : Int) (slI (intAt xs 0) (0 : Int))) (slI (intAt xs 1) (8 : Int))) (slI (intAt xs 2) (16 : Int))) (slI (intAt xs 3) (24 :
 Int)), (0 : Int) ≤ (11 : Int) ∧ (11 : Int) < (16 : Int), xs[11]? = some (Value.int IntKind.u8 (intAt xs 11)), rg IntKind.u64 (intAt xs 11), (0 : Int) ≤ (24 : Int) ∧ (24 : Int) ≤ (64 : Int) ∧ rg IntKind.u64 (slI (intAt xs
 11) (24 : Int)), IntKind.wrap IntKind.u64 (↑(BitVec.toNat (BitVec.ofInt 64 (adI (adI (adI (0 : Int) (slI (intAt xs 8) (0 : Int))) (slI (intAt xs 9) (8 : Int))) (slI (intAt xs 10) (16 : Int))) ||| BitVec.ofInt 64 (slI
 (intAt xs 11) (24 : Int)))) : Int) = adI (adI (adI (adI (0 : Int) (slI (intAt xs 8) (0 : Int))) (slI (intAt xs 9) (8 : Int))) (slI (intAt xs 10) (16 : Int))) (slI (intAt xs 11) (24 : Int)), (0 : Int) ≤ (4 : Int) ∧ (4 :
 Int) < (16 : Int), xs[4]? = some (Value.int IntKind.u8 (intAt xs 4)), rg IntKind.u64 (intAt xs 4), (0 : Int) ≤ (32 : Int) ∧ (32 : Int) ≤ (64 : Int) ∧ rg IntKind.u64 (slI (intAt xs 4) (32 : Int)), IntKind.wrap IntKind.u64
 (↑(BitVec.toNat (BitVec.ofInt 64 (adI (adI (adI (adI (0 : Int) (slI (intAt xs 0) (0 : Int))) (slI (intAt xs 1) (8 : Int))) (slI (intAt xs 2) (16 : Int))) (slI (intAt xs 3) (24 : Int))) ||| BitVec.ofInt 64 (slI (intAt xs
 4) (32 : Int)))) : Int) = adI (adI (adI (adI (adI (0 : Int) (slI (intAt xs 0) (0 : Int))) (slI (intAt xs 1) (8 : Int))) (slI (intAt xs 2) (16 : Int))) (slI (intAt xs 3) (24 : Int))) (slI (intAt xs 4) (32 : Int)), (0 :
 Int) ≤ (12 : Int) ∧ (12 : Int) < (16 : Int), xs[12]? = some (Value.int IntKind.u8 (intAt xs 12)), rg IntKind.u64 (intAt xs 12), (0 : Int) ≤ (32 : Int) ∧ (32 : Int) ≤ (64 : Int) ∧ rg IntKind.u64 (slI (intAt xs 12) (32 :
 Int)), IntKind.wrap IntKind.u64 (↑(BitVec.toNat (BitVec.ofInt 64 (adI (adI (adI (adI (0 : Int) (slI (intAt xs 8) (0 : Int))) (slI (intAt xs 9) (8 : Int))) (slI (intAt xs 10) (16 : Int))) (slI (intAt xs 11) (24 : Int)))
 ||| BitVec.ofInt 64 (slI (intAt xs 12) (32 : Int)))) : Int) = adI (adI (adI (adI (adI (0 : Int) (slI (intAt xs 8) (0 : Int))) (slI (intAt xs 9) (8 : Int))) (slI (intAt xs 10) (16 : Int))) (slI (intAt xs 11) (24 : Int)))
 (slI (intAt xs 12) (32 : Int)), (0 : Int) ≤ (5 : Int) ∧ (5 : Int) < (16 : Int), xs[5]? = some (Value.int IntKind.u8 (intAt xs 5)), rg IntKind.u64 (intAt xs 5), (0 : Int) ≤ (40 : Int) ∧ (40 : Int) ≤ (64 : Int) ∧ rg
 IntKind.u64 (slI (intAt xs 5) (40 : Int)), IntKind.wrap IntKind.u64 (↑(BitVec.toNat (BitVec.ofInt 64 (adI (adI (adI (adI (adI (0 : Int) (slI (intAt xs 0) (0 : Int))) (slI (intAt xs 1) (8 : Int))) (slI (intAt xs 2) (16 :
 Int))) (slI (intAt xs 3) (24 : Int))) (slI (intAt xs 4) (32 : Int))) ||| BitVec.ofInt 64 (slI (intAt xs 5) (40 : Int)))) : Int) = adI (adI (adI (adI (adI (adI (0 : Int) (slI (intAt xs 0) (0 : Int))) (slI (intAt xs 1) (8 :
 Int))) (slI (intAt xs 2) (16 : Int))) (slI (intAt xs 3) (24 : Int))) (slI (intAt xs 4) (32 : Int))) (slI (intAt xs 5) (40 : Int)), (0 : Int) ≤ (13 : Int) ∧ (13 : Int) < (16 : Int), xs[13]? = some (Value.int IntKind.u8
 (intAt xs 13)), rg IntKind.u64 (intAt xs 13), (0 : Int) ≤ (40 : Int) ∧ (40 : Int) ≤ (64 : Int) ∧ rg IntKind.u64 (slI (intAt xs 13) (40 : Int)), IntKind.wrap IntKind.u64 (↑(BitVec.toNat (BitVec.ofInt 64 (adI (adI (adI (adI
 (adI (0 : Int) (slI (intAt xs 8) (0 : Int))) (slI (intAt xs 9) (8 : Int))) (slI (intAt xs 10) (16 : Int))) (slI (intAt xs 11) (24 : Int))) (slI (intAt xs 12) (32 : Int))) ||| BitVec.ofInt 64 (slI (intAt xs 13) (40 :
 Int)))) : Int) = adI (adI (adI (adI (adI (adI (0 : Int) (slI (intAt xs 8) (0 : Int))) (slI (intAt xs 9) (8 : Int))) (slI (intAt xs 10) (16 : Int))) (slI (intAt xs 11) (24 : Int))) (slI (intAt xs 12) (32 : Int))) (slI
 (intAt xs 13) (40 : Int)), (0 : Int) ≤ (6 : Int) ∧ (6 : Int) < (16 : Int), xs[6]? = some (Value.int IntKind.u8 (intAt xs 6)), rg IntKind.u64 (intAt xs 6), (0 : Int) ≤ (48 : Int) ∧ (48 : Int) ≤ (64 : Int) ∧ rg IntKind.u64
 (slI (intAt xs 6) (48 : Int)), IntKind.wrap IntKind.u64 (↑(BitVec.toNat (BitVec.ofInt 64 (adI (adI (adI (adI (adI (adI (0 : Int) (slI (intAt xs 0) (0 : Int))) (slI (intAt xs 1) (8 : Int))) (slI (intAt xs 2) (16 : Int)))
 (slI (intAt xs 3) (24 : Int))) (slI (intAt xs 4) (32 : Int))) (slI (intAt xs 5) (40 : Int))) ||| BitVec.ofInt 64 (slI (intAt xs 6) (48 : Int)))) : Int) = adI (adI (adI (adI (adI (adI (adI (0 : Int) (slI (intAt xs 0) (0 :
 Int))) (slI (intAt xs 1) (8 : Int))) (slI (intAt xs 2) (16 : Int))) (slI (intAt xs 3) (24 : Int))) (slI (intAt xs 4) (32 : Int))) (slI (intAt xs 5) (40 : Int))) (slI (intAt xs 6) (48 : Int)), (0 : Int) ≤ (14 : Int) ∧ (14
 : Int) < (16 : Int), xs[14]? = some (Value.int IntKind.u8 (intAt xs 14)), rg IntKind.u64 (intAt xs 14), (0 : Int) ≤ (48 : Int) ∧ (48 : Int) ≤ (64 : Int) ∧ rg IntKind.u64 (slI (intAt xs 14) (48 : Int)), IntKind.wrap
 IntKind.u64 (↑(BitVec.toNat (BitVec.ofInt 64 (adI (adI (adI (adI (adI (adI (0 : Int) (slI (intAt xs 8) (0 : Int))) (slI (intAt xs 9) (8 : Int))) (slI (intAt xs 10) (16 : Int))) (slI (intAt xs 11) (24 : Int))) (slI (intAt
 xs 12) (32 : Int))) (slI (intAt xs 13) (40 : Int))) ||| BitVec.ofInt 64 (slI (intAt xs 14) (48 : Int)))) : Int) = adI (adI (adI (adI (adI (adI (adI (0 : Int) (slI (intAt xs 8) (0 : Int))) (slI (intAt xs 9) (8 : Int)))
 (slI (intAt xs 10) (16 : Int))) (slI (intAt xs 11) (24 : Int))) (slI (intAt xs 12) (32 : Int))) (slI (intAt xs 13) (40 : Int))) (slI (intAt xs 14) (48 : Int)), (0 : Int) ≤ (7 : Int) ∧ (7 : Int) < (16 : Int), xs[7]? = some
 (Value.int IntKind.u8 (intAt xs 7)), rg IntKind.u64 (intAt xs 7), (0 : Int) ≤ (56 : Int) ∧ (56 : Int) ≤ (64 : Int) ∧ rg IntKind.u64 (slI (intAt xs 7) (56 : Int)), IntKind.wrap IntKind.u64 (↑(BitVec.toNat (BitVec.ofInt 64
 (adI (adI (adI (adI (adI (adI (adI (0 : Int) (slI (intAt xs 0) (0 : Int))) (slI (intAt xs 1) (8 : Int))) (slI (intAt xs 2) (16 : Int))) (slI (intAt xs 3) (24 : Int))) (slI (intAt xs 4) (32 : Int))) (slI (intAt xs 5) (40 :
 Int))) (slI (intAt xs 6) (48 : Int))) ||| BitVec.ofInt 64 (slI (intAt xs 7) (56 : Int)))) : Int) = adI (adI (adI (adI (adI (adI (adI (adI (0 : Int) (slI (intAt xs 0) (0 : Int))) (slI (intAt xs 1) (8 : Int))) (slI (intAt
 xs 2) (16 : Int))) (slI (intAt xs 3) (24 : Int))) (slI (intAt xs 4) (32 : Int))) (slI (intAt xs 5) (40 : Int))) (slI (intAt xs 6) (48 : Int))) (slI (intAt xs 7) (56 : Int)), (0 : Int) ≤ (15 : Int) ∧ (15 : Int) < (16 :
 Int), xs[15]? = some (Value.int IntKind.u8 (intAt xs 15)), rg IntKind.u64 (intAt xs 15), (0 : Int) ≤ (56 : Int) ∧ (56 : Int) ≤ (64 : Int) ∧ rg IntKind.u64 (slI (intAt xs 15) (56 : Int)), IntKind.wrap IntKind.u64
 (↑(BitVec.toNat (BitVec.ofInt 64 (adI (adI (adI (adI (adI (adI (adI (0 : Int) (slI (intAt xs 8) (0 : Int))) (slI (intAt xs 9) (8 : Int))) (slI (intAt xs 10) (16 : Int))) (slI (intAt xs 11) (24 : Int))) (slI (intAt xs 12)
 (32 : Int))) (slI (intAt xs 13) (40 : Int))) (slI (intAt xs 14) (48 : Int))) ||| BitVec.ofInt 64 (slI (intAt xs 15) (56 : Int)))) : Int) = adI (adI (adI (adI (adI (adI (adI (adI (0 : Int) (slI (intAt xs 8) (0 : Int)))
 (slI (intAt xs 9) (8 : Int))) (slI (intAt xs 10) (16 : Int))) (slI (intAt xs 11) (24 : Int))) (slI (intAt xs 12) (32 : Int))) (slI (intAt xs 13) (40 : Int))) (slI (intAt xs 14) (48 : Int))) (slI (intAt xs 15) (56 :
 Int))]) := by kernel_rfl
/-! ### numbers of bytes -/
theorem orN {x y : Nat} (m K : Nat) (hK : 2 ^ m = K) (hx : x < K) (hs : x + y * K < 18446744073709551616) : (BitVec.ofInt 64 (x : Int) ||| BitVec.ofInt 64 ((y * K : Nat) : Int)).toNat = x + y * K := by
  have h1 : x < 2 ^ 64 := by omega
  have h2 : y * K < 2 ^ 64 := by omega
  rw [BitVec.toNat_or, BitVec.ofInt_natCast, BitVec.ofInt_natCast, BitVec.toNat_ofNat, BitVec.toNat_ofNat, Nat.mod_eq_of_lt h1, Nat.mod_eq_of_lt h2]
  rw [Nat.or_comm, Nat.mul_comm y K, ← hK, ← Nat.two_pow_add_eq_or_of_lt (by omega), hK, Nat.add_comm]
theorem wrN {n : Nat} (h : n < 18446744073709551616) : IntKind.u64.wrap (n : Int) = (n : Int) := by
  rw [IntKind.wrap_u64]; omega
theorem orS {A b s : Int} (m K : Nat) (hK : 2 ^ m = K) (hs : slI b s = b * (K : Int)) (hA : 0 ≤ A) (hA2 : A < (K : Int)) (hb : 0 ≤ b) (hb2 : A + b * (K : Int) < 18446744073709551616) : IntKind.u64.wrap ((BitVec.ofInt 64 A ||| BitVec.ofInt 64 (slI b s)).toNat : Nat) = adI A (slI b s) := by
  obtain ⟨x, rfl⟩ := Int.eq_ofNat_of_zero_le hA
  obtain ⟨y, rfl⟩ := Int.eq_ofNat_of_zero_le hb
  have e : ((y : Int) * (K : Int)) = ((y * K : Nat) : Int) := (Int.natCast_mul y K).symm
  rw [hs, adI_eq, e, orN m K hK (by omega) (by omega), wrN (by omega)]
  omega
theorem orTT {A b : Int} (hA : 0 ≤ A) (hA2 : A < 72057594037927936) (hb : 0 ≤ b) (hb2 : b < 256) : IntKind.u64.wrap ((BitVec.ofInt 64 (slI A 8) ||| BitVec.ofInt 64 b).toNat : Nat) = adI (slI A 8) b := by
  obtain ⟨x, rfl⟩ := Int.eq_ofNat_of_zero_le hb
  obtain ⟨y, rfl⟩ := Int.eq_ofNat_of_zero_le hA
  have hs : slI (y : Int) 8 = (y : Int) * ((256 : Nat) : Int) := by rw [slI_eq]; rfl
  have e : ((y : Int) * ((256 : Nat) : Int)) = ((y * 256 : Nat) : Int) := (Int.natCast_mul y 256).symm
  rw [hs, adI_eq, e, BitVec.or_comm, orN 8 256 (by decide) (by omega) (by omega), wrN (by omega)]
  omega
theorem orZ {b : Int} (hb : 0 ≤ b) (hb2 : b < 256) : IntKind.u64.wrap ((BitVec.ofInt 64 0 ||| BitVec.ofInt 64 b).toNat : Nat) = adI 0 b := by
  have := orTT (A := 0) (b := b) (by omega) (by omega) hb hb2
  exact this
theorem s0 (a : Int) : slI a 0 = a * 1 := by rw [slI_eq]; rfl
theorem s8 (a : Int) : slI a 8 = a * 256 := by rw [slI_eq]; rfl
theorem s16 (a : Int) : slI a 16 = a * 65536 := by rw [slI_eq]; rfl
theorem s24 (a : Int) : slI a 24 = a * 16777216 := by rw [slI_eq]; rfl
theorem s32 (a : Int) : slI a 32 = a * 4294967296 := by rw [slI_eq]; rfl
theorem s40 (a : Int) : slI a 40 = a * 1099511627776 := by rw [slI_eq]; rfl
theorem s48 (a : Int) : slI a 48 = a * 281474976710656 := by rw [slI_eq]; rfl
theorem s56 (a : Int) : slI a 56 = a * 72057594037927936 := by rw [slI_eq]; rfl
theorem or_chain {x0 x1 x2 x3 x4 x5 x6 x7 : Int} (h0 : 0 ≤ x0 ∧ x0 < 256) (h1 : 0 ≤ x1 ∧ x1 < 256) (h2 : 0 ≤ x2 ∧ x2 < 256) (h3 : 0 ≤ x3 ∧ x3 < 256) (h4 : 0 ≤ x4 ∧ x4 < 256) (h5 : 0 ≤ x5 ∧ x5 < 256) (h6 : 0 ≤ x6 ∧ x6 < 256) (h7 : 0 ≤ x7 ∧ x7 < 256) : (IntKind.u64.wrap ((BitVec.ofInt 64 0 ||| BitVec.ofInt 64 (slI x0 0)).toNat : Nat) = adI 0 (slI x0 0) ∧ IntKind.u64.wrap ((BitVec.ofInt 64 (adI 0 (slI x0 0)) ||| BitVec.ofInt 64 (slI x1 8)).toNat : Nat) = adI (adI 0 (slI x0 0)) (slI x1 8) ∧ IntKind.u64.wrap ((BitVec.ofInt 64 (adI (adI 0 (slI x0 0)) (slI x1 8)) ||| BitVec.ofInt 64 (slI x2 16)).toNat : Nat) = adI (adI (adI 0 (slI x0 0)) (slI x1 8)) (slI x2 16) ∧ IntKind.u64.wrap ((BitVec.ofInt 64 (adI (adI (adI 0 (slI x0 0)) (slI x1 8)) (slI x2 16)) ||| BitVec.ofInt 64 (slI x3 24)).toNat : Nat) = adI (adI (adI (adI 0 (slI x0 0)) (slI x1 8)) (slI x2 16)) (slI x3 24) ∧ IntKind.u64.wrap ((BitVec.ofInt 64 (adI (adI (adI (adI 0 (slI x0 0)) (slI x1 8)) (slI x2 16)) (slI x3 24)) ||| BitVec.ofInt 64 (slI x4 32)).toNat : Nat) = adI (adI (adI (adI (adI 0 (slI x0 0)) (slI x1 8)) (slI x2 16)) (slI x3 24)) (slI x4 32) ∧ IntKind.u64.wrap ((BitVec.ofInt 64 (adI (adI (adI (adI (adI 0 (slI x0 0)) (slI x1 8)) (slI x2 16)) (slI x3 24)) (slI x4 32)) ||| BitVec.ofInt 64 (slI x5 40)).toNat : Nat) = adI (adI (adI (adI (adI (adI 0 (slI x0 0)) (slI x1 8)) (slI x2 16)) (slI x3 24)) (slI x4 32)) (slI x5 40) ∧ IntKind.u64.wrap ((BitVec.ofInt 64 (adI (adI (adI (adI (adI (adI 0 (slI x0 0)) (slI x1 8)) (slI x2 16)) (slI x3 24)) (slI x4 32)) (slI x5 40)) ||| BitVec.ofInt 64 (slI x6 48)).toNat : Nat) = adI (adI (adI (adI (adI (adI (adI 0 (slI x0 0)) (slI x1 8)) (slI x2 16)) (slI x3 24)) (slI x4 32)) (slI x5 40)) (slI x6 48) ∧ IntKind.u64.wrap ((BitVec.ofInt 64 (adI (adI (adI (adI (adI (adI (adI 0 (slI x0 0)) (slI x1 8)) (slI x2 16)) (slI x3 24)) (slI x4 32)) (slI x5 40)) (slI x6 48)) ||| BitVec.ofInt 64 (slI x7 56)).toNat : Nat) = adI (adI (adI (adI (adI (adI (adI (adI 0 (slI x0 0)) (slI x1 8)) (slI x2 16)) (slI x3 24)) (slI x4 32)) (slI x5 40)) (slI x6 48)) (slI x7 56)) ∧ (adI (adI (adI (adI (adI (adI (adI (adI 0 (slI x0 0)) (slI x1 8)) (slI x2 16)) (slI x3 24)) (slI x4 32)) (slI x5 40)) (slI x6 48)) (slI x7 56)) = x0 + 256 * (x1 + 256 * (x2 + 256 * (x3 + 256 * (x4 + 256 * (x5 + 256 * (x6 + 256 * x7)))))) := by
  have v1 : (adI 0 (slI x0 0)) = x0 * 1 := by simp only [adI_eq, s0, s8, s16, s24, s32, s40, s48, s56]; omega
  have v2 : (adI (adI 0 (slI x0 0)) (slI x1 8)) = x0 * 1 + x1 * 256 := by simp only [adI_eq, s0, s8, s16, s24, s32, s40, s48, s56]; omega
  have v3 : (adI (adI (adI 0 (slI x0 0)) (slI x1 8)) (slI x2 16)) = x0 * 1 + x1 * 256 + x2 * 65536 := by simp only [adI_eq, s0, s8, s16, s24, s32, s40, s48, s56]; omega
  have v4 : (adI (adI (adI (adI 0 (slI x0 0)) (slI x1 8)) (slI x2 16)) (slI x3 24)) = x0 * 1 + x1 * 256 + x2 * 65536 + x3 * 16777216 := by simp only [adI_eq, s0, s8, s16, s24, s32, s40, s48, s56]; omega
  have v5 : (adI (adI (adI (adI (adI 0 (slI x0 0)) (slI x1 8)) (slI x2 16)) (slI x3 24)) (slI x4 32)) = x0 * 1 + x1 * 256 + x2 * 65536 + x3 * 16777216 + x4 * 4294967296 := by simp only [adI_eq, s0, s8, s16, s24, s32, s40, s48, s56]; omega
  have v6 : (adI (adI (adI (adI (adI (adI 0 (slI x0 0)) (slI x1 8)) (slI x2 16)) (slI x3 24)) (slI x4 32)) (slI x5 40)) = x0 * 1 + x1 * 256 + x2 * 65536 + x3 * 16777216 + x4 * 4294967296 + x5 * 1099511627776 := by simp only [adI_eq, s0, s8, s16, s24, s32, s40, s48, s56]; omega
  have v7 : (adI (adI (adI (adI (adI (adI (adI 0 (slI x0 0)) (slI x1 8)) (slI x2 16)) (slI x3 24)) (slI x4 32)) (slI x5 40)) (slI x6 48)) = x0 * 1 + x1 * 256 + x2 * 65536 + x3 * 16777216 + x4 * 4294967296 + x5 * 1099511627776 + x6 * 281474976710656 := by simp only [adI_eq, s0, s8, s16, s24, s32, s40, s48, s56]; omega
  have v8 : (adI (adI (adI (adI (adI (adI (adI (adI 0 (slI x0 0)) (slI x1 8)) (slI x2 16)) (slI x3 24)) (slI x4 32)) (slI x5 40)) (slI x6 48)) (slI x7 56)) = x0 * 1 + x1 * 256 + x2 * 65536 + x3 * 16777216 + x4 * 4294967296 + x5 * 1099511627776 + x6 * 281474976710656 + x7 * 72057594037927936 := by simp only [adI_eq, s0, s8, s16, s24, s32, s40, s48, s56]; omega
  refine ⟨⟨?_, ?_, ?_, ?_, ?_, ?_, ?_, ?_⟩, ?_⟩
  · exact orS 0 1 rfl (s0 _) (by omega) (by omega) (by omega) (by omega)
  · exact orS 8 256 (by decide) (s8 _) (by rw [v1]; omega) (by rw [v1]; omega) (by omega) (by rw [v1]; omega)
  · exact orS 16 65536 (by decide) (s16 _) (by rw [v2]; omega) (by rw [v2]; omega) (by omega) (by rw [v2]; omega)
  · exact orS 24 16777216 (by decide) (s24 _) (by rw [v3]; omega) (by rw [v3]; omega) (by omega) (by rw [v3]; omega)
  · exact orS 32 4294967296 (by decide) (s32 _) (by rw [v4]; omega) (by rw [v4]; omega) (by omega) (by rw [v4]; omega)
  · exact orS 40 1099511627776 (by decide) (s40 _) (by rw [v5]; omega) (by rw [v5]; omega) (by omega) (by rw [v5]; omega)
  · exact orS 48 281474976710656 (by decide) (s48 _) (by rw [v6]; omega) (by rw [v6]; omega) (by omega) (by rw [v6]; omega)
  · exact orS 56 72057594037927936 (by decide) (s56 _) (by rw [v7]; omega) (by rw [v7]; omega) (by omega) (by rw [v7]; omega)
  · rw [v8]; omega
theorem or_horner {x0 x1 x2 x3 x4 x5 x6 x7 : Int} (h0 : 0 ≤ x0 ∧ x0 < 256) (h1 : 0 ≤ x1 ∧ x1 < 256) (h2 : 0 ≤ x2 ∧ x2 < 256) (h3 : 0 ≤ x3 ∧ x3 < 256) (h4 : 0 ≤ x4 ∧ x4 < 256) (h5 : 0 ≤ x5 ∧ x5 < 256) (h6 : 0 ≤ x6 ∧ x6 < 256) (h7 : 0 ≤ x7 ∧ x7 < 256) : ((IntKind.u64.wrap ((BitVec.ofInt 64 0 ||| BitVec.ofInt 64 x7).toNat : Nat) = adI 0 x7) ∧ (IntKind.u64.wrap ((BitVec.ofInt 64 (slI (adI 0 x7) 8) ||| BitVec.ofInt 64 x6).toNat : Nat) = adI (slI (adI 0 x7) 8) x6 ∧ rg .u64 (slI (adI 0 x7) 8)) ∧ (IntKind.u64.wrap ((BitVec.ofInt 64 (slI (adI (slI (adI 0 x7) 8) x6) 8) ||| BitVec.ofInt 64 x5).toNat : Nat) = adI (slI (adI (slI (adI 0 x7) 8) x6) 8) x5 ∧ rg .u64 (slI (adI (slI (adI 0 x7) 8) x6) 8)) ∧ (IntKind.u64.wrap ((BitVec.ofInt 64 (slI (adI (slI (adI (slI (adI 0 x7) 8) x6) 8) x5) 8) ||| BitVec.ofInt 64 x4).toNat : Nat) = adI (slI (adI (slI (adI (slI (adI 0 x7) 8) x6) 8) x5) 8) x4 ∧ rg .u64 (slI (adI (slI (adI (slI (adI 0 x7) 8) x6) 8) x5) 8)) ∧ (IntKind.u64.wrap ((BitVec.ofInt 64 (slI (adI (slI (adI (slI (adI (slI (adI 0 x7) 8) x6) 8) x5) 8) x4) 8) ||| BitVec.ofInt 64 x3).toNat : Nat) = adI (slI (adI (slI (adI (slI (adI (slI (adI 0 x7) 8) x6) 8) x5) 8) x4) 8) x3 ∧ rg .u64 (slI (adI (slI (adI (slI (adI (slI (adI 0 x7) 8) x6) 8) x5) 8) x4) 8)) ∧ (IntKind.u64.wrap ((BitVec.ofInt 64 (slI (adI (slI (adI (slI (adI (slI (adI (slI (adI 0 x7) 8) x6) 8) x5) 8) x4) 8) x3) 8) ||| BitVec.ofInt 64 x2).toNat : Nat) = adI (slI (adI (slI (adI (slI (adI (slI (adI (slI (adI 0 x7) 8) x6) 8) x5) 8) x4) 8) x3) 8) x2 ∧ rg .u64 (slI (adI (slI (adI (slI (adI (slI (adI (slI (adI 0 x7) 8) x6) 8) x5) 8) x4) 8) x3) 8)) ∧ (IntKind.u64.wrap ((BitVec.ofInt 64 (slI (adI (slI (adI (slI (adI (slI (adI (slI (adI (slI (adI 0 x7) 8) x6) 8) x5) 8) x4) 8) x3) 8) x2) 8) ||| BitVec.ofInt 64 x1).toNat : Nat) = adI (slI (adI (slI (adI (slI (adI (slI (adI (slI (adI (slI (adI 0 x7) 8) x6) 8) x5) 8) x4) 8) x3) 8) x2) 8) x1 ∧ rg .u64 (slI (adI (slI (adI (slI (adI (slI (adI (slI (adI (slI (adI 0 x7) 8) x6) 8) x5) 8) x4) 8) x3) 8) x2) 8)) ∧ (IntKind.u64.wrap ((BitVec.ofInt 64 (slI (adI (slI (adI (slI (adI (slI (adI (slI (adI (slI (adI (slI (adI 0 x7) 8) x6) 8) x5) 8) x4) 8) x3) 8) x2) 8) x1) 8) ||| BitVec.ofInt 64 x0).toNat : Nat) = adI (slI (adI (slI (adI (slI (adI (slI (adI (slI (adI (slI (adI (slI (adI 0 x7) 8) x6) 8) x5) 8) x4) 8) x3) 8) x2) 8) x1) 8) x0 ∧ rg .u64 (slI (adI (slI (adI (slI (adI (slI (adI (slI (adI (slI (adI (slI (adI 0 x7) 8) x6) 8) x5) 8) x4) 8) x3) 8) x2) 8) x1) 8))) ∧ (adI (slI (adI (slI (adI (slI (adI (slI (adI (slI (adI (slI (adI (slI (adI 0 x7) 8) x6) 8) x5) 8) x4) 8) x3) 8) x2) 8) x1) 8) x0) = x0 + 256 * (x1 + 256 * (x2 + 256 * (x3 + 256 * (x4 + 256 * (x5 + 256 * (x6 + 256 * x7)))))) := by
  have v7 : (adI 0 x7) = x7 := by simp only [adI_eq, s8]; omega
  have v6 : (adI (slI (adI 0 x7) 8) x6) = x6 + 256 * (x7) := by simp only [adI_eq, s8]; omega
  have v5 : (adI (slI (adI (slI (adI 0 x7) 8) x6) 8) x5) = x5 + 256 * (x6 + 256 * (x7)) := by simp only [adI_eq, s8]; omega
  have v4 : (adI (slI (adI (slI (adI (slI (adI 0 x7) 8) x6) 8) x5) 8) x4) = x4 + 256 * (x5 + 256 * (x6 + 256 * (x7))) := by simp only [adI_eq, s8]; omega
  have v3 : (adI (slI (adI (slI (adI (slI (adI (slI (adI 0 x7) 8) x6) 8) x5) 8) x4) 8) x3) = x3 + 256 * (x4 + 256 * (x5 + 256 * (x6 + 256 * (x7)))) := by simp only [adI_eq, s8]; omega
  have v2 : (adI (slI (adI (slI (adI (slI (adI (slI (adI (slI (adI 0 x7) 8) x6) 8) x5) 8) x4) 8) x3) 8) x2) = x2 + 256 * (x3 + 256 * (x4 + 256 * (x5 + 256 * (x6 + 256 * (x7))))) := by simp only [adI_eq, s8]; omega
  have v1 : (adI (slI (adI (slI (adI (slI (adI (slI (adI (slI (adI (slI (adI 0 x7) 8) x6) 8) x5) 8) x4) 8) x3) 8) x2) 8) x1) = x1 + 256 * (x2 + 256 * (x3 + 256 * (x4 + 256 * (x5 + 256 * (x6 + 256 * (x7)))))) := by simp only [adI_eq, s8]; omega
  have v0 : (adI (slI (adI (slI (adI (slI (adI (slI (adI (slI (adI (slI (adI (slI (adI 0 x7) 8) x6) 8) x5) 8) x4) 8) x3) 8) x2) 8) x1) 8) x0) = x0 + 256 * (x1 + 256 * (x2 + 256 * (x3 + 256 * (x4 + 256 * (x5 + 256 * (x6 + 256 * (x7))))))) := by simp only [adI_eq, s8]; omega
  refine ⟨⟨?_, ?_, ?_, ?_, ?_, ?_, ?_, ?_⟩, ?_⟩
  · exact orZ (by omega) (by omega)
  · exact ⟨orTT (by rw [v7]; omega) (by rw [v7]; omega) (by omega) (by omega), by rw [v7, s8]; simp only [rg]; omega⟩
  · exact ⟨orTT (by rw [v6]; omega) (by rw [v6]; omega) (by omega) (by omega), by rw [v6, s8]; simp only [rg]; omega⟩
  · exact ⟨orTT (by rw [v5]; omega) (by rw [v5]; omega) (by omega) (by omega), by rw [v5, s8]; simp only [rg]; omega⟩
  · exact ⟨orTT (by rw [v4]; omega) (by rw [v4]; omega) (by omega) (by omega), by rw [v4, s8]; simp only [rg]; omega⟩
  · exact ⟨orTT (by rw [v3]; omega) (by rw [v3]; omega) (by omega) (by omega), by rw [v3, s8]; simp only [rg]; omega⟩
  · exact ⟨orTT (by rw [v2]; omega) (by rw [v2]; omega) (by omega) (by omega), by rw [v2, s8]; simp only [rg]; omega⟩
  · exact ⟨orTT (by rw [v1]; omega) (by rw [v1]; omega) (by omega) (by omega), by rw [v1, s8]; simp only [rg]; omega⟩
  · exact v0
/-! ### contracts -/
def gBy : GSpec := fun av tp => match av with
  | [.fl (.agg ⟨[.int .u64 a, .int .u64 b]⟩)] => some (⟨fun _ => .agg ⟨d8 b ++ d8 a⟩, []⟩, tp, [])
  | _ => none
def sRd : Spec1 := fun xs n tp => some (⟨fun _ => .tuple ⟨[.agg ⟨[.int .u64 (r8 (xs.drop 8)), .int .u64 (r8 xs)]⟩, .int .i64 0]⟩, []⟩, tp, [Byts xs, n = 16])
theorem t0 (a : Int) : srI a 0 = a / 1 := by rw [srI_eq]; rfl
theorem t8 (a : Int) : srI a 8 = a / 256 := by rw [srI_eq]; rfl
theorem t16 (a : Int) : srI a 16 = a / 65536 := by rw [srI_eq]; rfl
theorem t24 (a : Int) : srI a 24 = a / 16777216 := by rw [srI_eq]; rfl
theorem t32 (a : Int) : srI a 32 = a / 4294967296 := by rw [srI_eq]; rfl
theorem t40 (a : Int) : srI a 40 = a / 1099511627776 := by rw [srI_eq]; rfl
theorem t48 (a : Int) : srI a 48 = a / 281474976710656 := by rw [srI_eq]; rfl
theorem t56 (a : Int) : srI a 56 = a / 72057594037927936 := by rw [srI_eq]; rfl
theorem l8 (x : Int) : lowI .u8 x = x % 256 := by unfold lowI; rw [mdI_eq]; rfl
theorem by_i_gok : GOk Try.prog 52 [.f] gBy := by
  have hX : XOkZ u8V Try.prog := noXz_ok rfl
  have hT : TOkZ u8V Try.prog := noTz_okV rfl
  have hL : LOkZ u8V Try.prog := noL_okV rfl
  intro av tp gr tp' ob hG ho hP caps hcap
  obtain ⟨a, rfl, pa⟩ := avps1 hP
  obtain ⟨c, rfl⟩ := caps1 hcap
  unfold gBy at hG
  split at hG
  case h_2 => cases hG
  rename_i a b e
  simp only [List.cons.injEq, and_true] at e
  subst e
  simp only [Option.some.injEq, Prod.mk.injEq] at hG
  obtain ⟨rfl, rfl, rfl⟩ := hG
  have hv : d8 b ++ d8 a = [.int .u8 (lowI .u8 (srI b 0)), .int .u8 (lowI .u8 (srI b 8)), .int .u8 (lowI .u8 (srI b 16)), .int .u8 (lowI .u8 (srI b 24)), .int .u8 (lowI .u8 (srI b 32)), .int .u8 (lowI .u8 (srI b 40)), .int .u8 (lowI .u8 (srI b 48)), .int .u8 (lowI .u8 (srI b 56)),
      .int .u8 (lowI .u8 (srI a 0)), .int .u8 (lowI .u8 (srI a 8)), .int .u8 (lowI .u8 (srI a 16)), .int .u8 (lowI .u8 (srI a 24)), .int .u8 (lowI .u8 (srI a 32)), .int .u8 (lowI .u8 (srI a 40)), .int .u8 (lowI .u8 (srI a 48)), .int .u8 (lowI .u8 (srI a 56))] := by
    simp only [l8, t0, t8, t16, t24, t32, t40, t48, t56, Int.ediv_one]
    rfl
  refine ⟨_, _, _, _, fun n => n, run_tri hX hT hL (by_i a b) ?_ rfl, ?_⟩
  · simp only [Alls]
    repeat' (first | with_reducible exact trivial | with_reducible apply And.intro)
    all_goals first | with_reducible assumption | omega | with_reducible rfl | (skip)
  · rw [hv]
    exact GrIs.flat fun σ => rfl
theorem rd_i_gok : GOk Try.prog 40 [.s 1] (gS sRd) := by
  have hX : XOkZ u8V Try.prog := noXz_ok rfl
  have hT : TOkZ u8V Try.prog := noTz_okV rfl
  have hL : LOkZ u8V Try.prog := noL_okV rfl
  refine gS_ok (fun tp gr tp' ob hG ho => ?_) (fun xs n c tp gr tp' ob hG ho hfl hl0 hc => ?_)
  · unfold sRd at hG
    simp only [Option.some.injEq, Prod.mk.injEq] at hG
    obtain ⟨rfl, rfl, rfl⟩ := hG
    exact absurd ho.2.1 (by decide)
  · unfold sRd at hG
    simp only [Option.some.injEq, Prod.mk.injEq] at hG
    obtain ⟨rfl, rfl, rfl⟩ := hG
    obtain ⟨hb, rfl, _⟩ := ho
    obtain ⟨g0, l0, u0⟩ := hb.get (i := 0) (by omega)
    obtain ⟨g1, l1, u1⟩ := hb.get (i := 1) (by omega)
    obtain ⟨g2, l2, u2⟩ := hb.get (i := 2) (by omega)
    obtain ⟨g3, l3, u3⟩ := hb.get (i := 3) (by omega)
    obtain ⟨g4, l4, u4⟩ := hb.get (i := 4) (by omega)
    obtain ⟨g5, l5, u5⟩ := hb.get (i := 5) (by omega)
    obtain ⟨g6, l6, u6⟩ := hb.get (i := 6) (by omega)
    obtain ⟨g7, l7, u7⟩ := hb.get (i := 7) (by omega)
    obtain ⟨g8, l8, u8⟩ := hb.get (i := 8) (by omega)
    obtain ⟨g9, l9, u9⟩ := hb.get (i := 9) (by omega)
    obtain ⟨g10, l10, u10⟩ := hb.get (i := 10) (by omega)
    obtain ⟨g11, l11, u11⟩ := hb.get (i := 11) (by omega)
    obtain ⟨g12, l12, u12⟩ := hb.get (i := 12) (by omega)
    obtain ⟨g13, l13, u13⟩ := hb.get (i := 13) (by omega)
    obtain ⟨g14, l14, u14⟩ := hb.get (i := 14) (by omega)
    obtain ⟨g15, l15, u15⟩ := hb.get (i := 15) (by omega)
    obtain ⟨⟨p0, p1, p2, p3, p4, p5, p6, p7⟩, vl⟩ := or_chain ⟨l0, u0⟩ ⟨l1, u1⟩ ⟨l2, u2⟩ ⟨l3, u3⟩ ⟨l4, u4⟩ ⟨l5, u5⟩ ⟨l6, u6⟩ ⟨l7, u7⟩
    obtain ⟨⟨q0, q1, q2, q3, q4, q5, q6, q7⟩, vh⟩ := or_chain ⟨l8, u8⟩ ⟨l9, u9⟩ ⟨l10, u10⟩ ⟨l11, u11⟩ ⟨l12, u12⟩ ⟨l13, u13⟩ ⟨l14, u14⟩ ⟨l15, u15⟩
    have er : r8 (xs.drop 8) = intAt xs 8 + 256 * (intAt xs 9 + 256 * (intAt xs 10 + 256 * (intAt xs 11 + 256 * (intAt xs 12 + 256 * (intAt xs 13 + 256 * (intAt xs 14 + 256 * intAt xs 15)))))) := by
      have h : ∀ i, intAt (xs.drop 8) i = intAt xs (8 + i) := fun i => by unfold intAt; rw [List.getElem?_drop]
      unfold r8
      rw [h, h, h, h, h, h, h, h]
    refine ⟨_, _, _, _, fun n => n, run_tri hX hT hL (rd_i xs c) ?_ rfl, ?_⟩
    · repeat' (first | exact alls_nil | refine alls_cons ?_ ?_)
      all_goals first
        | with_reducible assumption
        | omega
        | (refine ⟨by omega, by omega, ?_⟩; (try simp only [s0, s8, s16, s24, s32, s40, s48, s56]); simp only [rg]; omega)
        | (refine ⟨by omega, by omega, ?_⟩; with_reducible assumption)
        | (simp only [rg]; omega)
        | rfl
    · rw [vl, vh, er]
      exact GrIs.flat fun σ => rfl
def u8T : TFun := orTz (mkT 52 [.f] gBy) (mkT 40 [.s 1] (gS sRd))
theorem u8T_one : TOneZ Try.prog u8T := orTz_ok (mkT_one by_i_gok) (mkT_one rd_i_gok)
end Go.Proofs.Ytdcakhahagbedaa
