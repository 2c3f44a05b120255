/-
  Chapter 02: accounts and transfers that bytes say: the program's functions and the document's, by contracts.
-/
import Derived.Test.YtgpgdkpfeoaidaaRecW
namespace Go.Proofs.Ytgpgdkpfeoaidaa
set_option linter.unusedSimpArgs false
set_option linter.unusedVariables false
set_option linter.unusedSectionVars false
open Go Go.RowKit

def rrS : FuncId → Nat → Option Nat := orSy (lsSy 53 [(21, 0), (22, 0), (25, 0), (26, 7)]) (orSy (lsSy 37 [(26, 0), (29, 0), (32, 0), (39, 0), (42, 0)]) (orSy (lsSy 40 [(26, 0), (29, 0), (32, 0), (39, 0), (42, 0)]) (orSy (lsSy 39 [(16, 0), (22, 0), (23, 0), (24, 7)]) (orSy (lsSy 17 [(27, 0), (31, 0), (35, 0), (39, 0), (43, 0)]) (lsSy 19 [(27, 0), (31, 0), (35, 0), (39, 0), (43, 0)])))))
def rrV : Tv := ⟨u8T, noXz, noL, fun _ => [], rrS, fun _ => [], fun _ => 0⟩
def rrU : Tv := ⟨u8T, noXz, noL, fun _ => [], orSy rrS (orSy (lsSy 47 [(9, 0), (16, 0)]) (orSy (lsSy 53 [(32, 0)]) (lsSy 38 [(14, 0)]))), fun _ => [], fun _ => 0⟩
abbrev ac_e_R (xs : List Value) : Res (Out × Tape × List Prop) :=
  Res.ok ((Value.agg (Array.mk [Value.int IntKind.u64 (r8 (List.drop 8 (List.take 16 xs))), Value.int IntKind.u64 (r8 (List.take 16 xs)), Value.int IntKind.u64 (r8 (List.drop 8 (List.take 16 (List.drop 16 xs)))), Value.int
 IntKind.u64 (r8 (List.take 16 (List.drop 16 xs))), Value.int IntKind.u64 (r8 (List.drop 8 (List.take 16 (List.drop 32 xs)))), Value.int IntKind.u64 (r8 (List.take 16 (List.drop 32 xs))), Value.int IntKind.u64 (r8
 (List.drop 8 (List.take 16 (List.drop 48 xs)))), Value.int IntKind.u64 (r8 (List.take 16 (List.drop 48 xs))), Value.int IntKind.u64 (r8 (List.drop 8 (List.take 16 (List.drop 64 xs)))), Value.int IntKind.u64 (r8 (List.take
 16 (List.drop 64 xs))), Value.int IntKind.u64 (r8 (List.drop 8 (List.take 16 (List.drop 80 xs)))), Value.int IntKind.u64 (r8 (List.take 16 (List.drop 80 xs))), Value.int IntKind.u64 (adI (adI (adI (adI (adI (adI (adI (adI
 (0 : Int) (slI (intAt xs 96) (0 : Int))) (slI (intAt xs 97) (8 : Int))) (slI (intAt xs 98) (16 : Int))) (slI (intAt xs 99) (24 : Int))) (slI (intAt xs 100) (32 : Int))) (slI (intAt xs 101) (40 : Int))) (slI (intAt xs 102)
 (48 : Int))) (slI (intAt xs 103) (56 : Int))), Value.int IntKind.u32 (lowI IntKind.u32 (adI (adI (adI (adI (0 : Int) (slI (intAt xs 104) (0 : Int))) (slI (intAt xs 105) (8 : Int))) (slI (intAt xs 106) (16 : Int))) (slI
 (intAt xs 107) (24 : Int)))), Value.int IntKind.u32 (lowI IntKind.u32 (adI (adI (adI (adI (0 : Int) (slI (intAt xs 108) (0 : Int))) (slI (intAt xs 109) (8 : Int))) (slI (intAt xs 110) (16 : Int))) (slI (intAt xs 111) (24
 : Int)))), Value.int IntKind.u32 (lowI IntKind.u32 (adI (adI (adI (adI (0 : Int) (slI (intAt xs 112) (0 : Int))) (slI (intAt xs 113) (8 : Int))) (slI (intAt xs 114) (16 : Int))) (slI (intAt xs 115) (24 : Int)))),
 Value.int IntKind.u16 (lowI IntKind.u16 (adI (adI (0 : Int) (slI (intAt xs 116) (0 : Int))) (slI (intAt xs 117) (8 : Int)))), Value.int IntKind.u16 (lowI IntKind.u16 (adI (adI (0 : Int) (slI (intAt xs 118) (0 : Int)))
 (slI (intAt xs 119) (8 : Int)))), Value.int IntKind.u64 (adI (adI (adI (adI (adI (adI (adI (adI (0 : Int) (slI (intAt xs 120) (0 : Int))) (slI (intAt xs 121) (8 : Int))) (slI (intAt xs 122) (16 : Int))) (slI (intAt xs
 123) (24 : Int))) (slI (intAt xs 124) (32 : Int))) (slI (intAt xs 125) (40 : Int))) (slI (intAt xs 126) (48 : Int))) (slI (intAt xs 127) (56 : Int)))]), [(0, Rw.mk Kd.old xs)], 34, []), [], [16 ≤ 128 ∧ 128 ≤
 9223372036854775807, 16 ≤ List.length xs, Fl (List.take 16 xs), Byts (List.take 16 xs), 16 = 16, 16 ≤ 112 ∧ 112 ≤ 9223372036854775807, 32 ≤ List.length xs, Fl (List.take 16 (List.drop 16 xs)), Byts (List.take 16
 (List.drop 16 xs)), 16 = 16, 16 ≤ 96 ∧ 96 ≤ 9223372036854775807, 48 ≤ List.length xs, Fl (List.take 16 (List.drop 32 xs)), Byts (List.take 16 (List.drop 32 xs)), 16 = 16, 16 ≤ 80 ∧ 80 ≤ 9223372036854775807, 64 ≤
 List.length xs, Fl (List.take 16 (List.drop 48 xs)), Byts (List.take 16 (List.drop 48 xs)), 16 = 16, 16 ≤ 64 ∧ 64 ≤ 9223372036854775807, 80 ≤ List.length xs, Fl (List.take 16 (List.drop 64 xs)), Byts (List.take 16
 (List.drop 64 xs)), 16 = 16, 16 ≤ 48 ∧ 48 ≤ 9223372036854775807, 96 ≤ List.length xs, Fl (List.take 16 (List.drop 80 xs)), Byts (List.take 16 (List.drop 80 xs)), 16 = 16, xs[96]? = some (Value.int IntKind.u8 (intAt xs
 96)), rg IntKind.u64 (intAt xs 96), (0 : Int) ≤ (0 : Int) ∧ (0 : Int) ≤ (64 : Int) ∧ rg IntKind.u64 (slI (intAt xs 96) (0 : Int)), IntKind.wrap IntKind.u64 (↑(BitVec.toNat (BitVec.ofInt 64 (0 : Int) ||| BitVec.ofInt 64
 (slI (intAt xs 96) (0 : Int)))) : Int) = adI (0 : Int) (slI (intAt xs 96) (0 : Int)), xs[97]? = some (Value.int IntKind.u8 (intAt xs 97)), rg IntKind.u64 (intAt xs 97), (0 : Int) ≤ (8 : Int) ∧ (8 : Int) ≤ (64 : Int) ∧ rg
 IntKind.u64 (slI (intAt xs 97) (8 : Int)), IntKind.wrap IntKind.u64 (↑(BitVec.toNat (BitVec.ofInt 64 (adI (0 : Int) (slI (intAt xs 96) (0 : Int))) ||| BitVec.ofInt 64 (slI (intAt xs 97) (8 : Int)))) : Int) = adI (adI (0 :
 Int) (slI (intAt xs 96) (0 : Int))) (slI (intAt xs 97) (8 : Int)), xs[98]? = some (Value.int IntKind.u8 (intAt xs 98)), rg IntKind.u64 (intAt xs 98), (0 : Int) ≤ (16 : Int) ∧ (16 : Int) ≤ (64 : Int) ∧ rg IntKind.u64 (slI
 (intAt xs 98) (16 : Int)), IntKind.wrap IntKind.u64 (↑(BitVec.toNat (BitVec.ofInt 64 (adI (adI (0 : Int) (slI (intAt xs 96) (0 : Int))) (slI (intAt xs 97) (8 : Int))) ||| BitVec.ofInt 64 (slI (intAt xs 98) (16 : Int)))) :
 Int) = adI (adI (adI (0 : Int) (slI (intAt xs 96) (0 : Int))) (slI (intAt xs 97) (8 : Int))) (slI (intAt xs 98) (16 : Int)), xs[99]? = some (Value.int IntKind.u8 (intAt xs 99)), rg IntKind.u64 (intAt xs 99), (0 : Int) ≤
 (24 : Int) ∧ (24 : Int) ≤ (64 : Int) ∧ rg IntKind.u64 (slI (intAt xs 99) (24 : Int)), IntKind.wrap IntKind.u64 (↑(BitVec.toNat (BitVec.ofInt 64 (adI (adI (adI (0 : Int) (slI (intAt xs 96) (0 : Int))) (slI (intAt xs 97) (8
 : Int))) (slI (intAt xs 98) (16 : Int))) ||| BitVec.ofInt 64 (slI (intAt xs 99) (24 : Int)))) : Int) = adI (adI (adI (adI (0 : Int) (slI (intAt xs 96) (0 : Int))) (slI (intAt xs 97) (8 : Int))) (slI (intAt xs 98) (16 :
 Int))) (slI (intAt xs 99) (24 : Int)), xs[100]? = some (Value.int IntKind.u8 (intAt xs 100)), rg IntKind.u64 (intAt xs 100), (0 : Int) ≤ (32 : Int) ∧ (32 : Int) ≤ (64 : Int) ∧ rg IntKind.u64 (slI (intAt xs 100) (32 :
 Int)), IntKind.wrap IntKind.u64 (↑(BitVec.toNat (BitVec.ofInt 64 (adI (adI (adI (adI (0 : Int) (slI (intAt xs 96) (0 : Int))) (slI (intAt xs 97) (8 : Int))) (slI (intAt xs 98) (16 : Int))) (slI (intAt xs 99) (24 : Int)))
 ||| BitVec.ofInt 64 (slI (intAt xs 100) (32 : Int)))) : Int) = adI (adI (adI (adI (adI (0 : Int) (slI (intAt xs 96) (0 : Int))) (slI (intAt xs 97) (8 : Int))) (slI (intAt xs 98) (16 : Int))) (slI (intAt xs 99) (24 :
 Int))) (slI (intAt xs 100) (32 : Int)), xs[101]? = some (Value.int IntKind.u8 (intAt xs 101)), rg IntKind.u64 (intAt xs 101), (0 : Int) ≤ (40 : Int) ∧ (40 : Int) ≤ (64 : Int) ∧ rg IntKind.u64 (slI (intAt xs 101) (40 :
 Int)), IntKind.wrap IntKind.u64 (↑(BitVec.toNat (BitVec.ofInt 64 (adI (adI (adI (adI (adI (0 : Int) (slI (intAt xs 96) (0 : Int))) (slI (intAt xs 97) (8 : Int))) (slI (intAt xs 98) (16 : Int))) (slI (intAt xs 99) (24 :
 Int))) (slI (intAt xs 100) (32 : Int))) ||| BitVec.ofInt 64 (slI (intAt xs 101) (40 : Int)))) : Int) = adI (adI (adI (adI (adI (adI (0 : Int) (slI (intAt xs 96) (0 : Int))) (slI (intAt xs 97) (8 : Int))) (slI (intAt xs
 98) (16 : Int))) (slI (intAt xs 99) (24 : Int))) (slI (intAt xs 100) (32 : Int))) (slI (intAt xs 101) (40 : Int)), xs[102]? = some (Value.int IntKind.u8 (intAt xs 102)), rg IntKind.u64 (intAt xs 102), (0 : Int) ≤ (48 :
 Int) ∧ (48 : Int) ≤ (64 : Int) ∧ rg IntKind.u64 (slI (intAt xs 102) (48 : Int)), IntKind.wrap IntKind.u64 (↑(BitVec.toNat (BitVec.ofInt 64 (adI (adI (adI (adI (adI (adI (0 : Int) (slI (intAt xs 96) (0 : Int))) (slI (intAt
 xs 97) (8 : Int))) (slI (intAt xs 98) (16 : Int))) (slI (intAt xs 99) (24 : Int))) (slI (intAt xs 100) (32 : Int))) (slI (intAt xs 101) (40 : Int))) ||| BitVec.ofInt 64 (slI (intAt xs 102) (48 : Int)))) : Int) = adI (adI
 (adI (adI (adI (adI (adI (0 : Int) (slI (intAt xs 96) (0 : Int))) (slI (intAt xs 97) (8 : Int))) (slI (intAt xs 98) (16 : Int))) (slI (intAt xs 99) (24 : Int))) (slI (intAt xs 100) (32 : Int))) (slI (intAt xs 101) (40 :
 Int))) (slI (intAt xs 102) (48 : Int)), xs[103]? = some (Value.int IntKind.u8 (intAt xs 103)), rg IntKind.u64 (intAt xs 103), (0 : Int) ≤ (56 : Int) ∧ (56 : Int) ≤ (64 : Int) ∧ rg IntKind.u64 (slI (intAt xs 103) (56 :
 Int)), IntKind.wrap IntKind.u64 (↑(BitVec.toNat (BitVec.ofInt 64 (adI (adI (adI (adI (adI (adI (adI (0 : Int) (slI (intAt xs 96) (0 : Int))) (slI (intAt xs 97) (8 : Int))) (slI (intAt xs 98) (16 : Int))) (slI (intAt xs
 99) (24 : Int))) (slI (intAt xs 100) (32 : Int))) (slI (intAt xs 101) (40 : Int))) (slI (intAt xs 102) (48 : Int))) ||| BitVec.ofInt 64 (slI (intAt xs 103) (56 : Int)))) : Int) = adI (adI (adI (adI (adI (adI (adI (adI (0
 : Int) (slI (intAt xs 96) (0 : Int))) (slI (intAt xs 97) (8 : Int))) (slI (intAt xs 98) (16 : Int))) (slI (intAt xs 99) (24 : Int))) (slI (intAt xs 100) (32 : Int))) (slI (intAt xs 101) (40 : Int))) (slI (intAt xs 102)
 (48 : Int))) (slI (intAt xs 103) (56 : Int)), xs[104]? = some (Value.int IntKind.u8 (intAt xs 104)), rg IntKind.u64 (intAt xs 104), (0 : Int) ≤ (0 : Int) ∧ (0 : Int) ≤ (64 : Int) ∧ rg IntKind.u64 (slI (intAt xs 104) (0 :
 Int)), IntKind.wrap IntKind.u64 (↑(BitVec.toNat (BitVec.ofInt 64 (0 : Int) ||| BitVec.ofInt 64 (slI (intAt xs 104) (0 : Int)))) : Int) = adI (0 : Int) (slI (intAt xs 104) (0 : Int)), xs[105]? = some (Value.int IntKind.u8
 (intAt xs 105)), rg IntKind.u64 (intAt xs 105), (0 : Int) ≤ (8 : Int) ∧ (8 : Int) ≤ (64 : Int) ∧ rg IntKind.u64 (slI (intAt xs 105) (8 : Int)), IntKind.wrap IntKind.u64 (↑(BitVec.toNat (BitVec.ofInt 64 (adI (0 : Int) (slI
 (intAt xs 104) (0 : Int))) ||| BitVec.ofInt 64 (slI (intAt xs 105) (8 : Int)))) : Int) = adI (adI (0 : Int) (slI (intAt xs 104) (0 : Int))) (slI (intAt xs 105) (8 : Int)), xs[106]? = some (Value.int IntKind.u8 (intAt xs
 106)), rg IntKind.u64 (intAt xs 106), (0 : Int) ≤ (16 : Int) ∧ (16 : Int) ≤ (64 : Int) ∧ rg IntKind.u64 (slI (intAt xs 106) (16 : Int)), IntKind.wrap IntKind.u64 (↑(BitVec.toNat (BitVec.ofInt 64 (adI (adI (0 : Int) (slI
 (intAt xs 104) (0 : Int))) (slI (intAt xs 105) (8 : Int))) ||| BitVec.ofInt 64 (slI (intAt xs 106) (16 : Int)))) : Int) = adI (adI (adI (0 : Int) (slI (intAt xs 104) (0 : Int))) (slI (intAt xs 105) (8 : Int))) (slI (intAt
 xs 106) (16 : Int)), xs[107]? = some (Value.int IntKind.u8 (intAt xs 107)), rg IntKind.u64 (intAt xs 107), (0 : Int) ≤ (24 : Int) ∧ (24 : Int) ≤ (64 : Int) ∧ rg IntKind.u64 (slI (intAt xs 107) (24 : Int)), IntKind.wrap
 IntKind.u64 (↑(BitVec.toNat (BitVec.ofInt 64 (adI (adI (adI (0 : Int) (slI (intAt xs 104) (0 : Int))) (slI (intAt xs 105) (8 : Int))) (slI (intAt xs 106) (16 : Int))) ||| BitVec.ofInt 64 (slI (intAt xs 107) (24 : Int))))
 : Int) = adI (adI (adI (adI (0 : Int) (slI (intAt xs 104) (0 : Int))) (slI (intAt xs 105) (8 : Int))) (slI (intAt xs 106) (16 : Int))) (slI (intAt xs 107) (24 : Int)), xs[108]? = some (Value.int IntKind.u8 (intAt xs
 108)), rg IntKind.u64 (intAt xs 108), (0 : Int) ≤ (0 : Int) ∧ (0 : Int) ≤ (64 : Int) ∧ rg IntKind.u64 (slI (intAt xs 108) (0 : Int)), IntKind.wrap IntKind.u64 (↑(BitVec.toNat (BitVec.ofInt 64 (0 : Int) ||| BitVec.ofInt 64
 (slI (intAt xs 108) (0 : Int)))) : Int) = adI (0 : Int) (slI (intAt xs 108) (0 : Int)), xs[109]? = some (Value.int IntKind.u8 (intAt xs 109)), rg IntKind.u64 (intAt xs 109), (0 : Int) ≤ (8 : Int) ∧ (8 : Int) ≤ (64 : Int)
 ∧ rg IntKind.u64 (slI (intAt xs 109) (8 : Int)), IntKind.wrap IntKind.u64 (↑(BitVec.toNat (BitVec.ofInt 64 (adI (0 : Int) (slI (intAt xs 108) (0 : Int))) ||| BitVec.ofInt 64 (slI (intAt xs 109) (8 : Int)))) : Int) = adI
 (adI (0 : Int) (slI (intAt xs 108) (0 : Int))) (slI (intAt xs 109) (8 : Int)), xs[110]? = some (Value.int IntKind.u8 (intAt xs 110)), rg IntKind.u64 (intAt xs 110), (0 : Int) ≤ (16 : Int) ∧ (16 : Int) ≤ (64 : Int) ∧ rg
 IntKind.u64 (slI (intAt xs 110) (16 : Int)), IntKind.wrap IntKind.u64 (↑(BitVec.toNat (BitVec.ofInt 64 (adI (adI (0 : Int) (slI (intAt xs 108) (0 : Int))) (slI (intAt xs 109) (8 : Int))) ||| BitVec.ofInt 64 (slI (intAt xs
 110) (16 : Int)))) : Int) = adI (adI (adI (0 : Int) (slI (intAt xs 108) (0 : Int))) (slI (intAt xs 109) (8 : Int))) (slI (intAt xs 110) (16 : Int)), xs[111]? = some (Value.int IntKind.u8 (intAt xs 111)), rg IntKind.u64
 (intAt xs 111), (0 : Int) ≤ (24 : Int) ∧ (24 : Int) ≤ (64 : Int) ∧ rg IntKind.u64 (slI (intAt xs 111) (24 : Int)), IntKind.wrap IntKind.u64 (↑(BitVec.toNat (BitVec.ofInt 64 (adI (adI (adI (0 : Int) (slI (intAt xs 108) (0
 : Int))) (slI (intAt xs 109) (8 : Int))) (slI (intAt xs 110) (16 : Int))) ||| BitVec.ofInt 64 (slI (intAt xs 111) (24 : Int)))) : Int) = adI (adI (adI (adI (0 : Int) (slI (intAt xs 108) (0 : Int))) (slI (intAt xs 109) (8
 : Int))) (slI (intAt xs 110) (16 : Int))) (slI (intAt xs 111) (24 : Int)), xs[112]? = some (Value.int IntKind.u8 (intAt xs 112)), rg IntKind.u64 (intAt xs 112), (0 : Int) ≤ (0 : Int) ∧ (0 : Int) ≤ (64 : Int) ∧ rg
 IntKind.u64 (slI (intAt xs 112) (0 : Int)), IntKind.wrap IntKind.u64 (↑(BitVec.toNat (BitVec.ofInt 64 (0 : Int) ||| BitVec.ofInt 64 (slI (intAt xs 112) (0 : Int)))) : Int) = adI (0 : Int) (slI (intAt xs 112) (0 : Int)),
 xs[113]? = some (Value.int IntKind.u8 (intAt xs 113)), rg IntKind.u64 (intAt xs 113), (0 : Int) ≤ (8 : Int) ∧ (8 : Int) ≤ (64 : Int) ∧ rg IntKind.u64 (slI (intAt xs 113) (8 : Int)), IntKind.wrap IntKind.u64
 (↑(BitVec.toNat (BitVec.ofInt 64 (adI (0 : Int) (slI (intAt xs 112) (0 : Int))) ||| BitVec.ofInt 64 (slI (intAt xs 113) (8 : Int)))) : Int) = adI (adI (0 : Int) (slI (intAt xs 112) (0 : Int))) (slI (intAt xs 113) (8 :
 Int)), xs[114]? = some (Value.int IntKind.u8 (intAt xs 114)), rg IntKind.u64 (intAt xs 114), (0 : Int) ≤ (16 : Int) ∧ (16 : Int) ≤ (64 : Int) ∧ rg IntKind.u64 (slI (intAt xs 114) (16 : Int)), IntKind.wrap IntKind.u64
 (↑(BitVec.toNat (BitVec.ofInt 64 (adI (adI (0 : Int) (slI (intAt xs 112) (0 : Int))) (slI (intAt xs 113) (8 : Int))) ||| BitVec.ofInt 64 (slI (intAt xs 114) (16 : Int)))) : Int) = adI (adI (adI (0 : Int) (slI (intAt xs
 112) (0 : Int))) (slI (intAt xs 113) (8 : Int))) (slI (intAt xs 114) (16 : Int)), xs[115]? = some (Value.int IntKind.u8 (intAt xs 115)), rg IntKind.u64 (intAt xs 115), (0 : Int) ≤ (24 : Int) ∧ (24 : Int) ≤ (64 : Int) ∧ rg
 IntKind.u64 (slI (intAt xs 115) (24 : Int)), IntKind.wrap IntKind.u64 (↑(BitVec.toNat (BitVec.ofInt 64 (adI (adI (adI (0 : Int) (slI (intAt xs 112) (0 : Int))) (slI (intAt xs 113) (8 : Int))) (slI (intAt xs 114) (16 :
 Int))) ||| BitVec.ofInt 64 (slI (intAt xs 115) (24 : Int)))) : Int) = adI (adI (adI (adI (0 : Int) (slI (intAt xs 112) (0 : Int))) (slI (intAt xs 113) (8 : Int))) (slI (intAt xs 114) (16 : Int))) (slI (intAt xs 115) (24 :
 Int)), xs[116]? = some (Value.int IntKind.u8 (intAt xs 116)), rg IntKind.u64 (intAt xs 116), (0 : Int) ≤ (0 : Int) ∧ (0 : Int) ≤ (64 : Int) ∧ rg IntKind.u64 (slI (intAt xs 116) (0 : Int)), IntKind.wrap IntKind.u64
 (↑(BitVec.toNat (BitVec.ofInt 64 (0 : Int) ||| BitVec.ofInt 64 (slI (intAt xs 116) (0 : Int)))) : Int) = adI (0 : Int) (slI (intAt xs 116) (0 : Int)), xs[117]? = some (Value.int IntKind.u8 (intAt xs 117)), rg IntKind.u64
 (intAt xs 117), (0 : Int) ≤ (8 : Int) ∧ (8 : Int) ≤ (64 : Int) ∧ rg IntKind.u64 (slI (intAt xs 117) (8 : Int)), IntKind.wrap IntKind.u64 (↑(BitVec.toNat (BitVec.ofInt 64 (adI (0 : Int) (slI (intAt xs 116) (0 : Int))) |||
 BitVec.ofInt 64 (slI (intAt xs 117) (8 : Int)))) : Int) = adI (adI (0 : Int) (slI (intAt xs 116) (0 : Int))) (slI (intAt xs 117) (8 : Int)), xs[118]? = some (Value.int IntKind.u8 (intAt xs 118)), rg IntKind.u64 (intAt xs
 118), (0 : Int) ≤ (0 : Int) ∧ (0 : Int) ≤ (64 : Int) ∧ rg IntKind.u64 (slI (intAt xs 118) (0 : Int)), IntKind.wrap IntKind.u64 (↑(BitVec.toNat (BitVec.ofInt 64 (0 : Int) ||| BitVec.ofInt 64 (slI (intAt xs 118) (0 :
 Int)))) : Int) = adI (0 : Int) (slI (intAt xs 118) (0 : Int)), xs[119]? = some (Value.int IntKind.u8 (intAt xs 119)), rg IntKind.u64 (intAt xs 119), (0 : Int) ≤ (8 : Int) ∧ (8 : Int) ≤ (64 : Int) ∧ rg IntKind.u64 (slI
 (intAt xs 119) (8 : Int)), IntKind.wrap IntKind.u64 (↑(BitVec.toNat (BitVec.ofInt 64 (adI (0 : Int) (slI (intAt xs 118) (0 : Int))) ||| BitVec.ofInt 64 (slI (intAt xs 119) (8 : Int)))) : Int) = adI (adI (0 : Int) (slI
 (intAt xs 118) (0 : Int))) (slI (intAt xs 119) (8 : Int)), xs[120]? = some (Value.int IntKind.u8 (intAt xs 120)), rg IntKind.u64 (intAt xs 120), (0 : Int) ≤ (0 : Int) ∧ (0 : Int) ≤ (64 : Int) ∧ rg IntKind.u64 (slI (intAt
 xs 120) (0 : Int)), IntKind.wrap IntKind.u64 (↑(BitVec.toNat (BitVec.ofInt 64 (0 : Int) ||| BitVec.ofInt 64 (slI (intAt xs 120) (0 : Int)))) : Int) = adI (0 : Int) (slI (intAt xs 120) (0 : Int)), xs[121]? = some
 (Value.int IntKind.u8 (intAt xs 121)), rg IntKind.u64 (intAt xs 121), (0 : Int) ≤ (8 : Int) ∧ (8 : Int) ≤ (64 : Int) ∧ rg IntKind.u64 (slI (intAt xs 121) (8 : Int)), IntKind.wrap IntKind.u64 (↑(BitVec.toNat (BitVec.ofInt
 64 (adI (0 : Int) (slI (intAt xs 120) (0 : Int))) ||| BitVec.ofInt 64 (slI (intAt xs 121) (8 : Int)))) : Int) = adI (adI (0 : Int) (slI (intAt xs 120) (0 : Int))) (slI (intAt xs 121) (8 : Int)), xs[122]? = some (Value.int
 IntKind.u8 (intAt xs 122)), rg IntKind.u64 (intAt xs 122), (0 : Int) ≤ (16 : Int) ∧ (16 : Int) ≤ (64 : Int) ∧ rg IntKind.u64 (slI (intAt xs 122) (16 : Int)), IntKind.wrap IntKind.u64 (↑(BitVec.toNat (BitVec.ofInt 64 (adI
 (adI (0 : Int) (slI (intAt xs 120) (0 : Int))) (slI (intAt xs 121) (8 : Int))) ||| BitVec.ofInt 64 (slI (intAt xs 122) (16 : Int)))) : Int) = adI (adI (adI (0 : Int) (slI (intAt xs 120) (0 : Int))) (slI (intAt xs 121) (8
 : Int))) (slI (intAt xs 122) (16 : Int)), xs[123]? = some (Value.int IntKind.u8 (intAt xs 123)), rg IntKind.u64 (intAt xs 123), (0 : Int) ≤ (24 : Int) ∧ (24 : Int) ≤ (64 : Int) ∧ rg IntKind.u64 (slI (intAt xs 123) (24 :
 Int)), IntKind.wrap IntKind.u64 (↑(BitVec.toNat (BitVec.ofInt 64 (adI (adI (adI (0 : Int) (slI (intAt xs 120) (0 : Int))) (slI (intAt xs 121) (8 : Int))) (slI (intAt xs 122) (16 : Int))) ||| BitVec.ofInt 64 (slI (intAt xs
 123) (24 : Int)))) : Int) = adI (adI (adI (adI (0 : Int) (slI (intAt xs 120) (0 : Int))) (slI (intAt xs 121) (8 : Int))) (slI (intAt xs 122) (16 : Int))) (slI (intAt xs 123) (24 : Int)), xs[124]? = some (Value.int
 IntKind.u8 (intAt xs 124)), rg IntKind.u64 (intAt xs 124), (0 : Int) ≤ (32 : Int) ∧ (32 : Int) ≤ (64 : Int) ∧ rg IntKind.u64 (slI (intAt xs 124) (32 : Int)), IntKind.wrap IntKind.u64 (↑(BitVec.toNat (BitVec.ofInt 64 (adI
 (adI (adI (adI (0 : Int) (slI (intAt xs 120) (0 : Int))) (slI (intAt xs 121) (8 : Int))) (slI (intAt xs 122) (16 : Int))) (slI (intAt xs 123) (24 : Int))) ||| BitVec.ofInt 64 (slI (intAt xs 124) (32 : Int)))) : Int) = adI
 (adI (adI (adI (adI (0 : Int) (slI (intAt xs 120) (0 : Int))) (slI (intAt xs 121) (8 : Int))) (slI (intAt xs 122) (16 : Int))) (slI (intAt xs 123) (24 : Int))) (slI (intAt xs 124) (32 : Int)), xs[125]? = some (Value.int
 IntKind.u8 (intAt xs 125)), rg IntKind.u64 (intAt xs 125), (0 : Int) ≤ (40 : Int) ∧ (40 : Int) ≤ (64 : Int) ∧ rg IntKind.u64 (slI (intAt xs 125) (40 : Int)), IntKind.wrap IntKind.u64 (↑(BitVec.toNat (BitVec.ofInt 64 (adI
 (adI (adI (adI (adI (0 : Int) (slI (intAt xs 120) (0 : Int))) (slI (intAt xs 121) (8 : Int))) (slI (intAt xs 122) (16 : Int))) (slI (intAt xs 123) (24 : Int))) (slI (intAt xs 124) (32 : Int))) ||| BitVec.ofInt 64 (slI
 (intAt xs 125) (40 : Int)))) : Int) = adI (adI (adI (adI (adI (adI (0 : Int) (slI (intAt xs 120) (0 : Int))) (slI (intAt xs 121) (8 : Int))) (slI (intAt xs 122) (16 : Int))) (slI (intAt xs 123) (24 : Int))) (slI (intAt xs
 124) (32 : Int))) (slI (intAt xs 125) (40 : Int)), xs[126]? = some (Value.int IntKind.u8 (intAt xs 126)), rg IntKind.u64 (intAt xs 126), (0 : Int) ≤ (48 : Int) ∧ (48 : Int) ≤ (64 : Int) ∧ rg IntKind.u64 (slI (intAt xs
 126) (48 : Int)), IntKind.wrap IntKind.u64 (↑(BitVec.toNat (BitVec.ofInt 64 (adI (adI (adI (adI (adI (adI (0 : Int) (slI (intAt xs 120) (0 : Int))) (slI (intAt xs 121) (8 : Int))) (slI (intAt xs 122) (16 : Int))) (slI
 (intAt xs 123) (24 : Int))) (slI (intAt xs 124) (32 : Int))) (slI (intAt xs 125) (40 : Int))) ||| BitVec.ofInt 64 (slI (intAt xs 126) (48 : Int)))) : Int) = adI (adI (adI (adI (adI (adI (adI (0 : Int) (slI (intAt xs 120)
 (0 : Int))) (slI (intAt xs 121) (8 : Int))) (slI (intAt xs 122) (16 : Int))) (slI (intAt xs 123) (24 : Int))) (slI (intAt xs 124) (32 : Int))) (slI (intAt xs 125) (40 : Int))) (slI (intAt xs 126) (48 : Int)), xs[127]? =
 some (Value.int IntKind.u8 (intAt xs 127)), rg IntKind.u64 (intAt xs 127), (0 : Int) ≤ (56 : Int) ∧ (56 : Int) ≤ (64 : Int) ∧ rg IntKind.u64 (slI (intAt xs 127) (56 : Int)), IntKind.wrap IntKind.u64 (↑(BitVec.toNat
 (BitVec.ofInt 64 (adI (adI (adI (adI (adI (adI (adI (0 : Int) (slI (intAt xs 120) (0 : Int))) (slI (intAt xs 121) (8 : Int))) (slI (intAt xs 122) (16 : Int))) (slI (intAt xs 123) (24 : Int))) (slI (intAt xs 124) (32 :
 Int))) (slI (intAt xs 125) (40 : Int))) (slI (intAt xs 126) (48 : Int))) ||| BitVec.ofInt 64 (slI (intAt xs 127) (56 : Int)))) : Int) = adI (adI (adI (adI (adI (adI (adI (adI (0 : Int) (slI (intAt xs 120) (0 : Int))) (slI
 (intAt xs 121) (8 : Int))) (slI (intAt xs 122) (16 : Int))) (slI (intAt xs 123) (24 : Int))) (slI (intAt xs 124) (32 : Int))) (slI (intAt xs 125) (40 : Int))) (slI (intAt xs 126) (48 : Int))) (slI (intAt xs 127) (56 :
 Int))])
theorem ac_e (xs : List Value) : runZ rrV Try.prog 9 37 [.slice (some ⟨0, 0, none⟩) 128 128] [(0, ⟨.old, xs⟩)] 1 [] = ac_e_R xs := by kernel_rfl
abbrev ac_m_R (xs : List Value) (k : Nat) : Res (Out × Tape × List Prop) :=
  Res.ok ((Value.agg (Array.mk [Value.int IntKind.u64 (r8 (List.drop 8 (List.take 16 xs))), Value.int IntKind.u64 (r8 (List.take 16 xs)), Value.int IntKind.u64 (r8 (List.drop 8 (List.take 16 (List.drop 16 xs)))), Value.int
 IntKind.u64 (r8 (List.take 16 (List.drop 16 xs))), Value.int IntKind.u64 (r8 (List.drop 8 (List.take 16 (List.drop 32 xs)))), Value.int IntKind.u64 (r8 (List.take 16 (List.drop 32 xs))), Value.int IntKind.u64 (r8
 (List.drop 8 (List.take 16 (List.drop 48 xs)))), Value.int IntKind.u64 (r8 (List.take 16 (List.drop 48 xs))), Value.int IntKind.u64 (r8 (List.drop 8 (List.take 16 (List.drop 64 xs)))), Value.int IntKind.u64 (r8 (List.take
 16 (List.drop 64 xs))), Value.int IntKind.u64 (r8 (List.drop 8 (List.take 16 (List.drop 80 xs)))), Value.int IntKind.u64 (r8 (List.take 16 (List.drop 80 xs))), Value.int IntKind.u64 (adI (adI (adI (adI (adI (adI (adI (adI
 (0 : Int) (slI (intAt xs 96) (0 : Int))) (slI (intAt xs 97) (8 : Int))) (slI (intAt xs 98) (16 : Int))) (slI (intAt xs 99) (24 : Int))) (slI (intAt xs 100) (32 : Int))) (slI (intAt xs 101) (40 : Int))) (slI (intAt xs 102)
 (48 : Int))) (slI (intAt xs 103) (56 : Int))), Value.int IntKind.u32 (lowI IntKind.u32 (adI (adI (adI (adI (0 : Int) (slI (intAt xs 104) (0 : Int))) (slI (intAt xs 105) (8 : Int))) (slI (intAt xs 106) (16 : Int))) (slI
 (intAt xs 107) (24 : Int)))), Value.int IntKind.u32 (lowI IntKind.u32 (adI (adI (adI (adI (0 : Int) (slI (intAt xs 108) (0 : Int))) (slI (intAt xs 109) (8 : Int))) (slI (intAt xs 110) (16 : Int))) (slI (intAt xs 111) (24
 : Int)))), Value.int IntKind.u32 (lowI IntKind.u32 (adI (adI (adI (adI (0 : Int) (slI (intAt xs 112) (0 : Int))) (slI (intAt xs 113) (8 : Int))) (slI (intAt xs 114) (16 : Int))) (slI (intAt xs 115) (24 : Int)))),
 Value.int IntKind.u16 (lowI IntKind.u16 (adI (adI (0 : Int) (slI (intAt xs 116) (0 : Int))) (slI (intAt xs 117) (8 : Int)))), Value.int IntKind.u16 (lowI IntKind.u16 (adI (adI (0 : Int) (slI (intAt xs 118) (0 : Int)))
 (slI (intAt xs 119) (8 : Int)))), Value.int IntKind.u64 (adI (adI (adI (adI (adI (adI (adI (adI (0 : Int) (slI (intAt xs 120) (0 : Int))) (slI (intAt xs 121) (8 : Int))) (slI (intAt xs 122) (16 : Int))) (slI (intAt xs
 123) (24 : Int))) (slI (intAt xs 124) (32 : Int))) (slI (intAt xs 125) (40 : Int))) (slI (intAt xs 126) (48 : Int))) (slI (intAt xs 127) (56 : Int)))]), [(0, Rw.mk Kd.old xs)], 34, []), [], ((fun (q0 q1 q2 q3 q4 q5 :
 Prop) => [q0, (0 : Int) ≤ (16 : Int) ∧ (16 : Int) ≤ (↑(k + 129) : Int), 16 ≤ k + 129 ∧ k + 129 ≤ 9223372036854775807, 16 ≤ List.length xs, Fl (List.take 16 xs), Byts (List.take 16 xs), 16 = 16, q0, (0 : Int) ≤ (16 : Int)
 ∧ (16 : Int) ≤ (128 : Int), q1, (0 : Int) ≤ (16 : Int) ∧ (16 : Int) ≤ (↑(k + 129 - 16) : Int), 16 ≤ k + 129 - 16 ∧ k + 129 - 16 ≤ 9223372036854775807, 32 ≤ List.length xs, Fl (List.take 16 (List.drop 16 xs)), Byts
 (List.take 16 (List.drop 16 xs)), 16 = 16, q1, (0 : Int) ≤ (16 : Int) ∧ (16 : Int) ≤ (112 : Int), q2, (0 : Int) ≤ (16 : Int) ∧ (16 : Int) ≤ (↑(k + 129 - 16 - 16) : Int), 16 ≤ k + 129 - 16 - 16 ∧ k + 129 - 16 - 16 ≤
 9223372036854775807, 48 ≤ List.length xs, Fl (List.take 16 (List.drop 32 xs)), Byts (List.take 16 (List.drop 32 xs)), 16 = 16, q2, (0 : Int) ≤ (16 : Int) ∧ (16 : Int) ≤ (96 : Int), q3, (0 : Int) ≤ (16 : Int) ∧ (16 : Int)
 ≤ (↑(k + 129 - 16 - 16 - 16) : Int), 16 ≤ k + 129 - 16 - 16 - 16 ∧ k + 129 - 16 - 16 - 16 ≤ 9223372036854775807, 64 ≤ List.length xs, Fl (List.take 16 (List.drop 48 xs)), Byts (List.take 16 (List.drop 48 xs)), 16 = 16,
 q3, (0 : Int) ≤ (16 : Int) ∧ (16 : Int) ≤ (80 : Int), q4, (0 : Int) ≤ (16 : Int) ∧ (16 : Int) ≤ (↑(k + 129 - 16 - 16 - 16 - 16) : Int), 16 ≤ k + 129 - 16 - 16 - 16 - 16 ∧ k + 129 - 16 - 16 - 16 - 16 ≤ 9223372036854775807,
 80 ≤ List.length xs, Fl (List.take 16 (List.drop 64 xs)), Byts (List.take 16 (List.drop 64 xs)), 16 = 16, q4, (0 : Int) ≤ (16 : Int) ∧ (16 : Int) ≤ (64 : Int), q5, (0 : Int) ≤ (16 : Int) ∧ (16 : Int) ≤ (↑(k + 129 - 16 -
 16 - 16 - 16 - 16) : Int), 16 ≤ k + 129 - 16 - 16 - 16 - 16 - 16 ∧ k + 129 - 16 - 16 - 16 - 16 - 16 ≤ 9223372036854775807, 96 ≤ List.length xs, Fl (List.take 16 (List.drop 80 xs)), Byts (List.take 16 (List.drop 80 xs)),
 16 = 16, q5, (0 : Int) ≤ (16 : Int) ∧ (16 : Int) ≤ (48 : Int), xs[96]? = some (Value.int IntKind.u8 (intAt xs 96)), rg IntKind.u64 (intAt xs 96), (0 : Int) ≤ (0 : Int) ∧ (0 : Int) ≤ (64 : Int) ∧ rg IntKind.u64 (slI (intAt
 xs 96) (0 : Int)), IntKind.wrap IntKind.u64 (↑(BitVec.toNat (BitVec.ofInt 64 (0 : Int) ||| BitVec.ofInt 64 (slI (intAt xs 96) (0 : Int)))) : Int) = adI (0 : Int) (slI (intAt xs 96) (0 : Int)), xs[97]? = some (Value.int
 IntKind.u8 (intAt xs 97)), rg IntKind.u64 (intAt xs 97), (0 : Int) ≤ (8 : Int) ∧ (8 : Int) ≤ (64 : Int) ∧ rg IntKind.u64 (slI (intAt xs 97) (8 : Int)), IntKind.wrap IntKind.u64 (↑(BitVec.toNat (BitVec.ofInt 64 (adI (0 :
 Int) (slI (intAt xs 96) (0 : Int))) ||| BitVec.ofInt 64 (slI (intAt xs 97) (8 : Int)))) : Int) = adI (adI (0 : Int) (slI (intAt xs 96) (0 : Int))) (slI (intAt xs 97) (8 : Int)), xs[98]? = some (Value.int IntKind.u8 (intAt
 xs 98)), rg IntKind.u64 (intAt xs 98), (0 : Int) ≤ (16 : Int) ∧ (16 : Int) ≤ (64 : Int) ∧ rg IntKind.u64 (slI (intAt xs 98) (16 : Int)), IntKind.wrap IntKind.u64 (↑(BitVec.toNat (BitVec.ofInt 64 (adI (adI (0 : Int) (slI
 (intAt xs 96) (0 : Int))) (slI (intAt xs 97) (8 : Int))) ||| BitVec.ofInt 64 (slI (intAt xs 98) (16 : Int)))) : Int) = adI (adI (adI (0 : Int) (slI (intAt xs 96) (0 : Int))) (slI (intAt xs 97) (8 : Int))) (slI (intAt xs
 98) (16 : Int)), xs[99]? = some (Value.int IntKind.u8 (intAt xs 99)), rg IntKind.u64 (intAt xs 99), (0 : Int) ≤ (24 : Int) ∧ (24 : Int) ≤ (64 : Int) ∧ rg IntKind.u64 (slI (intAt xs 99) (24 : Int)), IntKind.wrap
 IntKind.u64 (↑(BitVec.toNat (BitVec.ofInt 64 (adI (adI (adI (0 : Int) (slI (intAt xs 96) (0 : Int))) (slI (intAt xs 97) (8 : Int))) (slI (intAt xs 98) (16 : Int))) ||| BitVec.ofInt 64 (slI (intAt xs 99) (24 : Int)))) :
 Int) = adI (adI (adI (adI (0 : Int) (slI (intAt xs 96) (0 : Int))) (slI (intAt xs 97) (8 : Int))) (slI (intAt xs 98) (16 : Int))) (slI (intAt xs 99) (24 : Int)), xs[100]? = some (Value.int IntKind.u8 (intAt xs 100)), rg
 IntKind.u64 (intAt xs 100), (0 : Int) ≤ (32 : Int) ∧ (32 : Int) ≤ (64 : Int) ∧ rg IntKind.u64 (slI (intAt xs 100) (32 : Int)), IntKind.wrap IntKind.u64 (↑(BitVec.toNat (BitVec.ofInt 64 (adI (adI (adI (adI (0 : Int) (slI
 (intAt xs 96) (0 : Int))) (slI (intAt xs 97) (8 : Int))) (slI (intAt xs 98) (16 : Int))) (slI (intAt xs 99) (24 : Int))) ||| BitVec.ofInt 64 (slI (intAt xs 100) (32 : Int)))) : Int) = adI (adI (adI (adI (adI (0 : Int)
 (slI (intAt xs 96) (0 : Int))) (slI (intAt xs 97) (8 : Int))) (slI (intAt xs 98) (16 : Int))) (slI (intAt xs 99) (24 : Int))) (slI (intAt xs 100) (32 : Int)), xs[101]? = some (Value.int IntKind.u8 (intAt xs 101)), rg
 IntKind.u64 (intAt xs 101), (0 : Int) ≤ (40 : Int) ∧ (40 : Int) ≤ (64 : Int) ∧ rg IntKind.u64 (slI (intAt xs 101) (40 : Int)), IntKind.wrap IntKind.u64 (↑(BitVec.toNat (BitVec.ofInt 64 (adI (adI (adI (adI (adI (0 : Int)
 (slI (intAt xs 96) (0 : Int))) (slI (intAt xs 97) (8 : Int))) (slI (intAt xs 98) (16 : Int))) (slI (intAt xs 99) (24 : Int))) (slI (intAt xs 100) (32 : Int))) ||| BitVec.ofInt 64 (slI (intAt xs 101) (40 : Int)))) : Int) =
 adI (adI (adI (adI (adI (adI (0 : Int) (slI (intAt xs 96) (0 : Int))) (slI (intAt xs 97) (8 : Int))) (slI (intAt xs 98) (16 : Int))) (slI (intAt xs 99) (24 : Int))) (slI (intAt xs 100) (32 : Int))) (slI (intAt xs 101) (40
 : Int)), xs[102]? = some (Value.int IntKind.u8 (intAt xs 102)), rg IntKind.u64 (intAt xs 102), (0 : Int) ≤ (48 : Int) ∧ (48 : Int) ≤ (64 : Int) ∧ rg IntKind.u64 (slI (intAt xs 102) (48 : Int)), IntKind.wrap IntKind.u64
 (↑(BitVec.toNat (BitVec.ofInt 64 (adI (adI (adI (adI (adI (adI (0 : Int) (slI (intAt xs 96) (0 : Int))) (slI (intAt xs 97) (8 : Int))) (slI (intAt xs 98) (16 : Int))) (slI (intAt xs 99) (24 : Int))) (slI (intAt xs 100)
 (32 : Int))) (slI (intAt xs 101) (40 : Int))) ||| BitVec.ofInt 64 (slI (intAt xs 102) (48 : Int)))) : Int) = adI (adI (adI (adI (adI (adI (adI (0 : Int) (slI (intAt xs 96) (0 : Int))) (slI (intAt xs 97) (8 : Int))) (slI
 (intAt xs 98) (16 : Int))) (slI (intAt xs 99) (24 : Int))) (slI (intAt xs 100) (32 : Int))) (slI (intAt xs 101) (40 : Int))) (slI (intAt xs 102) (48 : Int)), xs[103]? = some (Value.int IntKind.u8 (intAt xs 103)), rg
 IntKind.u64 (intAt xs 103), (0 : Int) ≤ (56 : Int) ∧ (56 : Int) ≤ (64 : Int) ∧ rg IntKind.u64 (slI (intAt xs 103) (56 : Int)), IntKind.wrap IntKind.u64 (↑(BitVec.toNat (BitVec.ofInt 64 (adI (adI (adI (adI (adI (adI (adI
 (0 : Int) (slI (intAt xs 96) (0 : Int))) (slI (intAt xs 97) (8 : Int))) (slI (intAt xs 98) (16 : Int))) (slI (intAt xs 99) (24 : Int))) (slI (intAt xs 100) (32 : Int))) (slI (intAt xs 101) (40 : Int))) (slI (intAt xs 102)
 (48 : Int))) ||| BitVec.ofInt 64 (slI (intAt xs 103) (56 : Int)))) : Int) = adI (adI (adI (adI (adI (adI (adI (adI (0 : Int) (slI (intAt xs 96) (0 : Int))) (slI (intAt xs 97) (8 : Int))) (slI (intAt xs 98) (16 : Int)))
 (slI (intAt xs 99) (24 : Int))) (slI (intAt xs 100) (32 : Int))) (slI (intAt xs 101) (40 : Int))) (slI (intAt xs 102) (48 : Int))) (slI (intAt xs 103) (56 : Int)), k + 129 - 16 - 16 - 16 - 16 - 16 - 16 <
 18446744073709551616, (0 : Int) ≤ (8 : Int) ∧ (8 : Int) ≤ (32 : Int), xs[104]? = some (Value.int IntKind.u8 (intAt xs 104)), rg IntKind.u64 (intAt xs 104), (0 : Int) ≤ (0 : Int) ∧ (0 : Int) ≤ (64 : Int) ∧ rg IntKind.u64
 (slI (intAt xs 104) (0 : Int)), IntKind.wrap IntKind.u64 (↑(BitVec.toNat (BitVec.ofInt 64 (0 : Int) ||| BitVec.ofInt 64 (slI (intAt xs 104) (0 : Int)))) : Int) = adI (0 : Int) (slI (intAt xs 104) (0 : Int)), xs[105]? =
 some (Value.int IntKind.u8 (intAt xs 105)), rg IntKind.u64 (intAt xs 105), (0 : Int) ≤ (8 : Int) ∧ (8 : Int) ≤ (64 : Int) ∧ rg IntKind.u64 (slI (intAt xs 105) (8 : Int)), IntKind.wrap IntKind.u64 (↑(BitVec.toNat
 (BitVec.ofInt 64 (adI (0 : Int) (slI (intAt xs 104) (0 : Int))) ||| BitVec.ofInt 64 (slI (intAt xs 105) (8 : Int)))) : Int) = adI (adI (0 : Int) (slI (intAt xs 104) (0 : Int))) (slI (intAt xs 105) (8 : Int)), xs[106]? =
 some (Value.int IntKind.u8 (intAt xs 106)), rg IntKind.u64 (intAt xs 106), (0 : Int) ≤ (16 : Int) ∧ (16 : Int) ≤ (64 : Int) ∧ rg IntKind.u64 (slI (intAt xs 106) (16 : Int)), IntKind.wrap IntKind.u64 (↑(BitVec.toNat
 (BitVec.ofInt 64 (adI (adI (0 : Int) (slI (intAt xs 104) (0 : Int))) (slI (intAt xs 105) (8 : Int))) ||| BitVec.ofInt 64 (slI (intAt xs 106) (16 : Int)))) : Int) = adI (adI (adI (0 : Int) (slI (intAt xs 104) (0 : Int)))
 (slI (intAt xs 105) (8 : Int))) (slI (intAt xs 106) (16 : Int)), xs[107]? = some (Value.int IntKind.u8 (intAt xs 107)), rg IntKind.u64 (intAt xs 107), (0 : Int) ≤ (24 : Int) ∧ (24 : Int) ≤ (64 : Int) ∧ rg IntKind.u64 (slI
 (intAt xs 107) (24 : Int)), IntKind.wrap IntKind.u64 (↑(BitVec.toNat (BitVec.ofInt 64 (adI (adI (adI (0 : Int) (slI (intAt xs 104) (0 : Int))) (slI (intAt xs 105) (8 : Int))) (slI (intAt xs 106) (16 : Int))) |||
 BitVec.ofInt 64 (slI (intAt xs 107) (24 : Int)))) : Int) = adI (adI (adI (adI (0 : Int) (slI (intAt xs 104) (0 : Int))) (slI (intAt xs 105) (8 : Int))) (slI (intAt xs 106) (16 : Int))) (slI (intAt xs 107) (24 : Int)), k +
 129 - 16 - 16 - 16 - 16 - 16 - 16 - 8 < 18446744073709551616, (0 : Int) ≤ (4 : Int) ∧ (4 : Int) ≤ (24 : Int), xs[108]? = some (Value.int IntKind.u8 (intAt xs 108)), rg IntKind.u64 (intAt xs 108), (0 : Int) ≤ (0 : Int) ∧
 (0 : Int) ≤ (64 : Int) ∧ rg IntKind.u64 (slI (intAt xs 108) (0 : Int)), IntKind.wrap IntKind.u64 (↑(BitVec.toNat (BitVec.ofInt 64 (0 : Int) ||| BitVec.ofInt 64 (slI (intAt xs 108) (0 : Int)))) : Int) = adI (0 : Int) (slI
 (intAt xs 108) (0 : Int)), xs[109]? = some (Value.int IntKind.u8 (intAt xs 109)), rg IntKind.u64 (intAt xs 109), (0 : Int) ≤ (8 : Int) ∧ (8 : Int) ≤ (64 : Int) ∧ rg IntKind.u64 (slI (intAt xs 109) (8 : Int)), IntKind.wrap
 IntKind.u64 (↑(BitVec.toNat (BitVec.ofInt 64 (adI (0 : Int) (slI (intAt xs 108) (0 : Int))) ||| BitVec.ofInt 64 (slI (intAt xs 109) (8 : Int)))) : Int) = adI (adI (0 : Int) (slI (intAt xs 108) (0 : Int))) (slI (intAt xs
 109) (8 : Int)), xs[110]? = some (Value.int IntKind.u8 (intAt xs 110)), rg IntKind.u64 (intAt xs 110), (0 : Int) ≤ (16 : Int) ∧ (16 : Int) ≤ (64 : Int) ∧ rg IntKind.u64 (slI (intAt xs 110) (16 : Int)), IntKind.wrap
 IntKind.u64 (↑(BitVec.toNat (BitVec.ofInt 64 (adI (adI (0 : Int) (slI (intAt xs 108) (0 : Int))) (slI (intAt xs 109) (8 : Int))) ||| BitVec.ofInt 64 (slI (intAt xs 110) (16 : Int)))) : Int) = adI (adI (adI (0 : Int) (slI
 (intAt xs 108) (0 : Int))) (slI (intAt xs 109) (8 : Int))) (slI (intAt xs 110) (16 : Int)), xs[111]? = some (Value.int IntKind.u8 (intAt xs 111)), rg IntKind.u64 (intAt xs 111), (0 : Int) ≤ (24 : Int) ∧ (24 : Int) ≤ (64 :
 Int) ∧ rg IntKind.u64 (slI (intAt xs 111) (24 : Int)), IntKind.wrap IntKind.u64 (↑(BitVec.toNat (BitVec.ofInt 64 (adI (adI (adI (0 : Int) (slI (intAt xs 108) (0 : Int))) (slI (intAt xs 109) (8 : Int))) (slI (intAt xs 110)
 (16 : Int))) ||| BitVec.ofInt 64 (slI (intAt xs 111) (24 : Int)))) : Int) = adI (adI (adI (adI (0 : Int) (slI (intAt xs 108) (0 : Int))) (slI (intAt xs 109) (8 : Int))) (slI (intAt xs 110) (16 : Int))) (slI (intAt xs 111)
 (24 : Int)), k + 129 - 16 - 16 - 16 - 16 - 16 - 16 - 8 - 4 < 18446744073709551616, (0 : Int) ≤ (4 : Int) ∧ (4 : Int) ≤ (20 : Int), xs[112]? = some (Value.int IntKind.u8 (intAt xs 112)), rg IntKind.u64 (intAt xs 112), (0 :
 Int) ≤ (0 : Int) ∧ (0 : Int) ≤ (64 : Int) ∧ rg IntKind.u64 (slI (intAt xs 112) (0 : Int)), IntKind.wrap IntKind.u64 (↑(BitVec.toNat (BitVec.ofInt 64 (0 : Int) ||| BitVec.ofInt 64 (slI (intAt xs 112) (0 : Int)))) : Int) =
 adI (0 : Int) (slI (intAt xs 112) (0 : Int)), xs[113]? = some (Value.int IntKind.u8 (intAt xs 113)), rg IntKind.u64 (intAt xs 113), (0 : Int) ≤ (8 : Int) ∧ (8 : Int) ≤ (64 : Int) ∧ rg IntKind.u64 (slI (intAt xs 113) (8 :
 Int)), IntKind.wrap IntKind.u64 (↑(BitVec.toNat (BitVec.ofInt 64 (adI (0 : Int) (slI (intAt xs 112) (0 : Int))) ||| BitVec.ofInt 64 (slI (intAt xs 113) (8 : Int)))) : Int) = adI (adI (0 : Int) (slI (intAt xs 112) (0 :
 Int))) (slI (intAt xs 113) (8 : Int)), xs[114]? = some (Value.int IntKind.u8 (intAt xs 114)), rg IntKind.u64 (intAt xs 114), (0 : Int) ≤ (16 : Int) ∧ (16 : Int) ≤ (64 : Int) ∧ rg IntKind.u64 (slI (intAt xs 114) (16 :
 Int)), IntKind.wrap IntKind.u64 (↑(BitVec.toNat (BitVec.ofInt 64 (adI (adI (0 : Int) (slI (intAt xs 112) (0 : Int))) (slI (intAt xs 113) (8 : Int))) ||| BitVec.ofInt 64 (slI (intAt xs 114) (16 : Int)))) : Int) = adI (adI
 (adI (0 : Int) (slI (intAt xs 112) (0 : Int))) (slI (intAt xs 113) (8 : Int))) (slI (intAt xs 114) (16 : Int)), xs[115]? = some (Value.int IntKind.u8 (intAt xs 115)), rg IntKind.u64 (intAt xs 115), (0 : Int) ≤ (24 : Int)
 ∧ (24 : Int) ≤ (64 : Int) ∧ rg IntKind.u64 (slI (intAt xs 115) (24 : Int)), IntKind.wrap IntKind.u64 (↑(BitVec.toNat (BitVec.ofInt 64 (adI (adI (adI (0 : Int) (slI (intAt xs 112) (0 : Int))) (slI (intAt xs 113) (8 :
 Int))) (slI (intAt xs 114) (16 : Int))) ||| BitVec.ofInt 64 (slI (intAt xs 115) (24 : Int)))) : Int) = adI (adI (adI (adI (0 : Int) (slI (intAt xs 112) (0 : Int))) (slI (intAt xs 113) (8 : Int))) (slI (intAt xs 114) (16 :
 Int))) (slI (intAt xs 115) (24 : Int)), k + 129 - 16 - 16 - 16 - 16 - 16 - 16 - 8 - 4 - 4 < 18446744073709551616, (0 : Int) ≤ (4 : Int) ∧ (4 : Int) ≤ (16 : Int), xs[116]? = some (Value.int IntKind.u8 (intAt xs 116)), rg
 IntKind.u64 (intAt xs 116), (0 : Int) ≤ (0 : Int) ∧ (0 : Int) ≤ (64 : Int) ∧ rg IntKind.u64 (slI (intAt xs 116) (0 : Int)), IntKind.wrap IntKind.u64 (↑(BitVec.toNat (BitVec.ofInt 64 (0 : Int) ||| BitVec.ofInt 64 (slI
 (intAt xs 116) (0 : Int)))) : Int) = adI (0 : Int) (slI (intAt xs 116) (0 : Int)), xs[117]? = some (Value.int IntKind.u8 (intAt xs 117)), rg IntKind.u64 (intAt xs 117), (0 : Int) ≤ (8 : Int) ∧ (8 : Int) ≤ (64 : Int) ∧ rg
 IntKind.u64 (slI (intAt xs 117) (8 : Int)), IntKind.wrap IntKind.u64 (↑(BitVec.toNat (BitVec.ofInt 64 (adI (0 : Int) (slI (intAt xs 116) (0 : Int))) ||| BitVec.ofInt 64 (slI (intAt xs 117) (8 : Int)))) : Int) = adI (adI
 (0 : Int) (slI (intAt xs 116) (0 : Int))) (slI (intAt xs 117) (8 : Int)), k + 129 - 16 - 16 - 16 - 16 - 16 - 16 - 8 - 4 - 4 - 4 < 18446744073709551616, (0 : Int) ≤ (2 : Int) ∧ (2 : Int) ≤ (12 : Int), xs[118]? = some
 (Value.int IntKind.u8 (intAt xs 118)), rg IntKind.u64 (intAt xs 118), (0 : Int) ≤ (0 : Int) ∧ (0 : Int) ≤ (64 : Int) ∧ rg IntKind.u64 (slI (intAt xs 118) (0 : Int)), IntKind.wrap IntKind.u64 (↑(BitVec.toNat (BitVec.ofInt
 64 (0 : Int) ||| BitVec.ofInt 64 (slI (intAt xs 118) (0 : Int)))) : Int) = adI (0 : Int) (slI (intAt xs 118) (0 : Int)), xs[119]? = some (Value.int IntKind.u8 (intAt xs 119)), rg IntKind.u64 (intAt xs 119), (0 : Int) ≤ (8
 : Int) ∧ (8 : Int) ≤ (64 : Int) ∧ rg IntKind.u64 (slI (intAt xs 119) (8 : Int)), IntKind.wrap IntKind.u64 (↑(BitVec.toNat (BitVec.ofInt 64 (adI (0 : Int) (slI (intAt xs 118) (0 : Int))) ||| BitVec.ofInt 64 (slI (intAt xs
 119) (8 : Int)))) : Int) = adI (adI (0 : Int) (slI (intAt xs 118) (0 : Int))) (slI (intAt xs 119) (8 : Int)), k + 129 - 16 - 16 - 16 - 16 - 16 - 16 - 8 - 4 - 4 - 4 - 2 < 18446744073709551616, (0 : Int) ≤ (2 : Int) ∧ (2 :
 Int) ≤ (10 : Int), xs[120]? = some (Value.int IntKind.u8 (intAt xs 120)), rg IntKind.u64 (intAt xs 120), (0 : Int) ≤ (0 : Int) ∧ (0 : Int) ≤ (64 : Int) ∧ rg IntKind.u64 (slI (intAt xs 120) (0 : Int)), IntKind.wrap
 IntKind.u64 (↑(BitVec.toNat (BitVec.ofInt 64 (0 : Int) ||| BitVec.ofInt 64 (slI (intAt xs 120) (0 : Int)))) : Int) = adI (0 : Int) (slI (intAt xs 120) (0 : Int)), xs[121]? = some (Value.int IntKind.u8 (intAt xs 121)), rg
 IntKind.u64 (intAt xs 121), (0 : Int) ≤ (8 : Int) ∧ (8 : Int) ≤ (64 : Int) ∧ rg IntKind.u64 (slI (intAt xs 121) (8 : Int)), IntKind.wrap IntKind.u64 (↑(BitVec.toNat (BitVec.ofInt 64 (adI (0 : Int) (slI (intAt xs 120) (0 :
 Int))) ||| BitVec.ofInt 64 (slI (intAt xs 121) (8 : Int)))) : Int) = adI (adI (0 : Int) (slI (intAt xs 120) (0 : Int))) (slI (intAt xs 121) (8 : Int)), xs[122]? = some (Value.int IntKind.u8 (intAt xs 122)), rg IntKind.u64
 (intAt xs 122), (0 : Int) ≤ (16 : Int) ∧ (16 : Int) ≤ (64 : Int) ∧ rg IntKind.u64 (slI (intAt xs 122) (16 : Int)), IntKind.wrap IntKind.u64 (↑(BitVec.toNat (BitVec.ofInt 64 (adI (adI (0 : Int) (slI (intAt xs 120) (0 :
 Int))) (slI (intAt xs 121) (8 : Int))) ||| BitVec.ofInt 64 (slI (intAt xs 122) (16 : Int)))) : Int) = adI (adI (adI (0 : Int) (slI (intAt xs 120) (0 : Int))) (slI (intAt xs 121) (8 : Int))) (slI (intAt xs 122) (16 :
 Int)), xs[123]? = some (Value.int IntKind.u8 (intAt xs 123)), rg IntKind.u64 (intAt xs 123), (0 : Int) ≤ (24 : Int) ∧ (24 : Int) ≤ (64 : Int) ∧ rg IntKind.u64 (slI (intAt xs 123) (24 : Int)), IntKind.wrap IntKind.u64
 (↑(BitVec.toNat (BitVec.ofInt 64 (adI (adI (adI (0 : Int) (slI (intAt xs 120) (0 : Int))) (slI (intAt xs 121) (8 : Int))) (slI (intAt xs 122) (16 : Int))) ||| BitVec.ofInt 64 (slI (intAt xs 123) (24 : Int)))) : Int) = adI
 (adI (adI (adI (0 : Int) (slI (intAt xs 120) (0 : Int))) (slI (intAt xs 121) (8 : Int))) (slI (intAt xs 122) (16 : Int))) (slI (intAt xs 123) (24 : Int)), xs[124]? = some (Value.int IntKind.u8 (intAt xs 124)), rg
 IntKind.u64 (intAt xs 124), (0 : Int) ≤ (32 : Int) ∧ (32 : Int) ≤ (64 : Int) ∧ rg IntKind.u64 (slI (intAt xs 124) (32 : Int)), IntKind.wrap IntKind.u64 (↑(BitVec.toNat (BitVec.ofInt 64 (adI (adI (adI (adI (0 : Int) (slI
 (intAt xs 120) (0 : Int))) (slI (intAt xs 121) (8 : Int))) (slI (intAt xs 122) (16 : Int))) (slI (intAt xs 123) (24 : Int))) ||| BitVec.ofInt 64 (slI (intAt xs 124) (32 : Int)))) : Int) = adI (adI (adI (adI (adI (0 : Int)
 (slI (intAt xs 120) (0 : Int))) (slI (intAt xs 121) (8 : Int))) (slI (intAt xs 122) (16 : Int))) (slI (intAt xs 123) (24 : Int))) (slI (intAt xs 124) (32 : Int)), xs[125]? = some (Value.int IntKind.u8 (intAt xs 125)), rg
 IntKind.u64 (intAt xs 125), (0 : Int) ≤ (40 : Int) ∧ (40 : Int) ≤ (64 : Int) ∧ rg IntKind.u64 (slI (intAt xs 125) (40 : Int)), IntKind.wrap IntKind.u64 (↑(BitVec.toNat (BitVec.ofInt 64 (adI (adI (adI (adI (adI (0 : Int)
 (slI (intAt xs 120) (0 : Int))) (slI (intAt xs 121) (8 : Int))) (slI (intAt xs 122) (16 : Int))) (slI (intAt xs 123) (24 : Int))) (slI (intAt xs 124) (32 : Int))) ||| BitVec.ofInt 64 (slI (intAt xs 125) (40 : Int)))) :
 Int) = adI (adI (adI (adI (adI (adI (0 : Int) (slI (intAt xs 120) (0 : Int))) (slI (intAt xs 121) (8 : Int))) (slI (intAt xs 122) (16 : Int))) (slI (intAt xs 123) (24 : Int))) (slI (intAt xs 124) (32 : Int))) (slI (intAt
 xs 125) (40 : Int)), xs[126]? = some (Value.int IntKind.u8 (intAt xs 126)), rg IntKind.u64 (intAt xs 126), (0 : Int) ≤ (48 : Int) ∧ (48 : Int) ≤ (64 : Int) ∧ rg IntKind.u64 (slI (intAt xs 126) (48 : Int)), IntKind.wrap
 IntKind.u64 (↑(BitVec.toNat (BitVec.ofInt 64 (adI (adI (adI (adI (adI (adI (0 : Int) (slI (intAt xs 120) (0 : Int))) (slI (intAt xs 121) (8 : Int))) (slI (intAt xs 122) (16 : Int))) (slI (intAt xs 123) (24 : Int))) (slI
 (intAt xs 124) (32 : Int))) (slI (intAt xs 125) (40 : Int))) ||| BitVec.ofInt 64 (slI (intAt xs 126) (48 : Int)))) : Int) = adI (adI (adI (adI (adI (adI (adI (0 : Int) (slI (intAt xs 120) (0 : Int))) (slI (intAt xs 121)
 (8 : Int))) (slI (intAt xs 122) (16 : Int))) (slI (intAt xs 123) (24 : Int))) (slI (intAt xs 124) (32 : Int))) (slI (intAt xs 125) (40 : Int))) (slI (intAt xs 126) (48 : Int)), xs[127]? = some (Value.int IntKind.u8 (intAt
 xs 127)), rg IntKind.u64 (intAt xs 127), (0 : Int) ≤ (56 : Int) ∧ (56 : Int) ≤ (64 : Int) ∧ rg IntKind.u64 (slI (intAt xs 127) (56 : Int)), IntKind.wrap IntKind.u64 (↑(BitVec.toNat (BitVec.ofInt 64 (adI (adI (adI (adI
 (adI (adI (adI (0 : Int) (slI (intAt xs 120) (0 : Int))) (slI (intAt xs 121) (8 : Int))) (slI (intAt xs 122) (16 : Int))) (slI (intAt xs 123) (24 : Int))) (slI (intAt xs 124) (32 : Int))) (slI (intAt xs 125) (40 : Int)))
 (slI (intAt xs 126) (48 : Int))) ||| BitVec.ofInt 64 (slI (intAt xs 127) (56 : Int)))) : Int) = adI (adI (adI (adI (adI (adI (adI (adI (0 : Int) (slI (intAt xs 120) (0 : Int))) (slI (intAt xs 121) (8 : Int))) (slI (intAt
 xs 122) (16 : Int))) (slI (intAt xs 123) (24 : Int))) (slI (intAt xs 124) (32 : Int))) (slI (intAt xs 125) (40 : Int))) (slI (intAt xs 126) (48 : Int))) (slI (intAt xs 127) (56 : Int)), k + 129 - 16 - 16 - 16 - 16 - 16 -
 16 - 8 - 4 - 4 - 4 - 2 - 2 < 18446744073709551616, (0 : Int) ≤ (8 : Int) ∧ (8 : Int) ≤ (8 : Int)]) (k + 129 < 18446744073709551616) (k + 129 - 16 < 18446744073709551616) (k + 129 - 16 - 16 < 18446744073709551616) (k + 129
 - 16 - 16 - 16 < 18446744073709551616) (k + 129 - 16 - 16 - 16 - 16 < 18446744073709551616) (k + 129 - 16 - 16 - 16 - 16 - 16 < 18446744073709551616)))
theorem ac_m (xs : List Value) (k : Nat) : runZ rrU Try.prog 9 37 [.slice (some ⟨0, 0, none⟩) 128 (k + 129)] [(0, ⟨.old, xs⟩)] 1 [] = ac_m_R xs k := by kernel_rfl
theorem tr_e (xs : List Value) : runZ rrV Try.prog 9 40 [.slice (some ⟨0, 0, none⟩) 128 128] [(0, ⟨.old, xs⟩)] 1 [] = ac_e_R xs := by kernel_rfl
theorem tr_m (xs : List Value) (k : Nat) : runZ rrU Try.prog 9 40 [.slice (some ⟨0, 0, none⟩) 128 (k + 129)] [(0, ⟨.old, xs⟩)] 1 [] = ac_m_R xs k := by kernel_rfl
/-! ### what bytes say -/
def r4 (xs : List Value) : Int := intAt xs 0 + 256 * (intAt xs 1 + 256 * (intAt xs 2 + 256 * intAt xs 3))
def r2 (xs : List Value) : Int := intAt xs 0 + 256 * intAt xs 1
def rcA (xs : List Value) : Value := .agg ⟨[.int .u64 (r8 (xs.drop 8)), .int .u64 (r8 (xs.drop 0)), .int .u64 (r8 (xs.drop 24)), .int .u64 (r8 (xs.drop 16)), .int .u64 (r8 (xs.drop 40)), .int .u64 (r8 (xs.drop 32)), .int .u64 (r8 (xs.drop 56)), .int .u64 (r8 (xs.drop 48)), .int .u64 (r8 (xs.drop 72)), .int .u64 (r8 (xs.drop 64)), .int .u64 (r8 (xs.drop 88)), .int .u64 (r8 (xs.drop 80)), .int .u64 (r8 (xs.drop 96)), .int .u32 (r4 (xs.drop 104)), .int .u32 (r4 (xs.drop 108)), .int .u32 (r4 (xs.drop 112)), .int .u16 (r2 (xs.drop 116)), .int .u16 (r2 (xs.drop 118)), .int .u64 (r8 (xs.drop 120))]⟩
def rdV (xs : List Value) : Value := .tuple ⟨[rcA xs, .int .i64 0]⟩
def rdBad : Value := .tuple ⟨[.agg ⟨[.int .u64 0, .int .u64 0, .int .u64 0, .int .u64 0, .int .u64 0, .int .u64 0, .int .u64 0, .int .u64 0, .int .u64 0, .int .u64 0, .int .u64 0, .int .u64 0, .int .u64 0, .int .u32 0, .int .u32 0, .int .u32 0, .int .u16 0, .int .u16 0, .int .u64 0]⟩, .int .i64 4]⟩
def sRr : Spec1 := fun xs n tp => match tp with
  | true :: tp => some (⟨fun _ => rdBad, []⟩, tp, [n ≠ 128])
  | false :: tp => some (⟨fun _ => rdV xs, []⟩, tp, [Byts xs, n = 128])
  | [] => none
theorem at_drop (xs : List Value) (o i : Nat) : intAt (xs.drop o) i = intAt xs (o + i) := by unfold intAt; rw [List.getElem?_drop]
theorem at_take {xs : List Value} {n i : Nat} (h : i < n) : intAt (xs.take n) i = intAt xs i := by unfold intAt; rw [List.getElem?_take_of_lt h]
theorem r8_take (xs : List Value) : r8 (xs.take 16) = r8 xs := by
  unfold r8
  rw [at_take (by omega), at_take (by omega), at_take (by omega), at_take (by omega), at_take (by omega), at_take (by omega), at_take (by omega), at_take (by omega)]
theorem r8_take8 (xs : List Value) : r8 ((xs.take 16).drop 8) = r8 (xs.drop 8) := by
  unfold r8
  simp only [at_drop]
  rw [at_take (by omega), at_take (by omega), at_take (by omega), at_take (by omega), at_take (by omega), at_take (by omega), at_take (by omega), at_take (by omega)]
theorem v4i (a b c d : Int) : adI (adI (adI (adI 0 (slI a 0)) (slI b 8)) (slI c 16)) (slI d 24) = a + 256 * (b + 256 * (c + 256 * d)) := by simp only [adI_eq, s0, s8, s16, s24]; omega
theorem v2i (a b : Int) : adI (adI 0 (slI a 0)) (slI b 8) = a + 256 * b := by simp only [adI_eq, s0, s8]; omega
theorem v4r (a b c d : Int) : adI (slI (adI (slI (adI (slI (adI 0 d) 8) c) 8) b) 8) a = a + 256 * (b + 256 * (c + 256 * d)) := by simp only [adI_eq, s8]; omega
theorem v2r (a b : Int) : adI (slI (adI 0 b) 8) a = a + 256 * b := by simp only [adI_eq, s8]; omega
theorem lw32 {x : Int} (h : 0 ≤ x ∧ x < 4294967296) : lowI .u32 x = x := by unfold lowI; rw [mdI_eq]; show x % 4294967296 = x; omega
theorem lw16 {x : Int} (h : 0 ≤ x ∧ x < 65536) : lowI .u16 x = x := by unfold lowI; rw [mdI_eq]; show x % 65536 = x; omega
set_option maxHeartbeats 4000000 in
theorem ac_run {xs : List Value} {c : Nat} (hb : Byts xs) (hl : xs.length = 128) (hc : 128 ≤ c ∧ c ≤ 9223372036854775807) : Ran Try.prog 37 [.slice (some ⟨0, 0, none⟩) 128 c] [(0, ⟨.old, xs⟩)] 1 ⟨fun _ => rcA xs, []⟩ := by
  have hX : XOkZ rrV Try.prog := noXz_ok rfl
  have hT : TOkZ rrV Try.prog := T_okV rfl u8T_one
  have hL : LOkZ rrV Try.prog := noL_okV rfl
  have hX2 : XOkZ rrU Try.prog := noXz_ok rfl
  have hT2 : TOkZ rrU Try.prog := T_okV rfl u8T_one
  have hL2 : LOkZ rrU Try.prog := noL_okV rfl
  have z0 : (0 : Int) ≤ 0 ∧ (0 : Int) < 256 := by omega
  obtain ⟨g96, l96, u96⟩ := hb.get (i := 96) (by omega)
  obtain ⟨g97, l97, u97⟩ := hb.get (i := 97) (by omega)
  obtain ⟨g98, l98, u98⟩ := hb.get (i := 98) (by omega)
  obtain ⟨g99, l99, u99⟩ := hb.get (i := 99) (by omega)
  obtain ⟨g100, l100, u100⟩ := hb.get (i := 100) (by omega)
  obtain ⟨g101, l101, u101⟩ := hb.get (i := 101) (by omega)
  obtain ⟨g102, l102, u102⟩ := hb.get (i := 102) (by omega)
  obtain ⟨g103, l103, u103⟩ := hb.get (i := 103) (by omega)
  obtain ⟨g104, l104, u104⟩ := hb.get (i := 104) (by omega)
  obtain ⟨g105, l105, u105⟩ := hb.get (i := 105) (by omega)
  obtain ⟨g106, l106, u106⟩ := hb.get (i := 106) (by omega)
  obtain ⟨g107, l107, u107⟩ := hb.get (i := 107) (by omega)
  obtain ⟨g108, l108, u108⟩ := hb.get (i := 108) (by omega)
  obtain ⟨g109, l109, u109⟩ := hb.get (i := 109) (by omega)
  obtain ⟨g110, l110, u110⟩ := hb.get (i := 110) (by omega)
  obtain ⟨g111, l111, u111⟩ := hb.get (i := 111) (by omega)
  obtain ⟨g112, l112, u112⟩ := hb.get (i := 112) (by omega)
  obtain ⟨g113, l113, u113⟩ := hb.get (i := 113) (by omega)
  obtain ⟨g114, l114, u114⟩ := hb.get (i := 114) (by omega)
  obtain ⟨g115, l115, u115⟩ := hb.get (i := 115) (by omega)
  obtain ⟨g116, l116, u116⟩ := hb.get (i := 116) (by omega)
  obtain ⟨g117, l117, u117⟩ := hb.get (i := 117) (by omega)
  obtain ⟨g118, l118, u118⟩ := hb.get (i := 118) (by omega)
  obtain ⟨g119, l119, u119⟩ := hb.get (i := 119) (by omega)
  obtain ⟨g120, l120, u120⟩ := hb.get (i := 120) (by omega)
  obtain ⟨g121, l121, u121⟩ := hb.get (i := 121) (by omega)
  obtain ⟨g122, l122, u122⟩ := hb.get (i := 122) (by omega)
  obtain ⟨g123, l123, u123⟩ := hb.get (i := 123) (by omega)
  obtain ⟨g124, l124, u124⟩ := hb.get (i := 124) (by omega)
  obtain ⟨g125, l125, u125⟩ := hb.get (i := 125) (by omega)
  obtain ⟨g126, l126, u126⟩ := hb.get (i := 126) (by omega)
  obtain ⟨g127, l127, u127⟩ := hb.get (i := 127) (by omega)
  obtain ⟨⟨p0_0, p0_1, p0_2, p0_3, p0_4, p0_5, p0_6, p0_7⟩, vl0⟩ := or_chain ⟨l96, u96⟩ ⟨l97, u97⟩ ⟨l98, u98⟩ ⟨l99, u99⟩ ⟨l100, u100⟩ ⟨l101, u101⟩ ⟨l102, u102⟩ ⟨l103, u103⟩
  have er0 : r8 (xs.drop 96) = intAt xs 96 + 256 * (intAt xs 97 + 256 * (intAt xs 98 + 256 * (intAt xs 99 + 256 * (intAt xs 100 + 256 * (intAt xs 101 + 256 * (intAt xs 102 + 256 * (intAt xs 103))))))) := by
    unfold r8
    rw [at_drop, at_drop, at_drop, at_drop, at_drop, at_drop, at_drop, at_drop]
  have w0 : (adI (adI (adI (adI (adI (adI (adI (adI 0 (slI (intAt xs 96) 0)) (slI (intAt xs 97) 8)) (slI (intAt xs 98) 16)) (slI (intAt xs 99) 24)) (slI (intAt xs 100) 32)) (slI (intAt xs 101) 40)) (slI (intAt xs 102) 48)) (slI (intAt xs 103) 56)) = r8 (xs.drop 96) := vl0.trans er0.symm
  obtain ⟨⟨p1_0, p1_1, p1_2, p1_3, p1_4, p1_5, p1_6, p1_7⟩, vl1⟩ := or_chain ⟨l104, u104⟩ ⟨l105, u105⟩ ⟨l106, u106⟩ ⟨l107, u107⟩ z0 z0 z0 z0
  have er1 : r4 (xs.drop 104) = intAt xs 104 + 256 * (intAt xs 105 + 256 * (intAt xs 106 + 256 * (intAt xs 107))) := by
    unfold r4
    rw [at_drop, at_drop, at_drop, at_drop]
  have w1 : lowI .u32 (adI (adI (adI (adI 0 (slI (intAt xs 104) 0)) (slI (intAt xs 105) 8)) (slI (intAt xs 106) 16)) (slI (intAt xs 107) 24)) = r4 (xs.drop 104) := by rw [v4i, lw32 ⟨by omega, by omega⟩, er1]
  obtain ⟨⟨p2_0, p2_1, p2_2, p2_3, p2_4, p2_5, p2_6, p2_7⟩, vl2⟩ := or_chain ⟨l108, u108⟩ ⟨l109, u109⟩ ⟨l110, u110⟩ ⟨l111, u111⟩ z0 z0 z0 z0
  have er2 : r4 (xs.drop 108) = intAt xs 108 + 256 * (intAt xs 109 + 256 * (intAt xs 110 + 256 * (intAt xs 111))) := by
    unfold r4
    rw [at_drop, at_drop, at_drop, at_drop]
  have w2 : lowI .u32 (adI (adI (adI (adI 0 (slI (intAt xs 108) 0)) (slI (intAt xs 109) 8)) (slI (intAt xs 110) 16)) (slI (intAt xs 111) 24)) = r4 (xs.drop 108) := by rw [v4i, lw32 ⟨by omega, by omega⟩, er2]
  obtain ⟨⟨p3_0, p3_1, p3_2, p3_3, p3_4, p3_5, p3_6, p3_7⟩, vl3⟩ := or_chain ⟨l112, u112⟩ ⟨l113, u113⟩ ⟨l114, u114⟩ ⟨l115, u115⟩ z0 z0 z0 z0
  have er3 : r4 (xs.drop 112) = intAt xs 112 + 256 * (intAt xs 113 + 256 * (intAt xs 114 + 256 * (intAt xs 115))) := by
    unfold r4
    rw [at_drop, at_drop, at_drop, at_drop]
  have w3 : lowI .u32 (adI (adI (adI (adI 0 (slI (intAt xs 112) 0)) (slI (intAt xs 113) 8)) (slI (intAt xs 114) 16)) (slI (intAt xs 115) 24)) = r4 (xs.drop 112) := by rw [v4i, lw32 ⟨by omega, by omega⟩, er3]
  obtain ⟨⟨p4_0, p4_1, p4_2, p4_3, p4_4, p4_5, p4_6, p4_7⟩, vl4⟩ := or_chain ⟨l116, u116⟩ ⟨l117, u117⟩ z0 z0 z0 z0 z0 z0
  have er4 : r2 (xs.drop 116) = intAt xs 116 + 256 * (intAt xs 117) := by
    unfold r2
    rw [at_drop, at_drop]
  have w4 : lowI .u16 (adI (adI 0 (slI (intAt xs 116) 0)) (slI (intAt xs 117) 8)) = r2 (xs.drop 116) := by rw [v2i, lw16 ⟨by omega, by omega⟩, er4]
  obtain ⟨⟨p5_0, p5_1, p5_2, p5_3, p5_4, p5_5, p5_6, p5_7⟩, vl5⟩ := or_chain ⟨l118, u118⟩ ⟨l119, u119⟩ z0 z0 z0 z0 z0 z0
  have er5 : r2 (xs.drop 118) = intAt xs 118 + 256 * (intAt xs 119) := by
    unfold r2
    rw [at_drop, at_drop]
  have w5 : lowI .u16 (adI (adI 0 (slI (intAt xs 118) 0)) (slI (intAt xs 119) 8)) = r2 (xs.drop 118) := by rw [v2i, lw16 ⟨by omega, by omega⟩, er5]
  obtain ⟨⟨p6_0, p6_1, p6_2, p6_3, p6_4, p6_5, p6_6, p6_7⟩, vl6⟩ := or_chain ⟨l120, u120⟩ ⟨l121, u121⟩ ⟨l122, u122⟩ ⟨l123, u123⟩ ⟨l124, u124⟩ ⟨l125, u125⟩ ⟨l126, u126⟩ ⟨l127, u127⟩
  have er6 : r8 (xs.drop 120) = intAt xs 120 + 256 * (intAt xs 121 + 256 * (intAt xs 122 + 256 * (intAt xs 123 + 256 * (intAt xs 124 + 256 * (intAt xs 125 + 256 * (intAt xs 126 + 256 * (intAt xs 127))))))) := by
    unfold r8
    rw [at_drop, at_drop, at_drop, at_drop, at_drop, at_drop, at_drop, at_drop]
  have w6 : (adI (adI (adI (adI (adI (adI (adI (adI 0 (slI (intAt xs 120) 0)) (slI (intAt xs 121) 8)) (slI (intAt xs 122) 16)) (slI (intAt xs 123) 24)) (slI (intAt xs 124) 32)) (slI (intAt xs 125) 40)) (slI (intAt xs 126) 48)) (slI (intAt xs 127) 56)) = r8 (xs.drop 120) := vl6.trans er6.symm
  have c0 : ∀ o, Byts ((xs.drop o).take 16) := fun o => (hb.drop o).take 16
  have c1 : ∀ o, Fl ((xs.drop o).take 16) := fun o => fl_byts (c0 o)
  have c2 : Byts (xs.take 16) := hb.take 16
  have c3 : Fl (xs.take 16) := fl_byts c2
  have hv : GrIs ⟨fun _ => rcA xs, []⟩ (rcA xs) [(0, ⟨.old, xs⟩)] (fun n => n) := GrIs.flat fun σ => rfl
  by_cases hk : c = 128
  · subst hk
    refine ⟨_, _, _, _, fun n => n, run_tri hX hT hL (ac_e xs) ?_ rfl, ?_⟩
    · repeat' (first | exact alls_nil | refine alls_cons ?_ ?_)
      all_goals first
        | with_reducible assumption
        | exact c0 _
        | exact c1 _
        | omega
        | (refine ⟨by omega, by omega, ?_⟩; with_reducible assumption)
        | (refine ⟨by omega, by omega, ?_⟩; simp only [rg, s0, s8, s16, s24, s32, s40, s48, s56]; omega)
        | (simp only [rg]; omega)
    · simp only [r8_take, r8_take8, List.drop_drop, w0, w1, w2, w3, w4, w5, w6]
      exact GrIs.flat fun σ => rfl
  · obtain ⟨k, rfl⟩ : ∃ k, c = k + 129 := ⟨c - 129, by omega⟩
    refine ⟨_, _, _, _, fun n => n, run_tri hX2 hT2 hL2 (ac_m xs k) ?_ rfl, ?_⟩
    · repeat' (first | exact alls_nil | refine alls_cons ?_ ?_)
      all_goals first
        | with_reducible assumption
        | exact c0 _
        | exact c1 _
        | omega
        | (refine ⟨by omega, by omega, ?_⟩; with_reducible assumption)
        | (refine ⟨by omega, by omega, ?_⟩; simp only [rg, s0, s8, s16, s24, s32, s40, s48, s56]; omega)
        | (simp only [rg]; omega)
    · simp only [r8_take, r8_take8, List.drop_drop, w0, w1, w2, w3, w4, w5, w6]
      exact GrIs.flat fun σ => rfl
set_option maxHeartbeats 4000000 in
theorem tr_run {xs : List Value} {c : Nat} (hb : Byts xs) (hl : xs.length = 128) (hc : 128 ≤ c ∧ c ≤ 9223372036854775807) : Ran Try.prog 40 [.slice (some ⟨0, 0, none⟩) 128 c] [(0, ⟨.old, xs⟩)] 1 ⟨fun _ => rcA xs, []⟩ := by
  have hX : XOkZ rrV Try.prog := noXz_ok rfl
  have hT : TOkZ rrV Try.prog := T_okV rfl u8T_one
  have hL : LOkZ rrV Try.prog := noL_okV rfl
  have hX2 : XOkZ rrU Try.prog := noXz_ok rfl
  have hT2 : TOkZ rrU Try.prog := T_okV rfl u8T_one
  have hL2 : LOkZ rrU Try.prog := noL_okV rfl
  have z0 : (0 : Int) ≤ 0 ∧ (0 : Int) < 256 := by omega
  obtain ⟨g96, l96, u96⟩ := hb.get (i := 96) (by omega)
  obtain ⟨g97, l97, u97⟩ := hb.get (i := 97) (by omega)
  obtain ⟨g98, l98, u98⟩ := hb.get (i := 98) (by omega)
  obtain ⟨g99, l99, u99⟩ := hb.get (i := 99) (by omega)
  obtain ⟨g100, l100, u100⟩ := hb.get (i := 100) (by omega)
  obtain ⟨g101, l101, u101⟩ := hb.get (i := 101) (by omega)
  obtain ⟨g102, l102, u102⟩ := hb.get (i := 102) (by omega)
  obtain ⟨g103, l103, u103⟩ := hb.get (i := 103) (by omega)
  obtain ⟨g104, l104, u104⟩ := hb.get (i := 104) (by omega)
  obtain ⟨g105, l105, u105⟩ := hb.get (i := 105) (by omega)
  obtain ⟨g106, l106, u106⟩ := hb.get (i := 106) (by omega)
  obtain ⟨g107, l107, u107⟩ := hb.get (i := 107) (by omega)
  obtain ⟨g108, l108, u108⟩ := hb.get (i := 108) (by omega)
  obtain ⟨g109, l109, u109⟩ := hb.get (i := 109) (by omega)
  obtain ⟨g110, l110, u110⟩ := hb.get (i := 110) (by omega)
  obtain ⟨g111, l111, u111⟩ := hb.get (i := 111) (by omega)
  obtain ⟨g112, l112, u112⟩ := hb.get (i := 112) (by omega)
  obtain ⟨g113, l113, u113⟩ := hb.get (i := 113) (by omega)
  obtain ⟨g114, l114, u114⟩ := hb.get (i := 114) (by omega)
  obtain ⟨g115, l115, u115⟩ := hb.get (i := 115) (by omega)
  obtain ⟨g116, l116, u116⟩ := hb.get (i := 116) (by omega)
  obtain ⟨g117, l117, u117⟩ := hb.get (i := 117) (by omega)
  obtain ⟨g118, l118, u118⟩ := hb.get (i := 118) (by omega)
  obtain ⟨g119, l119, u119⟩ := hb.get (i := 119) (by omega)
  obtain ⟨g120, l120, u120⟩ := hb.get (i := 120) (by omega)
  obtain ⟨g121, l121, u121⟩ := hb.get (i := 121) (by omega)
  obtain ⟨g122, l122, u122⟩ := hb.get (i := 122) (by omega)
  obtain ⟨g123, l123, u123⟩ := hb.get (i := 123) (by omega)
  obtain ⟨g124, l124, u124⟩ := hb.get (i := 124) (by omega)
  obtain ⟨g125, l125, u125⟩ := hb.get (i := 125) (by omega)
  obtain ⟨g126, l126, u126⟩ := hb.get (i := 126) (by omega)
  obtain ⟨g127, l127, u127⟩ := hb.get (i := 127) (by omega)
  obtain ⟨⟨p0_0, p0_1, p0_2, p0_3, p0_4, p0_5, p0_6, p0_7⟩, vl0⟩ := or_chain ⟨l96, u96⟩ ⟨l97, u97⟩ ⟨l98, u98⟩ ⟨l99, u99⟩ ⟨l100, u100⟩ ⟨l101, u101⟩ ⟨l102, u102⟩ ⟨l103, u103⟩
  have er0 : r8 (xs.drop 96) = intAt xs 96 + 256 * (intAt xs 97 + 256 * (intAt xs 98 + 256 * (intAt xs 99 + 256 * (intAt xs 100 + 256 * (intAt xs 101 + 256 * (intAt xs 102 + 256 * (intAt xs 103))))))) := by
    unfold r8
    rw [at_drop, at_drop, at_drop, at_drop, at_drop, at_drop, at_drop, at_drop]
  have w0 : (adI (adI (adI (adI (adI (adI (adI (adI 0 (slI (intAt xs 96) 0)) (slI (intAt xs 97) 8)) (slI (intAt xs 98) 16)) (slI (intAt xs 99) 24)) (slI (intAt xs 100) 32)) (slI (intAt xs 101) 40)) (slI (intAt xs 102) 48)) (slI (intAt xs 103) 56)) = r8 (xs.drop 96) := vl0.trans er0.symm
  obtain ⟨⟨p1_0, p1_1, p1_2, p1_3, p1_4, p1_5, p1_6, p1_7⟩, vl1⟩ := or_chain ⟨l104, u104⟩ ⟨l105, u105⟩ ⟨l106, u106⟩ ⟨l107, u107⟩ z0 z0 z0 z0
  have er1 : r4 (xs.drop 104) = intAt xs 104 + 256 * (intAt xs 105 + 256 * (intAt xs 106 + 256 * (intAt xs 107))) := by
    unfold r4
    rw [at_drop, at_drop, at_drop, at_drop]
  have w1 : lowI .u32 (adI (adI (adI (adI 0 (slI (intAt xs 104) 0)) (slI (intAt xs 105) 8)) (slI (intAt xs 106) 16)) (slI (intAt xs 107) 24)) = r4 (xs.drop 104) := by rw [v4i, lw32 ⟨by omega, by omega⟩, er1]
  obtain ⟨⟨p2_0, p2_1, p2_2, p2_3, p2_4, p2_5, p2_6, p2_7⟩, vl2⟩ := or_chain ⟨l108, u108⟩ ⟨l109, u109⟩ ⟨l110, u110⟩ ⟨l111, u111⟩ z0 z0 z0 z0
  have er2 : r4 (xs.drop 108) = intAt xs 108 + 256 * (intAt xs 109 + 256 * (intAt xs 110 + 256 * (intAt xs 111))) := by
    unfold r4
    rw [at_drop, at_drop, at_drop, at_drop]
  have w2 : lowI .u32 (adI (adI (adI (adI 0 (slI (intAt xs 108) 0)) (slI (intAt xs 109) 8)) (slI (intAt xs 110) 16)) (slI (intAt xs 111) 24)) = r4 (xs.drop 108) := by rw [v4i, lw32 ⟨by omega, by omega⟩, er2]
  obtain ⟨⟨p3_0, p3_1, p3_2, p3_3, p3_4, p3_5, p3_6, p3_7⟩, vl3⟩ := or_chain ⟨l112, u112⟩ ⟨l113, u113⟩ ⟨l114, u114⟩ ⟨l115, u115⟩ z0 z0 z0 z0
  have er3 : r4 (xs.drop 112) = intAt xs 112 + 256 * (intAt xs 113 + 256 * (intAt xs 114 + 256 * (intAt xs 115))) := by
    unfold r4
    rw [at_drop, at_drop, at_drop, at_drop]
  have w3 : lowI .u32 (adI (adI (adI (adI 0 (slI (intAt xs 112) 0)) (slI (intAt xs 113) 8)) (slI (intAt xs 114) 16)) (slI (intAt xs 115) 24)) = r4 (xs.drop 112) := by rw [v4i, lw32 ⟨by omega, by omega⟩, er3]
  obtain ⟨⟨p4_0, p4_1, p4_2, p4_3, p4_4, p4_5, p4_6, p4_7⟩, vl4⟩ := or_chain ⟨l116, u116⟩ ⟨l117, u117⟩ z0 z0 z0 z0 z0 z0
  have er4 : r2 (xs.drop 116) = intAt xs 116 + 256 * (intAt xs 117) := by
    unfold r2
    rw [at_drop, at_drop]
  have w4 : lowI .u16 (adI (adI 0 (slI (intAt xs 116) 0)) (slI (intAt xs 117) 8)) = r2 (xs.drop 116) := by rw [v2i, lw16 ⟨by omega, by omega⟩, er4]
  obtain ⟨⟨p5_0, p5_1, p5_2, p5_3, p5_4, p5_5, p5_6, p5_7⟩, vl5⟩ := or_chain ⟨l118, u118⟩ ⟨l119, u119⟩ z0 z0 z0 z0 z0 z0
  have er5 : r2 (xs.drop 118) = intAt xs 118 + 256 * (intAt xs 119) := by
    unfold r2
    rw [at_drop, at_drop]
  have w5 : lowI .u16 (adI (adI 0 (slI (intAt xs 118) 0)) (slI (intAt xs 119) 8)) = r2 (xs.drop 118) := by rw [v2i, lw16 ⟨by omega, by omega⟩, er5]
  obtain ⟨⟨p6_0, p6_1, p6_2, p6_3, p6_4, p6_5, p6_6, p6_7⟩, vl6⟩ := or_chain ⟨l120, u120⟩ ⟨l121, u121⟩ ⟨l122, u122⟩ ⟨l123, u123⟩ ⟨l124, u124⟩ ⟨l125, u125⟩ ⟨l126, u126⟩ ⟨l127, u127⟩
  have er6 : r8 (xs.drop 120) = intAt xs 120 + 256 * (intAt xs 121 + 256 * (intAt xs 122 + 256 * (intAt xs 123 + 256 * (intAt xs 124 + 256 * (intAt xs 125 + 256 * (intAt xs 126 + 256 * (intAt xs 127))))))) := by
    unfold r8
    rw [at_drop, at_drop, at_drop, at_drop, at_drop, at_drop, at_drop, at_drop]
  have w6 : (adI (adI (adI (adI (adI (adI (adI (adI 0 (slI (intAt xs 120) 0)) (slI (intAt xs 121) 8)) (slI (intAt xs 122) 16)) (slI (intAt xs 123) 24)) (slI (intAt xs 124) 32)) (slI (intAt xs 125) 40)) (slI (intAt xs 126) 48)) (slI (intAt xs 127) 56)) = r8 (xs.drop 120) := vl6.trans er6.symm
  have c0 : ∀ o, Byts ((xs.drop o).take 16) := fun o => (hb.drop o).take 16
  have c1 : ∀ o, Fl ((xs.drop o).take 16) := fun o => fl_byts (c0 o)
  have c2 : Byts (xs.take 16) := hb.take 16
  have c3 : Fl (xs.take 16) := fl_byts c2
  have hv : GrIs ⟨fun _ => rcA xs, []⟩ (rcA xs) [(0, ⟨.old, xs⟩)] (fun n => n) := GrIs.flat fun σ => rfl
  by_cases hk : c = 128
  · subst hk
    refine ⟨_, _, _, _, fun n => n, run_tri hX hT hL (tr_e xs) ?_ rfl, ?_⟩
    · repeat' (first | exact alls_nil | refine alls_cons ?_ ?_)
      all_goals first
        | with_reducible assumption
        | exact c0 _
        | exact c1 _
        | omega
        | (refine ⟨by omega, by omega, ?_⟩; with_reducible assumption)
        | (refine ⟨by omega, by omega, ?_⟩; simp only [rg, s0, s8, s16, s24, s32, s40, s48, s56]; omega)
        | (simp only [rg]; omega)
    · simp only [r8_take, r8_take8, List.drop_drop, w0, w1, w2, w3, w4, w5, w6]
      exact GrIs.flat fun σ => rfl
  · obtain ⟨k, rfl⟩ : ∃ k, c = k + 129 := ⟨c - 129, by omega⟩
    refine ⟨_, _, _, _, fun n => n, run_tri hX2 hT2 hL2 (tr_m xs k) ?_ rfl, ?_⟩
    · repeat' (first | exact alls_nil | refine alls_cons ?_ ?_)
      all_goals first
        | with_reducible assumption
        | exact c0 _
        | exact c1 _
        | omega
        | (refine ⟨by omega, by omega, ?_⟩; with_reducible assumption)
        | (refine ⟨by omega, by omega, ?_⟩; simp only [rg, s0, s8, s16, s24, s32, s40, s48, s56]; omega)
        | (simp only [rg]; omega)
    · simp only [r8_take, r8_take8, List.drop_drop, w0, w1, w2, w3, w4, w5, w6]
      exact GrIs.flat fun σ => rfl
def sAc : Spec1 := fun xs n tp => some (⟨fun _ => rcA xs, []⟩, tp, [Byts xs, n = 128])
theorem ac_gok : GOk Try.prog 37 [.s 1] (gS sAc) := by
  refine gS_ok (fun tp gr tp' ob hG ho => ?_) (fun xs n c tp gr tp' ob hG ho hfl hl0 hc => ?_)
  · unfold sAc at hG
    simp only [Option.some.injEq, Prod.mk.injEq] at hG
    obtain ⟨rfl, rfl, rfl⟩ := hG
    exact absurd ho.2.1 (by decide)
  · unfold sAc at hG
    simp only [Option.some.injEq, Prod.mk.injEq] at hG
    obtain ⟨rfl, rfl, rfl⟩ := hG
    obtain ⟨hb, rfl, _⟩ := ho
    exact ac_run hb (by omega) hc
theorem tr_gok : GOk Try.prog 40 [.s 1] (gS sAc) := by
  refine gS_ok (fun tp gr tp' ob hG ho => ?_) (fun xs n c tp gr tp' ob hG ho hfl hl0 hc => ?_)
  · unfold sAc at hG
    simp only [Option.some.injEq, Prod.mk.injEq] at hG
    obtain ⟨rfl, rfl, rfl⟩ := hG
    exact absurd ho.2.1 (by decide)
  · unfold sAc at hG
    simp only [Option.some.injEq, Prod.mk.injEq] at hG
    obtain ⟨rfl, rfl, rfl⟩ := hG
    obtain ⟨hb, rfl, _⟩ := ho
    exact tr_run hb (by omega) hc
def acT : TFun := orTz (mkT 37 [.s 1] (gS sAc)) (mkT 40 [.s 1] (gS sAc))
theorem acT_one : TOneZ Try.prog acT := orTz_ok (mkT_one ac_gok) (mkT_one tr_gok)
end Go.Proofs.Ytgpgdkpfeoaidaa
