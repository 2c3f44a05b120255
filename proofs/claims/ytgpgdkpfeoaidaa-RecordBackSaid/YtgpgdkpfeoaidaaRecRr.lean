/-
  Chapter 02: accounts and transfers that bytes say: the document's functions, and the program's ReadAccount and ReadTransfer.
-/
import Derived.Test.YtgpgdkpfeoaidaaRecR
namespace Go.Proofs.Ytgpgdkpfeoaidaa
set_option linter.unusedSimpArgs false
set_option linter.unusedVariables false
set_option linter.unusedSectionVars false
open Go Go.RowKit

def rrB : Tv := ⟨acT, noXz, noL, fun f => bif Nat.beq f 16 then [6] else bif Nat.beq f 18 then [6] else [7], fun _ s => bif memN s [6, 7] then some 0 else none, fun _ => [], fun _ => 0⟩
abbrev ra_r_e_R (xs : List Value) : Res (Out × Tape × List Prop) :=
  Res.ok ((Value.tuple (Array.mk [Value.agg (Array.mk [Value.int IntKind.u64 (r8 (List.drop 8 (List.take 16 xs))), Value.int IntKind.u64 (r8 (List.take 16 xs)), Value.int IntKind.u64 (r8 (List.drop 8 (List.take 16
 (List.drop 16 xs)))), Value.int IntKind.u64 (r8 (List.take 16 (List.drop 16 xs))), Value.int IntKind.u64 (r8 (List.drop 8 (List.take 16 (List.drop 32 xs)))), Value.int IntKind.u64 (r8 (List.take 16 (List.drop 32 xs))),
 Value.int IntKind.u64 (r8 (List.drop 8 (List.take 16 (List.drop 48 xs)))), Value.int IntKind.u64 (r8 (List.take 16 (List.drop 48 xs))), Value.int IntKind.u64 (r8 (List.drop 8 (List.take 16 (List.drop 64 xs)))), Value.int
 IntKind.u64 (r8 (List.take 16 (List.drop 64 xs))), Value.int IntKind.u64 (r8 (List.drop 8 (List.take 16 (List.drop 80 xs)))), Value.int IntKind.u64 (r8 (List.take 16 (List.drop 80 xs))), Value.int IntKind.u64 (adI (slI
 (adI (slI (adI (slI (adI (slI (adI (slI (adI (slI (adI (slI (adI (0 : Int) (intAt xs 103)) (8 : Int)) (intAt xs 102)) (8 : Int)) (intAt xs 101)) (8 : Int)) (intAt xs 100)) (8 : Int)) (intAt xs 99)) (8 : Int)) (intAt xs
 98)) (8 : Int)) (intAt xs 97)) (8 : Int)) (intAt xs 96)), Value.int IntKind.u32 (lowI IntKind.u32 (adI (slI (adI (slI (adI (slI (adI (0 : Int) (intAt xs 107)) (8 : Int)) (intAt xs 106)) (8 : Int)) (intAt xs 105)) (8 :
 Int)) (intAt xs 104))), Value.int IntKind.u32 (lowI IntKind.u32 (adI (slI (adI (slI (adI (slI (adI (0 : Int) (intAt xs 111)) (8 : Int)) (intAt xs 110)) (8 : Int)) (intAt xs 109)) (8 : Int)) (intAt xs 108))), Value.int
 IntKind.u32 (lowI IntKind.u32 (adI (slI (adI (slI (adI (slI (adI (0 : Int) (intAt xs 115)) (8 : Int)) (intAt xs 114)) (8 : Int)) (intAt xs 113)) (8 : Int)) (intAt xs 112))), Value.int IntKind.u16 (lowI IntKind.u16 (adI
 (slI (adI (0 : Int) (intAt xs 117)) (8 : Int)) (intAt xs 116))), Value.int IntKind.u16 (lowI IntKind.u16 (adI (slI (adI (0 : Int) (intAt xs 119)) (8 : Int)) (intAt xs 118))), Value.int IntKind.u64 (adI (slI (adI (slI (adI
 (slI (adI (slI (adI (slI (adI (slI (adI (slI (adI (0 : Int) (intAt xs 127)) (8 : Int)) (intAt xs 126)) (8 : Int)) (intAt xs 125)) (8 : Int)) (intAt xs 124)) (8 : Int)) (intAt xs 123)) (8 : Int)) (intAt xs 122)) (8 : Int))
 (intAt xs 121)) (8 : Int)) (intAt xs 120))]), Value.int IntKind.i64 (0 : Int)]), [(0, Rw.mk Kd.old xs)], 15, []), [], [16 ≤ 128 ∧ 128 ≤ 9223372036854775807, 16 ≤ List.length xs, Fl (List.take 16 xs), Byts (List.take 16
 xs), 16 = 16, 16 ≤ 112 ∧ 112 ≤ 9223372036854775807, 32 ≤ List.length xs, Fl (List.take 16 (List.drop 16 xs)), Byts (List.take 16 (List.drop 16 xs)), 16 = 16, 16 ≤ 96 ∧ 96 ≤ 9223372036854775807, 48 ≤ List.length xs, Fl
 (List.take 16 (List.drop 32 xs)), Byts (List.take 16 (List.drop 32 xs)), 16 = 16, 16 ≤ 80 ∧ 80 ≤ 9223372036854775807, 64 ≤ List.length xs, Fl (List.take 16 (List.drop 48 xs)), Byts (List.take 16 (List.drop 48 xs)), 16 =
 16, 16 ≤ 64 ∧ 64 ≤ 9223372036854775807, 80 ≤ List.length xs, Fl (List.take 16 (List.drop 64 xs)), Byts (List.take 16 (List.drop 64 xs)), 16 = 16, 16 ≤ 48 ∧ 48 ≤ 9223372036854775807, 96 ≤ List.length xs, Fl (List.take 16
 (List.drop 80 xs)), Byts (List.take 16 (List.drop 80 xs)), 16 = 16, (0 : Int) ≤ (8 : Int) ∧ (8 : Int) ≤ (64 : Int) ∧ rg IntKind.u64 (0 : Int), xs[103]? = some (Value.int IntKind.u8 (intAt xs 103)), rg IntKind.u64 (intAt
 xs 103), IntKind.wrap IntKind.u64 (↑(BitVec.toNat (BitVec.ofInt 64 (0 : Int) ||| BitVec.ofInt 64 (intAt xs 103))) : Int) = adI (0 : Int) (intAt xs 103), (0 : Int) ≤ (8 : Int) ∧ (8 : Int) ≤ (64 : Int) ∧ rg IntKind.u64 (slI
 (adI (0 : Int) (intAt xs 103)) (8 : Int)), xs[102]? = some (Value.int IntKind.u8 (intAt xs 102)), rg IntKind.u64 (intAt xs 102), IntKind.wrap IntKind.u64 (↑(BitVec.toNat (BitVec.ofInt 64 (slI (adI (0 : Int) (intAt xs
 103)) (8 : Int)) ||| BitVec.ofInt 64 (intAt xs 102))) : Int) = adI (slI (adI (0 : Int) (intAt xs 103)) (8 : Int)) (intAt xs 102), (0 : Int) ≤ (8 : Int) ∧ (8 : Int) ≤ (64 : Int) ∧ rg IntKind.u64 (slI (adI (slI (adI (0 :
 Int) (intAt xs 103)) (8 : Int)) (intAt xs 102)) (8 : Int)), xs[101]? = some (Value.int IntKind.u8 (intAt xs 101)), rg IntKind.u64 (intAt xs 101), IntKind.wrap IntKind.u64 (↑(BitVec.toNat (BitVec.ofInt 64 (slI (adI (slI
 (adI (0 : Int) (intAt xs 103)) (8 : Int)) (intAt xs 102)) (8 : Int)) ||| BitVec.ofInt 64 (intAt xs 101))) : Int) = adI (slI (adI (slI (adI (0 : Int) (intAt xs 103)) (8 : Int)) (intAt xs 102)) (8 : Int)) (intAt xs 101), (0
 : Int) ≤ (8 : Int) ∧ (8 : Int) ≤ (64 : Int) ∧ rg IntKind.u64 (slI (adI (slI (adI (slI (adI (0 : Int) (intAt xs 103)) (8 : Int)) (intAt xs 102)) (8 : Int)) (intAt xs 101)) (8 : Int)), xs[100]? = some (Value.int IntKind.u8
 (intAt xs 100)), rg IntKind.u64 (intAt xs 100), IntKind.wrap IntKind.u64 (↑(BitVec.toNat (BitVec.ofInt 64 (slI (adI (slI (adI (slI (adI (0 : Int) (intAt xs 103)) (8 : Int)) (intAt xs 102)) (8 : Int)) (intAt xs 101)) (8 :
 Int)) ||| BitVec.ofInt 64 (intAt xs 100))) : Int) = adI (slI (adI (slI (adI (slI (adI (0 : Int) (intAt xs 103)) (8 : Int)) (intAt xs 102)) (8 : Int)) (intAt xs 101)) (8 : Int)) (intAt xs 100), (0 : Int) ≤ (8 : Int) ∧ (8 :
 Int) ≤ (64 : Int) ∧ rg IntKind.u64 (slI (adI (slI (adI (slI (adI (slI (adI (0 : Int) (intAt xs 103)) (8 : Int)) (intAt xs 102)) (8 : Int)) (intAt xs 101)) (8 : Int)) (intAt xs 100)) (8 : Int)), xs[99]? = some (Value.int
 IntKind.u8 (intAt xs 99)), rg IntKind.u64 (intAt xs 99), IntKind.wrap IntKind.u64 (↑(BitVec.toNat (BitVec.ofInt 64 (slI (adI (slI (adI (slI (adI (slI (adI (0 : Int) (intAt xs 103)) (8 : Int)) (intAt xs 102)) (8 : Int))
 (intAt xs 101)) (8 : Int)) (intAt xs 100)) (8 : Int)) ||| BitVec.ofInt 64 (intAt xs 99))) : Int) = adI (slI (adI (slI (adI (slI (adI (slI (adI (0 : Int) (intAt xs 103)) (8 : Int)) (intAt xs 102)) (8 : Int)) (intAt xs
 101)) (8 : Int)) (intAt xs 100)) (8 : Int)) (intAt xs 99), (0 : Int) ≤ (8 : Int) ∧ (8 : Int) ≤ (64 : Int) ∧ rg IntKind.u64 (slI (adI (slI (adI (slI (adI (slI (adI (slI (adI (0 : Int) (intAt xs 103)) (8 : Int)) (intAt xs
 102)) (8 : Int)) (intAt xs 101)) (8 : Int)) (intAt xs 100)) (8 : Int)) (intAt xs 99)) (8 : Int)), xs[98]? = some (Value.int IntKind.u8 (intAt xs 98)), rg IntKind.u64 (intAt xs 98), IntKind.wrap IntKind.u64 (↑(BitVec.toNat
 (BitVec.ofInt 64 (slI (adI (slI (adI (slI (adI (slI (adI (slI (adI (0 : Int) (intAt xs 103)) (8 : Int)) (intAt xs 102)) (8 : Int)) (intAt xs 101)) (8 : Int)) (intAt xs 100)) (8 : Int)) (intAt xs 99)) (8 : Int)) |||
 BitVec.ofInt 64 (intAt xs 98))) : Int) = adI (slI (adI (slI (adI (slI (adI (slI (adI (slI (adI (0 : Int) (intAt xs 103)) (8 : Int)) (intAt xs 102)) (8 : Int)) (intAt xs 101)) (8 : Int)) (intAt xs 100)) (8 : Int)) (intAt
 xs 99)) (8 : Int)) (intAt xs 98), (0 : Int) ≤ (8 : Int) ∧ (8 : Int) ≤ (64 : Int) ∧ rg IntKind.u64 (slI (adI (slI (adI (slI (adI (slI (adI (slI (adI (slI (adI (0 : Int) (intAt xs 103)) (8 : Int)) (intAt xs 102)) (8 : Int))
 (intAt xs 101)) (8 : Int)) (intAt xs 100)) (8 : Int)) (intAt xs 99)) (8 : Int)) (intAt xs 98)) (8 : Int)), xs[97]? = some (Value.int IntKind.u8 (intAt xs 97)), rg IntKind.u64 (intAt xs 97), IntKind.wrap IntKind.u64
 (↑(BitVec.toNat (BitVec.ofInt 64 (slI (adI (slI (adI (slI (adI (slI (adI (slI (adI (slI (adI (0 : Int) (intAt xs 103)) (8 : Int)) (intAt xs 102)) (8 : Int)) (intAt xs 101)) (8 : Int)) (intAt xs 100)) (8 : Int)) (intAt xs
 99)) (8 : Int)) (intAt xs 98)) (8 : Int)) ||| BitVec.ofInt 64 (intAt xs 97))) : Int) = adI (slI (adI (slI (adI (slI (adI (slI (adI (slI (adI (slI (adI (0 : Int) (intAt xs 103)) (8 : Int)) (intAt xs 102)) (8 : Int)) (intAt
 xs 101)) (8 : Int)) (intAt xs 100)) (8 : Int)) (intAt xs 99)) (8 : Int)) (intAt xs 98)) (8 : Int)) (intAt xs 97), (0 : Int) ≤ (8 : Int) ∧ (8 : Int) ≤ (64 : Int) ∧ rg IntKind.u64 (slI (adI (slI (adI (slI (adI (slI (adI
 (slI (adI (slI (adI (slI (adI (0 : Int) (intAt xs 103)) (8 : Int)) (intAt xs 102)) (8 : Int)) (intAt xs 101)) (8 : Int)) (intAt xs 100)) (8 : Int)) (intAt xs 99)) (8 : Int)) (intAt xs 98)) (8 : Int)) (intAt xs 97)) (8 :
 Int)), xs[96]? = some (Value.int IntKind.u8 (intAt xs 96)), rg IntKind.u64 (intAt xs 96), IntKind.wrap IntKind.u64 (↑(BitVec.toNat (BitVec.ofInt 64 (slI (adI (slI (adI (slI (adI (slI (adI (slI (adI (slI (adI (slI (adI (0
 : Int) (intAt xs 103)) (8 : Int)) (intAt xs 102)) (8 : Int)) (intAt xs 101)) (8 : Int)) (intAt xs 100)) (8 : Int)) (intAt xs 99)) (8 : Int)) (intAt xs 98)) (8 : Int)) (intAt xs 97)) (8 : Int)) ||| BitVec.ofInt 64 (intAt
 xs 96))) : Int) = adI (slI (adI (slI (adI (slI (adI (slI (adI (slI (adI (slI (adI (slI (adI (0 : Int) (intAt xs 103)) (8 : Int)) (intAt xs 102)) (8 : Int)) (intAt xs 101)) (8 : Int)) (intAt xs 100)) (8 : Int)) (intAt xs
 99)) (8 : Int)) (intAt xs 98)) (8 : Int)) (intAt xs 97)) (8 : Int)) (intAt xs 96), (0 : Int) ≤ (8 : Int) ∧ (8 : Int) ≤ (64 : Int) ∧ rg IntKind.u64 (0 : Int), xs[107]? = some (Value.int IntKind.u8 (intAt xs 107)), rg
 IntKind.u64 (intAt xs 107), IntKind.wrap IntKind.u64 (↑(BitVec.toNat (BitVec.ofInt 64 (0 : Int) ||| BitVec.ofInt 64 (intAt xs 107))) : Int) = adI (0 : Int) (intAt xs 107), (0 : Int) ≤ (8 : Int) ∧ (8 : Int) ≤ (64 : Int) ∧
 rg IntKind.u64 (slI (adI (0 : Int) (intAt xs 107)) (8 : Int)), xs[106]? = some (Value.int IntKind.u8 (intAt xs 106)), rg IntKind.u64 (intAt xs 106), IntKind.wrap IntKind.u64 (↑(BitVec.toNat (BitVec.ofInt 64 (slI (adI (0 :
 Int) (intAt xs 107)) (8 : Int)) ||| BitVec.ofInt 64 (intAt xs 106))) : Int) = adI (slI (adI (0 : Int) (intAt xs 107)) (8 : Int)) (intAt xs 106), (0 : Int) ≤ (8 : Int) ∧ (8 : Int) ≤ (64 : Int) ∧ rg IntKind.u64 (slI (adI
 (slI (adI (0 : Int) (intAt xs 107)) (8 : Int)) (intAt xs 106)) (8 : Int)), xs[105]? = some (Value.int IntKind.u8 (intAt xs 105)), rg IntKind.u64 (intAt xs 105), IntKind.wrap IntKind.u64 (↑(BitVec.toNat (BitVec.ofInt 64
 (slI (adI (slI (adI (0 : Int) (intAt xs 107)) (8 : Int)) (intAt xs 106)) (8 : Int)) ||| BitVec.ofInt 64 (intAt xs 105))) : Int) = adI (slI (adI (slI (adI (0 : Int) (intAt xs 107)) (8 : Int)) (intAt xs 106)) (8 : Int))
 (intAt xs 105), (0 : Int) ≤ (8 : Int) ∧ (8 : Int) ≤ (64 : Int) ∧ rg IntKind.u64 (slI (adI (slI (adI (slI (adI (0 : Int) (intAt xs 107)) (8 : Int)) (intAt xs 106)) (8 : Int)) (intAt xs 105)) (8 : Int)), xs[104]? = some
 (Value.int IntKind.u8 (intAt xs 104)), rg IntKind.u64 (intAt xs 104), IntKind.wrap IntKind.u64 (↑(BitVec.toNat (BitVec.ofInt 64 (slI (adI (slI (adI (slI (adI (0 : Int) (intAt xs 107)) (8 : Int)) (intAt xs 106)) (8 : Int))
 (intAt xs 105)) (8 : Int)) ||| BitVec.ofInt 64 (intAt xs 104))) : Int) = adI (slI (adI (slI (adI (slI (adI (0 : Int) (intAt xs 107)) (8 : Int)) (intAt xs 106)) (8 : Int)) (intAt xs 105)) (8 : Int)) (intAt xs 104), (0 :
 Int) ≤ (8 : Int) ∧ (8 : Int) ≤ (64 : Int) ∧ rg IntKind.u64 (0 : Int), xs[111]? = some (Value.int IntKind.u8 (intAt xs 111)), rg IntKind.u64 (intAt xs 111), IntKind.wrap IntKind.u64 (↑(BitVec.toNat (BitVec.ofInt 64 (0 :
 Int) ||| BitVec.ofInt 64 (intAt xs 111))) : Int) = adI (0 : Int) (intAt xs 111), (0 : Int) ≤ (8 : Int) ∧ (8 : Int) ≤ (64 : Int) ∧ rg IntKind.u64 (slI (adI (0 : Int) (intAt xs 111)) (8 : Int)), xs[110]? = some (Value.int
 IntKind.u8 (intAt xs 110)), rg IntKind.u64 (intAt xs 110), IntKind.wrap IntKind.u64 (↑(BitVec.toNat (BitVec.ofInt 64 (slI (adI (0 : Int) (intAt xs 111)) (8 : Int)) ||| BitVec.ofInt 64 (intAt xs 110))) : Int) = adI (slI
 (adI (0 : Int) (intAt xs 111)) (8 : Int)) (intAt xs 110), (0 : Int) ≤ (8 : Int) ∧ (8 : Int) ≤ (64 : Int) ∧ rg IntKind.u64 (slI (adI (slI (adI (0 : Int) (intAt xs 111)) (8 : Int)) (intAt xs 110)) (8 : Int)), xs[109]? =
 some (Value.int IntKind.u8 (intAt xs 109)), rg IntKind.u64 (intAt xs 109), IntKind.wrap IntKind.u64 (↑(BitVec.toNat (BitVec.ofInt 64 (slI (adI (slI (adI (0 : Int) (intAt xs 111)) (8 : Int)) (intAt xs 110)) (8 : Int)) |||
 BitVec.ofInt 64 (intAt xs 109))) : Int) = adI (slI (adI (slI (adI (0 : Int) (intAt xs 111)) (8 : Int)) (intAt xs 110)) (8 : Int)) (intAt xs 109), (0 : Int) ≤ (8 : Int) ∧ (8 : Int) ≤ (64 : Int) ∧ rg IntKind.u64 (slI (adI
 (slI (adI (slI (adI (0 : Int) (intAt xs 111)) (8 : Int)) (intAt xs 110)) (8 : Int)) (intAt xs 109)) (8 : Int)), xs[108]? = some (Value.int IntKind.u8 (intAt xs 108)), rg IntKind.u64 (intAt xs 108), IntKind.wrap
 IntKind.u64 (↑(BitVec.toNat (BitVec.ofInt 64 (slI (adI (slI (adI (slI (adI (0 : Int) (intAt xs 111)) (8 : Int)) (intAt xs 110)) (8 : Int)) (intAt xs 109)) (8 : Int)) ||| BitVec.ofInt 64 (intAt xs 108))) : Int) = adI (slI
 (adI (slI (adI (slI (adI (0 : Int) (intAt xs 111)) (8 : Int)) (intAt xs 110)) (8 : Int)) (intAt xs 109)) (8 : Int)) (intAt xs 108), (0 : Int) ≤ (8 : Int) ∧ (8 : Int) ≤ (64 : Int) ∧ rg IntKind.u64 (0 : Int), xs[115]? =
 some (Value.int IntKind.u8 (intAt xs 115)), rg IntKind.u64 (intAt xs 115), IntKind.wrap IntKind.u64 (↑(BitVec.toNat (BitVec.ofInt 64 (0 : Int) ||| BitVec.ofInt 64 (intAt xs 115))) : Int) = adI (0 : Int) (intAt xs 115), (0
 : Int) ≤ (8 : Int) ∧ (8 : Int) ≤ (64 : Int) ∧ rg IntKind.u64 (slI (adI (0 : Int) (intAt xs 115)) (8 : Int)), xs[114]? = some (Value.int IntKind.u8 (intAt xs 114)), rg IntKind.u64 (intAt xs 114), IntKind.wrap IntKind.u64
 (↑(BitVec.toNat (BitVec.ofInt 64 (slI (adI (0 : Int) (intAt xs 115)) (8 : Int)) ||| BitVec.ofInt 64 (intAt xs 114))) : Int) = adI (slI (adI (0 : Int) (intAt xs 115)) (8 : Int)) (intAt xs 114), (0 : Int) ≤ (8 : Int) ∧ (8 :
 Int) ≤ (64 : Int) ∧ rg IntKind.u64 (slI (adI (slI (adI (0 : Int) (intAt xs 115)) (8 : Int)) (intAt xs 114)) (8 : Int)), xs[113]? = some (Value.int IntKind.u8 (intAt xs 113)), rg IntKind.u64 (intAt xs 113), IntKind.wrap
 IntKind.u64 (↑(BitVec.toNat (BitVec.ofInt 64 (slI (adI (slI (adI (0 : Int) (intAt xs 115)) (8 : Int)) (intAt xs 114)) (8 : Int)) ||| BitVec.ofInt 64 (intAt xs 113))) : Int) = adI (slI (adI (slI (adI (0 : Int) (intAt xs
 115)) (8 : Int)) (intAt xs 114)) (8 : Int)) (intAt xs 113), (0 : Int) ≤ (8 : Int) ∧ (8 : Int) ≤ (64 : Int) ∧ rg IntKind.u64 (slI (adI (slI (adI (slI (adI (0 : Int) (intAt xs 115)) (8 : Int)) (intAt xs 114)) (8 : Int))
 (intAt xs 113)) (8 : Int)), xs[112]? = some (Value.int IntKind.u8 (intAt xs 112)), rg IntKind.u64 (intAt xs 112), IntKind.wrap IntKind.u64 (↑(BitVec.toNat (BitVec.ofInt 64 (slI (adI (slI (adI (slI (adI (0 : Int) (intAt xs
 115)) (8 : Int)) (intAt xs 114)) (8 : Int)) (intAt xs 113)) (8 : Int)) ||| BitVec.ofInt 64 (intAt xs 112))) : Int) = adI (slI (adI (slI (adI (slI (adI (0 : Int) (intAt xs 115)) (8 : Int)) (intAt xs 114)) (8 : Int)) (intAt
 xs 113)) (8 : Int)) (intAt xs 112), (0 : Int) ≤ (8 : Int) ∧ (8 : Int) ≤ (64 : Int) ∧ rg IntKind.u64 (0 : Int), xs[117]? = some (Value.int IntKind.u8 (intAt xs 117)), rg IntKind.u64 (intAt xs 117), IntKind.wrap IntKind.u64
 (↑(BitVec.toNat (BitVec.ofInt 64 (0 : Int) ||| BitVec.ofInt 64 (intAt xs 117))) : Int) = adI (0 : Int) (intAt xs 117), (0 : Int) ≤ (8 : Int) ∧ (8 : Int) ≤ (64 : Int) ∧ rg IntKind.u64 (slI (adI (0 : Int) (intAt xs 117)) (8
 : Int)), xs[116]? = some (Value.int IntKind.u8 (intAt xs 116)), rg IntKind.u64 (intAt xs 116), IntKind.wrap IntKind.u64 (↑(BitVec.toNat (BitVec.ofInt 64 (slI (adI (0 : Int) (intAt xs 117)) (8 : Int)) ||| BitVec.ofInt 64
 (intAt xs 116))) : Int) = adI (slI (adI (0 : Int) (intAt xs 117)) (8 : Int)) (intAt xs 116), (0 : Int) ≤ (8 : Int) ∧ (8 : Int) ≤ (64 : Int) ∧ rg IntKind.u64 (0 : Int), xs[119]? = some (Value.int IntKind.u8 (intAt xs
 119)), rg IntKind.u64 (intAt xs 119), IntKind.wrap IntKind.u64 (↑(BitVec.toNat (BitVec.ofInt 64 (0 : Int) ||| BitVec.ofInt 64 (intAt xs 119))) : Int) = adI (0 : Int) (intAt xs 119), (0 : Int) ≤ (8 : Int) ∧ (8 : Int) ≤ (64
 : Int) ∧ rg IntKind.u64 (slI (adI (0 : Int) (intAt xs 119)) (8 : Int)), xs[118]? = some (Value.int IntKind.u8 (intAt xs 118)), rg IntKind.u64 (intAt xs 118), IntKind.wrap IntKind.u64 (↑(BitVec.toNat (BitVec.ofInt 64 (slI
 (adI (0 : Int) (intAt xs 119)) (8 : Int)) ||| BitVec.ofInt 64 (intAt xs 118))) : Int) = adI (slI (adI (0 : Int) (intAt xs 119)) (8 : Int)) (intAt xs 118), (0 : Int) ≤ (8 : Int) ∧ (8 : Int) ≤ (64 : Int) ∧ rg IntKind.u64 (0
 : Int), xs[127]? = some (Value.int IntKind.u8 (intAt xs 127)), rg IntKind.u64 (intAt xs 127), IntKind.wrap IntKind.u64 (↑(BitVec.toNat (BitVec.ofInt 64 (0 : Int) ||| BitVec.ofInt 64 (intAt xs 127))) : Int) = adI (0 : Int)
 (intAt xs 127), (0 : Int) ≤ (8 : Int) ∧ (8 : Int) ≤ (64 : Int) ∧ rg IntKind.u64 (slI (adI (0 : Int) (intAt xs 127)) (8 : Int)), xs[126]? = some (Value.int IntKind.u8 (intAt xs 126)), rg IntKind.u64 (intAt xs 126),
 IntKind.wrap IntKind.u64 (↑(BitVec.toNat (BitVec.ofInt 64 (slI (adI (0 : Int) (intAt xs 127)) (8 : Int)) ||| BitVec.ofInt 64 (intAt xs 126))) : Int) = adI (slI (adI (0 : Int) (intAt xs 127)) (8 : Int)) (intAt xs 126), (0
 : Int) ≤ (8 : Int) ∧ (8 : Int) ≤ (64 : Int) ∧ rg IntKind.u64 (slI (adI (slI (adI (0 : Int) (intAt xs 127)) (8 : Int)) (intAt xs 126)) (8 : Int)), xs[125]? = some (Value.int IntKind.u8 (intAt xs 125)), rg IntKind.u64
 (intAt xs 125), IntKind.wrap IntKind.u64 (↑(BitVec.toNat (BitVec.ofInt 64 (slI (adI (slI (adI (0 : Int) (intAt xs 127)) (8 : Int)) (intAt xs 126)) (8 : Int)) ||| BitVec.ofInt 64 (intAt xs 125))) : Int) = adI (slI (adI
 (slI (adI (0 : Int) (intAt xs 127)) (8 : Int)) (intAt xs 126)) (8 : Int)) (intAt xs 125), (0 : Int) ≤ (8 : Int) ∧ (8 : Int) ≤ (64 : Int) ∧ rg IntKind.u64 (slI (adI (slI (adI (slI (adI (0 : Int) (intAt xs 127)) (8 : Int))
 (intAt xs 126)) (8 : Int)) (intAt xs 125)) (8 : Int)), xs[124]? = some (Value.int IntKind.u8 (intAt xs 124)), rg IntKind.u64 (intAt xs 124), IntKind.wrap IntKind.u64 (↑(BitVec.toNat (BitVec.ofInt 64 (slI (adI (slI (adI
 (slI (adI (0 : Int) (intAt xs 127)) (8 : Int)) (intAt xs 126)) (8 : Int)) (intAt xs 125)) (8 : Int)) ||| BitVec.ofInt 64 (intAt xs 124))) : Int) = adI (slI (adI (slI (adI (slI (adI (0 : Int) (intAt xs 127)) (8 : Int))
 (intAt xs 126)) (8 : Int)) (intAt xs 125)) (8 : Int)) (intAt xs 124), (0 : Int) ≤ (8 : Int) ∧ (8 : Int) ≤ (64 : Int) ∧ rg IntKind.u64 (slI (adI (slI (adI (slI (adI (slI (adI (0 : Int) (intAt xs 127)) (8 : Int)) (intAt xs
 126)) (8 : Int)) (intAt xs 125)) (8 : Int)) (intAt xs 124)) (8 : Int)), xs[123]? = some (Value.int IntKind.u8 (intAt xs 123)), rg IntKind.u64 (intAt xs 123), IntKind.wrap IntKind.u64 (↑(BitVec.toNat (BitVec.ofInt 64 (slI
 (adI (slI (adI (slI (adI (slI (adI (0 : Int) (intAt xs 127)) (8 : Int)) (intAt xs 126)) (8 : Int)) (intAt xs 125)) (8 : Int)) (intAt xs 124)) (8 : Int)) ||| BitVec.ofInt 64 (intAt xs 123))) : Int) = adI (slI (adI (slI
 (adI (slI (adI (slI (adI (0 : Int) (intAt xs 127)) (8 : Int)) (intAt xs 126)) (8 : Int)) (intAt xs 125)) (8 : Int)) (intAt xs 124)) (8 : Int)) (intAt xs 123), (0 : Int) ≤ (8 : Int) ∧ (8 : Int) ≤ (64 : Int) ∧ rg
 IntKind.u64 (slI (adI (slI (adI (slI (adI (slI (adI (slI (adI (0 : Int) (intAt xs 127)) (8 : Int)) (intAt xs 126)) (8 : Int)) (intAt xs 125)) (8 : Int)) (intAt xs 124)) (8 : Int)) (intAt xs 123)) (8 : Int)), xs[122]? =
 some (Value.int IntKind.u8 (intAt xs 122)), rg IntKind.u64 (intAt xs 122), IntKind.wrap IntKind.u64 (↑(BitVec.toNat (BitVec.ofInt 64 (slI (adI (slI (adI (slI (adI (slI (adI (slI (adI (0 : Int) (intAt xs 127)) (8 : Int))
 (intAt xs 126)) (8 : Int)) (intAt xs 125)) (8 : Int)) (intAt xs 124)) (8 : Int)) (intAt xs 123)) (8 : Int)) ||| BitVec.ofInt 64 (intAt xs 122))) : Int) = adI (slI (adI (slI (adI (slI (adI (slI (adI (slI (adI (0 : Int)
 (intAt xs 127)) (8 : Int)) (intAt xs 126)) (8 : Int)) (intAt xs 125)) (8 : Int)) (intAt xs 124)) (8 : Int)) (intAt xs 123)) (8 : Int)) (intAt xs 122), (0 : Int) ≤ (8 : Int) ∧ (8 : Int) ≤ (64 : Int) ∧ rg IntKind.u64 (slI
 (adI (slI (adI (slI (adI (slI (adI (slI (adI (slI (adI (0 : Int) (intAt xs 127)) (8 : Int)) (intAt xs 126)) (8 : Int)) (intAt xs 125)) (8 : Int)) (intAt xs 124)) (8 : Int)) (intAt xs 123)) (8 : Int)) (intAt xs 122)) (8 :
 Int)), xs[121]? = some (Value.int IntKind.u8 (intAt xs 121)), rg IntKind.u64 (intAt xs 121), IntKind.wrap IntKind.u64 (↑(BitVec.toNat (BitVec.ofInt 64 (slI (adI (slI (adI (slI (adI (slI (adI (slI (adI (slI (adI (0 : Int)
 (intAt xs 127)) (8 : Int)) (intAt xs 126)) (8 : Int)) (intAt xs 125)) (8 : Int)) (intAt xs 124)) (8 : Int)) (intAt xs 123)) (8 : Int)) (intAt xs 122)) (8 : Int)) ||| BitVec.ofInt 64 (intAt xs 121))) : Int) = adI (slI (adI
 (slI (adI (slI (adI (slI (adI (slI (adI (slI (adI (0 : Int) (intAt xs 127)) (8 : Int)) (intAt xs 126)) (8 : Int)) (intAt xs 125)) (8 : Int)) (intAt xs 124)) (8 : Int)) (intAt xs 123)) (8 : Int)) (intAt xs 122)) (8 : Int))
 (intAt xs 121), (0 : Int) ≤ (8 : Int) ∧ (8 : Int) ≤ (64 : Int) ∧ rg IntKind.u64 (slI (adI (slI (adI (slI (adI (slI (adI (slI (adI (slI (adI (slI (adI (0 : Int) (intAt xs 127)) (8 : Int)) (intAt xs 126)) (8 : Int)) (intAt
 xs 125)) (8 : Int)) (intAt xs 124)) (8 : Int)) (intAt xs 123)) (8 : Int)) (intAt xs 122)) (8 : Int)) (intAt xs 121)) (8 : Int)), xs[120]? = some (Value.int IntKind.u8 (intAt xs 120)), rg IntKind.u64 (intAt xs 120),
 IntKind.wrap IntKind.u64 (↑(BitVec.toNat (BitVec.ofInt 64 (slI (adI (slI (adI (slI (adI (slI (adI (slI (adI (slI (adI (slI (adI (0 : Int) (intAt xs 127)) (8 : Int)) (intAt xs 126)) (8 : Int)) (intAt xs 125)) (8 : Int))
 (intAt xs 124)) (8 : Int)) (intAt xs 123)) (8 : Int)) (intAt xs 122)) (8 : Int)) (intAt xs 121)) (8 : Int)) ||| BitVec.ofInt 64 (intAt xs 120))) : Int) = adI (slI (adI (slI (adI (slI (adI (slI (adI (slI (adI (slI (adI
 (slI (adI (0 : Int) (intAt xs 127)) (8 : Int)) (intAt xs 126)) (8 : Int)) (intAt xs 125)) (8 : Int)) (intAt xs 124)) (8 : Int)) (intAt xs 123)) (8 : Int)) (intAt xs 122)) (8 : Int)) (intAt xs 121)) (8 : Int)) (intAt xs
 120)])
theorem ra_r_e (xs : List Value) : runZ rrV Try.prog 9 17 [.slice (some ⟨0, 0, none⟩) 128 128] [(0, ⟨.old, xs⟩)] 1 [] = ra_r_e_R xs := by kernel_rfl
abbrev ra_r_m_R (xs : List Value) (k : Nat) : Res (Out × Tape × List Prop) :=
  Res.ok ((Value.tuple (Array.mk [Value.agg (Array.mk [Value.int IntKind.u64 (r8 (List.drop 8 (List.take 16 xs))), Value.int IntKind.u64 (r8 (List.take 16 xs)), Value.int IntKind.u64 (r8 (List.drop 8 (List.take 16
 (List.drop 16 xs)))), Value.int IntKind.u64 (r8 (List.take 16 (List.drop 16 xs))), Value.int IntKind.u64 (r8 (List.drop 8 (List.take 16 (List.drop 32 xs)))), Value.int IntKind.u64 (r8 (List.take 16 (List.drop 32 xs))),
 Value.int IntKind.u64 (r8 (List.drop 8 (List.take 16 (List.drop 48 xs)))), Value.int IntKind.u64 (r8 (List.take 16 (List.drop 48 xs))), Value.int IntKind.u64 (r8 (List.drop 8 (List.take 16 (List.drop 64 xs)))), Value.int
 IntKind.u64 (r8 (List.take 16 (List.drop 64 xs))), Value.int IntKind.u64 (r8 (List.drop 8 (List.take 16 (List.drop 80 xs)))), Value.int IntKind.u64 (r8 (List.take 16 (List.drop 80 xs))), Value.int IntKind.u64 (adI (slI
 (adI (slI (adI (slI (adI (slI (adI (slI (adI (slI (adI (slI (adI (0 : Int) (intAt xs 103)) (8 : Int)) (intAt xs 102)) (8 : Int)) (intAt xs 101)) (8 : Int)) (intAt xs 100)) (8 : Int)) (intAt xs 99)) (8 : Int)) (intAt xs
 98)) (8 : Int)) (intAt xs 97)) (8 : Int)) (intAt xs 96)), Value.int IntKind.u32 (lowI IntKind.u32 (adI (slI (adI (slI (adI (slI (adI (0 : Int) (intAt xs 107)) (8 : Int)) (intAt xs 106)) (8 : Int)) (intAt xs 105)) (8 :
 Int)) (intAt xs 104))), Value.int IntKind.u32 (lowI IntKind.u32 (adI (slI (adI (slI (adI (slI (adI (0 : Int) (intAt xs 111)) (8 : Int)) (intAt xs 110)) (8 : Int)) (intAt xs 109)) (8 : Int)) (intAt xs 108))), Value.int
 IntKind.u32 (lowI IntKind.u32 (adI (slI (adI (slI (adI (slI (adI (0 : Int) (intAt xs 115)) (8 : Int)) (intAt xs 114)) (8 : Int)) (intAt xs 113)) (8 : Int)) (intAt xs 112))), Value.int IntKind.u16 (lowI IntKind.u16 (adI
 (slI (adI (0 : Int) (intAt xs 117)) (8 : Int)) (intAt xs 116))), Value.int IntKind.u16 (lowI IntKind.u16 (adI (slI (adI (0 : Int) (intAt xs 119)) (8 : Int)) (intAt xs 118))), Value.int IntKind.u64 (adI (slI (adI (slI (adI
 (slI (adI (slI (adI (slI (adI (slI (adI (slI (adI (0 : Int) (intAt xs 127)) (8 : Int)) (intAt xs 126)) (8 : Int)) (intAt xs 125)) (8 : Int)) (intAt xs 124)) (8 : Int)) (intAt xs 123)) (8 : Int)) (intAt xs 122)) (8 : Int))
 (intAt xs 121)) (8 : Int)) (intAt xs 120))]), Value.int IntKind.i64 (0 : Int)]), [(0, Rw.mk Kd.old xs)], 15, []), [], [k + 129 < 18446744073709551616, (0 : Int) ≤ (16 : Int) ∧ (16 : Int) ≤ (↑(k + 129) : Int), (0 : Int) ≤
 (0 : Int) ∧ (0 : Int) ≤ (16 : Int), 16 ≤ k + 129 ∧ k + 129 ≤ 9223372036854775807, 16 ≤ List.length xs, Fl (List.take 16 xs), Byts (List.take 16 xs), 16 = 16, k + 129 < 18446744073709551616, (0 : Int) ≤ (32 : Int) ∧ (32 :
 Int) ≤ (↑(k + 129) : Int), (0 : Int) ≤ (16 : Int) ∧ (16 : Int) ≤ (32 : Int), 16 ≤ k + 129 - 16 ∧ k + 129 - 16 ≤ 9223372036854775807, 32 ≤ List.length xs, Fl (List.take 16 (List.drop 16 xs)), Byts (List.take 16 (List.drop
 16 xs)), 16 = 16, k + 129 < 18446744073709551616, (0 : Int) ≤ (48 : Int) ∧ (48 : Int) ≤ (↑(k + 129) : Int), (0 : Int) ≤ (32 : Int) ∧ (32 : Int) ≤ (48 : Int), 16 ≤ k + 129 - 32 ∧ k + 129 - 32 ≤ 9223372036854775807, 48 ≤
 List.length xs, Fl (List.take 16 (List.drop 32 xs)), Byts (List.take 16 (List.drop 32 xs)), 16 = 16, k + 129 < 18446744073709551616, (0 : Int) ≤ (64 : Int) ∧ (64 : Int) ≤ (↑(k + 129) : Int), (0 : Int) ≤ (48 : Int) ∧ (48 :
 Int) ≤ (64 : Int), 16 ≤ k + 129 - 48 ∧ k + 129 - 48 ≤ 9223372036854775807, 64 ≤ List.length xs, Fl (List.take 16 (List.drop 48 xs)), Byts (List.take 16 (List.drop 48 xs)), 16 = 16, k + 129 < 18446744073709551616, (0 :
 Int) ≤ (80 : Int) ∧ (80 : Int) ≤ (↑(k + 129) : Int), (0 : Int) ≤ (64 : Int) ∧ (64 : Int) ≤ (80 : Int), 16 ≤ k + 129 - 64 ∧ k + 129 - 64 ≤ 9223372036854775807, 80 ≤ List.length xs, Fl (List.take 16 (List.drop 64 xs)), Byts
 (List.take 16 (List.drop 64 xs)), 16 = 16, k + 129 < 18446744073709551616, (0 : Int) ≤ (96 : Int) ∧ (96 : Int) ≤ (↑(k + 129) : Int), (0 : Int) ≤ (80 : Int) ∧ (80 : Int) ≤ (96 : Int), 16 ≤ k + 129 - 80 ∧ k + 129 - 80 ≤
 9223372036854775807, 96 ≤ List.length xs, Fl (List.take 16 (List.drop 80 xs)), Byts (List.take 16 (List.drop 80 xs)), 16 = 16, (0 : Int) ≤ (8 : Int) ∧ (8 : Int) ≤ (64 : Int) ∧ rg IntKind.u64 (0 : Int), xs[103]? = some
 (Value.int IntKind.u8 (intAt xs 103)), rg IntKind.u64 (intAt xs 103), IntKind.wrap IntKind.u64 (↑(BitVec.toNat (BitVec.ofInt 64 (0 : Int) ||| BitVec.ofInt 64 (intAt xs 103))) : Int) = adI (0 : Int) (intAt xs 103), (0 :
 Int) ≤ (8 : Int) ∧ (8 : Int) ≤ (64 : Int) ∧ rg IntKind.u64 (slI (adI (0 : Int) (intAt xs 103)) (8 : Int)), xs[102]? = some (Value.int IntKind.u8 (intAt xs 102)), rg IntKind.u64 (intAt xs 102), IntKind.wrap IntKind.u64
 (↑(BitVec.toNat (BitVec.ofInt 64 (slI (adI (0 : Int) (intAt xs 103)) (8 : Int)) ||| BitVec.ofInt 64 (intAt xs 102))) : Int) = adI (slI (adI (0 : Int) (intAt xs 103)) (8 : Int)) (intAt xs 102), (0 : Int) ≤ (8 : Int) ∧ (8 :
 Int) ≤ (64 : Int) ∧ rg IntKind.u64 (slI (adI (slI (adI (0 : Int) (intAt xs 103)) (8 : Int)) (intAt xs 102)) (8 : Int)), xs[101]? = some (Value.int IntKind.u8 (intAt xs 101)), rg IntKind.u64 (intAt xs 101), IntKind.wrap
 IntKind.u64 (↑(BitVec.toNat (BitVec.ofInt 64 (slI (adI (slI (adI (0 : Int) (intAt xs 103)) (8 : Int)) (intAt xs 102)) (8 : Int)) ||| BitVec.ofInt 64 (intAt xs 101))) : Int) = adI (slI (adI (slI (adI (0 : Int) (intAt xs
 103)) (8 : Int)) (intAt xs 102)) (8 : Int)) (intAt xs 101), (0 : Int) ≤ (8 : Int) ∧ (8 : Int) ≤ (64 : Int) ∧ rg IntKind.u64 (slI (adI (slI (adI (slI (adI (0 : Int) (intAt xs 103)) (8 : Int)) (intAt xs 102)) (8 : Int))
 (intAt xs 101)) (8 : Int)), xs[100]? = some (Value.int IntKind.u8 (intAt xs 100)), rg IntKind.u64 (intAt xs 100), IntKind.wrap IntKind.u64 (↑(BitVec.toNat (BitVec.ofInt 64 (slI (adI (slI (adI (slI (adI (0 : Int) (intAt xs
 103)) (8 : Int)) (intAt xs 102)) (8 : Int)) (intAt xs 101)) (8 : Int)) ||| BitVec.ofInt 64 (intAt xs 100))) : Int) = adI (slI (adI (slI (adI (slI (adI (0 : Int) (intAt xs 103)) (8 : Int)) (intAt xs 102)) (8 : Int)) (intAt
 xs 101)) (8 : Int)) (intAt xs 100), (0 : Int) ≤ (8 : Int) ∧ (8 : Int) ≤ (64 : Int) ∧ rg IntKind.u64 (slI (adI (slI (adI (slI (adI (slI (adI (0 : Int) (intAt xs 103)) (8 : Int)) (intAt xs 102)) (8 : Int)) (intAt xs 101))
 (8 : Int)) (intAt xs 100)) (8 : Int)), xs[99]? = some (Value.int IntKind.u8 (intAt xs 99)), rg IntKind.u64 (intAt xs 99), IntKind.wrap IntKind.u64 (↑(BitVec.toNat (BitVec.ofInt 64 (slI (adI (slI (adI (slI (adI (slI (adI
 (0 : Int) (intAt xs 103)) (8 : Int)) (intAt xs 102)) (8 : Int)) (intAt xs 101)) (8 : Int)) (intAt xs 100)) (8 : Int)) ||| BitVec.ofInt 64 (intAt xs 99))) : Int) = adI (slI (adI (slI (adI (slI (adI (slI (adI (0 : Int)
 (intAt xs 103)) (8 : Int)) (intAt xs 102)) (8 : Int)) (intAt xs 101)) (8 : Int)) (intAt xs 100)) (8 : Int)) (intAt xs 99), (0 : Int) ≤ (8 : Int) ∧ (8 : Int) ≤ (64 : Int) ∧ rg IntKind.u64 (slI (adI (slI (adI (slI (adI (slI
 (adI (slI (adI (0 : Int) (intAt xs 103)) (8 : Int)) (intAt xs 102)) (8 : Int)) (intAt xs 101)) (8 : Int)) (intAt xs 100)) (8 : Int)) (intAt xs 99)) (8 : Int)), xs[98]? = some (Value.int IntKind.u8 (intAt xs 98)), rg
 IntKind.u64 (intAt xs 98), IntKind.wrap IntKind.u64 (↑(BitVec.toNat (BitVec.ofInt 64 (slI (adI (slI (adI (slI (adI (slI (adI (slI (adI (0 : Int) (intAt xs 103)) (8 : Int)) (intAt xs 102)) (8 : Int)) (intAt xs 101)) (8 :
 Int)) (intAt xs 100)) (8 : Int)) (intAt xs 99)) (8 : Int)) ||| BitVec.ofInt 64 (intAt xs 98))) : Int) = adI (slI (adI (slI (adI (slI (adI (slI (adI (slI (adI (0 : Int) (intAt xs 103)) (8 : Int)) (intAt xs 102)) (8 : Int))
 (intAt xs 101)) (8 : Int)) (intAt xs 100)) (8 : Int)) (intAt xs 99)) (8 : Int)) (intAt xs 98), (0 : Int) ≤ (8 : Int) ∧ (8 : Int) ≤ (64 : Int) ∧ rg IntKind.u64 (slI (adI (slI (adI (slI (adI (slI (adI (slI (adI (slI (adI (0
 : Int) (intAt xs 103)) (8 : Int)) (intAt xs 102)) (8 : Int)) (intAt xs 101)) (8 : Int)) (intAt xs 100)) (8 : Int)) (intAt xs 99)) (8 : Int)) (intAt xs 98)) (8 : Int)), xs[97]? = some (Value.int IntKind.u8 (intAt xs 97)),
 rg IntKind.u64 (intAt xs 97), IntKind.wrap IntKind.u64 (↑(BitVec.toNat (BitVec.ofInt 64 (slI (adI (slI (adI (slI (adI (slI (adI (slI (adI (slI (adI (0 : Int) (intAt xs 103)) (8 : Int)) (intAt xs 102)) (8 : Int)) (intAt xs
 101)) (8 : Int)) (intAt xs 100)) (8 : Int)) (intAt xs 99)) (8 : Int)) (intAt xs 98)) (8 : Int)) ||| BitVec.ofInt 64 (intAt xs 97))) : Int) = adI (slI (adI (slI (adI (slI (adI (slI (adI (slI (adI (slI (adI (0 : Int) (intAt
 xs 103)) (8 : Int)) (intAt xs 102)) (8 : Int)) (intAt xs 101)) (8 : Int)) (intAt xs 100)) (8 : Int)) (intAt xs 99)) (8 : Int)) (intAt xs 98)) (8 : Int)) (intAt xs 97), (0 : Int) ≤ (8 : Int) ∧ (8 : Int) ≤ (64 : Int) ∧ rg
 IntKind.u64 (slI (adI (slI (adI (slI (adI (slI (adI (slI (adI (slI (adI (slI (adI (0 : Int) (intAt xs 103)) (8 : Int)) (intAt xs 102)) (8 : Int)) (intAt xs 101)) (8 : Int)) (intAt xs 100)) (8 : Int)) (intAt xs 99)) (8 :
 Int)) (intAt xs 98)) (8 : Int)) (intAt xs 97)) (8 : Int)), xs[96]? = some (Value.int IntKind.u8 (intAt xs 96)), rg IntKind.u64 (intAt xs 96), IntKind.wrap IntKind.u64 (↑(BitVec.toNat (BitVec.ofInt 64 (slI (adI (slI (adI
 (slI (adI (slI (adI (slI (adI (slI (adI (slI (adI (0 : Int) (intAt xs 103)) (8 : Int)) (intAt xs 102)) (8 : Int)) (intAt xs 101)) (8 : Int)) (intAt xs 100)) (8 : Int)) (intAt xs 99)) (8 : Int)) (intAt xs 98)) (8 : Int))
 (intAt xs 97)) (8 : Int)) ||| BitVec.ofInt 64 (intAt xs 96))) : Int) = adI (slI (adI (slI (adI (slI (adI (slI (adI (slI (adI (slI (adI (slI (adI (0 : Int) (intAt xs 103)) (8 : Int)) (intAt xs 102)) (8 : Int)) (intAt xs
 101)) (8 : Int)) (intAt xs 100)) (8 : Int)) (intAt xs 99)) (8 : Int)) (intAt xs 98)) (8 : Int)) (intAt xs 97)) (8 : Int)) (intAt xs 96), (0 : Int) ≤ (8 : Int) ∧ (8 : Int) ≤ (64 : Int) ∧ rg IntKind.u64 (0 : Int), xs[107]?
 = some (Value.int IntKind.u8 (intAt xs 107)), rg IntKind.u64 (intAt xs 107), IntKind.wrap IntKind.u64 (↑(BitVec.toNat (BitVec.ofInt 64 (0 : Int) ||| BitVec.ofInt 64 (intAt xs 107))) : Int) = adI (0 : Int) (intAt xs 107),
 (0 : Int) ≤ (8 : Int) ∧ (8 : Int) ≤ (64 : Int) ∧ rg IntKind.u64 (slI (adI (0 : Int) (intAt xs 107)) (8 : Int)), xs[106]? = some (Value.int IntKind.u8 (intAt xs 106)), rg IntKind.u64 (intAt xs 106), IntKind.wrap
 IntKind.u64 (↑(BitVec.toNat (BitVec.ofInt 64 (slI (adI (0 : Int) (intAt xs 107)) (8 : Int)) ||| BitVec.ofInt 64 (intAt xs 106))) : Int) = adI (slI (adI (0 : Int) (intAt xs 107)) (8 : Int)) (intAt xs 106), (0 : Int) ≤ (8 :
 Int) ∧ (8 : Int) ≤ (64 : Int) ∧ rg IntKind.u64 (slI (adI (slI (adI (0 : Int) (intAt xs 107)) (8 : Int)) (intAt xs 106)) (8 : Int)), xs[105]? = some (Value.int IntKind.u8 (intAt xs 105)), rg IntKind.u64 (intAt xs 105),
 IntKind.wrap IntKind.u64 (↑(BitVec.toNat (BitVec.ofInt 64 (slI (adI (slI (adI (0 : Int) (intAt xs 107)) (8 : Int)) (intAt xs 106)) (8 : Int)) ||| BitVec.ofInt 64 (intAt xs 105))) : Int) = adI (slI (adI (slI (adI (0 : Int)
 (intAt xs 107)) (8 : Int)) (intAt xs 106)) (8 : Int)) (intAt xs 105), (0 : Int) ≤ (8 : Int) ∧ (8 : Int) ≤ (64 : Int) ∧ rg IntKind.u64 (slI (adI (slI (adI (slI (adI (0 : Int) (intAt xs 107)) (8 : Int)) (intAt xs 106)) (8 :
 Int)) (intAt xs 105)) (8 : Int)), xs[104]? = some (Value.int IntKind.u8 (intAt xs 104)), rg IntKind.u64 (intAt xs 104), IntKind.wrap IntKind.u64 (↑(BitVec.toNat (BitVec.ofInt 64 (slI (adI (slI (adI (slI (adI (0 : Int)
 (intAt xs 107)) (8 : Int)) (intAt xs 106)) (8 : Int)) (intAt xs 105)) (8 : Int)) ||| BitVec.ofInt 64 (intAt xs 104))) : Int) = adI (slI (adI (slI (adI (slI (adI (0 : Int) (intAt xs 107)) (8 : Int)) (intAt xs 106)) (8 :
 Int)) (intAt xs 105)) (8 : Int)) (intAt xs 104), (0 : Int) ≤ (8 : Int) ∧ (8 : Int) ≤ (64 : Int) ∧ rg IntKind.u64 (0 : Int), xs[111]? = some (Value.int IntKind.u8 (intAt xs 111)), rg IntKind.u64 (intAt xs 111),
 IntKind.wrap IntKind.u64 (↑(BitVec.toNat (BitVec.ofInt 64 (0 : Int) ||| BitVec.ofInt 64 (intAt xs 111))) : Int) = adI (0 : Int) (intAt xs 111), (0 : Int) ≤ (8 : Int) ∧ (8 : Int) ≤ (64 : Int) ∧ rg IntKind.u64 (slI (adI (0
 : Int) (intAt xs 111)) (8 : Int)), xs[110]? = some (Value.int IntKind.u8 (intAt xs 110)), rg IntKind.u64 (intAt xs 110), IntKind.wrap IntKind.u64 (↑(BitVec.toNat (BitVec.ofInt 64 (slI (adI (0 : Int) (intAt xs 111)) (8 :
 Int)) ||| BitVec.ofInt 64 (intAt xs 110))) : Int) = adI (slI (adI (0 : Int) (intAt xs 111)) (8 : Int)) (intAt xs 110), (0 : Int) ≤ (8 : Int) ∧ (8 : Int) ≤ (64 : Int) ∧ rg IntKind.u64 (slI (adI (slI (adI (0 : Int) (intAt
 xs 111)) (8 : Int)) (intAt xs 110)) (8 : Int)), xs[109]? = some (Value.int IntKind.u8 (intAt xs 109)), rg IntKind.u64 (intAt xs 109), IntKind.wrap IntKind.u64 (↑(BitVec.toNat (BitVec.ofInt 64 (slI (adI (slI (adI (0 : Int)
 (intAt xs 111)) (8 : Int)) (intAt xs 110)) (8 : Int)) ||| BitVec.ofInt 64 (intAt xs 109))) : Int) = adI (slI (adI (slI (adI (0 : Int) (intAt xs 111)) (8 : Int)) (intAt xs 110)) (8 : Int)) (intAt xs 109), (0 : Int) ≤ (8 :
 Int) ∧ (8 : Int) ≤ (64 : Int) ∧ rg IntKind.u64 (slI (adI (slI (adI (slI (adI (0 : Int) (intAt xs 111)) (8 : Int)) (intAt xs 110)) (8 : Int)) (intAt xs 109)) (8 : Int)), xs[108]? = some (Value.int IntKind.u8 (intAt xs
 108)), rg IntKind.u64 (intAt xs 108), IntKind.wrap IntKind.u64 (↑(BitVec.toNat (BitVec.ofInt 64 (slI (adI (slI (adI (slI (adI (0 : Int) (intAt xs 111)) (8 : Int)) (intAt xs 110)) (8 : Int)) (intAt xs 109)) (8 : Int)) |||
 BitVec.ofInt 64 (intAt xs 108))) : Int) = adI (slI (adI (slI (adI (slI (adI (0 : Int) (intAt xs 111)) (8 : Int)) (intAt xs 110)) (8 : Int)) (intAt xs 109)) (8 : Int)) (intAt xs 108), (0 : Int) ≤ (8 : Int) ∧ (8 : Int) ≤
 (64 : Int) ∧ rg IntKind.u64 (0 : Int), xs[115]? = some (Value.int IntKind.u8 (intAt xs 115)), rg IntKind.u64 (intAt xs 115), IntKind.wrap IntKind.u64 (↑(BitVec.toNat (BitVec.ofInt 64 (0 : Int) ||| BitVec.ofInt 64 (intAt
 xs 115))) : Int) = adI (0 : Int) (intAt xs 115), (0 : Int) ≤ (8 : Int) ∧ (8 : Int) ≤ (64 : Int) ∧ rg IntKind.u64 (slI (adI (0 : Int) (intAt xs 115)) (8 : Int)), xs[114]? = some (Value.int IntKind.u8 (intAt xs 114)), rg
 IntKind.u64 (intAt xs 114), IntKind.wrap IntKind.u64 (↑(BitVec.toNat (BitVec.ofInt 64 (slI (adI (0 : Int) (intAt xs 115)) (8 : Int)) ||| BitVec.ofInt 64 (intAt xs 114))) : Int) = adI (slI (adI (0 : Int) (intAt xs 115)) (8
 : Int)) (intAt xs 114), (0 : Int) ≤ (8 : Int) ∧ (8 : Int) ≤ (64 : Int) ∧ rg IntKind.u64 (slI (adI (slI (adI (0 : Int) (intAt xs 115)) (8 : Int)) (intAt xs 114)) (8 : Int)), xs[113]? = some (Value.int IntKind.u8 (intAt xs
 113)), rg IntKind.u64 (intAt xs 113), IntKind.wrap IntKind.u64 (↑(BitVec.toNat (BitVec.ofInt 64 (slI (adI (slI (adI (0 : Int) (intAt xs 115)) (8 : Int)) (intAt xs 114)) (8 : Int)) ||| BitVec.ofInt 64 (intAt xs 113))) :
 Int) = adI (slI (adI (slI (adI (0 : Int) (intAt xs 115)) (8 : Int)) (intAt xs 114)) (8 : Int)) (intAt xs 113), (0 : Int) ≤ (8 : Int) ∧ (8 : Int) ≤ (64 : Int) ∧ rg IntKind.u64 (slI (adI (slI (adI (slI (adI (0 : Int) (intAt
 xs 115)) (8 : Int)) (intAt xs 114)) (8 : Int)) (intAt xs 113)) (8 : Int)), xs[112]? = some (Value.int IntKind.u8 (intAt xs 112)), rg IntKind.u64 (intAt xs 112), IntKind.wrap IntKind.u64 (↑(BitVec.toNat (BitVec.ofInt 64
 (slI (adI (slI (adI (slI (adI (0 : Int) (intAt xs 115)) (8 : Int)) (intAt xs 114)) (8 : Int)) (intAt xs 113)) (8 : Int)) ||| BitVec.ofInt 64 (intAt xs 112))) : Int) = adI (slI (adI (slI (adI (slI (adI (0 : Int) (intAt xs
 115)) (8 : Int)) (intAt xs 114)) (8 : Int)) (intAt xs 113)) (8 : Int)) (intAt xs 112), (0 : Int) ≤ (8 : Int) ∧ (8 : Int) ≤ (64 : Int) ∧ rg IntKind.u64 (0 : Int), xs[117]? = some (Value.int IntKind.u8 (intAt xs 117)), rg
 IntKind.u64 (intAt xs 117), IntKind.wrap IntKind.u64 (↑(BitVec.toNat (BitVec.ofInt 64 (0 : Int) ||| BitVec.ofInt 64 (intAt xs 117))) : Int) = adI (0 : Int) (intAt xs 117), (0 : Int) ≤ (8 : Int) ∧ (8 : Int) ≤ (64 : Int) ∧
 rg IntKind.u64 (slI (adI (0 : Int) (intAt xs 117)) (8 : Int)), xs[116]? = some (Value.int IntKind.u8 (intAt xs 116)), rg IntKind.u64 (intAt xs 116), IntKind.wrap IntKind.u64 (↑(BitVec.toNat (BitVec.ofInt 64 (slI (adI (0 :
 Int) (intAt xs 117)) (8 : Int)) ||| BitVec.ofInt 64 (intAt xs 116))) : Int) = adI (slI (adI (0 : Int) (intAt xs 117)) (8 : Int)) (intAt xs 116), (0 : Int) ≤ (8 : Int) ∧ (8 : Int) ≤ (64 : Int) ∧ rg IntKind.u64 (0 : Int),
 xs[119]? = some (Value.int IntKind.u8 (intAt xs 119)), rg IntKind.u64 (intAt xs 119), IntKind.wrap IntKind.u64 (↑(BitVec.toNat (BitVec.ofInt 64 (0 : Int) ||| BitVec.ofInt 64 (intAt xs 119))) : Int) = adI (0 : Int) (intAt
 xs 119), (0 : Int) ≤ (8 : Int) ∧ (8 : Int) ≤ (64 : Int) ∧ rg IntKind.u64 (slI (adI (0 : Int) (intAt xs 119)) (8 : Int)), xs[118]? = some (Value.int IntKind.u8 (intAt xs 118)), rg IntKind.u64 (intAt xs 118), IntKind.wrap
 IntKind.u64 (↑(BitVec.toNat (BitVec.ofInt 64 (slI (adI (0 : Int) (intAt xs 119)) (8 : Int)) ||| BitVec.ofInt 64 (intAt xs 118))) : Int) = adI (slI (adI (0 : Int) (intAt xs 119)) (8 : Int)) (intAt xs 118), (0 : Int) ≤ (8 :
 Int) ∧ (8 : Int) ≤ (64 : Int) ∧ rg IntKind.u64 (0 : Int), xs[127]? = some (Value.int IntKind.u8 (intAt xs 127)), rg IntKind.u64 (intAt xs 127), IntKind.wrap IntKind.u64 (↑(BitVec.toNat (BitVec.ofInt 64 (0 : Int) |||
 BitVec.ofInt 64 (intAt xs 127))) : Int) = adI (0 : Int) (intAt xs 127), (0 : Int) ≤ (8 : Int) ∧ (8 : Int) ≤ (64 : Int) ∧ rg IntKind.u64 (slI (adI (0 : Int) (intAt xs 127)) (8 : Int)), xs[126]? = some (Value.int IntKind.u8
 (intAt xs 126)), rg IntKind.u64 (intAt xs 126), IntKind.wrap IntKind.u64 (↑(BitVec.toNat (BitVec.ofInt 64 (slI (adI (0 : Int) (intAt xs 127)) (8 : Int)) ||| BitVec.ofInt 64 (intAt xs 126))) : Int) = adI (slI (adI (0 :
 Int) (intAt xs 127)) (8 : Int)) (intAt xs 126), (0 : Int) ≤ (8 : Int) ∧ (8 : Int) ≤ (64 : Int) ∧ rg IntKind.u64 (slI (adI (slI (adI (0 : Int) (intAt xs 127)) (8 : Int)) (intAt xs 126)) (8 : Int)), xs[125]? = some
 (Value.int IntKind.u8 (intAt xs 125)), rg IntKind.u64 (intAt xs 125), IntKind.wrap IntKind.u64 (↑(BitVec.toNat (BitVec.ofInt 64 (slI (adI (slI (adI (0 : Int) (intAt xs 127)) (8 : Int)) (intAt xs 126)) (8 : Int)) |||
 BitVec.ofInt 64 (intAt xs 125))) : Int) = adI (slI (adI (slI (adI (0 : Int) (intAt xs 127)) (8 : Int)) (intAt xs 126)) (8 : Int)) (intAt xs 125), (0 : Int) ≤ (8 : Int) ∧ (8 : Int) ≤ (64 : Int) ∧ rg IntKind.u64 (slI (adI
 (slI (adI (slI (adI (0 : Int) (intAt xs 127)) (8 : Int)) (intAt xs 126)) (8 : Int)) (intAt xs 125)) (8 : Int)), xs[124]? = some (Value.int IntKind.u8 (intAt xs 124)), rg IntKind.u64 (intAt xs 124), IntKind.wrap
 IntKind.u64 (↑(BitVec.toNat (BitVec.ofInt 64 (slI (adI (slI (adI (slI (adI (0 : Int) (intAt xs 127)) (8 : Int)) (intAt xs 126)) (8 : Int)) (intAt xs 125)) (8 : Int)) ||| BitVec.ofInt 64 (intAt xs 124))) : Int) = adI (slI
 (adI (slI (adI (slI (adI (0 : Int) (intAt xs 127)) (8 : Int)) (intAt xs 126)) (8 : Int)) (intAt xs 125)) (8 : Int)) (intAt xs 124), (0 : Int) ≤ (8 : Int) ∧ (8 : Int) ≤ (64 : Int) ∧ rg IntKind.u64 (slI (adI (slI (adI (slI
 (adI (slI (adI (0 : Int) (intAt xs 127)) (8 : Int)) (intAt xs 126)) (8 : Int)) (intAt xs 125)) (8 : Int)) (intAt xs 124)) (8 : Int)), xs[123]? = some (Value.int IntKind.u8 (intAt xs 123)), rg IntKind.u64 (intAt xs 123),
 IntKind.wrap IntKind.u64 (↑(BitVec.toNat (BitVec.ofInt 64 (slI (adI (slI (adI (slI (adI (slI (adI (0 : Int) (intAt xs 127)) (8 : Int)) (intAt xs 126)) (8 : Int)) (intAt xs 125)) (8 : Int)) (intAt xs 124)) (8 : Int)) |||
 BitVec.ofInt 64 (intAt xs 123))) : Int) = adI (slI (adI (slI (adI (slI (adI (slI (adI (0 : Int) (intAt xs 127)) (8 : Int)) (intAt xs 126)) (8 : Int)) (intAt xs 125)) (8 : Int)) (intAt xs 124)) (8 : Int)) (intAt xs 123),
 (0 : Int) ≤ (8 : Int) ∧ (8 : Int) ≤ (64 : Int) ∧ rg IntKind.u64 (slI (adI (slI (adI (slI (adI (slI (adI (slI (adI (0 : Int) (intAt xs 127)) (8 : Int)) (intAt xs 126)) (8 : Int)) (intAt xs 125)) (8 : Int)) (intAt xs 124))
 (8 : Int)) (intAt xs 123)) (8 : Int)), xs[122]? = some (Value.int IntKind.u8 (intAt xs 122)), rg IntKind.u64 (intAt xs 122), IntKind.wrap IntKind.u64 (↑(BitVec.toNat (BitVec.ofInt 64 (slI (adI (slI (adI (slI (adI (slI
 (adI (slI (adI (0 : Int) (intAt xs 127)) (8 : Int)) (intAt xs 126)) (8 : Int)) (intAt xs 125)) (8 : Int)) (intAt xs 124)) (8 : Int)) (intAt xs 123)) (8 : Int)) ||| BitVec.ofInt 64 (intAt xs 122))) : Int) = adI (slI (adI
 (slI (adI (slI (adI (slI (adI (slI (adI (0 : Int) (intAt xs 127)) (8 : Int)) (intAt xs 126)) (8 : Int)) (intAt xs 125)) (8 : Int)) (intAt xs 124)) (8 : Int)) (intAt xs 123)) (8 : Int)) (intAt xs 122), (0 : Int) ≤ (8 :
 Int) ∧ (8 : Int) ≤ (64 : Int) ∧ rg IntKind.u64 (slI (adI (slI (adI (slI (adI (slI (adI (slI (adI (slI (adI (0 : Int) (intAt xs 127)) (8 : Int)) (intAt xs 126)) (8 : Int)) (intAt xs 125)) (8 : Int)) (intAt xs 124)) (8 :
 Int)) (intAt xs 123)) (8 : Int)) (intAt xs 122)) (8 : Int)), xs[121]? = some (Value.int IntKind.u8 (intAt xs 121)), rg IntKind.u64 (intAt xs 121), IntKind.wrap IntKind.u64 (↑(BitVec.toNat (BitVec.ofInt 64 (slI (adI (slI
 (adI (slI (adI (slI (adI (slI (adI (slI (adI (0 : Int) (intAt xs 127)) (8 : Int)) (intAt xs 126)) (8 : Int)) (intAt xs 125)) (8 : Int)) (intAt xs 124)) (8 : Int)) (intAt xs 123)) (8 : Int)) (intAt xs 122)) (8 : Int)) |||
 BitVec.ofInt 64 (intAt xs 121))) : Int) = adI (slI (adI (slI (adI (slI (adI (slI (adI (slI (adI (slI (adI (0 : Int) (intAt xs 127)) (8 : Int)) (intAt xs 126)) (8 : Int)) (intAt xs 125)) (8 : Int)) (intAt xs 124)) (8 :
 Int)) (intAt xs 123)) (8 : Int)) (intAt xs 122)) (8 : Int)) (intAt xs 121), (0 : Int) ≤ (8 : Int) ∧ (8 : Int) ≤ (64 : Int) ∧ rg IntKind.u64 (slI (adI (slI (adI (slI (adI (slI (adI (slI (adI (slI (adI (slI (adI (0 : Int)
 (intAt xs 127)) (8 : Int)) (intAt xs 126)) (8 : Int)) (intAt xs 125)) (8 : Int)) (intAt xs 124)) (8 : Int)) (intAt xs 123)) (8 : Int)) (intAt xs 122)) (8 : Int)) (intAt xs 121)) (8 : Int)), xs[120]? = some (Value.int
 IntKind.u8 (intAt xs 120)), rg IntKind.u64 (intAt xs 120), IntKind.wrap IntKind.u64 (↑(BitVec.toNat (BitVec.ofInt 64 (slI (adI (slI (adI (slI (adI (slI (adI (slI (adI (slI (adI (slI (adI (0 : Int) (intAt xs 127)) (8 :
 Int)) (intAt xs 126)) (8 : Int)) (intAt xs 125)) (8 : Int)) (intAt xs 124)) (8 : Int)) (intAt xs 123)) (8 : Int)) (intAt xs 122)) (8 : Int)) (intAt xs 121)) (8 : Int)) ||| BitVec.ofInt 64 (intAt xs 120))) : Int) = adI
 (slI (adI (slI (adI (slI (adI (slI (adI (slI (adI (slI (adI (slI (adI (0 : Int) (intAt xs 127)) (8 : Int)) (intAt xs 126)) (8 : Int)) (intAt xs 125)) (8 : Int)) (intAt xs 124)) (8 : Int)) (intAt xs 123)) (8 : Int)) (intAt
 xs 122)) (8 : Int)) (intAt xs 121)) (8 : Int)) (intAt xs 120)])
theorem ra_r_m (xs : List Value) (k : Nat) : runZ rrU Try.prog 9 17 [.slice (some ⟨0, 0, none⟩) 128 (k + 129)] [(0, ⟨.old, xs⟩)] 1 [] = ra_r_m_R xs k := by kernel_rfl
theorem rt_r_e (xs : List Value) : runZ rrV Try.prog 9 19 [.slice (some ⟨0, 0, none⟩) 128 128] [(0, ⟨.old, xs⟩)] 1 [] = ra_r_e_R xs := by kernel_rfl
theorem rt_r_m (xs : List Value) (k : Nat) : runZ rrU Try.prog 9 19 [.slice (some ⟨0, 0, none⟩) 128 (k + 129)] [(0, ⟨.old, xs⟩)] 1 [] = ra_r_m_R xs k := by kernel_rfl
theorem ra_i_bad (xs : List Value) (n c : Nat) : runZ rrB Try.prog 9 16 [.slice (some ⟨0, 0, none⟩) n c] [(0, ⟨.old, xs⟩)] 1 [true] =
  Res.ok ((Value.tuple (Array.mk [Value.agg (Array.mk [Value.int IntKind.u64 (0 : Int), Value.int IntKind.u64 (0 : Int), Value.int IntKind.u64 (0 : Int), Value.int IntKind.u64 (0 : Int), Value.int IntKind.u64 (0 : Int),
 Value.int IntKind.u64 (0 : Int), Value.int IntKind.u64 (0 : Int), Value.int IntKind.u64 (0 : Int), Value.int IntKind.u64 (0 : Int), Value.int IntKind.u64 (0 : Int), Value.int IntKind.u64 (0 : Int), Value.int IntKind.u64
 (0 : Int), Value.int IntKind.u64 (0 : Int), Value.int IntKind.u32 (0 : Int), Value.int IntKind.u32 (0 : Int), Value.int IntKind.u32 (0 : Int), Value.int IntKind.u16 (0 : Int), Value.int IntKind.u16 (0 : Int), Value.int
 IntKind.u64 (0 : Int)]), Value.int IntKind.i64 (4 : Int)]), [(0, Rw.mk Kd.old xs)], 2, []), [], [((↑n : Int) != (128 : Int)) = true]) := by kernel_rfl
theorem ra_i_bn  : runZ rrB Try.prog 9 16 [.slice none 0 0] [] 1 [true] =
  Res.ok ((Value.tuple (Array.mk [Value.agg (Array.mk [Value.int IntKind.u64 (0 : Int), Value.int IntKind.u64 (0 : Int), Value.int IntKind.u64 (0 : Int), Value.int IntKind.u64 (0 : Int), Value.int IntKind.u64 (0 : Int),
 Value.int IntKind.u64 (0 : Int), Value.int IntKind.u64 (0 : Int), Value.int IntKind.u64 (0 : Int), Value.int IntKind.u64 (0 : Int), Value.int IntKind.u64 (0 : Int), Value.int IntKind.u64 (0 : Int), Value.int IntKind.u64
 (0 : Int), Value.int IntKind.u64 (0 : Int), Value.int IntKind.u32 (0 : Int), Value.int IntKind.u32 (0 : Int), Value.int IntKind.u32 (0 : Int), Value.int IntKind.u16 (0 : Int), Value.int IntKind.u16 (0 : Int), Value.int
 IntKind.u64 (0 : Int)]), Value.int IntKind.i64 (4 : Int)]), [], 2, []), [], [true = true]) := by kernel_rfl
theorem rt_i_bad (xs : List Value) (n c : Nat) : runZ rrB Try.prog 9 18 [.slice (some ⟨0, 0, none⟩) n c] [(0, ⟨.old, xs⟩)] 1 [true] =
  Res.ok ((Value.tuple (Array.mk [Value.agg (Array.mk [Value.int IntKind.u64 (0 : Int), Value.int IntKind.u64 (0 : Int), Value.int IntKind.u64 (0 : Int), Value.int IntKind.u64 (0 : Int), Value.int IntKind.u64 (0 : Int),
 Value.int IntKind.u64 (0 : Int), Value.int IntKind.u64 (0 : Int), Value.int IntKind.u64 (0 : Int), Value.int IntKind.u64 (0 : Int), Value.int IntKind.u64 (0 : Int), Value.int IntKind.u64 (0 : Int), Value.int IntKind.u64
 (0 : Int), Value.int IntKind.u64 (0 : Int), Value.int IntKind.u32 (0 : Int), Value.int IntKind.u32 (0 : Int), Value.int IntKind.u32 (0 : Int), Value.int IntKind.u16 (0 : Int), Value.int IntKind.u16 (0 : Int), Value.int
 IntKind.u64 (0 : Int)]), Value.int IntKind.i64 (4 : Int)]), [(0, Rw.mk Kd.old xs)], 2, []), [], [((↑n : Int) != (128 : Int)) = true]) := by kernel_rfl
theorem rt_i_bn  : runZ rrB Try.prog 9 18 [.slice none 0 0] [] 1 [true] =
  Res.ok ((Value.tuple (Array.mk [Value.agg (Array.mk [Value.int IntKind.u64 (0 : Int), Value.int IntKind.u64 (0 : Int), Value.int IntKind.u64 (0 : Int), Value.int IntKind.u64 (0 : Int), Value.int IntKind.u64 (0 : Int),
 Value.int IntKind.u64 (0 : Int), Value.int IntKind.u64 (0 : Int), Value.int IntKind.u64 (0 : Int), Value.int IntKind.u64 (0 : Int), Value.int IntKind.u64 (0 : Int), Value.int IntKind.u64 (0 : Int), Value.int IntKind.u64
 (0 : Int), Value.int IntKind.u64 (0 : Int), Value.int IntKind.u32 (0 : Int), Value.int IntKind.u32 (0 : Int), Value.int IntKind.u32 (0 : Int), Value.int IntKind.u16 (0 : Int), Value.int IntKind.u16 (0 : Int), Value.int
 IntKind.u64 (0 : Int)]), Value.int IntKind.i64 (4 : Int)]), [], 2, []), [], [true = true]) := by kernel_rfl
theorem ra_i_ok (xs : List Value) (n c : Nat) : runZ rrB Try.prog 9 16 [.slice (some ⟨0, 0, none⟩) n c] [(0, ⟨.old, xs⟩)] 1 [false] =
  Res.ok ((Value.tuple (Array.mk [Value.agg (Array.mk [Value.int IntKind.u64 (r8 (List.drop 8 (List.take n xs))), Value.int IntKind.u64 (r8 (List.drop 0 (List.take n xs))), Value.int IntKind.u64 (r8 (List.drop 24 (List.take
 n xs))), Value.int IntKind.u64 (r8 (List.drop 16 (List.take n xs))), Value.int IntKind.u64 (r8 (List.drop 40 (List.take n xs))), Value.int IntKind.u64 (r8 (List.drop 32 (List.take n xs))), Value.int IntKind.u64 (r8
 (List.drop 56 (List.take n xs))), Value.int IntKind.u64 (r8 (List.drop 48 (List.take n xs))), Value.int IntKind.u64 (r8 (List.drop 72 (List.take n xs))), Value.int IntKind.u64 (r8 (List.drop 64 (List.take n xs))),
 Value.int IntKind.u64 (r8 (List.drop 88 (List.take n xs))), Value.int IntKind.u64 (r8 (List.drop 80 (List.take n xs))), Value.int IntKind.u64 (r8 (List.drop 96 (List.take n xs))), Value.int IntKind.u32 (r4 (List.drop 104
 (List.take n xs))), Value.int IntKind.u32 (r4 (List.drop 108 (List.take n xs))), Value.int IntKind.u32 (r4 (List.drop 112 (List.take n xs))), Value.int IntKind.u16 (r2 (List.drop 116 (List.take n xs))), Value.int
 IntKind.u16 (r2 (List.drop 118 (List.take n xs))), Value.int IntKind.u64 (r8 (List.drop 120 (List.take n xs)))]), Value.int IntKind.i64 (0 : Int)]), [(0, Rw.mk Kd.old xs)], 2, []), [], [((↑n : Int) != (128 : Int)) =
 false, n ≤ c ∧ c ≤ 9223372036854775807, n ≤ List.length xs, Fl (List.take n xs), Byts (List.take n xs), n = 128]) := by kernel_rfl
theorem rt_i_ok (xs : List Value) (n c : Nat) : runZ rrB Try.prog 9 18 [.slice (some ⟨0, 0, none⟩) n c] [(0, ⟨.old, xs⟩)] 1 [false] =
  Res.ok ((Value.tuple (Array.mk [Value.agg (Array.mk [Value.int IntKind.u64 (r8 (List.drop 8 (List.take n xs))), Value.int IntKind.u64 (r8 (List.drop 0 (List.take n xs))), Value.int IntKind.u64 (r8 (List.drop 24 (List.take
 n xs))), Value.int IntKind.u64 (r8 (List.drop 16 (List.take n xs))), Value.int IntKind.u64 (r8 (List.drop 40 (List.take n xs))), Value.int IntKind.u64 (r8 (List.drop 32 (List.take n xs))), Value.int IntKind.u64 (r8
 (List.drop 56 (List.take n xs))), Value.int IntKind.u64 (r8 (List.drop 48 (List.take n xs))), Value.int IntKind.u64 (r8 (List.drop 72 (List.take n xs))), Value.int IntKind.u64 (r8 (List.drop 64 (List.take n xs))),
 Value.int IntKind.u64 (r8 (List.drop 88 (List.take n xs))), Value.int IntKind.u64 (r8 (List.drop 80 (List.take n xs))), Value.int IntKind.u64 (r8 (List.drop 96 (List.take n xs))), Value.int IntKind.u32 (r4 (List.drop 104
 (List.take n xs))), Value.int IntKind.u32 (r4 (List.drop 108 (List.take n xs))), Value.int IntKind.u32 (r4 (List.drop 112 (List.take n xs))), Value.int IntKind.u16 (r2 (List.drop 116 (List.take n xs))), Value.int
 IntKind.u16 (r2 (List.drop 118 (List.take n xs))), Value.int IntKind.u64 (r8 (List.drop 120 (List.take n xs)))]), Value.int IntKind.i64 (0 : Int)]), [(0, Rw.mk Kd.old xs)], 2, []), [], [((↑n : Int) != (128 : Int)) =
 false, n ≤ c ∧ c ≤ 9223372036854775807, n ≤ List.length xs, Fl (List.take n xs), Byts (List.take n xs), n = 128]) := by kernel_rfl
set_option maxHeartbeats 4000000 in
theorem ra_r_run {xs : List Value} {c : Nat} (hb : Byts xs) (hl : xs.length = 128) (hc : 128 ≤ c ∧ c ≤ 9223372036854775807) : Ran Try.prog 17 [.slice (some ⟨0, 0, none⟩) 128 c] [(0, ⟨.old, xs⟩)] 1 ⟨fun _ => rdV xs, []⟩ := by
  have hX : XOkZ rrV Try.prog := noXz_ok rfl
  have hT : TOkZ rrV Try.prog := T_okV rfl u8T_one
  have hL : LOkZ rrV Try.prog := noL_okV rfl
  have hX2 : XOkZ rrU Try.prog := noXz_ok rfl
  have hT2 : TOkZ rrU Try.prog := T_okV rfl u8T_one
  have hL2 : LOkZ rrU Try.prog := noL_okV rfl
  have z0 : (0 : Int) ≤ 0 ∧ (0 : Int) < 256 := by omega
  obtain ⟨g96, l96, u96⟩ := hb.get (i := 96) (by omega)
  obtain ⟨g97, l97, u97⟩ := hb.get (i := 97) (by omega)
  obtain ⟨g98, l98, u98⟩ := hb.get (i := 98) (by omega)
  obtain ⟨g99, l99, u99⟩ := hb.get (i := 99) (by omega)
  obtain ⟨g100, l100, u100⟩ := hb.get (i := 100) (by omega)
  obtain ⟨g101, l101, u101⟩ := hb.get (i := 101) (by omega)
  obtain ⟨g102, l102, u102⟩ := hb.get (i := 102) (by omega)
  obtain ⟨g103, l103, u103⟩ := hb.get (i := 103) (by omega)
  obtain ⟨g104, l104, u104⟩ := hb.get (i := 104) (by omega)
  obtain ⟨g105, l105, u105⟩ := hb.get (i := 105) (by omega)
  obtain ⟨g106, l106, u106⟩ := hb.get (i := 106) (by omega)
  obtain ⟨g107, l107, u107⟩ := hb.get (i := 107) (by omega)
  obtain ⟨g108, l108, u108⟩ := hb.get (i := 108) (by omega)
  obtain ⟨g109, l109, u109⟩ := hb.get (i := 109) (by omega)
  obtain ⟨g110, l110, u110⟩ := hb.get (i := 110) (by omega)
  obtain ⟨g111, l111, u111⟩ := hb.get (i := 111) (by omega)
  obtain ⟨g112, l112, u112⟩ := hb.get (i := 112) (by omega)
  obtain ⟨g113, l113, u113⟩ := hb.get (i := 113) (by omega)
  obtain ⟨g114, l114, u114⟩ := hb.get (i := 114) (by omega)
  obtain ⟨g115, l115, u115⟩ := hb.get (i := 115) (by omega)
  obtain ⟨g116, l116, u116⟩ := hb.get (i := 116) (by omega)
  obtain ⟨g117, l117, u117⟩ := hb.get (i := 117) (by omega)
  obtain ⟨g118, l118, u118⟩ := hb.get (i := 118) (by omega)
  obtain ⟨g119, l119, u119⟩ := hb.get (i := 119) (by omega)
  obtain ⟨g120, l120, u120⟩ := hb.get (i := 120) (by omega)
  obtain ⟨g121, l121, u121⟩ := hb.get (i := 121) (by omega)
  obtain ⟨g122, l122, u122⟩ := hb.get (i := 122) (by omega)
  obtain ⟨g123, l123, u123⟩ := hb.get (i := 123) (by omega)
  obtain ⟨g124, l124, u124⟩ := hb.get (i := 124) (by omega)
  obtain ⟨g125, l125, u125⟩ := hb.get (i := 125) (by omega)
  obtain ⟨g126, l126, u126⟩ := hb.get (i := 126) (by omega)
  obtain ⟨g127, l127, u127⟩ := hb.get (i := 127) (by omega)
  obtain ⟨⟨p0_0, ⟨p0_1, a0_1⟩, ⟨p0_2, a0_2⟩, ⟨p0_3, a0_3⟩, ⟨p0_4, a0_4⟩, ⟨p0_5, a0_5⟩, ⟨p0_6, a0_6⟩, p0_7, a0_7⟩, vl0⟩ := or_horner ⟨l96, u96⟩ ⟨l97, u97⟩ ⟨l98, u98⟩ ⟨l99, u99⟩ ⟨l100, u100⟩ ⟨l101, u101⟩ ⟨l102, u102⟩ ⟨l103, u103⟩
  have er0 : r8 (xs.drop 96) = intAt xs 96 + 256 * (intAt xs 97 + 256 * (intAt xs 98 + 256 * (intAt xs 99 + 256 * (intAt xs 100 + 256 * (intAt xs 101 + 256 * (intAt xs 102 + 256 * (intAt xs 103))))))) := by
    unfold r8
    rw [at_drop, at_drop, at_drop, at_drop, at_drop, at_drop, at_drop, at_drop]
  have w0 : (adI (slI (adI (slI (adI (slI (adI (slI (adI (slI (adI (slI (adI (slI (adI 0 (intAt xs 103)) 8) (intAt xs 102)) 8) (intAt xs 101)) 8) (intAt xs 100)) 8) (intAt xs 99)) 8) (intAt xs 98)) 8) (intAt xs 97)) 8) (intAt xs 96)) = r8 (xs.drop 96) := vl0.trans er0.symm
  obtain ⟨⟨p1_0, ⟨p1_1, a1_1⟩, ⟨p1_2, a1_2⟩, ⟨p1_3, a1_3⟩, ⟨p1_4, a1_4⟩, ⟨p1_5, a1_5⟩, ⟨p1_6, a1_6⟩, p1_7, a1_7⟩, vl1⟩ := or_horner z0 z0 z0 z0 ⟨l104, u104⟩ ⟨l105, u105⟩ ⟨l106, u106⟩ ⟨l107, u107⟩
  have er1 : r4 (xs.drop 104) = intAt xs 104 + 256 * (intAt xs 105 + 256 * (intAt xs 106 + 256 * (intAt xs 107))) := by
    unfold r4
    rw [at_drop, at_drop, at_drop, at_drop]
  have w1 : lowI .u32 (adI (slI (adI (slI (adI (slI (adI 0 (intAt xs 107)) 8) (intAt xs 106)) 8) (intAt xs 105)) 8) (intAt xs 104)) = r4 (xs.drop 104) := by rw [v4r, lw32 ⟨by omega, by omega⟩, er1]
  obtain ⟨⟨p2_0, ⟨p2_1, a2_1⟩, ⟨p2_2, a2_2⟩, ⟨p2_3, a2_3⟩, ⟨p2_4, a2_4⟩, ⟨p2_5, a2_5⟩, ⟨p2_6, a2_6⟩, p2_7, a2_7⟩, vl2⟩ := or_horner z0 z0 z0 z0 ⟨l108, u108⟩ ⟨l109, u109⟩ ⟨l110, u110⟩ ⟨l111, u111⟩
  have er2 : r4 (xs.drop 108) = intAt xs 108 + 256 * (intAt xs 109 + 256 * (intAt xs 110 + 256 * (intAt xs 111))) := by
    unfold r4
    rw [at_drop, at_drop, at_drop, at_drop]
  have w2 : lowI .u32 (adI (slI (adI (slI (adI (slI (adI 0 (intAt xs 111)) 8) (intAt xs 110)) 8) (intAt xs 109)) 8) (intAt xs 108)) = r4 (xs.drop 108) := by rw [v4r, lw32 ⟨by omega, by omega⟩, er2]
  obtain ⟨⟨p3_0, ⟨p3_1, a3_1⟩, ⟨p3_2, a3_2⟩, ⟨p3_3, a3_3⟩, ⟨p3_4, a3_4⟩, ⟨p3_5, a3_5⟩, ⟨p3_6, a3_6⟩, p3_7, a3_7⟩, vl3⟩ := or_horner z0 z0 z0 z0 ⟨l112, u112⟩ ⟨l113, u113⟩ ⟨l114, u114⟩ ⟨l115, u115⟩
  have er3 : r4 (xs.drop 112) = intAt xs 112 + 256 * (intAt xs 113 + 256 * (intAt xs 114 + 256 * (intAt xs 115))) := by
    unfold r4
    rw [at_drop, at_drop, at_drop, at_drop]
  have w3 : lowI .u32 (adI (slI (adI (slI (adI (slI (adI 0 (intAt xs 115)) 8) (intAt xs 114)) 8) (intAt xs 113)) 8) (intAt xs 112)) = r4 (xs.drop 112) := by rw [v4r, lw32 ⟨by omega, by omega⟩, er3]
  obtain ⟨⟨p4_0, ⟨p4_1, a4_1⟩, ⟨p4_2, a4_2⟩, ⟨p4_3, a4_3⟩, ⟨p4_4, a4_4⟩, ⟨p4_5, a4_5⟩, ⟨p4_6, a4_6⟩, p4_7, a4_7⟩, vl4⟩ := or_horner z0 z0 z0 z0 z0 z0 ⟨l116, u116⟩ ⟨l117, u117⟩
  have er4 : r2 (xs.drop 116) = intAt xs 116 + 256 * (intAt xs 117) := by
    unfold r2
    rw [at_drop, at_drop]
  have w4 : lowI .u16 (adI (slI (adI 0 (intAt xs 117)) 8) (intAt xs 116)) = r2 (xs.drop 116) := by rw [v2r, lw16 ⟨by omega, by omega⟩, er4]
  obtain ⟨⟨p5_0, ⟨p5_1, a5_1⟩, ⟨p5_2, a5_2⟩, ⟨p5_3, a5_3⟩, ⟨p5_4, a5_4⟩, ⟨p5_5, a5_5⟩, ⟨p5_6, a5_6⟩, p5_7, a5_7⟩, vl5⟩ := or_horner z0 z0 z0 z0 z0 z0 ⟨l118, u118⟩ ⟨l119, u119⟩
  have er5 : r2 (xs.drop 118) = intAt xs 118 + 256 * (intAt xs 119) := by
    unfold r2
    rw [at_drop, at_drop]
  have w5 : lowI .u16 (adI (slI (adI 0 (intAt xs 119)) 8) (intAt xs 118)) = r2 (xs.drop 118) := by rw [v2r, lw16 ⟨by omega, by omega⟩, er5]
  obtain ⟨⟨p6_0, ⟨p6_1, a6_1⟩, ⟨p6_2, a6_2⟩, ⟨p6_3, a6_3⟩, ⟨p6_4, a6_4⟩, ⟨p6_5, a6_5⟩, ⟨p6_6, a6_6⟩, p6_7, a6_7⟩, vl6⟩ := or_horner ⟨l120, u120⟩ ⟨l121, u121⟩ ⟨l122, u122⟩ ⟨l123, u123⟩ ⟨l124, u124⟩ ⟨l125, u125⟩ ⟨l126, u126⟩ ⟨l127, u127⟩
  have er6 : r8 (xs.drop 120) = intAt xs 120 + 256 * (intAt xs 121 + 256 * (intAt xs 122 + 256 * (intAt xs 123 + 256 * (intAt xs 124 + 256 * (intAt xs 125 + 256 * (intAt xs 126 + 256 * (intAt xs 127))))))) := by
    unfold r8
    rw [at_drop, at_drop, at_drop, at_drop, at_drop, at_drop, at_drop, at_drop]
  have w6 : (adI (slI (adI (slI (adI (slI (adI (slI (adI (slI (adI (slI (adI (slI (adI 0 (intAt xs 127)) 8) (intAt xs 126)) 8) (intAt xs 125)) 8) (intAt xs 124)) 8) (intAt xs 123)) 8) (intAt xs 122)) 8) (intAt xs 121)) 8) (intAt xs 120)) = r8 (xs.drop 120) := vl6.trans er6.symm
  have c0 : ∀ o, Byts ((xs.drop o).take 16) := fun o => (hb.drop o).take 16
  have c1 : ∀ o, Fl ((xs.drop o).take 16) := fun o => fl_byts (c0 o)
  have c2 : Byts (xs.take 16) := hb.take 16
  have c3 : Fl (xs.take 16) := fl_byts c2
  have hv : GrIs ⟨fun _ => rdV xs, []⟩ (rdV xs) [(0, ⟨.old, xs⟩)] (fun n => n) := GrIs.flat fun σ => rfl
  by_cases hk : c = 128
  · subst hk
    refine ⟨_, _, _, _, fun n => n, run_tri hX hT hL (ra_r_e xs) ?_ rfl, ?_⟩
    · repeat' (first | exact alls_nil | refine alls_cons ?_ ?_)
      all_goals first
        | with_reducible assumption
        | exact c0 _
        | exact c1 _
        | omega
        | (refine ⟨by omega, by omega, ?_⟩; with_reducible assumption)
        | (refine ⟨by omega, by omega, ?_⟩; simp only [rg, s0, s8, s16, s24, s32, s40, s48, s56]; omega)
        | (simp only [rg]; omega)
    · simp only [r8_take, r8_take8, List.drop_drop, w0, w1, w2, w3, w4, w5, w6]
      exact GrIs.flat fun σ => rfl
  · obtain ⟨k, rfl⟩ : ∃ k, c = k + 129 := ⟨c - 129, by omega⟩
    refine ⟨_, _, _, _, fun n => n, run_tri hX2 hT2 hL2 (ra_r_m xs k) ?_ rfl, ?_⟩
    · repeat' (first | exact alls_nil | refine alls_cons ?_ ?_)
      all_goals first
        | with_reducible assumption
        | exact c0 _
        | exact c1 _
        | omega
        | (refine ⟨by omega, by omega, ?_⟩; with_reducible assumption)
        | (refine ⟨by omega, by omega, ?_⟩; simp only [rg, s0, s8, s16, s24, s32, s40, s48, s56]; omega)
        | (simp only [rg]; omega)
    · simp only [r8_take, r8_take8, List.drop_drop, w0, w1, w2, w3, w4, w5, w6]
      exact GrIs.flat fun σ => rfl
set_option maxHeartbeats 4000000 in
theorem rt_r_run {xs : List Value} {c : Nat} (hb : Byts xs) (hl : xs.length = 128) (hc : 128 ≤ c ∧ c ≤ 9223372036854775807) : Ran Try.prog 19 [.slice (some ⟨0, 0, none⟩) 128 c] [(0, ⟨.old, xs⟩)] 1 ⟨fun _ => rdV xs, []⟩ := by
  have hX : XOkZ rrV Try.prog := noXz_ok rfl
  have hT : TOkZ rrV Try.prog := T_okV rfl u8T_one
  have hL : LOkZ rrV Try.prog := noL_okV rfl
  have hX2 : XOkZ rrU Try.prog := noXz_ok rfl
  have hT2 : TOkZ rrU Try.prog := T_okV rfl u8T_one
  have hL2 : LOkZ rrU Try.prog := noL_okV rfl
  have z0 : (0 : Int) ≤ 0 ∧ (0 : Int) < 256 := by omega
  obtain ⟨g96, l96, u96⟩ := hb.get (i := 96) (by omega)
  obtain ⟨g97, l97, u97⟩ := hb.get (i := 97) (by omega)
  obtain ⟨g98, l98, u98⟩ := hb.get (i := 98) (by omega)
  obtain ⟨g99, l99, u99⟩ := hb.get (i := 99) (by omega)
  obtain ⟨g100, l100, u100⟩ := hb.get (i := 100) (by omega)
  obtain ⟨g101, l101, u101⟩ := hb.get (i := 101) (by omega)
  obtain ⟨g102, l102, u102⟩ := hb.get (i := 102) (by omega)
  obtain ⟨g103, l103, u103⟩ := hb.get (i := 103) (by omega)
  obtain ⟨g104, l104, u104⟩ := hb.get (i := 104) (by omega)
  obtain ⟨g105, l105, u105⟩ := hb.get (i := 105) (by omega)
  obtain ⟨g106, l106, u106⟩ := hb.get (i := 106) (by omega)
  obtain ⟨g107, l107, u107⟩ := hb.get (i := 107) (by omega)
  obtain ⟨g108, l108, u108⟩ := hb.get (i := 108) (by omega)
  obtain ⟨g109, l109, u109⟩ := hb.get (i := 109) (by omega)
  obtain ⟨g110, l110, u110⟩ := hb.get (i := 110) (by omega)
  obtain ⟨g111, l111, u111⟩ := hb.get (i := 111) (by omega)
  obtain ⟨g112, l112, u112⟩ := hb.get (i := 112) (by omega)
  obtain ⟨g113, l113, u113⟩ := hb.get (i := 113) (by omega)
  obtain ⟨g114, l114, u114⟩ := hb.get (i := 114) (by omega)
  obtain ⟨g115, l115, u115⟩ := hb.get (i := 115) (by omega)
  obtain ⟨g116, l116, u116⟩ := hb.get (i := 116) (by omega)
  obtain ⟨g117, l117, u117⟩ := hb.get (i := 117) (by omega)
  obtain ⟨g118, l118, u118⟩ := hb.get (i := 118) (by omega)
  obtain ⟨g119, l119, u119⟩ := hb.get (i := 119) (by omega)
  obtain ⟨g120, l120, u120⟩ := hb.get (i := 120) (by omega)
  obtain ⟨g121, l121, u121⟩ := hb.get (i := 121) (by omega)
  obtain ⟨g122, l122, u122⟩ := hb.get (i := 122) (by omega)
  obtain ⟨g123, l123, u123⟩ := hb.get (i := 123) (by omega)
  obtain ⟨g124, l124, u124⟩ := hb.get (i := 124) (by omega)
  obtain ⟨g125, l125, u125⟩ := hb.get (i := 125) (by omega)
  obtain ⟨g126, l126, u126⟩ := hb.get (i := 126) (by omega)
  obtain ⟨g127, l127, u127⟩ := hb.get (i := 127) (by omega)
  obtain ⟨⟨p0_0, ⟨p0_1, a0_1⟩, ⟨p0_2, a0_2⟩, ⟨p0_3, a0_3⟩, ⟨p0_4, a0_4⟩, ⟨p0_5, a0_5⟩, ⟨p0_6, a0_6⟩, p0_7, a0_7⟩, vl0⟩ := or_horner ⟨l96, u96⟩ ⟨l97, u97⟩ ⟨l98, u98⟩ ⟨l99, u99⟩ ⟨l100, u100⟩ ⟨l101, u101⟩ ⟨l102, u102⟩ ⟨l103, u103⟩
  have er0 : r8 (xs.drop 96) = intAt xs 96 + 256 * (intAt xs 97 + 256 * (intAt xs 98 + 256 * (intAt xs 99 + 256 * (intAt xs 100 + 256 * (intAt xs 101 + 256 * (intAt xs 102 + 256 * (intAt xs 103))))))) := by
    unfold r8
    rw [at_drop, at_drop, at_drop, at_drop, at_drop, at_drop, at_drop, at_drop]
  have w0 : (adI (slI (adI (slI (adI (slI (adI (slI (adI (slI (adI (slI (adI (slI (adI 0 (intAt xs 103)) 8) (intAt xs 102)) 8) (intAt xs 101)) 8) (intAt xs 100)) 8) (intAt xs 99)) 8) (intAt xs 98)) 8) (intAt xs 97)) 8) (intAt xs 96)) = r8 (xs.drop 96) := vl0.trans er0.symm
  obtain ⟨⟨p1_0, ⟨p1_1, a1_1⟩, ⟨p1_2, a1_2⟩, ⟨p1_3, a1_3⟩, ⟨p1_4, a1_4⟩, ⟨p1_5, a1_5⟩, ⟨p1_6, a1_6⟩, p1_7, a1_7⟩, vl1⟩ := or_horner z0 z0 z0 z0 ⟨l104, u104⟩ ⟨l105, u105⟩ ⟨l106, u106⟩ ⟨l107, u107⟩
  have er1 : r4 (xs.drop 104) = intAt xs 104 + 256 * (intAt xs 105 + 256 * (intAt xs 106 + 256 * (intAt xs 107))) := by
    unfold r4
    rw [at_drop, at_drop, at_drop, at_drop]
  have w1 : lowI .u32 (adI (slI (adI (slI (adI (slI (adI 0 (intAt xs 107)) 8) (intAt xs 106)) 8) (intAt xs 105)) 8) (intAt xs 104)) = r4 (xs.drop 104) := by rw [v4r, lw32 ⟨by omega, by omega⟩, er1]
  obtain ⟨⟨p2_0, ⟨p2_1, a2_1⟩, ⟨p2_2, a2_2⟩, ⟨p2_3, a2_3⟩, ⟨p2_4, a2_4⟩, ⟨p2_5, a2_5⟩, ⟨p2_6, a2_6⟩, p2_7, a2_7⟩, vl2⟩ := or_horner z0 z0 z0 z0 ⟨l108, u108⟩ ⟨l109, u109⟩ ⟨l110, u110⟩ ⟨l111, u111⟩
  have er2 : r4 (xs.drop 108) = intAt xs 108 + 256 * (intAt xs 109 + 256 * (intAt xs 110 + 256 * (intAt xs 111))) := by
    unfold r4
    rw [at_drop, at_drop, at_drop, at_drop]
  have w2 : lowI .u32 (adI (slI (adI (slI (adI (slI (adI 0 (intAt xs 111)) 8) (intAt xs 110)) 8) (intAt xs 109)) 8) (intAt xs 108)) = r4 (xs.drop 108) := by rw [v4r, lw32 ⟨by omega, by omega⟩, er2]
  obtain ⟨⟨p3_0, ⟨p3_1, a3_1⟩, ⟨p3_2, a3_2⟩, ⟨p3_3, a3_3⟩, ⟨p3_4, a3_4⟩, ⟨p3_5, a3_5⟩, ⟨p3_6, a3_6⟩, p3_7, a3_7⟩, vl3⟩ := or_horner z0 z0 z0 z0 ⟨l112, u112⟩ ⟨l113, u113⟩ ⟨l114, u114⟩ ⟨l115, u115⟩
  have er3 : r4 (xs.drop 112) = intAt xs 112 + 256 * (intAt xs 113 + 256 * (intAt xs 114 + 256 * (intAt xs 115))) := by
    unfold r4
    rw [at_drop, at_drop, at_drop, at_drop]
  have w3 : lowI .u32 (adI (slI (adI (slI (adI (slI (adI 0 (intAt xs 115)) 8) (intAt xs 114)) 8) (intAt xs 113)) 8) (intAt xs 112)) = r4 (xs.drop 112) := by rw [v4r, lw32 ⟨by omega, by omega⟩, er3]
  obtain ⟨⟨p4_0, ⟨p4_1, a4_1⟩, ⟨p4_2, a4_2⟩, ⟨p4_3, a4_3⟩, ⟨p4_4, a4_4⟩, ⟨p4_5, a4_5⟩, ⟨p4_6, a4_6⟩, p4_7, a4_7⟩, vl4⟩ := or_horner z0 z0 z0 z0 z0 z0 ⟨l116, u116⟩ ⟨l117, u117⟩
  have er4 : r2 (xs.drop 116) = intAt xs 116 + 256 * (intAt xs 117) := by
    unfold r2
    rw [at_drop, at_drop]
  have w4 : lowI .u16 (adI (slI (adI 0 (intAt xs 117)) 8) (intAt xs 116)) = r2 (xs.drop 116) := by rw [v2r, lw16 ⟨by omega, by omega⟩, er4]
  obtain ⟨⟨p5_0, ⟨p5_1, a5_1⟩, ⟨p5_2, a5_2⟩, ⟨p5_3, a5_3⟩, ⟨p5_4, a5_4⟩, ⟨p5_5, a5_5⟩, ⟨p5_6, a5_6⟩, p5_7, a5_7⟩, vl5⟩ := or_horner z0 z0 z0 z0 z0 z0 ⟨l118, u118⟩ ⟨l119, u119⟩
  have er5 : r2 (xs.drop 118) = intAt xs 118 + 256 * (intAt xs 119) := by
    unfold r2
    rw [at_drop, at_drop]
  have w5 : lowI .u16 (adI (slI (adI 0 (intAt xs 119)) 8) (intAt xs 118)) = r2 (xs.drop 118) := by rw [v2r, lw16 ⟨by omega, by omega⟩, er5]
  obtain ⟨⟨p6_0, ⟨p6_1, a6_1⟩, ⟨p6_2, a6_2⟩, ⟨p6_3, a6_3⟩, ⟨p6_4, a6_4⟩, ⟨p6_5, a6_5⟩, ⟨p6_6, a6_6⟩, p6_7, a6_7⟩, vl6⟩ := or_horner ⟨l120, u120⟩ ⟨l121, u121⟩ ⟨l122, u122⟩ ⟨l123, u123⟩ ⟨l124, u124⟩ ⟨l125, u125⟩ ⟨l126, u126⟩ ⟨l127, u127⟩
  have er6 : r8 (xs.drop 120) = intAt xs 120 + 256 * (intAt xs 121 + 256 * (intAt xs 122 + 256 * (intAt xs 123 + 256 * (intAt xs 124 + 256 * (intAt xs 125 + 256 * (intAt xs 126 + 256 * (intAt xs 127))))))) := by
    unfold r8
    rw [at_drop, at_drop, at_drop, at_drop, at_drop, at_drop, at_drop, at_drop]
  have w6 : (adI (slI (adI (slI (adI (slI (adI (slI (adI (slI (adI (slI (adI (slI (adI 0 (intAt xs 127)) 8) (intAt xs 126)) 8) (intAt xs 125)) 8) (intAt xs 124)) 8) (intAt xs 123)) 8) (intAt xs 122)) 8) (intAt xs 121)) 8) (intAt xs 120)) = r8 (xs.drop 120) := vl6.trans er6.symm
  have c0 : ∀ o, Byts ((xs.drop o).take 16) := fun o => (hb.drop o).take 16
  have c1 : ∀ o, Fl ((xs.drop o).take 16) := fun o => fl_byts (c0 o)
  have c2 : Byts (xs.take 16) := hb.take 16
  have c3 : Fl (xs.take 16) := fl_byts c2
  have hv : GrIs ⟨fun _ => rdV xs, []⟩ (rdV xs) [(0, ⟨.old, xs⟩)] (fun n => n) := GrIs.flat fun σ => rfl
  by_cases hk : c = 128
  · subst hk
    refine ⟨_, _, _, _, fun n => n, run_tri hX hT hL (rt_r_e xs) ?_ rfl, ?_⟩
    · repeat' (first | exact alls_nil | refine alls_cons ?_ ?_)
      all_goals first
        | with_reducible assumption
        | exact c0 _
        | exact c1 _
        | omega
        | (refine ⟨by omega, by omega, ?_⟩; with_reducible assumption)
        | (refine ⟨by omega, by omega, ?_⟩; simp only [rg, s0, s8, s16, s24, s32, s40, s48, s56]; omega)
        | (simp only [rg]; omega)
    · simp only [r8_take, r8_take8, List.drop_drop, w0, w1, w2, w3, w4, w5, w6]
      exact GrIs.flat fun σ => rfl
  · obtain ⟨k, rfl⟩ : ∃ k, c = k + 129 := ⟨c - 129, by omega⟩
    refine ⟨_, _, _, _, fun n => n, run_tri hX2 hT2 hL2 (rt_r_m xs k) ?_ rfl, ?_⟩
    · repeat' (first | exact alls_nil | refine alls_cons ?_ ?_)
      all_goals first
        | with_reducible assumption
        | exact c0 _
        | exact c1 _
        | omega
        | (refine ⟨by omega, by omega, ?_⟩; with_reducible assumption)
        | (refine ⟨by omega, by omega, ?_⟩; simp only [rg, s0, s8, s16, s24, s32, s40, s48, s56]; omega)
        | (simp only [rg]; omega)
    · simp only [r8_take, r8_take8, List.drop_drop, w0, w1, w2, w3, w4, w5, w6]
      exact GrIs.flat fun σ => rfl
theorem ra_i_run {xs : List Value} {c : Nat} (hb : Byts xs) (hl : xs.length = 128) (hc : 128 ≤ c ∧ c ≤ 9223372036854775807) : Ran Try.prog 16 [.slice (some ⟨0, 0, none⟩) 128 c] [(0, ⟨.old, xs⟩)] 1 ⟨fun _ => rdV xs, []⟩ := by
  have hX : XOkZ rrB Try.prog := noXz_ok rfl
  have hT : TOkZ rrB Try.prog := T_okV rfl acT_one
  have hL : LOkZ rrB Try.prog := noL_okV rfl
  have ex1 : xs.take 128 = xs := take_len hl
  have f1 := fl_byts hb
  have h := fun h0 => run_tri hX hT hL (ra_i_ok xs 128 c) h0 rfl
  rw [ex1] at h
  refine ⟨_, _, _, _, fun n => n, h ?_, GrIs.flat fun σ => rfl⟩
  simp only [Alls, avLen, ex1]
  repeat' (first | with_reducible exact trivial | with_reducible apply And.intro)
  all_goals first | with_reducible assumption | omega | with_reducible rfl | (rfl)
theorem rt_i_run {xs : List Value} {c : Nat} (hb : Byts xs) (hl : xs.length = 128) (hc : 128 ≤ c ∧ c ≤ 9223372036854775807) : Ran Try.prog 18 [.slice (some ⟨0, 0, none⟩) 128 c] [(0, ⟨.old, xs⟩)] 1 ⟨fun _ => rdV xs, []⟩ := by
  have hX : XOkZ rrB Try.prog := noXz_ok rfl
  have hT : TOkZ rrB Try.prog := T_okV rfl acT_one
  have hL : LOkZ rrB Try.prog := noL_okV rfl
  have ex1 : xs.take 128 = xs := take_len hl
  have f1 := fl_byts hb
  have h := fun h0 => run_tri hX hT hL (rt_i_ok xs 128 c) h0 rfl
  rw [ex1] at h
  refine ⟨_, _, _, _, fun n => n, h ?_, GrIs.flat fun σ => rfl⟩
  simp only [Alls, avLen, ex1]
  repeat' (first | with_reducible exact trivial | with_reducible apply And.intro)
  all_goals first | with_reducible assumption | omega | with_reducible rfl | (rfl)
theorem ne128 {n : Nat} (h : n ≠ 128) : ((n : Int) != 128) = true := by simp only [bne_iff_ne, ne_eq]; omega
theorem ra_i_gok : GOk Try.prog 16 [.s 1] (gS sRr) := by
  have hX : XOkZ rrB Try.prog := noXz_ok rfl
  have hT : TOkZ rrB Try.prog := T_okV rfl acT_one
  have hL : LOkZ rrB Try.prog := noL_okV rfl
  refine gS_ok (fun tp gr tp' ob hG ho => ?_) (fun xs n c tp gr tp' ob hG ho hfl hl0 hc => ?_)
  · unfold sRr at hG
    split at hG
    · simp only [Option.some.injEq, Prod.mk.injEq] at hG
      obtain ⟨rfl, rfl, rfl⟩ := hG
      exact ⟨_, _, _, _, fun n => n, run_tri hX hT hL ra_i_bn (by simp [Alls]) rfl, GrIs.flat fun σ => rfl⟩
    · simp only [Option.some.injEq, Prod.mk.injEq] at hG
      obtain ⟨rfl, rfl, rfl⟩ := hG
      exact absurd ho.2.1 (by decide)
    · cases hG
  · unfold sRr at hG
    split at hG
    · simp only [Option.some.injEq, Prod.mk.injEq] at hG
      obtain ⟨rfl, rfl, rfl⟩ := hG
      exact ⟨_, _, _, _, fun n => n, run_tri hX hT hL (ra_i_bad xs n c) ⟨ne128 ho.1, trivial⟩ rfl, GrIs.flat fun σ => rfl⟩
    · simp only [Option.some.injEq, Prod.mk.injEq] at hG
      obtain ⟨rfl, rfl, rfl⟩ := hG
      obtain ⟨hb, rfl, _⟩ := ho
      exact ra_i_run hb (by omega) hc
    · cases hG
theorem rt_i_gok : GOk Try.prog 18 [.s 1] (gS sRr) := by
  have hX : XOkZ rrB Try.prog := noXz_ok rfl
  have hT : TOkZ rrB Try.prog := T_okV rfl acT_one
  have hL : LOkZ rrB Try.prog := noL_okV rfl
  refine gS_ok (fun tp gr tp' ob hG ho => ?_) (fun xs n c tp gr tp' ob hG ho hfl hl0 hc => ?_)
  · unfold sRr at hG
    split at hG
    · simp only [Option.some.injEq, Prod.mk.injEq] at hG
      obtain ⟨rfl, rfl, rfl⟩ := hG
      exact ⟨_, _, _, _, fun n => n, run_tri hX hT hL rt_i_bn (by simp [Alls]) rfl, GrIs.flat fun σ => rfl⟩
    · simp only [Option.some.injEq, Prod.mk.injEq] at hG
      obtain ⟨rfl, rfl, rfl⟩ := hG
      exact absurd ho.2.1 (by decide)
    · cases hG
  · unfold sRr at hG
    split at hG
    · simp only [Option.some.injEq, Prod.mk.injEq] at hG
      obtain ⟨rfl, rfl, rfl⟩ := hG
      exact ⟨_, _, _, _, fun n => n, run_tri hX hT hL (rt_i_bad xs n c) ⟨ne128 ho.1, trivial⟩ rfl, GrIs.flat fun σ => rfl⟩
    · simp only [Option.some.injEq, Prod.mk.injEq] at hG
      obtain ⟨rfl, rfl, rfl⟩ := hG
      obtain ⟨hb, rfl, _⟩ := ho
      exact rt_i_run hb (by omega) hc
    · cases hG
end Go.Proofs.Ytgpgdkpfeoaidaa
