/-
  Chapter 02: a cursor that writes an account, a transfer: contracts that write into a row.
-/
import Derived.Test.YtgpgdkpfeoaidaaRecB
namespace Go.Proofs.Ytgpgdkpfeoaidaa
set_option linter.unusedSimpArgs false
set_option linter.unusedVariables false
set_option linter.unusedSectionVars false
open Go Go.RowKit

abbrev F2 := Int → Int → List Value
abbrev E2 := Int → Nat → List Value
def gWideX (F : F2) : List Value → Option (Nat × List Value × List Prop) := fun l => match l with
  | [.agg ⟨[.int .u64 a, .int .u64 b]⟩] => some (16, F a b, [F = p16])
  | _ => none
def gWriteX (E : E2) : List Value → Option (Nat × List Value × List Prop) := fun l => match l with
  | [.int .u64 a, .int .i64 s] => some (s.toNat, E a s.toNat, [s = 8 ∨ s = 4 ∨ s = 2, E = pEn])
  | _ => none
def cuX (F : F2) (E : E2) : TFun := orTz (mkPut 44 (gWideX F)) (mkPut 45 (gWriteX E))
theorem wideX_put (F : F2) : PutOk Try.prog 44 (gWideX F) := by
  intro rest k bs ob hg ho
  unfold gWideX at hg
  split at hg
  case h_2 => cases hg
  simp only [Option.some.injEq, Prod.mk.injEq] at hg
  obtain ⟨rfl, rfl, rfl⟩ := hg
  obtain ⟨rfl, _⟩ := ho
  exact wide_put _ _ _ [] rfl trivial
theorem writeX_put (E : E2) : PutOk Try.prog 45 (gWriteX E) := by
  intro rest k bs ob hg ho
  unfold gWriteX at hg
  split at hg
  case h_2 => cases hg
  rename_i a s
  simp only [Option.some.injEq, Prod.mk.injEq] at hg
  obtain ⟨rfl, rfl, rfl⟩ := hg
  obtain ⟨h1, rfl, _⟩ := ho
  exact write_put _ _ _ [s = 8 ∨ s = 4 ∨ s = 2] rfl ⟨h1, trivial⟩
theorem cuX_one (F : F2) (E : E2) : TOneZ Try.prog (cuX F E) := orTz_ok (mkPut_one (wideX_put F)) (mkPut_one (writeX_put E))
def cxV (F : F2) (E : E2) : Tv := ⟨cuX F E, noXz, noL, fun _ => [], orSy (lsSy 31 [(30, 0), (34, 0), (38, 0), (43, 0), (47, 0)]) (lsSy 32 [(30, 0), (34, 0), (38, 0), (43, 0), (47, 0)]), fun _ => [], fun _ => 0⟩
abbrev ku_a_R (F : F2) (E : E2) (cs : List Value) (L C : Nat) (a0 a1 a2 a3 a4 a5 a6 a7 a8 a9 a10 a11 a12 a13 a14 a15 a16 a17 a18 : Int) : Res ((Value × Rw) × Tape × List Prop) :=
  Res.ok ((Value.agg (Array.mk [Value.slice (some (Addr.mk 0 0 none)) (L + 16 + 16 + 16 + 16 + 16 + 16 + 8 + 4 + 4 + 4 + 2 + 2 + 8) C, Value.slice none 0 0]), Rw.mk Kd.shut (splice (splice (splice (splice (splice (splice
 (splice (splice (splice (splice (splice (splice (splice cs L (F a0 a1)) (L + 16) (F a2 a3)) (L + 16 + 16) (F a4 a5)) (L + 16 + 16 + 16) (F a6 a7)) (L + 16 + 16 + 16 + 16) (F a8 a9)) (L + 16 + 16 + 16 + 16 + 16) (F a10
 a11)) (L + 16 + 16 + 16 + 16 + 16 + 16) (E a12 (Int.toNat (8 : Int)))) (L + 16 + 16 + 16 + 16 + 16 + 16 + 8) (E a13 (Int.toNat (4 : Int)))) (L + 16 + 16 + 16 + 16 + 16 + 16 + 8 + 4) (E a14 (Int.toNat (4 : Int)))) (L + 16
 + 16 + 16 + 16 + 16 + 16 + 8 + 4 + 4) (E a15 (Int.toNat (4 : Int)))) (L + 16 + 16 + 16 + 16 + 16 + 16 + 8 + 4 + 4 + 4) (E a16 (Int.toNat (2 : Int)))) (L + 16 + 16 + 16 + 16 + 16 + 16 + 8 + 4 + 4 + 4 + 2) (E a17 (Int.toNat
 (2 : Int)))) (L + 16 + 16 + 16 + 16 + 16 + 16 + 8 + 4 + 4 + 4 + 2 + 2) (E a18 (Int.toNat (8 : Int))))), [], ((fun (q0 q1 q2 q3 : Prop) => [0 = 0, C = List.length cs, q0, L + 16 ≤ C, Byts cs, F = p16, 0 = 0, C =
 List.length (splice cs L (F a0 a1)), q0, L + 16 + 16 ≤ C, Byts (splice cs L (F a0 a1)), F = p16, 0 = 0, C = List.length (splice (splice cs L (F a0 a1)) (L + 16) (F a2 a3)), q0, L + 16 + 16 + 16 ≤ C, Byts (splice (splice
 cs L (F a0 a1)) (L + 16) (F a2 a3)), F = p16, 0 = 0, C = List.length (splice (splice (splice cs L (F a0 a1)) (L + 16) (F a2 a3)) (L + 16 + 16) (F a4 a5)), q0, L + 16 + 16 + 16 + 16 ≤ C, Byts (splice (splice (splice cs L
 (F a0 a1)) (L + 16) (F a2 a3)) (L + 16 + 16) (F a4 a5)), F = p16, 0 = 0, C = List.length (splice (splice (splice (splice cs L (F a0 a1)) (L + 16) (F a2 a3)) (L + 16 + 16) (F a4 a5)) (L + 16 + 16 + 16) (F a6 a7)), q0, L +
 16 + 16 + 16 + 16 + 16 ≤ C, Byts (splice (splice (splice (splice cs L (F a0 a1)) (L + 16) (F a2 a3)) (L + 16 + 16) (F a4 a5)) (L + 16 + 16 + 16) (F a6 a7)), F = p16, 0 = 0, C = List.length (splice (splice (splice (splice
 (splice cs L (F a0 a1)) (L + 16) (F a2 a3)) (L + 16 + 16) (F a4 a5)) (L + 16 + 16 + 16) (F a6 a7)) (L + 16 + 16 + 16 + 16) (F a8 a9)), q0, L + 16 + 16 + 16 + 16 + 16 + 16 ≤ C, Byts (splice (splice (splice (splice (splice
 cs L (F a0 a1)) (L + 16) (F a2 a3)) (L + 16 + 16) (F a4 a5)) (L + 16 + 16 + 16) (F a6 a7)) (L + 16 + 16 + 16 + 16) (F a8 a9)), F = p16, 0 = 0, C = List.length (splice (splice (splice (splice (splice (splice cs L (F a0
 a1)) (L + 16) (F a2 a3)) (L + 16 + 16) (F a4 a5)) (L + 16 + 16 + 16) (F a6 a7)) (L + 16 + 16 + 16 + 16) (F a8 a9)) (L + 16 + 16 + 16 + 16 + 16) (F a10 a11)), q0, L + 16 + 16 + 16 + 16 + 16 + 16 + 8 ≤ C, Byts (splice
 (splice (splice (splice (splice (splice cs L (F a0 a1)) (L + 16) (F a2 a3)) (L + 16 + 16) (F a4 a5)) (L + 16 + 16 + 16) (F a6 a7)) (L + 16 + 16 + 16 + 16) (F a8 a9)) (L + 16 + 16 + 16 + 16 + 16) (F a10 a11)), q1, E = pEn,
 rg IntKind.u64 a13, 0 = 0, C = List.length (splice (splice (splice (splice (splice (splice (splice cs L (F a0 a1)) (L + 16) (F a2 a3)) (L + 16 + 16) (F a4 a5)) (L + 16 + 16 + 16) (F a6 a7)) (L + 16 + 16 + 16 + 16) (F a8
 a9)) (L + 16 + 16 + 16 + 16 + 16) (F a10 a11)) (L + 16 + 16 + 16 + 16 + 16 + 16) (E a12 (Int.toNat (8 : Int)))), q0, L + 16 + 16 + 16 + 16 + 16 + 16 + 8 + 4 ≤ C, Byts (splice (splice (splice (splice (splice (splice
 (splice cs L (F a0 a1)) (L + 16) (F a2 a3)) (L + 16 + 16) (F a4 a5)) (L + 16 + 16 + 16) (F a6 a7)) (L + 16 + 16 + 16 + 16) (F a8 a9)) (L + 16 + 16 + 16 + 16 + 16) (F a10 a11)) (L + 16 + 16 + 16 + 16 + 16 + 16) (E a12
 (Int.toNat (8 : Int)))), q2, E = pEn, rg IntKind.u64 a14, 0 = 0, C = List.length (splice (splice (splice (splice (splice (splice (splice (splice cs L (F a0 a1)) (L + 16) (F a2 a3)) (L + 16 + 16) (F a4 a5)) (L + 16 + 16 +
 16) (F a6 a7)) (L + 16 + 16 + 16 + 16) (F a8 a9)) (L + 16 + 16 + 16 + 16 + 16) (F a10 a11)) (L + 16 + 16 + 16 + 16 + 16 + 16) (E a12 (Int.toNat (8 : Int)))) (L + 16 + 16 + 16 + 16 + 16 + 16 + 8) (E a13 (Int.toNat (4 :
 Int)))), q0, L + 16 + 16 + 16 + 16 + 16 + 16 + 8 + 4 + 4 ≤ C, Byts (splice (splice (splice (splice (splice (splice (splice (splice cs L (F a0 a1)) (L + 16) (F a2 a3)) (L + 16 + 16) (F a4 a5)) (L + 16 + 16 + 16) (F a6 a7))
 (L + 16 + 16 + 16 + 16) (F a8 a9)) (L + 16 + 16 + 16 + 16 + 16) (F a10 a11)) (L + 16 + 16 + 16 + 16 + 16 + 16) (E a12 (Int.toNat (8 : Int)))) (L + 16 + 16 + 16 + 16 + 16 + 16 + 8) (E a13 (Int.toNat (4 : Int)))), q2, E =
 pEn, rg IntKind.u64 a15, 0 = 0, C = List.length (splice (splice (splice (splice (splice (splice (splice (splice (splice cs L (F a0 a1)) (L + 16) (F a2 a3)) (L + 16 + 16) (F a4 a5)) (L + 16 + 16 + 16) (F a6 a7)) (L + 16 +
 16 + 16 + 16) (F a8 a9)) (L + 16 + 16 + 16 + 16 + 16) (F a10 a11)) (L + 16 + 16 + 16 + 16 + 16 + 16) (E a12 (Int.toNat (8 : Int)))) (L + 16 + 16 + 16 + 16 + 16 + 16 + 8) (E a13 (Int.toNat (4 : Int)))) (L + 16 + 16 + 16 +
 16 + 16 + 16 + 8 + 4) (E a14 (Int.toNat (4 : Int)))), q0, L + 16 + 16 + 16 + 16 + 16 + 16 + 8 + 4 + 4 + 4 ≤ C, Byts (splice (splice (splice (splice (splice (splice (splice (splice (splice cs L (F a0 a1)) (L + 16) (F a2
 a3)) (L + 16 + 16) (F a4 a5)) (L + 16 + 16 + 16) (F a6 a7)) (L + 16 + 16 + 16 + 16) (F a8 a9)) (L + 16 + 16 + 16 + 16 + 16) (F a10 a11)) (L + 16 + 16 + 16 + 16 + 16 + 16) (E a12 (Int.toNat (8 : Int)))) (L + 16 + 16 + 16 +
 16 + 16 + 16 + 8) (E a13 (Int.toNat (4 : Int)))) (L + 16 + 16 + 16 + 16 + 16 + 16 + 8 + 4) (E a14 (Int.toNat (4 : Int)))), q2, E = pEn, rg IntKind.u64 a16, 0 = 0, C = List.length (splice (splice (splice (splice (splice
 (splice (splice (splice (splice (splice cs L (F a0 a1)) (L + 16) (F a2 a3)) (L + 16 + 16) (F a4 a5)) (L + 16 + 16 + 16) (F a6 a7)) (L + 16 + 16 + 16 + 16) (F a8 a9)) (L + 16 + 16 + 16 + 16 + 16) (F a10 a11)) (L + 16 + 16
 + 16 + 16 + 16 + 16) (E a12 (Int.toNat (8 : Int)))) (L + 16 + 16 + 16 + 16 + 16 + 16 + 8) (E a13 (Int.toNat (4 : Int)))) (L + 16 + 16 + 16 + 16 + 16 + 16 + 8 + 4) (E a14 (Int.toNat (4 : Int)))) (L + 16 + 16 + 16 + 16 + 16
 + 16 + 8 + 4 + 4) (E a15 (Int.toNat (4 : Int)))), q0, L + 16 + 16 + 16 + 16 + 16 + 16 + 8 + 4 + 4 + 4 + 2 ≤ C, Byts (splice (splice (splice (splice (splice (splice (splice (splice (splice (splice cs L (F a0 a1)) (L + 16)
 (F a2 a3)) (L + 16 + 16) (F a4 a5)) (L + 16 + 16 + 16) (F a6 a7)) (L + 16 + 16 + 16 + 16) (F a8 a9)) (L + 16 + 16 + 16 + 16 + 16) (F a10 a11)) (L + 16 + 16 + 16 + 16 + 16 + 16) (E a12 (Int.toNat (8 : Int)))) (L + 16 + 16
 + 16 + 16 + 16 + 16 + 8) (E a13 (Int.toNat (4 : Int)))) (L + 16 + 16 + 16 + 16 + 16 + 16 + 8 + 4) (E a14 (Int.toNat (4 : Int)))) (L + 16 + 16 + 16 + 16 + 16 + 16 + 8 + 4 + 4) (E a15 (Int.toNat (4 : Int)))), q3, E = pEn,
 rg IntKind.u64 a17, 0 = 0, C = List.length (splice (splice (splice (splice (splice (splice (splice (splice (splice (splice (splice cs L (F a0 a1)) (L + 16) (F a2 a3)) (L + 16 + 16) (F a4 a5)) (L + 16 + 16 + 16) (F a6 a7))
 (L + 16 + 16 + 16 + 16) (F a8 a9)) (L + 16 + 16 + 16 + 16 + 16) (F a10 a11)) (L + 16 + 16 + 16 + 16 + 16 + 16) (E a12 (Int.toNat (8 : Int)))) (L + 16 + 16 + 16 + 16 + 16 + 16 + 8) (E a13 (Int.toNat (4 : Int)))) (L + 16 +
 16 + 16 + 16 + 16 + 16 + 8 + 4) (E a14 (Int.toNat (4 : Int)))) (L + 16 + 16 + 16 + 16 + 16 + 16 + 8 + 4 + 4) (E a15 (Int.toNat (4 : Int)))) (L + 16 + 16 + 16 + 16 + 16 + 16 + 8 + 4 + 4 + 4) (E a16 (Int.toNat (2 : Int)))),
 q0, L + 16 + 16 + 16 + 16 + 16 + 16 + 8 + 4 + 4 + 4 + 2 + 2 ≤ C, Byts (splice (splice (splice (splice (splice (splice (splice (splice (splice (splice (splice cs L (F a0 a1)) (L + 16) (F a2 a3)) (L + 16 + 16) (F a4 a5)) (L
 + 16 + 16 + 16) (F a6 a7)) (L + 16 + 16 + 16 + 16) (F a8 a9)) (L + 16 + 16 + 16 + 16 + 16) (F a10 a11)) (L + 16 + 16 + 16 + 16 + 16 + 16) (E a12 (Int.toNat (8 : Int)))) (L + 16 + 16 + 16 + 16 + 16 + 16 + 8) (E a13
 (Int.toNat (4 : Int)))) (L + 16 + 16 + 16 + 16 + 16 + 16 + 8 + 4) (E a14 (Int.toNat (4 : Int)))) (L + 16 + 16 + 16 + 16 + 16 + 16 + 8 + 4 + 4) (E a15 (Int.toNat (4 : Int)))) (L + 16 + 16 + 16 + 16 + 16 + 16 + 8 + 4 + 4 +
 4) (E a16 (Int.toNat (2 : Int)))), q3, E = pEn, 0 = 0, C = List.length (splice (splice (splice (splice (splice (splice (splice (splice (splice (splice (splice (splice cs L (F a0 a1)) (L + 16) (F a2 a3)) (L + 16 + 16) (F
 a4 a5)) (L + 16 + 16 + 16) (F a6 a7)) (L + 16 + 16 + 16 + 16) (F a8 a9)) (L + 16 + 16 + 16 + 16 + 16) (F a10 a11)) (L + 16 + 16 + 16 + 16 + 16 + 16) (E a12 (Int.toNat (8 : Int)))) (L + 16 + 16 + 16 + 16 + 16 + 16 + 8) (E
 a13 (Int.toNat (4 : Int)))) (L + 16 + 16 + 16 + 16 + 16 + 16 + 8 + 4) (E a14 (Int.toNat (4 : Int)))) (L + 16 + 16 + 16 + 16 + 16 + 16 + 8 + 4 + 4) (E a15 (Int.toNat (4 : Int)))) (L + 16 + 16 + 16 + 16 + 16 + 16 + 8 + 4 +
 4 + 4) (E a16 (Int.toNat (2 : Int)))) (L + 16 + 16 + 16 + 16 + 16 + 16 + 8 + 4 + 4 + 4 + 2) (E a17 (Int.toNat (2 : Int)))), q0, L + 16 + 16 + 16 + 16 + 16 + 16 + 8 + 4 + 4 + 4 + 2 + 2 + 8 ≤ C, Byts (splice (splice (splice
 (splice (splice (splice (splice (splice (splice (splice (splice (splice cs L (F a0 a1)) (L + 16) (F a2 a3)) (L + 16 + 16) (F a4 a5)) (L + 16 + 16 + 16) (F a6 a7)) (L + 16 + 16 + 16 + 16) (F a8 a9)) (L + 16 + 16 + 16 + 16
 + 16) (F a10 a11)) (L + 16 + 16 + 16 + 16 + 16 + 16) (E a12 (Int.toNat (8 : Int)))) (L + 16 + 16 + 16 + 16 + 16 + 16 + 8) (E a13 (Int.toNat (4 : Int)))) (L + 16 + 16 + 16 + 16 + 16 + 16 + 8 + 4) (E a14 (Int.toNat (4 :
 Int)))) (L + 16 + 16 + 16 + 16 + 16 + 16 + 8 + 4 + 4) (E a15 (Int.toNat (4 : Int)))) (L + 16 + 16 + 16 + 16 + 16 + 16 + 8 + 4 + 4 + 4) (E a16 (Int.toNat (2 : Int)))) (L + 16 + 16 + 16 + 16 + 16 + 16 + 8 + 4 + 4 + 4 + 2)
 (E a17 (Int.toNat (2 : Int)))), q1, E = pEn]) (C ≤ 9223372036854775807) ((8 : Int) = (8 : Int) ∨ (8 : Int) = (4 : Int) ∨ (8 : Int) = (2 : Int)) ((4 : Int) = (8 : Int) ∨ (4 : Int) = (4 : Int) ∨ (4 : Int) = (2 : Int)) ((2 :
 Int) = (8 : Int) ∨ (2 : Int) = (4 : Int) ∨ (2 : Int) = (2 : Int))))
theorem ku_a (F : F2) (E : E2) (cs : List Value) (L C : Nat) (a0 a1 a2 a3 a4 a5 a6 a7 a8 a9 a10 a11 a12 a13 a14 a15 a16 a17 a18 : Int) : prjR 0 (runZ (cxV F E) Try.prog 9 31 [cuA 0 L C, rcdV a0 a1 a2 a3 a4 a5 a6 a7 a8 a9 a10 a11 a12 a13 a14 a15 a16 a17 a18] [(0, ⟨.shut, cs⟩)] 3 []) = ku_a_R F E cs L C a0 a1 a2 a3 a4 a5 a6 a7 a8 a9 a10 a11 a12 a13 a14 a15 a16 a17 a18 := by kernel_rfl
theorem ku_t (F : F2) (E : E2) (cs : List Value) (L C : Nat) (a0 a1 a2 a3 a4 a5 a6 a7 a8 a9 a10 a11 a12 a13 a14 a15 a16 a17 a18 : Int) : prjR 0 (runZ (cxV F E) Try.prog 9 32 [cuA 0 L C, rcdV a0 a1 a2 a3 a4 a5 a6 a7 a8 a9 a10 a11 a12 a13 a14 a15 a16 a17 a18] [(0, ⟨.shut, cs⟩)] 3 []) = ku_a_R F E cs L C a0 a1 a2 a3 a4 a5 a6 a7 a8 a9 a10 a11 a12 a13 a14 a15 a16 a17 a18 := by kernel_rfl
theorem splice_fit {cs bs : List Value} {L : Nat} (h : L + bs.length ≤ cs.length) : splice cs L bs = cs.take L ++ bs ++ cs.drop (L + bs.length) := by
  have e : cs = cs.take L ++ cs.drop L := (List.take_append_drop L cs).symm
  have hl : (cs.take L).length = L := by rw [List.length_take]; omega
  conv => lhs; rw [e]
  rw [splice_at hl (by rw [List.length_drop]; omega), List.drop_drop]
theorem splice_byts {cs bs : List Value} {L k : Nat} (hc : Byts cs) (hb : Byts bs) (hk : bs.length = k) (h : L + k ≤ cs.length) : Byts (splice cs L bs) := by
  rw [splice_fit (by omega)]
  exact ((hc.take _).app hb).app (hc.drop _)
def gAcc : List Value → Option (Nat × List Value × List Prop) := fun l => match l with
  | [.agg ⟨[.int .u64 a0, .int .u64 a1, .int .u64 a2, .int .u64 a3, .int .u64 a4, .int .u64 a5, .int .u64 a6, .int .u64 a7, .int .u64 a8, .int .u64 a9, .int .u64 a10, .int .u64 a11, .int .u64 a12, .int .u32 a13, .int .u32 a14, .int .u32 a15, .int .u16 a16, .int .u16 a17, .int .u64 a18]⟩] => some (128, rcdB a0 a1 a2 a3 a4 a5 a6 a7 a8 a9 a10 a11 a12 a13 a14 a15 a16 a17 a18, [recW a13 a14 a15 a16 a17])
  | _ => none
theorem rcd_flat (a0 a1 a2 a3 a4 a5 a6 a7 a8 a9 a10 a11 a12 a13 a14 a15 a16 a17 a18 : Int) : ∀ σ : Sg, renL σ [rcdV a0 a1 a2 a3 a4 a5 a6 a7 a8 a9 a10 a11 a12 a13 a14 a15 a16 a17 a18] = some [rcdV a0 a1 a2 a3 a4 a5 a6 a7 a8 a9 a10 a11 a12 a13 a14 a15 a16 a17 a18] := fun σ => rfl
set_option maxHeartbeats 1000000 in
theorem ku_a_put : PutOk Try.prog 31 gAcc := by
  intro rest k bs ob hg ho
  unfold gAcc at hg
  split at hg
  case h_2 => cases hg
  rename_i a0 a1 a2 a3 a4 a5 a6 a7 a8 a9 a10 a11 a12 a13 a14 a15 a16 a17 a18
  simp only [Option.some.injEq, Prod.mk.injEq] at hg
  obtain ⟨rfl, rfl, rfl⟩ := hg
  obtain ⟨⟨⟨x0, y0⟩, ⟨x1, y1⟩, ⟨x2, y2⟩, ⟨x3, y3⟩, x4, y4⟩, _⟩ := ho
  refine ⟨rcd_flat a0 a1 a2 a3 a4 a5 a6 a7 a8 a9 a10 a11 a12 a13 a14 a15 a16 a17 a18, rcdB_Byts a0 a1 a2 a3 a4 a5 a6 a7 a8 a9 a10 a11 a12 a13 a14 a15 a16 a17 a18, fun cs L hb hm hle => ?_⟩
  have hX : ∀ F E, XOkZ (cxV F E) Try.prog := fun F E => noXz_ok rfl
  have hT : ∀ F E, TOkZ (cxV F E) Try.prog := fun F E => T_okV rfl (cuX_one F E)
  have hL : ∀ F E, LOkZ (cxV F E) Try.prog := fun F E => noL_okV rfl
  obtain ⟨F, hF⟩ : ∃ F : F2, F = p16 := ⟨_, rfl⟩
  obtain ⟨E, hE⟩ : ∃ E : E2, E = pEn := ⟨_, rfl⟩
  have lF : ∀ a b, (F a b).length = 16 := fun a b => by rw [hF]; rfl
  have bF : ∀ a b, Byts (F a b) := fun a b => by rw [hF]; exact (d8_Byts _).app (d8_Byts _)
  have l8 : ∀ a, (E a 8).length = 8 := fun a => by rw [hE]; rfl
  have b8 : ∀ a, Byts (E a 8) := fun a => by rw [hE]; exact e8_Byts a
  have l4 : ∀ a, (E a 4).length = 4 := fun a => by rw [hE]; rfl
  have b4 : ∀ a, Byts (E a 4) := fun a => by rw [hE]; exact e4_Byts a
  have l2 : ∀ a, (E a 2).length = 2 := fun a => by rw [hE]; rfl
  have b2 : ∀ a, Byts (E a 2) := fun a => by rw [hE]; exact e2_Byts a
  have t8 : Int.toNat 8 = 8 := rfl
  have t4 : Int.toNat 4 = 4 := rfl
  have t2 : Int.toNat 2 = 2 := rfl
  have h0 : Byts (splice cs L (F a0 a1)) := splice_byts hb (bF a0 a1) (lF a0 a1) (by (try simp only [splice_length]); omega)
  have h1 : Byts (splice (splice cs L (F a0 a1)) (L + 16) (F a2 a3)) := splice_byts h0 (bF a2 a3) (lF a2 a3) (by (try simp only [splice_length]); omega)
  have e1 : splice (splice cs L ((F a0 a1))) (L + 16) (F a2 a3) = splice cs L ((F a0 a1) ++ F a2 a3) := splice_two (by simp only [List.length_append, lF, l8, l4, l2]) (by simp only [lF, l8, l4, l2]; omega)
  have h2 : Byts (splice (splice (splice cs L (F a0 a1)) (L + 16) (F a2 a3)) (L + 32) (F a4 a5)) := splice_byts h1 (bF a4 a5) (lF a4 a5) (by (try simp only [splice_length]); omega)
  have e2 : splice (splice cs L (((F a0 a1) ++ F a2 a3))) (L + 32) (F a4 a5) = splice cs L (((F a0 a1) ++ F a2 a3) ++ F a4 a5) := splice_two (by simp only [List.length_append, lF, l8, l4, l2]) (by simp only [lF, l8, l4, l2]; omega)
  have h3 : Byts (splice (splice (splice (splice cs L (F a0 a1)) (L + 16) (F a2 a3)) (L + 32) (F a4 a5)) (L + 48) (F a6 a7)) := splice_byts h2 (bF a6 a7) (lF a6 a7) (by (try simp only [splice_length]); omega)
  have e3 : splice (splice cs L ((((F a0 a1) ++ F a2 a3) ++ F a4 a5))) (L + 48) (F a6 a7) = splice cs L ((((F a0 a1) ++ F a2 a3) ++ F a4 a5) ++ F a6 a7) := splice_two (by simp only [List.length_append, lF, l8, l4, l2]) (by simp only [lF, l8, l4, l2]; omega)
  have h4 : Byts (splice (splice (splice (splice (splice cs L (F a0 a1)) (L + 16) (F a2 a3)) (L + 32) (F a4 a5)) (L + 48) (F a6 a7)) (L + 64) (F a8 a9)) := splice_byts h3 (bF a8 a9) (lF a8 a9) (by (try simp only [splice_length]); omega)
  have e4 : splice (splice cs L (((((F a0 a1) ++ F a2 a3) ++ F a4 a5) ++ F a6 a7))) (L + 64) (F a8 a9) = splice cs L (((((F a0 a1) ++ F a2 a3) ++ F a4 a5) ++ F a6 a7) ++ F a8 a9) := splice_two (by simp only [List.length_append, lF, l8, l4, l2]) (by simp only [lF, l8, l4, l2]; omega)
  have h5 : Byts (splice (splice (splice (splice (splice (splice cs L (F a0 a1)) (L + 16) (F a2 a3)) (L + 32) (F a4 a5)) (L + 48) (F a6 a7)) (L + 64) (F a8 a9)) (L + 80) (F a10 a11)) := splice_byts h4 (bF a10 a11) (lF a10 a11) (by (try simp only [splice_length]); omega)
  have e5 : splice (splice cs L ((((((F a0 a1) ++ F a2 a3) ++ F a4 a5) ++ F a6 a7) ++ F a8 a9))) (L + 80) (F a10 a11) = splice cs L ((((((F a0 a1) ++ F a2 a3) ++ F a4 a5) ++ F a6 a7) ++ F a8 a9) ++ F a10 a11) := splice_two (by simp only [List.length_append, lF, l8, l4, l2]) (by simp only [lF, l8, l4, l2]; omega)
  have h6 : Byts (splice (splice (splice (splice (splice (splice (splice cs L (F a0 a1)) (L + 16) (F a2 a3)) (L + 32) (F a4 a5)) (L + 48) (F a6 a7)) (L + 64) (F a8 a9)) (L + 80) (F a10 a11)) (L + 96) (E a12 8)) := splice_byts h5 (b8 a12) (l8 a12) (by (try simp only [splice_length]); omega)
  have e6 : splice (splice cs L (((((((F a0 a1) ++ F a2 a3) ++ F a4 a5) ++ F a6 a7) ++ F a8 a9) ++ F a10 a11))) (L + 96) (E a12 8) = splice cs L (((((((F a0 a1) ++ F a2 a3) ++ F a4 a5) ++ F a6 a7) ++ F a8 a9) ++ F a10 a11) ++ E a12 8) := splice_two (by simp only [List.length_append, lF, l8, l4, l2]) (by simp only [lF, l8, l4, l2]; omega)
  have h7 : Byts (splice (splice (splice (splice (splice (splice (splice (splice cs L (F a0 a1)) (L + 16) (F a2 a3)) (L + 32) (F a4 a5)) (L + 48) (F a6 a7)) (L + 64) (F a8 a9)) (L + 80) (F a10 a11)) (L + 96) (E a12 8)) (L + 104) (E a13 4)) := splice_byts h6 (b4 a13) (l4 a13) (by (try simp only [splice_length]); omega)
  have e7 : splice (splice cs L ((((((((F a0 a1) ++ F a2 a3) ++ F a4 a5) ++ F a6 a7) ++ F a8 a9) ++ F a10 a11) ++ E a12 8))) (L + 104) (E a13 4) = splice cs L ((((((((F a0 a1) ++ F a2 a3) ++ F a4 a5) ++ F a6 a7) ++ F a8 a9) ++ F a10 a11) ++ E a12 8) ++ E a13 4) := splice_two (by simp only [List.length_append, lF, l8, l4, l2]) (by simp only [lF, l8, l4, l2]; omega)
  have h8 : Byts (splice (splice (splice (splice (splice (splice (splice (splice (splice cs L (F a0 a1)) (L + 16) (F a2 a3)) (L + 32) (F a4 a5)) (L + 48) (F a6 a7)) (L + 64) (F a8 a9)) (L + 80) (F a10 a11)) (L + 96) (E a12 8)) (L + 104) (E a13 4)) (L + 108) (E a14 4)) := splice_byts h7 (b4 a14) (l4 a14) (by (try simp only [splice_length]); omega)
  have e8 : splice (splice cs L (((((((((F a0 a1) ++ F a2 a3) ++ F a4 a5) ++ F a6 a7) ++ F a8 a9) ++ F a10 a11) ++ E a12 8) ++ E a13 4))) (L + 108) (E a14 4) = splice cs L (((((((((F a0 a1) ++ F a2 a3) ++ F a4 a5) ++ F a6 a7) ++ F a8 a9) ++ F a10 a11) ++ E a12 8) ++ E a13 4) ++ E a14 4) := splice_two (by simp only [List.length_append, lF, l8, l4, l2]) (by simp only [lF, l8, l4, l2]; omega)
  have h9 : Byts (splice (splice (splice (splice (splice (splice (splice (splice (splice (splice cs L (F a0 a1)) (L + 16) (F a2 a3)) (L + 32) (F a4 a5)) (L + 48) (F a6 a7)) (L + 64) (F a8 a9)) (L + 80) (F a10 a11)) (L + 96) (E a12 8)) (L + 104) (E a13 4)) (L + 108) (E a14 4)) (L + 112) (E a15 4)) := splice_byts h8 (b4 a15) (l4 a15) (by (try simp only [splice_length]); omega)
  have e9 : splice (splice cs L ((((((((((F a0 a1) ++ F a2 a3) ++ F a4 a5) ++ F a6 a7) ++ F a8 a9) ++ F a10 a11) ++ E a12 8) ++ E a13 4) ++ E a14 4))) (L + 112) (E a15 4) = splice cs L ((((((((((F a0 a1) ++ F a2 a3) ++ F a4 a5) ++ F a6 a7) ++ F a8 a9) ++ F a10 a11) ++ E a12 8) ++ E a13 4) ++ E a14 4) ++ E a15 4) := splice_two (by simp only [List.length_append, lF, l8, l4, l2]) (by simp only [lF, l8, l4, l2]; omega)
  have h10 : Byts (splice (splice (splice (splice (splice (splice (splice (splice (splice (splice (splice cs L (F a0 a1)) (L + 16) (F a2 a3)) (L + 32) (F a4 a5)) (L + 48) (F a6 a7)) (L + 64) (F a8 a9)) (L + 80) (F a10 a11)) (L + 96) (E a12 8)) (L + 104) (E a13 4)) (L + 108) (E a14 4)) (L + 112) (E a15 4)) (L + 116) (E a16 2)) := splice_byts h9 (b2 a16) (l2 a16) (by (try simp only [splice_length]); omega)
  have e10 : splice (splice cs L (((((((((((F a0 a1) ++ F a2 a3) ++ F a4 a5) ++ F a6 a7) ++ F a8 a9) ++ F a10 a11) ++ E a12 8) ++ E a13 4) ++ E a14 4) ++ E a15 4))) (L + 116) (E a16 2) = splice cs L (((((((((((F a0 a1) ++ F a2 a3) ++ F a4 a5) ++ F a6 a7) ++ F a8 a9) ++ F a10 a11) ++ E a12 8) ++ E a13 4) ++ E a14 4) ++ E a15 4) ++ E a16 2) := splice_two (by simp only [List.length_append, lF, l8, l4, l2]) (by simp only [lF, l8, l4, l2]; omega)
  have h11 : Byts (splice (splice (splice (splice (splice (splice (splice (splice (splice (splice (splice (splice cs L (F a0 a1)) (L + 16) (F a2 a3)) (L + 32) (F a4 a5)) (L + 48) (F a6 a7)) (L + 64) (F a8 a9)) (L + 80) (F a10 a11)) (L + 96) (E a12 8)) (L + 104) (E a13 4)) (L + 108) (E a14 4)) (L + 112) (E a15 4)) (L + 116) (E a16 2)) (L + 118) (E a17 2)) := splice_byts h10 (b2 a17) (l2 a17) (by (try simp only [splice_length]); omega)
  have e11 : splice (splice cs L ((((((((((((F a0 a1) ++ F a2 a3) ++ F a4 a5) ++ F a6 a7) ++ F a8 a9) ++ F a10 a11) ++ E a12 8) ++ E a13 4) ++ E a14 4) ++ E a15 4) ++ E a16 2))) (L + 118) (E a17 2) = splice cs L ((((((((((((F a0 a1) ++ F a2 a3) ++ F a4 a5) ++ F a6 a7) ++ F a8 a9) ++ F a10 a11) ++ E a12 8) ++ E a13 4) ++ E a14 4) ++ E a15 4) ++ E a16 2) ++ E a17 2) := splice_two (by simp only [List.length_append, lF, l8, l4, l2]) (by simp only [lF, l8, l4, l2]; omega)
  have e12 : splice (splice cs L (((((((((((((F a0 a1) ++ F a2 a3) ++ F a4 a5) ++ F a6 a7) ++ F a8 a9) ++ F a10 a11) ++ E a12 8) ++ E a13 4) ++ E a14 4) ++ E a15 4) ++ E a16 2) ++ E a17 2))) (L + 120) (E a18 8) = splice cs L (((((((((((((F a0 a1) ++ F a2 a3) ++ F a4 a5) ++ F a6 a7) ++ F a8 a9) ++ F a10 a11) ++ E a12 8) ++ E a13 4) ++ E a14 4) ++ E a15 4) ++ E a16 2) ++ E a17 2) ++ E a18 8) := splice_two (by simp only [List.length_append, lF, l8, l4, l2]) (by simp only [lF, l8, l4, l2]; omega)
  have eR : (((((((((((((F a0 a1) ++ F a2 a3) ++ F a4 a5) ++ F a6 a7) ++ F a8 a9) ++ F a10 a11) ++ E a12 8) ++ E a13 4) ++ E a14 4) ++ E a15 4) ++ E a16 2) ++ E a17 2) ++ E a18 8) = rcdB a0 a1 a2 a3 a4 a5 a6 a7 a8 a9 a10 a11 a12 a13 a14 a15 a16 a17 a18 := by
    rw [hF, hE]
    unfold rcdB p16 pEn
    simp only [List.append_assoc]
    rfl
  obtain ⟨h', nx', d, T, hl⟩ := run_row (hX F E) (hT F E) (hL F E) (ku_a F E cs L cs.length a0 a1 a2 a3 a4 a5 a6 a7 a8 a9 a10 a11 a12 a13 a14 a15 a16 a17 a18) (by
    simp only [t8, t4, t2, Nat.add_assoc, Nat.reduceAdd, splice_length]
    repeat' (first | exact alls_nil | refine alls_cons ?_ ?_)
    all_goals first | with_reducible rfl | with_reducible assumption | omega | (refine ⟨?_, ?_⟩ <;> omega) | (simp only [rg]; omega) | (simp; done)) rfl
  refine ⟨h', nx', d, ?_, ?_⟩
  · simp only [Nat.add_assoc, Nat.reduceAdd] at T
    exact T
  · rw [hl]
    simp only [t8, t4, t2, Nat.add_assoc, Nat.reduceAdd]
    rw [e1, e2, e3, e4, e5, e6, e7, e8, e9, e10, e11, e12, eR]
set_option maxHeartbeats 1000000 in
theorem ku_t_put : PutOk Try.prog 32 gAcc := by
  intro rest k bs ob hg ho
  unfold gAcc at hg
  split at hg
  case h_2 => cases hg
  rename_i a0 a1 a2 a3 a4 a5 a6 a7 a8 a9 a10 a11 a12 a13 a14 a15 a16 a17 a18
  simp only [Option.some.injEq, Prod.mk.injEq] at hg
  obtain ⟨rfl, rfl, rfl⟩ := hg
  obtain ⟨⟨⟨x0, y0⟩, ⟨x1, y1⟩, ⟨x2, y2⟩, ⟨x3, y3⟩, x4, y4⟩, _⟩ := ho
  refine ⟨rcd_flat a0 a1 a2 a3 a4 a5 a6 a7 a8 a9 a10 a11 a12 a13 a14 a15 a16 a17 a18, rcdB_Byts a0 a1 a2 a3 a4 a5 a6 a7 a8 a9 a10 a11 a12 a13 a14 a15 a16 a17 a18, fun cs L hb hm hle => ?_⟩
  have hX : ∀ F E, XOkZ (cxV F E) Try.prog := fun F E => noXz_ok rfl
  have hT : ∀ F E, TOkZ (cxV F E) Try.prog := fun F E => T_okV rfl (cuX_one F E)
  have hL : ∀ F E, LOkZ (cxV F E) Try.prog := fun F E => noL_okV rfl
  obtain ⟨F, hF⟩ : ∃ F : F2, F = p16 := ⟨_, rfl⟩
  obtain ⟨E, hE⟩ : ∃ E : E2, E = pEn := ⟨_, rfl⟩
  have lF : ∀ a b, (F a b).length = 16 := fun a b => by rw [hF]; rfl
  have bF : ∀ a b, Byts (F a b) := fun a b => by rw [hF]; exact (d8_Byts _).app (d8_Byts _)
  have l8 : ∀ a, (E a 8).length = 8 := fun a => by rw [hE]; rfl
  have b8 : ∀ a, Byts (E a 8) := fun a => by rw [hE]; exact e8_Byts a
  have l4 : ∀ a, (E a 4).length = 4 := fun a => by rw [hE]; rfl
  have b4 : ∀ a, Byts (E a 4) := fun a => by rw [hE]; exact e4_Byts a
  have l2 : ∀ a, (E a 2).length = 2 := fun a => by rw [hE]; rfl
  have b2 : ∀ a, Byts (E a 2) := fun a => by rw [hE]; exact e2_Byts a
  have t8 : Int.toNat 8 = 8 := rfl
  have t4 : Int.toNat 4 = 4 := rfl
  have t2 : Int.toNat 2 = 2 := rfl
  have h0 : Byts (splice cs L (F a0 a1)) := splice_byts hb (bF a0 a1) (lF a0 a1) (by (try simp only [splice_length]); omega)
  have h1 : Byts (splice (splice cs L (F a0 a1)) (L + 16) (F a2 a3)) := splice_byts h0 (bF a2 a3) (lF a2 a3) (by (try simp only [splice_length]); omega)
  have e1 : splice (splice cs L ((F a0 a1))) (L + 16) (F a2 a3) = splice cs L ((F a0 a1) ++ F a2 a3) := splice_two (by simp only [List.length_append, lF, l8, l4, l2]) (by simp only [lF, l8, l4, l2]; omega)
  have h2 : Byts (splice (splice (splice cs L (F a0 a1)) (L + 16) (F a2 a3)) (L + 32) (F a4 a5)) := splice_byts h1 (bF a4 a5) (lF a4 a5) (by (try simp only [splice_length]); omega)
  have e2 : splice (splice cs L (((F a0 a1) ++ F a2 a3))) (L + 32) (F a4 a5) = splice cs L (((F a0 a1) ++ F a2 a3) ++ F a4 a5) := splice_two (by simp only [List.length_append, lF, l8, l4, l2]) (by simp only [lF, l8, l4, l2]; omega)
  have h3 : Byts (splice (splice (splice (splice cs L (F a0 a1)) (L + 16) (F a2 a3)) (L + 32) (F a4 a5)) (L + 48) (F a6 a7)) := splice_byts h2 (bF a6 a7) (lF a6 a7) (by (try simp only [splice_length]); omega)
  have e3 : splice (splice cs L ((((F a0 a1) ++ F a2 a3) ++ F a4 a5))) (L + 48) (F a6 a7) = splice cs L ((((F a0 a1) ++ F a2 a3) ++ F a4 a5) ++ F a6 a7) := splice_two (by simp only [List.length_append, lF, l8, l4, l2]) (by simp only [lF, l8, l4, l2]; omega)
  have h4 : Byts (splice (splice (splice (splice (splice cs L (F a0 a1)) (L + 16) (F a2 a3)) (L + 32) (F a4 a5)) (L + 48) (F a6 a7)) (L + 64) (F a8 a9)) := splice_byts h3 (bF a8 a9) (lF a8 a9) (by (try simp only [splice_length]); omega)
  have e4 : splice (splice cs L (((((F a0 a1) ++ F a2 a3) ++ F a4 a5) ++ F a6 a7))) (L + 64) (F a8 a9) = splice cs L (((((F a0 a1) ++ F a2 a3) ++ F a4 a5) ++ F a6 a7) ++ F a8 a9) := splice_two (by simp only [List.length_append, lF, l8, l4, l2]) (by simp only [lF, l8, l4, l2]; omega)
  have h5 : Byts (splice (splice (splice (splice (splice (splice cs L (F a0 a1)) (L + 16) (F a2 a3)) (L + 32) (F a4 a5)) (L + 48) (F a6 a7)) (L + 64) (F a8 a9)) (L + 80) (F a10 a11)) := splice_byts h4 (bF a10 a11) (lF a10 a11) (by (try simp only [splice_length]); omega)
  have e5 : splice (splice cs L ((((((F a0 a1) ++ F a2 a3) ++ F a4 a5) ++ F a6 a7) ++ F a8 a9))) (L + 80) (F a10 a11) = splice cs L ((((((F a0 a1) ++ F a2 a3) ++ F a4 a5) ++ F a6 a7) ++ F a8 a9) ++ F a10 a11) := splice_two (by simp only [List.length_append, lF, l8, l4, l2]) (by simp only [lF, l8, l4, l2]; omega)
  have h6 : Byts (splice (splice (splice (splice (splice (splice (splice cs L (F a0 a1)) (L + 16) (F a2 a3)) (L + 32) (F a4 a5)) (L + 48) (F a6 a7)) (L + 64) (F a8 a9)) (L + 80) (F a10 a11)) (L + 96) (E a12 8)) := splice_byts h5 (b8 a12) (l8 a12) (by (try simp only [splice_length]); omega)
  have e6 : splice (splice cs L (((((((F a0 a1) ++ F a2 a3) ++ F a4 a5) ++ F a6 a7) ++ F a8 a9) ++ F a10 a11))) (L + 96) (E a12 8) = splice cs L (((((((F a0 a1) ++ F a2 a3) ++ F a4 a5) ++ F a6 a7) ++ F a8 a9) ++ F a10 a11) ++ E a12 8) := splice_two (by simp only [List.length_append, lF, l8, l4, l2]) (by simp only [lF, l8, l4, l2]; omega)
  have h7 : Byts (splice (splice (splice (splice (splice (splice (splice (splice cs L (F a0 a1)) (L + 16) (F a2 a3)) (L + 32) (F a4 a5)) (L + 48) (F a6 a7)) (L + 64) (F a8 a9)) (L + 80) (F a10 a11)) (L + 96) (E a12 8)) (L + 104) (E a13 4)) := splice_byts h6 (b4 a13) (l4 a13) (by (try simp only [splice_length]); omega)
  have e7 : splice (splice cs L ((((((((F a0 a1) ++ F a2 a3) ++ F a4 a5) ++ F a6 a7) ++ F a8 a9) ++ F a10 a11) ++ E a12 8))) (L + 104) (E a13 4) = splice cs L ((((((((F a0 a1) ++ F a2 a3) ++ F a4 a5) ++ F a6 a7) ++ F a8 a9) ++ F a10 a11) ++ E a12 8) ++ E a13 4) := splice_two (by simp only [List.length_append, lF, l8, l4, l2]) (by simp only [lF, l8, l4, l2]; omega)
  have h8 : Byts (splice (splice (splice (splice (splice (splice (splice (splice (splice cs L (F a0 a1)) (L + 16) (F a2 a3)) (L + 32) (F a4 a5)) (L + 48) (F a6 a7)) (L + 64) (F a8 a9)) (L + 80) (F a10 a11)) (L + 96) (E a12 8)) (L + 104) (E a13 4)) (L + 108) (E a14 4)) := splice_byts h7 (b4 a14) (l4 a14) (by (try simp only [splice_length]); omega)
  have e8 : splice (splice cs L (((((((((F a0 a1) ++ F a2 a3) ++ F a4 a5) ++ F a6 a7) ++ F a8 a9) ++ F a10 a11) ++ E a12 8) ++ E a13 4))) (L + 108) (E a14 4) = splice cs L (((((((((F a0 a1) ++ F a2 a3) ++ F a4 a5) ++ F a6 a7) ++ F a8 a9) ++ F a10 a11) ++ E a12 8) ++ E a13 4) ++ E a14 4) := splice_two (by simp only [List.length_append, lF, l8, l4, l2]) (by simp only [lF, l8, l4, l2]; omega)
  have h9 : Byts (splice (splice (splice (splice (splice (splice (splice (splice (splice (splice cs L (F a0 a1)) (L + 16) (F a2 a3)) (L + 32) (F a4 a5)) (L + 48) (F a6 a7)) (L + 64) (F a8 a9)) (L + 80) (F a10 a11)) (L + 96) (E a12 8)) (L + 104) (E a13 4)) (L + 108) (E a14 4)) (L + 112) (E a15 4)) := splice_byts h8 (b4 a15) (l4 a15) (by (try simp only [splice_length]); omega)
  have e9 : splice (splice cs L ((((((((((F a0 a1) ++ F a2 a3) ++ F a4 a5) ++ F a6 a7) ++ F a8 a9) ++ F a10 a11) ++ E a12 8) ++ E a13 4) ++ E a14 4))) (L + 112) (E a15 4) = splice cs L ((((((((((F a0 a1) ++ F a2 a3) ++ F a4 a5) ++ F a6 a7) ++ F a8 a9) ++ F a10 a11) ++ E a12 8) ++ E a13 4) ++ E a14 4) ++ E a15 4) := splice_two (by simp only [List.length_append, lF, l8, l4, l2]) (by simp only [lF, l8, l4, l2]; omega)
  have h10 : Byts (splice (splice (splice (splice (splice (splice (splice (splice (splice (splice (splice cs L (F a0 a1)) (L + 16) (F a2 a3)) (L + 32) (F a4 a5)) (L + 48) (F a6 a7)) (L + 64) (F a8 a9)) (L + 80) (F a10 a11)) (L + 96) (E a12 8)) (L + 104) (E a13 4)) (L + 108) (E a14 4)) (L + 112) (E a15 4)) (L + 116) (E a16 2)) := splice_byts h9 (b2 a16) (l2 a16) (by (try simp only [splice_length]); omega)
  have e10 : splice (splice cs L (((((((((((F a0 a1) ++ F a2 a3) ++ F a4 a5) ++ F a6 a7) ++ F a8 a9) ++ F a10 a11) ++ E a12 8) ++ E a13 4) ++ E a14 4) ++ E a15 4))) (L + 116) (E a16 2) = splice cs L (((((((((((F a0 a1) ++ F a2 a3) ++ F a4 a5) ++ F a6 a7) ++ F a8 a9) ++ F a10 a11) ++ E a12 8) ++ E a13 4) ++ E a14 4) ++ E a15 4) ++ E a16 2) := splice_two (by simp only [List.length_append, lF, l8, l4, l2]) (by simp only [lF, l8, l4, l2]; omega)
  have h11 : Byts (splice (splice (splice (splice (splice (splice (splice (splice (splice (splice (splice (splice cs L (F a0 a1)) (L + 16) (F a2 a3)) (L + 32) (F a4 a5)) (L + 48) (F a6 a7)) (L + 64) (F a8 a9)) (L + 80) (F a10 a11)) (L + 96) (E a12 8)) (L + 104) (E a13 4)) (L + 108) (E a14 4)) (L + 112) (E a15 4)) (L + 116) (E a16 2)) (L + 118) (E a17 2)) := splice_byts h10 (b2 a17) (l2 a17) (by (try simp only [splice_length]); omega)
  have e11 : splice (splice cs L ((((((((((((F a0 a1) ++ F a2 a3) ++ F a4 a5) ++ F a6 a7) ++ F a8 a9) ++ F a10 a11) ++ E a12 8) ++ E a13 4) ++ E a14 4) ++ E a15 4) ++ E a16 2))) (L + 118) (E a17 2) = splice cs L ((((((((((((F a0 a1) ++ F a2 a3) ++ F a4 a5) ++ F a6 a7) ++ F a8 a9) ++ F a10 a11) ++ E a12 8) ++ E a13 4) ++ E a14 4) ++ E a15 4) ++ E a16 2) ++ E a17 2) := splice_two (by simp only [List.length_append, lF, l8, l4, l2]) (by simp only [lF, l8, l4, l2]; omega)
  have e12 : splice (splice cs L (((((((((((((F a0 a1) ++ F a2 a3) ++ F a4 a5) ++ F a6 a7) ++ F a8 a9) ++ F a10 a11) ++ E a12 8) ++ E a13 4) ++ E a14 4) ++ E a15 4) ++ E a16 2) ++ E a17 2))) (L + 120) (E a18 8) = splice cs L (((((((((((((F a0 a1) ++ F a2 a3) ++ F a4 a5) ++ F a6 a7) ++ F a8 a9) ++ F a10 a11) ++ E a12 8) ++ E a13 4) ++ E a14 4) ++ E a15 4) ++ E a16 2) ++ E a17 2) ++ E a18 8) := splice_two (by simp only [List.length_append, lF, l8, l4, l2]) (by simp only [lF, l8, l4, l2]; omega)
  have eR : (((((((((((((F a0 a1) ++ F a2 a3) ++ F a4 a5) ++ F a6 a7) ++ F a8 a9) ++ F a10 a11) ++ E a12 8) ++ E a13 4) ++ E a14 4) ++ E a15 4) ++ E a16 2) ++ E a17 2) ++ E a18 8) = rcdB a0 a1 a2 a3 a4 a5 a6 a7 a8 a9 a10 a11 a12 a13 a14 a15 a16 a17 a18 := by
    rw [hF, hE]
    unfold rcdB p16 pEn
    simp only [List.append_assoc]
    rfl
  obtain ⟨h', nx', d, T, hl⟩ := run_row (hX F E) (hT F E) (hL F E) (ku_t F E cs L cs.length a0 a1 a2 a3 a4 a5 a6 a7 a8 a9 a10 a11 a12 a13 a14 a15 a16 a17 a18) (by
    simp only [t8, t4, t2, Nat.add_assoc, Nat.reduceAdd, splice_length]
    repeat' (first | exact alls_nil | refine alls_cons ?_ ?_)
    all_goals first | with_reducible rfl | with_reducible assumption | omega | (refine ⟨?_, ?_⟩ <;> omega) | (simp only [rg]; omega) | (simp; done)) rfl
  refine ⟨h', nx', d, ?_, ?_⟩
  · simp only [Nat.add_assoc, Nat.reduceAdd] at T
    exact T
  · rw [hl]
    simp only [t8, t4, t2, Nat.add_assoc, Nat.reduceAdd]
    rw [e1, e2, e3, e4, e5, e6, e7, e8, e9, e10, e11, e12, eR]
end Go.Proofs.Ytgpgdkpfeoaidaa
