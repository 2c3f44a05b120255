/-
  Chapter 02: the bytes of batches, the program's functions: what is run.
-/
import Derived.Test.YtgpgdkpfeoaidaaRecC
import Derived.Test.YtgpgdkpfeoaidaaKitW
namespace Go.Proofs.Ytgpgdkpfeoaidaa
set_option linter.unusedSimpArgs false
set_option linter.unusedVariables false
set_option linter.unusedSectionVars false
open Go Go.RowKit

abbrev R19 := Int → Int → Int → Int → Int → Int → Int → Int → Int → Int → Int → Int → Int → Int → Int → Int → Int → Int → Int → List Value
def gAccX (R : R19) : List Value → Option (Nat × List Value × List Prop) := fun l => match l with
  | [.agg ⟨[.int .u64 a0, .int .u64 a1, .int .u64 a2, .int .u64 a3, .int .u64 a4, .int .u64 a5, .int .u64 a6, .int .u64 a7, .int .u64 a8, .int .u64 a9, .int .u64 a10, .int .u64 a11, .int .u64 a12, .int .u32 a13, .int .u32 a14, .int .u32 a15, .int .u16 a16, .int .u16 a17, .int .u64 a18]⟩] => some (128, R a0 a1 a2 a3 a4 a5 a6 a7 a8 a9 a10 a11 a12 a13 a14 a15 a16 a17 a18, [R = rcdB, recW a13 a14 a15 a16 a17])
  | _ => none
theorem accX_put {f : FuncId} (H : PutOk Try.prog f gAcc) (R : R19) : PutOk Try.prog f (gAccX R) := by
  intro rest k bs ob hg ho
  unfold gAccX at hg
  split at hg
  case h_2 => cases hg
  rename_i a0 a1 a2 a3 a4 a5 a6 a7 a8 a9 a10 a11 a12 a13 a14 a15 a16 a17 a18
  simp only [Option.some.injEq, Prod.mk.injEq] at hg
  obtain ⟨rfl, rfl, rfl⟩ := hg
  obtain ⟨rfl, h, _⟩ := ho
  exact H _ _ _ [recW a13 a14 a15 a16 a17] rfl ⟨h, trivial⟩
def accX (R : R19) : TFun := orTz (mkPut 31 (gAccX R)) (mkPut 32 (gAccX R))
theorem accX_one (R : R19) : TOneZ Try.prog (accX R) := orTz_ok (mkPut_one (accX_put ku_a_put R)) (mkPut_one (accX_put ku_t_put R))
/-- A list's i-th record, its cells and its bytes. -/
def recC (xs : List Value) (i : Nat) : List Value := [.int .u64 (intAt xs (i * 19)), .int .u64 (intAt xs (i * 19 + 1)), .int .u64 (intAt xs (i * 19 + 2)), .int .u64 (intAt xs (i * 19 + 3)), .int .u64 (intAt xs (i * 19 + 4)), .int .u64 (intAt xs (i * 19 + 5)), .int .u64 (intAt xs (i * 19 + 6)), .int .u64 (intAt xs (i * 19 + 7)), .int .u64 (intAt xs (i * 19 + 8)), .int .u64 (intAt xs (i * 19 + 9)), .int .u64 (intAt xs (i * 19 + 10)), .int .u64 (intAt xs (i * 19 + 11)), .int .u64 (intAt xs (i * 19 + 12)), .int .u32 (intAt xs (i * 19 + 13)), .int .u32 (intAt xs (i * 19 + 14)), .int .u32 (intAt xs (i * 19 + 15)), .int .u16 (intAt xs (i * 19 + 16)), .int .u16 (intAt xs (i * 19 + 17)), .int .u64 (intAt xs (i * 19 + 18))]
def recX (R : R19) (xs : List Value) (i : Nat) : List Value := R (intAt xs (i * 19)) (intAt xs (i * 19 + 1)) (intAt xs (i * 19 + 2)) (intAt xs (i * 19 + 3)) (intAt xs (i * 19 + 4)) (intAt xs (i * 19 + 5)) (intAt xs (i * 19 + 6)) (intAt xs (i * 19 + 7)) (intAt xs (i * 19 + 8)) (intAt xs (i * 19 + 9)) (intAt xs (i * 19 + 10)) (intAt xs (i * 19 + 11)) (intAt xs (i * 19 + 12)) (intAt xs (i * 19 + 13)) (intAt xs (i * 19 + 14)) (intAt xs (i * 19 + 15)) (intAt xs (i * 19 + 16)) (intAt xs (i * 19 + 17)) (intAt xs (i * 19 + 18))
def abV (R : R19) (L : LFun) : Tv := ⟨accX R, noXz, L, fun f => bif Nat.beq f 23 then [9, 18] else bif Nat.beq f 25 then [9, 18] else [], orSy (lsSy 23 [(9, 0), (12, 0), (13, 0), (18, 0), (19, 0), (20, 0), (24, 0)]) (lsSy 25 [(9, 0), (12, 0), (13, 0), (18, 0), (19, 0), (20, 0), (24, 0)]), fun _ => [], fun _ => 0⟩
def abB (P : Program) : Code := bodyIn P 23 5
def tbB (P : Program) : Code := bodyIn P 25 5
def abS (n c i : Nat) : List (Nat × Value) := [(4, .pointer (some ⟨2, 0, none⟩)), (15, .slice (some ⟨0, 0, none⟩) n c), (16, .int .i64 (n : Int)), (17, .int .i64 (i : Int))]
def abH (xs cs : List Value) (L C : Nat) : Hp := [(2, ⟨.shut, [.slice (some ⟨1, 0, none⟩) L C, .slice none 0 0]⟩), (1, ⟨.shut, cs⟩), (0, ⟨.old, xs⟩)]
abbrev ab_more_R (inr : Bool) (R : R19) (xs cs : List Value) (n c i L C : Nat) : Res (PSt × Tape × List Prop) :=
  Res.ok ((Xt.normal, 27, [(4, Value.pointer (some (Addr.mk 2 0 none))), (15, Value.slice (some (Addr.mk 0 0 none)) n c), (16, Value.int IntKind.i64 (↑n : Int)), (17, Value.int IntKind.i64 (↑(i + 1) : Int))], [(1, Rw.mk
 Kd.shut (splice cs L (R (intAt xs (i * 19)) (intAt xs (i * 19 + 1)) (intAt xs (i * 19 + 1 + 1)) (intAt xs (i * 19 + 1 + 1 + 1)) (intAt xs (i * 19 + 1 + 1 + 1 + 1)) (intAt xs (i * 19 + 1 + 1 + 1 + 1 + 1)) (intAt xs (i * 19
 + 1 + 1 + 1 + 1 + 1 + 1)) (intAt xs (i * 19 + 1 + 1 + 1 + 1 + 1 + 1 + 1)) (intAt xs (i * 19 + 1 + 1 + 1 + 1 + 1 + 1 + 1 + 1)) (intAt xs (i * 19 + 1 + 1 + 1 + 1 + 1 + 1 + 1 + 1 + 1)) (intAt xs (i * 19 + 1 + 1 + 1 + 1 + 1 +
 1 + 1 + 1 + 1 + 1)) (intAt xs (i * 19 + 1 + 1 + 1 + 1 + 1 + 1 + 1 + 1 + 1 + 1 + 1)) (intAt xs (i * 19 + 1 + 1 + 1 + 1 + 1 + 1 + 1 + 1 + 1 + 1 + 1 + 1)) (intAt xs (i * 19 + 1 + 1 + 1 + 1 + 1 + 1 + 1 + 1 + 1 + 1 + 1 + 1 +
 1)) (intAt xs (i * 19 + 1 + 1 + 1 + 1 + 1 + 1 + 1 + 1 + 1 + 1 + 1 + 1 + 1 + 1)) (intAt xs (i * 19 + 1 + 1 + 1 + 1 + 1 + 1 + 1 + 1 + 1 + 1 + 1 + 1 + 1 + 1 + 1)) (intAt xs (i * 19 + 1 + 1 + 1 + 1 + 1 + 1 + 1 + 1 + 1 + 1 + 1
 + 1 + 1 + 1 + 1 + 1)) (intAt xs (i * 19 + 1 + 1 + 1 + 1 + 1 + 1 + 1 + 1 + 1 + 1 + 1 + 1 + 1 + 1 + 1 + 1 + 1)) (intAt xs (i * 19 + 1 + 1 + 1 + 1 + 1 + 1 + 1 + 1 + 1 + 1 + 1 + 1 + 1 + 1 + 1 + 1 + 1 + 1))))), (3, Rw.mk
 Kd.shut [Value.int IntKind.u64 (intAt xs (i * 19)), Value.int IntKind.u64 (intAt xs (i * 19 + 1)), Value.int IntKind.u64 (intAt xs (i * 19 + 1 + 1)), Value.int IntKind.u64 (intAt xs (i * 19 + 1 + 1 + 1)), Value.int
 IntKind.u64 (intAt xs (i * 19 + 1 + 1 + 1 + 1)), Value.int IntKind.u64 (intAt xs (i * 19 + 1 + 1 + 1 + 1 + 1)), Value.int IntKind.u64 (intAt xs (i * 19 + 1 + 1 + 1 + 1 + 1 + 1)), Value.int IntKind.u64 (intAt xs (i * 19 +
 1 + 1 + 1 + 1 + 1 + 1 + 1)), Value.int IntKind.u64 (intAt xs (i * 19 + 1 + 1 + 1 + 1 + 1 + 1 + 1 + 1)), Value.int IntKind.u64 (intAt xs (i * 19 + 1 + 1 + 1 + 1 + 1 + 1 + 1 + 1 + 1)), Value.int IntKind.u64 (intAt xs (i *
 19 + 1 + 1 + 1 + 1 + 1 + 1 + 1 + 1 + 1 + 1)), Value.int IntKind.u64 (intAt xs (i * 19 + 1 + 1 + 1 + 1 + 1 + 1 + 1 + 1 + 1 + 1 + 1)), Value.int IntKind.u64 (intAt xs (i * 19 + 1 + 1 + 1 + 1 + 1 + 1 + 1 + 1 + 1 + 1 + 1 +
 1)), Value.int IntKind.u32 (intAt xs (i * 19 + 1 + 1 + 1 + 1 + 1 + 1 + 1 + 1 + 1 + 1 + 1 + 1 + 1)), Value.int IntKind.u32 (intAt xs (i * 19 + 1 + 1 + 1 + 1 + 1 + 1 + 1 + 1 + 1 + 1 + 1 + 1 + 1 + 1)), Value.int IntKind.u32
 (intAt xs (i * 19 + 1 + 1 + 1 + 1 + 1 + 1 + 1 + 1 + 1 + 1 + 1 + 1 + 1 + 1 + 1)), Value.int IntKind.u16 (intAt xs (i * 19 + 1 + 1 + 1 + 1 + 1 + 1 + 1 + 1 + 1 + 1 + 1 + 1 + 1 + 1 + 1 + 1)), Value.int IntKind.u16 (intAt xs
 (i * 19 + 1 + 1 + 1 + 1 + 1 + 1 + 1 + 1 + 1 + 1 + 1 + 1 + 1 + 1 + 1 + 1 + 1)), Value.int IntKind.u64 (intAt xs (i * 19 + 1 + 1 + 1 + 1 + 1 + 1 + 1 + 1 + 1 + 1 + 1 + 1 + 1 + 1 + 1 + 1 + 1 + 1))]), (2, Rw.mk Kd.shut
 [Value.slice (some (Addr.mk 1 0 none)) (L + 128) C, Value.slice none 0 0]), (0, Rw.mk Kd.old xs)], 4, [2, 1, 3], []), [], [decide ((↑i : Int) < (↑n : Int)) = true, (0 : Int) ≤ (↑i : Int) ∧ (↑i : Int) < (↑n : Int),
 List.take 19 (List.drop (i * 19) xs) = [Value.int IntKind.u64 (intAt xs (i * 19)), Value.int IntKind.u64 (intAt xs (i * 19 + 1)), Value.int IntKind.u64 (intAt xs (i * 19 + 1 + 1)), Value.int IntKind.u64 (intAt xs (i * 19
 + 1 + 1 + 1)), Value.int IntKind.u64 (intAt xs (i * 19 + 1 + 1 + 1 + 1)), Value.int IntKind.u64 (intAt xs (i * 19 + 1 + 1 + 1 + 1 + 1)), Value.int IntKind.u64 (intAt xs (i * 19 + 1 + 1 + 1 + 1 + 1 + 1)), Value.int
 IntKind.u64 (intAt xs (i * 19 + 1 + 1 + 1 + 1 + 1 + 1 + 1)), Value.int IntKind.u64 (intAt xs (i * 19 + 1 + 1 + 1 + 1 + 1 + 1 + 1 + 1)), Value.int IntKind.u64 (intAt xs (i * 19 + 1 + 1 + 1 + 1 + 1 + 1 + 1 + 1 + 1)),
 Value.int IntKind.u64 (intAt xs (i * 19 + 1 + 1 + 1 + 1 + 1 + 1 + 1 + 1 + 1 + 1)), Value.int IntKind.u64 (intAt xs (i * 19 + 1 + 1 + 1 + 1 + 1 + 1 + 1 + 1 + 1 + 1 + 1)), Value.int IntKind.u64 (intAt xs (i * 19 + 1 + 1 + 1
 + 1 + 1 + 1 + 1 + 1 + 1 + 1 + 1 + 1)), Value.int IntKind.u32 (intAt xs (i * 19 + 1 + 1 + 1 + 1 + 1 + 1 + 1 + 1 + 1 + 1 + 1 + 1 + 1)), Value.int IntKind.u32 (intAt xs (i * 19 + 1 + 1 + 1 + 1 + 1 + 1 + 1 + 1 + 1 + 1 + 1 + 1
 + 1 + 1)), Value.int IntKind.u32 (intAt xs (i * 19 + 1 + 1 + 1 + 1 + 1 + 1 + 1 + 1 + 1 + 1 + 1 + 1 + 1 + 1 + 1)), Value.int IntKind.u16 (intAt xs (i * 19 + 1 + 1 + 1 + 1 + 1 + 1 + 1 + 1 + 1 + 1 + 1 + 1 + 1 + 1 + 1 + 1)),
 Value.int IntKind.u16 (intAt xs (i * 19 + 1 + 1 + 1 + 1 + 1 + 1 + 1 + 1 + 1 + 1 + 1 + 1 + 1 + 1 + 1 + 1 + 1)), Value.int IntKind.u64 (intAt xs (i * 19 + 1 + 1 + 1 + 1 + 1 + 1 + 1 + 1 + 1 + 1 + 1 + 1 + 1 + 1 + 1 + 1 + 1 +
 1))], 0 = 0, C = List.length cs, C ≤ 9223372036854775807, L + 128 ≤ C, Byts cs, R = rcdB, recW (intAt xs (i * 19 + 1 + 1 + 1 + 1 + 1 + 1 + 1 + 1 + 1 + 1 + 1 + 1 + 1)) (intAt xs (i * 19 + 1 + 1 + 1 + 1 + 1 + 1 + 1 + 1 + 1
 + 1 + 1 + 1 + 1 + 1)) (intAt xs (i * 19 + 1 + 1 + 1 + 1 + 1 + 1 + 1 + 1 + 1 + 1 + 1 + 1 + 1 + 1 + 1)) (intAt xs (i * 19 + 1 + 1 + 1 + 1 + 1 + 1 + 1 + 1 + 1 + 1 + 1 + 1 + 1 + 1 + 1 + 1)) (intAt xs (i * 19 + 1 + 1 + 1 + 1 +
 1 + 1 + 1 + 1 + 1 + 1 + 1 + 1 + 1 + 1 + 1 + 1 + 1)), rg IntKind.i64 (↑(i + 1) : Int)])
theorem ab_more (inr : Bool) (R : R19) (xs cs : List Value) (n c i L C : Nat) : prjZ [4, 15, 16, 17] (codeZ (abV R noL) Try.prog (runZ (abV R noL) Try.prog 5) 23 inr 100000 (abB Try.prog) (SL 27 (abS n c i)) (abH xs cs L C) 3 [true]) = ab_more_R inr R xs cs n c i L C := by kernel_rfl
theorem ab_done (inr : Bool) (R : R19) (xs cs : List Value) (n c i L C : Nat) : prjZ [4] (codeZ (abV R noL) Try.prog (runZ (abV R noL) Try.prog 5) 23 inr 100000 (abB Try.prog) (SL 27 (abS n c i)) (abH xs cs L C) 3 [false]) =
  Res.ok ((Xt.exit 0, 27, [(4, Value.pointer (some (Addr.mk 2 0 none)))], [(2, Rw.mk Kd.shut [Value.slice (some (Addr.mk 1 0 none)) L C, Value.slice none 0 0]), (1, Rw.mk Kd.shut cs), (0, Rw.mk Kd.old xs)], 3, [], []), [],
 [decide ((↑i : Int) < (↑n : Int)) = false]) := by kernel_rfl
theorem tb_more (inr : Bool) (R : R19) (xs cs : List Value) (n c i L C : Nat) : prjZ [4, 15, 16, 17] (codeZ (abV R noL) Try.prog (runZ (abV R noL) Try.prog 5) 25 inr 100000 (tbB Try.prog) (SL 27 (abS n c i)) (abH xs cs L C) 3 [true]) = ab_more_R inr R xs cs n c i L C := by kernel_rfl
theorem tb_done (inr : Bool) (R : R19) (xs cs : List Value) (n c i L C : Nat) : prjZ [4] (codeZ (abV R noL) Try.prog (runZ (abV R noL) Try.prog 5) 25 inr 100000 (tbB Try.prog) (SL 27 (abS n c i)) (abH xs cs L C) 3 [false]) =
  Res.ok ((Xt.exit 0, 27, [(4, Value.pointer (some (Addr.mk 2 0 none)))], [(2, Rw.mk Kd.shut [Value.slice (some (Addr.mk 1 0 none)) L C, Value.slice none 0 0]), (1, Rw.mk Kd.shut cs), (0, Rw.mk Kd.old xs)], 3, [], []), [],
 [decide ((↑i : Int) < (↑n : Int)) = false]) := by kernel_rfl
/-- A list of n records; what records' bytes come to. -/
structure RecsOk (xs : List Value) (n : Nat) : Prop where
  l : xs.length = n * 19
  t : ∀ i, i < n → (xs.drop (i * 19)).take 19 = recC xs i
  w : ∀ i, i < n → recW (intAt xs (i * 19 + 13)) (intAt xs (i * 19 + 14)) (intAt xs (i * 19 + 15)) (intAt xs (i * 19 + 16)) (intAt xs (i * 19 + 17))
  f : Fl xs
def recL (R : R19) (xs : List Value) : Nat → Nat → List Value
  | _, 0 => []
  | i, k + 1 => recX R xs i ++ recL R xs (i + 1) k
def z8 (m : Nat) : List Value := List.replicate m (.int .u8 0)
def abSpec (R : R19) : LSpec := lspec (fun live h => match live, h with | [_, (_, .slice _ n c), _, _], [(_, ⟨_, [.slice _ L C, _]⟩), (_, r1), (_, r0)] => some (n, c, r0.cs, r1.cs, L, C) | _, _ => none) (fun a => (abS a.1 a.2.1 0, abH a.2.2.1 a.2.2.2.1 a.2.2.2.2.1 a.2.2.2.2.2, 3))
  (fun a tp => some ((.exit 0, [(4, .pointer (some ⟨2, 0, none⟩))], abH a.2.2.1 (recL R a.2.2.1 0 a.1) (a.1 * 128) (a.1 * 128), 20, [1, 2]), tp, [R = rcdB, RecsOk a.2.2.1 a.1, a.2.2.2.1 = z8 (a.1 * 128), a.2.2.2.2.1 = 0, a.2.2.2.2.2 = a.1 * 128, a.1 ≤ 8, a.1 ≤ a.2.1 ∧ a.2.1 ≤ 9223372036854775807]))
def abL (R : R19) (P : Program) : LFun := orL (mkL 23 5 27 [4, 15, 16, 17] (abB P) (abSpec R)) (mkL 25 5 27 [4, 15, 16, 17] (tbB P) (abSpec R))
theorem ab_long (R : R19) (xs : List Value) (n c : Nat) : prjV (runZ (abV R noL) Try.prog 5 23 [.slice (some ⟨0, 0, none⟩) n c] [(0, ⟨.old, xs⟩)] 1 [true]) =
  Res.ok (Value.tuple (Array.mk [Value.slice none 0 0, Value.int IntKind.i64 (3 : Int)]), [], [decide ((↑n : Int) > (8 : Int)) = true]) := by kernel_rfl
theorem ab_ok (R : R19) (xs : List Value) (n c : Nat) : prjR 1 (runZ (abV R (abL R Try.prog)) Try.prog 5 23 [.slice (some ⟨0, 0, none⟩) n c] [(0, ⟨.old, xs⟩)] 1 [false]) =
  Res.ok ((Value.tuple (Array.mk [Value.slice (some (Addr.mk 1 0 none)) (n * 128) (n * 128), Value.int IntKind.i64 (0 : Int)]), Rw.mk Kd.shut (recL R xs 0 n)), [], [decide ((↑n : Int) > (8 : Int)) = false, rg IntKind.i64
 (↑(n * 128) : Int), (0 : Int) ≤ (0 : Int) ∧ (0 : Int) ≤ (↑(n * 128) : Int) ∧ (1 : Int) * (↑(n * 128) : Int) ≤ (281474976710656 : Int) ∧ (↑(n * 128) : Int) ≤ (9223372036854775807 : Int), abB Try.prog = abB Try.prog, [(4,
 Value.pointer (some (Addr.mk 2 0 none))), (15, Value.slice (some (Addr.mk 0 0 none)) n c), (16, Value.int IntKind.i64 (↑n : Int)), (17, Value.int IntKind.i64 (0 : Int))] = abS n c 0, [(2, Rw.mk Kd.shut [Value.slice (some
 (Addr.mk 1 0 none)) 0 (n * 128), Value.slice none 0 0]), (1, Rw.mk Kd.shut (zrep [Value.int IntKind.u8 (0 : Int)] (n * 128))), (0, Rw.mk Kd.old xs)] = abH xs (zrep [Value.int IntKind.u8 (0 : Int)] (n * 128)) 0 (n * 128),
 3 = 3, R = rcdB, RecsOk xs n, zrep [Value.int IntKind.u8 (0 : Int)] (n * 128) = z8 (n * 128), 0 = 0, n * 128 = n * 128, n ≤ 8, n ≤ c ∧ c ≤ 9223372036854775807]) := by kernel_rfl
theorem ab_n (R : R19) : prjR 1 (runZ (abV R noL) Try.prog 5 23 [.slice none 0 0] [] 1 [false, false]) =
  Res.ok ((Value.tuple (Array.mk [Value.slice (some (Addr.mk 1 0 none)) 0 0, Value.int IntKind.i64 (0 : Int)]), Rw.mk Kd.shut []), [], [false = false, rg IntKind.i64 (0 : Int), (0 : Int) ≤ (0 : Int) ∧ (0 : Int) ≤ (0 : Int)
 ∧ (0 : Int) ≤ (281474976710656 : Int) ∧ (0 : Int) ≤ (9223372036854775807 : Int), false = false]) := by kernel_rfl
theorem tb_long (R : R19) (xs : List Value) (n c : Nat) : prjV (runZ (abV R noL) Try.prog 5 25 [.slice (some ⟨0, 0, none⟩) n c] [(0, ⟨.old, xs⟩)] 1 [true]) =
  Res.ok (Value.tuple (Array.mk [Value.slice none 0 0, Value.int IntKind.i64 (3 : Int)]), [], [decide ((↑n : Int) > (8 : Int)) = true]) := by kernel_rfl
theorem tb_ok (R : R19) (xs : List Value) (n c : Nat) : prjR 1 (runZ (abV R (abL R Try.prog)) Try.prog 5 25 [.slice (some ⟨0, 0, none⟩) n c] [(0, ⟨.old, xs⟩)] 1 [false]) =
  Res.ok ((Value.tuple (Array.mk [Value.slice (some (Addr.mk 1 0 none)) (n * 128) (n * 128), Value.int IntKind.i64 (0 : Int)]), Rw.mk Kd.shut (recL R xs 0 n)), [], [decide ((↑n : Int) > (8 : Int)) = false, rg IntKind.i64
 (↑(n * 128) : Int), (0 : Int) ≤ (0 : Int) ∧ (0 : Int) ≤ (↑(n * 128) : Int) ∧ (1 : Int) * (↑(n * 128) : Int) ≤ (281474976710656 : Int) ∧ (↑(n * 128) : Int) ≤ (9223372036854775807 : Int), tbB Try.prog = tbB Try.prog, [(4,
 Value.pointer (some (Addr.mk 2 0 none))), (15, Value.slice (some (Addr.mk 0 0 none)) n c), (16, Value.int IntKind.i64 (↑n : Int)), (17, Value.int IntKind.i64 (0 : Int))] = abS n c 0, [(2, Rw.mk Kd.shut [Value.slice (some
 (Addr.mk 1 0 none)) 0 (n * 128), Value.slice none 0 0]), (1, Rw.mk Kd.shut (zrep [Value.int IntKind.u8 (0 : Int)] (n * 128))), (0, Rw.mk Kd.old xs)] = abH xs (zrep [Value.int IntKind.u8 (0 : Int)] (n * 128)) 0 (n * 128),
 3 = 3, R = rcdB, RecsOk xs n, zrep [Value.int IntKind.u8 (0 : Int)] (n * 128) = z8 (n * 128), 0 = 0, n * 128 = n * 128, n ≤ 8, n ≤ c ∧ c ≤ 9223372036854775807]) := by kernel_rfl
theorem tb_n (R : R19) : prjR 1 (runZ (abV R noL) Try.prog 5 25 [.slice none 0 0] [] 1 [false, false]) =
  Res.ok ((Value.tuple (Array.mk [Value.slice (some (Addr.mk 1 0 none)) 0 0, Value.int IntKind.i64 (0 : Int)]), Rw.mk Kd.shut []), [], [false = false, rg IntKind.i64 (0 : Int), (0 : Int) ≤ (0 : Int) ∧ (0 : Int) ≤ (0 : Int)
 ∧ (0 : Int) ≤ (281474976710656 : Int) ∧ (0 : Int) ≤ (9223372036854775807 : Int), false = false]) := by kernel_rfl
end Go.Proofs.Ytgpgdkpfeoaidaa
