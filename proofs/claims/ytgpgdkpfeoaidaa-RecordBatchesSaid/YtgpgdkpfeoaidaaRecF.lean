/-
  Chapter 02: the bytes of batches, the document's functions: contracts.
-/
import Derived.Test.YtgpgdkpfeoaidaaRecE
namespace Go.Proofs.Ytgpgdkpfeoaidaa
set_option linter.unusedSimpArgs false
set_option linter.unusedVariables false
set_option linter.unusedSectionVars false
open Go Go.RowKit

def gRecF (room : Bool) (R : R19) : GSpec := fun av tp => match av with
  | [.fl (.agg ⟨[.int .u64 a0, .int .u64 a1, .int .u64 a2, .int .u64 a3, .int .u64 a4, .int .u64 a5, .int .u64 a6, .int .u64 a7, .int .u64 a8, .int .u64 a9, .int .u64 a10, .int .u64 a11, .int .u64 a12, .int .u32 a13, .int .u32 a14, .int .u32 a15, .int .u16 a16, .int .u16 a17, .int .u64 a18]⟩)] => some (bif room then ⟨fun nx => .slice (some ⟨nx, 0, none⟩) 128 (capBig + nx), [⟨.room 1 [.int .u8 0], R a0 a1 a2 a3 a4 a5 a6 a7 a8 a9 a10 a11 a12 a13 a14 a15 a16 a17 a18⟩]⟩ else ⟨fun nx => .slice (some ⟨nx, 0, none⟩) 128 128, [⟨.shut, R a0 a1 a2 a3 a4 a5 a6 a7 a8 a9 a10 a11 a12 a13 a14 a15 a16 a17 a18⟩]⟩, tp, [R = rcdB, recW a13 a14 a15 a16 a17])
  | _ => none
theorem gRecF_ok {f : FuncId} {room : Bool} (H : GOk Try.prog f [.f] (gRec room)) (R : R19) : GOk Try.prog f [.f] (gRecF room R) := by
  intro av tp gr tp' ob hG ho hP caps hcap
  obtain ⟨a, rfl, pa⟩ := avps1 hP
  unfold gRecF at hG
  split at hG
  case h_2 => cases hG
  rename_i a0 a1 a2 a3 a4 a5 a6 a7 a8 a9 a10 a11 a12 a13 a14 a15 a16 a17 a18 e
  simp only [List.cons.injEq, and_true] at e
  subst e
  simp only [Option.some.injEq, Prod.mk.injEq] at hG
  obtain ⟨rfl, rfl, rfl⟩ := hG
  obtain ⟨hR, hw⟩ := ho
  subst hR
  exact H _ tp _ tp _ (show gRec room [.fl (rcdV a0 a1 a2 a3 a4 a5 a6 a7 a8 a9 a10 a11 a12 a13 a14 a15 a16 a17 a18)] tp = some (_, tp, _) from rfl) hw hP caps hcap
def rfT (R : R19) : TFun := orTz (mkT 11 [.f] (gRecF true R)) (mkT 12 [.f] (gRecF true R))
theorem rfT_one (R : R19) : TOneZ Try.prog (rfT R) := orTz_ok (mkT_one (gRecF_ok ab_r_gok R)) (mkT_one (gRecF_ok tb_r_gok R))
def rbV (R : R19) (L : LFun) : Tv := ⟨rfT R, noXz, L, fun f => bif Nat.beq f 24 then [8, 12] else bif Nat.beq f 26 then [8, 12] else [], orSy (allSy 24 []) (allSy 26 []), fun _ => [], fun _ => 0⟩
def raB (P : Program) : Code := bodyIn P 24 5
def rtB (P : Program) : Code := bodyIn P 26 5
def rbS (n c i : Nat) (out : Value) : List (Nat × Value) := [(0, .slice (some ⟨0, 0, none⟩) n c), (4, out), (5, .int .i64 (i : Int))]
def byRow (ys : List Value) : Rw := ⟨.room 1 [.int .u8 0], ys⟩
abbrev rab_more0_R (inr : Bool) (R : R19) (xs : List Value) (n c i : Nat) : Res (PSt × Tape × List Prop) :=
  Res.ok ((Xt.normal, 23, [(0, Value.slice (some (Addr.mk 0 0 none)) n c), (4, Value.slice (some (Addr.mk 2 0 none)) 128 (capBig + 2)), (5, Value.int IntKind.i64 (↑(i + 1) : Int))], [(2, Rw.mk (Kd.room 1 [Value.int
 IntKind.u8 (0 : Int)]) (List.take 128 (R (intAt xs (i * 19)) (intAt xs (i * 19 + 1)) (intAt xs (i * 19 + 1 + 1)) (intAt xs (i * 19 + 1 + 1 + 1)) (intAt xs (i * 19 + 1 + 1 + 1 + 1)) (intAt xs (i * 19 + 1 + 1 + 1 + 1 + 1))
 (intAt xs (i * 19 + 1 + 1 + 1 + 1 + 1 + 1)) (intAt xs (i * 19 + 1 + 1 + 1 + 1 + 1 + 1 + 1)) (intAt xs (i * 19 + 1 + 1 + 1 + 1 + 1 + 1 + 1 + 1)) (intAt xs (i * 19 + 1 + 1 + 1 + 1 + 1 + 1 + 1 + 1 + 1)) (intAt xs (i * 19 + 1
 + 1 + 1 + 1 + 1 + 1 + 1 + 1 + 1 + 1)) (intAt xs (i * 19 + 1 + 1 + 1 + 1 + 1 + 1 + 1 + 1 + 1 + 1 + 1)) (intAt xs (i * 19 + 1 + 1 + 1 + 1 + 1 + 1 + 1 + 1 + 1 + 1 + 1 + 1)) (intAt xs (i * 19 + 1 + 1 + 1 + 1 + 1 + 1 + 1 + 1 +
 1 + 1 + 1 + 1 + 1)) (intAt xs (i * 19 + 1 + 1 + 1 + 1 + 1 + 1 + 1 + 1 + 1 + 1 + 1 + 1 + 1 + 1)) (intAt xs (i * 19 + 1 + 1 + 1 + 1 + 1 + 1 + 1 + 1 + 1 + 1 + 1 + 1 + 1 + 1 + 1)) (intAt xs (i * 19 + 1 + 1 + 1 + 1 + 1 + 1 + 1
 + 1 + 1 + 1 + 1 + 1 + 1 + 1 + 1 + 1)) (intAt xs (i * 19 + 1 + 1 + 1 + 1 + 1 + 1 + 1 + 1 + 1 + 1 + 1 + 1 + 1 + 1 + 1 + 1 + 1)) (intAt xs (i * 19 + 1 + 1 + 1 + 1 + 1 + 1 + 1 + 1 + 1 + 1 + 1 + 1 + 1 + 1 + 1 + 1 + 1 + 1))))),
 (1, Rw.mk (Kd.room 1 [Value.int IntKind.u8 (0 : Int)]) (R (intAt xs (i * 19)) (intAt xs (i * 19 + 1)) (intAt xs (i * 19 + 1 + 1)) (intAt xs (i * 19 + 1 + 1 + 1)) (intAt xs (i * 19 + 1 + 1 + 1 + 1)) (intAt xs (i * 19 + 1 +
 1 + 1 + 1 + 1)) (intAt xs (i * 19 + 1 + 1 + 1 + 1 + 1 + 1)) (intAt xs (i * 19 + 1 + 1 + 1 + 1 + 1 + 1 + 1)) (intAt xs (i * 19 + 1 + 1 + 1 + 1 + 1 + 1 + 1 + 1)) (intAt xs (i * 19 + 1 + 1 + 1 + 1 + 1 + 1 + 1 + 1 + 1))
 (intAt xs (i * 19 + 1 + 1 + 1 + 1 + 1 + 1 + 1 + 1 + 1 + 1)) (intAt xs (i * 19 + 1 + 1 + 1 + 1 + 1 + 1 + 1 + 1 + 1 + 1 + 1)) (intAt xs (i * 19 + 1 + 1 + 1 + 1 + 1 + 1 + 1 + 1 + 1 + 1 + 1 + 1)) (intAt xs (i * 19 + 1 + 1 + 1
 + 1 + 1 + 1 + 1 + 1 + 1 + 1 + 1 + 1 + 1)) (intAt xs (i * 19 + 1 + 1 + 1 + 1 + 1 + 1 + 1 + 1 + 1 + 1 + 1 + 1 + 1 + 1)) (intAt xs (i * 19 + 1 + 1 + 1 + 1 + 1 + 1 + 1 + 1 + 1 + 1 + 1 + 1 + 1 + 1 + 1)) (intAt xs (i * 19 + 1 +
 1 + 1 + 1 + 1 + 1 + 1 + 1 + 1 + 1 + 1 + 1 + 1 + 1 + 1 + 1)) (intAt xs (i * 19 + 1 + 1 + 1 + 1 + 1 + 1 + 1 + 1 + 1 + 1 + 1 + 1 + 1 + 1 + 1 + 1 + 1)) (intAt xs (i * 19 + 1 + 1 + 1 + 1 + 1 + 1 + 1 + 1 + 1 + 1 + 1 + 1 + 1 + 1
 + 1 + 1 + 1 + 1)))), (0, Rw.mk Kd.old xs)], 3, [], []), [], [decide ((↑i : Int) < (↑n : Int)) = true, (0 : Int) ≤ (↑i : Int) ∧ (↑i : Int) < (↑n : Int), List.take 19 (List.drop (i * 19) xs) = [Value.int IntKind.u64 (intAt
 xs (i * 19)), Value.int IntKind.u64 (intAt xs (i * 19 + 1)), Value.int IntKind.u64 (intAt xs (i * 19 + 1 + 1)), Value.int IntKind.u64 (intAt xs (i * 19 + 1 + 1 + 1)), Value.int IntKind.u64 (intAt xs (i * 19 + 1 + 1 + 1 +
 1)), Value.int IntKind.u64 (intAt xs (i * 19 + 1 + 1 + 1 + 1 + 1)), Value.int IntKind.u64 (intAt xs (i * 19 + 1 + 1 + 1 + 1 + 1 + 1)), Value.int IntKind.u64 (intAt xs (i * 19 + 1 + 1 + 1 + 1 + 1 + 1 + 1)), Value.int
 IntKind.u64 (intAt xs (i * 19 + 1 + 1 + 1 + 1 + 1 + 1 + 1 + 1)), Value.int IntKind.u64 (intAt xs (i * 19 + 1 + 1 + 1 + 1 + 1 + 1 + 1 + 1 + 1)), Value.int IntKind.u64 (intAt xs (i * 19 + 1 + 1 + 1 + 1 + 1 + 1 + 1 + 1 + 1 +
 1)), Value.int IntKind.u64 (intAt xs (i * 19 + 1 + 1 + 1 + 1 + 1 + 1 + 1 + 1 + 1 + 1 + 1)), Value.int IntKind.u64 (intAt xs (i * 19 + 1 + 1 + 1 + 1 + 1 + 1 + 1 + 1 + 1 + 1 + 1 + 1)), Value.int IntKind.u32 (intAt xs (i *
 19 + 1 + 1 + 1 + 1 + 1 + 1 + 1 + 1 + 1 + 1 + 1 + 1 + 1)), Value.int IntKind.u32 (intAt xs (i * 19 + 1 + 1 + 1 + 1 + 1 + 1 + 1 + 1 + 1 + 1 + 1 + 1 + 1 + 1)), Value.int IntKind.u32 (intAt xs (i * 19 + 1 + 1 + 1 + 1 + 1 + 1
 + 1 + 1 + 1 + 1 + 1 + 1 + 1 + 1 + 1)), Value.int IntKind.u16 (intAt xs (i * 19 + 1 + 1 + 1 + 1 + 1 + 1 + 1 + 1 + 1 + 1 + 1 + 1 + 1 + 1 + 1 + 1)), Value.int IntKind.u16 (intAt xs (i * 19 + 1 + 1 + 1 + 1 + 1 + 1 + 1 + 1 + 1
 + 1 + 1 + 1 + 1 + 1 + 1 + 1 + 1)), Value.int IntKind.u64 (intAt xs (i * 19 + 1 + 1 + 1 + 1 + 1 + 1 + 1 + 1 + 1 + 1 + 1 + 1 + 1 + 1 + 1 + 1 + 1 + 1))], R = rcdB, recW (intAt xs (i * 19 + 1 + 1 + 1 + 1 + 1 + 1 + 1 + 1 + 1 +
 1 + 1 + 1 + 1)) (intAt xs (i * 19 + 1 + 1 + 1 + 1 + 1 + 1 + 1 + 1 + 1 + 1 + 1 + 1 + 1 + 1)) (intAt xs (i * 19 + 1 + 1 + 1 + 1 + 1 + 1 + 1 + 1 + 1 + 1 + 1 + 1 + 1 + 1 + 1)) (intAt xs (i * 19 + 1 + 1 + 1 + 1 + 1 + 1 + 1 + 1
 + 1 + 1 + 1 + 1 + 1 + 1 + 1 + 1)) (intAt xs (i * 19 + 1 + 1 + 1 + 1 + 1 + 1 + 1 + 1 + 1 + 1 + 1 + 1 + 1 + 1 + 1 + 1 + 1)), 128 ≠ 0, 128 ≤ 140737488355328 ∧ 128 ≤ 9223372036854775807, 128 ≤ List.length (R (intAt xs (i *
 19)) (intAt xs (i * 19 + 1)) (intAt xs (i * 19 + 1 + 1)) (intAt xs (i * 19 + 1 + 1 + 1)) (intAt xs (i * 19 + 1 + 1 + 1 + 1)) (intAt xs (i * 19 + 1 + 1 + 1 + 1 + 1)) (intAt xs (i * 19 + 1 + 1 + 1 + 1 + 1 + 1)) (intAt xs (i
 * 19 + 1 + 1 + 1 + 1 + 1 + 1 + 1)) (intAt xs (i * 19 + 1 + 1 + 1 + 1 + 1 + 1 + 1 + 1)) (intAt xs (i * 19 + 1 + 1 + 1 + 1 + 1 + 1 + 1 + 1 + 1)) (intAt xs (i * 19 + 1 + 1 + 1 + 1 + 1 + 1 + 1 + 1 + 1 + 1)) (intAt xs (i * 19
 + 1 + 1 + 1 + 1 + 1 + 1 + 1 + 1 + 1 + 1 + 1)) (intAt xs (i * 19 + 1 + 1 + 1 + 1 + 1 + 1 + 1 + 1 + 1 + 1 + 1 + 1)) (intAt xs (i * 19 + 1 + 1 + 1 + 1 + 1 + 1 + 1 + 1 + 1 + 1 + 1 + 1 + 1)) (intAt xs (i * 19 + 1 + 1 + 1 + 1 +
 1 + 1 + 1 + 1 + 1 + 1 + 1 + 1 + 1 + 1)) (intAt xs (i * 19 + 1 + 1 + 1 + 1 + 1 + 1 + 1 + 1 + 1 + 1 + 1 + 1 + 1 + 1 + 1)) (intAt xs (i * 19 + 1 + 1 + 1 + 1 + 1 + 1 + 1 + 1 + 1 + 1 + 1 + 1 + 1 + 1 + 1 + 1)) (intAt xs (i * 19
 + 1 + 1 + 1 + 1 + 1 + 1 + 1 + 1 + 1 + 1 + 1 + 1 + 1 + 1 + 1 + 1 + 1)) (intAt xs (i * 19 + 1 + 1 + 1 + 1 + 1 + 1 + 1 + 1 + 1 + 1 + 1 + 1 + 1 + 1 + 1 + 1 + 1 + 1))), all1 (List.take 128 (R (intAt xs (i * 19)) (intAt xs (i *
 19 + 1)) (intAt xs (i * 19 + 1 + 1)) (intAt xs (i * 19 + 1 + 1 + 1)) (intAt xs (i * 19 + 1 + 1 + 1 + 1)) (intAt xs (i * 19 + 1 + 1 + 1 + 1 + 1)) (intAt xs (i * 19 + 1 + 1 + 1 + 1 + 1 + 1)) (intAt xs (i * 19 + 1 + 1 + 1 +
 1 + 1 + 1 + 1)) (intAt xs (i * 19 + 1 + 1 + 1 + 1 + 1 + 1 + 1 + 1)) (intAt xs (i * 19 + 1 + 1 + 1 + 1 + 1 + 1 + 1 + 1 + 1)) (intAt xs (i * 19 + 1 + 1 + 1 + 1 + 1 + 1 + 1 + 1 + 1 + 1)) (intAt xs (i * 19 + 1 + 1 + 1 + 1 + 1
 + 1 + 1 + 1 + 1 + 1 + 1)) (intAt xs (i * 19 + 1 + 1 + 1 + 1 + 1 + 1 + 1 + 1 + 1 + 1 + 1 + 1)) (intAt xs (i * 19 + 1 + 1 + 1 + 1 + 1 + 1 + 1 + 1 + 1 + 1 + 1 + 1 + 1)) (intAt xs (i * 19 + 1 + 1 + 1 + 1 + 1 + 1 + 1 + 1 + 1 +
 1 + 1 + 1 + 1 + 1)) (intAt xs (i * 19 + 1 + 1 + 1 + 1 + 1 + 1 + 1 + 1 + 1 + 1 + 1 + 1 + 1 + 1 + 1)) (intAt xs (i * 19 + 1 + 1 + 1 + 1 + 1 + 1 + 1 + 1 + 1 + 1 + 1 + 1 + 1 + 1 + 1 + 1)) (intAt xs (i * 19 + 1 + 1 + 1 + 1 + 1
 + 1 + 1 + 1 + 1 + 1 + 1 + 1 + 1 + 1 + 1 + 1 + 1)) (intAt xs (i * 19 + 1 + 1 + 1 + 1 + 1 + 1 + 1 + 1 + 1 + 1 + 1 + 1 + 1 + 1 + 1 + 1 + 1 + 1)))) = true, rg IntKind.i64 (↑(i + 1) : Int)])
theorem rab_more0 (inr : Bool) (R : R19) (xs : List Value) (n c i : Nat) : prjZ [0, 4, 5] (codeZ (rbV R noL) Try.prog (runZ (rbV R noL) Try.prog 5) 24 inr 100000 (raB Try.prog) (SL 23 (rbS n c i (.slice none 0 0))) [(0, ⟨.old, xs⟩)] 1 [true]) = rab_more0_R inr R xs n c i := by kernel_rfl
abbrev rab_more1_R (inr : Bool) (R : R19) (xs ys : List Value) (n c i m : Nat) : Res (PSt × Tape × List Prop) :=
  Res.ok ((Xt.normal, 23, [(0, Value.slice (some (Addr.mk 0 0 none)) n c), (4, Value.slice (some (Addr.mk 3 0 none)) (m + 128) (capBig + 3)), (5, Value.int IntKind.i64 (↑(i + 1) : Int))], [(3, Rw.mk (Kd.room 1 [Value.int
 IntKind.u8 (0 : Int)]) (ys ++ List.take 128 (R (intAt xs (i * 19)) (intAt xs (i * 19 + 1)) (intAt xs (i * 19 + 1 + 1)) (intAt xs (i * 19 + 1 + 1 + 1)) (intAt xs (i * 19 + 1 + 1 + 1 + 1)) (intAt xs (i * 19 + 1 + 1 + 1 + 1
 + 1)) (intAt xs (i * 19 + 1 + 1 + 1 + 1 + 1 + 1)) (intAt xs (i * 19 + 1 + 1 + 1 + 1 + 1 + 1 + 1)) (intAt xs (i * 19 + 1 + 1 + 1 + 1 + 1 + 1 + 1 + 1)) (intAt xs (i * 19 + 1 + 1 + 1 + 1 + 1 + 1 + 1 + 1 + 1)) (intAt xs (i *
 19 + 1 + 1 + 1 + 1 + 1 + 1 + 1 + 1 + 1 + 1)) (intAt xs (i * 19 + 1 + 1 + 1 + 1 + 1 + 1 + 1 + 1 + 1 + 1 + 1)) (intAt xs (i * 19 + 1 + 1 + 1 + 1 + 1 + 1 + 1 + 1 + 1 + 1 + 1 + 1)) (intAt xs (i * 19 + 1 + 1 + 1 + 1 + 1 + 1 +
 1 + 1 + 1 + 1 + 1 + 1 + 1)) (intAt xs (i * 19 + 1 + 1 + 1 + 1 + 1 + 1 + 1 + 1 + 1 + 1 + 1 + 1 + 1 + 1)) (intAt xs (i * 19 + 1 + 1 + 1 + 1 + 1 + 1 + 1 + 1 + 1 + 1 + 1 + 1 + 1 + 1 + 1)) (intAt xs (i * 19 + 1 + 1 + 1 + 1 + 1
 + 1 + 1 + 1 + 1 + 1 + 1 + 1 + 1 + 1 + 1 + 1)) (intAt xs (i * 19 + 1 + 1 + 1 + 1 + 1 + 1 + 1 + 1 + 1 + 1 + 1 + 1 + 1 + 1 + 1 + 1 + 1)) (intAt xs (i * 19 + 1 + 1 + 1 + 1 + 1 + 1 + 1 + 1 + 1 + 1 + 1 + 1 + 1 + 1 + 1 + 1 + 1 +
 1))))), (2, Rw.mk (Kd.room 1 [Value.int IntKind.u8 (0 : Int)]) (R (intAt xs (i * 19)) (intAt xs (i * 19 + 1)) (intAt xs (i * 19 + 1 + 1)) (intAt xs (i * 19 + 1 + 1 + 1)) (intAt xs (i * 19 + 1 + 1 + 1 + 1)) (intAt xs (i *
 19 + 1 + 1 + 1 + 1 + 1)) (intAt xs (i * 19 + 1 + 1 + 1 + 1 + 1 + 1)) (intAt xs (i * 19 + 1 + 1 + 1 + 1 + 1 + 1 + 1)) (intAt xs (i * 19 + 1 + 1 + 1 + 1 + 1 + 1 + 1 + 1)) (intAt xs (i * 19 + 1 + 1 + 1 + 1 + 1 + 1 + 1 + 1 +
 1)) (intAt xs (i * 19 + 1 + 1 + 1 + 1 + 1 + 1 + 1 + 1 + 1 + 1)) (intAt xs (i * 19 + 1 + 1 + 1 + 1 + 1 + 1 + 1 + 1 + 1 + 1 + 1)) (intAt xs (i * 19 + 1 + 1 + 1 + 1 + 1 + 1 + 1 + 1 + 1 + 1 + 1 + 1)) (intAt xs (i * 19 + 1 + 1
 + 1 + 1 + 1 + 1 + 1 + 1 + 1 + 1 + 1 + 1 + 1)) (intAt xs (i * 19 + 1 + 1 + 1 + 1 + 1 + 1 + 1 + 1 + 1 + 1 + 1 + 1 + 1 + 1)) (intAt xs (i * 19 + 1 + 1 + 1 + 1 + 1 + 1 + 1 + 1 + 1 + 1 + 1 + 1 + 1 + 1 + 1)) (intAt xs (i * 19 +
 1 + 1 + 1 + 1 + 1 + 1 + 1 + 1 + 1 + 1 + 1 + 1 + 1 + 1 + 1 + 1)) (intAt xs (i * 19 + 1 + 1 + 1 + 1 + 1 + 1 + 1 + 1 + 1 + 1 + 1 + 1 + 1 + 1 + 1 + 1 + 1)) (intAt xs (i * 19 + 1 + 1 + 1 + 1 + 1 + 1 + 1 + 1 + 1 + 1 + 1 + 1 + 1
 + 1 + 1 + 1 + 1 + 1)))), (0, Rw.mk Kd.old xs)], 4, [1], []), [], [decide ((↑i : Int) < (↑n : Int)) = true, (0 : Int) ≤ (↑i : Int) ∧ (↑i : Int) < (↑n : Int), List.take 19 (List.drop (i * 19) xs) = [Value.int IntKind.u64
 (intAt xs (i * 19)), Value.int IntKind.u64 (intAt xs (i * 19 + 1)), Value.int IntKind.u64 (intAt xs (i * 19 + 1 + 1)), Value.int IntKind.u64 (intAt xs (i * 19 + 1 + 1 + 1)), Value.int IntKind.u64 (intAt xs (i * 19 + 1 + 1
 + 1 + 1)), Value.int IntKind.u64 (intAt xs (i * 19 + 1 + 1 + 1 + 1 + 1)), Value.int IntKind.u64 (intAt xs (i * 19 + 1 + 1 + 1 + 1 + 1 + 1)), Value.int IntKind.u64 (intAt xs (i * 19 + 1 + 1 + 1 + 1 + 1 + 1 + 1)), Value.int
 IntKind.u64 (intAt xs (i * 19 + 1 + 1 + 1 + 1 + 1 + 1 + 1 + 1)), Value.int IntKind.u64 (intAt xs (i * 19 + 1 + 1 + 1 + 1 + 1 + 1 + 1 + 1 + 1)), Value.int IntKind.u64 (intAt xs (i * 19 + 1 + 1 + 1 + 1 + 1 + 1 + 1 + 1 + 1 +
 1)), Value.int IntKind.u64 (intAt xs (i * 19 + 1 + 1 + 1 + 1 + 1 + 1 + 1 + 1 + 1 + 1 + 1)), Value.int IntKind.u64 (intAt xs (i * 19 + 1 + 1 + 1 + 1 + 1 + 1 + 1 + 1 + 1 + 1 + 1 + 1)), Value.int IntKind.u32 (intAt xs (i *
 19 + 1 + 1 + 1 + 1 + 1 + 1 + 1 + 1 + 1 + 1 + 1 + 1 + 1)), Value.int IntKind.u32 (intAt xs (i * 19 + 1 + 1 + 1 + 1 + 1 + 1 + 1 + 1 + 1 + 1 + 1 + 1 + 1 + 1)), Value.int IntKind.u32 (intAt xs (i * 19 + 1 + 1 + 1 + 1 + 1 + 1
 + 1 + 1 + 1 + 1 + 1 + 1 + 1 + 1 + 1)), Value.int IntKind.u16 (intAt xs (i * 19 + 1 + 1 + 1 + 1 + 1 + 1 + 1 + 1 + 1 + 1 + 1 + 1 + 1 + 1 + 1 + 1)), Value.int IntKind.u16 (intAt xs (i * 19 + 1 + 1 + 1 + 1 + 1 + 1 + 1 + 1 + 1
 + 1 + 1 + 1 + 1 + 1 + 1 + 1 + 1)), Value.int IntKind.u64 (intAt xs (i * 19 + 1 + 1 + 1 + 1 + 1 + 1 + 1 + 1 + 1 + 1 + 1 + 1 + 1 + 1 + 1 + 1 + 1 + 1))], R = rcdB, recW (intAt xs (i * 19 + 1 + 1 + 1 + 1 + 1 + 1 + 1 + 1 + 1 +
 1 + 1 + 1 + 1)) (intAt xs (i * 19 + 1 + 1 + 1 + 1 + 1 + 1 + 1 + 1 + 1 + 1 + 1 + 1 + 1 + 1)) (intAt xs (i * 19 + 1 + 1 + 1 + 1 + 1 + 1 + 1 + 1 + 1 + 1 + 1 + 1 + 1 + 1 + 1)) (intAt xs (i * 19 + 1 + 1 + 1 + 1 + 1 + 1 + 1 + 1
 + 1 + 1 + 1 + 1 + 1 + 1 + 1 + 1)) (intAt xs (i * 19 + 1 + 1 + 1 + 1 + 1 + 1 + 1 + 1 + 1 + 1 + 1 + 1 + 1 + 1 + 1 + 1 + 1)), capBig + 1 = capBig + 1, List.length ys = m, (m + 128) * 1 ≤ 140737488355328 ∧ m + 128 ≤
 9223372036854775807, 128 ≤ List.length (R (intAt xs (i * 19)) (intAt xs (i * 19 + 1)) (intAt xs (i * 19 + 1 + 1)) (intAt xs (i * 19 + 1 + 1 + 1)) (intAt xs (i * 19 + 1 + 1 + 1 + 1)) (intAt xs (i * 19 + 1 + 1 + 1 + 1 + 1))
 (intAt xs (i * 19 + 1 + 1 + 1 + 1 + 1 + 1)) (intAt xs (i * 19 + 1 + 1 + 1 + 1 + 1 + 1 + 1)) (intAt xs (i * 19 + 1 + 1 + 1 + 1 + 1 + 1 + 1 + 1)) (intAt xs (i * 19 + 1 + 1 + 1 + 1 + 1 + 1 + 1 + 1 + 1)) (intAt xs (i * 19 + 1
 + 1 + 1 + 1 + 1 + 1 + 1 + 1 + 1 + 1)) (intAt xs (i * 19 + 1 + 1 + 1 + 1 + 1 + 1 + 1 + 1 + 1 + 1 + 1)) (intAt xs (i * 19 + 1 + 1 + 1 + 1 + 1 + 1 + 1 + 1 + 1 + 1 + 1 + 1)) (intAt xs (i * 19 + 1 + 1 + 1 + 1 + 1 + 1 + 1 + 1 +
 1 + 1 + 1 + 1 + 1)) (intAt xs (i * 19 + 1 + 1 + 1 + 1 + 1 + 1 + 1 + 1 + 1 + 1 + 1 + 1 + 1 + 1)) (intAt xs (i * 19 + 1 + 1 + 1 + 1 + 1 + 1 + 1 + 1 + 1 + 1 + 1 + 1 + 1 + 1 + 1)) (intAt xs (i * 19 + 1 + 1 + 1 + 1 + 1 + 1 + 1
 + 1 + 1 + 1 + 1 + 1 + 1 + 1 + 1 + 1)) (intAt xs (i * 19 + 1 + 1 + 1 + 1 + 1 + 1 + 1 + 1 + 1 + 1 + 1 + 1 + 1 + 1 + 1 + 1 + 1)) (intAt xs (i * 19 + 1 + 1 + 1 + 1 + 1 + 1 + 1 + 1 + 1 + 1 + 1 + 1 + 1 + 1 + 1 + 1 + 1 + 1))),
 all1 (List.take 128 (R (intAt xs (i * 19)) (intAt xs (i * 19 + 1)) (intAt xs (i * 19 + 1 + 1)) (intAt xs (i * 19 + 1 + 1 + 1)) (intAt xs (i * 19 + 1 + 1 + 1 + 1)) (intAt xs (i * 19 + 1 + 1 + 1 + 1 + 1)) (intAt xs (i * 19
 + 1 + 1 + 1 + 1 + 1 + 1)) (intAt xs (i * 19 + 1 + 1 + 1 + 1 + 1 + 1 + 1)) (intAt xs (i * 19 + 1 + 1 + 1 + 1 + 1 + 1 + 1 + 1)) (intAt xs (i * 19 + 1 + 1 + 1 + 1 + 1 + 1 + 1 + 1 + 1)) (intAt xs (i * 19 + 1 + 1 + 1 + 1 + 1 +
 1 + 1 + 1 + 1 + 1)) (intAt xs (i * 19 + 1 + 1 + 1 + 1 + 1 + 1 + 1 + 1 + 1 + 1 + 1)) (intAt xs (i * 19 + 1 + 1 + 1 + 1 + 1 + 1 + 1 + 1 + 1 + 1 + 1 + 1)) (intAt xs (i * 19 + 1 + 1 + 1 + 1 + 1 + 1 + 1 + 1 + 1 + 1 + 1 + 1 +
 1)) (intAt xs (i * 19 + 1 + 1 + 1 + 1 + 1 + 1 + 1 + 1 + 1 + 1 + 1 + 1 + 1 + 1)) (intAt xs (i * 19 + 1 + 1 + 1 + 1 + 1 + 1 + 1 + 1 + 1 + 1 + 1 + 1 + 1 + 1 + 1)) (intAt xs (i * 19 + 1 + 1 + 1 + 1 + 1 + 1 + 1 + 1 + 1 + 1 + 1
 + 1 + 1 + 1 + 1 + 1)) (intAt xs (i * 19 + 1 + 1 + 1 + 1 + 1 + 1 + 1 + 1 + 1 + 1 + 1 + 1 + 1 + 1 + 1 + 1 + 1)) (intAt xs (i * 19 + 1 + 1 + 1 + 1 + 1 + 1 + 1 + 1 + 1 + 1 + 1 + 1 + 1 + 1 + 1 + 1 + 1 + 1)))) = true, rg
 IntKind.i64 (↑(i + 1) : Int)])
theorem rab_more1 (inr : Bool) (R : R19) (xs ys : List Value) (n c i m : Nat) : prjZ [0, 4, 5] (codeZ (rbV R noL) Try.prog (runZ (rbV R noL) Try.prog 5) 24 inr 100000 (raB Try.prog) (SL 23 (rbS n c i (.slice (some ⟨1, 0, none⟩) m (capBig + 1)))) [(0, ⟨.old, xs⟩), (1, byRow ys)] 2 [true]) = rab_more1_R inr R xs ys n c i m := by kernel_rfl
theorem rab_done1 (inr : Bool) (R : R19) (xs ys : List Value) (n c i m : Nat) : prjZ [4] (codeZ (rbV R noL) Try.prog (runZ (rbV R noL) Try.prog 5) 24 inr 100000 (raB Try.prog) (SL 23 (rbS n c i (.slice (some ⟨1, 0, none⟩) m (capBig + 1)))) [(0, ⟨.old, xs⟩), (1, byRow ys)] 2 [false]) =
  Res.ok ((Xt.exit 0, 23, [(4, Value.slice (some (Addr.mk 1 0 none)) m (capBig + 1))], [(0, Rw.mk Kd.old xs), (1, Rw.mk (Kd.room 1 [Value.int IntKind.u8 (0 : Int)]) ys)], 2, [], []), [], [decide ((↑i : Int) < (↑n : Int)) =
 false]) := by kernel_rfl
theorem rtb_more0 (inr : Bool) (R : R19) (xs : List Value) (n c i : Nat) : prjZ [0, 4, 5] (codeZ (rbV R noL) Try.prog (runZ (rbV R noL) Try.prog 5) 26 inr 100000 (rtB Try.prog) (SL 23 (rbS n c i (.slice none 0 0))) [(0, ⟨.old, xs⟩)] 1 [true]) = rab_more0_R inr R xs n c i := by kernel_rfl
theorem rtb_more1 (inr : Bool) (R : R19) (xs ys : List Value) (n c i m : Nat) : prjZ [0, 4, 5] (codeZ (rbV R noL) Try.prog (runZ (rbV R noL) Try.prog 5) 26 inr 100000 (rtB Try.prog) (SL 23 (rbS n c i (.slice (some ⟨1, 0, none⟩) m (capBig + 1)))) [(0, ⟨.old, xs⟩), (1, byRow ys)] 2 [true]) = rab_more1_R inr R xs ys n c i m := by kernel_rfl
theorem rtb_done1 (inr : Bool) (R : R19) (xs ys : List Value) (n c i m : Nat) : prjZ [4] (codeZ (rbV R noL) Try.prog (runZ (rbV R noL) Try.prog 5) 26 inr 100000 (rtB Try.prog) (SL 23 (rbS n c i (.slice (some ⟨1, 0, none⟩) m (capBig + 1)))) [(0, ⟨.old, xs⟩), (1, byRow ys)] 2 [false]) =
  Res.ok ((Xt.exit 0, 23, [(4, Value.slice (some (Addr.mk 1 0 none)) m (capBig + 1))], [(0, Rw.mk Kd.old xs), (1, Rw.mk (Kd.room 1 [Value.int IntKind.u8 (0 : Int)]) ys)], 2, [], []), [], [decide ((↑i : Int) < (↑n : Int)) =
 false]) := by kernel_rfl
def rbSpec (R : R19) : LSpec := lspec (fun live h => match live, h with | [(_, .slice _ n c), _, _], [(_, r0)] => some (n, c, r0.cs) | _, _ => none) (fun a => (rbS a.1 a.2.1 0 (.slice none 0 0), [(0, ⟨.old, a.2.2⟩)], 1))
  (fun a tp => some ((.exit 0, [(4, .slice (some ⟨1, 0, none⟩) (a.1 * 128) (capBig + 1))], [(0, ⟨.old, a.2.2⟩), (1, byRow (recL R a.2.2 0 a.1))], 9, []), tp, [R = rcdB, 0 < a.1, RecsOk a.2.2 a.1, a.1 ≤ 8, a.1 ≤ a.2.1 ∧ a.2.1 ≤ 9223372036854775807]))
def rbL (R : R19) (P : Program) : LFun := orL (mkL 24 5 23 [0, 4, 5] (raB P) (rbSpec R)) (mkL 26 5 23 [0, 4, 5] (rtB P) (rbSpec R))
theorem rab_long (R : R19) (xs : List Value) (n c : Nat) : prjV (runZ (rbV R noL) Try.prog 5 24 [.slice (some ⟨0, 0, none⟩) n c] [(0, ⟨.old, xs⟩)] 1 [true]) =
  Res.ok (Value.tuple (Array.mk [Value.slice none 0 0, Value.int IntKind.i64 (3 : Int)]), [], [decide ((↑n : Int) > (8 : Int)) = true]) := by kernel_rfl
theorem rab_ok (R : R19) (xs : List Value) (n c : Nat) : prjR 1 (runZ (rbV R (rbL R Try.prog)) Try.prog 5 24 [.slice (some ⟨0, 0, none⟩) n c] [(0, ⟨.old, xs⟩)] 1 [false]) =
  Res.ok ((Value.tuple (Array.mk [Value.slice (some (Addr.mk 1 0 none)) (n * 128) (capBig + 1), Value.int IntKind.i64 (0 : Int)]), Rw.mk (Kd.room 1 [Value.int IntKind.u8 (0 : Int)]) (recL R xs 0 n)), [], [decide ((↑n : Int)
 > (8 : Int)) = false, raB Try.prog = raB Try.prog, [(0, Value.slice (some (Addr.mk 0 0 none)) n c), (4, Value.slice none 0 0), (5, Value.int IntKind.i64 (0 : Int))] = rbS n c 0 (Value.slice none 0 0), [(0, Rw.mk Kd.old
 xs)] = [(0, Rw.mk Kd.old xs)], 1 = 1, R = rcdB, 0 < n, RecsOk xs n, n ≤ 8, n ≤ c ∧ c ≤ 9223372036854775807]) := by kernel_rfl
theorem rab_e (R : R19) (xs : List Value) (c : Nat) : prjV (runZ (rbV R noL) Try.prog 5 24 [.slice (some ⟨0, 0, none⟩) 0 c] [(0, ⟨.old, xs⟩)] 1 [false, false]) =
  Res.ok (Value.tuple (Array.mk [Value.slice none 0 0, Value.int IntKind.i64 (0 : Int)]), [], [false = false, false = false]) := by kernel_rfl
theorem rab_n (R : R19) : prjV (runZ (rbV R noL) Try.prog 5 24 [.slice none 0 0] [] 1 [false, false]) =
  Res.ok (Value.tuple (Array.mk [Value.slice none 0 0, Value.int IntKind.i64 (0 : Int)]), [], [false = false, false = false]) := by kernel_rfl
theorem rtb_long (R : R19) (xs : List Value) (n c : Nat) : prjV (runZ (rbV R noL) Try.prog 5 26 [.slice (some ⟨0, 0, none⟩) n c] [(0, ⟨.old, xs⟩)] 1 [true]) =
  Res.ok (Value.tuple (Array.mk [Value.slice none 0 0, Value.int IntKind.i64 (3 : Int)]), [], [decide ((↑n : Int) > (8 : Int)) = true]) := by kernel_rfl
theorem rtb_ok (R : R19) (xs : List Value) (n c : Nat) : prjR 1 (runZ (rbV R (rbL R Try.prog)) Try.prog 5 26 [.slice (some ⟨0, 0, none⟩) n c] [(0, ⟨.old, xs⟩)] 1 [false]) =
  Res.ok ((Value.tuple (Array.mk [Value.slice (some (Addr.mk 1 0 none)) (n * 128) (capBig + 1), Value.int IntKind.i64 (0 : Int)]), Rw.mk (Kd.room 1 [Value.int IntKind.u8 (0 : Int)]) (recL R xs 0 n)), [], [decide ((↑n : Int)
 > (8 : Int)) = false, rtB Try.prog = rtB Try.prog, [(0, Value.slice (some (Addr.mk 0 0 none)) n c), (4, Value.slice none 0 0), (5, Value.int IntKind.i64 (0 : Int))] = rbS n c 0 (Value.slice none 0 0), [(0, Rw.mk Kd.old
 xs)] = [(0, Rw.mk Kd.old xs)], 1 = 1, R = rcdB, 0 < n, RecsOk xs n, n ≤ 8, n ≤ c ∧ c ≤ 9223372036854775807]) := by kernel_rfl
theorem rtb_e (R : R19) (xs : List Value) (c : Nat) : prjV (runZ (rbV R noL) Try.prog 5 26 [.slice (some ⟨0, 0, none⟩) 0 c] [(0, ⟨.old, xs⟩)] 1 [false, false]) =
  Res.ok (Value.tuple (Array.mk [Value.slice none 0 0, Value.int IntKind.i64 (0 : Int)]), [], [false = false, false = false]) := by kernel_rfl
theorem rtb_n (R : R19) : prjV (runZ (rbV R noL) Try.prog 5 26 [.slice none 0 0] [] 1 [false, false]) =
  Res.ok (Value.tuple (Array.mk [Value.slice none 0 0, Value.int IntKind.i64 (0 : Int)]), [], [false = false, false = false]) := by kernel_rfl
def sRb (B : List Value) : Spec1 := fun xs n tp => match tp with
  | true :: tp => some (⟨fun _ => tupE 3, []⟩, tp, [8 < n])
  | false :: true :: tp => some (⟨fun _ => tupE 0, []⟩, tp, [n = 0])
  | false :: false :: tp => some (⟨fun nx => tup0 (.slice (some ⟨nx, 0, none⟩) (n * 128) (capBig + nx)), [byRow B]⟩, tp, [B = recL rcdB xs 0 n, RecsOk xs n, 0 < n, n ≤ 8])
  | _ => none
theorem ra_loop1 {inr : Bool} {h0 : Hp} {R : R19} {xs : List Value} {n c : Nat} (hR : R = rcdB) (H : RecsOk xs n) (hn : n ≤ 8) (hc : n ≤ c ∧ c ≤ 9223372036854775807) : ∀ (k i m : Nat) (A : List Value), i + k = n → A.length = m → m = i * 128 → Byts A →
    LRuns inr Try.prog (raB Try.prog) 1 9 h0 23 (rbS n c i (.slice (some ⟨1, 0, none⟩) m (capBig + 1))) [(0, ⟨.old, xs⟩), (1, byRow A)] 2 (.exit 0, [(4, .slice (some ⟨1, 0, none⟩) (n * 128) (capBig + 1))], [(0, ⟨.old, xs⟩), (1, byRow (A ++ recL R xs i k))])
  | 0, i, m, A, hk, hA, hm, hb => by
      have hX : XOkZ (rbV R noL) Try.prog := noXz_ok rfl
      have hT : TOkZ (rbV R noL) Try.prog := T_okV rfl (rfT_one R)
      have hL : LOkZ (rbV R noL) Try.prog := noL_okV rfl
      obtain rfl : i = n := by omega
      subst hm
      have e2 : A ++ recL R xs i 0 = A := List.append_nil A
      rw [e2]
      refine LRuns.exit (code_runs hX hL (runZ_ok hX hT hL mixed 5) mixed (rab_done1 inr R xs A i c i (i * 128)) ?_) (by intro e; cases e) rfl (by omega) (by omega) (fun n => n) ?_ ?_ rfl
      · simp [Alls]
      · exact ⟨rfl, rb_slg rfl rfl, trivial⟩
      · exact ⟨rb_old (by omega) rfl H.f, rb_row (m := 1) rfl rfl rfl rfl (fl_byts hb), trivial⟩
  | k + 1, i, m, A, hk, hA, hm, hb => by
      have hX : XOkZ (rbV R noL) Try.prog := noXz_ok rfl
      have hT : TOkZ (rbV R noL) Try.prog := T_okV rfl (rfT_one R)
      have hL : LOkZ (rbV R noL) Try.prog := noL_okV rfl
      have ht := H.t i (by omega)
      have hw := H.w i (by omega)
      have hl := recX_len hR xs i
      have hbx := recX_Byts hR xs i
      have ex : (recX R xs i).take 128 = recX R xs i := take_len hl
      have a1 := all1_byts hbx
      have hb2 := hb.app hbx
      have hA2 : (A ++ recX R xs i).length = m + 128 := by rw [List.length_append, hA, hl]
      have nx := ra_loop1 (inr := inr) (h0 := h0) hR H hn hc k (i + 1) (m + 128) (A ++ recX R xs i) (by omega) hA2 (by omega) hb2
      have e3 : A ++ recX R xs i ++ recL R xs (i + 1) k = A ++ recL R xs i (k + 1) := by simp only [recL, List.append_assoc]
      rw [e3] at nx
      unfold recX at ex a1 hl
      have hl' : (128 : Nat) ≤ _ := Nat.le_of_eq hl.symm
      refine LRuns.step (code_runs hX hL (runZ_ok hX hT hL mixed 5) mixed (rab_more1 inr R xs A n c i m) ?_) rfl (by omega) (by omega) (fun _ => 3) ?_ ?_ rfl nx
      ·
        repeat' (first | exact alls_nil | refine alls_cons ?_ ?_)
        all_goals (try simp only [ex])
        all_goals first | with_reducible rfl | with_reducible assumption | omega | (simp only [decide_eq_true_eq]; omega) | exact ht | exact hw | exact a1 | (simp only [rg]; omega) | rfl
      · exact ⟨rfl, rb_slc rfl (by unfold capBig; omega), rfl, rb_slg rfl rfl, rfl, rfl, trivial⟩
      · refine ⟨rb_old (by omega) rfl H.f, rb_row (m := 3) rfl rfl rfl ?_ (fl_byts hb2), trivial⟩
        exact congrArg (A ++ ·) ex
theorem ra_loop {inr : Bool} {h0 : Hp} {R : R19} {xs : List Value} {n c : Nat} (hR : R = rcdB) (H : RecsOk xs n) (h0n : 0 < n) (hn : n ≤ 8) (hc : n ≤ c ∧ c ≤ 9223372036854775807) :
    LRuns inr Try.prog (raB Try.prog) 1 9 h0 23 (rbS n c 0 (.slice none 0 0)) [(0, ⟨.old, xs⟩)] 1 (.exit 0, [(4, .slice (some ⟨1, 0, none⟩) (n * 128) (capBig + 1))], [(0, ⟨.old, xs⟩), (1, byRow (recL R xs 0 n))]) := by
  have hX : XOkZ (rbV R noL) Try.prog := noXz_ok rfl
  have hT : TOkZ (rbV R noL) Try.prog := T_okV rfl (rfT_one R)
  have hL : LOkZ (rbV R noL) Try.prog := noL_okV rfl
  obtain ⟨k, rfl⟩ : ∃ k, n = k + 1 := ⟨n - 1, by omega⟩
  have ht := H.t 0 (by omega)
  have hw := H.w 0 (by omega)
  have hl := recX_len hR xs 0
  have hbx := recX_Byts hR xs 0
  have ex : (recX R xs 0).take 128 = recX R xs 0 := take_len hl
  have a1 := all1_byts hbx
  have nx := ra_loop1 (inr := inr) (h0 := h0) hR H hn hc k 1 128 (recX R xs 0) (by omega) hl rfl hbx
  unfold recX at ex a1 hl
  have hl' : (128 : Nat) ≤ _ := Nat.le_of_eq hl.symm
  refine LRuns.stepTo (N' := 2) (code_runs hX hL (runZ_ok hX hT hL mixed 5) mixed (rab_more0 inr R xs (k + 1) c 0) ?_) rfl (by omega) (by omega) (by omega) (by omega) (fun _ => 2) ?_ ?_ rfl nx
  ·
    repeat' (first | exact alls_nil | refine alls_cons ?_ ?_)
    all_goals (try simp only [ex])
    all_goals first | with_reducible rfl | with_reducible assumption | omega | (simp only [decide_eq_true_eq]; omega) | exact ht | exact hw | exact a1 | (simp only [rg]; omega) | rfl
  · exact ⟨rfl, rb_slc rfl (by unfold capBig; omega), rfl, rb_slg rfl rfl, rfl, rfl, trivial⟩
  · refine ⟨rb_old (by omega) rfl H.f, rb_row (m := 2) rfl rfl rfl ?_ (fl_byts hbx), trivial⟩
    exact ex
theorem ra_spec_ok (R : R19) : LSOk Try.prog 23 [0, 4, 5] (raB Try.prog) (rbSpec R) := by
  refine lspec_ok fun a tp xt l2 h2 nx2 d tp' ob hs ho inr ts hn hg => ?_
  obtain ⟨n, c, xs⟩ := a
  simp only at hs hg
  simp only [Option.some.injEq, Prod.mk.injEq] at hs
  obtain ⟨⟨rfl, rfl, rfl, rfl, rfl⟩, rfl, rfl⟩ := hs
  obtain ⟨hR, h0n, H, hn8, hc, _⟩ := ho
  (try simp only at H h0n hn8 hc)
  have key := ra_loop (inr := inr) (h0 := [(0, ⟨.old, xs⟩)]) hR H h0n hn8 hc
  refine LRuns.enter (l2 := rbS n c 0 (.slice none 0 0)) (h := [(0, ⟨.old, xs⟩)]) (h2 := [(0, ⟨.old, xs⟩)]) hn hg (Nat.le_refl 1) (by omega) (fun n => n) ?_ ⟨rb_old (by omega) rfl H.f, trivial⟩ rfl key ?_
  · exact ⟨rfl, rb_slc rfl (by unfold capBig; omega), rfl, rfl, rfl, rfl, trivial⟩
  · exact tidy_of (by omega) (fun m hm hd => (by (try simp only at hm); obtain rfl : m = 0 := (by omega); rfl)) rfl
theorem rt_loop1 {inr : Bool} {h0 : Hp} {R : R19} {xs : List Value} {n c : Nat} (hR : R = rcdB) (H : RecsOk xs n) (hn : n ≤ 8) (hc : n ≤ c ∧ c ≤ 9223372036854775807) : ∀ (k i m : Nat) (A : List Value), i + k = n → A.length = m → m = i * 128 → Byts A →
    LRuns inr Try.prog (rtB Try.prog) 1 9 h0 23 (rbS n c i (.slice (some ⟨1, 0, none⟩) m (capBig + 1))) [(0, ⟨.old, xs⟩), (1, byRow A)] 2 (.exit 0, [(4, .slice (some ⟨1, 0, none⟩) (n * 128) (capBig + 1))], [(0, ⟨.old, xs⟩), (1, byRow (A ++ recL R xs i k))])
  | 0, i, m, A, hk, hA, hm, hb => by
      have hX : XOkZ (rbV R noL) Try.prog := noXz_ok rfl
      have hT : TOkZ (rbV R noL) Try.prog := T_okV rfl (rfT_one R)
      have hL : LOkZ (rbV R noL) Try.prog := noL_okV rfl
      obtain rfl : i = n := by omega
      subst hm
      have e2 : A ++ recL R xs i 0 = A := List.append_nil A
      rw [e2]
      refine LRuns.exit (code_runs hX hL (runZ_ok hX hT hL mixed 5) mixed (rtb_done1 inr R xs A i c i (i * 128)) ?_) (by intro e; cases e) rfl (by omega) (by omega) (fun n => n) ?_ ?_ rfl
      · simp [Alls]
      · exact ⟨rfl, rb_slg rfl rfl, trivial⟩
      · exact ⟨rb_old (by omega) rfl H.f, rb_row (m := 1) rfl rfl rfl rfl (fl_byts hb), trivial⟩
  | k + 1, i, m, A, hk, hA, hm, hb => by
      have hX : XOkZ (rbV R noL) Try.prog := noXz_ok rfl
      have hT : TOkZ (rbV R noL) Try.prog := T_okV rfl (rfT_one R)
      have hL : LOkZ (rbV R noL) Try.prog := noL_okV rfl
      have ht := H.t i (by omega)
      have hw := H.w i (by omega)
      have hl := recX_len hR xs i
      have hbx := recX_Byts hR xs i
      have ex : (recX R xs i).take 128 = recX R xs i := take_len hl
      have a1 := all1_byts hbx
      have hb2 := hb.app hbx
      have hA2 : (A ++ recX R xs i).length = m + 128 := by rw [List.length_append, hA, hl]
      have nx := rt_loop1 (inr := inr) (h0 := h0) hR H hn hc k (i + 1) (m + 128) (A ++ recX R xs i) (by omega) hA2 (by omega) hb2
      have e3 : A ++ recX R xs i ++ recL R xs (i + 1) k = A ++ recL R xs i (k + 1) := by simp only [recL, List.append_assoc]
      rw [e3] at nx
      unfold recX at ex a1 hl
      have hl' : (128 : Nat) ≤ _ := Nat.le_of_eq hl.symm
      refine LRuns.step (code_runs hX hL (runZ_ok hX hT hL mixed 5) mixed (rtb_more1 inr R xs A n c i m) ?_) rfl (by omega) (by omega) (fun _ => 3) ?_ ?_ rfl nx
      ·
        repeat' (first | exact alls_nil | refine alls_cons ?_ ?_)
        all_goals (try simp only [ex])
        all_goals first | with_reducible rfl | with_reducible assumption | omega | (simp only [decide_eq_true_eq]; omega) | exact ht | exact hw | exact a1 | (simp only [rg]; omega) | rfl
      · exact ⟨rfl, rb_slc rfl (by unfold capBig; omega), rfl, rb_slg rfl rfl, rfl, rfl, trivial⟩
      · refine ⟨rb_old (by omega) rfl H.f, rb_row (m := 3) rfl rfl rfl ?_ (fl_byts hb2), trivial⟩
        exact congrArg (A ++ ·) ex
theorem rt_loop {inr : Bool} {h0 : Hp} {R : R19} {xs : List Value} {n c : Nat} (hR : R = rcdB) (H : RecsOk xs n) (h0n : 0 < n) (hn : n ≤ 8) (hc : n ≤ c ∧ c ≤ 9223372036854775807) :
    LRuns inr Try.prog (rtB Try.prog) 1 9 h0 23 (rbS n c 0 (.slice none 0 0)) [(0, ⟨.old, xs⟩)] 1 (.exit 0, [(4, .slice (some ⟨1, 0, none⟩) (n * 128) (capBig + 1))], [(0, ⟨.old, xs⟩), (1, byRow (recL R xs 0 n))]) := by
  have hX : XOkZ (rbV R noL) Try.prog := noXz_ok rfl
  have hT : TOkZ (rbV R noL) Try.prog := T_okV rfl (rfT_one R)
  have hL : LOkZ (rbV R noL) Try.prog := noL_okV rfl
  obtain ⟨k, rfl⟩ : ∃ k, n = k + 1 := ⟨n - 1, by omega⟩
  have ht := H.t 0 (by omega)
  have hw := H.w 0 (by omega)
  have hl := recX_len hR xs 0
  have hbx := recX_Byts hR xs 0
  have ex : (recX R xs 0).take 128 = recX R xs 0 := take_len hl
  have a1 := all1_byts hbx
  have nx := rt_loop1 (inr := inr) (h0 := h0) hR H hn hc k 1 128 (recX R xs 0) (by omega) hl rfl hbx
  unfold recX at ex a1 hl
  have hl' : (128 : Nat) ≤ _ := Nat.le_of_eq hl.symm
  refine LRuns.stepTo (N' := 2) (code_runs hX hL (runZ_ok hX hT hL mixed 5) mixed (rtb_more0 inr R xs (k + 1) c 0) ?_) rfl (by omega) (by omega) (by omega) (by omega) (fun _ => 2) ?_ ?_ rfl nx
  ·
    repeat' (first | exact alls_nil | refine alls_cons ?_ ?_)
    all_goals (try simp only [ex])
    all_goals first | with_reducible rfl | with_reducible assumption | omega | (simp only [decide_eq_true_eq]; omega) | exact ht | exact hw | exact a1 | (simp only [rg]; omega) | rfl
  · exact ⟨rfl, rb_slc rfl (by unfold capBig; omega), rfl, rb_slg rfl rfl, rfl, rfl, trivial⟩
  · refine ⟨rb_old (by omega) rfl H.f, rb_row (m := 2) rfl rfl rfl ?_ (fl_byts hbx), trivial⟩
    exact ex
theorem rt_spec_ok (R : R19) : LSOk Try.prog 23 [0, 4, 5] (rtB Try.prog) (rbSpec R) := by
  refine lspec_ok fun a tp xt l2 h2 nx2 d tp' ob hs ho inr ts hn hg => ?_
  obtain ⟨n, c, xs⟩ := a
  simp only at hs hg
  simp only [Option.some.injEq, Prod.mk.injEq] at hs
  obtain ⟨⟨rfl, rfl, rfl, rfl, rfl⟩, rfl, rfl⟩ := hs
  obtain ⟨hR, h0n, H, hn8, hc, _⟩ := ho
  (try simp only at H h0n hn8 hc)
  have key := rt_loop (inr := inr) (h0 := [(0, ⟨.old, xs⟩)]) hR H h0n hn8 hc
  refine LRuns.enter (l2 := rbS n c 0 (.slice none 0 0)) (h := [(0, ⟨.old, xs⟩)]) (h2 := [(0, ⟨.old, xs⟩)]) hn hg (Nat.le_refl 1) (by omega) (fun n => n) ?_ ⟨rb_old (by omega) rfl H.f, trivial⟩ rfl key ?_
  · exact ⟨rfl, rb_slc rfl (by unfold capBig; omega), rfl, rfl, rfl, rfl, trivial⟩
  · exact tidy_of (by omega) (fun m hm hd => (by (try simp only at hm); obtain rfl : m = 0 := (by omega); rfl)) rfl
theorem rab_gok (B : List Value) : GOk Try.prog 24 [.s 19] (gS (sRb B)) := by
  have hX : ∀ L, XOkZ (rbV rcdB L) Try.prog := fun L => noXz_ok rfl
  have hT : ∀ L, TOkZ (rbV rcdB L) Try.prog := fun L => T_okV rfl (rfT_one rcdB)
  have hL : LOkZ (rbV rcdB (rbL rcdB Try.prog)) Try.prog := L_okV rfl (orL_ok (mkL_ok (ra_spec_ok rcdB)) (mkL_ok (rt_spec_ok rcdB)))
  have hL0 : LOkZ (rbV rcdB noL) Try.prog := noL_okV rfl
  refine gS_ok (fun tp gr tp' ob hG ho => ?_) (fun xs n c tp gr tp' ob hG ho hfl hl0 hc => ?_)
  · unfold sRb at hG
    split at hG
    case h_4 => cases hG
    all_goals (simp only [Option.some.injEq, Prod.mk.injEq] at hG; obtain ⟨rfl, rfl, rfl⟩ := hG)
    · exact absurd ho.1 (by omega)
    · exact ran_tupE (run_val (hX _) (hT _) hL0 (rab_n rcdB) (by simp [Alls]) rfl)
    · exact absurd ho.2.2.1 (by omega)
  · unfold sRb at hG
    split at hG
    case h_4 => cases hG
    all_goals (simp only [Option.some.injEq, Prod.mk.injEq] at hG; obtain ⟨rfl, rfl, rfl⟩ := hG)
    · exact ran_tupE (run_val (hX _) (hT _) hL0 (rab_long rcdB xs n c) ⟨gt8t ho.1, trivial⟩ rfl)
    · obtain ⟨rfl, _⟩ := ho
      exact ran_tupE (run_val (hX _) (hT _) hL0 (rab_e rcdB xs c) (by simp [Alls]) rfl)
    · obtain ⟨rfl, H, h0n, hn, _⟩ := ho
      have g8 := gt8f hn
      refine ran_tupB (run_row (hX _) (hT _) hL (rab_ok rcdB xs n c) ?_ rfl) rfl (fl_byts (recL_Byts rfl xs n 0))
      repeat' (first | exact alls_nil | refine alls_cons ?_ ?_)
      all_goals first | with_reducible rfl | with_reducible assumption | omega | rfl
theorem rtb_gok (B : List Value) : GOk Try.prog 26 [.s 19] (gS (sRb B)) := by
  have hX : ∀ L, XOkZ (rbV rcdB L) Try.prog := fun L => noXz_ok rfl
  have hT : ∀ L, TOkZ (rbV rcdB L) Try.prog := fun L => T_okV rfl (rfT_one rcdB)
  have hL : LOkZ (rbV rcdB (rbL rcdB Try.prog)) Try.prog := L_okV rfl (orL_ok (mkL_ok (ra_spec_ok rcdB)) (mkL_ok (rt_spec_ok rcdB)))
  have hL0 : LOkZ (rbV rcdB noL) Try.prog := noL_okV rfl
  refine gS_ok (fun tp gr tp' ob hG ho => ?_) (fun xs n c tp gr tp' ob hG ho hfl hl0 hc => ?_)
  · unfold sRb at hG
    split at hG
    case h_4 => cases hG
    all_goals (simp only [Option.some.injEq, Prod.mk.injEq] at hG; obtain ⟨rfl, rfl, rfl⟩ := hG)
    · exact absurd ho.1 (by omega)
    · exact ran_tupE (run_val (hX _) (hT _) hL0 (rtb_n rcdB) (by simp [Alls]) rfl)
    · exact absurd ho.2.2.1 (by omega)
  · unfold sRb at hG
    split at hG
    case h_4 => cases hG
    all_goals (simp only [Option.some.injEq, Prod.mk.injEq] at hG; obtain ⟨rfl, rfl, rfl⟩ := hG)
    · exact ran_tupE (run_val (hX _) (hT _) hL0 (rtb_long rcdB xs n c) ⟨gt8t ho.1, trivial⟩ rfl)
    · obtain ⟨rfl, _⟩ := ho
      exact ran_tupE (run_val (hX _) (hT _) hL0 (rtb_e rcdB xs c) (by simp [Alls]) rfl)
    · obtain ⟨rfl, H, h0n, hn, _⟩ := ho
      have g8 := gt8f hn
      refine ran_tupB (run_row (hX _) (hT _) hL (rtb_ok rcdB xs n c) ?_ rfl) rfl (fl_byts (recL_Byts rfl xs n 0))
      repeat' (first | exact alls_nil | refine alls_cons ?_ ?_)
      all_goals first | with_reducible rfl | with_reducible assumption | omega | rfl
end Go.Proofs.Ytgpgdkpfeoaidaa
