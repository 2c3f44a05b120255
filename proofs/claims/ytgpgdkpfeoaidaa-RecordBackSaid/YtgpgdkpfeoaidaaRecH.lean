/-
  Chapter 02: batches that bytes say: the program's functions and the document's, what is run.
-/
import Derived.Test.YtgpgdkpfeoaidaaRecRr
import Derived.Test.YtgpgdkpfeoaidaaKitW
namespace Go.Proofs.Ytgpgdkpfeoaidaa
set_option linter.unusedSimpArgs false
set_option linter.unusedVariables false
set_option linter.unusedSectionVars false
open Go Go.RowKit

abbrev RF := Nat → List Value → Int
def rcF : RF := fun i xs => match i with
  | 0 => r8 (xs.drop 8) | 1 => r8 (xs.drop 0) | 2 => r8 (xs.drop 24) | 3 => r8 (xs.drop 16) | 4 => r8 (xs.drop 40) | 5 => r8 (xs.drop 32) | 6 => r8 (xs.drop 56)
  | 7 => r8 (xs.drop 48) | 8 => r8 (xs.drop 72) | 9 => r8 (xs.drop 64) | 10 => r8 (xs.drop 88) | 11 => r8 (xs.drop 80) | 12 => r8 (xs.drop 96)
  | 13 => r4 (xs.drop 104) | 14 => r4 (xs.drop 108) | 15 => r4 (xs.drop 112) | 16 => r2 (xs.drop 116) | 17 => r2 (xs.drop 118) | _ => r8 (xs.drop 120)
def rcC (F : RF) (xs : List Value) : List Value := [.int .u64 (F 0 xs), .int .u64 (F 1 xs), .int .u64 (F 2 xs), .int .u64 (F 3 xs), .int .u64 (F 4 xs), .int .u64 (F 5 xs), .int .u64 (F 6 xs), .int .u64 (F 7 xs), .int .u64 (F 8 xs), .int .u64 (F 9 xs), .int .u64 (F 10 xs), .int .u64 (F 11 xs), .int .u64 (F 12 xs), .int .u32 (F 13 xs), .int .u32 (F 14 xs), .int .u32 (F 15 xs), .int .u16 (F 16 xs), .int .u16 (F 17 xs), .int .u64 (F 18 xs)]
def sAf (F : RF) : Spec1 := fun xs n tp => some (⟨fun _ => .agg ⟨rcC F xs⟩, []⟩, tp, [F = rcF, Byts xs, n = 128])
def sRf (F : RF) : Spec1 := fun xs n tp => some (⟨fun _ => .tuple ⟨[.agg ⟨rcC F xs⟩, .int .i64 0]⟩, []⟩, tp, [F = rcF, Byts xs, n = 128])
theorem ac_gokF (F : RF) : GOk Try.prog 37 [.s 1] (gS (sAf F)) := by
  refine gS_ok (fun tp gr tp' ob hG ho => ?_) (fun xs n c tp gr tp' ob hG ho hfl hl0 hc => ?_)
  · unfold sAf at hG
    simp only [Option.some.injEq, Prod.mk.injEq] at hG
    obtain ⟨rfl, rfl, rfl⟩ := hG
    exact absurd ho.2.2.1 (by decide)
  · unfold sAf at hG
    simp only [Option.some.injEq, Prod.mk.injEq] at hG
    obtain ⟨rfl, rfl, rfl⟩ := hG
    obtain ⟨hF, hb, rfl, _⟩ := ho
    subst hF
    exact ac_run hb (by omega) hc
theorem tr_gokF (F : RF) : GOk Try.prog 40 [.s 1] (gS (sAf F)) := by
  refine gS_ok (fun tp gr tp' ob hG ho => ?_) (fun xs n c tp gr tp' ob hG ho hfl hl0 hc => ?_)
  · unfold sAf at hG
    simp only [Option.some.injEq, Prod.mk.injEq] at hG
    obtain ⟨rfl, rfl, rfl⟩ := hG
    exact absurd ho.2.2.1 (by decide)
  · unfold sAf at hG
    simp only [Option.some.injEq, Prod.mk.injEq] at hG
    obtain ⟨rfl, rfl, rfl⟩ := hG
    obtain ⟨hF, hb, rfl, _⟩ := ho
    subst hF
    exact tr_run hb (by omega) hc
theorem ra_r_gokF (F : RF) : GOk Try.prog 17 [.s 1] (gS (sRf F)) := by
  refine gS_ok (fun tp gr tp' ob hG ho => ?_) (fun xs n c tp gr tp' ob hG ho hfl hl0 hc => ?_)
  · unfold sRf at hG
    simp only [Option.some.injEq, Prod.mk.injEq] at hG
    obtain ⟨rfl, rfl, rfl⟩ := hG
    exact absurd ho.2.2.1 (by decide)
  · unfold sRf at hG
    simp only [Option.some.injEq, Prod.mk.injEq] at hG
    obtain ⟨rfl, rfl, rfl⟩ := hG
    obtain ⟨hF, hb, rfl, _⟩ := ho
    subst hF
    exact ra_r_run hb (by omega) hc
theorem rt_r_gokF (F : RF) : GOk Try.prog 19 [.s 1] (gS (sRf F)) := by
  refine gS_ok (fun tp gr tp' ob hG ho => ?_) (fun xs n c tp gr tp' ob hG ho hfl hl0 hc => ?_)
  · unfold sRf at hG
    simp only [Option.some.injEq, Prod.mk.injEq] at hG
    obtain ⟨rfl, rfl, rfl⟩ := hG
    exact absurd ho.2.2.1 (by decide)
  · unfold sRf at hG
    simp only [Option.some.injEq, Prod.mk.injEq] at hG
    obtain ⟨rfl, rfl, rfl⟩ := hG
    obtain ⟨hF, hb, rfl, _⟩ := ho
    subst hF
    exact rt_r_run hb (by omega) hc
def rhT (F : RF) : TFun := orTz (mkT 37 [.s 1] (gS (sAf F))) (orTz (mkT 40 [.s 1] (gS (sAf F))) (orTz (mkT 17 [.s 1] (gS (sRf F))) (mkT 19 [.s 1] (gS (sRf F)))))
theorem rhT_one (F : RF) : TOneZ Try.prog (rhT F) := orTz_ok (mkT_one (ac_gokF F)) (orTz_ok (mkT_one (tr_gokF F)) (orTz_ok (mkT_one (ra_r_gokF F)) (mkT_one (rt_r_gokF F))))
def rhS : FuncId → Nat → Option Nat := orSy (lsSy 55 [(16, 0), (28, 0)]) (orSy (lsSy 29 [(25, 0)]) (lsSy 30 [(25, 0)]))
def rhV (F : RF) (g : FuncId) : Tv := ⟨rhT F, noXz, noL, fun _ => [], rhS, fun _ => [], fun _ => g⟩
def rbW (F : RF) : Tv := ⟨rhT F, noXz, noL, fun f => bif Nat.beq f 41 then [12, 16] else bif Nat.beq f 42 then [12, 16] else bif Nat.beq f 43 then [6, 9] else [], allSy 43 [], fun _ => [], fun _ => 0⟩
def rbX (F : RF) (f : FuncId) : Tv := { rbW F with sy := allSy f [] }
def z19 : List Value := [.int .u64 0, .int .u64 0, .int .u64 0, .int .u64 0, .int .u64 0, .int .u64 0, .int .u64 0, .int .u64 0, .int .u64 0, .int .u64 0, .int .u64 0, .int .u64 0, .int .u64 0, .int .u32 0, .int .u32 0, .int .u32 0, .int .u16 0, .int .u16 0, .int .u64 0]
def rhL (F : RF) (xs : List Value) : Nat → Nat → List Value
  | _, 0 => []
  | o, k + 1 => rcC F ((xs.drop o).take 128) ++ rhL F xs (o + 128) k
def prjQ : Res (Out × Tape × List Prop) → Res ((Value × Rw) × Tape × List Prop)
  | .ok ((v, h, _, _), tp, ob) => match v with
    | .tuple ⟨[.slice (some ⟨m, 0, none⟩) _ _, _]⟩ => (match lk h m with | some r => .ok ((v, r), tp, ob) | none => .no)
    | _ => .no
  | .ask b => .ask b
  | .no => .no
theorem rda_bad (F : RF) (xs : List Value) (n c : Nat) : prjV (runZ (rbX F 41) Try.prog 9 21 [.slice (some ⟨0, 0, none⟩) n c] [(0, ⟨.old, xs⟩)] 1 [true]) =
  Res.ok (Value.tuple (Array.mk [Value.slice none 0 0, Value.int IntKind.i64 (4 : Int)]), [], [(0 : Int) ≤ (↑n : Int) ∧ (0 : Int) < (128 : Int), ((↑(n % 128) : Int) != (0 : Int)) = true]) := by kernel_rfl
theorem rda_long (F : RF) (xs : List Value) (n c : Nat) : prjV (runZ (rbX F 41) Try.prog 9 21 [.slice (some ⟨0, 0, none⟩) n c] [(0, ⟨.old, xs⟩)] 1 [false, true]) =
  Res.ok (Value.tuple (Array.mk [Value.slice none 0 0, Value.int IntKind.i64 (3 : Int)]), [], [(0 : Int) ≤ (↑n : Int) ∧ (0 : Int) < (128 : Int), ((↑(n % 128) : Int) != (0 : Int)) = false, decide ((↑n : Int) > (1024 : Int))
 = true]) := by kernel_rfl
theorem rda_n (F : RF) : prjV (runZ (rhV F 41) Try.prog 9 21 [.slice none 0 0] [] 1 []) =
  Res.ok (Value.tuple (Array.mk [Value.slice none 0 0, Value.int IntKind.i64 (0 : Int)]), [], []) := by kernel_rfl
theorem rda_0 (F : RF) (xs : List Value) (c : Nat) : prjV (runZ (rhV F 41) Try.prog 9 21 [.slice (some ⟨0, 0, none⟩) 0 c] [(0, ⟨.old, xs⟩)] 1 []) =
  Res.ok (Value.tuple (Array.mk [Value.slice none 0 0, Value.int IntKind.i64 (0 : Int)]), [], []) := by kernel_rfl
theorem rda_1 (F : RF) (xs : List Value) (c : Nat) : prjQ (runZ (rhV F 41) Try.prog 9 21 [.slice (some ⟨0, 0, none⟩) 128 c] [(0, ⟨.old, xs⟩)] 1 []) =
  Res.ok ((Value.tuple (Array.mk [Value.slice (some (Addr.mk 8 0 none)) 1 (capBig + 8), Value.int IntKind.i64 (0 : Int)]), Rw.mk (Kd.room 19 z19) (rhL F xs 0 1)), [], [c < 18446744073709551616, (0 : Int) ≤ (0 : Int) ∧ (0 :
 Int) ≤ (128 : Int), c < 18446744073709551616, (0 : Int) ≤ (128 : Int) ∧ (128 : Int) ≤ (↑c : Int), (0 : Int) ≤ (128 : Int) ∧ (128 : Int) ≤ (128 : Int), (0 : Int) ≤ (0 : Int) ∧ (0 : Int) ≤ (128 : Int), 128 ≤ 128 ∧ 128 ≤
 9223372036854775807, 128 ≤ List.length xs, Fl (List.take 128 xs), F = rcF, Byts (List.take 128 xs), 128 = 128]) := by kernel_rfl
theorem rda_2 (F : RF) (xs : List Value) (c : Nat) : prjQ (runZ (rhV F 41) Try.prog 9 21 [.slice (some ⟨0, 0, none⟩) 256 c] [(0, ⟨.old, xs⟩)] 1 []) =
  Res.ok ((Value.tuple (Array.mk [Value.slice (some (Addr.mk 10 0 none)) 2 (capBig + 10), Value.int IntKind.i64 (0 : Int)]), Rw.mk (Kd.room 19 z19) (rhL F xs 0 2)), [], ((fun (q0 q1 q2 : Prop) => [q0, (0 : Int) ≤ (0 : Int)
 ∧ (0 : Int) ≤ (256 : Int), q0, (0 : Int) ≤ (128 : Int) ∧ (128 : Int) ≤ (↑c : Int), (0 : Int) ≤ (128 : Int) ∧ (128 : Int) ≤ (128 : Int), (0 : Int) ≤ (0 : Int) ∧ (0 : Int) ≤ (128 : Int), q1, 128 ≤ List.length xs, Fl
 (List.take 128 xs), F = rcF, Byts (List.take 128 xs), 128 = 128, q0, q2, q0, (0 : Int) ≤ (256 : Int) ∧ (256 : Int) ≤ (↑c : Int), (0 : Int) ≤ (256 : Int) ∧ (256 : Int) ≤ (256 : Int), q2, q1, 256 ≤ List.length xs, Fl
 (List.take 128 (List.drop 128 xs)), F = rcF, Byts (List.take 128 (List.drop 128 xs)), 128 = 128]) (c < 18446744073709551616) (128 ≤ 128 ∧ 128 ≤ 9223372036854775807) ((0 : Int) ≤ (128 : Int) ∧ (128 : Int) ≤ (256 : Int)))) := by kernel_rfl
theorem rda_3 (F : RF) (xs : List Value) (c : Nat) : prjQ (runZ (rhV F 41) Try.prog 9 21 [.slice (some ⟨0, 0, none⟩) 384 c] [(0, ⟨.old, xs⟩)] 1 []) =
  Res.ok ((Value.tuple (Array.mk [Value.slice (some (Addr.mk 12 0 none)) 3 (capBig + 12), Value.int IntKind.i64 (0 : Int)]), Rw.mk (Kd.room 19 z19) (rhL F xs 0 3)), [], ((fun (q0 q1 q2 : Prop) => [q0, (0 : Int) ≤ (0 : Int)
 ∧ (0 : Int) ≤ (384 : Int), q0, (0 : Int) ≤ (128 : Int) ∧ (128 : Int) ≤ (↑c : Int), (0 : Int) ≤ (128 : Int) ∧ (128 : Int) ≤ (128 : Int), (0 : Int) ≤ (0 : Int) ∧ (0 : Int) ≤ (128 : Int), q1, 128 ≤ List.length xs, Fl
 (List.take 128 xs), F = rcF, Byts (List.take 128 xs), 128 = 128, q0, (0 : Int) ≤ (128 : Int) ∧ (128 : Int) ≤ (384 : Int), q0, (0 : Int) ≤ (256 : Int) ∧ (256 : Int) ≤ (↑c : Int), (0 : Int) ≤ (256 : Int) ∧ (256 : Int) ≤
 (256 : Int), (0 : Int) ≤ (128 : Int) ∧ (128 : Int) ≤ (256 : Int), q1, 256 ≤ List.length xs, Fl (List.take 128 (List.drop 128 xs)), F = rcF, Byts (List.take 128 (List.drop 128 xs)), 128 = 128, q0, q2, q0, (0 : Int) ≤ (384
 : Int) ∧ (384 : Int) ≤ (↑c : Int), (0 : Int) ≤ (384 : Int) ∧ (384 : Int) ≤ (384 : Int), q2, q1, 384 ≤ List.length xs, Fl (List.take 128 (List.drop 256 xs)), F = rcF, Byts (List.take 128 (List.drop 256 xs)), 128 = 128]) (c
 < 18446744073709551616) (128 ≤ 128 ∧ 128 ≤ 9223372036854775807) ((0 : Int) ≤ (256 : Int) ∧ (256 : Int) ≤ (384 : Int)))) := by kernel_rfl
abbrev rda_4_R (F : RF) (xs : List Value) (c : Nat) : Res ((Value × Rw) × Tape × List Prop) :=
  Res.ok ((Value.tuple (Array.mk [Value.slice (some (Addr.mk 14 0 none)) 4 (capBig + 14), Value.int IntKind.i64 (0 : Int)]), Rw.mk (Kd.room 19 z19) (rhL F xs 0 4)), [], ((fun (q0 q1 q2 : Prop) => [q0, (0 : Int) ≤ (0 : Int)
 ∧ (0 : Int) ≤ (512 : Int), q0, (0 : Int) ≤ (128 : Int) ∧ (128 : Int) ≤ (↑c : Int), (0 : Int) ≤ (128 : Int) ∧ (128 : Int) ≤ (128 : Int), (0 : Int) ≤ (0 : Int) ∧ (0 : Int) ≤ (128 : Int), q1, 128 ≤ List.length xs, Fl
 (List.take 128 xs), F = rcF, Byts (List.take 128 xs), 128 = 128, q0, (0 : Int) ≤ (128 : Int) ∧ (128 : Int) ≤ (512 : Int), q0, (0 : Int) ≤ (256 : Int) ∧ (256 : Int) ≤ (↑c : Int), (0 : Int) ≤ (256 : Int) ∧ (256 : Int) ≤
 (256 : Int), (0 : Int) ≤ (128 : Int) ∧ (128 : Int) ≤ (256 : Int), q1, 256 ≤ List.length xs, Fl (List.take 128 (List.drop 128 xs)), F = rcF, Byts (List.take 128 (List.drop 128 xs)), 128 = 128, q0, (0 : Int) ≤ (256 : Int) ∧
 (256 : Int) ≤ (512 : Int), q0, (0 : Int) ≤ (384 : Int) ∧ (384 : Int) ≤ (↑c : Int), (0 : Int) ≤ (384 : Int) ∧ (384 : Int) ≤ (384 : Int), (0 : Int) ≤ (256 : Int) ∧ (256 : Int) ≤ (384 : Int), q1, 384 ≤ List.length xs, Fl
 (List.take 128 (List.drop 256 xs)), F = rcF, Byts (List.take 128 (List.drop 256 xs)), 128 = 128, q0, q2, q0, (0 : Int) ≤ (512 : Int) ∧ (512 : Int) ≤ (↑c : Int), (0 : Int) ≤ (512 : Int) ∧ (512 : Int) ≤ (512 : Int), q2, q1,
 512 ≤ List.length xs, Fl (List.take 128 (List.drop 384 xs)), F = rcF, Byts (List.take 128 (List.drop 384 xs)), 128 = 128]) (c < 18446744073709551616) (128 ≤ 128 ∧ 128 ≤ 9223372036854775807) ((0 : Int) ≤ (384 : Int) ∧ (384
 : Int) ≤ (512 : Int))))
theorem rda_4 (F : RF) (xs : List Value) (c : Nat) : prjQ (runZ (rhV F 41) Try.prog 9 21 [.slice (some ⟨0, 0, none⟩) 512 c] [(0, ⟨.old, xs⟩)] 1 []) = rda_4_R F xs c := by kernel_rfl
abbrev rda_5_R (F : RF) (xs : List Value) (c : Nat) : Res ((Value × Rw) × Tape × List Prop) :=
  Res.ok ((Value.tuple (Array.mk [Value.slice (some (Addr.mk 16 0 none)) 5 (capBig + 16), Value.int IntKind.i64 (0 : Int)]), Rw.mk (Kd.room 19 z19) (rhL F xs 0 5)), [], ((fun (q0 q1 q2 : Prop) => [q0, (0 : Int) ≤ (0 : Int)
 ∧ (0 : Int) ≤ (640 : Int), q0, (0 : Int) ≤ (128 : Int) ∧ (128 : Int) ≤ (↑c : Int), (0 : Int) ≤ (128 : Int) ∧ (128 : Int) ≤ (128 : Int), (0 : Int) ≤ (0 : Int) ∧ (0 : Int) ≤ (128 : Int), q1, 128 ≤ List.length xs, Fl
 (List.take 128 xs), F = rcF, Byts (List.take 128 xs), 128 = 128, q0, (0 : Int) ≤ (128 : Int) ∧ (128 : Int) ≤ (640 : Int), q0, (0 : Int) ≤ (256 : Int) ∧ (256 : Int) ≤ (↑c : Int), (0 : Int) ≤ (256 : Int) ∧ (256 : Int) ≤
 (256 : Int), (0 : Int) ≤ (128 : Int) ∧ (128 : Int) ≤ (256 : Int), q1, 256 ≤ List.length xs, Fl (List.take 128 (List.drop 128 xs)), F = rcF, Byts (List.take 128 (List.drop 128 xs)), 128 = 128, q0, (0 : Int) ≤ (256 : Int) ∧
 (256 : Int) ≤ (640 : Int), q0, (0 : Int) ≤ (384 : Int) ∧ (384 : Int) ≤ (↑c : Int), (0 : Int) ≤ (384 : Int) ∧ (384 : Int) ≤ (384 : Int), (0 : Int) ≤ (256 : Int) ∧ (256 : Int) ≤ (384 : Int), q1, 384 ≤ List.length xs, Fl
 (List.take 128 (List.drop 256 xs)), F = rcF, Byts (List.take 128 (List.drop 256 xs)), 128 = 128, q0, (0 : Int) ≤ (384 : Int) ∧ (384 : Int) ≤ (640 : Int), q0, (0 : Int) ≤ (512 : Int) ∧ (512 : Int) ≤ (↑c : Int), (0 : Int) ≤
 (512 : Int) ∧ (512 : Int) ≤ (512 : Int), (0 : Int) ≤ (384 : Int) ∧ (384 : Int) ≤ (512 : Int), q1, 512 ≤ List.length xs, Fl (List.take 128 (List.drop 384 xs)), F = rcF, Byts (List.take 128 (List.drop 384 xs)), 128 = 128,
 q0, q2, q0, (0 : Int) ≤ (640 : Int) ∧ (640 : Int) ≤ (↑c : Int), (0 : Int) ≤ (640 : Int) ∧ (640 : Int) ≤ (640 : Int), q2, q1, 640 ≤ List.length xs, Fl (List.take 128 (List.drop 512 xs)), F = rcF, Byts (List.take 128
 (List.drop 512 xs)), 128 = 128]) (c < 18446744073709551616) (128 ≤ 128 ∧ 128 ≤ 9223372036854775807) ((0 : Int) ≤ (512 : Int) ∧ (512 : Int) ≤ (640 : Int))))
theorem rda_5 (F : RF) (xs : List Value) (c : Nat) : prjQ (runZ (rhV F 41) Try.prog 9 21 [.slice (some ⟨0, 0, none⟩) 640 c] [(0, ⟨.old, xs⟩)] 1 []) = rda_5_R F xs c := by kernel_rfl
abbrev rda_6_R (F : RF) (xs : List Value) (c : Nat) : Res ((Value × Rw) × Tape × List Prop) :=
  Res.ok ((Value.tuple (Array.mk [Value.slice (some (Addr.mk 18 0 none)) 6 (capBig + 18), Value.int IntKind.i64 (0 : Int)]), Rw.mk (Kd.room 19 z19) (rhL F xs 0 6)), [], ((fun (q0 q1 q2 : Prop) => [q0, (0 : Int) ≤ (0 : Int)
 ∧ (0 : Int) ≤ (768 : Int), q0, (0 : Int) ≤ (128 : Int) ∧ (128 : Int) ≤ (↑c : Int), (0 : Int) ≤ (128 : Int) ∧ (128 : Int) ≤ (128 : Int), (0 : Int) ≤ (0 : Int) ∧ (0 : Int) ≤ (128 : Int), q1, 128 ≤ List.length xs, Fl
 (List.take 128 xs), F = rcF, Byts (List.take 128 xs), 128 = 128, q0, (0 : Int) ≤ (128 : Int) ∧ (128 : Int) ≤ (768 : Int), q0, (0 : Int) ≤ (256 : Int) ∧ (256 : Int) ≤ (↑c : Int), (0 : Int) ≤ (256 : Int) ∧ (256 : Int) ≤
 (256 : Int), (0 : Int) ≤ (128 : Int) ∧ (128 : Int) ≤ (256 : Int), q1, 256 ≤ List.length xs, Fl (List.take 128 (List.drop 128 xs)), F = rcF, Byts (List.take 128 (List.drop 128 xs)), 128 = 128, q0, (0 : Int) ≤ (256 : Int) ∧
 (256 : Int) ≤ (768 : Int), q0, (0 : Int) ≤ (384 : Int) ∧ (384 : Int) ≤ (↑c : Int), (0 : Int) ≤ (384 : Int) ∧ (384 : Int) ≤ (384 : Int), (0 : Int) ≤ (256 : Int) ∧ (256 : Int) ≤ (384 : Int), q1, 384 ≤ List.length xs, Fl
 (List.take 128 (List.drop 256 xs)), F = rcF, Byts (List.take 128 (List.drop 256 xs)), 128 = 128, q0, (0 : Int) ≤ (384 : Int) ∧ (384 : Int) ≤ (768 : Int), q0, (0 : Int) ≤ (512 : Int) ∧ (512 : Int) ≤ (↑c : Int), (0 : Int) ≤
 (512 : Int) ∧ (512 : Int) ≤ (512 : Int), (0 : Int) ≤ (384 : Int) ∧ (384 : Int) ≤ (512 : Int), q1, 512 ≤ List.length xs, Fl (List.take 128 (List.drop 384 xs)), F = rcF, Byts (List.take 128 (List.drop 384 xs)), 128 = 128,
 q0, (0 : Int) ≤ (512 : Int) ∧ (512 : Int) ≤ (768 : Int), q0, (0 : Int) ≤ (640 : Int) ∧ (640 : Int) ≤ (↑c : Int), (0 : Int) ≤ (640 : Int) ∧ (640 : Int) ≤ (640 : Int), (0 : Int) ≤ (512 : Int) ∧ (512 : Int) ≤ (640 : Int),
 q1, 640 ≤ List.length xs, Fl (List.take 128 (List.drop 512 xs)), F = rcF, Byts (List.take 128 (List.drop 512 xs)), 128 = 128, q0, q2, q0, (0 : Int) ≤ (768 : Int) ∧ (768 : Int) ≤ (↑c : Int), (0 : Int) ≤ (768 : Int) ∧ (768
 : Int) ≤ (768 : Int), q2, q1, 768 ≤ List.length xs, Fl (List.take 128 (List.drop 640 xs)), F = rcF, Byts (List.take 128 (List.drop 640 xs)), 128 = 128]) (c < 18446744073709551616) (128 ≤ 128 ∧ 128 ≤ 9223372036854775807)
 ((0 : Int) ≤ (640 : Int) ∧ (640 : Int) ≤ (768 : Int))))
theorem rda_6 (F : RF) (xs : List Value) (c : Nat) : prjQ (runZ (rhV F 41) Try.prog 9 21 [.slice (some ⟨0, 0, none⟩) 768 c] [(0, ⟨.old, xs⟩)] 1 []) = rda_6_R F xs c := by kernel_rfl
abbrev rda_7_R (F : RF) (xs : List Value) (c : Nat) : Res ((Value × Rw) × Tape × List Prop) :=
  Res.ok ((Value.tuple (Array.mk [Value.slice (some (Addr.mk 20 0 none)) 7 (capBig + 20), Value.int IntKind.i64 (0 : Int)]), Rw.mk (Kd.room 19 z19) (rhL F xs 0 7)), [], ((fun (q0 q1 q2 : Prop) => [q0, (0 : Int) ≤ (0 : Int)
 ∧ (0 : Int) ≤ (896 : Int), q0, (0 : Int) ≤ (128 : Int) ∧ (128 : Int) ≤ (↑c : Int), (0 : Int) ≤ (128 : Int) ∧ (128 : Int) ≤ (128 : Int), (0 : Int) ≤ (0 : Int) ∧ (0 : Int) ≤ (128 : Int), q1, 128 ≤ List.length xs, Fl
 (List.take 128 xs), F = rcF, Byts (List.take 128 xs), 128 = 128, q0, (0 : Int) ≤ (128 : Int) ∧ (128 : Int) ≤ (896 : Int), q0, (0 : Int) ≤ (256 : Int) ∧ (256 : Int) ≤ (↑c : Int), (0 : Int) ≤ (256 : Int) ∧ (256 : Int) ≤
 (256 : Int), (0 : Int) ≤ (128 : Int) ∧ (128 : Int) ≤ (256 : Int), q1, 256 ≤ List.length xs, Fl (List.take 128 (List.drop 128 xs)), F = rcF, Byts (List.take 128 (List.drop 128 xs)), 128 = 128, q0, (0 : Int) ≤ (256 : Int) ∧
 (256 : Int) ≤ (896 : Int), q0, (0 : Int) ≤ (384 : Int) ∧ (384 : Int) ≤ (↑c : Int), (0 : Int) ≤ (384 : Int) ∧ (384 : Int) ≤ (384 : Int), (0 : Int) ≤ (256 : Int) ∧ (256 : Int) ≤ (384 : Int), q1, 384 ≤ List.length xs, Fl
 (List.take 128 (List.drop 256 xs)), F = rcF, Byts (List.take 128 (List.drop 256 xs)), 128 = 128, q0, (0 : Int) ≤ (384 : Int) ∧ (384 : Int) ≤ (896 : Int), q0, (0 : Int) ≤ (512 : Int) ∧ (512 : Int) ≤ (↑c : Int), (0 : Int) ≤
 (512 : Int) ∧ (512 : Int) ≤ (512 : Int), (0 : Int) ≤ (384 : Int) ∧ (384 : Int) ≤ (512 : Int), q1, 512 ≤ List.length xs, Fl (List.take 128 (List.drop 384 xs)), F = rcF, Byts (List.take 128 (List.drop 384 xs)), 128 = 128,
 q0, (0 : Int) ≤ (512 : Int) ∧ (512 : Int) ≤ (896 : Int), q0, (0 : Int) ≤ (640 : Int) ∧ (640 : Int) ≤ (↑c : Int), (0 : Int) ≤ (640 : Int) ∧ (640 : Int) ≤ (640 : Int), (0 : Int) ≤ (512 : Int) ∧ (512 : Int) ≤ (640 : Int),
 q1, 640 ≤ List.length xs, Fl (List.take 128 (List.drop 512 xs)), F = rcF, Byts (List.take 128 (List.drop 512 xs)), 128 = 128, q0, (0 : Int) ≤ (640 : Int) ∧ (640 : Int) ≤ (896 : Int), q0, (0 : Int) ≤ (768 : Int) ∧ (768 :
 Int) ≤ (↑c : Int), (0 : Int) ≤ (768 : Int) ∧ (768 : Int) ≤ (768 : Int), (0 : Int) ≤ (640 : Int) ∧ (640 : Int) ≤ (768 : Int), q1, 768 ≤ List.length xs, Fl (List.take 128 (List.drop 640 xs)), F = rcF, Byts (List.take 128
 (List.drop 640 xs)), 128 = 128, q0, q2, q0, (0 : Int) ≤ (896 : Int) ∧ (896 : Int) ≤ (↑c : Int), (0 : Int) ≤ (896 : Int) ∧ (896 : Int) ≤ (896 : Int), q2, q1, 896 ≤ List.length xs, Fl (List.take 128 (List.drop 768 xs)), F =
 rcF, Byts (List.take 128 (List.drop 768 xs)), 128 = 128]) (c < 18446744073709551616) (128 ≤ 128 ∧ 128 ≤ 9223372036854775807) ((0 : Int) ≤ (768 : Int) ∧ (768 : Int) ≤ (896 : Int))))
theorem rda_7 (F : RF) (xs : List Value) (c : Nat) : prjQ (runZ (rhV F 41) Try.prog 9 21 [.slice (some ⟨0, 0, none⟩) 896 c] [(0, ⟨.old, xs⟩)] 1 []) = rda_7_R F xs c := by kernel_rfl
abbrev rda_8_R (F : RF) (xs : List Value) (c : Nat) : Res ((Value × Rw) × Tape × List Prop) :=
  Res.ok ((Value.tuple (Array.mk [Value.slice (some (Addr.mk 22 0 none)) 8 (capBig + 22), Value.int IntKind.i64 (0 : Int)]), Rw.mk (Kd.room 19 z19) (rhL F xs 0 8)), [], ((fun (q0 q1 q2 : Prop) => [q0, (0 : Int) ≤ (0 : Int)
 ∧ (0 : Int) ≤ (1024 : Int), q0, (0 : Int) ≤ (128 : Int) ∧ (128 : Int) ≤ (↑c : Int), (0 : Int) ≤ (128 : Int) ∧ (128 : Int) ≤ (128 : Int), (0 : Int) ≤ (0 : Int) ∧ (0 : Int) ≤ (128 : Int), q1, 128 ≤ List.length xs, Fl
 (List.take 128 xs), F = rcF, Byts (List.take 128 xs), 128 = 128, q0, (0 : Int) ≤ (128 : Int) ∧ (128 : Int) ≤ (1024 : Int), q0, (0 : Int) ≤ (256 : Int) ∧ (256 : Int) ≤ (↑c : Int), (0 : Int) ≤ (256 : Int) ∧ (256 : Int) ≤
 (256 : Int), (0 : Int) ≤ (128 : Int) ∧ (128 : Int) ≤ (256 : Int), q1, 256 ≤ List.length xs, Fl (List.take 128 (List.drop 128 xs)), F = rcF, Byts (List.take 128 (List.drop 128 xs)), 128 = 128, q0, (0 : Int) ≤ (256 : Int) ∧
 (256 : Int) ≤ (1024 : Int), q0, (0 : Int) ≤ (384 : Int) ∧ (384 : Int) ≤ (↑c : Int), (0 : Int) ≤ (384 : Int) ∧ (384 : Int) ≤ (384 : Int), (0 : Int) ≤ (256 : Int) ∧ (256 : Int) ≤ (384 : Int), q1, 384 ≤ List.length xs, Fl
 (List.take 128 (List.drop 256 xs)), F = rcF, Byts (List.take 128 (List.drop 256 xs)), 128 = 128, q0, (0 : Int) ≤ (384 : Int) ∧ (384 : Int) ≤ (1024 : Int), q0, (0 : Int) ≤ (512 : Int) ∧ (512 : Int) ≤ (↑c : Int), (0 : Int)
 ≤ (512 : Int) ∧ (512 : Int) ≤ (512 : Int), (0 : Int) ≤ (384 : Int) ∧ (384 : Int) ≤ (512 : Int), q1, 512 ≤ List.length xs, Fl (List.take 128 (List.drop 384 xs)), F = rcF, Byts (List.take 128 (List.drop 384 xs)), 128 = 128,
 q0, (0 : Int) ≤ (512 : Int) ∧ (512 : Int) ≤ (1024 : Int), q0, (0 : Int) ≤ (640 : Int) ∧ (640 : Int) ≤ (↑c : Int), (0 : Int) ≤ (640 : Int) ∧ (640 : Int) ≤ (640 : Int), (0 : Int) ≤ (512 : Int) ∧ (512 : Int) ≤ (640 : Int),
 q1, 640 ≤ List.length xs, Fl (List.take 128 (List.drop 512 xs)), F = rcF, Byts (List.take 128 (List.drop 512 xs)), 128 = 128, q0, (0 : Int) ≤ (640 : Int) ∧ (640 : Int) ≤ (1024 : Int), q0, (0 : Int) ≤ (768 : Int) ∧ (768 :
 Int) ≤ (↑c : Int), (0 : Int) ≤ (768 : Int) ∧ (768 : Int) ≤ (768 : Int), (0 : Int) ≤ (640 : Int) ∧ (640 : Int) ≤ (768 : Int), q1, 768 ≤ List.length xs, Fl (List.take 128 (List.drop 640 xs)), F = rcF, Byts (List.take 128
 (List.drop 640 xs)), 128 = 128, q0, (0 : Int) ≤ (768 : Int) ∧ (768 : Int) ≤ (1024 : Int), q0, (0 : Int) ≤ (896 : Int) ∧ (896 : Int) ≤ (↑c : Int), (0 : Int) ≤ (896 : Int) ∧ (896 : Int) ≤ (896 : Int), (0 : Int) ≤ (768 :
 Int) ∧ (768 : Int) ≤ (896 : Int), q1, 896 ≤ List.length xs, Fl (List.take 128 (List.drop 768 xs)), F = rcF, Byts (List.take 128 (List.drop 768 xs)), 128 = 128, q0, q2, q0, (0 : Int) ≤ (1024 : Int) ∧ (1024 : Int) ≤ (↑c :
 Int), (0 : Int) ≤ (1024 : Int) ∧ (1024 : Int) ≤ (1024 : Int), q2, q1, 1024 ≤ List.length xs, Fl (List.take 128 (List.drop 896 xs)), F = rcF, Byts (List.take 128 (List.drop 896 xs)), 128 = 128]) (c < 18446744073709551616)
 (128 ≤ 128 ∧ 128 ≤ 9223372036854775807) ((0 : Int) ≤ (896 : Int) ∧ (896 : Int) ≤ (1024 : Int))))
theorem rda_8 (F : RF) (xs : List Value) (c : Nat) : prjQ (runZ (rhV F 41) Try.prog 9 21 [.slice (some ⟨0, 0, none⟩) 1024 c] [(0, ⟨.old, xs⟩)] 1 []) = rda_8_R F xs c := by kernel_rfl
theorem rdt_bad (F : RF) (xs : List Value) (n c : Nat) : prjV (runZ (rbX F 42) Try.prog 9 22 [.slice (some ⟨0, 0, none⟩) n c] [(0, ⟨.old, xs⟩)] 1 [true]) =
  Res.ok (Value.tuple (Array.mk [Value.slice none 0 0, Value.int IntKind.i64 (4 : Int)]), [], [(0 : Int) ≤ (↑n : Int) ∧ (0 : Int) < (128 : Int), ((↑(n % 128) : Int) != (0 : Int)) = true]) := by kernel_rfl
theorem rdt_long (F : RF) (xs : List Value) (n c : Nat) : prjV (runZ (rbX F 42) Try.prog 9 22 [.slice (some ⟨0, 0, none⟩) n c] [(0, ⟨.old, xs⟩)] 1 [false, true]) =
  Res.ok (Value.tuple (Array.mk [Value.slice none 0 0, Value.int IntKind.i64 (3 : Int)]), [], [(0 : Int) ≤ (↑n : Int) ∧ (0 : Int) < (128 : Int), ((↑(n % 128) : Int) != (0 : Int)) = false, decide ((↑n : Int) > (1024 : Int))
 = true]) := by kernel_rfl
theorem rdt_n (F : RF) : prjV (runZ (rhV F 42) Try.prog 9 22 [.slice none 0 0] [] 1 []) =
  Res.ok (Value.tuple (Array.mk [Value.slice none 0 0, Value.int IntKind.i64 (0 : Int)]), [], []) := by kernel_rfl
theorem rdt_0 (F : RF) (xs : List Value) (c : Nat) : prjV (runZ (rhV F 42) Try.prog 9 22 [.slice (some ⟨0, 0, none⟩) 0 c] [(0, ⟨.old, xs⟩)] 1 []) =
  Res.ok (Value.tuple (Array.mk [Value.slice none 0 0, Value.int IntKind.i64 (0 : Int)]), [], []) := by kernel_rfl
theorem rdt_1 (F : RF) (xs : List Value) (c : Nat) : prjQ (runZ (rhV F 42) Try.prog 9 22 [.slice (some ⟨0, 0, none⟩) 128 c] [(0, ⟨.old, xs⟩)] 1 []) =
  Res.ok ((Value.tuple (Array.mk [Value.slice (some (Addr.mk 8 0 none)) 1 (capBig + 8), Value.int IntKind.i64 (0 : Int)]), Rw.mk (Kd.room 19 z19) (rhL F xs 0 1)), [], [c < 18446744073709551616, (0 : Int) ≤ (0 : Int) ∧ (0 :
 Int) ≤ (128 : Int), c < 18446744073709551616, (0 : Int) ≤ (128 : Int) ∧ (128 : Int) ≤ (↑c : Int), (0 : Int) ≤ (128 : Int) ∧ (128 : Int) ≤ (128 : Int), (0 : Int) ≤ (0 : Int) ∧ (0 : Int) ≤ (128 : Int), 128 ≤ 128 ∧ 128 ≤
 9223372036854775807, 128 ≤ List.length xs, Fl (List.take 128 xs), F = rcF, Byts (List.take 128 xs), 128 = 128]) := by kernel_rfl
theorem rdt_2 (F : RF) (xs : List Value) (c : Nat) : prjQ (runZ (rhV F 42) Try.prog 9 22 [.slice (some ⟨0, 0, none⟩) 256 c] [(0, ⟨.old, xs⟩)] 1 []) =
  Res.ok ((Value.tuple (Array.mk [Value.slice (some (Addr.mk 10 0 none)) 2 (capBig + 10), Value.int IntKind.i64 (0 : Int)]), Rw.mk (Kd.room 19 z19) (rhL F xs 0 2)), [], ((fun (q0 q1 q2 : Prop) => [q0, (0 : Int) ≤ (0 : Int)
 ∧ (0 : Int) ≤ (256 : Int), q0, (0 : Int) ≤ (128 : Int) ∧ (128 : Int) ≤ (↑c : Int), (0 : Int) ≤ (128 : Int) ∧ (128 : Int) ≤ (128 : Int), (0 : Int) ≤ (0 : Int) ∧ (0 : Int) ≤ (128 : Int), q1, 128 ≤ List.length xs, Fl
 (List.take 128 xs), F = rcF, Byts (List.take 128 xs), 128 = 128, q0, q2, q0, (0 : Int) ≤ (256 : Int) ∧ (256 : Int) ≤ (↑c : Int), (0 : Int) ≤ (256 : Int) ∧ (256 : Int) ≤ (256 : Int), q2, q1, 256 ≤ List.length xs, Fl
 (List.take 128 (List.drop 128 xs)), F = rcF, Byts (List.take 128 (List.drop 128 xs)), 128 = 128]) (c < 18446744073709551616) (128 ≤ 128 ∧ 128 ≤ 9223372036854775807) ((0 : Int) ≤ (128 : Int) ∧ (128 : Int) ≤ (256 : Int)))) := by kernel_rfl
theorem rdt_3 (F : RF) (xs : List Value) (c : Nat) : prjQ (runZ (rhV F 42) Try.prog 9 22 [.slice (some ⟨0, 0, none⟩) 384 c] [(0, ⟨.old, xs⟩)] 1 []) =
  Res.ok ((Value.tuple (Array.mk [Value.slice (some (Addr.mk 12 0 none)) 3 (capBig + 12), Value.int IntKind.i64 (0 : Int)]), Rw.mk (Kd.room 19 z19) (rhL F xs 0 3)), [], ((fun (q0 q1 q2 : Prop) => [q0, (0 : Int) ≤ (0 : Int)
 ∧ (0 : Int) ≤ (384 : Int), q0, (0 : Int) ≤ (128 : Int) ∧ (128 : Int) ≤ (↑c : Int), (0 : Int) ≤ (128 : Int) ∧ (128 : Int) ≤ (128 : Int), (0 : Int) ≤ (0 : Int) ∧ (0 : Int) ≤ (128 : Int), q1, 128 ≤ List.length xs, Fl
 (List.take 128 xs), F = rcF, Byts (List.take 128 xs), 128 = 128, q0, (0 : Int) ≤ (128 : Int) ∧ (128 : Int) ≤ (384 : Int), q0, (0 : Int) ≤ (256 : Int) ∧ (256 : Int) ≤ (↑c : Int), (0 : Int) ≤ (256 : Int) ∧ (256 : Int) ≤
 (256 : Int), (0 : Int) ≤ (128 : Int) ∧ (128 : Int) ≤ (256 : Int), q1, 256 ≤ List.length xs, Fl (List.take 128 (List.drop 128 xs)), F = rcF, Byts (List.take 128 (List.drop 128 xs)), 128 = 128, q0, q2, q0, (0 : Int) ≤ (384
 : Int) ∧ (384 : Int) ≤ (↑c : Int), (0 : Int) ≤ (384 : Int) ∧ (384 : Int) ≤ (384 : Int), q2, q1, 384 ≤ List.length xs, Fl (List.take 128 (List.drop 256 xs)), F = rcF, Byts (List.take 128 (List.drop 256 xs)), 128 = 128]) (c
 < 18446744073709551616) (128 ≤ 128 ∧ 128 ≤ 9223372036854775807) ((0 : Int) ≤ (256 : Int) ∧ (256 : Int) ≤ (384 : Int)))) := by kernel_rfl
theorem rdt_4 (F : RF) (xs : List Value) (c : Nat) : prjQ (runZ (rhV F 42) Try.prog 9 22 [.slice (some ⟨0, 0, none⟩) 512 c] [(0, ⟨.old, xs⟩)] 1 []) = rda_4_R F xs c := by kernel_rfl
theorem rdt_5 (F : RF) (xs : List Value) (c : Nat) : prjQ (runZ (rhV F 42) Try.prog 9 22 [.slice (some ⟨0, 0, none⟩) 640 c] [(0, ⟨.old, xs⟩)] 1 []) = rda_5_R F xs c := by kernel_rfl
theorem rdt_6 (F : RF) (xs : List Value) (c : Nat) : prjQ (runZ (rhV F 42) Try.prog 9 22 [.slice (some ⟨0, 0, none⟩) 768 c] [(0, ⟨.old, xs⟩)] 1 []) = rda_6_R F xs c := by kernel_rfl
theorem rdt_7 (F : RF) (xs : List Value) (c : Nat) : prjQ (runZ (rhV F 42) Try.prog 9 22 [.slice (some ⟨0, 0, none⟩) 896 c] [(0, ⟨.old, xs⟩)] 1 []) = rda_7_R F xs c := by kernel_rfl
theorem rdt_8 (F : RF) (xs : List Value) (c : Nat) : prjQ (runZ (rhV F 42) Try.prog 9 22 [.slice (some ⟨0, 0, none⟩) 1024 c] [(0, ⟨.old, xs⟩)] 1 []) = rda_8_R F xs c := by kernel_rfl
end Go.Proofs.Ytgpgdkpfeoaidaa
