/-
  What a list of numbers comes to: the program's function and the document's, by contracts.
-/
import Derived.Test.YtpiapipmhlpmjaaKitS
import Derived.Test.YtpiapipmhlpmjaaOpenSl
import Derived.Test.YtpiapipmhlpmjaaU128KW
import Derived.Test.YtpiapipmhlpmjaaU128C
namespace Go.Proofs.Ytpiapipmhlpmjaa
set_option linter.unusedSimpArgs false
set_option linter.unusedVariables false
set_option linter.unusedSectionVars false
open Go Go.RowKit

def gTrueY : GSpec := fun av tp => match av with
  | [] => some (⟨fun _ => .bool true, []⟩, tp, [])
  | _ => none
theorem gTrueY_ok {f : FuncId} (H : ∀ W : World, Calls Try.prog f #[] W fun e w' => e = .returned (.bool true) ∧ Ext W w') : GOk Try.prog f [] gTrueY := by
  intro av tp gr tp' ob hG ho hP caps hcap
  unfold gTrueY at hG
  split at hG
  case h_2 => cases hG
  simp only [Option.some.injEq, Prod.mk.injEq] at hG
  obtain ⟨rfl, rfl, rfl⟩ := hG
  refine ⟨_, _, _, _, fun n => n, tri_quiet (v := .bool true) (fun σ args' ha => ?_) (fun σ => rfl) fun w => ?_, GrIs.flat fun σ => rfl⟩
  · simp only [canV, renL, Option.some.injEq] at ha
    exact ha.symm
  · exact H w
def RunsTrue (P : Program) (f : FuncId) (args : List Value) (h : Hp) (nx : Nat) : Prop := ∃ h' nx' d, Tri P f args h nx (.bool true, h', nx', d)
def aH (h l a b : Int) : Int := (addV h l a b).1
def aL (h l a b : Int) : Int := (addV h l a b).2.1
def aO (h l a b : Int) : Bool := (addV h l a b).2.2
def gAddZ : GSpec := fun av tp => match av with
  | [.fl (.agg ⟨[.int .u64 h, .int .u64 l]⟩), .fl (.agg ⟨[.int .u64 a, .int .u64 b]⟩)] => some (⟨fun _ => .tuple ⟨[.agg ⟨[.int .u64 (aH h l a b), .int .u64 (aL h l a b)]⟩, .bool (aO h l a b)]⟩, []⟩, tp, [wf64 h ∧ wf64 l ∧ wf64 a ∧ wf64 b])
  | _ => none
def addT : TFun := orTz (mkT 14 [.f, .f] gAddZ) (mkT 15 [.f, .f] gAddZ)
def sumV (L : LFun) : Tv := ⟨addT, noXz, L, fun f => bif Nat.beq f 11 then [11, 20] else bif Nat.beq f 12 then [11, 23] else [], orSy (allSy 11 []) (allSy 12 []), fun _ => [], fun _ => 0⟩
def suB (P : Program) : Code := bodyIn P 11 3
def suS (n c i : Nat) : List (Nat × Value) := [(2, .pointer (some ⟨1, 0, none⟩)), (3, .bool false), (4, .pointer (some ⟨2, 0, none⟩)), (8, .slice (some ⟨0, 0, none⟩) n c), (9, .int .i64 (n : Int)), (10, .int .i64 (i : Int))]
def srB (P : Program) : Code := bodyIn P 12 3
def srS (n c i : Nat) : List (Nat × Value) := [(0, .slice (some ⟨0, 0, none⟩) n c), (2, .pointer (some ⟨1, 0, none⟩)), (3, .bool false), (4, .pointer (some ⟨2, 0, none⟩)), (5, .int .i64 (i : Int))]
def sRow (h l : Int) : Rw := ⟨.shut, [.int .u64 h, .int .u64 l]⟩
theorem su_more (inr : Bool) (xs : List Value) (n c i : Nat) (h l : Int) : prjZ [2, 3, 4, 8, 9, 10] (codeZ (sumV noL) Try.prog (runZ (sumV noL) Try.prog 5) 11 inr 100000 (suB Try.prog) (SL 24 (suS n c i)) [(2, sRow h l), (1, sRow 0 0), (0, ⟨.old, xs⟩)] 3 [true, false]) =
  Res.ok ((Xt.normal, 24, [(2, Value.pointer (some (Addr.mk 1 0 none))), (3, Value.bool false), (4, Value.pointer (some (Addr.mk 2 0 none))), (8, Value.slice (some (Addr.mk 0 0 none)) n c), (9, Value.int IntKind.i64 (↑n :
 Int)), (10, Value.int IntKind.i64 (↑(i + 1) : Int))], [(3, Rw.mk Kd.shut [Value.int IntKind.u64 (intAt xs (i * 2)), Value.int IntKind.u64 (intAt xs (i * 2 + 1))]), (2, Rw.mk Kd.shut [Value.int IntKind.u64 (aH h l (intAt
 xs (i * 2)) (intAt xs (i * 2 + 1))), Value.int IntKind.u64 (aL h l (intAt xs (i * 2)) (intAt xs (i * 2 + 1)))]), (1, Rw.mk Kd.shut [Value.int IntKind.u64 (0 : Int), Value.int IntKind.u64 (0 : Int)]), (0, Rw.mk Kd.old
 xs)], 4, [2, 3], []), [], [decide ((↑i : Int) < (↑n : Int)) = true, (0 : Int) ≤ (↑i : Int) ∧ (↑i : Int) < (↑n : Int), List.take 2 (List.drop (i * 2) xs) = [Value.int IntKind.u64 (intAt xs (i * 2)), Value.int IntKind.u64
 (intAt xs (i * 2 + 1))], 2 ≤ 2, [Value.int IntKind.u64 h, Value.int IntKind.u64 l] = [Value.int IntKind.u64 h, Value.int IntKind.u64 l], [Value.int IntKind.u64 (intAt xs (i * 2)), Value.int IntKind.u64 (intAt xs (i * 2 +
 1))] = [Value.int IntKind.u64 (intAt xs (i * 2)), Value.int IntKind.u64 (intAt xs (i * 2 + 1))], wf64 h ∧ wf64 l ∧ wf64 (intAt xs (i * 2)) ∧ wf64 (intAt xs (i * 2 + 1)), 2 ≤ 2, aO h l (intAt xs (i * 2)) (intAt xs (i * 2 +
 1)) = false, rg IntKind.i64 (↑(i + 1) : Int)]) := by kernel_rfl
theorem su_over (inr : Bool) (xs : List Value) (n c i : Nat) (h l : Int) : prjZ [2, 3] (codeZ (sumV noL) Try.prog (runZ (sumV noL) Try.prog 5) 11 inr 100000 (suB Try.prog) (SL 24 (suS n c i)) [(2, sRow h l), (1, sRow 0 0), (0, ⟨.old, xs⟩)] 3 [true, true]) =
  Res.ok ((Xt.ret, 24, [(2, Value.pointer (some (Addr.mk 1 0 none))), (3, Value.bool true)], [(3, Rw.mk Kd.shut [Value.int IntKind.u64 (intAt xs (i * 2)), Value.int IntKind.u64 (intAt xs (i * 2 + 1))]), (2, Rw.mk Kd.shut
 [Value.int IntKind.u64 (aH h l (intAt xs (i * 2)) (intAt xs (i * 2 + 1))), Value.int IntKind.u64 (aL h l (intAt xs (i * 2)) (intAt xs (i * 2 + 1)))]), (1, Rw.mk Kd.shut [Value.int IntKind.u64 (0 : Int), Value.int
 IntKind.u64 (0 : Int)]), (0, Rw.mk Kd.old xs)], 4, [1, 2, 3], []), [], [decide ((↑i : Int) < (↑n : Int)) = true, (0 : Int) ≤ (↑i : Int) ∧ (↑i : Int) < (↑n : Int), List.take 2 (List.drop (i * 2) xs) = [Value.int
 IntKind.u64 (intAt xs (i * 2)), Value.int IntKind.u64 (intAt xs (i * 2 + 1))], 2 ≤ 2, [Value.int IntKind.u64 h, Value.int IntKind.u64 l] = [Value.int IntKind.u64 h, Value.int IntKind.u64 l], [Value.int IntKind.u64 (intAt
 xs (i * 2)), Value.int IntKind.u64 (intAt xs (i * 2 + 1))] = [Value.int IntKind.u64 (intAt xs (i * 2)), Value.int IntKind.u64 (intAt xs (i * 2 + 1))], wf64 h ∧ wf64 l ∧ wf64 (intAt xs (i * 2)) ∧ wf64 (intAt xs (i * 2 +
 1)), 2 ≤ 2, aO h l (intAt xs (i * 2)) (intAt xs (i * 2 + 1)) = true, 2 ≤ 2]) := by kernel_rfl
theorem su_done (inr : Bool) (xs : List Value) (n c i : Nat) (h l : Int) : prjZ [2, 3, 4] (codeZ (sumV noL) Try.prog (runZ (sumV noL) Try.prog 5) 11 inr 100000 (suB Try.prog) (SL 24 (suS n c i)) [(2, sRow h l), (1, sRow 0 0), (0, ⟨.old, xs⟩)] 3 [false]) =
  Res.ok ((Xt.exit 0, 24, [(2, Value.pointer (some (Addr.mk 1 0 none))), (3, Value.bool false), (4, Value.pointer (some (Addr.mk 2 0 none)))], [(2, Rw.mk Kd.shut [Value.int IntKind.u64 h, Value.int IntKind.u64 l]), (1,
 Rw.mk Kd.shut [Value.int IntKind.u64 (0 : Int), Value.int IntKind.u64 (0 : Int)]), (0, Rw.mk Kd.old xs)], 3, [], []), [], [decide ((↑i : Int) < (↑n : Int)) = false]) := by kernel_rfl
theorem sr_more (inr : Bool) (xs : List Value) (n c i : Nat) (h l : Int) : prjZ [0, 2, 3, 4, 5] (codeZ (sumV noL) Try.prog (runZ (sumV noL) Try.prog 5) 12 inr 100000 (srB Try.prog) (SL 27 (srS n c i)) [(2, sRow h l), (1, sRow 0 0), (0, ⟨.old, xs⟩)] 3 [true, false]) =
  Res.ok ((Xt.normal, 27, [(0, Value.slice (some (Addr.mk 0 0 none)) n c), (2, Value.pointer (some (Addr.mk 1 0 none))), (3, Value.bool false), (4, Value.pointer (some (Addr.mk 2 0 none))), (5, Value.int IntKind.i64 (↑(i +
 1) : Int))], [(2, Rw.mk Kd.shut [Value.int IntKind.u64 (aH h l (intAt xs (i * 2)) (intAt xs (i * 2 + 1))), Value.int IntKind.u64 (aL h l (intAt xs (i * 2)) (intAt xs (i * 2 + 1)))]), (1, Rw.mk Kd.shut [Value.int
 IntKind.u64 (0 : Int), Value.int IntKind.u64 (0 : Int)]), (0, Rw.mk Kd.old xs), (3, Rw.mk Kd.shut [Value.int IntKind.u64 (aH h l (intAt xs (i * 2)) (intAt xs (i * 2 + 1))), Value.int IntKind.u64 (aL h l (intAt xs (i * 2))
 (intAt xs (i * 2 + 1)))])], 4, [2], []), [], [decide ((↑i : Int) < (↑n : Int)) = true, [Value.int IntKind.u64 h, Value.int IntKind.u64 l] = [Value.int IntKind.u64 h, Value.int IntKind.u64 l], (0 : Int) ≤ (↑i : Int) ∧ (↑i
 : Int) < (↑n : Int), List.take 2 (List.drop (i * 2) xs) = [Value.int IntKind.u64 (intAt xs (i * 2)), Value.int IntKind.u64 (intAt xs (i * 2 + 1))], wf64 h ∧ wf64 l ∧ wf64 (intAt xs (i * 2)) ∧ wf64 (intAt xs (i * 2 + 1)),
 2 ≤ 2, aO h l (intAt xs (i * 2)) (intAt xs (i * 2 + 1)) = false, [Value.int IntKind.u64 (aH h l (intAt xs (i * 2)) (intAt xs (i * 2 + 1))), Value.int IntKind.u64 (aL h l (intAt xs (i * 2)) (intAt xs (i * 2 + 1)))] =
 [Value.int IntKind.u64 (aH h l (intAt xs (i * 2)) (intAt xs (i * 2 + 1))), Value.int IntKind.u64 (aL h l (intAt xs (i * 2)) (intAt xs (i * 2 + 1)))], 2 ≤ 2, rg IntKind.i64 (↑(i + 1) : Int)]) := by kernel_rfl
theorem sr_over (inr : Bool) (xs : List Value) (n c i : Nat) (h l : Int) : prjZ [2, 3] (codeZ (sumV noL) Try.prog (runZ (sumV noL) Try.prog 5) 12 inr 100000 (srB Try.prog) (SL 27 (srS n c i)) [(2, sRow h l), (1, sRow 0 0), (0, ⟨.old, xs⟩)] 3 [true, true]) =
  Res.ok ((Xt.ret, 27, [(2, Value.pointer (some (Addr.mk 1 0 none))), (3, Value.bool true)], [(2, Rw.mk Kd.shut [Value.int IntKind.u64 h, Value.int IntKind.u64 l]), (1, Rw.mk Kd.shut [Value.int IntKind.u64 (0 : Int),
 Value.int IntKind.u64 (0 : Int)]), (0, Rw.mk Kd.old xs), (3, Rw.mk Kd.shut [Value.int IntKind.u64 (aH h l (intAt xs (i * 2)) (intAt xs (i * 2 + 1))), Value.int IntKind.u64 (aL h l (intAt xs (i * 2)) (intAt xs (i * 2 +
 1)))])], 4, [1], []), [], [decide ((↑i : Int) < (↑n : Int)) = true, [Value.int IntKind.u64 h, Value.int IntKind.u64 l] = [Value.int IntKind.u64 h, Value.int IntKind.u64 l], (0 : Int) ≤ (↑i : Int) ∧ (↑i : Int) < (↑n :
 Int), List.take 2 (List.drop (i * 2) xs) = [Value.int IntKind.u64 (intAt xs (i * 2)), Value.int IntKind.u64 (intAt xs (i * 2 + 1))], wf64 h ∧ wf64 l ∧ wf64 (intAt xs (i * 2)) ∧ wf64 (intAt xs (i * 2 + 1)), 2 ≤ 2, aO h l
 (intAt xs (i * 2)) (intAt xs (i * 2 + 1)) = true, 2 ≤ 2]) := by kernel_rfl
theorem sr_done (inr : Bool) (xs : List Value) (n c i : Nat) (h l : Int) : prjZ [2, 3, 4] (codeZ (sumV noL) Try.prog (runZ (sumV noL) Try.prog 5) 12 inr 100000 (srB Try.prog) (SL 27 (srS n c i)) [(2, sRow h l), (1, sRow 0 0), (0, ⟨.old, xs⟩)] 3 [false]) =
  Res.ok ((Xt.exit 0, 27, [(2, Value.pointer (some (Addr.mk 1 0 none))), (3, Value.bool false), (4, Value.pointer (some (Addr.mk 2 0 none)))], [(2, Rw.mk Kd.shut [Value.int IntKind.u64 h, Value.int IntKind.u64 l]), (1,
 Rw.mk Kd.shut [Value.int IntKind.u64 (0 : Int), Value.int IntKind.u64 (0 : Int)]), (0, Rw.mk Kd.old xs)], 3, [], []), [], [decide ((↑i : Int) < (↑n : Int)) = false]) := by kernel_rfl
/-- Numbers of 64 bits. -/
def U64s (xs : List Value) : Prop := Ints .u64 xs ∧ ∀ i, i < xs.length → wf64 (intAt xs i)
def sumL (xs : List Value) : Nat → Nat → Int → Int → Int × Int × Bool
  | 0, _, h, l => (h, l, false)
  | k + 1, i, h, l => bif aO h l (intAt xs (i * 2)) (intAt xs (i * 2 + 1)) then (0, 0, true) else sumL xs k (i + 1) (aH h l (intAt xs (i * 2)) (intAt xs (i * 2 + 1))) (aL h l (intAt xs (i * 2)) (intAt xs (i * 2 + 1)))
def smH (xs : List Value) (n : Nat) : Int := (sumL xs n 0 0 0).1
def smL (xs : List Value) (n : Nat) : Int := (sumL xs n 0 0 0).2.1
def smO (xs : List Value) (n : Nat) : Bool := (sumL xs n 0 0 0).2.2
def sumOut (S : Nat → Nat → Nat → List (Nat × Value)) (pick : List (Nat × Value) → Hp → Option (Nat × Nat × List Value)) : LSpec := lspec pick (fun a => (S a.1 a.2.1 0, [(2, sRow 0 0), (1, sRow 0 0), (0, ⟨.old, a.2.2⟩)], 3))
  (fun a tp => match tp with
    | true :: tp' => some ((.ret, [(2, .pointer (some ⟨1, 0, none⟩)), (3, .bool true)], [(1, sRow 0 0), (0, ⟨.old, a.2.2⟩)], 4, [1, 2]), tp', [smO a.2.2 a.1 = true, U64s a.2.2, a.2.2.length = a.1 * 2, a.1 ≤ a.2.1 ∧ a.2.1 ≤ 9223372036854775807])
    | false :: tp' => some ((.exit 0, [(2, .pointer (some ⟨1, 0, none⟩)), (3, .bool false), (4, .pointer (some ⟨2, 0, none⟩))], [(2, sRow (smH a.2.2 a.1) (smL a.2.2 a.1)), (1, sRow 0 0), (0, ⟨.old, a.2.2⟩)], 4, [1, 2]), tp', [smO a.2.2 a.1 = false, U64s a.2.2, a.2.2.length = a.1 * 2, a.1 ≤ a.2.1 ∧ a.2.1 ≤ 9223372036854775807])
    | [] => none)
def suSpec : LSpec := sumOut suS fun live h => match live, h with | [_, _, _, (_, .slice _ n c), _, _], [_, _, (_, r)] => some (n, c, r.cs) | _, _ => none
def srSpec : LSpec := sumOut srS fun live h => match live, h with | (_, .slice _ n c) :: _, [_, _, (_, r)] => some (n, c, r.cs) | _, _ => none
def sumLw (P : Program) : LFun := orL (mkL 11 3 24 [2, 3, 4, 8, 9, 10] (suB P) suSpec) (mkL 12 3 27 [0, 2, 3, 4, 5] (srB P) srSpec)
theorem su_t (xs : List Value) (n c : Nat) : runZ (sumV (sumLw Try.prog)) Try.prog 5 11 [.slice (some ⟨0, 0, none⟩) n c] [(0, ⟨.old, xs⟩)] 1 [true] =
  Res.ok ((Value.tuple (Array.mk [Value.agg (Array.mk [Value.int IntKind.u64 (0 : Int), Value.int IntKind.u64 (0 : Int)]), Value.bool true]), [(0, Rw.mk Kd.old xs)], 4, []), [], [suB Try.prog = suB Try.prog, [(2,
 Value.pointer (some (Addr.mk 1 0 none))), (3, Value.bool false), (4, Value.pointer (some (Addr.mk 2 0 none))), (8, Value.slice (some (Addr.mk 0 0 none)) n c), (9, Value.int IntKind.i64 (↑n : Int)), (10, Value.int
 IntKind.i64 (0 : Int))] = suS n c 0, [(2, Rw.mk Kd.shut [Value.int IntKind.u64 (0 : Int), Value.int IntKind.u64 (0 : Int)]), (1, Rw.mk Kd.shut [Value.int IntKind.u64 (0 : Int), Value.int IntKind.u64 (0 : Int)]), (0, Rw.mk
 Kd.old xs)] = [(2, sRow (0 : Int) (0 : Int)), (1, sRow (0 : Int) (0 : Int)), (0, Rw.mk Kd.old xs)], 3 = 3, smO xs n = true, U64s xs, List.length xs = n * 2, n ≤ c ∧ c ≤ 9223372036854775807]) := by kernel_rfl
theorem su_f (xs : List Value) (n c : Nat) : runZ (sumV (sumLw Try.prog)) Try.prog 5 11 [.slice (some ⟨0, 0, none⟩) n c] [(0, ⟨.old, xs⟩)] 1 [false] =
  Res.ok ((Value.tuple (Array.mk [Value.agg (Array.mk [Value.int IntKind.u64 (smH xs n), Value.int IntKind.u64 (smL xs n)]), Value.bool false]), [(0, Rw.mk Kd.old xs)], 4, []), [], [suB Try.prog = suB Try.prog, [(2,
 Value.pointer (some (Addr.mk 1 0 none))), (3, Value.bool false), (4, Value.pointer (some (Addr.mk 2 0 none))), (8, Value.slice (some (Addr.mk 0 0 none)) n c), (9, Value.int IntKind.i64 (↑n : Int)), (10, Value.int
 IntKind.i64 (0 : Int))] = suS n c 0, [(2, Rw.mk Kd.shut [Value.int IntKind.u64 (0 : Int), Value.int IntKind.u64 (0 : Int)]), (1, Rw.mk Kd.shut [Value.int IntKind.u64 (0 : Int), Value.int IntKind.u64 (0 : Int)]), (0, Rw.mk
 Kd.old xs)] = [(2, sRow (0 : Int) (0 : Int)), (1, sRow (0 : Int) (0 : Int)), (0, Rw.mk Kd.old xs)], 3 = 3, smO xs n = false, U64s xs, List.length xs = n * 2, n ≤ c ∧ c ≤ 9223372036854775807, [Value.int IntKind.u64 (smH xs
 n), Value.int IntKind.u64 (smL xs n)] = [Value.int IntKind.u64 (smH xs n), Value.int IntKind.u64 (smL xs n)], 2 ≤ 2]) := by kernel_rfl
theorem su_n  : runZ (sumV noL) Try.prog 5 11 [.slice none 0 0] [] 1 [false] =
  Res.ok ((Value.tuple (Array.mk [Value.agg (Array.mk [Value.int IntKind.u64 (0 : Int), Value.int IntKind.u64 (0 : Int)]), Value.bool false]), [], 3, []), [], [false = false, [Value.int IntKind.u64 (0 : Int), Value.int
 IntKind.u64 (0 : Int)] = [Value.int IntKind.u64 (0 : Int), Value.int IntKind.u64 (0 : Int)], 2 ≤ 2]) := by kernel_rfl
theorem sr_t (xs : List Value) (n c : Nat) : runZ (sumV (sumLw Try.prog)) Try.prog 5 12 [.slice (some ⟨0, 0, none⟩) n c] [(0, ⟨.old, xs⟩)] 1 [true] =
  Res.ok ((Value.tuple (Array.mk [Value.agg (Array.mk [Value.int IntKind.u64 (0 : Int), Value.int IntKind.u64 (0 : Int)]), Value.bool true]), [(0, Rw.mk Kd.old xs)], 4, []), [], [srB Try.prog = srB Try.prog, [(0,
 Value.slice (some (Addr.mk 0 0 none)) n c), (2, Value.pointer (some (Addr.mk 1 0 none))), (3, Value.bool false), (4, Value.pointer (some (Addr.mk 2 0 none))), (5, Value.int IntKind.i64 (0 : Int))] = srS n c 0, [(2, Rw.mk
 Kd.shut [Value.int IntKind.u64 (0 : Int), Value.int IntKind.u64 (0 : Int)]), (1, Rw.mk Kd.shut [Value.int IntKind.u64 (0 : Int), Value.int IntKind.u64 (0 : Int)]), (0, Rw.mk Kd.old xs)] = [(2, sRow (0 : Int) (0 : Int)),
 (1, sRow (0 : Int) (0 : Int)), (0, Rw.mk Kd.old xs)], 3 = 3, smO xs n = true, U64s xs, List.length xs = n * 2, n ≤ c ∧ c ≤ 9223372036854775807]) := by kernel_rfl
theorem sr_f (xs : List Value) (n c : Nat) : runZ (sumV (sumLw Try.prog)) Try.prog 5 12 [.slice (some ⟨0, 0, none⟩) n c] [(0, ⟨.old, xs⟩)] 1 [false] =
  Res.ok ((Value.tuple (Array.mk [Value.agg (Array.mk [Value.int IntKind.u64 (smH xs n), Value.int IntKind.u64 (smL xs n)]), Value.bool false]), [(0, Rw.mk Kd.old xs)], 4, []), [], [srB Try.prog = srB Try.prog, [(0,
 Value.slice (some (Addr.mk 0 0 none)) n c), (2, Value.pointer (some (Addr.mk 1 0 none))), (3, Value.bool false), (4, Value.pointer (some (Addr.mk 2 0 none))), (5, Value.int IntKind.i64 (0 : Int))] = srS n c 0, [(2, Rw.mk
 Kd.shut [Value.int IntKind.u64 (0 : Int), Value.int IntKind.u64 (0 : Int)]), (1, Rw.mk Kd.shut [Value.int IntKind.u64 (0 : Int), Value.int IntKind.u64 (0 : Int)]), (0, Rw.mk Kd.old xs)] = [(2, sRow (0 : Int) (0 : Int)),
 (1, sRow (0 : Int) (0 : Int)), (0, Rw.mk Kd.old xs)], 3 = 3, smO xs n = false, U64s xs, List.length xs = n * 2, n ≤ c ∧ c ≤ 9223372036854775807, [Value.int IntKind.u64 (smH xs n), Value.int IntKind.u64 (smL xs n)] =
 [Value.int IntKind.u64 (smH xs n), Value.int IntKind.u64 (smL xs n)], 2 ≤ 2]) := by kernel_rfl
theorem sr_n  : runZ (sumV noL) Try.prog 5 12 [.slice none 0 0] [] 1 [false] =
  Res.ok ((Value.tuple (Array.mk [Value.agg (Array.mk [Value.int IntKind.u64 (0 : Int), Value.int IntKind.u64 (0 : Int)]), Value.bool false]), [], 3, []), [], [false = false, [Value.int IntKind.u64 (0 : Int), Value.int
 IntKind.u64 (0 : Int)] = [Value.int IntKind.u64 (0 : Int), Value.int IntKind.u64 (0 : Int)], 2 ≤ 2]) := by kernel_rfl
/-! ### contracts of two numbers added -/
theorem a_wf {h l a b : Int} (h1 : wf64 h) (h2 : wf64 l) (h3 : wf64 a) (h4 : wf64 b) : wf64 (aH h l a b) ∧ wf64 (aL h l a b) := by
  unfold aH aL addV
  split
  · rename_i hlt
    unfold wf64 nm top128 at *
    refine ⟨?_, ?_⟩ <;> simp only <;> omega
  · refine ⟨?_, ?_⟩ <;> unfold wf64 <;> simp only <;> omega
theorem ad_i_gok : GOk Try.prog 14 [.f, .f] gAddZ := by
  intro av tp gr tp' ob hG ho hP caps hcap
  obtain ⟨x, y, rfl, pa, pb⟩ := avps2 hP
  obtain ⟨c, d, rfl⟩ := caps2 hcap
  unfold gAddZ at hG
  split at hG
  case h_2 => cases hG
  rename_i h l a b e
  simp only [List.cons.injEq, and_true] at e
  obtain ⟨rfl, rfl⟩ := e
  simp only [Option.some.injEq, Prod.mk.injEq] at hG
  obtain ⟨rfl, rfl, rfl⟩ := hG
  obtain ⟨⟨w1, w2, w3, w4⟩, _⟩ := ho
  exact ⟨_, _, _, _, fun n => n, tri_quiet (v := .tuple ⟨[.agg ⟨[.int .u64 (aH h l a b), .int .u64 (aL h l a b)]⟩, .bool (aO h l a b)]⟩) (fun σ args' hr => ren2 (ren_uv σ h l) (ren_uv σ a b) hr) (fun σ => rfl) (fun w => add_any w1 w2 w3 w4 w), GrIs.flat fun σ => rfl⟩
theorem ad_r_gok : GOk Try.prog 15 [.f, .f] gAddZ := by
  intro av tp gr tp' ob hG ho hP caps hcap
  obtain ⟨x, y, rfl, pa, pb⟩ := avps2 hP
  obtain ⟨c, d, rfl⟩ := caps2 hcap
  unfold gAddZ at hG
  split at hG
  case h_2 => cases hG
  rename_i h l a b e
  simp only [List.cons.injEq, and_true] at e
  obtain ⟨rfl, rfl⟩ := e
  simp only [Option.some.injEq, Prod.mk.injEq] at hG
  obtain ⟨rfl, rfl, rfl⟩ := hG
  obtain ⟨⟨w1, w2, w3, w4⟩, _⟩ := ho
  exact ⟨_, _, _, _, fun n => n, tri_quiet (v := .tuple ⟨[.agg ⟨[.int .u64 (aH h l a b), .int .u64 (aL h l a b)]⟩, .bool (aO h l a b)]⟩) (fun σ args' hr => ren2 (ren_uv σ h l) (ren_uv σ a b) hr) (fun σ => rfl) (fun w => radd_any w1 w2 w3 w4 w), GrIs.flat fun σ => rfl⟩
theorem addT_one : TOneZ Try.prog addT := orTz_ok (mkT_one ad_i_gok) (mkT_one ad_r_gok)
/-! ### the loops -/
theorem U64s.take2 {xs : List Value} (h : U64s xs) {o : Nat} (ho : o + 2 ≤ xs.length) : (xs.drop o).take 2 = [.int .u64 (intAt xs o), .int .u64 (intAt xs (o + 1))] := by
  rw [drop_get (h.1.get (i := o) (by omega)), drop_get (h.1.get (i := o + 1) (by omega))]
  rfl
theorem fl_sRow (h l : Int) : Fl (sRow h l).cs := Fl.of rfl
theorem su_loop {inr : Bool} {h0 : Hp} {xs : List Value} {n c : Nat} (hx : U64s xs) (hl : xs.length = n * 2) (hc : n ≤ c ∧ c ≤ 9223372036854775807) : ∀ (k i : Nat) (h l : Int), i + k = n → wf64 h → wf64 l →
    LRuns inr Try.prog (suB Try.prog) 3 4 h0 24 (suS n c i) [(2, sRow h l), (1, sRow 0 0), (0, ⟨.old, xs⟩)] 3
      (bif (sumL xs k i h l).2.2 then (.ret, [(2, .pointer (some ⟨1, 0, none⟩)), (3, .bool true)], [(1, sRow 0 0), (0, ⟨.old, xs⟩)]) else (.exit 0, [(2, .pointer (some ⟨1, 0, none⟩)), (3, .bool false), (4, .pointer (some ⟨2, 0, none⟩))], [(2, sRow (sumL xs k i h l).1 (sumL xs k i h l).2.1), (1, sRow 0 0), (0, ⟨.old, xs⟩)]))
  | 0, i, h, l, hi, w1, w2 => by
      have hX : XOkZ (sumV noL) Try.prog := noXz_ok rfl
      have hT : TOkZ (sumV noL) Try.prog := T_okV rfl addT_one
      have hL : LOkZ (sumV noL) Try.prog := noL_okV rfl
      obtain rfl : i = n := by omega
      refine LRuns.exit (code_runs hX hL (runZ_ok hX hT hL mixed 5) mixed (su_done inr xs i c i h l) ?_) (by intro e; cases e) rfl (Nat.le_refl _) (by omega) (fun n => n) ?_ ?_ rfl
      · simp [Alls]
      · exact ⟨rfl, rb_ptr rfl, rfl, rfl, rfl, rb_ptr rfl, trivial⟩
      · exact ⟨rb_row (m := 2) rfl rfl rfl rfl (fl_sRow h l), rb_row (m := 1) rfl rfl rfl rfl (fl_sRow 0 0), rb_old (by omega) rfl hx.1.fl, trivial⟩
  | k + 1, i, h, l, hi, w1, w2 => by
      have hX : XOkZ (sumV noL) Try.prog := noXz_ok rfl
      have hT : TOkZ (sumV noL) Try.prog := T_okV rfl addT_one
      have hL : LOkZ (sumV noL) Try.prog := noL_okV rfl
      have g2 := hx.take2 (o := i * 2) (by omega)
      have w3 := hx.2 (i * 2) (by omega)
      have w4 := hx.2 (i * 2 + 1) (by omega)
      have hw : wf64 h ∧ wf64 l ∧ wf64 (intAt xs (i * 2)) ∧ wf64 (intAt xs (i * 2 + 1)) := ⟨w1, w2, w3, w4⟩
      obtain ⟨w5, w6⟩ := a_wf w1 w2 w3 w4
      cases co : aO h l (intAt xs (i * 2)) (intAt xs (i * 2 + 1))
      · rw [show sumL xs (k + 1) i h l = sumL xs k (i + 1) (aH h l (intAt xs (i * 2)) (intAt xs (i * 2 + 1))) (aL h l (intAt xs (i * 2)) (intAt xs (i * 2 + 1))) by simp only [sumL, co]; rfl]
        refine LRuns.step (l2 := suS n c (i + 1)) (code_runs hX hL (runZ_ok hX hT hL mixed 5) mixed (su_more inr xs n c i h l) ?_) rfl (Nat.le_refl _) (by omega) (fun n => n) ?_ ?_ rfl (su_loop hx hl hc k (i + 1) _ _ (by omega) w5 w6)
        · simp only [Alls, rg, adI_eq, co, decide_eq_true_eq]
          repeat' (first | with_reducible exact trivial | with_reducible apply And.intro)
          all_goals first | with_reducible assumption | omega | with_reducible rfl | (first | exact g2 | exact hw | exact co | rfl)
        · exact ⟨rfl, rb_ptr rfl, rfl, rfl, rfl, rb_ptr rfl, rfl, rb_slc rfl (by unfold capBig; omega), rfl, rfl, rfl, rfl, trivial⟩
        · exact ⟨rb_row (m := 2) rfl rfl rfl rfl (fl_sRow _ _), rb_row (m := 1) rfl rfl rfl rfl (fl_sRow 0 0), rb_old (by omega) rfl hx.1.fl, trivial⟩
      · rw [show sumL xs (k + 1) i h l = (0, 0, true) by simp only [sumL, co]; rfl]
        refine LRuns.exit (code_runs hX hL (runZ_ok hX hT hL mixed 5) mixed (su_over inr xs n c i h l) ?_) (by intro e; cases e) rfl (Nat.le_refl _) (by omega) (fun n => n) ?_ ?_ rfl
        · simp only [Alls, rg, adI_eq, co, decide_eq_true_eq]
          repeat' (first | with_reducible exact trivial | with_reducible apply And.intro)
          all_goals first | with_reducible assumption | omega | with_reducible rfl | (first | exact g2 | exact hw | exact co | rfl)
        · exact ⟨rfl, rb_ptr rfl, rfl, rfl, trivial⟩
        · exact ⟨rb_row (m := 1) rfl rfl rfl rfl (fl_sRow 0 0), rb_old (by omega) rfl hx.1.fl, trivial⟩
theorem su_spec_ok {ks : List Nat} (hks : ks = ks) : LSOk Try.prog 24 ks (suB Try.prog) suSpec := by
  refine lspec_ok fun a tp xt l2 h2 nx2 d tp' ob hs ho inr ts hn hg => ?_
  obtain ⟨n, c, xs⟩ := a
  simp only at hs hg
  have z0 : wf64 0 := by unfold wf64; omega
  split at hs
  · simp only [Option.some.injEq, Prod.mk.injEq] at hs
    obtain ⟨⟨rfl, rfl, rfl, rfl, rfl⟩, rfl, rfl⟩ := hs
    obtain ⟨hr, hx, hl, hc, _⟩ := ho
    have key := su_loop (inr := inr) (h0 := [(2, sRow 0 0), (1, sRow 0 0), (0, ⟨.old, xs⟩)]) hx hl hc n 0 0 0 (by omega) z0 z0
    rw [show (sumL xs n 0 0 0).2.2 = true from hr, cond_true] at key
    refine LRuns.enter (l2 := suS n c 0) hn hg (Nat.le_refl 3) (by omega) (fun n => n) ?_ ?_ rfl key ?_
    · exact ⟨rfl, rb_ptr rfl, rfl, rfl, rfl, rb_ptr rfl, rfl, rb_slc rfl (by unfold capBig; omega), rfl, rfl, rfl, rfl, trivial⟩
    · exact ⟨rb_row (m := 2) rfl rfl rfl rfl (fl_sRow _ _), rb_row (m := 1) rfl rfl rfl rfl (fl_sRow 0 0), rb_old (by omega) rfl hx.1.fl, trivial⟩
    · refine tidy_of (by omega) (fun n hn hd => ?_) rfl
      match n, hn, hd with
      | 0, _, _ => rfl
      | 1, _, hd => exact absurd hd (by decide)
      | 2, _, hd => exact absurd hd (by decide)
  · simp only [Option.some.injEq, Prod.mk.injEq] at hs
    obtain ⟨⟨rfl, rfl, rfl, rfl, rfl⟩, rfl, rfl⟩ := hs
    obtain ⟨hr, hx, hl, hc, _⟩ := ho
    have key := su_loop (inr := inr) (h0 := [(2, sRow 0 0), (1, sRow 0 0), (0, ⟨.old, xs⟩)]) hx hl hc n 0 0 0 (by omega) z0 z0
    rw [show (sumL xs n 0 0 0).2.2 = false from hr, cond_false] at key
    refine LRuns.enter (l2 := suS n c 0) hn hg (Nat.le_refl 3) (by omega) (fun n => n) ?_ ?_ rfl key ?_
    · exact ⟨rfl, rb_ptr rfl, rfl, rfl, rfl, rb_ptr rfl, rfl, rb_slc rfl (by unfold capBig; omega), rfl, rfl, rfl, rfl, trivial⟩
    · exact ⟨rb_row (m := 2) rfl rfl rfl rfl (fl_sRow _ _), rb_row (m := 1) rfl rfl rfl rfl (fl_sRow 0 0), rb_old (by omega) rfl hx.1.fl, trivial⟩
    · refine tidy_of (by omega) (fun n hn hd => ?_) rfl
      match n, hn, hd with
      | 0, _, _ => rfl
      | 1, _, hd => exact absurd hd (by decide)
      | 2, _, hd => exact absurd hd (by decide)
  · cases hs
theorem sr_loop {inr : Bool} {h0 : Hp} {xs : List Value} {n c : Nat} (hx : U64s xs) (hl : xs.length = n * 2) (hc : n ≤ c ∧ c ≤ 9223372036854775807) : ∀ (k i : Nat) (h l : Int), i + k = n → wf64 h → wf64 l →
    LRuns inr Try.prog (srB Try.prog) 3 4 h0 27 (srS n c i) [(2, sRow h l), (1, sRow 0 0), (0, ⟨.old, xs⟩)] 3
      (bif (sumL xs k i h l).2.2 then (.ret, [(2, .pointer (some ⟨1, 0, none⟩)), (3, .bool true)], [(1, sRow 0 0), (0, ⟨.old, xs⟩)]) else (.exit 0, [(2, .pointer (some ⟨1, 0, none⟩)), (3, .bool false), (4, .pointer (some ⟨2, 0, none⟩))], [(2, sRow (sumL xs k i h l).1 (sumL xs k i h l).2.1), (1, sRow 0 0), (0, ⟨.old, xs⟩)]))
  | 0, i, h, l, hi, w1, w2 => by
      have hX : XOkZ (sumV noL) Try.prog := noXz_ok rfl
      have hT : TOkZ (sumV noL) Try.prog := T_okV rfl addT_one
      have hL : LOkZ (sumV noL) Try.prog := noL_okV rfl
      obtain rfl : i = n := by omega
      refine LRuns.exit (code_runs hX hL (runZ_ok hX hT hL mixed 5) mixed (sr_done inr xs i c i h l) ?_) (by intro e; cases e) rfl (Nat.le_refl _) (by omega) (fun n => n) ?_ ?_ rfl
      · simp [Alls]
      · exact ⟨rfl, rb_ptr rfl, rfl, rfl, rfl, rb_ptr rfl, trivial⟩
      · exact ⟨rb_row (m := 2) rfl rfl rfl rfl (fl_sRow h l), rb_row (m := 1) rfl rfl rfl rfl (fl_sRow 0 0), rb_old (by omega) rfl hx.1.fl, trivial⟩
  | k + 1, i, h, l, hi, w1, w2 => by
      have hX : XOkZ (sumV noL) Try.prog := noXz_ok rfl
      have hT : TOkZ (sumV noL) Try.prog := T_okV rfl addT_one
      have hL : LOkZ (sumV noL) Try.prog := noL_okV rfl
      have g2 := hx.take2 (o := i * 2) (by omega)
      have w3 := hx.2 (i * 2) (by omega)
      have w4 := hx.2 (i * 2 + 1) (by omega)
      have hw : wf64 h ∧ wf64 l ∧ wf64 (intAt xs (i * 2)) ∧ wf64 (intAt xs (i * 2 + 1)) := ⟨w1, w2, w3, w4⟩
      obtain ⟨w5, w6⟩ := a_wf w1 w2 w3 w4
      cases co : aO h l (intAt xs (i * 2)) (intAt xs (i * 2 + 1))
      · rw [show sumL xs (k + 1) i h l = sumL xs k (i + 1) (aH h l (intAt xs (i * 2)) (intAt xs (i * 2 + 1))) (aL h l (intAt xs (i * 2)) (intAt xs (i * 2 + 1))) by simp only [sumL, co]; rfl]
        refine LRuns.step (l2 := srS n c (i + 1)) (code_runs hX hL (runZ_ok hX hT hL mixed 5) mixed (sr_more inr xs n c i h l) ?_) rfl (Nat.le_refl _) (by omega) (fun n => n) ?_ ?_ rfl (sr_loop hx hl hc k (i + 1) _ _ (by omega) w5 w6)
        · simp only [Alls, rg, adI_eq, co, decide_eq_true_eq]
          repeat' (first | with_reducible exact trivial | with_reducible apply And.intro)
          all_goals first | with_reducible assumption | omega | with_reducible rfl | (first | exact g2 | exact hw | exact co | rfl)
        · exact ⟨rfl, rb_slc rfl (by unfold capBig; omega), rfl, rb_ptr rfl, rfl, rfl, rfl, rb_ptr rfl, rfl, rfl, trivial⟩
        · exact ⟨rb_row (m := 2) rfl rfl rfl rfl (fl_sRow _ _), rb_row (m := 1) rfl rfl rfl rfl (fl_sRow 0 0), rb_old (by omega) rfl hx.1.fl, trivial⟩
      · rw [show sumL xs (k + 1) i h l = (0, 0, true) by simp only [sumL, co]; rfl]
        refine LRuns.exit (code_runs hX hL (runZ_ok hX hT hL mixed 5) mixed (sr_over inr xs n c i h l) ?_) (by intro e; cases e) rfl (Nat.le_refl _) (by omega) (fun n => n) ?_ ?_ rfl
        · simp only [Alls, rg, adI_eq, co, decide_eq_true_eq]
          repeat' (first | with_reducible exact trivial | with_reducible apply And.intro)
          all_goals first | with_reducible assumption | omega | with_reducible rfl | (first | exact g2 | exact hw | exact co | rfl)
        · exact ⟨rfl, rb_ptr rfl, rfl, rfl, trivial⟩
        · exact ⟨rb_row (m := 1) rfl rfl rfl rfl (fl_sRow 0 0), rb_old (by omega) rfl hx.1.fl, trivial⟩
theorem sr_spec_ok {ks : List Nat} (hks : ks = ks) : LSOk Try.prog 27 ks (srB Try.prog) srSpec := by
  refine lspec_ok fun a tp xt l2 h2 nx2 d tp' ob hs ho inr ts hn hg => ?_
  obtain ⟨n, c, xs⟩ := a
  simp only at hs hg
  have z0 : wf64 0 := by unfold wf64; omega
  split at hs
  · simp only [Option.some.injEq, Prod.mk.injEq] at hs
    obtain ⟨⟨rfl, rfl, rfl, rfl, rfl⟩, rfl, rfl⟩ := hs
    obtain ⟨hr, hx, hl, hc, _⟩ := ho
    have key := sr_loop (inr := inr) (h0 := [(2, sRow 0 0), (1, sRow 0 0), (0, ⟨.old, xs⟩)]) hx hl hc n 0 0 0 (by omega) z0 z0
    rw [show (sumL xs n 0 0 0).2.2 = true from hr, cond_true] at key
    refine LRuns.enter (l2 := srS n c 0) hn hg (Nat.le_refl 3) (by omega) (fun n => n) ?_ ?_ rfl key ?_
    · exact ⟨rfl, rb_slc rfl (by unfold capBig; omega), rfl, rb_ptr rfl, rfl, rfl, rfl, rb_ptr rfl, rfl, rfl, trivial⟩
    · exact ⟨rb_row (m := 2) rfl rfl rfl rfl (fl_sRow _ _), rb_row (m := 1) rfl rfl rfl rfl (fl_sRow 0 0), rb_old (by omega) rfl hx.1.fl, trivial⟩
    · refine tidy_of (by omega) (fun n hn hd => ?_) rfl
      match n, hn, hd with
      | 0, _, _ => rfl
      | 1, _, hd => exact absurd hd (by decide)
      | 2, _, hd => exact absurd hd (by decide)
  · simp only [Option.some.injEq, Prod.mk.injEq] at hs
    obtain ⟨⟨rfl, rfl, rfl, rfl, rfl⟩, rfl, rfl⟩ := hs
    obtain ⟨hr, hx, hl, hc, _⟩ := ho
    have key := sr_loop (inr := inr) (h0 := [(2, sRow 0 0), (1, sRow 0 0), (0, ⟨.old, xs⟩)]) hx hl hc n 0 0 0 (by omega) z0 z0
    rw [show (sumL xs n 0 0 0).2.2 = false from hr, cond_false] at key
    refine LRuns.enter (l2 := srS n c 0) hn hg (Nat.le_refl 3) (by omega) (fun n => n) ?_ ?_ rfl key ?_
    · exact ⟨rfl, rb_slc rfl (by unfold capBig; omega), rfl, rb_ptr rfl, rfl, rfl, rfl, rb_ptr rfl, rfl, rfl, trivial⟩
    · exact ⟨rb_row (m := 2) rfl rfl rfl rfl (fl_sRow _ _), rb_row (m := 1) rfl rfl rfl rfl (fl_sRow 0 0), rb_old (by omega) rfl hx.1.fl, trivial⟩
    · refine tidy_of (by omega) (fun n hn hd => ?_) rfl
      match n, hn, hd with
      | 0, _, _ => rfl
      | 1, _, hd => exact absurd hd (by decide)
      | 2, _, hd => exact absurd hd (by decide)
  · cases hs
def sSum : Spec1 := fun xs n tp => some (⟨fun _ => .tuple ⟨[.agg ⟨[.int .u64 (smH xs n), .int .u64 (smL xs n)]⟩, .bool (smO xs n)]⟩, []⟩, tp, [U64s xs])
theorem smO_true {xs : List Value} : ∀ {k i : Nat} {h l : Int}, (sumL xs k i h l).2.2 = true → (sumL xs k i h l).1 = 0 ∧ (sumL xs k i h l).2.1 = 0
  | 0, i, h, l, e => by simp [sumL] at e
  | k + 1, i, h, l, e => by
      simp only [sumL] at e ⊢
      cases co : aO h l (intAt xs (i * 2)) (intAt xs (i * 2 + 1)) with
      | true => simp only [cond_true, and_self]
      | false =>
        rw [co] at e
        exact smO_true e
theorem su_gok : GOk Try.prog 11 [.s 2] (gS sSum) := by
  have hX : ∀ L, XOkZ (sumV L) Try.prog := fun L => noXz_ok rfl
  have hT : ∀ L, TOkZ (sumV L) Try.prog := fun L => T_okV rfl addT_one
  have hL : LOkZ (sumV (sumLw Try.prog)) Try.prog := L_okV rfl (orL_ok (mkL_ok (su_spec_ok rfl)) (mkL_ok (sr_spec_ok rfl)))
  have hL0 : LOkZ (sumV noL) Try.prog := noL_okV rfl
  refine gS_ok (fun tp gr tp' ob hG ho => ?_) (fun xs n c tp gr tp' ob hG ho hfl hl0 hc => ?_)
  · unfold sSum at hG
    simp only [Option.some.injEq, Prod.mk.injEq] at hG
    obtain ⟨rfl, rfl, rfl⟩ := hG
    exact ⟨_, _, _, _, fun n => n, run_tri (hX _) (hT _) hL0 su_n (by simp [Alls]) rfl, GrIs.flat fun σ => rfl⟩
  · unfold sSum at hG
    simp only [Option.some.injEq, Prod.mk.injEq] at hG
    obtain ⟨rfl, rfl, rfl⟩ := hG
    obtain ⟨hx, _⟩ := ho
    cases co : smO xs n
    · refine ⟨_, _, _, _, fun n => n, run_tri (hX _) (hT _) hL (su_f xs n c) ?_ rfl, GrIs.flat fun σ => rfl⟩
      simp only [Alls]
      repeat' (first | with_reducible exact trivial | with_reducible apply And.intro)
      all_goals first | with_reducible assumption | omega | with_reducible rfl | (first | exact hx | exact co | rfl)
    · obtain ⟨e1, e2⟩ := smO_true co
      rw [show smH xs n = 0 from e1, show smL xs n = 0 from e2]
      refine ⟨_, _, _, _, fun n => n, run_tri (hX _) (hT _) hL (su_t xs n c) ?_ rfl, GrIs.flat fun σ => rfl⟩
      simp only [Alls]
      repeat' (first | with_reducible exact trivial | with_reducible apply And.intro)
      all_goals first | with_reducible assumption | omega | with_reducible rfl | (first | exact hx | exact co | rfl)
theorem sr_gok : GOk Try.prog 12 [.s 2] (gS sSum) := by
  have hX : ∀ L, XOkZ (sumV L) Try.prog := fun L => noXz_ok rfl
  have hT : ∀ L, TOkZ (sumV L) Try.prog := fun L => T_okV rfl addT_one
  have hL : LOkZ (sumV (sumLw Try.prog)) Try.prog := L_okV rfl (orL_ok (mkL_ok (su_spec_ok rfl)) (mkL_ok (sr_spec_ok rfl)))
  have hL0 : LOkZ (sumV noL) Try.prog := noL_okV rfl
  refine gS_ok (fun tp gr tp' ob hG ho => ?_) (fun xs n c tp gr tp' ob hG ho hfl hl0 hc => ?_)
  · unfold sSum at hG
    simp only [Option.some.injEq, Prod.mk.injEq] at hG
    obtain ⟨rfl, rfl, rfl⟩ := hG
    exact ⟨_, _, _, _, fun n => n, run_tri (hX _) (hT _) hL0 sr_n (by simp [Alls]) rfl, GrIs.flat fun σ => rfl⟩
  · unfold sSum at hG
    simp only [Option.some.injEq, Prod.mk.injEq] at hG
    obtain ⟨rfl, rfl, rfl⟩ := hG
    obtain ⟨hx, _⟩ := ho
    cases co : smO xs n
    · refine ⟨_, _, _, _, fun n => n, run_tri (hX _) (hT _) hL (sr_f xs n c) ?_ rfl, GrIs.flat fun σ => rfl⟩
      simp only [Alls]
      repeat' (first | with_reducible exact trivial | with_reducible apply And.intro)
      all_goals first | with_reducible assumption | omega | with_reducible rfl | (first | exact hx | exact co | rfl)
    · obtain ⟨e1, e2⟩ := smO_true co
      rw [show smH xs n = 0 from e1, show smL xs n = 0 from e2]
      refine ⟨_, _, _, _, fun n => n, run_tri (hX _) (hT _) hL (sr_t xs n c) ?_ rfl, GrIs.flat fun σ => rfl⟩
      simp only [Alls]
      repeat' (first | with_reducible exact trivial | with_reducible apply And.intro)
      all_goals first | with_reducible assumption | omega | with_reducible rfl | (first | exact hx | exact co | rfl)
end Go.Proofs.Ytpiapipmhlpmjaa
