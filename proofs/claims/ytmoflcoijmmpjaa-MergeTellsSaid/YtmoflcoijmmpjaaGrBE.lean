/-
  Chapter 14: the statement MergeTells: its runs.
-/
import Derived.Test.YtmoflcoijmmpjaaGrBC
import Derived.Test.YtmoflcoijmmpjaaGrBD
import Derived.Test.YtmoflcoijmmpjaaGrAO
import Derived.WalkKit
import Derived.ProofKit
import Derived.OpenShut
import Derived.Lib.SmallJoins
import Derived.JoinedCond
import Derived.Carry
namespace Go.Proofs.Ytmoflcoijmmpjaa
set_option linter.unusedSimpArgs false
set_option linter.unusedVariables false
set_option linter.unusedSectionVars false
open Go Go.RowKit
def mlTab : FuncId → List Nat := fun f => bif Nat.beq f 3 then [18] else bif Nat.beq f 29 then [9] else bif Nat.beq f 17 then [22] else []
def mlSy : FuncId → Nat → Option Nat := orSy (lsSy 3 [(18, 0)]) (lsSy 29 [(6, 0), (8, 0), (9, 0)])
def mlT (W : List Pr) (p : Pr) : TFun := orTz (mkT 21 [] gTrueY) (orTz (mkD 9 [.c 1, .f, .f] gLs) (orTz (mkD 10 [.c 1] gLg) (orTz (mkD 11 [.c 1] gCl) (orTz (mkD 12 [.c 1, .f] (gMw W)) (orTz (mkO 13 [.e 1, .f] (gRm W)) (orTz (mkD 14 [.c 1, .s] (gFd p)) (orTz (mkO 15 [.e 1, .s] (gRf p)) (orTz (mkD 16 [.d, .d] gSp) (orTz (mkD 18 [.c 1, .c 1] gCm) overT2)))))))))
def mlV (W : List Pr) (p : Pr) : Tv := ⟨mlT W p, cmpY, noL, mlTab, mlSy, fun _ => [], fun _ => 0⟩
def mlK (m : Nat) : Value := .slice (some ⟨4, 0, none⟩) m (capBig + 4)
theorem mt_len (n m : Nat) (dr : Bool) (ds : List DV) (ks : List Value) (W : List Pr) (p : Pr) : prjV (runZ (mlV W p) Try.prog 12 3 [llA n, .bool dr, mlK m] [(0, ⟨.sw ds, []⟩), (4, ⟨.ow, ks⟩)] 6 [true]) =
 Res.ok (Value.bool true, [], [decide ((↑m : Int) > (200 : Int)) = true]) := by kernel_rfl
theorem mt_a (n m : Nat) (dr : Bool) (ds : List DV) (ks : List Value) (W : List Pr) (p : Pr) : prjV (runZ (mlV W p) Try.prog 12 3 [llA n, .bool dr, mlK m] [(0, ⟨.sw ds, []⟩), (4, ⟨.ow, ks⟩)] 6 [false, true, false]) =
 (let a1 := (cnL (List.take n ds)); Res.ok (Value.bool true, [], [decide ((↑m : Int) > (200 : Int)) = false, LsOk a1 n ∧ (decide ((↑n : Int) > (32 : Int)) || List.any (llOf a1) (lgL (40 : Int))) = true, (32 : Int) ≤ (9000000 : Int), (40 : Int) ≤ (9000000 : Int), LgOk a1 n, lgB n (sumW (0 : Int) (llOf a1)) = false])) := by kernel_rfl
theorem mt_b (n m : Nat) (dr : Bool) (ds : List DV) (ks : List Value) (W : List Pr) (p : Pr) : prjV (runZ (mlV W p) Try.prog 12 3 [llA n, .bool dr, mlK m] [(0, ⟨.sw ds, []⟩), (4, ⟨.ow, ks⟩)] 6 [false, true, true, true]) =
 (let a2 := (9000000 : Int); let a1 := (cnL (List.take n ds)); Res.ok (Value.bool true, [], [decide ((↑m : Int) > (200 : Int)) = false, LsOk a1 n ∧ (decide ((↑n : Int) > (32 : Int)) || List.any (llOf a1) (lgL (40 : Int))) = true, (32 : Int) ≤ a2, (40 : Int) ≤ a2, LgOk a1 n, lgB n (sumW (0 : Int) (llOf a1)) = true, LsOk a1 n ∧ (decide ((↑n : Int) > (40 : Int)) || List.any (llOf a1) (lgL (4200 : Int))) = true, (40 : Int) ≤ a2, (4200 : Int) ≤ a2])) := by kernel_rfl
theorem mt_z (n m : Nat) (dr : Bool) (ds : List DV) (ks : List Value) (W : List Pr) (p : Pr) : prjV (runZ (mlV W p) Try.prog 12 3 [llA n, .bool dr, mlK m] [(0, ⟨.sw ds, []⟩), (4, ⟨.ow, ks⟩)] 6 [false, false, false, false, true,
 true, false, true, true, false, false, true, true, true])
 =
  (let a2 := (List.take n ds); let a1 := (cnL (List.take n (List.drop 0 ds))); Res.ok (Value.bool true, [], [decide ((↑m : Int) > (200 : Int)) = false, LsOk (cnL a2) n ∧ (decide ((↑n : Int) > (32 : Int)) || List.any (llOf (cnL a2)) (lgL (40 : Int))) = false, (32 : Int) ≤ (9000000 : Int), (40 : Int) ≤ (9000000 : Int), ClOk (cnL a2) n, llOf (cnL a2) = [], MgB [] 0, mgOut dr (llOf []) = [], MgB a1 n, mgOut dr (llOf a1) = [], (∀ (τ : Sg), renL τ ks = some ks) ∧ (m = 0 → ks = []), FoOk [] ks m 0, fnd (llOf []) (intsOf ks) = none, (∀ (τ : Sg), renL τ ks = some ks) ∧ (m = 0 → ks = []), FoOk a1 ks m n, fnd (llOf a1) (intsOf ks) = none, SpOk [] [] 0 ∧ 0 = 0, true = true, true = true, true = true, CmOk [] 0, cnL a2 = [], n = 0, CmOk [] 0, cnL a2 = [], n = 0])) := by kernel_rfl
theorem mt_en (n m : Nat) (dr : Bool) (ds : List DV) (ks : List Value) (W : List Pr) (p : Pr) : prjV (runZ (mlV W p) Try.prog 12 3 [llA n, .bool dr, mlK m] [(0, ⟨.sw ds, []⟩), (4, ⟨.ow, ks⟩)] 6 [false, false, true, false, false,
 false, false, false, false, true, true, true])
 =
  (let a3 := (cnL (List.take n ds)); let a2 := (cnL (List.take n (List.drop 0 ds))); let a1 := (List.take n a3); Res.ok (Value.bool true, [], ((fun (q0 q1 q2 : Prop) => [decide ((↑m : Int) > (200 : Int)) = false, LsOk a3 n ∧ (decide ((↑n : Int) > (32 : Int)) || List.any (llOf a3) (lgL (40 : Int))) = false, (32 : Int) ≤ (9000000 : Int), (40 : Int) ≤ (9000000 : Int), ClOk a3 n, llOf a3 ≠ [], MgA (cnL a1) n, n ≤ 32, sumL (llOf (cnL a1)) ≤ 4096, allA (llOf (cnL a1)) = false, MgA a2 n, n ≤ 32, sumL (llOf a2) ≤ 4096, allA (llOf a2) = false, q0, FoOk (cnL a1) ks m n, fnd (llOf (cnL a1)) (intsOf ks) = none, q0, FoOk a2 ks m n, fnd (llOf a2) (intsOf ks) = none, SpOk [] [] 0 ∧ 0 = 0, true = true, true = true, true = true, q1, q2, n = n, q1, q2, n = n]) ((∀ (τ : Sg), renL τ ks = some ks) ∧ (m = 0 → ks = [])) (CmOk (cnL a1) n) (cnL (List.take n ds) = cnL a1)))) := by kernel_rfl
theorem mt_ey (n m : Nat) (dr : Bool) (ds : List DV) (ks : List Value) (W : List Pr) (p : Pr) : prjV (runZ (mlV W p) Try.prog 12 3 [llA n, .bool dr, mlK m] [(0, ⟨.sw ds, []⟩), (4, ⟨.ow, ks⟩)] 6 [false, false, true, false, false,
 false, false, true, true, true, true, true])
 =
  (let a7 := (Prod.fst p); let a6 := (cnL (List.take n ds)); let a4 := (intsOf (List.take (List.length a7) (byV a7))); let a3 := (cnL (List.take n (List.drop 0 ds))); let a2 := (Prod.fst (Prod.snd p)); let a5 := (intsOf (List.take (List.length a2) (byV a2))); let a1 := (List.take n a6); Res.ok (Value.bool true, [], ((fun (q0 q1 q2 q3 q4 q5 q6 : Prop) => [decide ((↑m : Int) > (200 : Int)) = false, LsOk a6 n ∧ (decide ((↑n : Int) > (32 : Int)) || List.any (llOf a6) (lgL (40 : Int))) = false, (32 : Int) ≤ (9000000 : Int), (40 : Int) ≤ (9000000 : Int), ClOk a6 n, llOf a6 ≠ [], MgA (cnL a1) n, n ≤ 32, sumL (llOf (cnL a1)) ≤ 4096, allA (llOf (cnL a1)) = false, MgA a3 n, n ≤ 32, sumL (llOf a3) ≤ 4096, allA (llOf a3) = false, q0, FoOk (cnL a1) ks m n, fnd (llOf (cnL a1)) (intsOf ks) = some p, q0, FoOk a3 ks m n, fnd (llOf a3) (intsOf ks) = some p, SpOk [] [] 0 ∧ 0 = 0, q1, q2, q1, q2, strEq
 (strOfI a4) (strOfI a4) = true, q3, q4, q3, q4, strEq (strOfI a5) (strOfI a5) = true, (Prod.snd (Prod.snd p) == Prod.snd (Prod.snd p)) = true, q5, q6, n = n, q5, q6, n = n]) ((∀ (τ : Sg), renL τ ks = some ks) ∧ (m = 0 → ks = [])) (List.length a7 ≤ List.length (byV a7)) (List.take (List.length a7) (byV a7) = List.map (Value.int IntKind.u8) a4) (List.length a2 ≤ List.length (byV a2)) (List.take (List.length a2) (byV a2) = List.map (Value.int IntKind.u8) a5) (CmOk (cnL a1) n) (cnL (List.take n ds) = cnL
 a1)))) := by kernel_rfl
theorem mt_nn (n m : Nat) (dr : Bool) (ds : List DV) (ks : List Value) (W : List Pr) (p : Pr) : prjV (runZ (mlV W p) Try.prog 12 3 [llA n, .bool dr, mlK m] [(0, ⟨.sw ds, []⟩), (4, ⟨.ow, ks⟩)] 6 [false, false, true, false, true,
 true, false, true, true, false, false, true, true, true])
 =
  (let a2 := (cnL (List.take n (List.drop 0 ds))); let a1 := (cnL (List.take n ds)); let a3 := (cnL (List.take n a1)); Res.ok (Value.bool true, [], ((fun (q0 q1 q2 : Prop) => [decide ((↑m : Int) > (200 : Int)) = false, LsOk a1 n ∧ (decide ((↑n : Int) > (32 : Int)) || List.any (llOf a1) (lgL (40 : Int))) = false, (32 : Int) ≤ (9000000 : Int), (40 : Int) ≤ (9000000 : Int), ClOk a1 n, llOf a1 ≠ [], MgB a3 n, mgOut dr (llOf a3) = [], MgB a2 n, mgOut dr (llOf a2) = [], q0, FoOk a3 ks m n, fnd (llOf a3) (intsOf ks) = none, q0, FoOk a2 ks m n, fnd (llOf a2) (intsOf ks) = none, SpOk [] [] 0 ∧ 0 = 0, true = true, true = true, true = true, q1, q2, n = n, q1, q2, n = n]) ((∀ (τ : Sg), renL τ ks = some ks) ∧ (m = 0 → ks = [])) (CmOk a3 n) (cnL (List.take n ds) = cnL (List.take n a1))))) := by kernel_rfl
theorem mt_ny (n m : Nat) (dr : Bool) (ds : List DV) (ks : List Value) (W : List Pr) (p : Pr) : prjV (runZ (mlV W p) Try.prog 12 3 [llA n, .bool dr, mlK m] [(0, ⟨.sw ds, []⟩), (4, ⟨.ow, ks⟩)] 6 [false, false, true, false, true,
 true, false, true, true, true, true, true, true, true])
 =
  (let a7 := (Prod.fst p); let a4 := (cnL (List.take n (List.drop 0 ds))); let a3 := (intsOf (List.take (List.length a7) (byV a7))); let a2 := (cnL (List.take n ds)); let a6 := (cnL (List.take n a2)); let a1 := (Prod.fst (Prod.snd p)); let a5 := (intsOf (List.take (List.length a1) (byV a1))); Res.ok (Value.bool true, [], ((fun (q0 q1 q2 q3 q4 q5 q6 : Prop) => [decide ((↑m : Int) > (200 : Int)) = false, LsOk a2 n ∧ (decide ((↑n : Int) > (32 : Int)) || List.any (llOf a2) (lgL (40 : Int))) = false, (32 : Int) ≤ (9000000 : Int), (40 : Int) ≤ (9000000 : Int), ClOk a2 n, llOf a2 ≠ [], MgB a6 n, mgOut dr (llOf a6) = [], MgB a4 n, mgOut dr (llOf a4) = [], q0, FoOk a6 ks m n, fnd (llOf a6) (intsOf ks) = some p, q0, FoOk a4 ks m n, fnd (llOf a4) (intsOf ks) = some p, SpOk [] [] 0 ∧ 0 = 0, q1, q2, q1, q2, strEq (strOfI a3) (strOfI a3) = true, q3, q4, q3, q4, strEq (strOfI a5) (strOfI a5) = true,
 (Prod.snd (Prod.snd p) == Prod.snd (Prod.snd p)) = true, q5, q6, n = n, q5, q6, n = n]) ((∀ (τ : Sg), renL τ ks = some ks) ∧ (m = 0 → ks = [])) (List.length a7 ≤ List.length (byV a7)) (List.take (List.length a7) (byV a7) = List.map (Value.int IntKind.u8) a3) (List.length a1 ≤ List.length (byV a1)) (List.take (List.length a1) (byV a1) = List.map (Value.int IntKind.u8) a5) (CmOk a6 n) (cnL (List.take n ds) = cnL (List.take n
 a2))))) := by kernel_rfl
theorem mt_rn (n m : Nat) (dr : Bool) (ds : List DV) (ks : List Value) (W : List Pr) (p : Pr) : prjV (runZ (mlV W p) Try.prog 12 3 [llA n, .bool dr, mlK m] [(0, ⟨.sw ds, []⟩), (4, ⟨.ow, ks⟩)] 6 [false, false, true, false, true,
 false, false, true, false, false, false, true, true, true])
 =
  (let a2 := (cnL (List.take n (List.drop 0 ds))); let a1 := (cnL (List.take n ds)); let a3 := (cnL (List.take n a1)); Res.ok (Value.bool true, [], ((fun (q0 q1 q2 q3 : Prop) => [decide ((↑m : Int) > (200 : Int)) = false, LsOk a1 n ∧ (decide ((↑n : Int) > (32 : Int)) || List.any (llOf a1) (lgL (40 : Int))) = false, (32 : Int) ≤ (9000000 : Int), (40 : Int) ≤ (9000000 : Int), ClOk a1 n, llOf a1 ≠ [], MgB a3 n, W ≠ [], mgOut dr (llOf a3) = W, MgB a2 n, W ≠ [], mgOut dr (llOf a2) = W, q0, FoOk a3 ks m n, fnd (llOf a3) (intsOf ks) = none, q0, FoOk a2 ks m n, fnd (llOf a2) (intsOf ks) = none, q1, q1, SpOk (cpD W) (cpD W) (List.length W) ∧ List.length W = List.length W, true = true, true = true, true = true, q2, q3, n = n, List.length (cpD W) = List.length W * 3, PairDs (cpD W), q2, q3, n = n]) ((∀ (τ : Sg), renL τ ks = some ks) ∧ (m = 0 → ks = [])) (List.length W = 0 → cpD W = []) (CmOk a3 n) (cnL (List.take n ds) = cnL (List.take n a1))))) := by kernel_rfl
theorem mt_ry (n m : Nat) (dr : Bool) (ds : List DV) (ks : List Value) (W : List Pr) (p : Pr) : prjV (runZ (mlV W p) Try.prog 12 3 [llA n, .bool dr, mlK m] [(0, ⟨.sw ds, []⟩), (4, ⟨.ow, ks⟩)] 6 [false, false, true, false, true,
 false, false, true, false, true, true, true, true, true])
 =
  (let a7 := (Prod.fst p); let a4 := (cnL (List.take n (List.drop 0 ds))); let a3 := (intsOf (List.take (List.length a7) (byV a7))); let a2 := (cnL (List.take n ds)); let a6 := (cnL (List.take n a2)); let a1 := (Prod.fst (Prod.snd p)); let a5 := (intsOf (List.take (List.length a1) (byV a1))); Res.ok (Value.bool true, [], ((fun (q0 q1 q2 q3 q4 q5 q6 q7 : Prop) => [decide ((↑m : Int) > (200 : Int)) = false, LsOk a2 n ∧ (decide ((↑n : Int) > (32 : Int)) || List.any (llOf a2) (lgL (40 : Int))) = false, (32 : Int) ≤ (9000000 : Int), (40 : Int) ≤ (9000000 : Int), ClOk a2 n, llOf a2 ≠ [], MgB a6 n, W ≠ [], mgOut dr (llOf a6) = W, MgB a4 n, W ≠ [], mgOut dr (llOf a4) = W, q0, FoOk a6 ks m n, fnd (llOf a6) (intsOf ks) = some p, q0, FoOk a4 ks m n, fnd (llOf a4) (intsOf ks) = some p, q1, q1, SpOk (cpD W) (cpD W) (List.length W) ∧ List.length W = List.length W, q2, q3, q2, q3, strEq (strOfI a3)
 (strOfI a3) = true, q4, q5, q4, q5, strEq (strOfI a5) (strOfI a5) = true, (Prod.snd (Prod.snd p) == Prod.snd (Prod.snd p)) = true, q6, q7, n = n, List.length (cpD W) = List.length W * 3, PairDs (cpD W), q6, q7, n = n]) ((∀ (τ : Sg), renL τ ks = some ks) ∧ (m = 0 → ks = [])) (List.length W = 0 → cpD W = []) (List.length a7 ≤ List.length (byV a7)) (List.take (List.length a7) (byV a7) = List.map (Value.int IntKind.u8) a3) (List.length a1 ≤ List.length (byV a1)) (List.take (List.length a1) (byV a1) = List.map (Value.int IntKind.u8) a5) (CmOk a6 n) (cnL (List.take n ds) = cnL (List.take n
 a2))))) := by kernel_rfl
theorem mt_ln (n m : Nat) (dr : Bool) (ds : List DV) (ks : List Value) (W : List Pr) (p : Pr) : prjV (runZ (mlV W p) Try.prog 12 3 [llA n, .bool dr, mlK m] [(0, ⟨.sw ds, []⟩), (4, ⟨.ow, ks⟩)] 6 [false, true, true, false, true,
 true, true, false, false, true, true, true])
 =
  (let a2 := (cnL (List.take n (List.drop 0 ds))); let a1 := (cnL (List.take n ds)); let a3 := (cnL (List.take n a1)); Res.ok (Value.bool true, [], ((fun (q0 q1 q2 q3 : Prop) => [decide ((↑m : Int) > (200 : Int)) = false, LsOk a1 n ∧ (decide ((↑n : Int) > (32 : Int)) || List.any (llOf a1) (lgL (40 : Int))) = true, (32 : Int) ≤ (9000000 : Int), q0, LgOk a1 n, lgB n (sumW (0 : Int) (llOf a1)) = true, LsOk a1 n ∧ (decide ((↑n : Int) > (40 : Int)) || List.any (llOf a1) (lgL (4200 : Int))) = false, q0, (4200 : Int) ≤ (9000000 : Int), ClOk a1 n, llOf a1 ≠ [], MgA a3 n, 32 < n ∨ 4096 < sumL (llOf a3), MgA a2 n, 32 < n ∨ 4096 < sumL (llOf a2), q1, FoOk a3 ks m n, fnd (llOf a3) (intsOf ks) = none, q1, FoOk a2 ks m n, fnd (llOf a2) (intsOf ks) = none, SpOk [] [] 0 ∧ 0 = 0, true = true, true = true, true = true, q2, q3, n = n, q2, q3, n = n]) ((40 : Int) ≤ (9000000 : Int)) ((∀ (τ : Sg), renL τ ks = some ks) ∧ (m = 0 → ks = [])) (CmOk a3 n) (cnL (List.take n ds) = cnL (List.take n a1))))) := by kernel_rfl
theorem mt_ly (n m : Nat) (dr : Bool) (ds : List DV) (ks : List Value) (W : List Pr) (p : Pr) : prjV (runZ (mlV W p) Try.prog 12 3 [llA n, .bool dr, mlK m] [(0, ⟨.sw ds, []⟩), (4, ⟨.ow, ks⟩)] 6 [false, true, true, false, true,
 true, true, true, true, true, true, true])
 =
  (let a7 := (Prod.fst p); let a4 := (cnL (List.take n (List.drop 0 ds))); let a3 := (intsOf (List.take (List.length a7) (byV a7))); let a2 := (Prod.fst (Prod.snd p)); let a5 := (intsOf (List.take (List.length a2) (byV a2))); let a1 := (cnL (List.take n ds)); let a6 := (cnL (List.take n a1)); Res.ok (Value.bool true, [], ((fun (q0 q1 q2 q3 q4 q5 q6 q7 : Prop) => [decide ((↑m : Int) > (200 : Int)) = false, LsOk a1 n ∧ (decide ((↑n : Int) > (32 : Int)) || List.any (llOf a1) (lgL (40 : Int))) = true, (32 : Int) ≤ (9000000 : Int), q0, LgOk a1 n, lgB n (sumW (0 : Int) (llOf a1)) = true, LsOk a1 n ∧ (decide ((↑n : Int) > (40 : Int)) || List.any (llOf a1) (lgL (4200 : Int))) = false, q0, (4200 : Int) ≤ (9000000 : Int), ClOk a1 n, llOf a1 ≠ [], MgA a6 n, 32 < n ∨ 4096 < sumL (llOf a6), MgA a4 n, 32 < n ∨ 4096 < sumL (llOf a4), q1, FoOk a6 ks m n, fnd (llOf a6) (intsOf ks) = some p, q1, FoOk a4 ks
 m n, fnd (llOf a4) (intsOf ks) = some p, SpOk [] [] 0 ∧ 0 = 0, q2, q3, q2, q3, strEq (strOfI a3) (strOfI a3) = true, q4, q5, q4, q5, strEq (strOfI a5) (strOfI a5) = true, (Prod.snd (Prod.snd p) == Prod.snd (Prod.snd p)) = true, q6, q7, n = n, q6, q7, n = n]) ((40 : Int) ≤ (9000000 : Int)) ((∀ (τ : Sg), renL τ ks = some ks) ∧ (m = 0 → ks = [])) (List.length a7 ≤ List.length (byV a7)) (List.take (List.length a7) (byV a7) = List.map (Value.int IntKind.u8) a3) (List.length a2 ≤ List.length (byV a2)) (List.take (List.length a2) (byV a2) = List.map (Value.int IntKind.u8) a5) (CmOk a6 n) (cnL (List.take n ds) = cnL (List.take n
 a1))))) := by kernel_rfl
theorem calls_dv {P : Program} {f : FuncId} (aL : List Dv) {cs : List Nat} {v : Value} (T : ∃ h' nx' d, Tri P f (dvV aL cs 0) (dvH aL cs 0) (2 * aL.length) (v, h', nx', d)) (hv : ∀ σ, renV σ v = some v) {W : World} {us : List Value} (hA : DvAts W aL us cs) :
  Calls P f us.toArray W fun e w' => e = .returned v ∧ Ext W w' := by
 obtain ⟨σ, hR, ha, hf, hB⟩ := dvs_rl hA
 obtain ⟨h', nx', d, T⟩ := T
 refine (T.2 hB W σ W us hR (fun n hn _ => hf n hn) ha).mono ?_
 rintro e w' ⟨σ', u, S, hu, rfl⟩
 rw [hv σ'] at hu
 cases hu
 exact ⟨rfl, S.rl.ext⟩
def awV : Tv := ⟨noTz, cmpY, noL, fun _ => [], fun _ _ => none, fun _ => [], fun _ => 0⟩
theorem aw_run  : prjV (runZ awV Try.prog 30 21 [] [] 0 []) =
 Res.ok (Value.bool true, [], ((fun (q0 q1 q2 : Prop) => [q0, q1, q0, q2, q0, q0, q0, q1, q1, q2, q0, q1, q0, q2, q0, q0, q0, q1, q1, q2]) (BytI 1 [Value.int IntKind.u8 (97 : Int)]) (BytI 1 [Value.int IntKind.u8 (99 : Int)]) (BytI 1 [Value.int IntKind.u8 (98 : Int)]))) := by kernel_rfl
theorem byI1 {c : Int} (h : 0 ≤ c ∧ c < 256) : BytI 1 [.int .u8 c] := byV_bytI (l := [c]) fun x hx => by
 simp only [List.mem_singleton] at hx
 rw [hx]
 exact h
theorem awX : XOkZ awV Try.prog := XOneZ.ok cmpY_ok rfl
theorem awake_any (W : World) : Calls Try.prog 21 #[] W fun e w' => e = .returned (.bool true) ∧ Ext W w' :=
 calls_dv [] (cs := []) (run_val awX (noTz_okV rfl) (noL_okV rfl) aw_run ⟨byI1 ⟨by omega, by omega⟩, byI1 ⟨by omega, by omega⟩, byI1 ⟨by omega, by omega⟩, byI1 ⟨by omega, by omega⟩, byI1 ⟨by omega, by omega⟩, byI1 ⟨by omega, by omega⟩, byI1 ⟨by omega, by omega⟩, byI1 ⟨by omega, by omega⟩, byI1 ⟨by omega, by omega⟩, byI1 ⟨by omega, by omega⟩, byI1 ⟨by omega, by omega⟩, byI1 ⟨by omega, by omega⟩, byI1 ⟨by omega, by omega⟩, byI1 ⟨by omega, by omega⟩, byI1 ⟨by omega, by omega⟩, byI1 ⟨by omega, by omega⟩, byI1 ⟨by omega, by omega⟩, byI1 ⟨by omega, by omega⟩, byI1 ⟨by omega, by omega⟩, byI1 ⟨by omega, by omega⟩, trivial⟩ rfl) (fun σ => rfl) (us := []) trivial
theorem cnL_prs : ∀ {ps : List Pr} {ds : List DV}, Prs ds ps → cnL ds = cpD ps
 | [], ds, h => by rw [show ds = [] from h]; simp [cnL, cpD]
 | p :: ps, ds, h => by
   obtain ⟨c1, c2, r, rfl, hr⟩ := h
   rw [cnL_app, cnL_prs hr, cpD_cons]
   simp only [prD, cnL, cnD, cnL_by]
theorem lls_of : ∀ {rows : List (List DV)}, (∀ r, r ∈ rows → ShsOk [.sl [.sl [.i .u8], .sl [.i .u8], .b]] r) → ∃ L : List (List Pr), cnL rows.flatten = llD L ∧ L.length = rows.length ∧ ∀ l ∈ L, ∀ p ∈ l, PrOk p
 | [], _ => ⟨[], by simp [cnL, llD], rfl, fun x hx => by cases hx⟩
 | r :: rows, h => by
   obtain ⟨L, h1, h2, h3⟩ := lls_of (rows := rows) fun x hx => h x (List.mem_cons_of_mem _ hx)
   have hr := h r (List.mem_cons_self ..)
   simp only [ShsOk] at hr
   obtain ⟨d1, _, rfl, g1, rfl⟩ := hr
   simp only [ShOk] at g1
   obtain ⟨len, cap, rs, rfl, _, _, h7, h8⟩ := g1
   obtain ⟨ps, k1, k2, k3⟩ := prs_of (rows := rs) fun x hx => by
    simp only [ShsOk, ShOk]
    have := h8 x hx
    simp only [ShsOk, ShOk] at this
    exact this
   refine ⟨ps :: L, ?_, by simp [h2], fun l hl => ?_⟩
   ·simp only [List.flatten_cons, List.cons_append, List.nil_append, cnL, cnD, h1, cnL_prs k1]
    rw [← h7, ← k2]
    rfl
   ·rcases List.mem_cons.1 hl with rfl | hl
    ·exact k3
    ·exact h3 l hl
structure SmL (L : List (List Pr)) (m B : Nat) : Prop where
 l : L.length ≤ m
 b : ∀ l ∈ L, l.length ≤ B
 O : ∀ l ∈ L, ∀ p ∈ l, PrOk p
 z : ∀ l ∈ L, ∀ p ∈ l, PrSz p
 a : L.all asc = true
theorem sumL_leB {L : List (List Pr)} {B : Nat} (hm : ∀ l ∈ L, l.length ≤ B) : sumL L ≤ L.length * B := by
 induction L with
 | nil => simp [sumL]
 | cons l L ih =>
  have h1 := hm l (List.mem_cons_self ..)
  have h2 := ih fun x hx => hm x (List.mem_cons_of_mem _ hx)
  simp only [sumL, List.map_cons, List.sum_cons, List.length_cons, Nat.succ_mul] at h2 ⊢
  omega
theorem SmL.mg {L : List (List Pr)} {m B n : Nat} (h : SmL L m B) (hn : L.length = n) (h1 : m ≤ 32) (h2 : m * B ≤ 4096) (h3 : B ≤ 4096) : MgB (llD L) n := by
 have hs := sumL_leB h.b
 have hl := h.l
 have hm := Nat.mul_le_mul_right B hl
 refine ⟨⟨⟨by rw [llOf_ll]; exact hn, by omega, by rw [llOf_ll]; exact fun l hl => by have := h.b l hl; omega, by rw [llOf_ll]; exact h.O⟩, by rw [llOf_ll]⟩, by omega, by rw [llOf_ll]; omega, by rw [llOf_ll]; exact h.z, by rw [llOf_ll]; exact h.a⟩
structure OutOk (o : List Pr) (K : Nat) : Prop where
 l : o.length ≤ K
 O : ∀ p ∈ o, PrOk p
 z : ∀ p ∈ o, PrSz p
 a : asc o = true
theorem SmL.out {L : List (List Pr)} {m B : Nat} (h : SmL L m B) (dr : Bool) : OutOk (mgOut dr L) (m * B) := by
 have h1 := mgOut_len (dr := dr) h.b
 have h2 := Nat.mul_le_mul_right B h.l
 refine ⟨by omega, fun p hp => ?_, fun p hp => ?_, mgOut_asc h.a⟩
 ·obtain ⟨l, g1, g2⟩ := mgOut_mem h.a hp
  exact h.O l g1 p g2
 ·obtain ⟨l, g1, g2⟩ := mgOut_mem h.a hp
  exact h.z l g1 p g2
theorem sp_self {o : List Pr} {K : Nat} (h : OutOk o K) (hK : K ≤ 9000000) : SpOk (cpD o) (cpD o) o.length := ⟨by rw [prsOf_cp]; exact cpD_prs o, by rw [prsOf_cp]; exact cpD_prs o, by rw [prsOf_cp], by have := h.l; omega⟩
theorem aw_gok : GOk Try.prog 21 [] gTrueY := gTrueY_ok awake_any
theorem mlX {W : List Pr} {p : Pr} : XOkZ (mlV W p) Try.prog := XOneZ.ok cmpY_ok rfl
theorem mlT_one (W : List Pr) (p : Pr) : TOneZ Try.prog (mlT W p) := orTz_ok (mkT_one aw_gok) (orTz_ok (mkD_ok ls_gok) (orTz_ok (mkD_ok lg_gok) (orTz_ok (mkD_ok cl_gok) (orTz_ok (mkD_ok (mw_gok W)) (orTz_ok (mkO_ok (rm_gok W)) (orTz_ok (mkD_ok (fd_gok p)) (orTz_ok (mkO_ok (rf_gok p)) (orTz_ok (mkD_ok sp_gok) (orTz_ok (mkD_ok cm_gok) over2_one)))))))))
theorem ml_run {W : List Pr} {p : Pr} {args : List Value} {hp : Hp} {nx : Nat} {tp tp' : Tape} {v : Value} {ob : List Prop} (e : prjV (runZ (mlV W p) Try.prog 12 3 args hp nx tp) = .ok (v, tp', ob)) (ho : Alls ob) : ∃ h' nx' d, Tri Try.prog 3 args hp nx (v, h', nx', d) :=
 run_val mlX (T_okV rfl (mlT_one W p)) (noL_okV rfl) e ho rfl
theorem pairDs_cp : ∀ W : List Pr, PairDs (cpD W)
 | [] => trivial
 | p :: W => by rw [cpD_cons]; exact pairDs_cp W
theorem sumW_is : ∀ (L : List (List Pr)) (s : Int), 0 ≤ s → (∀ l ∈ L, l.length ≤ 4200) → s + (L.length * 4200 : Nat) ≤ 9000000000 → sumW s L = s + (sumL L : Nat)
 | [], s, h0, _, _ => by simp [sumW, sumL]
 | l :: L, s, h0, hm, hb => by
   have h1 := hm l (List.mem_cons_self ..)
   simp only [List.length_cons] at hb
   have e : sumL (l :: L) = l.length + sumL L := by simp [sumL]
   unfold sumW
   rw [wrS (by omega) (by omega), sumW_is L _ (by omega) (fun x hx => hm x (List.mem_cons_of_mem _ hx)) (by omega), e]
   omega
theorem lg_small {L : List (List Pr)} {m : Int} (h : L.any (lgL m) = false) (hm : 0 ≤ m) : ∀ l ∈ L, (l.length : Int) ≤ m ∧ ∀ p ∈ l, PrSz p := fun l hl => by
 have h1 := List.any_eq_false.1 h l hl
 simp only [lgL, Bool.not_eq_true, Bool.or_eq_false_iff, decide_eq_false_iff_not] at h1
 refine ⟨by omega, fun p hp => ?_⟩
 have h2 := List.any_eq_false.1 h1.2 p hp
 simp [big] at h2
 exact ⟨by omega, by omega⟩
theorem cnL_ll' (L : List (List Pr)) {n : Nat} (hn : L.length = n) : cnL (List.take n (llD L)) = llD L := by rw [List.take_of_length_le (by rw [llD_len]; omega), cnL_ll]
theorem tells_any {W0 : World} {v0 v2 : Value} {dr : Bool} {rows : List (List DV)} {c c2 : Nat} {K : List Int} (hA : DA.at W0 v0 (.dl rows.flatten rows.length c)) (hr : ∀ r, r ∈ rows → ShsOk [.sl [.sl [.i .u8], .sl [.i .u8], .b]] r) (hB : DA.at W0 v2 (.sl (byV K) K.length c2)) (bK : ∀ x ∈ K, 0 ≤ x ∧ x < 256) :
  Calls Try.prog 3 #[v0, .bool dr, v2] W0 fun e w' => e = .returned (.bool true) ∧ Ext W0 w' := by
 obtain ⟨L, hL, hn, hO⟩ := lls_of hr
 have a0 : DR W0 W0 [] (.sl rows.length none (llD L)) v0 := by
  have := DR.canon _ _ hA.2
  simp only [cnD] at this
  rwa [hL] at this
 have a2 : DR W0 W0 [] (.sl K.length none ((byV K).map DV.fl)) v2 := by
  have := DR.canon _ _ hB.2
  simp only [cnD, byV_fl, cnL_by] at this
  rw [byV_fl]
  exact this
 have n63 : rows.length ≤ 9223372036854775807 := by
  have h := hA.2
  simp only [DR] at h
  rcases h with ⟨h, _⟩ | ⟨b, s, d, _, ⟨_, h⟩, _⟩
  ·omega
  ·have := h _ rfl
   omega
 generalize rows.length = n at *
 refine calls_dv [.dl (llD L) n, .fl (.bool dr), .sl (byV K) K.length] (cs := [0, 0, 0]) ?_ (fun σ => rfl) (us := [v0, .bool dr, v2]) ⟨⟨a0, trivial⟩, ⟨⟨rfl, fun σ => rfl⟩, trivial⟩, ⟨⟨byV_ren K, a2⟩, trivial⟩, trivial⟩
 show ∃ h' nx' d, Tri Try.prog 3 [llA n, .bool dr, mlK K.length] [(0, ⟨.sw (llD L), []⟩), (4, ⟨.ow, byV K⟩)] 6 (.bool true, h', nx', d)
 have etk := cnL_ll' L hn
 have hLs : LsOk (llD L) n := ⟨by rw [llOf_ll], by rw [llOf_ll]; exact hn⟩
 by_cases hk0 : (K.length : Int) > 200
 ·exact ml_run (mt_len n K.length dr (llD L) (byV K) [] ([], [], false)) ⟨decide_eq_true hk0, trivial⟩
 have hk1 : decide ((K.length : Int) > 200) = false := decide_eq_false hk0
 have hLg : LgOk (llD L) n := ⟨by rw [llOf_ll], by rw [llOf_ll]; exact hn, n63⟩
 have hkr : ∀ τ, renL τ (byV K) = some (byV K) := byV_ren K
 have hkz : K.length = 0 → byV K = [] := fun e => by rw [List.eq_nil_of_length_eq_zero e]; rfl
 have hK : FdK (byV K) K.length (intsOf (byV K)) := by rw [byV_ints]; exact ⟨rfl, rfl, bK⟩
 have sp0 : SpOk [] [] 0 := ⟨rfl, rfl, rfl, by omega⟩
 obtain ⟨b32, hb32⟩ : ∃ b, (decide ((n : Int) > 32) || L.any (lgL 40)) = b := ⟨_, rfl⟩
 have mod : ∀ {B : Nat}, n ≤ 40 → B ≤ 9000000 → (∀ l ∈ L, l.length ≤ B ∧ ∀ p ∈ l, PrSz p) → ClOk (llD L) n ∧ MgA (llD L) n ∧ FoOk (llD L) (byV K) K.length n ∧ CmOk (llD L) n := fun {B} h40 hB hm => by
  have hfd : ∀ l ∈ L, FdL l := fun l hl => ⟨hO l hl, (hm l hl).2, by have := (hm l hl).1; omega⟩
  have hfl : FdLL (llOf (llD L)) n := by rw [llOf_ll]; exact ⟨hn, by omega, hfd⟩
  have he : llD L = llD (llOf (llD L)) := by rw [llOf_ll]
  exact ⟨⟨he, hfl⟩, ⟨⟨by rw [llOf_ll]; exact hn, by omega, by rw [llOf_ll]; exact fun l hl => by have := (hm l hl).1; omega, by rw [llOf_ll]; exact hO⟩, he⟩, ⟨hK, he, hfl⟩, ⟨he, by rw [llOf_ll]; exact hn, by omega, by rw [llOf_ll]; exact fun l hl => by have := (hm l hl).1; omega⟩⟩
 have strs : ∀ {x : Pr}, fnd L K = some x → strEq (strOfI x.1) (strOfI x.1) = true ∧ strEq (strOfI x.2.1) (strOfI x.2.1) = true := fun {x} hx => by
  obtain ⟨l, g1, g2, _⟩ := fnd_mem hx
  have hxo := hO l g1 x g2
  exact ⟨by rw [strEq_I hxo.1 hxo.1]; simp, by rw [strEq_I hxo.2 hxo.2]; simp⟩
 cases b32 with
 | true =>
  obtain ⟨bg, hbg⟩ : ∃ b, lgB n (sumW 0 L) = b := ⟨_, rfl⟩
  cases bg with
  | false =>
   refine ml_run (mt_a n K.length dr (llD L) (byV K) [] ([], [], false)) ?_
   simp only [Alls, List.drop_zero, etk, llOf_ll, cnL_cp, tk_by, byV_ints, byV_len, cpD_len]
   repeat' (with_reducible apply And.intro)
   all_goals first | omega | (with_reducible assumption) | (with_reducible exact trivial) | (with_reducible rfl) | exact byV_eq _ | exact hse1 | exact hse2 | exact beq_self_eq_true _ | exact decide_eq_false (by omega) | rfl | skip
  | true =>
   obtain ⟨b40, hb40⟩ : ∃ b, (decide ((n : Int) > 40) || L.any (lgL 4200)) = b := ⟨_, rfl⟩
   cases b40 with
   | true =>
    refine ml_run (mt_b n K.length dr (llD L) (byV K) [] ([], [], false)) ?_
    simp only [Alls, List.drop_zero, etk, llOf_ll, cnL_cp, tk_by, byV_ints, byV_len, cpD_len]
    repeat' (with_reducible apply And.intro)
    all_goals first | omega | (with_reducible assumption) | (with_reducible exact trivial) | (with_reducible rfl) | exact byV_eq _ | exact hse1 | exact hse2 | exact beq_self_eq_true _ | exact decide_eq_false (by omega) | rfl | skip
   | false =>
    have h2 := hb40
    simp only [Bool.or_eq_false_iff, decide_eq_false_iff_not] at h2
    have hsm := lg_small h2.2 (by omega)
    have h4 : ∀ l ∈ L, l.length ≤ 4200 := fun l hl => by have := (hsm l hl).1; omega
    obtain ⟨c1, c2, c3, c4⟩ := mod (B := 4200) (by omega) (by omega) fun l hl => ⟨h4 l hl, (hsm l hl).2⟩
    have hsl := sumW_is L 0 (by omega) h4 (by rw [hn]; omega)
    have hbig : 32 < n ∨ 4096 < sumL L := by
     have h5 := hbg
     rw [hsl] at h5
     simp only [lgB, Bool.and_eq_true, Bool.or_eq_true, decide_eq_true_eq] at h5
     omega
    have hne : L ≠ [] := fun e => by
     subst e
     simp only [List.length_nil] at hn
     rcases hbig with h | h
     ·omega
     ·simp [sumL] at h
    cases hx : fnd L K with
    | none =>
     refine ml_run (mt_ln n K.length dr (llD L) (byV K) [] ([], [], false)) ?_
     simp only [Alls, List.drop_zero, etk, llOf_ll, cnL_cp, tk_by, byV_ints, byV_len, cpD_len]
     repeat' (with_reducible apply And.intro)
     all_goals first | omega | (with_reducible assumption) | (with_reducible exact trivial) | (with_reducible rfl) | exact byV_eq _ | exact hse1 | exact hse2 | exact beq_self_eq_true _ | exact decide_eq_false (by omega) | rfl | skip
    | some x =>
     obtain ⟨hse1, hse2⟩ := strs hx
     refine ml_run (mt_ly n K.length dr (llD L) (byV K) [] x) ?_
     simp only [Alls, List.drop_zero, etk, llOf_ll, cnL_cp, tk_by, byV_ints, byV_len, cpD_len]
     repeat' (with_reducible apply And.intro)
     all_goals first | omega | (with_reducible assumption) | (with_reducible exact trivial) | (with_reducible rfl) | exact byV_eq _ | exact hse1 | exact hse2 | exact beq_self_eq_true _ | exact decide_eq_false (by omega) | rfl | skip
 | false =>
  have h2 := hb32
  simp only [Bool.or_eq_false_iff, decide_eq_false_iff_not] at h2
  have hsm := lg_small h2.2 (by omega)
  have h4 : ∀ l ∈ L, l.length ≤ 40 := fun l hl => by have := (hsm l hl).1; omega
  obtain ⟨c1, c2, c3, c4⟩ := mod (B := 40) (by omega) (by omega) fun l hl => ⟨h4 l hl, (hsm l hl).2⟩
  have hn32 : n ≤ 32 := by omega
  have hsum : sumL L ≤ 4096 := by
   have h1 := sumL_leB (B := 40) h4
   have h2 := Nat.mul_le_mul_right 40 hn32
   rw [hn] at h1
   omega
  by_cases hne : L = []
  ·subst hne
   have hn0 : n = 0 := hn.symm
   subst hn0
   have l0 : LsOk [] 0 := hLs
   have d1 : ClOk [] 0 := c1
   have d2 : MgA [] 0 := c2
   have d3 : FoOk [] (byV K) K.length 0 := c3
   have d4 : CmOk [] 0 := c4
   have mb : MgB [] 0 := ⟨d2, by omega, by rw [show llOf [] = [] from rfl]; exact hsum, fun l hl => (by cases hl), rfl⟩
   have mo : mgOut dr [] = [] := by cases dr <;> rfl
   have lo : llOf [] = [] := rfl
   have fn0 : fnd [] K = none := rfl
   have ec : cnL [] = [] := rfl
   refine ml_run (mt_z 0 K.length dr [] (byV K) [] ([], [], false)) ?_
   simp only [List.take_zero, lo, ec]
   simp only [Alls, List.drop_zero, etk, llOf_ll, cnL_cp, tk_by, byV_ints, byV_len, cpD_len]
   repeat' (with_reducible apply And.intro)
   all_goals first | omega | (with_reducible assumption) | (with_reducible exact trivial) | (with_reducible rfl) | exact byV_eq _ | exact hse1 | exact hse2 | exact beq_self_eq_true _ | exact decide_eq_false (by omega) | rfl | skip
  ·cases hasc : L.all asc with
   | false =>
    have hal : allA L = false := hasc
    cases hx : fnd L K with
    | none =>
     refine ml_run (mt_en n K.length dr (llD L) (byV K) [] ([], [], false)) ?_
     simp only [Alls, List.drop_zero, etk, llOf_ll, cnL_cp, tk_by, byV_ints, byV_len, cpD_len]
     repeat' (with_reducible apply And.intro)
     all_goals first | omega | (with_reducible assumption) | (with_reducible exact trivial) | (with_reducible rfl) | exact byV_eq _ | exact hse1 | exact hse2 | exact beq_self_eq_true _ | exact decide_eq_false (by omega) | rfl | skip
    | some x =>
     obtain ⟨hse1, hse2⟩ := strs hx
     refine ml_run (mt_ey n K.length dr (llD L) (byV K) [] x) ?_
     simp only [Alls, List.drop_zero, etk, llOf_ll, cnL_cp, tk_by, byV_ints, byV_len, cpD_len]
     repeat' (with_reducible apply And.intro)
     all_goals first | omega | (with_reducible assumption) | (with_reducible exact trivial) | (with_reducible rfl) | exact byV_eq _ | exact hse1 | exact hse2 | exact beq_self_eq_true _ | exact decide_eq_false (by omega) | rfl | skip
   | true =>
    have S : SmL L 32 40 := ⟨by omega, h4, hO, fun l hl => (hsm l hl).2, hasc⟩
    obtain ⟨W, hW⟩ : ∃ W, mgOut dr L = W := ⟨_, rfl⟩
    have oW : OutOk W 1280 := by rw [← hW]; exact S.out dr
    have mb : MgB (llD L) n := S.mg hn (by omega) (by omega) (by omega)
    by_cases hW0 : W = []
    ·subst hW0
     cases hx : fnd L K with
     | none =>
      refine ml_run (mt_nn n K.length dr (llD L) (byV K) [] ([], [], false)) ?_
      simp only [Alls, List.drop_zero, etk, llOf_ll, cnL_cp, tk_by, byV_ints, byV_len, cpD_len]
      repeat' (with_reducible apply And.intro)
      all_goals first | omega | (with_reducible assumption) | (with_reducible exact trivial) | (with_reducible rfl) | exact byV_eq _ | exact hse1 | exact hse2 | exact beq_self_eq_true _ | exact decide_eq_false (by omega) | rfl | skip
     | some x =>
      obtain ⟨hse1, hse2⟩ := strs hx
      refine ml_run (mt_ny n K.length dr (llD L) (byV K) [] x) ?_
      simp only [Alls, List.drop_zero, etk, llOf_ll, cnL_cp, tk_by, byV_ints, byV_len, cpD_len]
      repeat' (with_reducible apply And.intro)
      all_goals first | omega | (with_reducible assumption) | (with_reducible exact trivial) | (with_reducible rfl) | exact byV_eq _ | exact hse1 | exact hse2 | exact beq_self_eq_true _ | exact decide_eq_false (by omega) | rfl | skip
    ·have spw := sp_self oW (by omega)
     have zW : W.length = 0 → cpD W = [] := fun e => by rw [List.eq_nil_of_length_eq_zero e]; rfl
     have pw := pairDs_cp W
     cases hx : fnd L K with
     | none =>
      refine ml_run (mt_rn n K.length dr (llD L) (byV K) W ([], [], false)) ?_
      simp only [Alls, List.drop_zero, etk, llOf_ll, cnL_cp, tk_by, byV_ints, byV_len, cpD_len]
      repeat' (with_reducible apply And.intro)
      all_goals first | omega | (with_reducible assumption) | (with_reducible exact trivial) | (with_reducible rfl) | exact byV_eq _ | exact hse1 | exact hse2 | exact beq_self_eq_true _ | exact decide_eq_false (by omega) | rfl | skip
     | some x =>
      obtain ⟨hse1, hse2⟩ := strs hx
      refine ml_run (mt_ry n K.length dr (llD L) (byV K) W x) ?_
      simp only [Alls, List.drop_zero, etk, llOf_ll, cnL_cp, tk_by, byV_ints, byV_len, cpD_len]
      repeat' (with_reducible apply And.intro)
      all_goals first | omega | (with_reducible assumption) | (with_reducible exact trivial) | (with_reducible rfl) | exact byV_eq _ | exact hse1 | exact hse2 | exact beq_self_eq_true _ | exact decide_eq_false (by omega) | rfl | skip
open Go.ChangeShapes Go.WideShapes Go.ChangeAt Go.RowKit

section
variable {H : Type} {enc : TypeId × Value → H} {P : Program}

theorem trodAll_stays (hl : laidOutB P = true) {W W' : World} (hb : Below W.heap.size W W') {sp : Nat → Bool} :
  ∀ (ts : List TypeId) (vs : List Value) (ds : List (DataW H)) (ps : List MemPlace),
  (∀ t ∈ ts, P.readableRec t = true ∧ t < P.types.size) →
  DataW.TrodAll enc P W 0 (fun _ => true) true ts vs ds ps → (∀ x ∈ ps, x.block < W.heap.size) → (∀ p ∈ ps, sp p.block = true) →
  DataW.TrodAll enc P W' 0 sp true ts vs ds ps
 | [], [], [], _, _, h, _, _ => h
 | [], _ :: _, _, _, _, h, _, _ => by simp [DataW.TrodAll] at h
 | [], [], _ :: _, _, _, h, _, _ => by simp [DataW.TrodAll] at h
 | _ :: _, [], _, _, _, h, _, _ => by simp [DataW.TrodAll] at h
 | _ :: _, _ :: _, [], _, _, h, _, _ => by simp [DataW.TrodAll] at h
 | t :: ts, v :: vs, d :: ds, ps, hr, h, hlt, hs => by
   obtain ⟨p, q, h1, h2, e⟩ := h
   subst e
   exact ⟨p, q, WideElems.Trod_stays hl (hr t (by simp)).1 (hr t (by simp)).2 h1 (fun x hx => hb.same (hlt x (by simp [hx]))) (fun x hx => hs x (by simp [hx])),
    trodAll_stays hl hb ts vs ds q (fun t' ht' => hr t' (by simp [ht'])) h2 (fun x hx => hlt x (by simp [hx])) (fun x hx => hs x (by simp [hx])), rfl⟩

theorem trodAll_len {W : World} {b : Nat} {sp : Nat → Bool} {hd : Bool} : ∀ {ts : List TypeId} {vs : List Value} {ds : List (DataW H)} {ps : List MemPlace}, DataW.TrodAll enc P W b sp hd ts vs ds ps → ds.length = ts.length
 | [], [], [], _, _ => rfl
 | [], _ :: _, _, _, h => by simp [DataW.TrodAll] at h
 | [], [], _ :: _, _, h => by simp [DataW.TrodAll] at h
 | _ :: _, [], _, _, h => by simp [DataW.TrodAll] at h
 | _ :: _, _ :: _, [], _, h => by simp [DataW.TrodAll] at h
 | t :: ts, v :: vs, d :: ds, ps, h => by
   obtain ⟨p, q, h1, h2, e⟩ := h
   simp [trodAll_len h2]

def paramsFine (P : Program) (f : Func) : Bool := laidOutB P && f.params.toList.all (fun t => P.readableRec t && decide (t < P.types.size))

theorem law_post {f : Func} {s : ChangeSpec} {tb : TypeId} {apart fresh handsOn again : Bool} {W W' : World} {args : Array Value} {ds gs : List (DataW H)} {before : List MemPlace}
  (hfine : paramsFine P f = true) (hres : f.resultTypes = #[tb]) (htb : P.underlying tb = some .bool) (hvars : s.vars = [])
  (hspec : s.fn H (ds ++ []) = { results := [.lit (.bool true)], args := ds })
  (hW : DataW.Whole enc P f.params.toList s.vars apart W args.toList ds gs before)
  (hb : Below W.heap.size W W') : s.post enc P f apart fresh handsOn again W args (.bool true) W' := by
 have hW' := hW
 have hlt : ∀ p ∈ before, p.block < W.heap.size := fun p hp => hW.lt p hp
 obtain ⟨p, q, hA, hV, hpq, hz, hn⟩ := hW
 rw [hvars] at hV
 obtain ⟨rfl, rfl⟩ := trodVars_none hV
 obtain rfl : before = p := by simpa using hpq
 simp only [paramsFine, Bool.and_eq_true, List.all_eq_true, decide_eq_true_eq] at hfine
 have hargs : ∀ sp : Nat → Bool, (∀ x ∈ before, sp x.block = true) → DataW.TrodAll enc P W' 0 sp true f.params.toList args.toList ds before :=
  fun sp hsp => trodAll_stays hfine.1 hb _ _ _ _ hfine.2 hA hlt hsp
 have hresT : ∀ (b : Nat) (sp : Nat → Bool) (hd : Bool), DataW.TrodAll enc P W' b sp hd f.resultTypes.toList ((Value.bool true).resultList f.resultTypes.size) [.lit (.bool true)] [] := by
  intro b sp hd
  rw [hres]
  exact trodAll_cons_mk (shut_bool htb _) trodAll_mk0
 have hold : ∀ x ∈ before, (fun b => decide (b < W.heap.size)) x.block = true := fun x hx => by simpa using hlt x hx
 have hvT : ∀ sp : Nat → Bool, DataW.TrodVars enc P W' sp s.vars (s.fn H (ds ++ [])).vars [] := fun sp => by rw [hvars, hspec]; rfl
 refine ⟨ds, [], before, [], before, [], hW', ?_, ?_, hvT _, World.keptBut_mono (fun x hx => ⟨hx, .inr (.inl hx)⟩) (hb.frame (· ∈ before)), fun _ => ?_⟩
 ·rw [hspec]; exact hresT _ _ _
 ·rw [hspec]; exact hargs _ hold
 ·refine ⟨ok_one hres rfl (okWide_bool_mk htb _), [.lit (.bool true)] ++ ds, [], ([] ++ before) ++ [], ⟨[] ++ before, [], trodAll_append (hargs _ (fun _ _ => rfl)) (hresT _ _ _), (by rw [hvars]; rfl), rfl, ?_, ?_⟩, ?_⟩
  ·intro b off hp
   have hin : MemPlace.cell b off ∈ before := by simpa using hp
   rw [hb.frozen (hlt _ hin)]
   exact hz b off hin
  ·intro ha
   simpa using hn ha
  ·intro x hx _
   simpa using hx
end
end Go.Proofs.Ytmoflcoijmmpjaa
