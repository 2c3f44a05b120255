/-
  Chapter 14: exchequerref14.Merge: runs of its loops' rounds.
-/
import Derived.Test.YtmoflcoijmmpjaaGrBA
import Derived.Test.YtmoflcoijmmpjaaGrAZ
import Derived.Test.YtmoflcoijmmpjaaGrAX
namespace Go.Proofs.Ytmoflcoijmmpjaa
set_option linter.unusedSimpArgs false
set_option linter.unusedVariables false
set_option linter.unusedSectionVars false
open Go Go.RowKit
def rmTab : FuncId → List Nat := fun f => bif Nat.beq f 13 then [17, 29, 32, 37, 60, 63] else []
def rmSy : FuncId → Nat → Option Nat := lsSy 13 [(17, 0), (19, 0), (23, 0), (24, 37), (26, 0), (29, 0), (32, 0), (37, 0), (39, 0), (42, 0), (43, 37), (59, 0), (63, 0), (68, 51)]
def rmT (p : Pr) (y : List Int) : TFun := orTz (mkD 35 [.c 3] gRs) (orTz (mkO 15 [.e 1, .s] (gRf p)) (mkO 36 [.e 1, .s, .f] (gLe y)))
def rmV (L : LFun) (p : Pr) (y : List Int) : Tv := ⟨rmT p y, cmpY, L, rmTab, rmSy, fun _ => [], fun _ => 0⟩
def rmP : Pr := ([], [], false)
theorem rm_a_go (inr : Bool) (n i : Nat) (s : Int) (dr : Bool) (ds : List DV) : prjP [0, 1, 6, 7] 10 (codeZ (rmV noL rmP []) Try.prog (runZ (rmV noL rmP []) Try.prog 9) 13 inr 100000 (bodyIn Try.prog 13 3) (SL 76 [(0, llA n), (1,
 .bool dr), (6, mhI s), (7, iV i)]) [(0, ⟨.sw ds, []⟩)] 10 [true])
 =
  (let a1 := (adI s (↑(dLen ds (i + 0)) : Int)); Res.ok ((Xt.normal, 76, [(0, Value.slice (some (Addr.mk 0 0 none)) n 18446744073709551616), (1, Value.bool dr), (6, Value.int IntKind.i64 a1), (7, Value.int IntKind.i64 (↑(i + 1) : Int))], [(10, Rw.mk (Kd.sw (dSub ds (i + 0))) []), (0, Rw.mk (Kd.sw ds) [])], 11, [], []), [], [decide ((↑i : Int) < (↑n : Int)) = true, (0 : Int) ≤ (↑i : Int) ∧ (↑i : Int) < (↑n : Int), ShOb Try.prog 27 true true ds i 10, rg IntKind.i64 a1, rg IntKind.i64 (↑(i + 1) : Int)])) := by kernel_rfl
theorem rm_a_x (inr : Bool) (n i : Nat) (s : Int) (dr : Bool) (ds : List DV) : prjP [0, 1, 6] 10 (codeZ (rmV noL rmP []) Try.prog (runZ (rmV noL rmP []) Try.prog 9) 13 inr 100000 (bodyIn Try.prog 13 3) (SL 76 [(0, llA n), (1, .bool dr), (6, mhI s), (7, iV i)]) [(0, ⟨.sw ds, []⟩)] 10 [false]) =
 Res.ok ((Xt.exit 0, 76, [(0, Value.slice (some (Addr.mk 0 0 none)) n 18446744073709551616), (1, Value.bool dr), (6, Value.int IntKind.i64 s)], [(0, Rw.mk (Kd.sw ds) [])], 10, [], []), [], [decide ((↑i : Int) < (↑n : Int)) = false]) := by kernel_rfl
theorem rm_b_go (inr : Bool) (n i : Nat) (s : Int) (dr : Bool) (ds : List DV) : prjP [0, 1, 8] 30 (codeZ (rmV noL rmP []) Try.prog (runZ (rmV noL rmP []) Try.prog 9) 13 inr 100000 (bodyIn Try.prog 13 9) (SL 76 [(0, llA n), (1, .bool dr), (8, iV i)]) [(0, ⟨.sw ds, []⟩)] 30 [true, true]) =
 Res.ok ((Xt.normal, 76, [(0, Value.slice (some (Addr.mk 0 0 none)) n 18446744073709551616), (1, Value.bool dr), (8, Value.int IntKind.i64 (↑(i + 1) : Int))], [(30, Rw.mk (Kd.sw (dSub ds (i + 0))) []), (0, Rw.mk (Kd.sw ds) [])], 31, [], []), [], [decide ((↑i : Int) < (↑n : Int)) = true, (0 : Int) ≤ (↑i : Int) ∧ (↑i : Int) < (↑n : Int), ShOb Try.prog 27 true true ds i 30, SoOk (cnL (List.take (dLen ds (i + 0) * 3) (dSub ds (i + 0)))) (dLen ds (i + 0)) true, rg IntKind.i64 (↑(i + 1) : Int)]) := by kernel_rfl
theorem rm_b_no (inr : Bool) (n i : Nat) (s : Int) (dr : Bool) (ds : List DV) : prjP [4, 5] 30 (codeZ (rmV noL rmP []) Try.prog (runZ (rmV noL rmP []) Try.prog 9) 13 inr 100000 (bodyIn Try.prog 13 9) (SL 76 [(0, llA n), (1, .bool dr), (8, iV i)]) [(0, ⟨.sw ds, []⟩)] 30 [true, false]) =
 Res.ok ((Xt.ret, 76, [(4, Value.slice none 0 0), (5, Value.int IntKind.i64 (2 : Int))], [(30, Rw.mk (Kd.sw (dSub ds (i + 0))) []), (0, Rw.mk (Kd.sw ds) [])], 31, [], []), [], [decide ((↑i : Int) < (↑n : Int)) = true, (0 : Int) ≤ (↑i : Int) ∧ (↑i : Int) < (↑n : Int), ShOb Try.prog 27 true true ds i 30, SoOk (cnL (List.take (dLen ds (i + 0) * 3) (dSub ds (i + 0)))) (dLen ds (i + 0)) false]) := by kernel_rfl
theorem rm_b_x (inr : Bool) (n i : Nat) (s : Int) (dr : Bool) (ds : List DV) : prjP [0, 1] 30 (codeZ (rmV noL rmP []) Try.prog (runZ (rmV noL rmP []) Try.prog 9) 13 inr 100000 (bodyIn Try.prog 13 9) (SL 76 [(0, llA n), (1, .bool dr), (8, iV i)]) [(0, ⟨.sw ds, []⟩)] 30 [false]) =
 Res.ok ((Xt.exit 2, 76, [(0, Value.slice (some (Addr.mk 0 0 none)) n 18446744073709551616), (1, Value.bool dr)], [(0, Rw.mk (Kd.sw ds) [])], 30, [], []), [], [decide ((↑i : Int) < (↑n : Int)) = false]) := by kernel_rfl
theorem rm_c_nas (inr : Bool) (n m q : Nat) (ds os : List DV) (ks : List Value) (p : Pr) (y : List Int) : prjP [0, 1, 9, 10, 11] 300 (codeZ (rmV noL p y) Try.prog (runZ (rmV noL p y) Try.prog 9) 13 inr 100000 (bodyIn Try.prog 13
 15) (SL 76 [(0, llA n), (1, .bool false), (9, nlV), (10, ltA m), (11, .bool true)]) ([] ++ [(202, ⟨.ow, ks⟩)] ++ [(0, ⟨.sw ds, []⟩)]) 300 [true, true, true])
 =
  (let a3 := (Prod.fst p); let a2 := (cnL (List.take n (List.drop 0 ds))); let a1 := (Prod.fst (Prod.snd p)); Res.ok ((Xt.normal, 76, [(0, Value.slice (some (Addr.mk 0 0 none)) n 18446744073709551616), (1, Value.bool false), (9, Value.slice (some (Addr.mk 305 0 none)) 1 (capBig + 305)), (10, Value.slice (some (Addr.mk 306 0 none)) (List.length y) (capBig + 306)), (11, Value.bool true)], [(306, Rw.mk Kd.ow (byV y)), (305, Rw.mk (Kd.dw 3 [Value.slice none 0 0, Value.slice none 0 0, Value.bool false] [DV.sl (List.length a3) none (List.map DV.fl (byV a3)), DV.sl (List.length a1) none (List.map DV.fl (byV a1)), DV.fl (Value.bool (Prod.snd (Prod.snd p)))]) []), (301, Rw.mk Kd.ow (byV a1)), (300, Rw.mk Kd.ow (byV a3)), (202, Rw.mk Kd.ow ks), (0, Rw.mk (Kd.sw ds) [])], 307, [302], []), [], [(∀ (τ : Sg), renL τ ks = some ks) ∧ (m = 0 → ks = []), FoOk a2 ks m n, fnd (llOf a2) (intsOf ks) = some p,
 true = true, 56 ≤ 140737488355328, (∀ (τ : Sg), renL τ (byV a3) = some (byV a3)) ∧ (List.length a3 = 0 → byV a3 = []), (∀ (τ : Sg), renL τ (byV a1) = some (byV a1)) ∧ (List.length a1 = 0 → byV a1 = []), 3 ≤ 3, true = true, (∀ (τ : Sg), renL τ ks = some ks) ∧ (m = 0 → ks = []), FoOk a2 ks m n, lsK (bhv false (intsOf ks)) (ksL (llOf a2)) none = some
 y])) := by kernel_rfl
theorem rm_c_nan (inr : Bool) (n m q : Nat) (ds os : List DV) (ks : List Value) (p : Pr) (y : List Int) : prjP [0, 1, 9, 10, 11] 300 (codeZ (rmV noL p y) Try.prog (runZ (rmV noL p y) Try.prog 9) 13 inr 100000 (bodyIn Try.prog 13
 15) (SL 76 [(0, llA n), (1, .bool false), (9, nlV), (10, ltA m), (11, .bool true)]) ([] ++ [(202, ⟨.ow, ks⟩)] ++ [(0, ⟨.sw ds, []⟩)]) 300 [true, true, false])
 =
  (let a3 := (Prod.fst p); let a2 := (cnL (List.take n (List.drop 0 ds))); let a1 := (Prod.fst (Prod.snd p)); Res.ok ((Xt.normal, 76, [(0, Value.slice (some (Addr.mk 0 0 none)) n 18446744073709551616), (1, Value.bool false), (9, Value.slice (some (Addr.mk 305 0 none)) 1 (capBig + 305)), (10, Value.slice none 0 0), (11, Value.bool false)], [(305, Rw.mk (Kd.dw 3 [Value.slice none 0 0, Value.slice none 0 0, Value.bool false] [DV.sl (List.length a3) none (List.map DV.fl (byV a3)), DV.sl (List.length a1) none (List.map DV.fl (byV a1)), DV.fl (Value.bool (Prod.snd (Prod.snd p)))]) []), (301, Rw.mk Kd.ow (byV a1)), (300, Rw.mk Kd.ow (byV a3)), (202, Rw.mk Kd.ow ks), (0, Rw.mk (Kd.sw ds) [])], 306, [302], []), [], [(∀ (τ : Sg), renL τ ks = some ks) ∧ (m = 0 → ks = []), FoOk a2 ks m n, fnd (llOf a2) (intsOf ks) = some p, true = true, 56 ≤ 140737488355328, (∀ (τ : Sg), renL τ (byV a3) = some (byV
 a3)) ∧ (List.length a3 = 0 → byV a3 = []), (∀ (τ : Sg), renL τ (byV a1) = some (byV a1)) ∧ (List.length a1 = 0 → byV a1 = []), 3 ≤ 3, true = true, (∀ (τ : Sg), renL τ ks = some ks) ∧ (m = 0 → ks = []), FoOk a2 ks m n, lsK (bhv false (intsOf ks)) (ksL (llOf a2)) none =
 none])) := by kernel_rfl
theorem rm_c_nks (inr : Bool) (n m q : Nat) (ds os : List DV) (ks : List Value) (p : Pr) (y : List Int) : prjP [0, 1, 9, 10, 11] 300 (codeZ (rmV noL p y) Try.prog (runZ (rmV noL p y) Try.prog 9) 13 inr 100000 (bodyIn Try.prog 13
 15) (SL 76 [(0, llA n), (1, .bool true), (9, nlV), (10, ltA m), (11, .bool true)]) ([] ++ [(202, ⟨.ow, ks⟩)] ++ [(0, ⟨.sw ds, []⟩)]) 300 [true, false, true, true])
 =
  (let a3 := (Prod.fst p); let a2 := (cnL (List.take n (List.drop 0 ds))); let a1 := (Prod.fst (Prod.snd p)); Res.ok ((Xt.normal, 76, [(0, Value.slice (some (Addr.mk 0 0 none)) n 18446744073709551616), (1, Value.bool true), (9, Value.slice (some (Addr.mk 305 0 none)) 1 (capBig + 305)), (10, Value.slice (some (Addr.mk 306 0 none)) (List.length y) (capBig + 306)), (11, Value.bool true)], [(306, Rw.mk Kd.ow (byV y)), (305, Rw.mk (Kd.dw 3 [Value.slice none 0 0, Value.slice none 0 0, Value.bool false] [DV.sl (List.length a3) none (List.map DV.fl (byV a3)), DV.sl (List.length a1) none (List.map DV.fl (byV a1)), DV.fl (Value.bool (Prod.snd (Prod.snd p)))]) []), (301, Rw.mk Kd.ow (byV a1)), (300, Rw.mk Kd.ow (byV a3)), (202, Rw.mk Kd.ow ks), (0, Rw.mk (Kd.sw ds) [])], 307, [302], []), [], [(∀ (τ : Sg), renL τ ks = some ks) ∧ (m = 0 → ks = []), FoOk a2 ks m n, fnd (llOf a2) (intsOf ks) = some p,
 false = false, (!Prod.snd (Prod.snd p)) = true, 56 ≤ 140737488355328, (∀ (τ : Sg), renL τ (byV a3) = some (byV a3)) ∧ (List.length a3 = 0 → byV a3 = []), (∀ (τ : Sg), renL τ (byV a1) = some (byV a1)) ∧ (List.length a1 = 0 → byV a1 = []), 3 ≤ 3, true = true, (∀ (τ : Sg), renL τ ks = some ks) ∧ (m = 0 → ks = []), FoOk a2 ks m n, lsK (bhv false (intsOf ks)) (ksL (llOf a2)) none = some
 y])) := by kernel_rfl
theorem rm_c_nkn (inr : Bool) (n m q : Nat) (ds os : List DV) (ks : List Value) (p : Pr) (y : List Int) : prjP [0, 1, 9, 10, 11] 300 (codeZ (rmV noL p y) Try.prog (runZ (rmV noL p y) Try.prog 9) 13 inr 100000 (bodyIn Try.prog 13
 15) (SL 76 [(0, llA n), (1, .bool true), (9, nlV), (10, ltA m), (11, .bool true)]) ([] ++ [(202, ⟨.ow, ks⟩)] ++ [(0, ⟨.sw ds, []⟩)]) 300 [true, false, true, false])
 =
  (let a3 := (Prod.fst p); let a2 := (cnL (List.take n (List.drop 0 ds))); let a1 := (Prod.fst (Prod.snd p)); Res.ok ((Xt.normal, 76, [(0, Value.slice (some (Addr.mk 0 0 none)) n 18446744073709551616), (1, Value.bool true), (9, Value.slice (some (Addr.mk 305 0 none)) 1 (capBig + 305)), (10, Value.slice none 0 0), (11, Value.bool false)], [(305, Rw.mk (Kd.dw 3 [Value.slice none 0 0, Value.slice none 0 0, Value.bool false] [DV.sl (List.length a3) none (List.map DV.fl (byV a3)), DV.sl (List.length a1) none (List.map DV.fl (byV a1)), DV.fl (Value.bool (Prod.snd (Prod.snd p)))]) []), (301, Rw.mk Kd.ow (byV a1)), (300, Rw.mk Kd.ow (byV a3)), (202, Rw.mk Kd.ow ks), (0, Rw.mk (Kd.sw ds) [])], 306, [302], []), [], [(∀ (τ : Sg), renL τ ks = some ks) ∧ (m = 0 → ks = []), FoOk a2 ks m n, fnd (llOf a2) (intsOf ks) = some p, false = false, (!Prod.snd (Prod.snd p)) = true, 56 ≤ 140737488355328, (∀ (τ :
 Sg), renL τ (byV a3) = some (byV a3)) ∧ (List.length a3 = 0 → byV a3 = []), (∀ (τ : Sg), renL τ (byV a1) = some (byV a1)) ∧ (List.length a1 = 0 → byV a1 = []), 3 ≤ 3, true = true, (∀ (τ : Sg), renL τ ks = some ks) ∧ (m = 0 → ks = []), FoOk a2 ks m n, lsK (bhv false (intsOf ks)) (ksL (llOf a2)) none =
 none])) := by kernel_rfl
theorem rm_c_nds (inr : Bool) (n m q : Nat) (ds os : List DV) (ks : List Value) (p : Pr) (y : List Int) : prjP [0, 1, 9, 10, 11] 300 (codeZ (rmV noL p y) Try.prog (runZ (rmV noL p y) Try.prog 9) 13 inr 100000 (bodyIn Try.prog 13
 15) (SL 76 [(0, llA n), (1, .bool true), (9, nlV), (10, ltA m), (11, .bool true)]) ([] ++ [(202, ⟨.ow, ks⟩)] ++ [(0, ⟨.sw ds, []⟩)]) 300 [true, false, false, true])
 =
  (let a1 := (cnL (List.take n (List.drop 0 ds))); Res.ok ((Xt.normal, 76, [(0, Value.slice (some (Addr.mk 0 0 none)) n 18446744073709551616), (1, Value.bool true), (9, Value.slice none 0 0), (10, Value.slice (some (Addr.mk 303 0 none)) (List.length y) (capBig + 303)), (11, Value.bool true)], [(303, Rw.mk Kd.ow (byV y)), (301, Rw.mk Kd.ow (byV (Prod.fst (Prod.snd p)))), (300, Rw.mk Kd.ow (byV (Prod.fst p))), (202, Rw.mk Kd.ow ks), (0, Rw.mk (Kd.sw ds) [])], 304, [302], []), [], [(∀ (τ : Sg), renL τ ks = some ks) ∧ (m = 0 → ks = []), FoOk a1 ks m n, fnd (llOf a1) (intsOf ks) = some p, false = false, (!Prod.snd (Prod.snd p)) = false, (∀ (τ : Sg), renL τ ks = some ks) ∧ (m = 0 → ks = []), FoOk a1 ks m n, lsK (bhv false (intsOf ks)) (ksL (llOf a1)) none = some y])) := by kernel_rfl
theorem rm_c_ndn (inr : Bool) (n m q : Nat) (ds os : List DV) (ks : List Value) (p : Pr) (y : List Int) : prjP [0, 1, 9, 10, 11] 300 (codeZ (rmV noL p y) Try.prog (runZ (rmV noL p y) Try.prog 9) 13 inr 100000 (bodyIn Try.prog 13
 15) (SL 76 [(0, llA n), (1, .bool true), (9, nlV), (10, ltA m), (11, .bool true)]) ([] ++ [(202, ⟨.ow, ks⟩)] ++ [(0, ⟨.sw ds, []⟩)]) 300 [true, false, false, false])
 =
  (let a1 := (cnL (List.take n (List.drop 0 ds))); Res.ok ((Xt.normal, 76, [(0, Value.slice (some (Addr.mk 0 0 none)) n 18446744073709551616), (1, Value.bool true), (9, Value.slice none 0 0), (10, Value.slice none 0 0), (11, Value.bool false)], [(301, Rw.mk Kd.ow (byV (Prod.fst (Prod.snd p)))), (300, Rw.mk Kd.ow (byV (Prod.fst p))), (202, Rw.mk Kd.ow ks), (0, Rw.mk (Kd.sw ds) [])], 303, [302], []), [], [(∀ (τ : Sg), renL τ ks = some ks) ∧ (m = 0 → ks = []), FoOk a1 ks m n, fnd (llOf a1) (intsOf ks) = some p, false = false, (!Prod.snd (Prod.snd p)) = false, (∀ (τ : Sg), renL τ ks = some ks) ∧ (m = 0 → ks = []), FoOk a1 ks m n, lsK (bhv false (intsOf ks)) (ksL (llOf a1)) none = none])) := by kernel_rfl
theorem rm_c_nxt (inr : Bool) (n m q : Nat) (ds os : List DV) (ks : List Value) (p : Pr) (y : List Int) : prjP [9] 300 (codeZ (rmV noL p y) Try.prog (runZ (rmV noL p y) Try.prog 9) 13 inr 100000 (bodyIn Try.prog 13 15) (SL 76 [(0, llA n), (1, .bool true), (9, nlV), (10, nlV), (11, .bool false)]) ([] ++ [(0, ⟨.sw ds, []⟩)]) 300 []) =
 Res.ok ((Xt.exit 4, 76, [(9, Value.slice none 0 0)], [(0, Rw.mk (Kd.sw ds) [])], 300, [], []), [], []) := by kernel_rfl
theorem rm_c_nxf (inr : Bool) (n m q : Nat) (ds os : List DV) (ks : List Value) (p : Pr) (y : List Int) : prjP [9] 300 (codeZ (rmV noL p y) Try.prog (runZ (rmV noL p y) Try.prog 9) 13 inr 100000 (bodyIn Try.prog 13 15) (SL 76 [(0, llA n), (1, .bool false), (9, nlV), (10, nlV), (11, .bool false)]) ([] ++ [(0, ⟨.sw ds, []⟩)]) 300 []) =
 Res.ok ((Xt.exit 4, 76, [(9, Value.slice none 0 0)], [(0, Rw.mk (Kd.sw ds) [])], 300, [], []), [], []) := by kernel_rfl
theorem rm_c_ras (inr : Bool) (n m q : Nat) (ds os : List DV) (ks : List Value) (p : Pr) (y : List Int) : prjP [0, 1, 9, 10, 11] 300 (codeZ (rmV noL p y) Try.prog (runZ (rmV noL p y) Try.prog 9) 13 inr 100000 (bodyIn Try.prog 13
 15) (SL 76 [(0, llA n), (1, .bool false), (9, ouA q), (10, ltA m), (11, .bool true)]) ([(200, ⟨.dw 3 zPr os, []⟩)] ++ [(202, ⟨.ow, ks⟩)] ++ [(0, ⟨.sw ds, []⟩)]) 300 [true, true, true])
 =
  (let a3 := (Prod.fst p); let a2 := (cnL (List.take n (List.drop 0 ds))); let a1 := (Prod.fst (Prod.snd p)); Res.ok ((Xt.normal, 76, [(0, Value.slice (some (Addr.mk 0 0 none)) n 18446744073709551616), (1, Value.bool false), (9, Value.slice (some (Addr.mk 305 0 none)) (q + 1) (capBig + 305)), (10, Value.slice (some (Addr.mk 306 0 none)) (List.length y) (capBig + 306)), (11, Value.bool true)], [(306, Rw.mk Kd.ow (byV y)), (305, Rw.mk (Kd.dw 3 [Value.slice none 0 0, Value.slice none 0 0, Value.bool false] (os ++ [DV.sl (List.length a3) none (List.map DV.fl (byV a3)), DV.sl (List.length a1) none (List.map DV.fl (byV a1)), DV.fl (Value.bool (Prod.snd (Prod.snd p)))])) []), (301, Rw.mk Kd.ow (byV a1)), (300, Rw.mk Kd.ow (byV a3)), (202, Rw.mk Kd.ow ks), (0, Rw.mk (Kd.sw ds) [])], 307, [200, 302], []), [], [(∀ (τ : Sg), renL τ ks = some ks) ∧ (m = 0 → ks = []), FoOk a2 ks m n, fnd (llOf a2)
 (intsOf ks) = some p, true = true, capBig + 200 = capBig + 200 ∧ List.length os = q * 3, (q + 1) * 56 ≤ 140737488355328 ∧ q + 1 ≤ 9223372036854775807, (∀ (τ : Sg), renL τ (byV a3) = some (byV a3)) ∧ (List.length a3 = 0 → byV a3 = []), (∀ (τ : Sg), renL τ (byV a1) = some (byV a1)) ∧ (List.length a1 = 0 → byV a1 = []), 3 ≤ 3, true = true, (∀ (τ : Sg), renL τ ks = some ks) ∧ (m = 0 → ks = []), FoOk a2 ks m n, lsK (bhv false (intsOf ks)) (ksL (llOf a2)) none = some
 y])) := by kernel_rfl
theorem rm_c_ran (inr : Bool) (n m q : Nat) (ds os : List DV) (ks : List Value) (p : Pr) (y : List Int) : prjP [0, 1, 9, 10, 11] 300 (codeZ (rmV noL p y) Try.prog (runZ (rmV noL p y) Try.prog 9) 13 inr 100000 (bodyIn Try.prog 13
 15) (SL 76 [(0, llA n), (1, .bool false), (9, ouA q), (10, ltA m), (11, .bool true)]) ([(200, ⟨.dw 3 zPr os, []⟩)] ++ [(202, ⟨.ow, ks⟩)] ++ [(0, ⟨.sw ds, []⟩)]) 300 [true, true, false])
 =
  (let a3 := (Prod.fst p); let a2 := (cnL (List.take n (List.drop 0 ds))); let a1 := (Prod.fst (Prod.snd p)); Res.ok ((Xt.normal, 76, [(0, Value.slice (some (Addr.mk 0 0 none)) n 18446744073709551616), (1, Value.bool false), (9, Value.slice (some (Addr.mk 305 0 none)) (q + 1) (capBig + 305)), (10, Value.slice none 0 0), (11, Value.bool false)], [(305, Rw.mk (Kd.dw 3 [Value.slice none 0 0, Value.slice none 0 0, Value.bool false] (os ++ [DV.sl (List.length a3) none (List.map DV.fl (byV a3)), DV.sl (List.length a1) none (List.map DV.fl (byV a1)), DV.fl (Value.bool (Prod.snd (Prod.snd p)))])) []), (301, Rw.mk Kd.ow (byV a1)), (300, Rw.mk Kd.ow (byV a3)), (202, Rw.mk Kd.ow ks), (0, Rw.mk (Kd.sw ds) [])], 306, [200, 302], []), [], [(∀ (τ : Sg), renL τ ks = some ks) ∧ (m = 0 → ks = []), FoOk a2 ks m n, fnd (llOf a2) (intsOf ks) = some p, true = true, capBig + 200 = capBig + 200 ∧ List.length os =
 q * 3, (q + 1) * 56 ≤ 140737488355328 ∧ q + 1 ≤ 9223372036854775807, (∀ (τ : Sg), renL τ (byV a3) = some (byV a3)) ∧ (List.length a3 = 0 → byV a3 = []), (∀ (τ : Sg), renL τ (byV a1) = some (byV a1)) ∧ (List.length a1 = 0 → byV a1 = []), 3 ≤ 3, true = true, (∀ (τ : Sg), renL τ ks = some ks) ∧ (m = 0 → ks = []), FoOk a2 ks m n, lsK (bhv false (intsOf ks)) (ksL (llOf a2)) none =
 none])) := by kernel_rfl
theorem rm_c_rks (inr : Bool) (n m q : Nat) (ds os : List DV) (ks : List Value) (p : Pr) (y : List Int) : prjP [0, 1, 9, 10, 11] 300 (codeZ (rmV noL p y) Try.prog (runZ (rmV noL p y) Try.prog 9) 13 inr 100000 (bodyIn Try.prog 13
 15) (SL 76 [(0, llA n), (1, .bool true), (9, ouA q), (10, ltA m), (11, .bool true)]) ([(200, ⟨.dw 3 zPr os, []⟩)] ++ [(202, ⟨.ow, ks⟩)] ++ [(0, ⟨.sw ds, []⟩)]) 300 [true, false, true, true])
 =
  (let a3 := (Prod.fst p); let a2 := (cnL (List.take n (List.drop 0 ds))); let a1 := (Prod.fst (Prod.snd p)); Res.ok ((Xt.normal, 76, [(0, Value.slice (some (Addr.mk 0 0 none)) n 18446744073709551616), (1, Value.bool true), (9, Value.slice (some (Addr.mk 305 0 none)) (q + 1) (capBig + 305)), (10, Value.slice (some (Addr.mk 306 0 none)) (List.length y) (capBig + 306)), (11, Value.bool true)], [(306, Rw.mk Kd.ow (byV y)), (305, Rw.mk (Kd.dw 3 [Value.slice none 0 0, Value.slice none 0 0, Value.bool false] (os ++ [DV.sl (List.length a3) none (List.map DV.fl (byV a3)), DV.sl (List.length a1) none (List.map DV.fl (byV a1)), DV.fl (Value.bool (Prod.snd (Prod.snd p)))])) []), (301, Rw.mk Kd.ow (byV a1)), (300, Rw.mk Kd.ow (byV a3)), (202, Rw.mk Kd.ow ks), (0, Rw.mk (Kd.sw ds) [])], 307, [200, 302], []), [], [(∀ (τ : Sg), renL τ ks = some ks) ∧ (m = 0 → ks = []), FoOk a2 ks m n, fnd (llOf a2)
 (intsOf ks) = some p, false = false, (!Prod.snd (Prod.snd p)) = true, capBig + 200 = capBig + 200 ∧ List.length os = q * 3, (q + 1) * 56 ≤ 140737488355328 ∧ q + 1 ≤ 9223372036854775807, (∀ (τ : Sg), renL τ (byV a3) = some (byV a3)) ∧ (List.length a3 = 0 → byV a3 = []), (∀ (τ : Sg), renL τ (byV a1) = some (byV a1)) ∧ (List.length a1 = 0 → byV a1 = []), 3 ≤ 3, true = true, (∀ (τ : Sg), renL τ ks = some ks) ∧ (m = 0 → ks = []), FoOk a2 ks m n, lsK (bhv false (intsOf ks)) (ksL (llOf a2)) none = some
 y])) := by kernel_rfl
theorem rm_c_rkn (inr : Bool) (n m q : Nat) (ds os : List DV) (ks : List Value) (p : Pr) (y : List Int) : prjP [0, 1, 9, 10, 11] 300 (codeZ (rmV noL p y) Try.prog (runZ (rmV noL p y) Try.prog 9) 13 inr 100000 (bodyIn Try.prog 13
 15) (SL 76 [(0, llA n), (1, .bool true), (9, ouA q), (10, ltA m), (11, .bool true)]) ([(200, ⟨.dw 3 zPr os, []⟩)] ++ [(202, ⟨.ow, ks⟩)] ++ [(0, ⟨.sw ds, []⟩)]) 300 [true, false, true, false])
 =
  (let a3 := (Prod.fst p); let a2 := (cnL (List.take n (List.drop 0 ds))); let a1 := (Prod.fst (Prod.snd p)); Res.ok ((Xt.normal, 76, [(0, Value.slice (some (Addr.mk 0 0 none)) n 18446744073709551616), (1, Value.bool true), (9, Value.slice (some (Addr.mk 305 0 none)) (q + 1) (capBig + 305)), (10, Value.slice none 0 0), (11, Value.bool false)], [(305, Rw.mk (Kd.dw 3 [Value.slice none 0 0, Value.slice none 0 0, Value.bool false] (os ++ [DV.sl (List.length a3) none (List.map DV.fl (byV a3)), DV.sl (List.length a1) none (List.map DV.fl (byV a1)), DV.fl (Value.bool (Prod.snd (Prod.snd p)))])) []), (301, Rw.mk Kd.ow (byV a1)), (300, Rw.mk Kd.ow (byV a3)), (202, Rw.mk Kd.ow ks), (0, Rw.mk (Kd.sw ds) [])], 306, [200, 302], []), [], [(∀ (τ : Sg), renL τ ks = some ks) ∧ (m = 0 → ks = []), FoOk a2 ks m n, fnd (llOf a2) (intsOf ks) = some p, false = false, (!Prod.snd (Prod.snd p)) = true, capBig + 200
 = capBig + 200 ∧ List.length os = q * 3, (q + 1) * 56 ≤ 140737488355328 ∧ q + 1 ≤ 9223372036854775807, (∀ (τ : Sg), renL τ (byV a3) = some (byV a3)) ∧ (List.length a3 = 0 → byV a3 = []), (∀ (τ : Sg), renL τ (byV a1) = some (byV a1)) ∧ (List.length a1 = 0 → byV a1 = []), 3 ≤ 3, true = true, (∀ (τ : Sg), renL τ ks = some ks) ∧ (m = 0 → ks = []), FoOk a2 ks m n, lsK (bhv false (intsOf ks)) (ksL (llOf a2)) none =
 none])) := by kernel_rfl
theorem rm_c_rds (inr : Bool) (n m q : Nat) (ds os : List DV) (ks : List Value) (p : Pr) (y : List Int) : prjP [0, 1, 9, 10, 11] 300 (codeZ (rmV noL p y) Try.prog (runZ (rmV noL p y) Try.prog 9) 13 inr 100000 (bodyIn Try.prog 13
 15) (SL 76 [(0, llA n), (1, .bool true), (9, ouA q), (10, ltA m), (11, .bool true)]) ([(200, ⟨.dw 3 zPr os, []⟩)] ++ [(202, ⟨.ow, ks⟩)] ++ [(0, ⟨.sw ds, []⟩)]) 300 [true, false, false, true])
 =
  (let a1 := (cnL (List.take n (List.drop 0 ds))); Res.ok ((Xt.normal, 76, [(0, Value.slice (some (Addr.mk 0 0 none)) n 18446744073709551616), (1, Value.bool true), (9, Value.slice (some (Addr.mk 200 0 none)) q (capBig + 200)), (10, Value.slice (some (Addr.mk 303 0 none)) (List.length y) (capBig + 303)), (11, Value.bool true)], [(303, Rw.mk Kd.ow (byV y)), (301, Rw.mk Kd.ow (byV (Prod.fst (Prod.snd p)))), (300, Rw.mk Kd.ow (byV (Prod.fst p))), (200, Rw.mk (Kd.dw 3 [Value.slice none 0 0, Value.slice none 0 0, Value.bool false] os) []), (202, Rw.mk Kd.ow ks), (0, Rw.mk (Kd.sw ds) [])], 304, [302], []), [], [(∀ (τ : Sg), renL τ ks = some ks) ∧ (m = 0 → ks = []), FoOk a1 ks m n, fnd (llOf a1) (intsOf ks) = some p, false = false, (!Prod.snd (Prod.snd p)) = false, (∀ (τ : Sg), renL τ ks = some ks) ∧ (m = 0 → ks = []), FoOk a1 ks m n, lsK (bhv false (intsOf ks)) (ksL (llOf a1)) none = some y])) := by kernel_rfl
theorem rm_c_rdn (inr : Bool) (n m q : Nat) (ds os : List DV) (ks : List Value) (p : Pr) (y : List Int) : prjP [0, 1, 9, 10, 11] 300 (codeZ (rmV noL p y) Try.prog (runZ (rmV noL p y) Try.prog 9) 13 inr 100000 (bodyIn Try.prog 13
 15) (SL 76 [(0, llA n), (1, .bool true), (9, ouA q), (10, ltA m), (11, .bool true)]) ([(200, ⟨.dw 3 zPr os, []⟩)] ++ [(202, ⟨.ow, ks⟩)] ++ [(0, ⟨.sw ds, []⟩)]) 300 [true, false, false, false])
 =
  (let a1 := (cnL (List.take n (List.drop 0 ds))); Res.ok ((Xt.normal, 76, [(0, Value.slice (some (Addr.mk 0 0 none)) n 18446744073709551616), (1, Value.bool true), (9, Value.slice (some (Addr.mk 200 0 none)) q (capBig + 200)), (10, Value.slice none 0 0), (11, Value.bool false)], [(301, Rw.mk Kd.ow (byV (Prod.fst (Prod.snd p)))), (300, Rw.mk Kd.ow (byV (Prod.fst p))), (200, Rw.mk (Kd.dw 3 [Value.slice none 0 0, Value.slice none 0 0, Value.bool false] os) []), (202, Rw.mk Kd.ow ks), (0, Rw.mk (Kd.sw ds) [])], 303, [302], []), [], [(∀ (τ : Sg), renL τ ks = some ks) ∧ (m = 0 → ks = []), FoOk a1 ks m n, fnd (llOf a1) (intsOf ks) = some p, false = false, (!Prod.snd (Prod.snd p)) = false, (∀ (τ : Sg), renL τ ks = some ks) ∧ (m = 0 → ks = []), FoOk a1 ks m n, lsK (bhv false (intsOf ks)) (ksL (llOf a1)) none = none])) := by kernel_rfl
theorem rm_c_rxt (inr : Bool) (n m q : Nat) (ds os : List DV) (ks : List Value) (p : Pr) (y : List Int) : prjP [9] 300 (codeZ (rmV noL p y) Try.prog (runZ (rmV noL p y) Try.prog 9) 13 inr 100000 (bodyIn Try.prog 13 15) (SL 76 [(0, llA n), (1, .bool true), (9, ouA q), (10, nlV), (11, .bool false)]) ([(200, ⟨.dw 3 zPr os, []⟩)] ++ [(0, ⟨.sw ds, []⟩)]) 300 []) =
 Res.ok ((Xt.exit 4, 76, [(9, Value.slice (some (Addr.mk 200 0 none)) q (capBig + 200))], [(200, Rw.mk (Kd.dw 3 [Value.slice none 0 0, Value.slice none 0 0, Value.bool false] os) []), (0, Rw.mk (Kd.sw ds) [])], 300, [], []), [], []) := by kernel_rfl
theorem rm_c_rxf (inr : Bool) (n m q : Nat) (ds os : List DV) (ks : List Value) (p : Pr) (y : List Int) : prjP [9] 300 (codeZ (rmV noL p y) Try.prog (runZ (rmV noL p y) Try.prog 9) 13 inr 100000 (bodyIn Try.prog 13 15) (SL 76 [(0, llA n), (1, .bool false), (9, ouA q), (10, nlV), (11, .bool false)]) ([(200, ⟨.dw 3 zPr os, []⟩)] ++ [(0, ⟨.sw ds, []⟩)]) 300 []) =
 Res.ok ((Xt.exit 4, 76, [(9, Value.slice (some (Addr.mk 200 0 none)) q (capBig + 200))], [(200, Rw.mk (Kd.dw 3 [Value.slice none 0 0, Value.slice none 0 0, Value.bool false] os) []), (0, Rw.mk (Kd.sw ds) [])], 300, [], []), [], []) := by kernel_rfl
def cqTab : FuncId → List Nat := fun f => bif Nat.beq f 23 then [8] else bif Nat.beq f 11 then [8] else []
def cqSy : FuncId → Nat → Option Nat := orSy (lsSy 23 [(8, 0), (14, 0), (16, 36), (20, 0), (22, 36), (26, 0), (28, 36), (31, 57), (10, 0)]) (orSy (lsSy 39 [(5, 56)]) (lsSy 11 [(8, 0), (14, 0), (15, 37), (18, 58), (10, 0)]))
def cqV (L : LFun) (T : TFun) : Tv := ⟨T, noXz, L, cqTab, cqSy, fun _ => [], fun _ => 0⟩
def cqB (out : List DV) : Hp := [(200, ⟨.dx 1 3 zPr out, []⟩)]
theorem cq_n_go (inr : Bool) (n q i : Nat) (ds os : List DV) : prjP [0, 3, 4] 300 (codeZ (cqV noL noTz) Try.prog (runZ (cqV noL noTz) Try.prog 9) 23 inr 100000 (bodyIn Try.prog 23 3) (SL 33 [(0, llA n), (3, nlV), (4, iV i)]) ([]
 ++ [(0, ⟨.sw ds, []⟩)]) 300 [true])
 =
  (let a5 := (↑i : Int); let a4 := (i * 3 + 0 + 0); let a7 := (dVals ds a4); let a3 := (i * 3 + 1 + 0); let a6 := (dVals ds a3); let a2 := (List.take (dLen ds a3) a6); let a1 := (List.take (dLen ds a4) a7); Res.ok ((Xt.normal, 33, [(0, Value.slice (some (Addr.mk 0 0 none)) n 18446744073709551616), (3, Value.slice (some (Addr.mk 310 0 none)) 1 (capBig + 310)), (4, Value.int IntKind.i64 (↑(i + 1) : Int))], [(0, Rw.mk (Kd.sw ds) []), (300, Rw.mk Kd.ow a7), (304, Rw.mk Kd.ow a6), (310, Rw.mk (Kd.dx 1 3 [Value.slice none 0 0, Value.slice none 0 0, Value.bool false] [DV.sl (dLen ds a4) none (List.map DV.fl a1), DV.sl (dLen ds a3) none (List.map DV.fl a2), DV.fl (Value.bool (dBool ds (i * 3 + 2 + 0)))]) [])], 311, [], []), [], [decide (a5 < (↑n : Int)) = true, (0 : Int) ≤ a5 ∧ a5 < (↑n : Int), ShOb Try.prog 23 false true ds (i * 3 + 0) 300, dLen ds a4 * 1 ≤ 140737488355328 ∧ dLen ds a4 ≤
 9223372036854775807, List.length a1 = dLen ds a4 * 1, ∀ (τ : Sg), renL τ a1 = some a1, U8s a1, dLen ds a4 ≤ List.length a7, all1 a1 = true, (0 : Int) ≤ a5 ∧ a5 < (↑n : Int), ShOb Try.prog 23 false true ds (i * 3 + 1) 304, dLen ds a3 * 1 ≤ 140737488355328 ∧ dLen ds a3 ≤ 9223372036854775807, List.length a2 = dLen ds a3 * 1, ∀ (τ : Sg), renL τ a2 = some a2, U8s a2, dLen ds a3 ≤ List.length a6, all1 a2 = true, (0 : Int) ≤ a5 ∧ a5 < (↑n : Int), ShOb Try.prog 4 false true ds (i * 3 + 2) 308, 56 ≤ 140737488355328, (∀ (τ : Sg), renL τ a1 = some a1) ∧ (dLen ds (ixO 0 (Int.toNat a5) 3 + 0 + 0) = 0 → List.take (dLen ds a4) a7 = []), (∀ (τ : Sg), renL τ a2 = some a2) ∧ (dLen ds (ixO 0 (Int.toNat a5) 3 + 1 + 0) = 0 → List.take (dLen ds a3) a6 = []), 3 ≤ 3, true = true, rg IntKind.i64 (↑(i + 1) :
 Int)])) := by kernel_rfl
theorem cq_r_go (inr : Bool) (n q i : Nat) (ds os : List DV) : prjP [0, 3, 4] 300 (codeZ (cqV noL noTz) Try.prog (runZ (cqV noL noTz) Try.prog 9) 23 inr 100000 (bodyIn Try.prog 23 3) (SL 33 [(0, llA n), (3, ouA q), (4, iV i)])
 (cqB os ++ [(0, ⟨.sw ds, []⟩)]) 300 [true])
 =
  (let a5 := (↑i : Int); let a4 := (i * 3 + 0 + 0); let a7 := (dVals ds a4); let a3 := (i * 3 + 1 + 0); let a6 := (dVals ds a3); let a2 := (List.take (dLen ds a3) a6); let a1 := (List.take (dLen ds a4) a7); Res.ok ((Xt.normal, 33, [(0, Value.slice (some (Addr.mk 0 0 none)) n 18446744073709551616), (3, Value.slice (some (Addr.mk 310 0 none)) (q + 1) (capBig + 310)), (4, Value.int IntKind.i64 (↑(i + 1) : Int))], [(0, Rw.mk (Kd.sw ds) []), (300, Rw.mk Kd.ow a7), (304, Rw.mk Kd.ow a6), (310, Rw.mk (Kd.dx 1 3 [Value.slice none 0 0, Value.slice none 0 0, Value.bool false] (os ++ [DV.sl (dLen ds a4) none (List.map DV.fl a1), DV.sl (dLen ds a3) none (List.map DV.fl a2), DV.fl (Value.bool (dBool ds (i * 3 + 2 + 0)))])) [])], 311, [200], []), [], [decide (a5 < (↑n : Int)) = true, (0 : Int) ≤ a5 ∧ a5 < (↑n : Int), ShOb Try.prog 23 false true ds (i * 3 + 0) 300, dLen ds a4 * 1 ≤ 140737488355328 ∧ dLen
 ds a4 ≤ 9223372036854775807, List.length a1 = dLen ds a4 * 1, ∀ (τ : Sg), renL τ a1 = some a1, U8s a1, dLen ds a4 ≤ List.length a7, all1 a1 = true, (0 : Int) ≤ a5 ∧ a5 < (↑n : Int), ShOb Try.prog 23 false true ds (i * 3 + 1) 304, dLen ds a3 * 1 ≤ 140737488355328 ∧ dLen ds a3 ≤ 9223372036854775807, List.length a2 = dLen ds a3 * 1, ∀ (τ : Sg), renL τ a2 = some a2, U8s a2, dLen ds a3 ≤ List.length a6, all1 a2 = true, (0 : Int) ≤ a5 ∧ a5 < (↑n : Int), ShOb Try.prog 4 false true ds (i * 3 + 2) 308, capBig + 200 = capBig + 200 ∧ List.length os = q * 3, (q + 1) * 56 ≤ 140737488355328 ∧ q + 1 ≤ 9223372036854775807, (∀ (τ : Sg), renL τ a1 = some a1) ∧ (dLen ds (ixO 0 (Int.toNat a5) 3 + 0 + 0) = 0 → List.take (dLen ds a4) a7 = []), (∀ (τ : Sg), renL τ a2 = some a2) ∧ (dLen ds (ixO 0 (Int.toNat a5) 3 + 1 + 0) = 0 → List.take (dLen ds a3) a6 = []), 3 ≤ 3, true = true, rg IntKind.i64 (↑(i + 1) :
 Int)])) := by kernel_rfl
theorem cq_n_x (inr : Bool) (n q i : Nat) (ds os : List DV) : prjP [3] 300 (codeZ (cqV noL noTz) Try.prog (runZ (cqV noL noTz) Try.prog 9) 23 inr 100000 (bodyIn Try.prog 23 3) (SL 33 [(0, llA n), (3, nlV), (4, iV i)]) ([] ++ [(0, ⟨.sw ds, []⟩)]) 300 [false]) =
 Res.ok ((Xt.exit 0, 33, [(3, Value.slice none 0 0)], [(0, Rw.mk (Kd.sw ds) [])], 300, [], []), [], [decide ((↑i : Int) < (↑n : Int)) = false]) := by kernel_rfl
theorem cq_r_x (inr : Bool) (n q i : Nat) (ds os : List DV) : prjP [3] 300 (codeZ (cqV noL noTz) Try.prog (runZ (cqV noL noTz) Try.prog 9) 23 inr 100000 (bodyIn Try.prog 23 3) (SL 33 [(0, llA n), (3, ouA q), (4, iV i)]) (cqB os ++ [(0, ⟨.sw ds, []⟩)]) 300 [false]) =
 Res.ok ((Xt.exit 0, 33, [(3, Value.slice (some (Addr.mk 200 0 none)) q (capBig + 200))], [(200, Rw.mk (Kd.dx 1 3 [Value.slice none 0 0, Value.slice none 0 0, Value.bool false] os) []), (0, Rw.mk (Kd.sw ds) [])], 300, [], []), [], [decide ((↑i : Int) < (↑n : Int)) = false]) := by kernel_rfl
theorem cqX {L : LFun} {T : TFun} : XOkZ (cqV L T) Try.prog := noXz_ok rfl
theorem cqT0 {L : LFun} : TOkZ (cqV L noTz) Try.prog := noTz_okV rfl
theorem cqL0 {T : TFun} : LOkZ (cqV noL T) Try.prog := noL_okV rfl
theorem ixO0 (j s : Nat) : ixO 0 j s = j * s := by rw [ixO_eq, Nat.zero_add]
theorem cq_loop {inr : Bool} {h0 : Hp} {l : List Pr} (hL : FdL l) : ∀ (r i : Nat), i + r = l.length →
  LRuns inr Try.prog (bodyIn Try.prog 23 3) 2 400 h0 33 [(0, llA l.length), (3, ouV (l.take i)), (4, iV i)] (moR (l.take i) [(0, ⟨.sw (cpD l), []⟩)]) 300 (.exit 0, [(3, ouV l)], moR l [(0, ⟨.sw (cpD l), []⟩)])
 | 0, i, hr => by
   rw [List.take_of_length_le (by omega)]
   cases hE : l with
   | nil =>
    refine LRuns.exit (code_runsP cqX cqL0 (runZ_ok cqX cqT0 cqL0 mixed 9) mixed (cq_n_x inr 0 0 i (cpD []) []) ?_) (by intro e; cases e) rfl (by omega) (by omega) (fun n => n) ?_ ?_ rfl
    ·simp only [Alls, decide_eq_false_iff_not]
     exact ⟨by omega, trivial⟩
    ·exact ⟨rfl, rfl, trivial⟩
    ·exact ⟨sw_row (m := 0) rfl rfl, trivial⟩
   | cons x t =>
    have hl : (x :: t).length ≤ i := by rw [← hE]; omega
    refine LRuns.exit (code_runsP cqX cqL0 (runZ_ok cqX cqT0 cqL0 mixed 9) mixed (cq_r_x inr (x :: t).length (x :: t).length i (cpD (x :: t)) (cpD (x :: t))) ?_) (by intro e; cases e) rfl (by omega) (by omega) (fun n => n) ?_ ?_ rfl
    ·simp only [Alls, decide_eq_false_iff_not]
     exact ⟨by omega, trivial⟩
    ·exact ⟨rfl, rb_slg rfl rfl, trivial⟩
    ·exact ⟨df_row (m := 200) rfl rfl, sw_row (m := 0) rfl rfl, trivial⟩
 | r + 1, i, hr => by
   have hj : i < l.length := by omega
   obtain ⟨p, hp⟩ : ∃ p, l[i] = p := ⟨_, rfl⟩
   have hx : l[i]? = some p := by rw [← hp]; exact List.getElem?_eq_getElem hj
   have F := (cpD_prs l).facts hx
   have hm : p ∈ l := List.mem_of_getElem? hx
   have f0 := F.l0
   have f1 := F.l1
   have v0 := F.v0
   have v1 := F.v1
   have fg := F.g
   have bp := (hL.O p hm).1
   have bv := (hL.O p hm).2
   have z0 := (hL.z p hm).k
   have z1 := (hL.z p hm).v
   have l9 := hL.l9
   have hti := takeI_snoc hx
   have htl : (l.take i).length = i := by rw [List.length_take]; omega
   have hcd := cpD_len (l.take i)
   have nx := cq_loop (inr := inr) (h0 := h0) hL r (i + 1) (by omega)
   rw [ouV_ne (out := l.take (i + 1)) (by rw [hti]; simp), moR_ne (out := l.take (i + 1)) (by rw [hti]; simp)] at nx
   cases hE : l.take i with
   | nil =>
    rw [hE, List.nil_append] at hti
    rw [hti] at nx
    refine LRuns.step (code_runsP cqX cqL0 (runZ_ok cqX cqT0 cqL0 mixed 9) mixed (cq_n_go inr l.length 0 i (cpD l) []) ?_) rfl (by omega) (by omega) (fun n => bif Nat.beq n 200 then 310 else n) ?_ ?_ rfl nx
    ·
     simp only [Alls, rg, decide_eq_true_eq, decide_eq_false_iff_not, Nat.add_zero, Nat.zero_add, Nat.mul_one, ixO0, Int.toNat_natCast, f0, f1, v0, v1, tk_by, byV_len, hcd]
     repeat' (with_reducible apply And.intro)
     all_goals first | omega | (with_reducible assumption) | exact F.o27 _ | exact F.o27' _ | exact F.o4 _ | (with_reducible exact trivial) | (with_reducible rfl) | exact u8_by bp | exact u8_by bv | exact a1_by _ | exact byV_ren _ | exact fun e => nil_by e | skip
    ·exact ⟨rfl, rb_slg rfl rfl, rfl, rb_slg rfl rfl, rfl, rfl, trivial⟩
    ·refine ⟨df_row (m := 310) rfl (df_eq ?_), sw_row (m := 0) rfl rfl, trivial⟩
     simp only [Nat.add_zero, f0, f1, v0, v1, fg, tk_by, byV_fl, cpD_cons, prD]
     rfl
   | cons y t =>
    rw [hE] at hti hcd htl
    rw [hti] at nx
    rw [ouV_ne (by simp), moR_ne (by simp)]
    refine LRuns.step (code_runsP cqX cqL0 (runZ_ok cqX cqT0 cqL0 mixed 9) mixed (cq_r_go inr l.length (y :: t).length i (cpD l) (cpD (y :: t))) ?_) rfl (by omega) (by omega) (fun n => bif Nat.beq n 200 then 310 else n) ?_ ?_ rfl nx
    ·
     simp only [Alls, rg, decide_eq_true_eq, decide_eq_false_iff_not, Nat.add_zero, Nat.zero_add, Nat.mul_one, ixO0, Int.toNat_natCast, f0, f1, v0, v1, tk_by, byV_len, hcd]
     repeat' (with_reducible apply And.intro)
     all_goals first | omega | (with_reducible assumption) | exact F.o27 _ | exact F.o27' _ | exact F.o4 _ | (with_reducible exact trivial) | (with_reducible rfl) | exact u8_by bp | exact u8_by bv | exact a1_by _ | exact byV_ren _ | exact fun e => nil_by e | skip
    ·refine ⟨rfl, rb_slg rfl rfl, rfl, ?_, rfl, rfl, trivial⟩
     rw [List.length_append]
     exact rb_slg rfl rfl
    ·refine ⟨df_row (m := 310) rfl (df_eq ?_), sw_row (m := 0) rfl rfl, trivial⟩
     simp only [Nat.add_zero, f0, f1, v0, v1, fg, tk_by, byV_fl, cpD_snoc, prD]
structure CqOk (ds : List DV) (n : Nat) : Prop where
 e : ds = cpD (prsOf ds)
 L : FdL (prsOf ds)
 l : (prsOf ds).length = n
def cqPk (live : List (Nat × Value)) (h : Hp) : Option (Nat × List DV) := match live, lk h 0 with
 | (_, .slice _ n _) :: _, some ⟨.sw ds, _⟩ => some (n, ds)
 | _, _ => none
def cqSp : LSpec := lspec cqPk (fun a => ([(0, llA a.1), (3, nlV), (4, iV 0)], [(0, ⟨.sw a.2, []⟩)], 2)) (fun a tp => match tp with
 | false :: tp' => some ((.exit 0, [(3, nlV)], [(0, ⟨.sw a.2, []⟩)], 400, []), tp', [CqOk a.2 a.1, prsOf a.2 = []])
 | true :: tp' => some ((.exit 0, [(3, ouA (prsOf a.2).length)], [(200, ⟨.dx 1 3 zPr (cpD (prsOf a.2)), []⟩), (0, ⟨.sw a.2, []⟩)], 400, []), tp', [CqOk a.2 a.1, prsOf a.2 ≠ []])
 | [] => none)
theorem cqSp_ok : LSOk Try.prog 33 [0, 3, 4] (bodyIn Try.prog 23 3) cqSp := by
 refine lspec_ok fun a tp xt l2 h2 nx2 d tp' ob hs ho inr ts hn hg => ?_
 obtain ⟨n, ds⟩ := a
 simp only at hs hg
 have fin : CqOk ds n → ∀ key, key = (Xt.exit 0, [(3, ouV (prsOf ds))], moR (prsOf ds) [(0, ⟨.sw ds, []⟩)]) → Tidy [(0, ⟨.sw ds, []⟩)] 2 key.2.2 400 [] → Runs inr (fun F m Q => Code.againIn F m Try.prog (bodyIn Try.prog 23 3) Q) ts [(0, ⟨.sw ds, []⟩)] 2 (key.1, SL 33 key.2.1, key.2.2, 400, [], []) := fun h key hk hT => by
  have q := cq_loop (inr := inr) (h0 := [(0, ⟨.sw ds, []⟩)]) h.L (prsOf ds).length 0 (by omega)
  rw [List.take_zero, ← h.e, ← hk, h.l] at q
  refine LRuns.enter (N := 300) (l2 := [(0, llA n), (3, nlV), (4, iV 0)]) (h2 := [(0, ⟨.sw ds, []⟩)]) hn hg (by omega) (by omega) (fun n => n) ?_ ?_ rfl q hT
  ·exact ⟨rfl, rb_slg rfl rfl, rfl, rfl, rfl, rfl, trivial⟩
  ·exact ⟨sw_row (m := 0) rfl rfl, trivial⟩
 split at hs
 ·simp only [oI, pI] at hs
  obtain ⟨⟨rfl, rfl, rfl, rfl, rfl⟩, rfl, rfl⟩ := hs
  obtain ⟨h, h1, _⟩ := ho
  exact fin h (.exit 0, [(3, nlV)], [(0, ⟨.sw ds, []⟩)]) (by rw [h1]; rfl) (tidy_of (by omega) (fun j hj hd => rfl) rfl)
 ·simp only [oI, pI] at hs
  obtain ⟨⟨rfl, rfl, rfl, rfl, rfl⟩, rfl, rfl⟩ := hs
  obtain ⟨h, h1, _⟩ := ho
  refine fin h (.exit 0, [(3, ouA (prsOf ds).length)], [(200, ⟨.dx 1 3 zPr (cpD (prsOf ds)), []⟩), (0, ⟨.sw ds, []⟩)]) (by rw [ouV_ne h1, moR_ne h1]) (tidy_of (by omega) (fun j hj hd => ?_) rfl)
  rw [lk_cons, if_neg (by omega)]
 ·cases hs
def cqLo (P : Program) : LFun := mkL 23 3 33 [0, 3, 4] (bodyIn P 23 3) cqSp
theorem cqLo_one : LOne Try.prog (cqLo Try.prog) := mkL_ok cqSp_ok
theorem cq_nil (n : Nat) (ds : List DV) : prjV (runZ (cqV (cqLo Try.prog) noTz) Try.prog 9 23 [llA n] [(0, ⟨.sw ds, []⟩)] 2 [false]) =
 (let a2 := (4, Value.int IntKind.i64 (0 : Int)); let a1 := (0, Value.slice (some (Addr.mk 0 0 none)) n 18446744073709551616); Res.ok (Value.slice none 0 0, [], [bodyIn Try.prog (23 : FuncId) 3 = bodyIn Try.prog (23 : FuncId) 3, [a1, (3, Value.slice none 0 0), a2] = [a1, (3, Value.slice none 0 0), a2], [(0, Rw.mk (Kd.sw ds) [])] = [(0, Rw.mk (Kd.sw ds) [])], 2 = 2, CqOk ds n, prsOf ds = []])) := by kernel_rfl
theorem cq_row (n : Nat) (ds : List DV) : runZ (cqV (cqLo Try.prog) noTz) Try.prog 9 23 [llA n] [(0, ⟨.sw ds, []⟩)] 2 [true] =
 (let a3 := (4, Value.int IntKind.i64 (0 : Int)); let a2 := (0, Rw.mk (Kd.sw ds) []); let a1 := (0, Value.slice (some (Addr.mk 0 0 none)) n 18446744073709551616); Res.ok ((Value.slice (some (Addr.mk 200 0 none)) (List.length (prsOf ds)) (capBig + 200), [(200, Rw.mk (Kd.dx 1 3 [Value.slice none 0 0, Value.slice none 0 0, Value.bool false] (cpD (prsOf ds))) []), a2], 400, []), [], [bodyIn Try.prog (23 : FuncId) 3 = bodyIn Try.prog (23 : FuncId) 3, [a1, (3, Value.slice none 0 0), a3] = [a1, (3, Value.slice none 0 0), a3], [a2] = [a2], 2 = 2, CqOk ds n, prsOf ds ≠ []])) := by kernel_rfl
def gCq : GSpecD := fun aL tp => match aL, tp with
 | [.dl ds n], false :: tp' => some (⟨fun _ => nlV, []⟩, tp', [CqOk ds n, prsOf ds = []])
 | [.dl ds n], true :: tp' => some (⟨fun nx => .slice (some ⟨nx, 0, none⟩) (prsOf ds).length (capBig + nx), [⟨.dx 1 3 zPr (cpD (prsOf ds)), []⟩]⟩, tp', [CqOk ds n, prsOf ds ≠ []])
 | _, _ => none
theorem cq_gok : GOkD Try.prog 23 gCq := by
 intro aL tp gr tp' ob hG ho cs hc
 unfold gCq at hG
 split at hG
 ·rename_i ds n tp2
  simp only [oI, pI] at hG
  obtain ⟨rfl, rfl, rfl⟩ := hG
  obtain ⟨h, h1, _⟩ := ho
  obtain ⟨h', nx', d, T⟩ := run_val cqX cqT0 (L_okV rfl cqLo_one) (cq_nil n ds) ⟨rfl, rfl, rfl, rfl, h, h1, trivial⟩ rfl
  exact ⟨_, h', nx', d, fun n => n, T, GrD.flat fun σ => rfl⟩
 ·rename_i ds n tp2
  simp only [oI, pI] at hG
  obtain ⟨rfl, rfl, rfl⟩ := hG
  obtain ⟨h, h1, _⟩ := ho
  have T := run_tri cqX cqT0 (L_okV rfl cqLo_one) (cq_row n ds) ⟨rfl, rfl, rfl, rfl, h, h1, trivial⟩ rfl
  refine ⟨_, _, _, _, fun _ => 200, T, ⟨fun nx => ?_, fun j r hj => ?_, fun i j hi hj _ => by simp at hi hj; omega⟩⟩
  ·exact f2s_slice0 (g := fun _ => 200) (by simp) _
  ·match j, hj with
   | 0, hj => cases hj; exact ⟨fun τ => rfl, rfl, rfl⟩
 ·cases hG
def cqT : TFun := mkD 23 [.c 3] gCq
theorem cqTt {L : LFun} : TOkZ (cqV L cqT) Try.prog := T_okV rfl (mkD_ok cq_gok)
def zLs : List Value := [.slice none 0 0]
def clB (out : List DV) : Hp := [(200, ⟨.dx 2 1 zLs out, []⟩)]
theorem cl_n_n (inr : Bool) (n q i : Nat) (ds os : List DV) : prjP [0, 3, 4] 300 (codeZ (cqV noL cqT) Try.prog (runZ (cqV noL cqT) Try.prog 9) 11 inr 100000 (bodyIn Try.prog 11 3) (SL 20 [(0, llA n), (3, nlV), (4, iV i)]) ([] ++
 [(0, ⟨.sw ds, []⟩)]) 300 [true, false])
 =
  (let a1 := (cnL (List.take (dLen ds (i + 0) * 3) (dSub ds (i + 0)))); Res.ok ((Xt.normal, 20, [(0, Value.slice (some (Addr.mk 0 0 none)) n 18446744073709551616), (3, Value.slice (some (Addr.mk 303 0 none)) 1 (capBig + 303)), (4, Value.int IntKind.i64 (↑(i + 1) : Int))], [(303, Rw.mk (Kd.dx 2 1 [Value.slice none 0 0] [DV.sl 0 none []]) []), (300, Rw.mk (Kd.sw (dSub ds (i + 0))) []), (0, Rw.mk (Kd.sw ds) [])], 304, [], []), [], [decide ((↑i : Int) < (↑n : Int)) = true, (0 : Int) ≤ (↑i : Int) ∧ (↑i : Int) < (↑n : Int), ShOb Try.prog 27 true true ds i 300, CqOk a1 (dLen ds (i + 0)), prsOf a1 = [], 24 ≤ 140737488355328, 1 ≤ 1, true = true, rg IntKind.i64 (↑(i + 1) : Int)])) := by kernel_rfl
theorem cl_n_r (inr : Bool) (n q i : Nat) (ds os : List DV) : prjP [0, 3, 4] 300 (codeZ (cqV noL cqT) Try.prog (runZ (cqV noL cqT) Try.prog 9) 11 inr 100000 (bodyIn Try.prog 11 3) (SL 20 [(0, llA n), (3, nlV), (4, iV i)]) ([] ++
 [(0, ⟨.sw ds, []⟩)]) 300 [true, true])
 =
  (let a1 := (cnL (List.take (dLen ds (i + 0) * 3) (dSub ds (i + 0)))); Res.ok ((Xt.normal, 20, [(0, Value.slice (some (Addr.mk 0 0 none)) n 18446744073709551616), (3, Value.slice (some (Addr.mk 304 0 none)) 1 (capBig + 304)), (4, Value.int IntKind.i64 (↑(i + 1) : Int))], [(304, Rw.mk (Kd.dx 2 1 [Value.slice none 0 0] [DV.sl (List.length (prsOf a1)) none (cpD (prsOf a1))]) []), (300, Rw.mk (Kd.sw (dSub ds (i + 0))) []), (0, Rw.mk (Kd.sw ds) [])], 305, [301], []), [], [decide ((↑i : Int) < (↑n : Int)) = true, (0 : Int) ≤ (↑i : Int) ∧ (↑i : Int) < (↑n : Int), ShOb Try.prog 27 true true ds i 300, CqOk a1 (dLen ds (i + 0)), prsOf a1 ≠ [], 24 ≤ 140737488355328, 1 ≤ 1, true = true, rg IntKind.i64 (↑(i + 1) : Int)])) := by kernel_rfl
theorem cl_r_n (inr : Bool) (n q i : Nat) (ds os : List DV) : prjP [0, 3, 4] 300 (codeZ (cqV noL cqT) Try.prog (runZ (cqV noL cqT) Try.prog 9) 11 inr 100000 (bodyIn Try.prog 11 3) (SL 20 [(0, llA n), (3, ouA q), (4, iV i)]) (clB
 os ++ [(0, ⟨.sw ds, []⟩)]) 300 [true, false])
 =
  (let a1 := (cnL (List.take (dLen ds (i + 0) * 3) (dSub ds (i + 0)))); Res.ok ((Xt.normal, 20, [(0, Value.slice (some (Addr.mk 0 0 none)) n 18446744073709551616), (3, Value.slice (some (Addr.mk 303 0 none)) (q + 1) (capBig + 303)), (4, Value.int IntKind.i64 (↑(i + 1) : Int))], [(303, Rw.mk (Kd.dx 2 1 [Value.slice none 0 0] (os ++ [DV.sl 0 none []])) []), (300, Rw.mk (Kd.sw (dSub ds (i + 0))) []), (0, Rw.mk (Kd.sw ds) [])], 304, [200], []), [], [decide ((↑i : Int) < (↑n : Int)) = true, (0 : Int) ≤ (↑i : Int) ∧ (↑i : Int) < (↑n : Int), ShOb Try.prog 27 true true ds i 300, CqOk a1 (dLen ds (i + 0)), prsOf a1 = [], capBig + 200 = capBig + 200 ∧ List.length os = q * 1, (q + 1) * 24 ≤ 140737488355328 ∧ q + 1 ≤ 9223372036854775807, 1 ≤ 1, true = true, rg IntKind.i64 (↑(i + 1) : Int)])) := by kernel_rfl
theorem cl_r_r (inr : Bool) (n q i : Nat) (ds os : List DV) : prjP [0, 3, 4] 300 (codeZ (cqV noL cqT) Try.prog (runZ (cqV noL cqT) Try.prog 9) 11 inr 100000 (bodyIn Try.prog 11 3) (SL 20 [(0, llA n), (3, ouA q), (4, iV i)]) (clB
 os ++ [(0, ⟨.sw ds, []⟩)]) 300 [true, true])
 =
  (let a1 := (cnL (List.take (dLen ds (i + 0) * 3) (dSub ds (i + 0)))); Res.ok ((Xt.normal, 20, [(0, Value.slice (some (Addr.mk 0 0 none)) n 18446744073709551616), (3, Value.slice (some (Addr.mk 304 0 none)) (q + 1) (capBig + 304)), (4, Value.int IntKind.i64 (↑(i + 1) : Int))], [(304, Rw.mk (Kd.dx 2 1 [Value.slice none 0 0] (os ++ [DV.sl (List.length (prsOf a1)) none (cpD (prsOf a1))])) []), (300, Rw.mk (Kd.sw (dSub ds (i + 0))) []), (0, Rw.mk (Kd.sw ds) [])], 305, [200, 301], []), [], [decide ((↑i : Int) < (↑n : Int)) = true, (0 : Int) ≤ (↑i : Int) ∧ (↑i : Int) < (↑n : Int), ShOb Try.prog 27 true true ds i 300, CqOk a1 (dLen ds (i + 0)), prsOf a1 ≠ [], capBig + 200 = capBig + 200 ∧ List.length os = q * 1, (q + 1) * 24 ≤ 140737488355328 ∧ q + 1 ≤ 9223372036854775807, 1 ≤ 1, true = true, rg IntKind.i64 (↑(i + 1) : Int)])) := by kernel_rfl
theorem cl_n_x (inr : Bool) (n q i : Nat) (ds os : List DV) : prjP [3] 300 (codeZ (cqV noL cqT) Try.prog (runZ (cqV noL cqT) Try.prog 9) 11 inr 100000 (bodyIn Try.prog 11 3) (SL 20 [(0, llA n), (3, nlV), (4, iV i)]) ([] ++ [(0, ⟨.sw ds, []⟩)]) 300 [false]) =
 Res.ok ((Xt.exit 0, 20, [(3, Value.slice none 0 0)], [(0, Rw.mk (Kd.sw ds) [])], 300, [], []), [], [decide ((↑i : Int) < (↑n : Int)) = false]) := by kernel_rfl
theorem cl_r_x (inr : Bool) (n q i : Nat) (ds os : List DV) : prjP [3] 300 (codeZ (cqV noL cqT) Try.prog (runZ (cqV noL cqT) Try.prog 9) 11 inr 100000 (bodyIn Try.prog 11 3) (SL 20 [(0, llA n), (3, ouA q), (4, iV i)]) (clB os ++ [(0, ⟨.sw ds, []⟩)]) 300 [false]) =
 Res.ok ((Xt.exit 0, 20, [(3, Value.slice (some (Addr.mk 200 0 none)) q (capBig + 200))], [(200, Rw.mk (Kd.dx 2 1 [Value.slice none 0 0] os) []), (0, Rw.mk (Kd.sw ds) [])], 300, [], []), [], [decide ((↑i : Int) < (↑n : Int)) = false]) := by kernel_rfl
def clR (out : List (List Pr)) (t : Hp) : Hp := match out with | [] => t | _ => (200, ⟨.dx 2 1 zLs (llD out), []⟩) :: t
def clV (out : List (List Pr)) : Value := match out with | [] => nlV | _ => ouA out.length
theorem clR_ne {out : List (List Pr)} (h : out ≠ []) (t : Hp) : clR out t = (200, ⟨.dx 2 1 zLs (llD out), []⟩) :: t := by cases out with | nil => exact absurd rfl h | cons x l => rfl
theorem clV_ne {out : List (List Pr)} (h : out ≠ []) : clV out = ouA out.length := by cases out with | nil => exact absurd rfl h | cons x l => rfl
theorem dx_row {lo N : Nat} {ρ : Nat → Nat} {h0 h1 : Hp} {n m d sz : Nat} {z : List Value} {ds : List DV} (hn : fnN lo N ρ n = some m) (hl : lk h1 m = some ⟨.dx d sz z ds, []⟩) : RbRow lo N ρ h0 h1 n ⟨.dx d sz z ds, []⟩ := rb_rec hn hl rfl
theorem dx_eq {d sz : Nat} {z : List Value} {Y X : List DV} (h : Y = X) : some (Rw.mk (.dx d sz z Y) []) = some (Rw.mk (.dx d sz z X) []) := by rw [h]
theorem llD_snoc (L : List (List Pr)) (l : List Pr) : llD (L ++ [l]) = llD L ++ [.sl l.length none (cpD l)] := by simp [llD]
theorem cnL_ll : ∀ L : List (List Pr), cnL (llD L) = llD L
 | [] => by simp [llD, cnL]
 | l :: L => by
   have ih := cnL_ll L
   simp only [llD, List.map_cons, cnL, cnD, cnL_cp] at ih ⊢
   rw [ih]
theorem llD_len (L : List (List Pr)) : (llD L).length = L.length := by simp [llD]
theorem cl_loop {inr : Bool} {h0 : Hp} {L : List (List Pr)} {n : Nat} (hL : FdLL L n) : ∀ (r i : Nat), i + r = n →
  LRuns inr Try.prog (bodyIn Try.prog 11 3) 2 400 h0 20 [(0, llA n), (3, clV (L.take i)), (4, iV i)] (clR (L.take i) [(0, ⟨.sw (llD L), []⟩)]) 300 (.exit 0, [(3, clV L)], clR L [(0, ⟨.sw (llD L), []⟩)])
 | 0, i, hr => by
   have hl := hL.l
   rw [List.take_of_length_le (by omega)]
   cases hE : L with
   | nil =>
    refine LRuns.exit (code_runsP cqX cqL0 (runZ_ok cqX cqTt cqL0 mixed 9) mixed (cl_n_x inr n 0 i (llD []) []) ?_) (by intro e; cases e) rfl (by omega) (by omega) (fun n => n) ?_ ?_ rfl
    ·simp only [Alls, decide_eq_false_iff_not]
     exact ⟨by omega, trivial⟩
    ·exact ⟨rfl, rfl, trivial⟩
    ·exact ⟨sw_row (m := 0) rfl rfl, trivial⟩
   | cons x t =>
    refine LRuns.exit (code_runsP cqX cqL0 (runZ_ok cqX cqTt cqL0 mixed 9) mixed (cl_r_x inr n (x :: t).length i (llD (x :: t)) (llD (x :: t))) ?_) (by intro e; cases e) rfl (by omega) (by omega) (fun n => n) ?_ ?_ rfl
    ·simp only [Alls, decide_eq_false_iff_not]
     exact ⟨by omega, trivial⟩
    ·exact ⟨rfl, rb_slg rfl rfl, trivial⟩
    ·exact ⟨dx_row (m := 200) rfl rfl, sw_row (m := 0) rfl rfl, trivial⟩
 | r + 1, i, hr => by
   have hl := hL.l
   have hn9 := hL.n9
   have hi : i < L.length := by omega
   obtain ⟨l, hx⟩ : ∃ l, L[i]? = some l := ⟨L[i], List.getElem?_eq_getElem hi⟩
   have A := ll_at hx
   have hf := hL.L l (List.mem_of_getElem? hx)
   have hq : CqOk (cpD l) l.length := ⟨by rw [prsOf_cp], by rw [prsOf_cp]; exact hf, by rw [prsOf_cp]⟩
   have hti := takeI_snoc hx
   have htl : (L.take i).length = i := by rw [List.length_take]; omega
   have nx := cl_loop (inr := inr) (h0 := h0) hL r (i + 1) (by omega)
   rw [clV_ne (out := L.take (i + 1)) (by rw [hti]; simp), clR_ne (out := L.take (i + 1)) (by rw [hti]; simp)] at nx
   cases hE : L.take i with
   | nil =>
    rw [hE, List.nil_append] at hti
    rw [hti] at nx
    by_cases hl0 : l = []
    ·refine LRuns.step (code_runsP cqX cqL0 (runZ_ok cqX cqTt cqL0 mixed 9) mixed (cl_n_n inr n 0 i (llD L) []) ?_) rfl (by omega) (by omega) (fun n => bif Nat.beq n 200 then 303 else n) ?_ ?_ rfl nx
     ·
      simp only [Alls, rg, decide_eq_true_eq, decide_eq_false_iff_not, Nat.add_zero, Nat.zero_add, Nat.mul_one, A.n, A.s, cp_all, cnL_cp, prsOf_cp, llD_len]
      repeat' (with_reducible apply And.intro)
      all_goals first | omega | (with_reducible assumption) | exact A.o _ | exact hq | exact hl0 | (with_reducible exact trivial) | (with_reducible rfl) | skip
     ·exact ⟨rfl, rb_slg rfl rfl, rfl, rb_slg rfl rfl, rfl, rfl, trivial⟩
     ·refine ⟨dx_row (m := 303) rfl (dx_eq ?_), sw_row (m := 0) rfl rfl, trivial⟩
      subst hl0
      rfl
    ·refine LRuns.step (code_runsP cqX cqL0 (runZ_ok cqX cqTt cqL0 mixed 9) mixed (cl_n_r inr n 0 i (llD L) []) ?_) rfl (by omega) (by omega) (fun n => bif Nat.beq n 200 then 304 else n) ?_ ?_ rfl nx
     ·
      simp only [Alls, rg, decide_eq_true_eq, decide_eq_false_iff_not, Nat.add_zero, Nat.zero_add, Nat.mul_one, A.n, A.s, cp_all, cnL_cp, prsOf_cp, llD_len]
      repeat' (with_reducible apply And.intro)
      all_goals first | omega | (with_reducible assumption) | exact A.o _ | exact hq | exact hl0 | (with_reducible exact trivial) | (with_reducible rfl) | skip
     ·exact ⟨rfl, rb_slg rfl rfl, rfl, rb_slg rfl rfl, rfl, rfl, trivial⟩
     ·refine ⟨dx_row (m := 304) rfl (dx_eq ?_), sw_row (m := 0) rfl rfl, trivial⟩
      simp only [Nat.add_zero, A.n, A.s, cp_all, cnL_cp, prsOf_cp]
      rfl
   | cons y t =>
    rw [hE] at hti htl
    rw [hti] at nx
    rw [clV_ne (by simp), clR_ne (by simp)]
    by_cases hl0 : l = []
    ·refine LRuns.step (code_runsP cqX cqL0 (runZ_ok cqX cqTt cqL0 mixed 9) mixed (cl_r_n inr n (y :: t).length i (llD L) (llD (y :: t))) ?_) rfl (by omega) (by omega) (fun n => bif Nat.beq n 200 then 303 else n) ?_ ?_ rfl nx
     ·
      simp only [Alls, rg, decide_eq_true_eq, decide_eq_false_iff_not, Nat.add_zero, Nat.zero_add, Nat.mul_one, A.n, A.s, cp_all, cnL_cp, prsOf_cp, llD_len]
      repeat' (with_reducible apply And.intro)
      all_goals first | omega | (with_reducible assumption) | exact A.o _ | exact hq | exact hl0 | (with_reducible exact trivial) | (with_reducible rfl) | skip
     ·refine ⟨rfl, rb_slg rfl rfl, rfl, ?_, rfl, rfl, trivial⟩
      rw [List.length_append]
      exact rb_slg rfl rfl
     ·refine ⟨dx_row (m := 303) rfl (dx_eq ?_), sw_row (m := 0) rfl rfl, trivial⟩
      subst hl0
      rw [llD_snoc]
      rfl
    ·refine LRuns.step (code_runsP cqX cqL0 (runZ_ok cqX cqTt cqL0 mixed 9) mixed (cl_r_r inr n (y :: t).length i (llD L) (llD (y :: t))) ?_) rfl (by omega) (by omega) (fun n => bif Nat.beq n 200 then 304 else n) ?_ ?_ rfl nx
     ·
      simp only [Alls, rg, decide_eq_true_eq, decide_eq_false_iff_not, Nat.add_zero, Nat.zero_add, Nat.mul_one, A.n, A.s, cp_all, cnL_cp, prsOf_cp, llD_len]
      repeat' (with_reducible apply And.intro)
      all_goals first | omega | (with_reducible assumption) | exact A.o _ | exact hq | exact hl0 | (with_reducible exact trivial) | (with_reducible rfl) | skip
     ·refine ⟨rfl, rb_slg rfl rfl, rfl, ?_, rfl, rfl, trivial⟩
      rw [List.length_append]
      exact rb_slg rfl rfl
     ·refine ⟨dx_row (m := 304) rfl (dx_eq ?_), sw_row (m := 0) rfl rfl, trivial⟩
      simp only [Nat.add_zero, A.n, A.s, cp_all, cnL_cp, prsOf_cp, llD_snoc]
structure ClOk (ds : List DV) (n : Nat) : Prop where
 e : ds = llD (llOf ds)
 L : FdLL (llOf ds) n
def clSp : LSpec := lspec cqPk (fun a => ([(0, llA a.1), (3, nlV), (4, iV 0)], [(0, ⟨.sw a.2, []⟩)], 2)) (fun a tp => match tp with
 | false :: tp' => some ((.exit 0, [(3, nlV)], [(0, ⟨.sw a.2, []⟩)], 400, []), tp', [ClOk a.2 a.1, llOf a.2 = []])
 | true :: tp' => some ((.exit 0, [(3, ouA a.1)], [(200, ⟨.dx 2 1 zLs a.2, []⟩), (0, ⟨.sw a.2, []⟩)], 400, []), tp', [ClOk a.2 a.1, llOf a.2 ≠ []])
 | [] => none)
theorem clSp_ok : LSOk Try.prog 20 [0, 3, 4] (bodyIn Try.prog 11 3) clSp := by
 refine lspec_ok fun a tp xt l2 h2 nx2 d tp' ob hs ho inr ts hn hg => ?_
 obtain ⟨n, ds⟩ := a
 simp only at hs hg
 have fin : ClOk ds n → ∀ key, key = (Xt.exit 0, [(3, clV (llOf ds))], clR (llOf ds) [(0, ⟨.sw ds, []⟩)]) → Tidy [(0, ⟨.sw ds, []⟩)] 2 key.2.2 400 [] → Runs inr (fun F m Q => Code.againIn F m Try.prog (bodyIn Try.prog 11 3) Q) ts [(0, ⟨.sw ds, []⟩)] 2 (key.1, SL 20 key.2.1, key.2.2, 400, [], []) := fun h key hk hT => by
  have q := cl_loop (inr := inr) (h0 := [(0, ⟨.sw ds, []⟩)]) h.L n 0 (by omega)
  rw [List.take_zero, ← h.e, ← hk] at q
  refine LRuns.enter (N := 300) (l2 := [(0, llA n), (3, nlV), (4, iV 0)]) (h2 := [(0, ⟨.sw ds, []⟩)]) hn hg (by omega) (by omega) (fun n => n) ?_ ?_ rfl q hT
  ·exact ⟨rfl, rb_slg rfl rfl, rfl, rfl, rfl, rfl, trivial⟩
  ·exact ⟨sw_row (m := 0) rfl rfl, trivial⟩
 split at hs
 ·simp only [oI, pI] at hs
  obtain ⟨⟨rfl, rfl, rfl, rfl, rfl⟩, rfl, rfl⟩ := hs
  obtain ⟨h, h1, _⟩ := ho
  exact fin h (.exit 0, [(3, nlV)], [(0, ⟨.sw ds, []⟩)]) (by rw [h1]; rfl) (tidy_of (by omega) (fun j hj hd => rfl) rfl)
 ·simp only [oI, pI] at hs
  obtain ⟨⟨rfl, rfl, rfl, rfl, rfl⟩, rfl, rfl⟩ := hs
  obtain ⟨h, h1, _⟩ := ho
  refine fin h (.exit 0, [(3, ouA n)], [(200, ⟨.dx 2 1 zLs ds, []⟩), (0, ⟨.sw ds, []⟩)]) (by rw [clV_ne h1, clR_ne h1, h.L.l, ← h.e]) (tidy_of (by omega) (fun j hj hd => ?_) rfl)
  rw [lk_cons, if_neg (by omega)]
 ·cases hs
def clLo (P : Program) : LFun := mkL 11 3 20 [0, 3, 4] (bodyIn P 11 3) clSp
theorem clLo_one : LOne Try.prog (clLo Try.prog) := mkL_ok clSp_ok
theorem cl_nil (n : Nat) (ds : List DV) : prjV (runZ (cqV (clLo Try.prog) cqT) Try.prog 9 11 [llA n] [(0, ⟨.sw ds, []⟩)] 2 [false]) =
 (let a2 := (4, Value.int IntKind.i64 (0 : Int)); let a1 := (0, Value.slice (some (Addr.mk 0 0 none)) n 18446744073709551616); Res.ok (Value.slice none 0 0, [], [bodyIn Try.prog (11 : FuncId) 3 = bodyIn Try.prog (11 : FuncId) 3, [a1, (3, Value.slice none 0 0), a2] = [a1, (3, Value.slice none 0 0), a2], [(0, Rw.mk (Kd.sw ds) [])] = [(0, Rw.mk (Kd.sw ds) [])], 2 = 2, ClOk ds n, llOf ds = []])) := by kernel_rfl
theorem cl_row (n : Nat) (ds : List DV) : runZ (cqV (clLo Try.prog) cqT) Try.prog 9 11 [llA n] [(0, ⟨.sw ds, []⟩)] 2 [true] =
 (let a3 := (4, Value.int IntKind.i64 (0 : Int)); let a2 := (0, Rw.mk (Kd.sw ds) []); let a1 := (0, Value.slice (some (Addr.mk 0 0 none)) n 18446744073709551616); Res.ok ((Value.slice (some (Addr.mk 200 0 none)) n (capBig + 200), [(200, Rw.mk (Kd.dx 2 1 [Value.slice none 0 0] ds) []), a2], 400, []), [], [bodyIn Try.prog (11 : FuncId) 3 = bodyIn Try.prog (11 : FuncId) 3, [a1, (3, Value.slice none 0 0), a3] = [a1, (3, Value.slice none 0 0), a3], [a2] = [a2], 2 = 2, ClOk ds n, llOf ds ≠ []])) := by kernel_rfl
def gCl : GSpecD := fun aL tp => match aL, tp with
 | [.dl ds n], false :: tp' => some (⟨fun _ => nlV, []⟩, tp', [ClOk ds n, llOf ds = []])
 | [.dl ds n], true :: tp' => some (⟨fun nx => .slice (some ⟨nx, 0, none⟩) n (capBig + nx), [⟨.dx 2 1 zLs ds, []⟩]⟩, tp', [ClOk ds n, llOf ds ≠ []])
 | _, _ => none
theorem cl_gok : GOkD Try.prog 11 gCl := by
 intro aL tp gr tp' ob hG ho cs hc
 unfold gCl at hG
 split at hG
 ·rename_i ds n tp2
  simp only [oI, pI] at hG
  obtain ⟨rfl, rfl, rfl⟩ := hG
  obtain ⟨h, h1, _⟩ := ho
  obtain ⟨h', nx', d, T⟩ := run_val cqX cqTt (L_okV rfl clLo_one) (cl_nil n ds) ⟨rfl, rfl, rfl, rfl, h, h1, trivial⟩ rfl
  exact ⟨_, h', nx', d, fun n => n, T, GrD.flat fun σ => rfl⟩
 ·rename_i ds n tp2
  simp only [oI, pI] at hG
  obtain ⟨rfl, rfl, rfl⟩ := hG
  obtain ⟨h, h1, _⟩ := ho
  have T := run_tri cqX cqTt (L_okV rfl clLo_one) (cl_row n ds) ⟨rfl, rfl, rfl, rfl, h, h1, trivial⟩ rfl
  refine ⟨_, _, _, _, fun _ => 200, T, ⟨fun nx => ?_, fun j r hj => ?_, fun i j hi hj _ => by simp at hi hj; omega⟩⟩
  ·exact f2s_slice0 (g := fun _ => 200) (by simp) _
  ·match j, hj with
   | 0, hj => cases hj; exact ⟨fun τ => rfl, rfl, rfl⟩
 ·cases hG
end Go.Proofs.Ytmoflcoijmmpjaa
