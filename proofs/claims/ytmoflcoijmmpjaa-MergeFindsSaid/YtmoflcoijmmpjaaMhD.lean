/-
  Chapter 14: merge.Merge: runs of its loops' rounds.
-/
import Derived.Test.YtmoflcoijmmpjaaMhC
namespace Go.Proofs.Ytmoflcoijmmpjaa
set_option linter.unusedSimpArgs false
set_option linter.unusedVariables false
set_option linter.unusedSectionVars false
open Go Go.RowKit
def mhTab : FuncId → List Nat := fun f => bif Nat.beq f 12 then [20, 30, 33, 38, 47, 60, 68, 87, 91, 111] else bif Nat.beq f 33 then [9] else []
def mhSy : FuncId → Nat → Option Nat := orSy (lsSy 12 [(20, 0), (21, 0), (22, 37), (26, 0), (27, 0), (30, 0), (33, 0), (38, 0), (40, 0), (41, 37), (47, 0), (53, 51), (54, 0), (57, 0), (58, 0), (60, 0), (62, 0), (68, 0), (70, 0), (72, 37), (73, 0), (74, 36), (97, 45), (100, 0), (102, 37), (104, 0), (100105, 52), (107, 0), (109, 37), (111, 0), (116, 0), (117, 0), (118, 37), (119, 0), (100119, 52), (123, 0), (124, 55)]) (orSy (lsSy 34 [(5, 43), (8, 43)]) (lsSy 33 [(6, 0), (8, 0), (9, 0)]))
def mhSyA : FuncId → Nat → Option Nat := orSy (lsSy 12 [(103, 53)]) mhSy
def mhSyB : FuncId → Nat → Option Nat := orSy (lsSy 12 [(103, 54)]) mhSy
def mhT : TFun := orTz (mkD 30 [.c 3] gSo) (mkW 32 2 zHd gDn)
def mhV (b : Bool) (L : LFun) (T : TFun) : Tv := ⟨T, cmpY, L, mhTab, bif b then mhSyA else mhSyB, fun _ => [], fun _ => 0⟩
def llA (n : Nat) : Value := .slice (some ⟨0, 0, none⟩) n (capBig + 0)
def heA (n : Nat) : Value := .slice (some ⟨60, 0, none⟩) n (capBig + 60)
def ltA (n : Nat) : Value := .slice (some ⟨202, 0, none⟩) n (capBig + 202)
def ouA (n : Nat) : Value := .slice (some ⟨200, 0, none⟩) n (capBig + 200)
def nlV : Value := .slice none 0 0
def mhI (k : Int) : Value := .int .i64 k
theorem mh_a_go (inr : Bool) (n i : Nat) (s : Int) (dr : Bool) (ds : List DV) : prjP [0, 1, 6, 17, 18, 19] 10 (codeZ (mhV true noL mhT) Try.prog (runZ (mhV true noL mhT) Try.prog 12) 12 inr 100000 (bodyIn Try.prog 12 3) (SL 128
 [(0, llA n), (1, .bool dr), (6, mhI s), (17, llA n), (18, iV n), (19, iV i)]) [(0, ⟨.sw ds, []⟩)] 10 [true])
 =
  (let a1 := (adI s (↑(dLen ds (i + 0)) : Int)); Res.ok ((Xt.normal, 128, [(0, Value.slice (some (Addr.mk 0 0 none)) n 18446744073709551616), (1, Value.bool dr), (6, Value.int IntKind.i64 a1), (17, Value.slice (some (Addr.mk 0 0
 none)) n 18446744073709551616), (18, Value.int IntKind.i64 (↑n : Int)), (19, Value.int IntKind.i64 (↑(i + 1) : Int))], [(10, Rw.mk (Kd.sw (dSub ds (i + 0))) []), (0, Rw.mk (Kd.sw ds) [])], 11, [], []), [], [decide ((↑i : Int) <
 (↑n : Int)) = true, (0 : Int) ≤ (↑i : Int) ∧ (↑i : Int) < (↑n : Int), ShOb Try.prog 27 true true ds i 10, rg IntKind.i64 a1, rg IntKind.i64 (↑(i + 1) : Int)])) := by
 kernel_rfl
theorem mh_a_end (inr : Bool) (n i : Nat) (s : Int) (dr : Bool) (ds : List DV) : prjP [0, 1, 6] 10 (codeZ (mhV true noL mhT) Try.prog (runZ (mhV true noL mhT) Try.prog 12) 12 inr 100000 (bodyIn Try.prog 12 3) (SL 128 [(0, llA n), (1, .bool dr), (6, mhI s), (17, llA n), (18, iV n), (19, iV i)]) [(0, ⟨.sw ds, []⟩)] 10 [false]) =
  Res.ok ((Xt.exit 0, 128, [(0, Value.slice (some (Addr.mk 0 0 none)) n 18446744073709551616), (1, Value.bool dr), (6, Value.int IntKind.i64 s)], [(0, Rw.mk (Kd.sw ds) [])], 10, [], []), [], [decide ((↑i : Int) < (↑n :
 Int)) = false]) := by kernel_rfl
theorem mh_b_ns (inr : Bool) (n m i : Nat) (dr : Bool) (ds es : List DV) : prjP [4, 5] 61 (codeZ (mhV true noL mhT) Try.prog (runZ (mhV true noL mhT) Try.prog 12) 12 inr 100000 (bodyIn Try.prog 12 11) (SL 128 [(0, llA n), (1, .bool dr), (9, nlV), (35, llA n), (36, iV n), (37, iV i)]) [(0, ⟨.sw ds, []⟩)] 61 [true, false]) =
  Res.ok ((Xt.ret, 128, [(4, Value.slice none 0 0), (5, Value.int IntKind.i64 (2 : Int))], [(61, Rw.mk (Kd.sw (dSub ds (i + 0))) []), (0, Rw.mk (Kd.sw ds) [])], 62, [], []), [], [decide ((↑i : Int) < (↑n : Int)) = true, (0
 : Int) ≤ (↑i : Int) ∧ (↑i : Int) < (↑n : Int), ShOb Try.prog 27 true true ds i 61, SoOk (cnL (List.take (dLen ds (i + 0) * 3) (dSub ds (i + 0)))) (dLen ds (i + 0)) false]) := by kernel_rfl
theorem mh_b_ne (inr : Bool) (n m i : Nat) (dr : Bool) (ds es : List DV) : prjP [0, 1, 9, 35, 36, 37] 61 (codeZ (mhV true noL mhT) Try.prog (runZ (mhV true noL mhT) Try.prog 12) 12 inr 100000 (bodyIn Try.prog 12 11) (SL 128 [(0, llA n), (1, .bool dr), (9, nlV), (35, llA n), (36, iV n), (37, iV i)]) [(0, ⟨.sw ds, []⟩)] 61 [true, true, false]) =
  Res.ok ((Xt.normal, 128, [(0, Value.slice (some (Addr.mk 0 0 none)) n 18446744073709551616), (1, Value.bool dr), (9, Value.slice none 0 0), (35, Value.slice (some (Addr.mk 0 0 none)) n 18446744073709551616), (36,
 Value.int IntKind.i64 (↑n : Int)), (37, Value.int IntKind.i64 (↑(i + 1) : Int))], [(61, Rw.mk (Kd.sw (dSub ds (i + 0))) []), (0, Rw.mk (Kd.sw ds) [])], 62, [], []), [], [decide ((↑i : Int) < (↑n : Int)) = true, (0 : Int)
 ≤ (↑i : Int) ∧ (↑i : Int) < (↑n : Int), ShOb Try.prog 27 true true ds i 61, SoOk (cnL (List.take (dLen ds (i + 0) * 3) (dSub ds (i + 0)))) (dLen ds (i + 0)) true, decide ((↑(dLen ds (i + 0)) : Int) > (0 : Int)) = false,
 rg IntKind.i64 (↑(i + 1) : Int)]) := by kernel_rfl
theorem mh_b_ng (inr : Bool) (n m i : Nat) (dr : Bool) (ds es : List DV) : prjP [0, 1, 9, 35, 36, 37] 61 (codeZ (mhV true noL mhT) Try.prog (runZ (mhV true noL mhT) Try.prog 12) 12 inr 100000 (bodyIn Try.prog 12 11) (SL 128 [(0,
 llA n), (1, .bool dr), (9, nlV), (35, llA n), (36, iV n), (37, iV i)]) [(0, ⟨.sw ds, []⟩)] 61 [true, true, true])
 =
  (let a3 := (↑i : Int); let a2 := (dSub ds (i + 0)); let a1 := (dLen ds (i + 0)); Res.ok ((Xt.normal, 128, [(0, Value.slice (some (Addr.mk 0 0 none)) n 18446744073709551616), (1, Value.bool dr), (9, Value.slice (some (Addr.mk 64
 0 none)) 1 (capBig + 64)), (35, Value.slice (some (Addr.mk 0 0 none)) n 18446744073709551616), (36, Value.int IntKind.i64 (↑n : Int)), (37, Value.int IntKind.i64 (↑(i + 1) : Int))], [(64, Rw.mk (Kd.dw 2 [Value.slice none 0 0,
 Value.int IntKind.i64 (0 : Int)] [DV.sl a1 none a2, DV.fl (Value.int IntKind.i64 a3)]) []), (61, Rw.mk (Kd.sw a2) []), (0, Rw.mk (Kd.sw ds) [])], 65, [], []), [], [decide (a3 < (↑n : Int)) = true, (0 : Int) ≤ a3 ∧ a3 < (↑n : Int),
 ShOb Try.prog 27 true true ds i 61, SoOk (cnL (List.take (dLen ds (i + 0) * 3) a2)) a1 true, decide ((↑a1 : Int) > (0 : Int)) = true, 32 ≤ 140737488355328, dLen ds (ixO 0 (Int.toNat a3) 1 + 0) = 0 → dSub ds (i + 0) = [], 2 ≤ 2,
 true = true, rg IntKind.i64 (↑(i + 1) : Int)])) := by
 kernel_rfl
theorem mh_b_nx (inr : Bool) (n m i : Nat) (dr : Bool) (ds es : List DV) : prjP [1, 9] 61 (codeZ (mhV true noL mhT) Try.prog (runZ (mhV true noL mhT) Try.prog 12) 12 inr 100000 (bodyIn Try.prog 12 11) (SL 128 [(0, llA n), (1, .bool dr), (9, nlV), (35, llA n), (36, iV n), (37, iV i)]) [(0, ⟨.sw ds, []⟩)] 61 [false]) =
  Res.ok ((Xt.exit 2, 128, [(1, Value.bool dr), (9, Value.slice none 0 0)], [(0, Rw.mk (Kd.sw ds) [])], 61, [], []), [], [decide ((↑i : Int) < (↑n : Int)) = false]) := by kernel_rfl
theorem mh_b_rs (inr : Bool) (n m i : Nat) (dr : Bool) (ds es : List DV) : prjP [4, 5] 61 (codeZ (mhV true noL mhT) Try.prog (runZ (mhV true noL mhT) Try.prog 12) 12 inr 100000 (bodyIn Try.prog 12 11) (SL 128 [(0, llA n), (1, .bool dr), (9, heA m), (35, llA n), (36, iV n), (37, iV i)]) [(60, ⟨.dw 2 zHd es, []⟩), (0, ⟨.sw ds, []⟩)] 61 [true, false]) =
  Res.ok ((Xt.ret, 128, [(4, Value.slice none 0 0), (5, Value.int IntKind.i64 (2 : Int))], [(61, Rw.mk (Kd.sw (dSub ds (i + 0))) []), (60, Rw.mk (Kd.dw 2 [Value.slice none 0 0, Value.int IntKind.i64 (0 : Int)] es) []), (0,
 Rw.mk (Kd.sw ds) [])], 62, [], []), [], [decide ((↑i : Int) < (↑n : Int)) = true, (0 : Int) ≤ (↑i : Int) ∧ (↑i : Int) < (↑n : Int), ShOb Try.prog 27 true true ds i 61, SoOk (cnL (List.take (dLen ds (i + 0) * 3) (dSub ds
 (i + 0)))) (dLen ds (i + 0)) false]) := by kernel_rfl
theorem mh_b_re (inr : Bool) (n m i : Nat) (dr : Bool) (ds es : List DV) : prjP [0, 1, 9, 35, 36, 37] 61 (codeZ (mhV true noL mhT) Try.prog (runZ (mhV true noL mhT) Try.prog 12) 12 inr 100000 (bodyIn Try.prog 12 11) (SL 128 [(0, llA n), (1, .bool dr), (9, heA m), (35, llA n), (36, iV n), (37, iV i)]) [(60, ⟨.dw 2 zHd es, []⟩), (0, ⟨.sw ds, []⟩)] 61 [true, true, false]) =
  Res.ok ((Xt.normal, 128, [(0, Value.slice (some (Addr.mk 0 0 none)) n 18446744073709551616), (1, Value.bool dr), (9, Value.slice (some (Addr.mk 60 0 none)) m (capBig + 60)), (35, Value.slice (some (Addr.mk 0 0 none)) n
 18446744073709551616), (36, Value.int IntKind.i64 (↑n : Int)), (37, Value.int IntKind.i64 (↑(i + 1) : Int))], [(61, Rw.mk (Kd.sw (dSub ds (i + 0))) []), (60, Rw.mk (Kd.dw 2 [Value.slice none 0 0, Value.int IntKind.i64 (0
 : Int)] es) []), (0, Rw.mk (Kd.sw ds) [])], 62, [], []), [], [decide ((↑i : Int) < (↑n : Int)) = true, (0 : Int) ≤ (↑i : Int) ∧ (↑i : Int) < (↑n : Int), ShOb Try.prog 27 true true ds i 61, SoOk (cnL (List.take (dLen ds (i
 + 0) * 3) (dSub ds (i + 0)))) (dLen ds (i + 0)) true, decide ((↑(dLen ds (i + 0)) : Int) > (0 : Int)) = false, rg IntKind.i64 (↑(i + 1) : Int)]) := by kernel_rfl
theorem mh_b_rg (inr : Bool) (n m i : Nat) (dr : Bool) (ds es : List DV) : prjP [0, 1, 9, 35, 36, 37] 61 (codeZ (mhV true noL mhT) Try.prog (runZ (mhV true noL mhT) Try.prog 12) 12 inr 100000 (bodyIn Try.prog 12 11) (SL 128 [(0,
 llA n), (1, .bool dr), (9, heA m), (35, llA n), (36, iV n), (37, iV i)]) [(60, ⟨.dw 2 zHd es, []⟩), (0, ⟨.sw ds, []⟩)] 61 [true, true, true])
 =
  (let a3 := (↑i : Int); let a2 := (dSub ds (i + 0)); let a1 := (dLen ds (i + 0)); Res.ok ((Xt.normal, 128, [(0, Value.slice (some (Addr.mk 0 0 none)) n 18446744073709551616), (1, Value.bool dr), (9, Value.slice (some (Addr.mk 64
 0 none)) (m + 1) (capBig + 64)), (35, Value.slice (some (Addr.mk 0 0 none)) n 18446744073709551616), (36, Value.int IntKind.i64 (↑n : Int)), (37, Value.int IntKind.i64 (↑(i + 1) : Int))], [(64, Rw.mk (Kd.dw 2 [Value.slice none 0
 0, Value.int IntKind.i64 (0 : Int)] (es ++ [DV.sl a1 none a2, DV.fl (Value.int IntKind.i64 a3)])) []), (61, Rw.mk (Kd.sw a2) []), (0, Rw.mk (Kd.sw ds) [])], 65, [60], []), [], [decide (a3 < (↑n : Int)) = true, (0 : Int) ≤ a3 ∧ a3
 < (↑n : Int), ShOb Try.prog 27 true true ds i 61, SoOk (cnL (List.take (dLen ds (i + 0) * 3) a2)) a1 true, decide ((↑a1 : Int) > (0 : Int)) = true, capBig + 60 = capBig + 60 ∧ List.length es = m * 2, (m + 1) * 32 ≤ 140737488355328
 ∧ m + 1 ≤ 9223372036854775807, dLen ds (ixO 0 (Int.toNat a3) 1 + 0) = 0 → dSub ds (i + 0) = [], 2 ≤ 2, true = true, rg IntKind.i64 (↑(i + 1) : Int)])) := by
 kernel_rfl
theorem mh_b_rx (inr : Bool) (n m i : Nat) (dr : Bool) (ds es : List DV) : prjP [1, 9] 61 (codeZ (mhV true noL mhT) Try.prog (runZ (mhV true noL mhT) Try.prog 12) 12 inr 100000 (bodyIn Try.prog 12 11) (SL 128 [(0, llA n), (1, .bool dr), (9, heA m), (35, llA n), (36, iV n), (37, iV i)]) [(60, ⟨.dw 2 zHd es, []⟩), (0, ⟨.sw ds, []⟩)] 61 [false]) =
  Res.ok ((Xt.exit 2, 128, [(1, Value.bool dr), (9, Value.slice (some (Addr.mk 60 0 none)) m (capBig + 60))], [(60, Rw.mk (Kd.dw 2 [Value.slice none 0 0, Value.int IntKind.i64 (0 : Int)] es) []), (0, Rw.mk (Kd.sw ds) [])],
 61, [], []), [], [decide ((↑i : Int) < (↑n : Int)) = false]) := by kernel_rfl
theorem mh_c_go (inr : Bool) (m : Nat) (j : Int) (dr : Bool) (ds es : List DV) : prjP [1, 9, 12] 101 (codeZ (mhV true noL mhT) Try.prog (runZ (mhV true noL mhT) Try.prog 12) 12 inr 100000 (bodyIn Try.prog 12 19) (SL 128 [(1, .bool dr), (9, heA m), (12, mhI j)]) [(60, ⟨.dw 2 zHd es, []⟩), (0, ⟨.sw ds, []⟩)] 101 [true]) =
  Res.ok ((Xt.normal, 128, [(1, Value.bool dr), (9, Value.slice (some (Addr.mk 60 0 none)) m (capBig + 60)), (12, Value.int IntKind.i64 (j - (1 : Int)))], [(60, Rw.mk (Kd.dw 2 [Value.slice none 0 0, Value.int IntKind.i64 (0
 : Int)] (hdD (dnH m (hdOf es) m (Int.toNat j)))) []), (0, Rw.mk (Kd.sw ds) [])], 101, [60], []), [], [decide (j ≥ (0 : Int)) = true, capBig + 60 = capBig + 60, (0 : Int) ≤ j ∧ DnOk es m (Int.toNat j), rg IntKind.i64 (j -
 (1 : Int))]) := by kernel_rfl
theorem mh_c_x (inr : Bool) (m : Nat) (j : Int) (dr : Bool) (ds es : List DV) : prjP [1, 9] 101 (codeZ (mhV true noL mhT) Try.prog (runZ (mhV true noL mhT) Try.prog 12) 12 inr 100000 (bodyIn Try.prog 12 19) (SL 128 [(1, .bool dr), (9, heA m), (12, mhI j)]) [(60, ⟨.dw 2 zHd es, []⟩), (0, ⟨.sw ds, []⟩)] 101 [false]) =
  Res.ok ((Xt.exit 4, 128, [(1, Value.bool dr), (9, Value.slice (some (Addr.mk 60 0 none)) m (capBig + 60))], [(60, Rw.mk (Kd.dw 2 [Value.slice none 0 0, Value.int IntKind.i64 (0 : Int)] es) []), (0, Rw.mk (Kd.sw ds) [])],
 101, [], []), [], [decide (j ≥ (0 : Int)) = false]) := by kernel_rfl
theorem mh_e_Ade (inr : Bool) (m l q : Nat) (dr : Bool) (ds es os : List DV) (ks : List Value) : prjP [1, 9, 13, 14, 15] 300 (codeZ (mhV false noL mhT) Try.prog (runZ (mhV false noL mhT) Try.prog 12) 12 inr 100000 (bodyIn Try.prog
 12 25) (SL 128 [(1, .bool dr), (9, heA m), (13, nlV), (14, nlV), (15, .bool false)]) [(60, ⟨.dw 2 zHd es, []⟩), (0, ⟨.sw ds, []⟩)] 300 [true, true, true])
 =
  (let a8 := (Int.toNat (0 : Int)); let a13 := (dSub es (ixO 0 a8 2 + 0 + 0)); let a7 := (↑m : Int); let a4 := (setD es 0 [DV.sl 0 none []]); let a3 := (a7 - (1 : Int)); let a10 := (Int.toNat a3); let a9 := (Int.toNat a3 * 2 + 0);
 let a2 := (dSub es 0); let a12 := (dVals a2 0); let a11 := (dVals a2 1); let a6 := (List.take (dLen a2 1) a11); let a5 := (List.take (dLen a2 0) a12); let a1 := (setD a4 0 [DV.sl (dLen a4 a9) none (dSub a4 a9), DV.fl (Value.int
 IntKind.i64 (dInt a4 (Int.toNat a3 * 2 + 1)))]); Res.ok ((Xt.normal, 128, [(1, Value.bool dr), (9, Value.slice (some (Addr.mk 60 0 none)) a10 (capBig + 60)), (13, Value.slice (some (Addr.mk 312 0 none)) 1 (capBig + 312)), (14,
 Value.slice (some (Addr.mk 301 0 none)) (dLen a2 0) (capBig + 301)), (15, Value.bool true)], [(316, Rw.mk (Kd.sw (dSub a4 a9)) []), (315, Rw.mk (Kd.sw []) []), (314, Rw.mk (Kd.sw []) []), (313, Rw.mk (Kd.sw a2) []), (312, Rw.mk
 (Kd.df 3 [Value.slice none 0 0, Value.slice none 0 0, Value.bool false] [DV.sl (dLen a2 0) none (List.map DV.fl a5), DV.sl (dLen a2 1) none (List.map DV.fl a6), DV.fl (Value.bool (dBool a2 2))]) []), (302, Rw.mk Kd.ow a11), (301,
 Rw.mk Kd.ow a12), (300, Rw.mk (Kd.sw a2) []), (60, Rw.mk (Kd.dw 2 [Value.slice none 0 0, Value.int IntKind.i64 (0 : Int)] (hdD (dnH a10 (hdOf a1) a10 0))) []), (0, Rw.mk (Kd.sw ds) [])], 317, [60, 60, 60, 303], []), [], [decide
 (a7 > (0 : Int)) = true, (0 : Int) ≤ (0 : Int) ∧ (0 : Int) < a7, ShOb Try.prog 27 true true es 0 300, (0 : Int) ≤ (0 : Int) ∧ (0 : Int) < (↑(dLen es 0) : Int), ShOb Try.prog 32 false true a2 0 301, (!dr) = true, dLen a2 0 * 1 ≤
 140737488355328 ∧ dLen a2 0 ≤ 9223372036854775807, List.length a5 = dLen a2 0 * 1, ∀ (τ : Sg), renL τ a5 = some a5, dLen a2 0 ≤ List.length a12, all1 a5 = true, dLen a2 1 * 1 ≤ 140737488355328 ∧ dLen a2 1 ≤ 9223372036854775807,
 List.length a6 = dLen a2 1 * 1, ∀ (τ : Sg), renL τ a6 = some a6, dLen a2 1 ≤ List.length a11, all1 a6 = true, 56 ≤ 140737488355328, (∀ (τ : Sg), renL τ a5 = some a5) ∧ (dLen a13 (ixO 0 a8 3 + 0) = 0 → List.take (dLen a2 0) a12 =
 []), (∀ (τ : Sg), renL τ a6 = some a6) ∧ (dLen a13 (ixO 0 a8 3 + (0 + 1)) = 0 → List.take (dLen a2 1) a11 = []), 3 ≤ 3, true = true, (0 : Int) ≤ (0 : Int) ∧ (0 : Int) < a7, ShOb Try.prog 27 true true es 0 313, capBig + 313 =
 capBig + 313 ∧ (0 : Int) < (1 : Int) ∧ (1 : Int) = (↑(dLen es 0) : Int), (0 : Int) ≤ (0 : Int) ∧ (0 : Int) < a7, 1 ≤ List.length es, 0 = 0 → ([] : List DV) = [], (0 : Int) ≤ (0 : Int) ∧ (0 : Int) < a7, ShOb Try.prog 27 true true
 a4 0 315, true = true, rg IntKind.i64 a3, (0 : Int) ≤ a7 - (1 : Int) ∧ a7 - (1 : Int) < a7, ShOb Try.prog 56 true true a4 (Int.toNat a3 * 2) 316, (0 : Int) ≤ (0 : Int) ∧ (0 : Int) < a7, 2 ≤ List.length a4, dLen (setD es (ixO 0 a8
 2 + 0) [DV.sl 0 none []]) (ixO 0 a10 2 + 0) = 0 → dSub a4 a9 = [], rg IntKind.i64 a3, capBig + 60 = capBig + 60 ∧ (0 : Int) ≤ a7 - (1 : Int) ∧ a7 - (1 : Int) ≤ a7, m * 2 ≤ List.length a1, capBig + 60 = capBig + 60, (0 : Int) ≤ (0
 : Int) ∧ DnOk a1 a10 0])) := by
 kernel_rfl
theorem mh_e_Adm (inr : Bool) (m l q : Nat) (dr : Bool) (ds es os : List DV) (ks : List Value) : prjP [1, 9, 13, 14, 15] 300 (codeZ (mhV true noL mhT) Try.prog (runZ (mhV true noL mhT) Try.prog 12) 12 inr 100000 (bodyIn Try.prog
 12 25) (SL 128 [(1, .bool dr), (9, heA m), (13, nlV), (14, nlV), (15, .bool false)]) [(60, ⟨.dw 2 zHd es, []⟩), (0, ⟨.sw ds, []⟩)] 300 [true, true, false])
 =
  (let a7 := (↑m : Int); let a5 := (Int.toNat (0 : Int)); let a6 := (ixO 0 a5 2 + 0 + 0); let a1 := (dSub es 0); let a9 := (dVals a1 0); let a8 := (dVals a1 1); let a4 := (List.take (dLen a1 1) a8); let a3 := (List.take (dLen a1
 0) a9); let a2 := (setD es 0 [DV.sl (dLen es 0 - 1) none (List.drop 3 a1)]); Res.ok ((Xt.normal, 128, [(1, Value.bool dr), (9, Value.slice (some (Addr.mk 60 0 none)) m (capBig + 60)), (13, Value.slice (some (Addr.mk 312 0 none)) 1
 (capBig + 312)), (14, Value.slice (some (Addr.mk 301 0 none)) (dLen a1 0) (capBig + 301)), (15, Value.bool true)], [(315, Rw.mk (Kd.sw (dSub a2 0)) []), (314, Rw.mk (Kd.sw (List.drop 3 a1)) []), (313, Rw.mk (Kd.sw a1) []), (312,
 Rw.mk (Kd.df 3 [Value.slice none 0 0, Value.slice none 0 0, Value.bool false] [DV.sl (dLen a1 0) none (List.map DV.fl a3), DV.sl (dLen a1 1) none (List.map DV.fl a4), DV.fl (Value.bool (dBool a1 2))]) []), (302, Rw.mk Kd.ow a8),
 (301, Rw.mk Kd.ow a9), (300, Rw.mk (Kd.sw a1) []), (60, Rw.mk (Kd.dw 2 [Value.slice none 0 0, Value.int IntKind.i64 (0 : Int)] (hdD (dnH m (hdOf a2) m 0))) []), (0, Rw.mk (Kd.sw ds) [])], 316, [60, 60, 303], []), [], [decide (a7 >
 (0 : Int)) = true, (0 : Int) ≤ (0 : Int) ∧ (0 : Int) < a7, ShOb Try.prog 27 true true es 0 300, (0 : Int) ≤ (0 : Int) ∧ (0 : Int) < (↑(dLen es 0) : Int), ShOb Try.prog 32 false true a1 0 301, (!dr) = true, dLen a1 0 * 1 ≤
 140737488355328 ∧ dLen a1 0 ≤ 9223372036854775807, List.length a3 = dLen a1 0 * 1, ∀ (τ : Sg), renL τ a3 = some a3, dLen a1 0 ≤ List.length a9, all1 a3 = true, dLen a1 1 * 1 ≤ 140737488355328 ∧ dLen a1 1 ≤ 9223372036854775807,
 List.length a4 = dLen a1 1 * 1, ∀ (τ : Sg), renL τ a4 = some a4, dLen a1 1 ≤ List.length a8, all1 a4 = true, 56 ≤ 140737488355328, (∀ (τ : Sg), renL τ a3 = some a3) ∧ (dLen (dSub es a6) (ixO 0 a5 3 + 0) = 0 → List.take (dLen a1 0)
 a9 = []), (∀ (τ : Sg), renL τ a4 = some a4) ∧ (dLen (dSub es a6) (ixO 0 a5 3 + (0 + 1)) = 0 → List.take (dLen a1 1) a8 = []), 3 ≤ 3, true = true, (0 : Int) ≤ (0 : Int) ∧ (0 : Int) < a7, ShOb Try.prog 27 true true es 0 313, capBig
 + 313 = capBig + 313 ∧ (0 : Int) ≤ (1 : Int) ∧ (1 : Int) < (↑(dLen es 0) : Int), (0 : Int) ≤ (0 : Int) ∧ (0 : Int) < a7, 1 ≤ List.length es, sbN (dLen es a6) (Int.toNat (1 : Int)) = 0 → List.drop 3 a1 = [], (0 : Int) ≤ (0 : Int) ∧
 (0 : Int) < a7, ShOb Try.prog 27 true true a2 0 315, ((↑(dLen a2 0) : Int) == (0 : Int)) = false, capBig + 60 = capBig + 60, (0 : Int) ≤ (0 : Int) ∧ DnOk a2 m 0])) := by
 kernel_rfl
theorem mh_e_Age (inr : Bool) (m l q : Nat) (dr : Bool) (ds es os : List DV) (ks : List Value) : prjP [1, 9, 13, 14, 15] 300 (codeZ (mhV false noL mhT) Try.prog (runZ (mhV false noL mhT) Try.prog 12) 12 inr 100000 (bodyIn Try.prog
 12 25) (SL 128 [(1, .bool dr), (9, heA m), (13, nlV), (14, nlV), (15, .bool false)]) [(60, ⟨.dw 2 zHd es, []⟩), (0, ⟨.sw ds, []⟩)] 300 [true, false, true, true])
 =
  (let a8 := (Int.toNat (0 : Int)); let a13 := (dSub es (ixO 0 a8 2 + 0 + 0)); let a7 := (↑m : Int); let a4 := (setD es 0 [DV.sl 0 none []]); let a3 := (a7 - (1 : Int)); let a10 := (Int.toNat a3); let a9 := (Int.toNat a3 * 2 + 0);
 let a2 := (dSub es 0); let a12 := (dVals a2 0); let a11 := (dVals a2 1); let a6 := (List.take (dLen a2 1) a11); let a5 := (List.take (dLen a2 0) a12); let a1 := (setD a4 0 [DV.sl (dLen a4 a9) none (dSub a4 a9), DV.fl (Value.int
 IntKind.i64 (dInt a4 (Int.toNat a3 * 2 + 1)))]); Res.ok ((Xt.normal, 128, [(1, Value.bool dr), (9, Value.slice (some (Addr.mk 60 0 none)) a10 (capBig + 60)), (13, Value.slice (some (Addr.mk 312 0 none)) 1 (capBig + 312)), (14,
 Value.slice (some (Addr.mk 301 0 none)) (dLen a2 0) (capBig + 301)), (15, Value.bool true)], [(316, Rw.mk (Kd.sw (dSub a4 a9)) []), (315, Rw.mk (Kd.sw []) []), (314, Rw.mk (Kd.sw []) []), (313, Rw.mk (Kd.sw a2) []), (312, Rw.mk
 (Kd.df 3 [Value.slice none 0 0, Value.slice none 0 0, Value.bool false] [DV.sl (dLen a2 0) none (List.map DV.fl a5), DV.sl (dLen a2 1) none (List.map DV.fl a6), DV.fl (Value.bool (dBool a2 2))]) []), (302, Rw.mk Kd.ow a11), (301,
 Rw.mk Kd.ow a12), (300, Rw.mk (Kd.sw a2) []), (60, Rw.mk (Kd.dw 2 [Value.slice none 0 0, Value.int IntKind.i64 (0 : Int)] (hdD (dnH a10 (hdOf a1) a10 0))) []), (0, Rw.mk (Kd.sw ds) [])], 317, [60, 60, 60, 303], []), [], [decide
 (a7 > (0 : Int)) = true, (0 : Int) ≤ (0 : Int) ∧ (0 : Int) < a7, ShOb Try.prog 27 true true es 0 300, (0 : Int) ≤ (0 : Int) ∧ (0 : Int) < (↑(dLen es 0) : Int), ShOb Try.prog 32 false true a2 0 301, (!dr) = false, (!dBool a2 2) =
 true, dLen a2 0 * 1 ≤ 140737488355328 ∧ dLen a2 0 ≤ 9223372036854775807, List.length a5 = dLen a2 0 * 1, ∀ (τ : Sg), renL τ a5 = some a5, dLen a2 0 ≤ List.length a12, all1 a5 = true, dLen a2 1 * 1 ≤ 140737488355328 ∧ dLen a2 1 ≤
 9223372036854775807, List.length a6 = dLen a2 1 * 1, ∀ (τ : Sg), renL τ a6 = some a6, dLen a2 1 ≤ List.length a11, all1 a6 = true, 56 ≤ 140737488355328, (∀ (τ : Sg), renL τ a5 = some a5) ∧ (dLen a13 (ixO 0 a8 3 + 0) = 0 →
 List.take (dLen a2 0) a12 = []), (∀ (τ : Sg), renL τ a6 = some a6) ∧ (dLen a13 (ixO 0 a8 3 + (0 + 1)) = 0 → List.take (dLen a2 1) a11 = []), 3 ≤ 3, true = true, (0 : Int) ≤ (0 : Int) ∧ (0 : Int) < a7, ShOb Try.prog 27 true true es
 0 313, capBig + 313 = capBig + 313 ∧ (0 : Int) < (1 : Int) ∧ (1 : Int) = (↑(dLen es 0) : Int), (0 : Int) ≤ (0 : Int) ∧ (0 : Int) < a7, 1 ≤ List.length es, 0 = 0 → ([] : List DV) = [], (0 : Int) ≤ (0 : Int) ∧ (0 : Int) < a7, ShOb
 Try.prog 27 true true a4 0 315, true = true, rg IntKind.i64 a3, (0 : Int) ≤ a7 - (1 : Int) ∧ a7 - (1 : Int) < a7, ShOb Try.prog 56 true true a4 (Int.toNat a3 * 2) 316, (0 : Int) ≤ (0 : Int) ∧ (0 : Int) < a7, 2 ≤ List.length a4,
 dLen (setD es (ixO 0 a8 2 + 0) [DV.sl 0 none []]) (ixO 0 a10 2 + 0) = 0 → dSub a4 a9 = [], rg IntKind.i64 a3, capBig + 60 = capBig + 60 ∧ (0 : Int) ≤ a7 - (1 : Int) ∧ a7 - (1 : Int) ≤ a7, m * 2 ≤ List.length a1, capBig + 60 =
 capBig + 60, (0 : Int) ≤ (0 : Int) ∧ DnOk a1 a10 0])) := by
 kernel_rfl
theorem mh_e_Agm (inr : Bool) (m l q : Nat) (dr : Bool) (ds es os : List DV) (ks : List Value) : prjP [1, 9, 13, 14, 15] 300 (codeZ (mhV true noL mhT) Try.prog (runZ (mhV true noL mhT) Try.prog 12) 12 inr 100000 (bodyIn Try.prog
 12 25) (SL 128 [(1, .bool dr), (9, heA m), (13, nlV), (14, nlV), (15, .bool false)]) [(60, ⟨.dw 2 zHd es, []⟩), (0, ⟨.sw ds, []⟩)] 300 [true, false, true, false])
 =
  (let a7 := (↑m : Int); let a5 := (Int.toNat (0 : Int)); let a6 := (ixO 0 a5 2 + 0 + 0); let a1 := (dSub es 0); let a9 := (dVals a1 0); let a8 := (dVals a1 1); let a4 := (List.take (dLen a1 1) a8); let a3 := (List.take (dLen a1
 0) a9); let a2 := (setD es 0 [DV.sl (dLen es 0 - 1) none (List.drop 3 a1)]); Res.ok ((Xt.normal, 128, [(1, Value.bool dr), (9, Value.slice (some (Addr.mk 60 0 none)) m (capBig + 60)), (13, Value.slice (some (Addr.mk 312 0 none)) 1
 (capBig + 312)), (14, Value.slice (some (Addr.mk 301 0 none)) (dLen a1 0) (capBig + 301)), (15, Value.bool true)], [(315, Rw.mk (Kd.sw (dSub a2 0)) []), (314, Rw.mk (Kd.sw (List.drop 3 a1)) []), (313, Rw.mk (Kd.sw a1) []), (312,
 Rw.mk (Kd.df 3 [Value.slice none 0 0, Value.slice none 0 0, Value.bool false] [DV.sl (dLen a1 0) none (List.map DV.fl a3), DV.sl (dLen a1 1) none (List.map DV.fl a4), DV.fl (Value.bool (dBool a1 2))]) []), (302, Rw.mk Kd.ow a8),
 (301, Rw.mk Kd.ow a9), (300, Rw.mk (Kd.sw a1) []), (60, Rw.mk (Kd.dw 2 [Value.slice none 0 0, Value.int IntKind.i64 (0 : Int)] (hdD (dnH m (hdOf a2) m 0))) []), (0, Rw.mk (Kd.sw ds) [])], 316, [60, 60, 303], []), [], [decide (a7 >
 (0 : Int)) = true, (0 : Int) ≤ (0 : Int) ∧ (0 : Int) < a7, ShOb Try.prog 27 true true es 0 300, (0 : Int) ≤ (0 : Int) ∧ (0 : Int) < (↑(dLen es 0) : Int), ShOb Try.prog 32 false true a1 0 301, (!dr) = false, (!dBool a1 2) = true,
 dLen a1 0 * 1 ≤ 140737488355328 ∧ dLen a1 0 ≤ 9223372036854775807, List.length a3 = dLen a1 0 * 1, ∀ (τ : Sg), renL τ a3 = some a3, dLen a1 0 ≤ List.length a9, all1 a3 = true, dLen a1 1 * 1 ≤ 140737488355328 ∧ dLen a1 1 ≤
 9223372036854775807, List.length a4 = dLen a1 1 * 1, ∀ (τ : Sg), renL τ a4 = some a4, dLen a1 1 ≤ List.length a8, all1 a4 = true, 56 ≤ 140737488355328, (∀ (τ : Sg), renL τ a3 = some a3) ∧ (dLen (dSub es a6) (ixO 0 a5 3 + 0) = 0 →
 List.take (dLen a1 0) a9 = []), (∀ (τ : Sg), renL τ a4 = some a4) ∧ (dLen (dSub es a6) (ixO 0 a5 3 + (0 + 1)) = 0 → List.take (dLen a1 1) a8 = []), 3 ≤ 3, true = true, (0 : Int) ≤ (0 : Int) ∧ (0 : Int) < a7, ShOb Try.prog 27 true
 true es 0 313, capBig + 313 = capBig + 313 ∧ (0 : Int) ≤ (1 : Int) ∧ (1 : Int) < (↑(dLen es 0) : Int), (0 : Int) ≤ (0 : Int) ∧ (0 : Int) < a7, 1 ≤ List.length es, sbN (dLen es a6) (Int.toNat (1 : Int)) = 0 → List.drop 3 a1 = [],
 (0 : Int) ≤ (0 : Int) ∧ (0 : Int) < a7, ShOb Try.prog 27 true true a2 0 315, ((↑(dLen a2 0) : Int) == (0 : Int)) = false, capBig + 60 = capBig + 60, (0 : Int) ≤ (0 : Int) ∧ DnOk a2 m 0])) := by
 kernel_rfl
theorem mh_e_Ake (inr : Bool) (m l q : Nat) (dr : Bool) (ds es os : List DV) (ks : List Value) : prjP [1, 9, 13, 14, 15] 300 (codeZ (mhV false noL mhT) Try.prog (runZ (mhV false noL mhT) Try.prog 12) 12 inr 100000 (bodyIn Try.prog
 12 25) (SL 128 [(1, .bool dr), (9, heA m), (13, nlV), (14, nlV), (15, .bool false)]) [(60, ⟨.dw 2 zHd es, []⟩), (0, ⟨.sw ds, []⟩)] 300 [true, false, false, true])
 =
  (let a6 := (dSub es 0); let a4 := (↑m : Int); let a3 := (setD es 0 [DV.sl 0 none []]); let a2 := (a4 - (1 : Int)); let a7 := (Int.toNat a2); let a5 := (Int.toNat a2 * 2 + 0); let a1 := (setD a3 0 [DV.sl (dLen a3 a5) none (dSub
 a3 a5), DV.fl (Value.int IntKind.i64 (dInt a3 (Int.toNat a2 * 2 + 1)))]); Res.ok ((Xt.normal, 128, [(1, Value.bool dr), (9, Value.slice (some (Addr.mk 60 0 none)) a7 (capBig + 60)), (13, Value.slice none 0 0), (14, Value.slice
 (some (Addr.mk 301 0 none)) (dLen a6 0) (capBig + 301)), (15, Value.bool true)], [(307, Rw.mk (Kd.sw (dSub a3 a5)) []), (306, Rw.mk (Kd.sw []) []), (305, Rw.mk (Kd.sw []) []), (304, Rw.mk (Kd.sw a6) []), (302, Rw.mk Kd.ow (dVals
 a6 1)), (301, Rw.mk Kd.ow (dVals a6 0)), (300, Rw.mk (Kd.sw a6) []), (60, Rw.mk (Kd.dw 2 [Value.slice none 0 0, Value.int IntKind.i64 (0 : Int)] (hdD (dnH a7 (hdOf a1) a7 0))) []), (0, Rw.mk (Kd.sw ds) [])], 308, [60, 60, 60,
 303], []), [], [decide (a4 > (0 : Int)) = true, (0 : Int) ≤ (0 : Int) ∧ (0 : Int) < a4, ShOb Try.prog 27 true true es 0 300, (0 : Int) ≤ (0 : Int) ∧ (0 : Int) < (↑(dLen es 0) : Int), ShOb Try.prog 32 false true a6 0 301, (!dr) =
 false, (!dBool a6 2) = false, (0 : Int) ≤ (0 : Int) ∧ (0 : Int) < a4, ShOb Try.prog 27 true true es 0 304, capBig + 304 = capBig + 304 ∧ (0 : Int) < (1 : Int) ∧ (1 : Int) = (↑(dLen es 0) : Int), (0 : Int) ≤ (0 : Int) ∧ (0 : Int) <
 a4, 1 ≤ List.length es, 0 = 0 → ([] : List DV) = [], (0 : Int) ≤ (0 : Int) ∧ (0 : Int) < a4, ShOb Try.prog 27 true true a3 0 306, true = true, rg IntKind.i64 a2, (0 : Int) ≤ a4 - (1 : Int) ∧ a4 - (1 : Int) < a4, ShOb Try.prog 56
 true true a3 (Int.toNat a2 * 2) 307, (0 : Int) ≤ (0 : Int) ∧ (0 : Int) < a4, 2 ≤ List.length a3, dLen (setD es (ixO 0 (Int.toNat (0 : Int)) 2 + 0) [DV.sl 0 none []]) (ixO 0 a7 2 + 0) = 0 → dSub a3 a5 = [], rg IntKind.i64 a2,
 capBig + 60 = capBig + 60 ∧ (0 : Int) ≤ a4 - (1 : Int) ∧ a4 - (1 : Int) ≤ a4, m * 2 ≤ List.length a1, capBig + 60 = capBig + 60, (0 : Int) ≤ (0 : Int) ∧ DnOk a1 a7 0])) := by
 kernel_rfl
theorem mh_e_Akm (inr : Bool) (m l q : Nat) (dr : Bool) (ds es os : List DV) (ks : List Value) : prjP [1, 9, 13, 14, 15] 300 (codeZ (mhV true noL mhT) Try.prog (runZ (mhV true noL mhT) Try.prog 12) 12 inr 100000 (bodyIn Try.prog
 12 25) (SL 128 [(1, .bool dr), (9, heA m), (13, nlV), (14, nlV), (15, .bool false)]) [(60, ⟨.dw 2 zHd es, []⟩), (0, ⟨.sw ds, []⟩)] 300 [true, false, false, false])
 =
  (let a3 := (↑m : Int); let a2 := (dSub es 0); let a1 := (setD es 0 [DV.sl (dLen es 0 - 1) none (List.drop 3 a2)]); Res.ok ((Xt.normal, 128, [(1, Value.bool dr), (9, Value.slice (some (Addr.mk 60 0 none)) m (capBig + 60)), (13,
 Value.slice none 0 0), (14, Value.slice (some (Addr.mk 301 0 none)) (dLen a2 0) (capBig + 301)), (15, Value.bool true)], [(306, Rw.mk (Kd.sw (dSub a1 0)) []), (305, Rw.mk (Kd.sw (List.drop 3 a2)) []), (304, Rw.mk (Kd.sw a2) []),
 (302, Rw.mk Kd.ow (dVals a2 1)), (301, Rw.mk Kd.ow (dVals a2 0)), (300, Rw.mk (Kd.sw a2) []), (60, Rw.mk (Kd.dw 2 [Value.slice none 0 0, Value.int IntKind.i64 (0 : Int)] (hdD (dnH m (hdOf a1) m 0))) []), (0, Rw.mk (Kd.sw ds) [])],
 307, [60, 60, 303], []), [], [decide (a3 > (0 : Int)) = true, (0 : Int) ≤ (0 : Int) ∧ (0 : Int) < a3, ShOb Try.prog 27 true true es 0 300, (0 : Int) ≤ (0 : Int) ∧ (0 : Int) < (↑(dLen es 0) : Int), ShOb Try.prog 32 false true a2 0
 301, (!dr) = false, (!dBool a2 2) = false, (0 : Int) ≤ (0 : Int) ∧ (0 : Int) < a3, ShOb Try.prog 27 true true es 0 304, capBig + 304 = capBig + 304 ∧ (0 : Int) ≤ (1 : Int) ∧ (1 : Int) < (↑(dLen es 0) : Int), (0 : Int) ≤ (0 : Int)
 ∧ (0 : Int) < a3, 1 ≤ List.length es, sbN (dLen es (ixO 0 (Int.toNat (0 : Int)) 2 + 0 + 0)) (Int.toNat (1 : Int)) = 0 → List.drop 3 a2 = [], (0 : Int) ≤ (0 : Int) ∧ (0 : Int) < a3, ShOb Try.prog 27 true true a1 0 306, ((↑(dLen a1
 0) : Int) == (0 : Int)) = false, capBig + 60 = capBig + 60, (0 : Int) ≤ (0 : Int) ∧ DnOk a1 m 0])) := by
 kernel_rfl
theorem mh_e_Bde (inr : Bool) (m l q : Nat) (dr : Bool) (ds es os : List DV) (ks : List Value) : prjP [1, 9, 13, 14, 15] 300 (codeZ (mhV false noL mhT) Try.prog (runZ (mhV false noL mhT) Try.prog 12) 12 inr 100000 (bodyIn Try.prog
 12 25) (SL 128 [(1, .bool dr), (9, heA m), (13, nlV), (14, ltA l), (15, .bool true)]) [(60, ⟨.dw 2 zHd es, []⟩), (202, ⟨.ow, ks⟩), (0, ⟨.sw ds, []⟩)] 300 [true, false, true, true])
 =
  (let a9 := (↑m : Int); let a7 := (Int.toNat (0 : Int)); let a14 := (dSub es (ixO 0 a7 2 + 0 + 0)); let a5 := (setD es 0 [DV.sl 0 none []]); let a4 := (a9 - (1 : Int)); let a10 := (Int.toNat a4); let a8 := (Int.toNat a4 * 2 + 0);
 let a2 := (dSub es 0); let a13 := (dVals a2 1); let a12 := (dLen a2 0); let a11 := (dVals a2 0); let a6 := (List.take (dLen a2 1) a13); let a3 := (List.take a12 a11); let a1 := (setD a5 0 [DV.sl (dLen a5 a8) none (dSub a5 a8),
 DV.fl (Value.int IntKind.i64 (dInt a5 (Int.toNat a4 * 2 + 1)))]); Res.ok ((Xt.normal, 128, [(1, Value.bool dr), (9, Value.slice (some (Addr.mk 60 0 none)) a10 (capBig + 60)), (13, Value.slice (some (Addr.mk 312 0 none)) 1 (capBig
 + 312)), (14, Value.slice (some (Addr.mk 301 0 none)) a12 (capBig + 301)), (15, Value.bool true)], [(316, Rw.mk (Kd.sw (dSub a5 a8)) []), (315, Rw.mk (Kd.sw []) []), (314, Rw.mk (Kd.sw []) []), (313, Rw.mk (Kd.sw a2) []), (312,
 Rw.mk (Kd.df 3 [Value.slice none 0 0, Value.slice none 0 0, Value.bool false] [DV.sl a12 none (List.map DV.fl a3), DV.sl (dLen a2 1) none (List.map DV.fl a6), DV.fl (Value.bool (dBool a2 2))]) []), (302, Rw.mk Kd.ow a13), (301,
 Rw.mk Kd.ow a11), (300, Rw.mk (Kd.sw a2) []), (60, Rw.mk (Kd.dw 2 [Value.slice none 0 0, Value.int IntKind.i64 (0 : Int)] (hdD (dnH a10 (hdOf a1) a10 0))) []), (202, Rw.mk Kd.ow ks), (0, Rw.mk (Kd.sw ds) [])], 317, [60, 60, 60,
 303], []), [], ((fun (q0 q1 q2 : Prop) => [decide (a9 > (0 : Int)) = true, q0, ShOb Try.prog 27 true true es 0 300, (0 : Int) ≤ (0 : Int) ∧ (0 : Int) < (↑(dLen es 0) : Int), ShOb Try.prog 32 false true a2 0 301, l ≤ List.length
 ks, List.take l ks = List.map (Value.int IntKind.u8) (intsOf (List.take l ks)), q1, List.take a12 a11 = List.map (Value.int IntKind.u8) (intsOf a3), strEq (strOfI (intsOf (List.take l ks))) (strOfI (intsOf a3)) = false, (!dr) =
 true, dLen a2 0 * 1 ≤ 140737488355328 ∧ dLen a2 0 ≤ 9223372036854775807, List.length a3 = dLen a2 0 * 1, ∀ (τ : Sg), renL τ a3 = some a3, q1, all1 a3 = true, dLen a2 1 * 1 ≤ 140737488355328 ∧ dLen a2 1 ≤ 9223372036854775807,
 List.length a6 = dLen a2 1 * 1, ∀ (τ : Sg), renL τ a6 = some a6, dLen a2 1 ≤ List.length a13, all1 a6 = true, 56 ≤ 140737488355328, (∀ (τ : Sg), renL τ a3 = some a3) ∧ (dLen a14 (ixO 0 a7 3 + 0) = 0 → List.take a12 a11 = []), (∀
 (τ : Sg), renL τ a6 = some a6) ∧ (dLen a14 (ixO 0 a7 3 + (0 + 1)) = 0 → List.take (dLen a2 1) a13 = []), 3 ≤ 3, true = true, q0, ShOb Try.prog 27 true true es 0 313, capBig + 313 = capBig + 313 ∧ (0 : Int) < (1 : Int) ∧ (1 : Int)
 = (↑(dLen es 0) : Int), q0, 1 ≤ List.length es, 0 = 0 → ([] : List DV) = [], q0, ShOb Try.prog 27 true true a5 0 315, true = true, q2, (0 : Int) ≤ a9 - (1 : Int) ∧ a9 - (1 : Int) < a9, ShOb Try.prog 56 true true a5 (Int.toNat a4 *
 2) 316, q0, 2 ≤ List.length a5, dLen (setD es (ixO 0 a7 2 + 0) [DV.sl 0 none []]) (ixO 0 a10 2 + 0) = 0 → dSub a5 a8 = [], q2, capBig + 60 = capBig + 60 ∧ (0 : Int) ≤ a9 - (1 : Int) ∧ a9 - (1 : Int) ≤ a9, m * 2 ≤ List.length a1,
 capBig + 60 = capBig + 60, (0 : Int) ≤ (0 : Int) ∧ DnOk a1 a10 0]) ((0 : Int) ≤ (0 : Int) ∧ (0 : Int) < a9) (dLen a2 0 ≤ List.length a11) (rg IntKind.i64 a4)))) := by
 kernel_rfl
theorem mh_e_Bdm (inr : Bool) (m l q : Nat) (dr : Bool) (ds es os : List DV) (ks : List Value) : prjP [1, 9, 13, 14, 15] 300 (codeZ (mhV true noL mhT) Try.prog (runZ (mhV true noL mhT) Try.prog 12) 12 inr 100000 (bodyIn Try.prog
 12 25) (SL 128 [(1, .bool dr), (9, heA m), (13, nlV), (14, ltA l), (15, .bool true)]) [(60, ⟨.dw 2 zHd es, []⟩), (202, ⟨.ow, ks⟩), (0, ⟨.sw ds, []⟩)] 300 [true, false, true, false])
 =
  (let a9 := (↑m : Int); let a5 := (Int.toNat (0 : Int)); let a7 := (ixO 0 a5 2 + 0 + 0); let a1 := (dSub es 0); let a10 := (dVals a1 1); let a8 := (dLen a1 0); let a6 := (dVals a1 0); let a4 := (List.take (dLen a1 1) a10); let a3
 := (setD es 0 [DV.sl (dLen es 0 - 1) none (List.drop 3 a1)]); let a2 := (List.take a8 a6); Res.ok ((Xt.normal, 128, [(1, Value.bool dr), (9, Value.slice (some (Addr.mk 60 0 none)) m (capBig + 60)), (13, Value.slice (some (Addr.mk
 312 0 none)) 1 (capBig + 312)), (14, Value.slice (some (Addr.mk 301 0 none)) a8 (capBig + 301)), (15, Value.bool true)], [(315, Rw.mk (Kd.sw (dSub a3 0)) []), (314, Rw.mk (Kd.sw (List.drop 3 a1)) []), (313, Rw.mk (Kd.sw a1) []),
 (312, Rw.mk (Kd.df 3 [Value.slice none 0 0, Value.slice none 0 0, Value.bool false] [DV.sl a8 none (List.map DV.fl a2), DV.sl (dLen a1 1) none (List.map DV.fl a4), DV.fl (Value.bool (dBool a1 2))]) []), (302, Rw.mk Kd.ow a10),
 (301, Rw.mk Kd.ow a6), (300, Rw.mk (Kd.sw a1) []), (60, Rw.mk (Kd.dw 2 [Value.slice none 0 0, Value.int IntKind.i64 (0 : Int)] (hdD (dnH m (hdOf a3) m 0))) []), (202, Rw.mk Kd.ow ks), (0, Rw.mk (Kd.sw ds) [])], 316, [60, 60, 303],
 []), [], [decide (a9 > (0 : Int)) = true, (0 : Int) ≤ (0 : Int) ∧ (0 : Int) < a9, ShOb Try.prog 27 true true es 0 300, (0 : Int) ≤ (0 : Int) ∧ (0 : Int) < (↑(dLen es 0) : Int), ShOb Try.prog 32 false true a1 0 301, l ≤ List.length
 ks, List.take l ks = List.map (Value.int IntKind.u8) (intsOf (List.take l ks)), dLen a1 0 ≤ List.length a6, List.take a8 a6 = List.map (Value.int IntKind.u8) (intsOf a2), strEq (strOfI (intsOf (List.take l ks))) (strOfI (intsOf
 a2)) = false, (!dr) = true, dLen a1 0 * 1 ≤ 140737488355328 ∧ dLen a1 0 ≤ 9223372036854775807, List.length a2 = dLen a1 0 * 1, ∀ (τ : Sg), renL τ a2 = some a2, dLen a1 0 ≤ List.length a6, all1 a2 = true, dLen a1 1 * 1 ≤
 140737488355328 ∧ dLen a1 1 ≤ 9223372036854775807, List.length a4 = dLen a1 1 * 1, ∀ (τ : Sg), renL τ a4 = some a4, dLen a1 1 ≤ List.length a10, all1 a4 = true, 56 ≤ 140737488355328, (∀ (τ : Sg), renL τ a2 = some a2) ∧ (dLen (dSub
 es a7) (ixO 0 a5 3 + 0) = 0 → List.take a8 a6 = []), (∀ (τ : Sg), renL τ a4 = some a4) ∧ (dLen (dSub es a7) (ixO 0 a5 3 + (0 + 1)) = 0 → List.take (dLen a1 1) a10 = []), 3 ≤ 3, true = true, (0 : Int) ≤ (0 : Int) ∧ (0 : Int) < a9,
 ShOb Try.prog 27 true true es 0 313, capBig + 313 = capBig + 313 ∧ (0 : Int) ≤ (1 : Int) ∧ (1 : Int) < (↑(dLen es 0) : Int), (0 : Int) ≤ (0 : Int) ∧ (0 : Int) < a9, 1 ≤ List.length es, sbN (dLen es a7) (Int.toNat (1 : Int)) = 0 →
 List.drop 3 a1 = [], (0 : Int) ≤ (0 : Int) ∧ (0 : Int) < a9, ShOb Try.prog 27 true true a3 0 315, ((↑(dLen a3 0) : Int) == (0 : Int)) = false, capBig + 60 = capBig + 60, (0 : Int) ≤ (0 : Int) ∧ DnOk a3 m 0])) := by
 kernel_rfl
theorem mh_e_Bge (inr : Bool) (m l q : Nat) (dr : Bool) (ds es os : List DV) (ks : List Value) : prjP [1, 9, 13, 14, 15] 300 (codeZ (mhV false noL mhT) Try.prog (runZ (mhV false noL mhT) Try.prog 12) 12 inr 100000 (bodyIn Try.prog
 12 25) (SL 128 [(1, .bool dr), (9, heA m), (13, nlV), (14, ltA l), (15, .bool true)]) [(60, ⟨.dw 2 zHd es, []⟩), (202, ⟨.ow, ks⟩), (0, ⟨.sw ds, []⟩)] 300 [true, false, false, true, true])
 =
  (let a9 := (↑m : Int); let a7 := (Int.toNat (0 : Int)); let a14 := (dSub es (ixO 0 a7 2 + 0 + 0)); let a5 := (setD es 0 [DV.sl 0 none []]); let a4 := (a9 - (1 : Int)); let a10 := (Int.toNat a4); let a8 := (Int.toNat a4 * 2 + 0);
 let a2 := (dSub es 0); let a13 := (dVals a2 1); let a12 := (dLen a2 0); let a11 := (dVals a2 0); let a6 := (List.take (dLen a2 1) a13); let a3 := (List.take a12 a11); let a1 := (setD a5 0 [DV.sl (dLen a5 a8) none (dSub a5 a8),
 DV.fl (Value.int IntKind.i64 (dInt a5 (Int.toNat a4 * 2 + 1)))]); Res.ok ((Xt.normal, 128, [(1, Value.bool dr), (9, Value.slice (some (Addr.mk 60 0 none)) a10 (capBig + 60)), (13, Value.slice (some (Addr.mk 312 0 none)) 1 (capBig
 + 312)), (14, Value.slice (some (Addr.mk 301 0 none)) a12 (capBig + 301)), (15, Value.bool true)], [(316, Rw.mk (Kd.sw (dSub a5 a8)) []), (315, Rw.mk (Kd.sw []) []), (314, Rw.mk (Kd.sw []) []), (313, Rw.mk (Kd.sw a2) []), (312,
 Rw.mk (Kd.df 3 [Value.slice none 0 0, Value.slice none 0 0, Value.bool false] [DV.sl a12 none (List.map DV.fl a3), DV.sl (dLen a2 1) none (List.map DV.fl a6), DV.fl (Value.bool (dBool a2 2))]) []), (302, Rw.mk Kd.ow a13), (301,
 Rw.mk Kd.ow a11), (300, Rw.mk (Kd.sw a2) []), (60, Rw.mk (Kd.dw 2 [Value.slice none 0 0, Value.int IntKind.i64 (0 : Int)] (hdD (dnH a10 (hdOf a1) a10 0))) []), (202, Rw.mk Kd.ow ks), (0, Rw.mk (Kd.sw ds) [])], 317, [60, 60, 60,
 303], []), [], ((fun (q0 q1 q2 : Prop) => [decide (a9 > (0 : Int)) = true, q0, ShOb Try.prog 27 true true es 0 300, (0 : Int) ≤ (0 : Int) ∧ (0 : Int) < (↑(dLen es 0) : Int), ShOb Try.prog 32 false true a2 0 301, l ≤ List.length
 ks, List.take l ks = List.map (Value.int IntKind.u8) (intsOf (List.take l ks)), q1, List.take a12 a11 = List.map (Value.int IntKind.u8) (intsOf a3), strEq (strOfI (intsOf (List.take l ks))) (strOfI (intsOf a3)) = false, (!dr) =
 false, (!dBool a2 2) = true, dLen a2 0 * 1 ≤ 140737488355328 ∧ dLen a2 0 ≤ 9223372036854775807, List.length a3 = dLen a2 0 * 1, ∀ (τ : Sg), renL τ a3 = some a3, q1, all1 a3 = true, dLen a2 1 * 1 ≤ 140737488355328 ∧ dLen a2 1 ≤
 9223372036854775807, List.length a6 = dLen a2 1 * 1, ∀ (τ : Sg), renL τ a6 = some a6, dLen a2 1 ≤ List.length a13, all1 a6 = true, 56 ≤ 140737488355328, (∀ (τ : Sg), renL τ a3 = some a3) ∧ (dLen a14 (ixO 0 a7 3 + 0) = 0 →
 List.take a12 a11 = []), (∀ (τ : Sg), renL τ a6 = some a6) ∧ (dLen a14 (ixO 0 a7 3 + (0 + 1)) = 0 → List.take (dLen a2 1) a13 = []), 3 ≤ 3, true = true, q0, ShOb Try.prog 27 true true es 0 313, capBig + 313 = capBig + 313 ∧ (0 :
 Int) < (1 : Int) ∧ (1 : Int) = (↑(dLen es 0) : Int), q0, 1 ≤ List.length es, 0 = 0 → ([] : List DV) = [], q0, ShOb Try.prog 27 true true a5 0 315, true = true, q2, (0 : Int) ≤ a9 - (1 : Int) ∧ a9 - (1 : Int) < a9, ShOb Try.prog 56
 true true a5 (Int.toNat a4 * 2) 316, q0, 2 ≤ List.length a5, dLen (setD es (ixO 0 a7 2 + 0) [DV.sl 0 none []]) (ixO 0 a10 2 + 0) = 0 → dSub a5 a8 = [], q2, capBig + 60 = capBig + 60 ∧ (0 : Int) ≤ a9 - (1 : Int) ∧ a9 - (1 : Int) ≤
 a9, m * 2 ≤ List.length a1, capBig + 60 = capBig + 60, (0 : Int) ≤ (0 : Int) ∧ DnOk a1 a10 0]) ((0 : Int) ≤ (0 : Int) ∧ (0 : Int) < a9) (dLen a2 0 ≤ List.length a11) (rg IntKind.i64 a4)))) := by
 kernel_rfl
theorem mh_e_Bgm (inr : Bool) (m l q : Nat) (dr : Bool) (ds es os : List DV) (ks : List Value) : prjP [1, 9, 13, 14, 15] 300 (codeZ (mhV true noL mhT) Try.prog (runZ (mhV true noL mhT) Try.prog 12) 12 inr 100000 (bodyIn Try.prog
 12 25) (SL 128 [(1, .bool dr), (9, heA m), (13, nlV), (14, ltA l), (15, .bool true)]) [(60, ⟨.dw 2 zHd es, []⟩), (202, ⟨.ow, ks⟩), (0, ⟨.sw ds, []⟩)] 300 [true, false, false, true, false])
 =
  (let a9 := (↑m : Int); let a5 := (Int.toNat (0 : Int)); let a7 := (ixO 0 a5 2 + 0 + 0); let a1 := (dSub es 0); let a10 := (dVals a1 1); let a8 := (dLen a1 0); let a6 := (dVals a1 0); let a4 := (List.take (dLen a1 1) a10); let a3
 := (setD es 0 [DV.sl (dLen es 0 - 1) none (List.drop 3 a1)]); let a2 := (List.take a8 a6); Res.ok ((Xt.normal, 128, [(1, Value.bool dr), (9, Value.slice (some (Addr.mk 60 0 none)) m (capBig + 60)), (13, Value.slice (some (Addr.mk
 312 0 none)) 1 (capBig + 312)), (14, Value.slice (some (Addr.mk 301 0 none)) a8 (capBig + 301)), (15, Value.bool true)], [(315, Rw.mk (Kd.sw (dSub a3 0)) []), (314, Rw.mk (Kd.sw (List.drop 3 a1)) []), (313, Rw.mk (Kd.sw a1) []),
 (312, Rw.mk (Kd.df 3 [Value.slice none 0 0, Value.slice none 0 0, Value.bool false] [DV.sl a8 none (List.map DV.fl a2), DV.sl (dLen a1 1) none (List.map DV.fl a4), DV.fl (Value.bool (dBool a1 2))]) []), (302, Rw.mk Kd.ow a10),
 (301, Rw.mk Kd.ow a6), (300, Rw.mk (Kd.sw a1) []), (60, Rw.mk (Kd.dw 2 [Value.slice none 0 0, Value.int IntKind.i64 (0 : Int)] (hdD (dnH m (hdOf a3) m 0))) []), (202, Rw.mk Kd.ow ks), (0, Rw.mk (Kd.sw ds) [])], 316, [60, 60, 303],
 []), [], [decide (a9 > (0 : Int)) = true, (0 : Int) ≤ (0 : Int) ∧ (0 : Int) < a9, ShOb Try.prog 27 true true es 0 300, (0 : Int) ≤ (0 : Int) ∧ (0 : Int) < (↑(dLen es 0) : Int), ShOb Try.prog 32 false true a1 0 301, l ≤ List.length
 ks, List.take l ks = List.map (Value.int IntKind.u8) (intsOf (List.take l ks)), dLen a1 0 ≤ List.length a6, List.take a8 a6 = List.map (Value.int IntKind.u8) (intsOf a2), strEq (strOfI (intsOf (List.take l ks))) (strOfI (intsOf
 a2)) = false, (!dr) = false, (!dBool a1 2) = true, dLen a1 0 * 1 ≤ 140737488355328 ∧ dLen a1 0 ≤ 9223372036854775807, List.length a2 = dLen a1 0 * 1, ∀ (τ : Sg), renL τ a2 = some a2, dLen a1 0 ≤ List.length a6, all1 a2 = true,
 dLen a1 1 * 1 ≤ 140737488355328 ∧ dLen a1 1 ≤ 9223372036854775807, List.length a4 = dLen a1 1 * 1, ∀ (τ : Sg), renL τ a4 = some a4, dLen a1 1 ≤ List.length a10, all1 a4 = true, 56 ≤ 140737488355328, (∀ (τ : Sg), renL τ a2 = some
 a2) ∧ (dLen (dSub es a7) (ixO 0 a5 3 + 0) = 0 → List.take a8 a6 = []), (∀ (τ : Sg), renL τ a4 = some a4) ∧ (dLen (dSub es a7) (ixO 0 a5 3 + (0 + 1)) = 0 → List.take (dLen a1 1) a10 = []), 3 ≤ 3, true = true, (0 : Int) ≤ (0 : Int)
 ∧ (0 : Int) < a9, ShOb Try.prog 27 true true es 0 313, capBig + 313 = capBig + 313 ∧ (0 : Int) ≤ (1 : Int) ∧ (1 : Int) < (↑(dLen es 0) : Int), (0 : Int) ≤ (0 : Int) ∧ (0 : Int) < a9, 1 ≤ List.length es, sbN (dLen es a7) (Int.toNat
 (1 : Int)) = 0 → List.drop 3 a1 = [], (0 : Int) ≤ (0 : Int) ∧ (0 : Int) < a9, ShOb Try.prog 27 true true a3 0 315, ((↑(dLen a3 0) : Int) == (0 : Int)) = false, capBig + 60 = capBig + 60, (0 : Int) ≤ (0 : Int) ∧ DnOk a3 m 0])) :=
 by
 kernel_rfl
theorem mh_e_Bke (inr : Bool) (m l q : Nat) (dr : Bool) (ds es os : List DV) (ks : List Value) : prjP [1, 9, 13, 14, 15] 300 (codeZ (mhV false noL mhT) Try.prog (runZ (mhV false noL mhT) Try.prog 12) 12 inr 100000 (bodyIn Try.prog
 12 25) (SL 128 [(1, .bool dr), (9, heA m), (13, nlV), (14, ltA l), (15, .bool true)]) [(60, ⟨.dw 2 zHd es, []⟩), (202, ⟨.ow, ks⟩), (0, ⟨.sw ds, []⟩)] 300 [true, false, false, false, true])
 =
  (let a5 := (↑m : Int); let a4 := (dSub es 0); let a9 := (dVals a4 0); let a8 := (intsOf (List.take (dLen a4 0) a9)); let a3 := (setD es 0 [DV.sl 0 none []]); let a2 := (a5 - (1 : Int)); let a7 := (Int.toNat a2); let a6 :=
 (Int.toNat a2 * 2 + 0); let a1 := (setD a3 0 [DV.sl (dLen a3 a6) none (dSub a3 a6), DV.fl (Value.int IntKind.i64 (dInt a3 (Int.toNat a2 * 2 + 1)))]); Res.ok ((Xt.normal, 128, [(1, Value.bool dr), (9, Value.slice (some (Addr.mk 60
 0 none)) a7 (capBig + 60)), (13, Value.slice none 0 0), (14, Value.slice (some (Addr.mk 301 0 none)) (dLen a4 0) (capBig + 301)), (15, Value.bool true)], [(307, Rw.mk (Kd.sw (dSub a3 a6)) []), (306, Rw.mk (Kd.sw []) []), (305,
 Rw.mk (Kd.sw []) []), (304, Rw.mk (Kd.sw a4) []), (302, Rw.mk Kd.ow (dVals a4 1)), (301, Rw.mk Kd.ow a9), (300, Rw.mk (Kd.sw a4) []), (60, Rw.mk (Kd.dw 2 [Value.slice none 0 0, Value.int IntKind.i64 (0 : Int)] (hdD (dnH a7 (hdOf
 a1) a7 0))) []), (202, Rw.mk Kd.ow ks), (0, Rw.mk (Kd.sw ds) [])], 308, [60, 60, 60, 303], []), [], [decide (a5 > (0 : Int)) = true, (0 : Int) ≤ (0 : Int) ∧ (0 : Int) < a5, ShOb Try.prog 27 true true es 0 300, (0 : Int) ≤ (0 :
 Int) ∧ (0 : Int) < (↑(dLen es 0) : Int), ShOb Try.prog 32 false true a4 0 301, l ≤ List.length ks, List.take l ks = List.map (Value.int IntKind.u8) (intsOf (List.take l ks)), dLen a4 0 ≤ List.length a9, List.take (dLen a4 0) a9 =
 List.map (Value.int IntKind.u8) a8, strEq (strOfI (intsOf (List.take l ks))) (strOfI a8) = false, (!dr) = false, (!dBool a4 2) = false, (0 : Int) ≤ (0 : Int) ∧ (0 : Int) < a5, ShOb Try.prog 27 true true es 0 304, capBig + 304 =
 capBig + 304 ∧ (0 : Int) < (1 : Int) ∧ (1 : Int) = (↑(dLen es 0) : Int), (0 : Int) ≤ (0 : Int) ∧ (0 : Int) < a5, 1 ≤ List.length es, 0 = 0 → ([] : List DV) = [], (0 : Int) ≤ (0 : Int) ∧ (0 : Int) < a5, ShOb Try.prog 27 true true
 a3 0 306, true = true, rg IntKind.i64 a2, (0 : Int) ≤ a5 - (1 : Int) ∧ a5 - (1 : Int) < a5, ShOb Try.prog 56 true true a3 (Int.toNat a2 * 2) 307, (0 : Int) ≤ (0 : Int) ∧ (0 : Int) < a5, 2 ≤ List.length a3, dLen (setD es (ixO 0
 (Int.toNat (0 : Int)) 2 + 0) [DV.sl 0 none []]) (ixO 0 a7 2 + 0) = 0 → dSub a3 a6 = [], rg IntKind.i64 a2, capBig + 60 = capBig + 60 ∧ (0 : Int) ≤ a5 - (1 : Int) ∧ a5 - (1 : Int) ≤ a5, m * 2 ≤ List.length a1, capBig + 60 = capBig
 + 60, (0 : Int) ≤ (0 : Int) ∧ DnOk a1 a7 0])) := by
 kernel_rfl
theorem mh_e_Bkm (inr : Bool) (m l q : Nat) (dr : Bool) (ds es os : List DV) (ks : List Value) : prjP [1, 9, 13, 14, 15] 300 (codeZ (mhV true noL mhT) Try.prog (runZ (mhV true noL mhT) Try.prog 12) 12 inr 100000 (bodyIn Try.prog
 12 25) (SL 128 [(1, .bool dr), (9, heA m), (13, nlV), (14, ltA l), (15, .bool true)]) [(60, ⟨.dw 2 zHd es, []⟩), (202, ⟨.ow, ks⟩), (0, ⟨.sw ds, []⟩)] 300 [true, false, false, false, false])
 =
  (let a4 := (↑m : Int); let a2 := (dSub es 0); let a5 := (dVals a2 0); let a3 := (intsOf (List.take (dLen a2 0) a5)); let a1 := (setD es 0 [DV.sl (dLen es 0 - 1) none (List.drop 3 a2)]); Res.ok ((Xt.normal, 128, [(1, Value.bool
 dr), (9, Value.slice (some (Addr.mk 60 0 none)) m (capBig + 60)), (13, Value.slice none 0 0), (14, Value.slice (some (Addr.mk 301 0 none)) (dLen a2 0) (capBig + 301)), (15, Value.bool true)], [(306, Rw.mk (Kd.sw (dSub a1 0)) []),
 (305, Rw.mk (Kd.sw (List.drop 3 a2)) []), (304, Rw.mk (Kd.sw a2) []), (302, Rw.mk Kd.ow (dVals a2 1)), (301, Rw.mk Kd.ow a5), (300, Rw.mk (Kd.sw a2) []), (60, Rw.mk (Kd.dw 2 [Value.slice none 0 0, Value.int IntKind.i64 (0 : Int)]
 (hdD (dnH m (hdOf a1) m 0))) []), (202, Rw.mk Kd.ow ks), (0, Rw.mk (Kd.sw ds) [])], 307, [60, 60, 303], []), [], [decide (a4 > (0 : Int)) = true, (0 : Int) ≤ (0 : Int) ∧ (0 : Int) < a4, ShOb Try.prog 27 true true es 0 300, (0 :
 Int) ≤ (0 : Int) ∧ (0 : Int) < (↑(dLen es 0) : Int), ShOb Try.prog 32 false true a2 0 301, l ≤ List.length ks, List.take l ks = List.map (Value.int IntKind.u8) (intsOf (List.take l ks)), dLen a2 0 ≤ List.length a5, List.take (dLen
 a2 0) a5 = List.map (Value.int IntKind.u8) a3, strEq (strOfI (intsOf (List.take l ks))) (strOfI a3) = false, (!dr) = false, (!dBool a2 2) = false, (0 : Int) ≤ (0 : Int) ∧ (0 : Int) < a4, ShOb Try.prog 27 true true es 0 304, capBig
 + 304 = capBig + 304 ∧ (0 : Int) ≤ (1 : Int) ∧ (1 : Int) < (↑(dLen es 0) : Int), (0 : Int) ≤ (0 : Int) ∧ (0 : Int) < a4, 1 ≤ List.length es, sbN (dLen es (ixO 0 (Int.toNat (0 : Int)) 2 + 0 + 0)) (Int.toNat (1 : Int)) = 0 →
 List.drop 3 a2 = [], (0 : Int) ≤ (0 : Int) ∧ (0 : Int) < a4, ShOb Try.prog 27 true true a1 0 306, ((↑(dLen a1 0) : Int) == (0 : Int)) = false, capBig + 60 = capBig + 60, (0 : Int) ≤ (0 : Int) ∧ DnOk a1 m 0])) := by
 kernel_rfl
theorem mh_e_Bqe (inr : Bool) (m l q : Nat) (dr : Bool) (ds es os : List DV) (ks : List Value) : prjP [1, 9, 13, 14, 15] 300 (codeZ (mhV false noL mhT) Try.prog (runZ (mhV false noL mhT) Try.prog 12) 12 inr 100000 (bodyIn Try.prog
 12 25) (SL 128 [(1, .bool dr), (9, heA m), (13, nlV), (14, ltA l), (15, .bool true)]) [(60, ⟨.dw 2 zHd es, []⟩), (202, ⟨.ow, ks⟩), (0, ⟨.sw ds, []⟩)] 300 [true, true, true])
 =
  (let a5 := (↑m : Int); let a4 := (dSub es 0); let a9 := (dVals a4 0); let a8 := (intsOf (List.take (dLen a4 0) a9)); let a3 := (setD es 0 [DV.sl 0 none []]); let a2 := (a5 - (1 : Int)); let a7 := (Int.toNat a2); let a6 :=
 (Int.toNat a2 * 2 + 0); let a1 := (setD a3 0 [DV.sl (dLen a3 a6) none (dSub a3 a6), DV.fl (Value.int IntKind.i64 (dInt a3 (Int.toNat a2 * 2 + 1)))]); Res.ok ((Xt.normal, 128, [(1, Value.bool dr), (9, Value.slice (some (Addr.mk 60
 0 none)) a7 (capBig + 60)), (13, Value.slice none 0 0), (14, Value.slice (some (Addr.mk 202 0 none)) l (capBig + 202)), (15, Value.bool true)], [(307, Rw.mk (Kd.sw (dSub a3 a6)) []), (306, Rw.mk (Kd.sw []) []), (305, Rw.mk (Kd.sw
 []) []), (304, Rw.mk (Kd.sw a4) []), (302, Rw.mk Kd.ow (dVals a4 1)), (301, Rw.mk Kd.ow a9), (300, Rw.mk (Kd.sw a4) []), (60, Rw.mk (Kd.dw 2 [Value.slice none 0 0, Value.int IntKind.i64 (0 : Int)] (hdD (dnH a7 (hdOf a1) a7 0)))
 []), (202, Rw.mk Kd.ow ks), (0, Rw.mk (Kd.sw ds) [])], 308, [60, 60, 60, 303], []), [], [decide (a5 > (0 : Int)) = true, (0 : Int) ≤ (0 : Int) ∧ (0 : Int) < a5, ShOb Try.prog 27 true true es 0 300, (0 : Int) ≤ (0 : Int) ∧ (0 :
 Int) < (↑(dLen es 0) : Int), ShOb Try.prog 32 false true a4 0 301, l ≤ List.length ks, List.take l ks = List.map (Value.int IntKind.u8) (intsOf (List.take l ks)), dLen a4 0 ≤ List.length a9, List.take (dLen a4 0) a9 = List.map
 (Value.int IntKind.u8) a8, strEq (strOfI (intsOf (List.take l ks))) (strOfI a8) = true, (0 : Int) ≤ (0 : Int) ∧ (0 : Int) < a5, ShOb Try.prog 27 true true es 0 304, capBig + 304 = capBig + 304 ∧ (0 : Int) < (1 : Int) ∧ (1 : Int) =
 (↑(dLen es 0) : Int), (0 : Int) ≤ (0 : Int) ∧ (0 : Int) < a5, 1 ≤ List.length es, 0 = 0 → ([] : List DV) = [], (0 : Int) ≤ (0 : Int) ∧ (0 : Int) < a5, ShOb Try.prog 27 true true a3 0 306, true = true, rg IntKind.i64 a2, (0 : Int)
 ≤ a5 - (1 : Int) ∧ a5 - (1 : Int) < a5, ShOb Try.prog 56 true true a3 (Int.toNat a2 * 2) 307, (0 : Int) ≤ (0 : Int) ∧ (0 : Int) < a5, 2 ≤ List.length a3, dLen (setD es (ixO 0 (Int.toNat (0 : Int)) 2 + 0) [DV.sl 0 none []]) (ixO 0
 a7 2 + 0) = 0 → dSub a3 a6 = [], rg IntKind.i64 a2, capBig + 60 = capBig + 60 ∧ (0 : Int) ≤ a5 - (1 : Int) ∧ a5 - (1 : Int) ≤ a5, m * 2 ≤ List.length a1, capBig + 60 = capBig + 60, (0 : Int) ≤ (0 : Int) ∧ DnOk a1 a7 0])) := by
 kernel_rfl
theorem mh_e_Bqm (inr : Bool) (m l q : Nat) (dr : Bool) (ds es os : List DV) (ks : List Value) : prjP [1, 9, 13, 14, 15] 300 (codeZ (mhV true noL mhT) Try.prog (runZ (mhV true noL mhT) Try.prog 12) 12 inr 100000 (bodyIn Try.prog
 12 25) (SL 128 [(1, .bool dr), (9, heA m), (13, nlV), (14, ltA l), (15, .bool true)]) [(60, ⟨.dw 2 zHd es, []⟩), (202, ⟨.ow, ks⟩), (0, ⟨.sw ds, []⟩)] 300 [true, true, false])
 =
  (let a4 := (↑m : Int); let a2 := (dSub es 0); let a5 := (dVals a2 0); let a3 := (intsOf (List.take (dLen a2 0) a5)); let a1 := (setD es 0 [DV.sl (dLen es 0 - 1) none (List.drop 3 a2)]); Res.ok ((Xt.normal, 128, [(1, Value.bool
 dr), (9, Value.slice (some (Addr.mk 60 0 none)) m (capBig + 60)), (13, Value.slice none 0 0), (14, Value.slice (some (Addr.mk 202 0 none)) l (capBig + 202)), (15, Value.bool true)], [(306, Rw.mk (Kd.sw (dSub a1 0)) []), (305,
 Rw.mk (Kd.sw (List.drop 3 a2)) []), (304, Rw.mk (Kd.sw a2) []), (302, Rw.mk Kd.ow (dVals a2 1)), (301, Rw.mk Kd.ow a5), (300, Rw.mk (Kd.sw a2) []), (60, Rw.mk (Kd.dw 2 [Value.slice none 0 0, Value.int IntKind.i64 (0 : Int)] (hdD
 (dnH m (hdOf a1) m 0))) []), (202, Rw.mk Kd.ow ks), (0, Rw.mk (Kd.sw ds) [])], 307, [60, 60, 303], []), [], [decide (a4 > (0 : Int)) = true, (0 : Int) ≤ (0 : Int) ∧ (0 : Int) < a4, ShOb Try.prog 27 true true es 0 300, (0 : Int) ≤
 (0 : Int) ∧ (0 : Int) < (↑(dLen es 0) : Int), ShOb Try.prog 32 false true a2 0 301, l ≤ List.length ks, List.take l ks = List.map (Value.int IntKind.u8) (intsOf (List.take l ks)), dLen a2 0 ≤ List.length a5, List.take (dLen a2 0)
 a5 = List.map (Value.int IntKind.u8) a3, strEq (strOfI (intsOf (List.take l ks))) (strOfI a3) = true, (0 : Int) ≤ (0 : Int) ∧ (0 : Int) < a4, ShOb Try.prog 27 true true es 0 304, capBig + 304 = capBig + 304 ∧ (0 : Int) ≤ (1 : Int)
 ∧ (1 : Int) < (↑(dLen es 0) : Int), (0 : Int) ≤ (0 : Int) ∧ (0 : Int) < a4, 1 ≤ List.length es, sbN (dLen es (ixO 0 (Int.toNat (0 : Int)) 2 + 0 + 0)) (Int.toNat (1 : Int)) = 0 → List.drop 3 a2 = [], (0 : Int) ≤ (0 : Int) ∧ (0 :
 Int) < a4, ShOb Try.prog 27 true true a1 0 306, ((↑(dLen a1 0) : Int) == (0 : Int)) = false, capBig + 60 = capBig + 60, (0 : Int) ≤ (0 : Int) ∧ DnOk a1 m 0])) := by
 kernel_rfl
theorem mh_e_Bx (inr : Bool) (m l q : Nat) (dr : Bool) (ds es os : List DV) (ks : List Value) : prjP [13] 300 (codeZ (mhV true noL mhT) Try.prog (runZ (mhV true noL mhT) Try.prog 12) 12 inr 100000 (bodyIn Try.prog 12 25) (SL 128 [(1, .bool dr), (9, heA m), (13, nlV), (14, ltA l), (15, .bool true)]) [(60, ⟨.dw 2 zHd es, []⟩), (202, ⟨.ow, ks⟩), (0, ⟨.sw ds, []⟩)] 300 [false]) =
  Res.ok ((Xt.exit 6, 128, [(13, Value.slice none 0 0)], [(60, Rw.mk (Kd.dw 2 [Value.slice none 0 0, Value.int IntKind.i64 (0 : Int)] es) []), (202, Rw.mk Kd.ow ks), (0, Rw.mk (Kd.sw ds) [])], 300, [], []), [], [decide ((↑m
 : Int) > (0 : Int)) = false]) := by kernel_rfl
theorem mh_e_Cde (inr : Bool) (m l q : Nat) (dr : Bool) (ds es os : List DV) (ks : List Value) : prjP [1, 9, 13, 14, 15] 300 (codeZ (mhV false noL mhT) Try.prog (runZ (mhV false noL mhT) Try.prog 12) 12 inr 100000 (bodyIn Try.prog
 12 25) (SL 128 [(1, .bool dr), (9, heA m), (13, ouA q), (14, ltA l), (15, .bool true)]) [(60, ⟨.dw 2 zHd es, []⟩), (200, ⟨.df 3 zPr os, []⟩), (202, ⟨.ow, ks⟩), (0, ⟨.sw ds, []⟩)] 300 [true, false, true, true])
 =
  (let a9 := (↑m : Int); let a7 := (Int.toNat (0 : Int)); let a14 := (dSub es (ixO 0 a7 2 + 0 + 0)); let a5 := (setD es 0 [DV.sl 0 none []]); let a4 := (a9 - (1 : Int)); let a10 := (Int.toNat a4); let a8 := (Int.toNat a4 * 2 + 0);
 let a2 := (dSub es 0); let a13 := (dVals a2 1); let a12 := (dLen a2 0); let a11 := (dVals a2 0); let a6 := (List.take (dLen a2 1) a13); let a3 := (List.take a12 a11); let a1 := (setD a5 0 [DV.sl (dLen a5 a8) none (dSub a5 a8),
 DV.fl (Value.int IntKind.i64 (dInt a5 (Int.toNat a4 * 2 + 1)))]); Res.ok ((Xt.normal, 128, [(1, Value.bool dr), (9, Value.slice (some (Addr.mk 60 0 none)) a10 (capBig + 60)), (13, Value.slice (some (Addr.mk 312 0 none)) (q + 1)
 (capBig + 312)), (14, Value.slice (some (Addr.mk 301 0 none)) a12 (capBig + 301)), (15, Value.bool true)], [(316, Rw.mk (Kd.sw (dSub a5 a8)) []), (315, Rw.mk (Kd.sw []) []), (314, Rw.mk (Kd.sw []) []), (313, Rw.mk (Kd.sw a2) []),
 (312, Rw.mk (Kd.df 3 [Value.slice none 0 0, Value.slice none 0 0, Value.bool false] (os ++ [DV.sl a12 none (List.map DV.fl a3), DV.sl (dLen a2 1) none (List.map DV.fl a6), DV.fl (Value.bool (dBool a2 2))])) []), (302, Rw.mk Kd.ow
 a13), (301, Rw.mk Kd.ow a11), (300, Rw.mk (Kd.sw a2) []), (60, Rw.mk (Kd.dw 2 [Value.slice none 0 0, Value.int IntKind.i64 (0 : Int)] (hdD (dnH a10 (hdOf a1) a10 0))) []), (202, Rw.mk Kd.ow ks), (0, Rw.mk (Kd.sw ds) [])], 317,
 [60, 60, 60, 200, 303], []), [], ((fun (q0 q1 q2 : Prop) => [decide (a9 > (0 : Int)) = true, q0, ShOb Try.prog 27 true true es 0 300, (0 : Int) ≤ (0 : Int) ∧ (0 : Int) < (↑(dLen es 0) : Int), ShOb Try.prog 32 false true a2 0 301,
 l ≤ List.length ks, List.take l ks = List.map (Value.int IntKind.u8) (intsOf (List.take l ks)), q1, List.take a12 a11 = List.map (Value.int IntKind.u8) (intsOf a3), strEq (strOfI (intsOf (List.take l ks))) (strOfI (intsOf a3)) =
 false, (!dr) = true, dLen a2 0 * 1 ≤ 140737488355328 ∧ dLen a2 0 ≤ 9223372036854775807, List.length a3 = dLen a2 0 * 1, ∀ (τ : Sg), renL τ a3 = some a3, q1, all1 a3 = true, dLen a2 1 * 1 ≤ 140737488355328 ∧ dLen a2 1 ≤
 9223372036854775807, List.length a6 = dLen a2 1 * 1, ∀ (τ : Sg), renL τ a6 = some a6, dLen a2 1 ≤ List.length a13, all1 a6 = true, capBig + 200 = capBig + 200 ∧ List.length os = q * 3, (q + 1) * 56 ≤ 140737488355328 ∧ q + 1 ≤
 9223372036854775807, (∀ (τ : Sg), renL τ a3 = some a3) ∧ (dLen a14 (ixO 0 a7 3 + 0) = 0 → List.take a12 a11 = []), (∀ (τ : Sg), renL τ a6 = some a6) ∧ (dLen a14 (ixO 0 a7 3 + (0 + 1)) = 0 → List.take (dLen a2 1) a13 = []), 3 ≤ 3,
 true = true, q0, ShOb Try.prog 27 true true es 0 313, capBig + 313 = capBig + 313 ∧ (0 : Int) < (1 : Int) ∧ (1 : Int) = (↑(dLen es 0) : Int), q0, 1 ≤ List.length es, 0 = 0 → ([] : List DV) = [], q0, ShOb Try.prog 27 true true a5 0
 315, true = true, q2, (0 : Int) ≤ a9 - (1 : Int) ∧ a9 - (1 : Int) < a9, ShOb Try.prog 56 true true a5 (Int.toNat a4 * 2) 316, q0, 2 ≤ List.length a5, dLen (setD es (ixO 0 a7 2 + 0) [DV.sl 0 none []]) (ixO 0 a10 2 + 0) = 0 → dSub
 a5 a8 = [], q2, capBig + 60 = capBig + 60 ∧ (0 : Int) ≤ a9 - (1 : Int) ∧ a9 - (1 : Int) ≤ a9, m * 2 ≤ List.length a1, capBig + 60 = capBig + 60, (0 : Int) ≤ (0 : Int) ∧ DnOk a1 a10 0]) ((0 : Int) ≤ (0 : Int) ∧ (0 : Int) < a9)
 (dLen a2 0 ≤ List.length a11) (rg IntKind.i64 a4)))) := by
 kernel_rfl
theorem mh_e_Cdm (inr : Bool) (m l q : Nat) (dr : Bool) (ds es os : List DV) (ks : List Value) : prjP [1, 9, 13, 14, 15] 300 (codeZ (mhV true noL mhT) Try.prog (runZ (mhV true noL mhT) Try.prog 12) 12 inr 100000 (bodyIn Try.prog
 12 25) (SL 128 [(1, .bool dr), (9, heA m), (13, ouA q), (14, ltA l), (15, .bool true)]) [(60, ⟨.dw 2 zHd es, []⟩), (200, ⟨.df 3 zPr os, []⟩), (202, ⟨.ow, ks⟩), (0, ⟨.sw ds, []⟩)] 300 [true, false, true, false])
 =
  (let a9 := (↑m : Int); let a5 := (Int.toNat (0 : Int)); let a7 := (ixO 0 a5 2 + 0 + 0); let a1 := (dSub es 0); let a10 := (dVals a1 1); let a8 := (dLen a1 0); let a6 := (dVals a1 0); let a4 := (List.take (dLen a1 1) a10); let a3
 := (setD es 0 [DV.sl (dLen es 0 - 1) none (List.drop 3 a1)]); let a2 := (List.take a8 a6); Res.ok ((Xt.normal, 128, [(1, Value.bool dr), (9, Value.slice (some (Addr.mk 60 0 none)) m (capBig + 60)), (13, Value.slice (some (Addr.mk
 312 0 none)) (q + 1) (capBig + 312)), (14, Value.slice (some (Addr.mk 301 0 none)) a8 (capBig + 301)), (15, Value.bool true)], [(315, Rw.mk (Kd.sw (dSub a3 0)) []), (314, Rw.mk (Kd.sw (List.drop 3 a1)) []), (313, Rw.mk (Kd.sw a1)
 []), (312, Rw.mk (Kd.df 3 [Value.slice none 0 0, Value.slice none 0 0, Value.bool false] (os ++ [DV.sl a8 none (List.map DV.fl a2), DV.sl (dLen a1 1) none (List.map DV.fl a4), DV.fl (Value.bool (dBool a1 2))])) []), (302, Rw.mk
 Kd.ow a10), (301, Rw.mk Kd.ow a6), (300, Rw.mk (Kd.sw a1) []), (60, Rw.mk (Kd.dw 2 [Value.slice none 0 0, Value.int IntKind.i64 (0 : Int)] (hdD (dnH m (hdOf a3) m 0))) []), (202, Rw.mk Kd.ow ks), (0, Rw.mk (Kd.sw ds) [])], 316,
 [60, 60, 200, 303], []), [], [decide (a9 > (0 : Int)) = true, (0 : Int) ≤ (0 : Int) ∧ (0 : Int) < a9, ShOb Try.prog 27 true true es 0 300, (0 : Int) ≤ (0 : Int) ∧ (0 : Int) < (↑(dLen es 0) : Int), ShOb Try.prog 32 false true a1 0
 301, l ≤ List.length ks, List.take l ks = List.map (Value.int IntKind.u8) (intsOf (List.take l ks)), dLen a1 0 ≤ List.length a6, List.take a8 a6 = List.map (Value.int IntKind.u8) (intsOf a2), strEq (strOfI (intsOf (List.take l
 ks))) (strOfI (intsOf a2)) = false, (!dr) = true, dLen a1 0 * 1 ≤ 140737488355328 ∧ dLen a1 0 ≤ 9223372036854775807, List.length a2 = dLen a1 0 * 1, ∀ (τ : Sg), renL τ a2 = some a2, dLen a1 0 ≤ List.length a6, all1 a2 = true, dLen
 a1 1 * 1 ≤ 140737488355328 ∧ dLen a1 1 ≤ 9223372036854775807, List.length a4 = dLen a1 1 * 1, ∀ (τ : Sg), renL τ a4 = some a4, dLen a1 1 ≤ List.length a10, all1 a4 = true, capBig + 200 = capBig + 200 ∧ List.length os = q * 3, (q +
 1) * 56 ≤ 140737488355328 ∧ q + 1 ≤ 9223372036854775807, (∀ (τ : Sg), renL τ a2 = some a2) ∧ (dLen (dSub es a7) (ixO 0 a5 3 + 0) = 0 → List.take a8 a6 = []), (∀ (τ : Sg), renL τ a4 = some a4) ∧ (dLen (dSub es a7) (ixO 0 a5 3 + (0
 + 1)) = 0 → List.take (dLen a1 1) a10 = []), 3 ≤ 3, true = true, (0 : Int) ≤ (0 : Int) ∧ (0 : Int) < a9, ShOb Try.prog 27 true true es 0 313, capBig + 313 = capBig + 313 ∧ (0 : Int) ≤ (1 : Int) ∧ (1 : Int) < (↑(dLen es 0) : Int),
 (0 : Int) ≤ (0 : Int) ∧ (0 : Int) < a9, 1 ≤ List.length es, sbN (dLen es a7) (Int.toNat (1 : Int)) = 0 → List.drop 3 a1 = [], (0 : Int) ≤ (0 : Int) ∧ (0 : Int) < a9, ShOb Try.prog 27 true true a3 0 315, ((↑(dLen a3 0) : Int) == (0
 : Int)) = false, capBig + 60 = capBig + 60, (0 : Int) ≤ (0 : Int) ∧ DnOk a3 m 0])) := by
 kernel_rfl
theorem mh_e_Cge (inr : Bool) (m l q : Nat) (dr : Bool) (ds es os : List DV) (ks : List Value) : prjP [1, 9, 13, 14, 15] 300 (codeZ (mhV false noL mhT) Try.prog (runZ (mhV false noL mhT) Try.prog 12) 12 inr 100000 (bodyIn Try.prog
 12 25) (SL 128 [(1, .bool dr), (9, heA m), (13, ouA q), (14, ltA l), (15, .bool true)]) [(60, ⟨.dw 2 zHd es, []⟩), (200, ⟨.df 3 zPr os, []⟩), (202, ⟨.ow, ks⟩), (0, ⟨.sw ds, []⟩)] 300 [true, false, false, true, true])
 =
  (let a9 := (↑m : Int); let a7 := (Int.toNat (0 : Int)); let a14 := (dSub es (ixO 0 a7 2 + 0 + 0)); let a5 := (setD es 0 [DV.sl 0 none []]); let a4 := (a9 - (1 : Int)); let a10 := (Int.toNat a4); let a8 := (Int.toNat a4 * 2 + 0);
 let a2 := (dSub es 0); let a13 := (dVals a2 1); let a12 := (dLen a2 0); let a11 := (dVals a2 0); let a6 := (List.take (dLen a2 1) a13); let a3 := (List.take a12 a11); let a1 := (setD a5 0 [DV.sl (dLen a5 a8) none (dSub a5 a8),
 DV.fl (Value.int IntKind.i64 (dInt a5 (Int.toNat a4 * 2 + 1)))]); Res.ok ((Xt.normal, 128, [(1, Value.bool dr), (9, Value.slice (some (Addr.mk 60 0 none)) a10 (capBig + 60)), (13, Value.slice (some (Addr.mk 312 0 none)) (q + 1)
 (capBig + 312)), (14, Value.slice (some (Addr.mk 301 0 none)) a12 (capBig + 301)), (15, Value.bool true)], [(316, Rw.mk (Kd.sw (dSub a5 a8)) []), (315, Rw.mk (Kd.sw []) []), (314, Rw.mk (Kd.sw []) []), (313, Rw.mk (Kd.sw a2) []),
 (312, Rw.mk (Kd.df 3 [Value.slice none 0 0, Value.slice none 0 0, Value.bool false] (os ++ [DV.sl a12 none (List.map DV.fl a3), DV.sl (dLen a2 1) none (List.map DV.fl a6), DV.fl (Value.bool (dBool a2 2))])) []), (302, Rw.mk Kd.ow
 a13), (301, Rw.mk Kd.ow a11), (300, Rw.mk (Kd.sw a2) []), (60, Rw.mk (Kd.dw 2 [Value.slice none 0 0, Value.int IntKind.i64 (0 : Int)] (hdD (dnH a10 (hdOf a1) a10 0))) []), (202, Rw.mk Kd.ow ks), (0, Rw.mk (Kd.sw ds) [])], 317,
 [60, 60, 60, 200, 303], []), [], ((fun (q0 q1 q2 : Prop) => [decide (a9 > (0 : Int)) = true, q0, ShOb Try.prog 27 true true es 0 300, (0 : Int) ≤ (0 : Int) ∧ (0 : Int) < (↑(dLen es 0) : Int), ShOb Try.prog 32 false true a2 0 301,
 l ≤ List.length ks, List.take l ks = List.map (Value.int IntKind.u8) (intsOf (List.take l ks)), q1, List.take a12 a11 = List.map (Value.int IntKind.u8) (intsOf a3), strEq (strOfI (intsOf (List.take l ks))) (strOfI (intsOf a3)) =
 false, (!dr) = false, (!dBool a2 2) = true, dLen a2 0 * 1 ≤ 140737488355328 ∧ dLen a2 0 ≤ 9223372036854775807, List.length a3 = dLen a2 0 * 1, ∀ (τ : Sg), renL τ a3 = some a3, q1, all1 a3 = true, dLen a2 1 * 1 ≤ 140737488355328 ∧
 dLen a2 1 ≤ 9223372036854775807, List.length a6 = dLen a2 1 * 1, ∀ (τ : Sg), renL τ a6 = some a6, dLen a2 1 ≤ List.length a13, all1 a6 = true, capBig + 200 = capBig + 200 ∧ List.length os = q * 3, (q + 1) * 56 ≤ 140737488355328 ∧
 q + 1 ≤ 9223372036854775807, (∀ (τ : Sg), renL τ a3 = some a3) ∧ (dLen a14 (ixO 0 a7 3 + 0) = 0 → List.take a12 a11 = []), (∀ (τ : Sg), renL τ a6 = some a6) ∧ (dLen a14 (ixO 0 a7 3 + (0 + 1)) = 0 → List.take (dLen a2 1) a13 = []),
 3 ≤ 3, true = true, q0, ShOb Try.prog 27 true true es 0 313, capBig + 313 = capBig + 313 ∧ (0 : Int) < (1 : Int) ∧ (1 : Int) = (↑(dLen es 0) : Int), q0, 1 ≤ List.length es, 0 = 0 → ([] : List DV) = [], q0, ShOb Try.prog 27 true
 true a5 0 315, true = true, q2, (0 : Int) ≤ a9 - (1 : Int) ∧ a9 - (1 : Int) < a9, ShOb Try.prog 56 true true a5 (Int.toNat a4 * 2) 316, q0, 2 ≤ List.length a5, dLen (setD es (ixO 0 a7 2 + 0) [DV.sl 0 none []]) (ixO 0 a10 2 + 0) =
 0 → dSub a5 a8 = [], q2, capBig + 60 = capBig + 60 ∧ (0 : Int) ≤ a9 - (1 : Int) ∧ a9 - (1 : Int) ≤ a9, m * 2 ≤ List.length a1, capBig + 60 = capBig + 60, (0 : Int) ≤ (0 : Int) ∧ DnOk a1 a10 0]) ((0 : Int) ≤ (0 : Int) ∧ (0 : Int) <
 a9) (dLen a2 0 ≤ List.length a11) (rg IntKind.i64 a4)))) := by
 kernel_rfl
theorem mh_e_Cgm (inr : Bool) (m l q : Nat) (dr : Bool) (ds es os : List DV) (ks : List Value) : prjP [1, 9, 13, 14, 15] 300 (codeZ (mhV true noL mhT) Try.prog (runZ (mhV true noL mhT) Try.prog 12) 12 inr 100000 (bodyIn Try.prog
 12 25) (SL 128 [(1, .bool dr), (9, heA m), (13, ouA q), (14, ltA l), (15, .bool true)]) [(60, ⟨.dw 2 zHd es, []⟩), (200, ⟨.df 3 zPr os, []⟩), (202, ⟨.ow, ks⟩), (0, ⟨.sw ds, []⟩)] 300 [true, false, false, true, false])
 =
  (let a9 := (↑m : Int); let a5 := (Int.toNat (0 : Int)); let a7 := (ixO 0 a5 2 + 0 + 0); let a1 := (dSub es 0); let a10 := (dVals a1 1); let a8 := (dLen a1 0); let a6 := (dVals a1 0); let a4 := (List.take (dLen a1 1) a10); let a3
 := (setD es 0 [DV.sl (dLen es 0 - 1) none (List.drop 3 a1)]); let a2 := (List.take a8 a6); Res.ok ((Xt.normal, 128, [(1, Value.bool dr), (9, Value.slice (some (Addr.mk 60 0 none)) m (capBig + 60)), (13, Value.slice (some (Addr.mk
 312 0 none)) (q + 1) (capBig + 312)), (14, Value.slice (some (Addr.mk 301 0 none)) a8 (capBig + 301)), (15, Value.bool true)], [(315, Rw.mk (Kd.sw (dSub a3 0)) []), (314, Rw.mk (Kd.sw (List.drop 3 a1)) []), (313, Rw.mk (Kd.sw a1)
 []), (312, Rw.mk (Kd.df 3 [Value.slice none 0 0, Value.slice none 0 0, Value.bool false] (os ++ [DV.sl a8 none (List.map DV.fl a2), DV.sl (dLen a1 1) none (List.map DV.fl a4), DV.fl (Value.bool (dBool a1 2))])) []), (302, Rw.mk
 Kd.ow a10), (301, Rw.mk Kd.ow a6), (300, Rw.mk (Kd.sw a1) []), (60, Rw.mk (Kd.dw 2 [Value.slice none 0 0, Value.int IntKind.i64 (0 : Int)] (hdD (dnH m (hdOf a3) m 0))) []), (202, Rw.mk Kd.ow ks), (0, Rw.mk (Kd.sw ds) [])], 316,
 [60, 60, 200, 303], []), [], [decide (a9 > (0 : Int)) = true, (0 : Int) ≤ (0 : Int) ∧ (0 : Int) < a9, ShOb Try.prog 27 true true es 0 300, (0 : Int) ≤ (0 : Int) ∧ (0 : Int) < (↑(dLen es 0) : Int), ShOb Try.prog 32 false true a1 0
 301, l ≤ List.length ks, List.take l ks = List.map (Value.int IntKind.u8) (intsOf (List.take l ks)), dLen a1 0 ≤ List.length a6, List.take a8 a6 = List.map (Value.int IntKind.u8) (intsOf a2), strEq (strOfI (intsOf (List.take l
 ks))) (strOfI (intsOf a2)) = false, (!dr) = false, (!dBool a1 2) = true, dLen a1 0 * 1 ≤ 140737488355328 ∧ dLen a1 0 ≤ 9223372036854775807, List.length a2 = dLen a1 0 * 1, ∀ (τ : Sg), renL τ a2 = some a2, dLen a1 0 ≤ List.length
 a6, all1 a2 = true, dLen a1 1 * 1 ≤ 140737488355328 ∧ dLen a1 1 ≤ 9223372036854775807, List.length a4 = dLen a1 1 * 1, ∀ (τ : Sg), renL τ a4 = some a4, dLen a1 1 ≤ List.length a10, all1 a4 = true, capBig + 200 = capBig + 200 ∧
 List.length os = q * 3, (q + 1) * 56 ≤ 140737488355328 ∧ q + 1 ≤ 9223372036854775807, (∀ (τ : Sg), renL τ a2 = some a2) ∧ (dLen (dSub es a7) (ixO 0 a5 3 + 0) = 0 → List.take a8 a6 = []), (∀ (τ : Sg), renL τ a4 = some a4) ∧ (dLen
 (dSub es a7) (ixO 0 a5 3 + (0 + 1)) = 0 → List.take (dLen a1 1) a10 = []), 3 ≤ 3, true = true, (0 : Int) ≤ (0 : Int) ∧ (0 : Int) < a9, ShOb Try.prog 27 true true es 0 313, capBig + 313 = capBig + 313 ∧ (0 : Int) ≤ (1 : Int) ∧ (1 :
 Int) < (↑(dLen es 0) : Int), (0 : Int) ≤ (0 : Int) ∧ (0 : Int) < a9, 1 ≤ List.length es, sbN (dLen es a7) (Int.toNat (1 : Int)) = 0 → List.drop 3 a1 = [], (0 : Int) ≤ (0 : Int) ∧ (0 : Int) < a9, ShOb Try.prog 27 true true a3 0
 315, ((↑(dLen a3 0) : Int) == (0 : Int)) = false, capBig + 60 = capBig + 60, (0 : Int) ≤ (0 : Int) ∧ DnOk a3 m 0])) := by
 kernel_rfl
theorem mh_e_Cke (inr : Bool) (m l q : Nat) (dr : Bool) (ds es os : List DV) (ks : List Value) : prjP [1, 9, 13, 14, 15] 300 (codeZ (mhV false noL mhT) Try.prog (runZ (mhV false noL mhT) Try.prog 12) 12 inr 100000 (bodyIn Try.prog
 12 25) (SL 128 [(1, .bool dr), (9, heA m), (13, ouA q), (14, ltA l), (15, .bool true)]) [(60, ⟨.dw 2 zHd es, []⟩), (200, ⟨.df 3 zPr os, []⟩), (202, ⟨.ow, ks⟩), (0, ⟨.sw ds, []⟩)] 300 [true, false, false, false, true])
 =
  (let a5 := (↑m : Int); let a4 := (dSub es 0); let a9 := (dVals a4 0); let a8 := (intsOf (List.take (dLen a4 0) a9)); let a3 := (setD es 0 [DV.sl 0 none []]); let a2 := (a5 - (1 : Int)); let a7 := (Int.toNat a2); let a6 :=
 (Int.toNat a2 * 2 + 0); let a1 := (setD a3 0 [DV.sl (dLen a3 a6) none (dSub a3 a6), DV.fl (Value.int IntKind.i64 (dInt a3 (Int.toNat a2 * 2 + 1)))]); Res.ok ((Xt.normal, 128, [(1, Value.bool dr), (9, Value.slice (some (Addr.mk 60
 0 none)) a7 (capBig + 60)), (13, Value.slice (some (Addr.mk 200 0 none)) q (capBig + 200)), (14, Value.slice (some (Addr.mk 301 0 none)) (dLen a4 0) (capBig + 301)), (15, Value.bool true)], [(307, Rw.mk (Kd.sw (dSub a3 a6)) []),
 (306, Rw.mk (Kd.sw []) []), (305, Rw.mk (Kd.sw []) []), (304, Rw.mk (Kd.sw a4) []), (302, Rw.mk Kd.ow (dVals a4 1)), (301, Rw.mk Kd.ow a9), (300, Rw.mk (Kd.sw a4) []), (60, Rw.mk (Kd.dw 2 [Value.slice none 0 0, Value.int
 IntKind.i64 (0 : Int)] (hdD (dnH a7 (hdOf a1) a7 0))) []), (200, Rw.mk (Kd.df 3 [Value.slice none 0 0, Value.slice none 0 0, Value.bool false] os) []), (202, Rw.mk Kd.ow ks), (0, Rw.mk (Kd.sw ds) [])], 308, [60, 60, 60, 303], []),
 [], [decide (a5 > (0 : Int)) = true, (0 : Int) ≤ (0 : Int) ∧ (0 : Int) < a5, ShOb Try.prog 27 true true es 0 300, (0 : Int) ≤ (0 : Int) ∧ (0 : Int) < (↑(dLen es 0) : Int), ShOb Try.prog 32 false true a4 0 301, l ≤ List.length ks,
 List.take l ks = List.map (Value.int IntKind.u8) (intsOf (List.take l ks)), dLen a4 0 ≤ List.length a9, List.take (dLen a4 0) a9 = List.map (Value.int IntKind.u8) a8, strEq (strOfI (intsOf (List.take l ks))) (strOfI a8) = false,
 (!dr) = false, (!dBool a4 2) = false, (0 : Int) ≤ (0 : Int) ∧ (0 : Int) < a5, ShOb Try.prog 27 true true es 0 304, capBig + 304 = capBig + 304 ∧ (0 : Int) < (1 : Int) ∧ (1 : Int) = (↑(dLen es 0) : Int), (0 : Int) ≤ (0 : Int) ∧ (0
 : Int) < a5, 1 ≤ List.length es, 0 = 0 → ([] : List DV) = [], (0 : Int) ≤ (0 : Int) ∧ (0 : Int) < a5, ShOb Try.prog 27 true true a3 0 306, true = true, rg IntKind.i64 a2, (0 : Int) ≤ a5 - (1 : Int) ∧ a5 - (1 : Int) < a5, ShOb
 Try.prog 56 true true a3 (Int.toNat a2 * 2) 307, (0 : Int) ≤ (0 : Int) ∧ (0 : Int) < a5, 2 ≤ List.length a3, dLen (setD es (ixO 0 (Int.toNat (0 : Int)) 2 + 0) [DV.sl 0 none []]) (ixO 0 a7 2 + 0) = 0 → dSub a3 a6 = [], rg
 IntKind.i64 a2, capBig + 60 = capBig + 60 ∧ (0 : Int) ≤ a5 - (1 : Int) ∧ a5 - (1 : Int) ≤ a5, m * 2 ≤ List.length a1, capBig + 60 = capBig + 60, (0 : Int) ≤ (0 : Int) ∧ DnOk a1 a7 0])) := by
 kernel_rfl
theorem mh_e_Ckm (inr : Bool) (m l q : Nat) (dr : Bool) (ds es os : List DV) (ks : List Value) : prjP [1, 9, 13, 14, 15] 300 (codeZ (mhV true noL mhT) Try.prog (runZ (mhV true noL mhT) Try.prog 12) 12 inr 100000 (bodyIn Try.prog
 12 25) (SL 128 [(1, .bool dr), (9, heA m), (13, ouA q), (14, ltA l), (15, .bool true)]) [(60, ⟨.dw 2 zHd es, []⟩), (200, ⟨.df 3 zPr os, []⟩), (202, ⟨.ow, ks⟩), (0, ⟨.sw ds, []⟩)] 300 [true, false, false, false, false])
 =
  (let a4 := (↑m : Int); let a2 := (dSub es 0); let a5 := (dVals a2 0); let a3 := (intsOf (List.take (dLen a2 0) a5)); let a1 := (setD es 0 [DV.sl (dLen es 0 - 1) none (List.drop 3 a2)]); Res.ok ((Xt.normal, 128, [(1, Value.bool
 dr), (9, Value.slice (some (Addr.mk 60 0 none)) m (capBig + 60)), (13, Value.slice (some (Addr.mk 200 0 none)) q (capBig + 200)), (14, Value.slice (some (Addr.mk 301 0 none)) (dLen a2 0) (capBig + 301)), (15, Value.bool true)],
 [(306, Rw.mk (Kd.sw (dSub a1 0)) []), (305, Rw.mk (Kd.sw (List.drop 3 a2)) []), (304, Rw.mk (Kd.sw a2) []), (302, Rw.mk Kd.ow (dVals a2 1)), (301, Rw.mk Kd.ow a5), (300, Rw.mk (Kd.sw a2) []), (60, Rw.mk (Kd.dw 2 [Value.slice none
 0 0, Value.int IntKind.i64 (0 : Int)] (hdD (dnH m (hdOf a1) m 0))) []), (200, Rw.mk (Kd.df 3 [Value.slice none 0 0, Value.slice none 0 0, Value.bool false] os) []), (202, Rw.mk Kd.ow ks), (0, Rw.mk (Kd.sw ds) [])], 307, [60, 60,
 303], []), [], [decide (a4 > (0 : Int)) = true, (0 : Int) ≤ (0 : Int) ∧ (0 : Int) < a4, ShOb Try.prog 27 true true es 0 300, (0 : Int) ≤ (0 : Int) ∧ (0 : Int) < (↑(dLen es 0) : Int), ShOb Try.prog 32 false true a2 0 301, l ≤
 List.length ks, List.take l ks = List.map (Value.int IntKind.u8) (intsOf (List.take l ks)), dLen a2 0 ≤ List.length a5, List.take (dLen a2 0) a5 = List.map (Value.int IntKind.u8) a3, strEq (strOfI (intsOf (List.take l ks)))
 (strOfI a3) = false, (!dr) = false, (!dBool a2 2) = false, (0 : Int) ≤ (0 : Int) ∧ (0 : Int) < a4, ShOb Try.prog 27 true true es 0 304, capBig + 304 = capBig + 304 ∧ (0 : Int) ≤ (1 : Int) ∧ (1 : Int) < (↑(dLen es 0) : Int), (0 :
 Int) ≤ (0 : Int) ∧ (0 : Int) < a4, 1 ≤ List.length es, sbN (dLen es (ixO 0 (Int.toNat (0 : Int)) 2 + 0 + 0)) (Int.toNat (1 : Int)) = 0 → List.drop 3 a2 = [], (0 : Int) ≤ (0 : Int) ∧ (0 : Int) < a4, ShOb Try.prog 27 true true a1 0
 306, ((↑(dLen a1 0) : Int) == (0 : Int)) = false, capBig + 60 = capBig + 60, (0 : Int) ≤ (0 : Int) ∧ DnOk a1 m 0])) := by
 kernel_rfl
theorem mh_e_Cqe (inr : Bool) (m l q : Nat) (dr : Bool) (ds es os : List DV) (ks : List Value) : prjP [1, 9, 13, 14, 15] 300 (codeZ (mhV false noL mhT) Try.prog (runZ (mhV false noL mhT) Try.prog 12) 12 inr 100000 (bodyIn Try.prog
 12 25) (SL 128 [(1, .bool dr), (9, heA m), (13, ouA q), (14, ltA l), (15, .bool true)]) [(60, ⟨.dw 2 zHd es, []⟩), (200, ⟨.df 3 zPr os, []⟩), (202, ⟨.ow, ks⟩), (0, ⟨.sw ds, []⟩)] 300 [true, true, true])
 =
  (let a5 := (↑m : Int); let a4 := (dSub es 0); let a9 := (dVals a4 0); let a8 := (intsOf (List.take (dLen a4 0) a9)); let a3 := (setD es 0 [DV.sl 0 none []]); let a2 := (a5 - (1 : Int)); let a7 := (Int.toNat a2); let a6 :=
 (Int.toNat a2 * 2 + 0); let a1 := (setD a3 0 [DV.sl (dLen a3 a6) none (dSub a3 a6), DV.fl (Value.int IntKind.i64 (dInt a3 (Int.toNat a2 * 2 + 1)))]); Res.ok ((Xt.normal, 128, [(1, Value.bool dr), (9, Value.slice (some (Addr.mk 60
 0 none)) a7 (capBig + 60)), (13, Value.slice (some (Addr.mk 200 0 none)) q (capBig + 200)), (14, Value.slice (some (Addr.mk 202 0 none)) l (capBig + 202)), (15, Value.bool true)], [(307, Rw.mk (Kd.sw (dSub a3 a6)) []), (306, Rw.mk
 (Kd.sw []) []), (305, Rw.mk (Kd.sw []) []), (304, Rw.mk (Kd.sw a4) []), (302, Rw.mk Kd.ow (dVals a4 1)), (301, Rw.mk Kd.ow a9), (300, Rw.mk (Kd.sw a4) []), (60, Rw.mk (Kd.dw 2 [Value.slice none 0 0, Value.int IntKind.i64 (0 :
 Int)] (hdD (dnH a7 (hdOf a1) a7 0))) []), (200, Rw.mk (Kd.df 3 [Value.slice none 0 0, Value.slice none 0 0, Value.bool false] os) []), (202, Rw.mk Kd.ow ks), (0, Rw.mk (Kd.sw ds) [])], 308, [60, 60, 60, 303], []), [], [decide (a5
 > (0 : Int)) = true, (0 : Int) ≤ (0 : Int) ∧ (0 : Int) < a5, ShOb Try.prog 27 true true es 0 300, (0 : Int) ≤ (0 : Int) ∧ (0 : Int) < (↑(dLen es 0) : Int), ShOb Try.prog 32 false true a4 0 301, l ≤ List.length ks, List.take l ks =
 List.map (Value.int IntKind.u8) (intsOf (List.take l ks)), dLen a4 0 ≤ List.length a9, List.take (dLen a4 0) a9 = List.map (Value.int IntKind.u8) a8, strEq (strOfI (intsOf (List.take l ks))) (strOfI a8) = true, (0 : Int) ≤ (0 :
 Int) ∧ (0 : Int) < a5, ShOb Try.prog 27 true true es 0 304, capBig + 304 = capBig + 304 ∧ (0 : Int) < (1 : Int) ∧ (1 : Int) = (↑(dLen es 0) : Int), (0 : Int) ≤ (0 : Int) ∧ (0 : Int) < a5, 1 ≤ List.length es, 0 = 0 → ([] : List DV)
 = [], (0 : Int) ≤ (0 : Int) ∧ (0 : Int) < a5, ShOb Try.prog 27 true true a3 0 306, true = true, rg IntKind.i64 a2, (0 : Int) ≤ a5 - (1 : Int) ∧ a5 - (1 : Int) < a5, ShOb Try.prog 56 true true a3 (Int.toNat a2 * 2) 307, (0 : Int) ≤
 (0 : Int) ∧ (0 : Int) < a5, 2 ≤ List.length a3, dLen (setD es (ixO 0 (Int.toNat (0 : Int)) 2 + 0) [DV.sl 0 none []]) (ixO 0 a7 2 + 0) = 0 → dSub a3 a6 = [], rg IntKind.i64 a2, capBig + 60 = capBig + 60 ∧ (0 : Int) ≤ a5 - (1 : Int)
 ∧ a5 - (1 : Int) ≤ a5, m * 2 ≤ List.length a1, capBig + 60 = capBig + 60, (0 : Int) ≤ (0 : Int) ∧ DnOk a1 a7 0])) := by
 kernel_rfl
theorem mh_e_Cqm (inr : Bool) (m l q : Nat) (dr : Bool) (ds es os : List DV) (ks : List Value) : prjP [1, 9, 13, 14, 15] 300 (codeZ (mhV true noL mhT) Try.prog (runZ (mhV true noL mhT) Try.prog 12) 12 inr 100000 (bodyIn Try.prog
 12 25) (SL 128 [(1, .bool dr), (9, heA m), (13, ouA q), (14, ltA l), (15, .bool true)]) [(60, ⟨.dw 2 zHd es, []⟩), (200, ⟨.df 3 zPr os, []⟩), (202, ⟨.ow, ks⟩), (0, ⟨.sw ds, []⟩)] 300 [true, true, false])
 =
  (let a4 := (↑m : Int); let a2 := (dSub es 0); let a5 := (dVals a2 0); let a3 := (intsOf (List.take (dLen a2 0) a5)); let a1 := (setD es 0 [DV.sl (dLen es 0 - 1) none (List.drop 3 a2)]); Res.ok ((Xt.normal, 128, [(1, Value.bool
 dr), (9, Value.slice (some (Addr.mk 60 0 none)) m (capBig + 60)), (13, Value.slice (some (Addr.mk 200 0 none)) q (capBig + 200)), (14, Value.slice (some (Addr.mk 202 0 none)) l (capBig + 202)), (15, Value.bool true)], [(306, Rw.mk
 (Kd.sw (dSub a1 0)) []), (305, Rw.mk (Kd.sw (List.drop 3 a2)) []), (304, Rw.mk (Kd.sw a2) []), (302, Rw.mk Kd.ow (dVals a2 1)), (301, Rw.mk Kd.ow a5), (300, Rw.mk (Kd.sw a2) []), (60, Rw.mk (Kd.dw 2 [Value.slice none 0 0,
 Value.int IntKind.i64 (0 : Int)] (hdD (dnH m (hdOf a1) m 0))) []), (200, Rw.mk (Kd.df 3 [Value.slice none 0 0, Value.slice none 0 0, Value.bool false] os) []), (202, Rw.mk Kd.ow ks), (0, Rw.mk (Kd.sw ds) [])], 307, [60, 60, 303],
 []), [], [decide (a4 > (0 : Int)) = true, (0 : Int) ≤ (0 : Int) ∧ (0 : Int) < a4, ShOb Try.prog 27 true true es 0 300, (0 : Int) ≤ (0 : Int) ∧ (0 : Int) < (↑(dLen es 0) : Int), ShOb Try.prog 32 false true a2 0 301, l ≤ List.length
 ks, List.take l ks = List.map (Value.int IntKind.u8) (intsOf (List.take l ks)), dLen a2 0 ≤ List.length a5, List.take (dLen a2 0) a5 = List.map (Value.int IntKind.u8) a3, strEq (strOfI (intsOf (List.take l ks))) (strOfI a3) =
 true, (0 : Int) ≤ (0 : Int) ∧ (0 : Int) < a4, ShOb Try.prog 27 true true es 0 304, capBig + 304 = capBig + 304 ∧ (0 : Int) ≤ (1 : Int) ∧ (1 : Int) < (↑(dLen es 0) : Int), (0 : Int) ≤ (0 : Int) ∧ (0 : Int) < a4, 1 ≤ List.length es,
 sbN (dLen es (ixO 0 (Int.toNat (0 : Int)) 2 + 0 + 0)) (Int.toNat (1 : Int)) = 0 → List.drop 3 a2 = [], (0 : Int) ≤ (0 : Int) ∧ (0 : Int) < a4, ShOb Try.prog 27 true true a1 0 306, ((↑(dLen a1 0) : Int) == (0 : Int)) = false,
 capBig + 60 = capBig + 60, (0 : Int) ≤ (0 : Int) ∧ DnOk a1 m 0])) := by
 kernel_rfl
theorem mh_e_Cx (inr : Bool) (m l q : Nat) (dr : Bool) (ds es os : List DV) (ks : List Value) : prjP [13] 300 (codeZ (mhV true noL mhT) Try.prog (runZ (mhV true noL mhT) Try.prog 12) 12 inr 100000 (bodyIn Try.prog 12 25) (SL 128 [(1, .bool dr), (9, heA m), (13, ouA q), (14, ltA l), (15, .bool true)]) [(60, ⟨.dw 2 zHd es, []⟩), (200, ⟨.df 3 zPr os, []⟩), (202, ⟨.ow, ks⟩), (0, ⟨.sw ds, []⟩)] 300 [false]) =
  Res.ok ((Xt.exit 6, 128, [(13, Value.slice (some (Addr.mk 200 0 none)) q (capBig + 200))], [(60, Rw.mk (Kd.dw 2 [Value.slice none 0 0, Value.int IntKind.i64 (0 : Int)] es) []), (200, Rw.mk (Kd.df 3 [Value.slice none 0 0,
 Value.slice none 0 0, Value.bool false] os) []), (202, Rw.mk Kd.ow ks), (0, Rw.mk (Kd.sw ds) [])], 300, [], []), [], [decide ((↑m : Int) > (0 : Int)) = false]) := by kernel_rfl
end Go.Proofs.Ytmoflcoijmmpjaa
