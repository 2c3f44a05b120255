/-
  Chapter 22: the statement SessionFull: its tail at any table; its loops as they are entered; the whole law, run (written by wip/tools/gen_fulf.py).
-/
import Derived.Test.YtdcakhahagbedaaFulEa
import Derived.Test.YtdcakhahagbedaaFulEb
import Derived.Test.YtdcakhahagbedaaFulEc
import Derived.Test.YtdcakhahagbedaaFulEd
namespace Go.Proofs.Ytdcakhahagbedaa
set_option linter.unusedSimpArgs false
set_option linter.unusedVariables false
set_option linter.unusedSectionVars false
open Go Go.RowKit
theorem t4_all {X : List Value} {Y : Nat → Int} {n m : Nat} {L : List En} (T : Tl X Y n m L) : TailF Try.prog X m L := by
  obtain ⟨e0, L, rfl⟩ : ∃ a t, L = a :: t := by cases L with | nil => have := T.hI.len; cases this | cons a t => exact ⟨a, t, rfl⟩
  obtain ⟨e1, e2, e3, rfl⟩ := len3 (by have := T.hI.len; simpa using this)
  obtain ⟨s01, s02, s03, s12, s13, s23⟩ := srt4 T.hI.srt
  have nw := T.hI.new T.hX (by omega)
  have n0 := nw e0 (by simp)
  have n1 := nw e1 (by simp)
  have n2 := nw e2 (by simp)
  have n3 := nw e3 (by simp)
  have o01 := T.od (a := e0) (b := e1) (by simp) (by simp) s01
  have o02 := T.od (a := e0) (b := e2) (by simp) (by simp) s02
  have o03 := T.od (a := e0) (b := e3) (by simp) (by simp) s03
  have o12 := T.od (a := e1) (b := e2) (by simp) (by simp) s12
  have o13 := T.od (a := e1) (b := e3) (by simp) (by simp) s13
  have o23 := T.od (a := e2) (b := e3) (by simp) (by simp) s23
  rcases (by omega : e1.o < e0.o ∨ e0.o < e1.o) with c1 | c1
  · skip
    rcases (by omega : e2.o < e1.o ∨ e1.o < e2.o) with c2 | c2
    · skip
      rcases (by omega : e3.o < e2.o ∨ e2.o < e3.o) with c3 | c3
      · skip
        by_cases d0 : cl X 4 < e0.nm
        · exact t4_lll0 T c1 c2 c3 (by omega) (by omega) (by omega)
        by_cases d1 : cl X 4 < e1.nm
        · exact t4_lll1 T c1 c2 c3 (by omega) (by omega) (by omega)
        by_cases d2 : cl X 4 < e2.nm
        · exact t4_lll2 T c1 c2 c3 (by omega) (by omega) (by omega)
        exact t4_lll3 T c1 c2 c3 (by omega) (by omega) (by omega)
      · skip
        by_cases d0 : cl X 4 < e0.nm
        · exact t4_llg0 T c1 c2 c3 (by omega) (by omega) (by omega)
        by_cases d1 : cl X 4 < e1.nm
        · exact t4_llg1 T c1 c2 c3 (by omega) (by omega) (by omega)
        by_cases d2 : cl X 4 < e3.nm
        · exact t4_llg2 T c1 c2 c3 (by omega) (by omega) (by omega)
        exact t4_llg3 T c1 c2 c3 (by omega) (by omega) (by omega)
    · skip
      rcases (by omega : e3.o < e1.o ∨ e1.o < e3.o) with c3 | c3
      · skip
        by_cases d0 : cl X 4 < e0.nm
        · exact t4_lgl0 T c1 c2 c3 (by omega) (by omega) (by omega)
        by_cases d1 : cl X 4 < e1.nm
        · exact t4_lgl1 T c1 c2 c3 (by omega) (by omega) (by omega)
        by_cases d2 : cl X 4 < e2.nm
        · exact t4_lgl2 T c1 c2 c3 (by omega) (by omega) (by omega)
        exact t4_lgl3 T c1 c2 c3 (by omega) (by omega) (by omega)
      · skip
        by_cases d0 : cl X 4 < e0.nm
        · exact t4_lgg0 T c1 c2 c3 (by omega) (by omega) (by omega)
        by_cases d1 : cl X 4 < e2.nm
        · exact t4_lgg1 T c1 c2 c3 (by omega) (by omega) (by omega)
        by_cases d2 : cl X 4 < e3.nm
        · exact t4_lgg2 T c1 c2 c3 (by omega) (by omega) (by omega)
        exact t4_lgg3 T c1 c2 c3 (by omega) (by omega) (by omega)
  · skip
    rcases (by omega : e2.o < e0.o ∨ e0.o < e2.o) with c2 | c2
    · skip
      rcases (by omega : e3.o < e2.o ∨ e2.o < e3.o) with c3 | c3
      · skip
        by_cases d0 : cl X 4 < e0.nm
        · exact t4_gll0 T c1 c2 c3 (by omega) (by omega) (by omega)
        by_cases d1 : cl X 4 < e1.nm
        · exact t4_gll1 T c1 c2 c3 (by omega) (by omega) (by omega)
        by_cases d2 : cl X 4 < e2.nm
        · exact t4_gll2 T c1 c2 c3 (by omega) (by omega) (by omega)
        exact t4_gll3 T c1 c2 c3 (by omega) (by omega) (by omega)
      · skip
        by_cases d0 : cl X 4 < e0.nm
        · exact t4_glg0 T c1 c2 c3 (by omega) (by omega) (by omega)
        by_cases d1 : cl X 4 < e1.nm
        · exact t4_glg1 T c1 c2 c3 (by omega) (by omega) (by omega)
        by_cases d2 : cl X 4 < e3.nm
        · exact t4_glg2 T c1 c2 c3 (by omega) (by omega) (by omega)
        exact t4_glg3 T c1 c2 c3 (by omega) (by omega) (by omega)
    · skip
      rcases (by omega : e3.o < e0.o ∨ e0.o < e3.o) with c3 | c3
      · skip
        by_cases d0 : cl X 4 < e0.nm
        · exact t4_ggl0 T c1 c2 c3 (by omega) (by omega) (by omega)
        by_cases d1 : cl X 4 < e1.nm
        · exact t4_ggl1 T c1 c2 c3 (by omega) (by omega) (by omega)
        by_cases d2 : cl X 4 < e2.nm
        · exact t4_ggl2 T c1 c2 c3 (by omega) (by omega) (by omega)
        exact t4_ggl3 T c1 c2 c3 (by omega) (by omega) (by omega)
      · skip
        by_cases d0 : cl X 4 < e1.nm
        · exact t4_ggg0 T c1 c2 c3 (by omega) (by omega) (by omega)
        by_cases d1 : cl X 4 < e2.nm
        · exact t4_ggg1 T c1 c2 c3 (by omega) (by omega) (by omega)
        by_cases d2 : cl X 4 < e3.nm
        · exact t4_ggg2 T c1 c2 c3 (by omega) (by omega) (by omega)
        exact t4_ggg3 T c1 c2 c3 (by omega) (by omega) (by omega)

/-! ### the loops as they are entered -/
def xL (a0 a1 a2 a3 a4 a5 a6 a7 a8 a9 : Int) : List Value := [.int .u64 a0, .int .u64 a1, .int .u64 a2, .int .u64 a3, .int .u64 a4, .int .u64 a5, .int .u64 a6, .int .u64 a7, .int .u64 a8, .int .u64 a9]
def boxes (X E : List Value) : Hp := [(11, ⟨.shut, X⟩), (10, ⟨.shut, E⟩), (9, ⟨.shut, [.int .u64 (intAt X 6), .int .u64 (intAt X 7)]⟩), (8, ⟨.shut, [.int .u64 (intAt X 4), .int .u64 (intAt X 5)]⟩), (7, ⟨.shut, [.int .u64 (intAt X 2), .int .u64 (intAt X 3)]⟩), (6, ⟨.shut, [.int .u64 (intAt X 0), .int .u64 (intAt X 1)]⟩)]
def spB (P : Program) (E X T1 : List Value) (L1 : List En) (tl : Hp) : LSpec := lspec (fun live _ => match live with | (_, tk) :: _ => some tk | _ => none) (fun tk => (fbS tk 0, (13, ⟨.shut, yC Y1⟩) :: (12, tbL []) :: (boxes X E ++ tl), 14))
  (fun tk tp => some ((.exit 4, fbX tk, (10, ⟨.shut, E⟩) :: (11, ⟨.shut, X⟩) :: (12, ⟨.shut, T1⟩) :: (13, ⟨.shut, yC Y1⟩) :: tl, 100, [6, 7, 8, 9, 12]), tp, [T1 = (tbL L1).cs ∧ Fl E ∧ Fl X ∧ Keep 14 tk ∧ LoopB P tk E X 0 [] L1]))
def LoopC (P : Program) (E X bs : List Value) (n c : Nat) (L L' : List En) (Y Y' : Nat → Int) : Prop := ∀ inr h0, LRuns inr P (fb2 P) 100 200 h0 204 (fcS n c 0) (fcH E X L Y bs) 100 (.exit 6, fcX, fcH E X L' Y' bs)
def spCs (P : Program) (E X T1 T2 Y2 bs : List Value) (L1 L2 : List En) (Yf : Nat → Int) : LSpec := lspec (fun live _ => match live with | (_, .slice _ n c) :: _ => some (n, c) | _ => none) (fun a => (fcS a.1 a.2 0, [(10, ⟨.shut, E⟩), (11, ⟨.shut, X⟩), (12, ⟨.shut, T1⟩), (13, ⟨.shut, yC Y1⟩), (5, ⟨.old, bs⟩)], 100))
  (fun a tp => some ((.exit 6, fcX, [(10, ⟨.shut, E⟩), (11, ⟨.shut, X⟩), (12, ⟨.shut, T2⟩), (13, ⟨.shut, Y2⟩), (5, ⟨.old, bs⟩)], 200, [12, 13]), tp, [T1 = (tbL L1).cs ∧ T2 = (tbL L2).cs ∧ Y2 = yC Yf ∧ Fl E ∧ Fl X ∧ Fl bs ∧ a.2 ≤ 9223372036854775807 ∧ LoopC P E X bs a.1 a.2 L1 L2 Y1 Yf]))
def spCn (E X T1 : List Value) : LSpec := lspec (fun _ _ => some ()) (fun _ => ([(5, .slice none 0 0), (10, eP), (13, .bool true), (14, lX), (17, tP), (18, lL), (23, .int .i64 0)], [(10, ⟨.shut, E⟩), (11, ⟨.shut, X⟩), (12, ⟨.shut, T1⟩), (13, ⟨.shut, yC Y1⟩)], 100))
  (fun _ tp => some ((.exit 6, fcX, [(10, ⟨.shut, E⟩), (11, ⟨.shut, X⟩), (12, ⟨.shut, T1⟩), (13, ⟨.shut, yC Y1⟩)], 200, []), tp, [Fl E ∧ Fl X ∧ Fl T1]))
def LoopD (P : Program) (E X T : List Value) (Y : Nat → Int) (m : Nat) : Prop := ∀ inr h0, LRuns inr P (fb3 P) 200 300 h0 204 (fdS 0 1) (fdH E X T Y) 200 (.exit 8, fdX m, fdH E X T Y)
def spD (P : Program) (E X T2 Y2 : List Value) (Yf : Nat → Int) (m : Nat) (tl : Hp) : LSpec := lspec (fun _ _ => some ()) (fun _ => (fdS 0 1, (10, ⟨.shut, E⟩) :: (11, ⟨.shut, X⟩) :: (12, ⟨.shut, T2⟩) :: (13, ⟨.shut, Y2⟩) :: tl, 200))
  (fun _ tp => some ((.exit 8, fdX m, [(10, ⟨.shut, E⟩), (11, ⟨.shut, X⟩), (12, ⟨.shut, T2⟩), (13, ⟨.shut, Y2⟩)], 300, [5]), tp, [Y2 = yC Yf ∧ Fl E ∧ Fl X ∧ Fl T2 ∧ LoopD P E X T2 Yf m]))
def spT (P : Program) (E X T2 Y2 : List Value) (L2 : List En) (m : Nat) : LSpec := lspec (fun _ _ => some ()) (fun _ => (t4S m, [(10, ⟨.shut, E⟩), (11, ⟨.shut, X⟩), (12, ⟨.shut, T2⟩), (13, ⟨.shut, Y2⟩)], 300))
  (fun _ tp => some ((.ret, [(12, .bool true)], [], 600, [10, 11, 12, 13]), tp, [T2 = (tbL L2).cs ∧ E = [.int .u64 (intAt X 8), .int .u64 (intAt X 9)] ∧ Fl X ∧ TailF P X m L2]))
def fuB1 (P : Program) (s : LSpec) : LFun := mkL 5 18 204 [5, 10, 13, 14, 17, 18, 19] (fb1 P) s
def fuB2 (P : Program) (s : LSpec) : LFun := mkL 5 24 204 [5, 10, 13, 14, 17, 18, 23] (fb2 P) s
def fuB3 (P : Program) (s : LSpec) : LFun := mkL 5 33 204 [10, 13, 14, 17, 18, 27, 28] (fb3 P) s
def fuB4 (P : Program) (s : LSpec) : LFun := mkS 5 37 204 [10, 13, 14, 17, 27] (fuC P 37) s

theorem fx_n0 (a0 a1 a2 a3 a4 a5 a6 a7 a8 a9 : Int) : prjV (runZ (fuV 0 noL) Try.prog 12 5 [.agg ⟨[.int .u64 a0, .int .u64 a1]⟩, .agg ⟨[.int .u64 a2, .int .u64 a3]⟩, .agg ⟨[.int .u64 a4, .int .u64 a5]⟩, .agg ⟨[.int .u64 a6, .int .u64 a7]⟩, .agg ⟨[.int .u64 a8, .int .u64 a9]⟩, .slice none 0 0] [] 6 [true]) =
  Res.ok (Value.bool true, [], [(0 : Int) ≤ (0 : Int) ∧ (0 : Int) < (5 : Int), [Value.int IntKind.u64 a0, Value.int IntKind.u64 a1] = [Value.int IntKind.u64 a0, Value.int IntKind.u64 a1], (a0 == (0 : Int) && (a1 == (0 :
 Int) && true)) = true]) := by kernel_rfl
theorem fx_n1 (a0 a1 a2 a3 a4 a5 a6 a7 a8 a9 : Int) : prjV (runZ (fuV 0 noL) Try.prog 12 5 [.agg ⟨[.int .u64 a0, .int .u64 a1]⟩, .agg ⟨[.int .u64 a2, .int .u64 a3]⟩, .agg ⟨[.int .u64 a4, .int .u64 a5]⟩, .agg ⟨[.int .u64 a6, .int .u64 a7]⟩, .agg ⟨[.int .u64 a8, .int .u64 a9]⟩, .slice none 0 0] [] 6 [false, true]) =
  Res.ok (Value.bool true, [], [(0 : Int) ≤ (0 : Int) ∧ (0 : Int) < (5 : Int), [Value.int IntKind.u64 a0, Value.int IntKind.u64 a1] = [Value.int IntKind.u64 a0, Value.int IntKind.u64 a1], (a0 == (0 : Int) && (a1 == (0 :
 Int) && true)) = false, (0 : Int) ≤ (0 : Int) ∧ (0 : Int) < (5 : Int), [Value.int IntKind.u64 a0, Value.int IntKind.u64 a1] = [Value.int IntKind.u64 a0, Value.int IntKind.u64 a1], (0 : Int) ≤ (1 : Int) ∧ (1 : Int) < (5 :
 Int), [Value.int IntKind.u64 a2, Value.int IntKind.u64 a3] = [Value.int IntKind.u64 a2, Value.int IntKind.u64 a3], (a0 == a2 && (a1 == a3 && true)) = true]) := by kernel_rfl
theorem fx_n2 (a0 a1 a2 a3 a4 a5 a6 a7 a8 a9 : Int) : prjV (runZ (fuV 0 noL) Try.prog 12 5 [.agg ⟨[.int .u64 a0, .int .u64 a1]⟩, .agg ⟨[.int .u64 a2, .int .u64 a3]⟩, .agg ⟨[.int .u64 a4, .int .u64 a5]⟩, .agg ⟨[.int .u64 a6, .int .u64 a7]⟩, .agg ⟨[.int .u64 a8, .int .u64 a9]⟩, .slice none 0 0] [] 6 [false, false, true]) =
  Res.ok (Value.bool true, [], ((fun (q0 q1 q2 q3 : Prop) => [q0, q1, (a0 == (0 : Int) && (a1 == (0 : Int) && true)) = false, q0, q1, q2, q3, (a0 == a2 && (a1 == a3 && true)) = false, q2, q3, (a2 == (0 : Int) && (a3 == (0 :
 Int) && true)) = true]) ((0 : Int) ≤ (0 : Int) ∧ (0 : Int) < (5 : Int)) ([Value.int IntKind.u64 a0, Value.int IntKind.u64 a1] = [Value.int IntKind.u64 a0, Value.int IntKind.u64 a1]) ((0 : Int) ≤ (1 : Int) ∧ (1 : Int) < (5
 : Int)) ([Value.int IntKind.u64 a2, Value.int IntKind.u64 a3] = [Value.int IntKind.u64 a2, Value.int IntKind.u64 a3]))) := by kernel_rfl
theorem fx_n3 (a0 a1 a2 a3 a4 a5 a6 a7 a8 a9 : Int) : prjV (runZ (fuV 0 noL) Try.prog 12 5 [.agg ⟨[.int .u64 a0, .int .u64 a1]⟩, .agg ⟨[.int .u64 a2, .int .u64 a3]⟩, .agg ⟨[.int .u64 a4, .int .u64 a5]⟩, .agg ⟨[.int .u64 a6, .int .u64 a7]⟩, .agg ⟨[.int .u64 a8, .int .u64 a9]⟩, .slice none 0 0] [] 6 [false, false, false, true]) =
  Res.ok (Value.bool true, [], ((fun (q0 q1 q2 q3 : Prop) => [q0, q1, (a0 == (0 : Int) && (a1 == (0 : Int) && true)) = false, q0, q1, q2, q3, (a0 == a2 && (a1 == a3 && true)) = false, q2, q3, (a2 == (0 : Int) && (a3 == (0 :
 Int) && true)) = false, q0, q1, (0 : Int) ≤ (2 : Int) ∧ (2 : Int) < (5 : Int), [Value.int IntKind.u64 a4, Value.int IntKind.u64 a5] = [Value.int IntKind.u64 a4, Value.int IntKind.u64 a5], (a0 == a4 && (a1 == a5 && true))
 = true]) ((0 : Int) ≤ (0 : Int) ∧ (0 : Int) < (5 : Int)) ([Value.int IntKind.u64 a0, Value.int IntKind.u64 a1] = [Value.int IntKind.u64 a0, Value.int IntKind.u64 a1]) ((0 : Int) ≤ (1 : Int) ∧ (1 : Int) < (5 : Int))
 ([Value.int IntKind.u64 a2, Value.int IntKind.u64 a3] = [Value.int IntKind.u64 a2, Value.int IntKind.u64 a3]))) := by kernel_rfl
theorem fx_n4 (a0 a1 a2 a3 a4 a5 a6 a7 a8 a9 : Int) : prjV (runZ (fuV 0 noL) Try.prog 12 5 [.agg ⟨[.int .u64 a0, .int .u64 a1]⟩, .agg ⟨[.int .u64 a2, .int .u64 a3]⟩, .agg ⟨[.int .u64 a4, .int .u64 a5]⟩, .agg ⟨[.int .u64 a6, .int .u64 a7]⟩, .agg ⟨[.int .u64 a8, .int .u64 a9]⟩, .slice none 0 0] [] 6 [false, false, false, false, true]) =
  Res.ok (Value.bool true, [], ((fun (q0 q1 q2 q3 q4 q5 : Prop) => [q0, q1, (a0 == (0 : Int) && (a1 == (0 : Int) && true)) = false, q0, q1, q2, q3, (a0 == a2 && (a1 == a3 && true)) = false, q2, q3, (a2 == (0 : Int) && (a3
 == (0 : Int) && true)) = false, q0, q1, q4, q5, (a0 == a4 && (a1 == a5 && true)) = false, q2, q3, q4, q5, (a2 == a4 && (a3 == a5 && true)) = true]) ((0 : Int) ≤ (0 : Int) ∧ (0 : Int) < (5 : Int)) ([Value.int IntKind.u64
 a0, Value.int IntKind.u64 a1] = [Value.int IntKind.u64 a0, Value.int IntKind.u64 a1]) ((0 : Int) ≤ (1 : Int) ∧ (1 : Int) < (5 : Int)) ([Value.int IntKind.u64 a2, Value.int IntKind.u64 a3] = [Value.int IntKind.u64 a2,
 Value.int IntKind.u64 a3]) ((0 : Int) ≤ (2 : Int) ∧ (2 : Int) < (5 : Int)) ([Value.int IntKind.u64 a4, Value.int IntKind.u64 a5] = [Value.int IntKind.u64 a4, Value.int IntKind.u64 a5]))) := by kernel_rfl
theorem fx_n5 (a0 a1 a2 a3 a4 a5 a6 a7 a8 a9 : Int) : prjV (runZ (fuV 0 noL) Try.prog 12 5 [.agg ⟨[.int .u64 a0, .int .u64 a1]⟩, .agg ⟨[.int .u64 a2, .int .u64 a3]⟩, .agg ⟨[.int .u64 a4, .int .u64 a5]⟩, .agg ⟨[.int .u64 a6, .int .u64 a7]⟩, .agg ⟨[.int .u64 a8, .int .u64 a9]⟩, .slice none 0 0] [] 6 [false, false, false, false, false, true]) =
  Res.ok (Value.bool true, [], ((fun (q0 q1 q2 q3 q4 q5 : Prop) => [q0, q1, (a0 == (0 : Int) && (a1 == (0 : Int) && true)) = false, q0, q1, q2, q3, (a0 == a2 && (a1 == a3 && true)) = false, q2, q3, (a2 == (0 : Int) && (a3
 == (0 : Int) && true)) = false, q0, q1, q4, q5, (a0 == a4 && (a1 == a5 && true)) = false, q2, q3, q4, q5, (a2 == a4 && (a3 == a5 && true)) = false, q4, q5, (a4 == (0 : Int) && (a5 == (0 : Int) && true)) = true]) ((0 :
 Int) ≤ (0 : Int) ∧ (0 : Int) < (5 : Int)) ([Value.int IntKind.u64 a0, Value.int IntKind.u64 a1] = [Value.int IntKind.u64 a0, Value.int IntKind.u64 a1]) ((0 : Int) ≤ (1 : Int) ∧ (1 : Int) < (5 : Int)) ([Value.int
 IntKind.u64 a2, Value.int IntKind.u64 a3] = [Value.int IntKind.u64 a2, Value.int IntKind.u64 a3]) ((0 : Int) ≤ (2 : Int) ∧ (2 : Int) < (5 : Int)) ([Value.int IntKind.u64 a4, Value.int IntKind.u64 a5] = [Value.int
 IntKind.u64 a4, Value.int IntKind.u64 a5]))) := by kernel_rfl
theorem fx_n6 (a0 a1 a2 a3 a4 a5 a6 a7 a8 a9 : Int) : prjV (runZ (fuV 0 noL) Try.prog 12 5 [.agg ⟨[.int .u64 a0, .int .u64 a1]⟩, .agg ⟨[.int .u64 a2, .int .u64 a3]⟩, .agg ⟨[.int .u64 a4, .int .u64 a5]⟩, .agg ⟨[.int .u64 a6, .int .u64 a7]⟩, .agg ⟨[.int .u64 a8, .int .u64 a9]⟩, .slice none 0 0] [] 6 [false, false, false, false, false, false, true]) =
  Res.ok (Value.bool true, [], ((fun (q0 q1 q2 q3 q4 q5 : Prop) => [q0, q1, (a0 == (0 : Int) && (a1 == (0 : Int) && true)) = false, q0, q1, q2, q3, (a0 == a2 && (a1 == a3 && true)) = false, q2, q3, (a2 == (0 : Int) && (a3
 == (0 : Int) && true)) = false, q0, q1, q4, q5, (a0 == a4 && (a1 == a5 && true)) = false, q2, q3, q4, q5, (a2 == a4 && (a3 == a5 && true)) = false, q4, q5, (a4 == (0 : Int) && (a5 == (0 : Int) && true)) = false, q0, q1,
 (0 : Int) ≤ (3 : Int) ∧ (3 : Int) < (5 : Int), [Value.int IntKind.u64 a6, Value.int IntKind.u64 a7] = [Value.int IntKind.u64 a6, Value.int IntKind.u64 a7], (a0 == a6 && (a1 == a7 && true)) = true]) ((0 : Int) ≤ (0 : Int)
 ∧ (0 : Int) < (5 : Int)) ([Value.int IntKind.u64 a0, Value.int IntKind.u64 a1] = [Value.int IntKind.u64 a0, Value.int IntKind.u64 a1]) ((0 : Int) ≤ (1 : Int) ∧ (1 : Int) < (5 : Int)) ([Value.int IntKind.u64 a2, Value.int
 IntKind.u64 a3] = [Value.int IntKind.u64 a2, Value.int IntKind.u64 a3]) ((0 : Int) ≤ (2 : Int) ∧ (2 : Int) < (5 : Int)) ([Value.int IntKind.u64 a4, Value.int IntKind.u64 a5] = [Value.int IntKind.u64 a4, Value.int
 IntKind.u64 a5]))) := by kernel_rfl
theorem fx_n7 (a0 a1 a2 a3 a4 a5 a6 a7 a8 a9 : Int) : prjV (runZ (fuV 0 noL) Try.prog 12 5 [.agg ⟨[.int .u64 a0, .int .u64 a1]⟩, .agg ⟨[.int .u64 a2, .int .u64 a3]⟩, .agg ⟨[.int .u64 a4, .int .u64 a5]⟩, .agg ⟨[.int .u64 a6, .int .u64 a7]⟩, .agg ⟨[.int .u64 a8, .int .u64 a9]⟩, .slice none 0 0] [] 6 [false, false, false, false, false, false, false, true]) =
  Res.ok (Value.bool true, [], ((fun (q0 q1 q2 q3 q4 q5 q6 q7 : Prop) => [q0, q1, (a0 == (0 : Int) && (a1 == (0 : Int) && true)) = false, q0, q1, q2, q3, (a0 == a2 && (a1 == a3 && true)) = false, q2, q3, (a2 == (0 : Int) &&
 (a3 == (0 : Int) && true)) = false, q0, q1, q4, q5, (a0 == a4 && (a1 == a5 && true)) = false, q2, q3, q4, q5, (a2 == a4 && (a3 == a5 && true)) = false, q4, q5, (a4 == (0 : Int) && (a5 == (0 : Int) && true)) = false, q0,
 q1, q6, q7, (a0 == a6 && (a1 == a7 && true)) = false, q2, q3, q6, q7, (a2 == a6 && (a3 == a7 && true)) = true]) ((0 : Int) ≤ (0 : Int) ∧ (0 : Int) < (5 : Int)) ([Value.int IntKind.u64 a0, Value.int IntKind.u64 a1] =
 [Value.int IntKind.u64 a0, Value.int IntKind.u64 a1]) ((0 : Int) ≤ (1 : Int) ∧ (1 : Int) < (5 : Int)) ([Value.int IntKind.u64 a2, Value.int IntKind.u64 a3] = [Value.int IntKind.u64 a2, Value.int IntKind.u64 a3]) ((0 :
 Int) ≤ (2 : Int) ∧ (2 : Int) < (5 : Int)) ([Value.int IntKind.u64 a4, Value.int IntKind.u64 a5] = [Value.int IntKind.u64 a4, Value.int IntKind.u64 a5]) ((0 : Int) ≤ (3 : Int) ∧ (3 : Int) < (5 : Int)) ([Value.int
 IntKind.u64 a6, Value.int IntKind.u64 a7] = [Value.int IntKind.u64 a6, Value.int IntKind.u64 a7]))) := by kernel_rfl
theorem fx_n8 (a0 a1 a2 a3 a4 a5 a6 a7 a8 a9 : Int) : prjV (runZ (fuV 0 noL) Try.prog 12 5 [.agg ⟨[.int .u64 a0, .int .u64 a1]⟩, .agg ⟨[.int .u64 a2, .int .u64 a3]⟩, .agg ⟨[.int .u64 a4, .int .u64 a5]⟩, .agg ⟨[.int .u64 a6, .int .u64 a7]⟩, .agg ⟨[.int .u64 a8, .int .u64 a9]⟩, .slice none 0 0] [] 6 [false, false, false, false, false, false, false, false, true]) =
  Res.ok (Value.bool true, [], ((fun (q0 q1 q2 q3 q4 q5 q6 q7 : Prop) => [q0, q1, (a0 == (0 : Int) && (a1 == (0 : Int) && true)) = false, q0, q1, q2, q3, (a0 == a2 && (a1 == a3 && true)) = false, q2, q3, (a2 == (0 : Int) &&
 (a3 == (0 : Int) && true)) = false, q0, q1, q4, q5, (a0 == a4 && (a1 == a5 && true)) = false, q2, q3, q4, q5, (a2 == a4 && (a3 == a5 && true)) = false, q4, q5, (a4 == (0 : Int) && (a5 == (0 : Int) && true)) = false, q0,
 q1, q6, q7, (a0 == a6 && (a1 == a7 && true)) = false, q2, q3, q6, q7, (a2 == a6 && (a3 == a7 && true)) = false, q4, q5, q6, q7, (a4 == a6 && (a5 == a7 && true)) = true]) ((0 : Int) ≤ (0 : Int) ∧ (0 : Int) < (5 : Int))
 ([Value.int IntKind.u64 a0, Value.int IntKind.u64 a1] = [Value.int IntKind.u64 a0, Value.int IntKind.u64 a1]) ((0 : Int) ≤ (1 : Int) ∧ (1 : Int) < (5 : Int)) ([Value.int IntKind.u64 a2, Value.int IntKind.u64 a3] =
 [Value.int IntKind.u64 a2, Value.int IntKind.u64 a3]) ((0 : Int) ≤ (2 : Int) ∧ (2 : Int) < (5 : Int)) ([Value.int IntKind.u64 a4, Value.int IntKind.u64 a5] = [Value.int IntKind.u64 a4, Value.int IntKind.u64 a5]) ((0 :
 Int) ≤ (3 : Int) ∧ (3 : Int) < (5 : Int)) ([Value.int IntKind.u64 a6, Value.int IntKind.u64 a7] = [Value.int IntKind.u64 a6, Value.int IntKind.u64 a7]))) := by kernel_rfl
theorem fx_n9 (a0 a1 a2 a3 a4 a5 a6 a7 a8 a9 : Int) : prjV (runZ (fuV 0 noL) Try.prog 12 5 [.agg ⟨[.int .u64 a0, .int .u64 a1]⟩, .agg ⟨[.int .u64 a2, .int .u64 a3]⟩, .agg ⟨[.int .u64 a4, .int .u64 a5]⟩, .agg ⟨[.int .u64 a6, .int .u64 a7]⟩, .agg ⟨[.int .u64 a8, .int .u64 a9]⟩, .slice none 0 0] [] 6 [false, false, false, false, false, false, false, false, false, true]) =
  Res.ok (Value.bool true, [], ((fun (q0 q1 q2 q3 q4 q5 q6 q7 : Prop) => [q0, q1, (a0 == (0 : Int) && (a1 == (0 : Int) && true)) = false, q0, q1, q2, q3, (a0 == a2 && (a1 == a3 && true)) = false, q2, q3, (a2 == (0 : Int) &&
 (a3 == (0 : Int) && true)) = false, q0, q1, q4, q5, (a0 == a4 && (a1 == a5 && true)) = false, q2, q3, q4, q5, (a2 == a4 && (a3 == a5 && true)) = false, q4, q5, (a4 == (0 : Int) && (a5 == (0 : Int) && true)) = false, q0,
 q1, q6, q7, (a0 == a6 && (a1 == a7 && true)) = false, q2, q3, q6, q7, (a2 == a6 && (a3 == a7 && true)) = false, q4, q5, q6, q7, (a4 == a6 && (a5 == a7 && true)) = false, q6, q7, (a6 == (0 : Int) && (a7 == (0 : Int) &&
 true)) = true]) ((0 : Int) ≤ (0 : Int) ∧ (0 : Int) < (5 : Int)) ([Value.int IntKind.u64 a0, Value.int IntKind.u64 a1] = [Value.int IntKind.u64 a0, Value.int IntKind.u64 a1]) ((0 : Int) ≤ (1 : Int) ∧ (1 : Int) < (5 : Int))
 ([Value.int IntKind.u64 a2, Value.int IntKind.u64 a3] = [Value.int IntKind.u64 a2, Value.int IntKind.u64 a3]) ((0 : Int) ≤ (2 : Int) ∧ (2 : Int) < (5 : Int)) ([Value.int IntKind.u64 a4, Value.int IntKind.u64 a5] =
 [Value.int IntKind.u64 a4, Value.int IntKind.u64 a5]) ((0 : Int) ≤ (3 : Int) ∧ (3 : Int) < (5 : Int)) ([Value.int IntKind.u64 a6, Value.int IntKind.u64 a7] = [Value.int IntKind.u64 a6, Value.int IntKind.u64 a7]))) := by kernel_rfl
theorem fx_n10 (a0 a1 a2 a3 a4 a5 a6 a7 a8 a9 : Int) : prjV (runZ (fuV 0 noL) Try.prog 12 5 [.agg ⟨[.int .u64 a0, .int .u64 a1]⟩, .agg ⟨[.int .u64 a2, .int .u64 a3]⟩, .agg ⟨[.int .u64 a4, .int .u64 a5]⟩, .agg ⟨[.int .u64 a6, .int .u64 a7]⟩, .agg ⟨[.int .u64 a8, .int .u64 a9]⟩, .slice none 0 0] [] 6 [false, false, false, false, false, false, false, false, false, false, true]) =
  Res.ok (Value.bool true, [], ((fun (q0 q1 q2 q3 q4 q5 q6 q7 : Prop) => [q0, q1, (a0 == (0 : Int) && (a1 == (0 : Int) && true)) = false, q0, q1, q2, q3, (a0 == a2 && (a1 == a3 && true)) = false, q2, q3, (a2 == (0 : Int) &&
 (a3 == (0 : Int) && true)) = false, q0, q1, q4, q5, (a0 == a4 && (a1 == a5 && true)) = false, q2, q3, q4, q5, (a2 == a4 && (a3 == a5 && true)) = false, q4, q5, (a4 == (0 : Int) && (a5 == (0 : Int) && true)) = false, q0,
 q1, q6, q7, (a0 == a6 && (a1 == a7 && true)) = false, q2, q3, q6, q7, (a2 == a6 && (a3 == a7 && true)) = false, q4, q5, q6, q7, (a4 == a6 && (a5 == a7 && true)) = false, q6, q7, (a6 == (0 : Int) && (a7 == (0 : Int) &&
 true)) = false, q0, q1, (0 : Int) ≤ (4 : Int) ∧ (4 : Int) < (5 : Int), [Value.int IntKind.u64 a8, Value.int IntKind.u64 a9] = [Value.int IntKind.u64 a8, Value.int IntKind.u64 a9], (a0 == a8 && (a1 == a9 && true)) = true])
 ((0 : Int) ≤ (0 : Int) ∧ (0 : Int) < (5 : Int)) ([Value.int IntKind.u64 a0, Value.int IntKind.u64 a1] = [Value.int IntKind.u64 a0, Value.int IntKind.u64 a1]) ((0 : Int) ≤ (1 : Int) ∧ (1 : Int) < (5 : Int)) ([Value.int
 IntKind.u64 a2, Value.int IntKind.u64 a3] = [Value.int IntKind.u64 a2, Value.int IntKind.u64 a3]) ((0 : Int) ≤ (2 : Int) ∧ (2 : Int) < (5 : Int)) ([Value.int IntKind.u64 a4, Value.int IntKind.u64 a5] = [Value.int
 IntKind.u64 a4, Value.int IntKind.u64 a5]) ((0 : Int) ≤ (3 : Int) ∧ (3 : Int) < (5 : Int)) ([Value.int IntKind.u64 a6, Value.int IntKind.u64 a7] = [Value.int IntKind.u64 a6, Value.int IntKind.u64 a7]))) := by kernel_rfl
theorem fx_n11 (a0 a1 a2 a3 a4 a5 a6 a7 a8 a9 : Int) : prjV (runZ (fuV 0 noL) Try.prog 12 5 [.agg ⟨[.int .u64 a0, .int .u64 a1]⟩, .agg ⟨[.int .u64 a2, .int .u64 a3]⟩, .agg ⟨[.int .u64 a4, .int .u64 a5]⟩, .agg ⟨[.int .u64 a6, .int .u64 a7]⟩, .agg ⟨[.int .u64 a8, .int .u64 a9]⟩, .slice none 0 0] [] 6 [false, false, false, false, false, false, false, false, false, false, false, true]) =
  Res.ok (Value.bool true, [], ((fun (q0 q1 q2 q3 q4 q5 q6 q7 q8 q9 : Prop) => [q0, q1, (a0 == (0 : Int) && (a1 == (0 : Int) && true)) = false, q0, q1, q2, q3, (a0 == a2 && (a1 == a3 && true)) = false, q2, q3, (a2 == (0 :
 Int) && (a3 == (0 : Int) && true)) = false, q0, q1, q4, q5, (a0 == a4 && (a1 == a5 && true)) = false, q2, q3, q4, q5, (a2 == a4 && (a3 == a5 && true)) = false, q4, q5, (a4 == (0 : Int) && (a5 == (0 : Int) && true)) =
 false, q0, q1, q6, q7, (a0 == a6 && (a1 == a7 && true)) = false, q2, q3, q6, q7, (a2 == a6 && (a3 == a7 && true)) = false, q4, q5, q6, q7, (a4 == a6 && (a5 == a7 && true)) = false, q6, q7, (a6 == (0 : Int) && (a7 == (0 :
 Int) && true)) = false, q0, q1, q8, q9, (a0 == a8 && (a1 == a9 && true)) = false, q2, q3, q8, q9, (a2 == a8 && (a3 == a9 && true)) = true]) ((0 : Int) ≤ (0 : Int) ∧ (0 : Int) < (5 : Int)) ([Value.int IntKind.u64 a0,
 Value.int IntKind.u64 a1] = [Value.int IntKind.u64 a0, Value.int IntKind.u64 a1]) ((0 : Int) ≤ (1 : Int) ∧ (1 : Int) < (5 : Int)) ([Value.int IntKind.u64 a2, Value.int IntKind.u64 a3] = [Value.int IntKind.u64 a2,
 Value.int IntKind.u64 a3]) ((0 : Int) ≤ (2 : Int) ∧ (2 : Int) < (5 : Int)) ([Value.int IntKind.u64 a4, Value.int IntKind.u64 a5] = [Value.int IntKind.u64 a4, Value.int IntKind.u64 a5]) ((0 : Int) ≤ (3 : Int) ∧ (3 : Int) <
 (5 : Int)) ([Value.int IntKind.u64 a6, Value.int IntKind.u64 a7] = [Value.int IntKind.u64 a6, Value.int IntKind.u64 a7]) ((0 : Int) ≤ (4 : Int) ∧ (4 : Int) < (5 : Int)) ([Value.int IntKind.u64 a8, Value.int IntKind.u64
 a9] = [Value.int IntKind.u64 a8, Value.int IntKind.u64 a9]))) := by kernel_rfl
theorem fx_n12 (a0 a1 a2 a3 a4 a5 a6 a7 a8 a9 : Int) : prjV (runZ (fuV 0 noL) Try.prog 12 5 [.agg ⟨[.int .u64 a0, .int .u64 a1]⟩, .agg ⟨[.int .u64 a2, .int .u64 a3]⟩, .agg ⟨[.int .u64 a4, .int .u64 a5]⟩, .agg ⟨[.int .u64 a6, .int .u64 a7]⟩, .agg ⟨[.int .u64 a8, .int .u64 a9]⟩, .slice none 0 0] [] 6 [false, false, false, false, false, false, false, false, false, false, false, false, true]) =
  Res.ok (Value.bool true, [], ((fun (q0 q1 q2 q3 q4 q5 q6 q7 q8 q9 : Prop) => [q0, q1, (a0 == (0 : Int) && (a1 == (0 : Int) && true)) = false, q0, q1, q2, q3, (a0 == a2 && (a1 == a3 && true)) = false, q2, q3, (a2 == (0 :
 Int) && (a3 == (0 : Int) && true)) = false, q0, q1, q4, q5, (a0 == a4 && (a1 == a5 && true)) = false, q2, q3, q4, q5, (a2 == a4 && (a3 == a5 && true)) = false, q4, q5, (a4 == (0 : Int) && (a5 == (0 : Int) && true)) =
 false, q0, q1, q6, q7, (a0 == a6 && (a1 == a7 && true)) = false, q2, q3, q6, q7, (a2 == a6 && (a3 == a7 && true)) = false, q4, q5, q6, q7, (a4 == a6 && (a5 == a7 && true)) = false, q6, q7, (a6 == (0 : Int) && (a7 == (0 :
 Int) && true)) = false, q0, q1, q8, q9, (a0 == a8 && (a1 == a9 && true)) = false, q2, q3, q8, q9, (a2 == a8 && (a3 == a9 && true)) = false, q4, q5, q8, q9, (a4 == a8 && (a5 == a9 && true)) = true]) ((0 : Int) ≤ (0 : Int)
 ∧ (0 : Int) < (5 : Int)) ([Value.int IntKind.u64 a0, Value.int IntKind.u64 a1] = [Value.int IntKind.u64 a0, Value.int IntKind.u64 a1]) ((0 : Int) ≤ (1 : Int) ∧ (1 : Int) < (5 : Int)) ([Value.int IntKind.u64 a2, Value.int
 IntKind.u64 a3] = [Value.int IntKind.u64 a2, Value.int IntKind.u64 a3]) ((0 : Int) ≤ (2 : Int) ∧ (2 : Int) < (5 : Int)) ([Value.int IntKind.u64 a4, Value.int IntKind.u64 a5] = [Value.int IntKind.u64 a4, Value.int
 IntKind.u64 a5]) ((0 : Int) ≤ (3 : Int) ∧ (3 : Int) < (5 : Int)) ([Value.int IntKind.u64 a6, Value.int IntKind.u64 a7] = [Value.int IntKind.u64 a6, Value.int IntKind.u64 a7]) ((0 : Int) ≤ (4 : Int) ∧ (4 : Int) < (5 :
 Int)) ([Value.int IntKind.u64 a8, Value.int IntKind.u64 a9] = [Value.int IntKind.u64 a8, Value.int IntKind.u64 a9]))) := by kernel_rfl
theorem fx_n13 (a0 a1 a2 a3 a4 a5 a6 a7 a8 a9 : Int) : prjV (runZ (fuV 0 noL) Try.prog 12 5 [.agg ⟨[.int .u64 a0, .int .u64 a1]⟩, .agg ⟨[.int .u64 a2, .int .u64 a3]⟩, .agg ⟨[.int .u64 a4, .int .u64 a5]⟩, .agg ⟨[.int .u64 a6, .int .u64 a7]⟩, .agg ⟨[.int .u64 a8, .int .u64 a9]⟩, .slice none 0 0] [] 6 [false, false, false, false, false, false, false, false, false, false, false, false, false, true]) =
  Res.ok (Value.bool true, [], ((fun (q0 q1 q2 q3 q4 q5 q6 q7 q8 q9 : Prop) => [q0, q1, (a0 == (0 : Int) && (a1 == (0 : Int) && true)) = false, q0, q1, q2, q3, (a0 == a2 && (a1 == a3 && true)) = false, q2, q3, (a2 == (0 :
 Int) && (a3 == (0 : Int) && true)) = false, q0, q1, q4, q5, (a0 == a4 && (a1 == a5 && true)) = false, q2, q3, q4, q5, (a2 == a4 && (a3 == a5 && true)) = false, q4, q5, (a4 == (0 : Int) && (a5 == (0 : Int) && true)) =
 false, q0, q1, q6, q7, (a0 == a6 && (a1 == a7 && true)) = false, q2, q3, q6, q7, (a2 == a6 && (a3 == a7 && true)) = false, q4, q5, q6, q7, (a4 == a6 && (a5 == a7 && true)) = false, q6, q7, (a6 == (0 : Int) && (a7 == (0 :
 Int) && true)) = false, q0, q1, q8, q9, (a0 == a8 && (a1 == a9 && true)) = false, q2, q3, q8, q9, (a2 == a8 && (a3 == a9 && true)) = false, q4, q5, q8, q9, (a4 == a8 && (a5 == a9 && true)) = false, q6, q7, q8, q9, (a6 ==
 a8 && (a7 == a9 && true)) = true]) ((0 : Int) ≤ (0 : Int) ∧ (0 : Int) < (5 : Int)) ([Value.int IntKind.u64 a0, Value.int IntKind.u64 a1] = [Value.int IntKind.u64 a0, Value.int IntKind.u64 a1]) ((0 : Int) ≤ (1 : Int) ∧ (1
 : Int) < (5 : Int)) ([Value.int IntKind.u64 a2, Value.int IntKind.u64 a3] = [Value.int IntKind.u64 a2, Value.int IntKind.u64 a3]) ((0 : Int) ≤ (2 : Int) ∧ (2 : Int) < (5 : Int)) ([Value.int IntKind.u64 a4, Value.int
 IntKind.u64 a5] = [Value.int IntKind.u64 a4, Value.int IntKind.u64 a5]) ((0 : Int) ≤ (3 : Int) ∧ (3 : Int) < (5 : Int)) ([Value.int IntKind.u64 a6, Value.int IntKind.u64 a7] = [Value.int IntKind.u64 a6, Value.int
 IntKind.u64 a7]) ((0 : Int) ≤ (4 : Int) ∧ (4 : Int) < (5 : Int)) ([Value.int IntKind.u64 a8, Value.int IntKind.u64 a9] = [Value.int IntKind.u64 a8, Value.int IntKind.u64 a9]))) := by kernel_rfl
theorem fx_n14 (a0 a1 a2 a3 a4 a5 a6 a7 a8 a9 : Int) : prjV (runZ (fuV 0 noL) Try.prog 12 5 [.agg ⟨[.int .u64 a0, .int .u64 a1]⟩, .agg ⟨[.int .u64 a2, .int .u64 a3]⟩, .agg ⟨[.int .u64 a4, .int .u64 a5]⟩, .agg ⟨[.int .u64 a6, .int .u64 a7]⟩, .agg ⟨[.int .u64 a8, .int .u64 a9]⟩, .slice none 0 0] [] 6 [false, false, false, false, false, false, false, false, false, false, false, false, false, false, true]) =
  Res.ok (Value.bool true, [], ((fun (q0 q1 q2 q3 q4 q5 q6 q7 q8 q9 : Prop) => [q0, q1, (a0 == (0 : Int) && (a1 == (0 : Int) && true)) = false, q0, q1, q2, q3, (a0 == a2 && (a1 == a3 && true)) = false, q2, q3, (a2 == (0 :
 Int) && (a3 == (0 : Int) && true)) = false, q0, q1, q4, q5, (a0 == a4 && (a1 == a5 && true)) = false, q2, q3, q4, q5, (a2 == a4 && (a3 == a5 && true)) = false, q4, q5, (a4 == (0 : Int) && (a5 == (0 : Int) && true)) =
 false, q0, q1, q6, q7, (a0 == a6 && (a1 == a7 && true)) = false, q2, q3, q6, q7, (a2 == a6 && (a3 == a7 && true)) = false, q4, q5, q6, q7, (a4 == a6 && (a5 == a7 && true)) = false, q6, q7, (a6 == (0 : Int) && (a7 == (0 :
 Int) && true)) = false, q0, q1, q8, q9, (a0 == a8 && (a1 == a9 && true)) = false, q2, q3, q8, q9, (a2 == a8 && (a3 == a9 && true)) = false, q4, q5, q8, q9, (a4 == a8 && (a5 == a9 && true)) = false, q6, q7, q8, q9, (a6 ==
 a8 && (a7 == a9 && true)) = false, q8, q9, (a8 == (0 : Int) && (a9 == (0 : Int) && true)) = true]) ((0 : Int) ≤ (0 : Int) ∧ (0 : Int) < (5 : Int)) ([Value.int IntKind.u64 a0, Value.int IntKind.u64 a1] = [Value.int
 IntKind.u64 a0, Value.int IntKind.u64 a1]) ((0 : Int) ≤ (1 : Int) ∧ (1 : Int) < (5 : Int)) ([Value.int IntKind.u64 a2, Value.int IntKind.u64 a3] = [Value.int IntKind.u64 a2, Value.int IntKind.u64 a3]) ((0 : Int) ≤ (2 :
 Int) ∧ (2 : Int) < (5 : Int)) ([Value.int IntKind.u64 a4, Value.int IntKind.u64 a5] = [Value.int IntKind.u64 a4, Value.int IntKind.u64 a5]) ((0 : Int) ≤ (3 : Int) ∧ (3 : Int) < (5 : Int)) ([Value.int IntKind.u64 a6,
 Value.int IntKind.u64 a7] = [Value.int IntKind.u64 a6, Value.int IntKind.u64 a7]) ((0 : Int) ≤ (4 : Int) ∧ (4 : Int) < (5 : Int)) ([Value.int IntKind.u64 a8, Value.int IntKind.u64 a9] = [Value.int IntKind.u64 a8,
 Value.int IntKind.u64 a9]))) := by kernel_rfl
theorem fx_nall (a0 a1 a2 a3 a4 a5 a6 a7 a8 a9 : Int) (T1 : List Value) (L1 : List En) (m : Nat) : prjV (runZ (fuV 0 (orL (fuB1 Try.prog (spB Try.prog [.int .u64 a8, .int .u64 a9] (xL a0 a1 a2 a3 a4 a5 a6 a7 a8 a9) T1 L1 [])) (orL (fuB2 Try.prog (spCn [.int .u64 a8, .int .u64 a9] (xL a0 a1 a2 a3 a4 a5 a6 a7 a8 a9) T1)) (orL (fuB3 Try.prog (spD Try.prog [.int .u64 a8, .int .u64 a9] (xL a0 a1 a2 a3 a4 a5 a6 a7 a8 a9) T1 (yC Y1) Y1 m [])) (fuB4 Try.prog (spT Try.prog [.int .u64 a8, .int .u64 a9] (xL a0 a1 a2 a3 a4 a5 a6 a7 a8 a9) T1 (yC Y1) L1 m)))))) Try.prog 14 5 [.agg ⟨[.int .u64 a0, .int .u64 a1]⟩, .agg ⟨[.int .u64 a2, .int .u64 a3]⟩, .agg ⟨[.int .u64 a4, .int .u64 a5]⟩, .agg ⟨[.int .u64 a6, .int .u64 a7]⟩, .agg ⟨[.int .u64 a8, .int .u64 a9]⟩, .slice none 0 0] [] 6 [false, false, false, false, false, false, false, false, false, false, false, false, false, false, false, false]) =
  Res.ok (Value.bool true, [], ((fun (q0 q1 q2 q3 q4 q5 q6 q7 q8 q9 q10 : Prop) => [q0, q1, (a0 == (0 : Int) && (a1 == (0 : Int) && true)) = false, q0, q1, q2, q3, (a0 == a2 && (a1 == a3 && true)) = false, q2, q3, (a2 == (0
 : Int) && (a3 == (0 : Int) && true)) = false, q0, q1, q4, q5, (a0 == a4 && (a1 == a5 && true)) = false, q2, q3, q4, q5, (a2 == a4 && (a3 == a5 && true)) = false, q4, q5, (a4 == (0 : Int) && (a5 == (0 : Int) && true)) =
 false, q0, q1, q6, q7, (a0 == a6 && (a1 == a7 && true)) = false, q2, q3, q6, q7, (a2 == a6 && (a3 == a7 && true)) = false, q4, q5, q6, q7, (a4 == a6 && (a5 == a7 && true)) = false, q6, q7, (a6 == (0 : Int) && (a7 == (0 :
 Int) && true)) = false, q0, q1, q8, q9, (a0 == a8 && (a1 == a9 && true)) = false, q2, q3, q8, q9, (a2 == a8 && (a3 == a9 && true)) = false, q4, q5, q8, q9, (a4 == a8 && (a5 == a9 && true)) = false, q6, q7, q8, q9, (a6 ==
 a8 && (a7 == a9 && true)) = false, q8, q9, (a8 == (0 : Int) && (a9 == (0 : Int) && true)) = false, false = false, fb1 Try.prog = fb1 Try.prog, [(5, Value.slice none 0 0), (10, Value.pointer (some (Addr.mk 10 0 none))),
 (13, Value.bool true), (14, Value.slice (some (Addr.mk 11 0 none)) 5 5), (17, Value.pointer (some (Addr.mk 12 0 none))), (18, Value.slice (some (Addr.mk 13 0 none)) 4 4), (19, Value.int IntKind.i64 (0 : Int))] = fbS
 (Value.slice none 0 0) (0 : Int), [(13, Rw.mk Kd.shut [Value.int IntKind.i64 (1 : Int), Value.int IntKind.i64 (2 : Int), Value.int IntKind.i64 (3 : Int), Value.int IntKind.i64 (4 : Int)]), (12, Rw.mk Kd.shut [Value.int
 IntKind.u64 (0 : Int), Value.int IntKind.u64 (0 : Int), Value.int IntKind.i64 (0 : Int), Value.int IntKind.i64 (0 : Int), Value.int IntKind.i64 (0 : Int), Value.slice none 0 0, Value.int IntKind.u64 (0 : Int), Value.int
 IntKind.u64 (0 : Int), Value.int IntKind.i64 (0 : Int), Value.int IntKind.i64 (0 : Int), Value.int IntKind.i64 (0 : Int), Value.slice none 0 0, Value.int IntKind.u64 (0 : Int), Value.int IntKind.u64 (0 : Int), Value.int
 IntKind.i64 (0 : Int), Value.int IntKind.i64 (0 : Int), Value.int IntKind.i64 (0 : Int), Value.slice none 0 0, Value.int IntKind.u64 (0 : Int), Value.int IntKind.u64 (0 : Int), Value.int IntKind.i64 (0 : Int), Value.int
 IntKind.i64 (0 : Int), Value.int IntKind.i64 (0 : Int), Value.slice none 0 0, Value.int IntKind.i64 (0 : Int), Value.bool true]), (11, Rw.mk Kd.shut [Value.int IntKind.u64 a0, Value.int IntKind.u64 a1, Value.int
 IntKind.u64 a2, Value.int IntKind.u64 a3, Value.int IntKind.u64 a4, Value.int IntKind.u64 a5, Value.int IntKind.u64 a6, Value.int IntKind.u64 a7, Value.int IntKind.u64 a8, Value.int IntKind.u64 a9]), (10, Rw.mk Kd.shut
 [Value.int IntKind.u64 a8, Value.int IntKind.u64 a9]), (9, Rw.mk Kd.shut [Value.int IntKind.u64 a6, Value.int IntKind.u64 a7]), (8, Rw.mk Kd.shut [Value.int IntKind.u64 a4, Value.int IntKind.u64 a5]), (7, Rw.mk Kd.shut
 [Value.int IntKind.u64 a2, Value.int IntKind.u64 a3]), (6, Rw.mk Kd.shut [Value.int IntKind.u64 a0, Value.int IntKind.u64 a1])] = (13, Rw.mk Kd.shut [Value.int IntKind.i64 (1 : Int), Value.int IntKind.i64 (2 : Int),
 Value.int IntKind.i64 (3 : Int), Value.int IntKind.i64 (4 : Int)]) :: (12, tbL []) :: (boxes [Value.int IntKind.u64 a0, Value.int IntKind.u64 a1, Value.int IntKind.u64 a2, Value.int IntKind.u64 a3, Value.int IntKind.u64
 a4, Value.int IntKind.u64 a5, Value.int IntKind.u64 a6, Value.int IntKind.u64 a7, Value.int IntKind.u64 a8, Value.int IntKind.u64 a9] [Value.int IntKind.u64 a8, Value.int IntKind.u64 a9] ++ []), 14 = 14, T1 = Rw.cs (tbL
 L1) ∧ Fl [Value.int IntKind.u64 a8, Value.int IntKind.u64 a9] ∧ Fl [Value.int IntKind.u64 a0, Value.int IntKind.u64 a1, Value.int IntKind.u64 a2, Value.int IntKind.u64 a3, Value.int IntKind.u64 a4, Value.int IntKind.u64
 a5, Value.int IntKind.u64 a6, Value.int IntKind.u64 a7, Value.int IntKind.u64 a8, Value.int IntKind.u64 a9] ∧ Keep 14 (Value.slice none 0 0) ∧ LoopB Try.prog (Value.slice none 0 0) [Value.int IntKind.u64 a8, Value.int
 IntKind.u64 a9] [Value.int IntKind.u64 a0, Value.int IntKind.u64 a1, Value.int IntKind.u64 a2, Value.int IntKind.u64 a3, Value.int IntKind.u64 a4, Value.int IntKind.u64 a5, Value.int IntKind.u64 a6, Value.int IntKind.u64
 a7, Value.int IntKind.u64 a8, Value.int IntKind.u64 a9] (0 : Int) [] L1, fb2 Try.prog = fb2 Try.prog, [(5, Value.slice none 0 0), (10, Value.pointer (some (Addr.mk 10 0 none))), (13, Value.bool true), (14, Value.slice
 (some (Addr.mk 11 0 none)) 5 5), (17, Value.pointer (some (Addr.mk 12 0 none))), (18, Value.slice (some (Addr.mk 13 0 none)) 4 4), (23, Value.int IntKind.i64 (0 : Int))] = [(5, Value.slice none 0 0), (10, Value.pointer
 (some (Addr.mk 10 0 none))), (13, Value.bool true), (14, Value.slice (some (Addr.mk 11 0 none)) 5 5), (17, Value.pointer (some (Addr.mk 12 0 none))), (18, Value.slice (some (Addr.mk 13 0 none)) 4 4), (23, Value.int
 IntKind.i64 (0 : Int))], q10, 100 = 100, Fl [Value.int IntKind.u64 a8, Value.int IntKind.u64 a9] ∧ Fl [Value.int IntKind.u64 a0, Value.int IntKind.u64 a1, Value.int IntKind.u64 a2, Value.int IntKind.u64 a3, Value.int
 IntKind.u64 a4, Value.int IntKind.u64 a5, Value.int IntKind.u64 a6, Value.int IntKind.u64 a7, Value.int IntKind.u64 a8, Value.int IntKind.u64 a9] ∧ Fl T1, fb3 Try.prog = fb3 Try.prog, [(10, Value.pointer (some (Addr.mk 10
 0 none))), (13, Value.bool true), (14, Value.slice (some (Addr.mk 11 0 none)) 5 5), (17, Value.pointer (some (Addr.mk 12 0 none))), (18, Value.slice (some (Addr.mk 13 0 none)) 4 4), (27, Value.int IntKind.i64 (0 : Int)),
 (28, Value.int IntKind.i64 (1 : Int))] = fdS 0 (1 : Int), q10, 200 = 200, [Value.int IntKind.i64 (1 : Int), Value.int IntKind.i64 (2 : Int), Value.int IntKind.i64 (3 : Int), Value.int IntKind.i64 (4 : Int)] = [Value.int
 IntKind.i64 (1 : Int), Value.int IntKind.i64 (2 : Int), Value.int IntKind.i64 (3 : Int), Value.int IntKind.i64 (4 : Int)] ∧ Fl [Value.int IntKind.u64 a8, Value.int IntKind.u64 a9] ∧ Fl [Value.int IntKind.u64 a0, Value.int
 IntKind.u64 a1, Value.int IntKind.u64 a2, Value.int IntKind.u64 a3, Value.int IntKind.u64 a4, Value.int IntKind.u64 a5, Value.int IntKind.u64 a6, Value.int IntKind.u64 a7, Value.int IntKind.u64 a8, Value.int IntKind.u64
 a9] ∧ Fl T1 ∧ LoopD Try.prog [Value.int IntKind.u64 a8, Value.int IntKind.u64 a9] [Value.int IntKind.u64 a0, Value.int IntKind.u64 a1, Value.int IntKind.u64 a2, Value.int IntKind.u64 a3, Value.int IntKind.u64 a4,
 Value.int IntKind.u64 a5, Value.int IntKind.u64 a6, Value.int IntKind.u64 a7, Value.int IntKind.u64 a8, Value.int IntKind.u64 a9] T1 Y1 m, fuC Try.prog 37 = fuC Try.prog 37, [(10, Value.pointer (some (Addr.mk 10 0
 none))), (13, Value.bool true), (14, Value.slice (some (Addr.mk 11 0 none)) 5 5), (17, Value.pointer (some (Addr.mk 12 0 none))), (27, Value.int IntKind.i64 (↑m : Int))] = t4S m, q10, 300 = 300, T1 = Rw.cs (tbL L1) ∧
 [Value.int IntKind.u64 a8, Value.int IntKind.u64 a9] = [Value.int IntKind.u64 a8, Value.int IntKind.u64 a9] ∧ Fl [Value.int IntKind.u64 a0, Value.int IntKind.u64 a1, Value.int IntKind.u64 a2, Value.int IntKind.u64 a3,
 Value.int IntKind.u64 a4, Value.int IntKind.u64 a5, Value.int IntKind.u64 a6, Value.int IntKind.u64 a7, Value.int IntKind.u64 a8, Value.int IntKind.u64 a9] ∧ TailF Try.prog [Value.int IntKind.u64 a0, Value.int IntKind.u64
 a1, Value.int IntKind.u64 a2, Value.int IntKind.u64 a3, Value.int IntKind.u64 a4, Value.int IntKind.u64 a5, Value.int IntKind.u64 a6, Value.int IntKind.u64 a7, Value.int IntKind.u64 a8, Value.int IntKind.u64 a9] m L1])
 ((0 : Int) ≤ (0 : Int) ∧ (0 : Int) < (5 : Int)) ([Value.int IntKind.u64 a0, Value.int IntKind.u64 a1] = [Value.int IntKind.u64 a0, Value.int IntKind.u64 a1]) ((0 : Int) ≤ (1 : Int) ∧ (1 : Int) < (5 : Int)) ([Value.int
 IntKind.u64 a2, Value.int IntKind.u64 a3] = [Value.int IntKind.u64 a2, Value.int IntKind.u64 a3]) ((0 : Int) ≤ (2 : Int) ∧ (2 : Int) < (5 : Int)) ([Value.int IntKind.u64 a4, Value.int IntKind.u64 a5] = [Value.int
 IntKind.u64 a4, Value.int IntKind.u64 a5]) ((0 : Int) ≤ (3 : Int) ∧ (3 : Int) < (5 : Int)) ([Value.int IntKind.u64 a6, Value.int IntKind.u64 a7] = [Value.int IntKind.u64 a6, Value.int IntKind.u64 a7]) ((0 : Int) ≤ (4 :
 Int) ∧ (4 : Int) < (5 : Int)) ([Value.int IntKind.u64 a8, Value.int IntKind.u64 a9] = [Value.int IntKind.u64 a8, Value.int IntKind.u64 a9]) ([(10, Rw.mk Kd.shut [Value.int IntKind.u64 a8, Value.int IntKind.u64 a9]), (11,
 Rw.mk Kd.shut [Value.int IntKind.u64 a0, Value.int IntKind.u64 a1, Value.int IntKind.u64 a2, Value.int IntKind.u64 a3, Value.int IntKind.u64 a4, Value.int IntKind.u64 a5, Value.int IntKind.u64 a6, Value.int IntKind.u64
 a7, Value.int IntKind.u64 a8, Value.int IntKind.u64 a9]), (12, Rw.mk Kd.shut T1), (13, Rw.mk Kd.shut [Value.int IntKind.i64 (1 : Int), Value.int IntKind.i64 (2 : Int), Value.int IntKind.i64 (3 : Int), Value.int
 IntKind.i64 (4 : Int)])] = [(10, Rw.mk Kd.shut [Value.int IntKind.u64 a8, Value.int IntKind.u64 a9]), (11, Rw.mk Kd.shut [Value.int IntKind.u64 a0, Value.int IntKind.u64 a1, Value.int IntKind.u64 a2, Value.int IntKind.u64
 a3, Value.int IntKind.u64 a4, Value.int IntKind.u64 a5, Value.int IntKind.u64 a6, Value.int IntKind.u64 a7, Value.int IntKind.u64 a8, Value.int IntKind.u64 a9]), (12, Rw.mk Kd.shut T1), (13, Rw.mk Kd.shut [Value.int
 IntKind.i64 (1 : Int), Value.int IntKind.i64 (2 : Int), Value.int IntKind.i64 (3 : Int), Value.int IntKind.i64 (4 : Int)])]))) := by kernel_rfl
theorem fx_s0 (a0 a1 a2 a3 a4 a5 a6 a7 a8 a9 : Int) (bs : List Value) (n c : Nat) : prjV (runZ (fuV 0 noL) Try.prog 12 5 [.agg ⟨[.int .u64 a0, .int .u64 a1]⟩, .agg ⟨[.int .u64 a2, .int .u64 a3]⟩, .agg ⟨[.int .u64 a4, .int .u64 a5]⟩, .agg ⟨[.int .u64 a6, .int .u64 a7]⟩, .agg ⟨[.int .u64 a8, .int .u64 a9]⟩, .slice (some ⟨5, 0, none⟩) n c] [(5, ⟨.old, bs⟩)] 6 [true]) =
  Res.ok (Value.bool true, [], [(0 : Int) ≤ (0 : Int) ∧ (0 : Int) < (5 : Int), [Value.int IntKind.u64 a0, Value.int IntKind.u64 a1] = [Value.int IntKind.u64 a0, Value.int IntKind.u64 a1], (a0 == (0 : Int) && (a1 == (0 :
 Int) && true)) = true]) := by kernel_rfl
theorem fx_s1 (a0 a1 a2 a3 a4 a5 a6 a7 a8 a9 : Int) (bs : List Value) (n c : Nat) : prjV (runZ (fuV 0 noL) Try.prog 12 5 [.agg ⟨[.int .u64 a0, .int .u64 a1]⟩, .agg ⟨[.int .u64 a2, .int .u64 a3]⟩, .agg ⟨[.int .u64 a4, .int .u64 a5]⟩, .agg ⟨[.int .u64 a6, .int .u64 a7]⟩, .agg ⟨[.int .u64 a8, .int .u64 a9]⟩, .slice (some ⟨5, 0, none⟩) n c] [(5, ⟨.old, bs⟩)] 6 [false, true]) =
  Res.ok (Value.bool true, [], [(0 : Int) ≤ (0 : Int) ∧ (0 : Int) < (5 : Int), [Value.int IntKind.u64 a0, Value.int IntKind.u64 a1] = [Value.int IntKind.u64 a0, Value.int IntKind.u64 a1], (a0 == (0 : Int) && (a1 == (0 :
 Int) && true)) = false, (0 : Int) ≤ (0 : Int) ∧ (0 : Int) < (5 : Int), [Value.int IntKind.u64 a0, Value.int IntKind.u64 a1] = [Value.int IntKind.u64 a0, Value.int IntKind.u64 a1], (0 : Int) ≤ (1 : Int) ∧ (1 : Int) < (5 :
 Int), [Value.int IntKind.u64 a2, Value.int IntKind.u64 a3] = [Value.int IntKind.u64 a2, Value.int IntKind.u64 a3], (a0 == a2 && (a1 == a3 && true)) = true]) := by kernel_rfl
theorem fx_s2 (a0 a1 a2 a3 a4 a5 a6 a7 a8 a9 : Int) (bs : List Value) (n c : Nat) : prjV (runZ (fuV 0 noL) Try.prog 12 5 [.agg ⟨[.int .u64 a0, .int .u64 a1]⟩, .agg ⟨[.int .u64 a2, .int .u64 a3]⟩, .agg ⟨[.int .u64 a4, .int .u64 a5]⟩, .agg ⟨[.int .u64 a6, .int .u64 a7]⟩, .agg ⟨[.int .u64 a8, .int .u64 a9]⟩, .slice (some ⟨5, 0, none⟩) n c] [(5, ⟨.old, bs⟩)] 6 [false, false, true]) =
  Res.ok (Value.bool true, [], ((fun (q0 q1 q2 q3 : Prop) => [q0, q1, (a0 == (0 : Int) && (a1 == (0 : Int) && true)) = false, q0, q1, q2, q3, (a0 == a2 && (a1 == a3 && true)) = false, q2, q3, (a2 == (0 : Int) && (a3 == (0 :
 Int) && true)) = true]) ((0 : Int) ≤ (0 : Int) ∧ (0 : Int) < (5 : Int)) ([Value.int IntKind.u64 a0, Value.int IntKind.u64 a1] = [Value.int IntKind.u64 a0, Value.int IntKind.u64 a1]) ((0 : Int) ≤ (1 : Int) ∧ (1 : Int) < (5
 : Int)) ([Value.int IntKind.u64 a2, Value.int IntKind.u64 a3] = [Value.int IntKind.u64 a2, Value.int IntKind.u64 a3]))) := by kernel_rfl
theorem fx_s3 (a0 a1 a2 a3 a4 a5 a6 a7 a8 a9 : Int) (bs : List Value) (n c : Nat) : prjV (runZ (fuV 0 noL) Try.prog 12 5 [.agg ⟨[.int .u64 a0, .int .u64 a1]⟩, .agg ⟨[.int .u64 a2, .int .u64 a3]⟩, .agg ⟨[.int .u64 a4, .int .u64 a5]⟩, .agg ⟨[.int .u64 a6, .int .u64 a7]⟩, .agg ⟨[.int .u64 a8, .int .u64 a9]⟩, .slice (some ⟨5, 0, none⟩) n c] [(5, ⟨.old, bs⟩)] 6 [false, false, false, true]) =
  Res.ok (Value.bool true, [], ((fun (q0 q1 q2 q3 : Prop) => [q0, q1, (a0 == (0 : Int) && (a1 == (0 : Int) && true)) = false, q0, q1, q2, q3, (a0 == a2 && (a1 == a3 && true)) = false, q2, q3, (a2 == (0 : Int) && (a3 == (0 :
 Int) && true)) = false, q0, q1, (0 : Int) ≤ (2 : Int) ∧ (2 : Int) < (5 : Int), [Value.int IntKind.u64 a4, Value.int IntKind.u64 a5] = [Value.int IntKind.u64 a4, Value.int IntKind.u64 a5], (a0 == a4 && (a1 == a5 && true))
 = true]) ((0 : Int) ≤ (0 : Int) ∧ (0 : Int) < (5 : Int)) ([Value.int IntKind.u64 a0, Value.int IntKind.u64 a1] = [Value.int IntKind.u64 a0, Value.int IntKind.u64 a1]) ((0 : Int) ≤ (1 : Int) ∧ (1 : Int) < (5 : Int))
 ([Value.int IntKind.u64 a2, Value.int IntKind.u64 a3] = [Value.int IntKind.u64 a2, Value.int IntKind.u64 a3]))) := by kernel_rfl
theorem fx_s4 (a0 a1 a2 a3 a4 a5 a6 a7 a8 a9 : Int) (bs : List Value) (n c : Nat) : prjV (runZ (fuV 0 noL) Try.prog 12 5 [.agg ⟨[.int .u64 a0, .int .u64 a1]⟩, .agg ⟨[.int .u64 a2, .int .u64 a3]⟩, .agg ⟨[.int .u64 a4, .int .u64 a5]⟩, .agg ⟨[.int .u64 a6, .int .u64 a7]⟩, .agg ⟨[.int .u64 a8, .int .u64 a9]⟩, .slice (some ⟨5, 0, none⟩) n c] [(5, ⟨.old, bs⟩)] 6 [false, false, false, false, true]) =
  Res.ok (Value.bool true, [], ((fun (q0 q1 q2 q3 q4 q5 : Prop) => [q0, q1, (a0 == (0 : Int) && (a1 == (0 : Int) && true)) = false, q0, q1, q2, q3, (a0 == a2 && (a1 == a3 && true)) = false, q2, q3, (a2 == (0 : Int) && (a3
 == (0 : Int) && true)) = false, q0, q1, q4, q5, (a0 == a4 && (a1 == a5 && true)) = false, q2, q3, q4, q5, (a2 == a4 && (a3 == a5 && true)) = true]) ((0 : Int) ≤ (0 : Int) ∧ (0 : Int) < (5 : Int)) ([Value.int IntKind.u64
 a0, Value.int IntKind.u64 a1] = [Value.int IntKind.u64 a0, Value.int IntKind.u64 a1]) ((0 : Int) ≤ (1 : Int) ∧ (1 : Int) < (5 : Int)) ([Value.int IntKind.u64 a2, Value.int IntKind.u64 a3] = [Value.int IntKind.u64 a2,
 Value.int IntKind.u64 a3]) ((0 : Int) ≤ (2 : Int) ∧ (2 : Int) < (5 : Int)) ([Value.int IntKind.u64 a4, Value.int IntKind.u64 a5] = [Value.int IntKind.u64 a4, Value.int IntKind.u64 a5]))) := by kernel_rfl
theorem fx_s5 (a0 a1 a2 a3 a4 a5 a6 a7 a8 a9 : Int) (bs : List Value) (n c : Nat) : prjV (runZ (fuV 0 noL) Try.prog 12 5 [.agg ⟨[.int .u64 a0, .int .u64 a1]⟩, .agg ⟨[.int .u64 a2, .int .u64 a3]⟩, .agg ⟨[.int .u64 a4, .int .u64 a5]⟩, .agg ⟨[.int .u64 a6, .int .u64 a7]⟩, .agg ⟨[.int .u64 a8, .int .u64 a9]⟩, .slice (some ⟨5, 0, none⟩) n c] [(5, ⟨.old, bs⟩)] 6 [false, false, false, false, false, true]) =
  Res.ok (Value.bool true, [], ((fun (q0 q1 q2 q3 q4 q5 : Prop) => [q0, q1, (a0 == (0 : Int) && (a1 == (0 : Int) && true)) = false, q0, q1, q2, q3, (a0 == a2 && (a1 == a3 && true)) = false, q2, q3, (a2 == (0 : Int) && (a3
 == (0 : Int) && true)) = false, q0, q1, q4, q5, (a0 == a4 && (a1 == a5 && true)) = false, q2, q3, q4, q5, (a2 == a4 && (a3 == a5 && true)) = false, q4, q5, (a4 == (0 : Int) && (a5 == (0 : Int) && true)) = true]) ((0 :
 Int) ≤ (0 : Int) ∧ (0 : Int) < (5 : Int)) ([Value.int IntKind.u64 a0, Value.int IntKind.u64 a1] = [Value.int IntKind.u64 a0, Value.int IntKind.u64 a1]) ((0 : Int) ≤ (1 : Int) ∧ (1 : Int) < (5 : Int)) ([Value.int
 IntKind.u64 a2, Value.int IntKind.u64 a3] = [Value.int IntKind.u64 a2, Value.int IntKind.u64 a3]) ((0 : Int) ≤ (2 : Int) ∧ (2 : Int) < (5 : Int)) ([Value.int IntKind.u64 a4, Value.int IntKind.u64 a5] = [Value.int
 IntKind.u64 a4, Value.int IntKind.u64 a5]))) := by kernel_rfl
theorem fx_s6 (a0 a1 a2 a3 a4 a5 a6 a7 a8 a9 : Int) (bs : List Value) (n c : Nat) : prjV (runZ (fuV 0 noL) Try.prog 12 5 [.agg ⟨[.int .u64 a0, .int .u64 a1]⟩, .agg ⟨[.int .u64 a2, .int .u64 a3]⟩, .agg ⟨[.int .u64 a4, .int .u64 a5]⟩, .agg ⟨[.int .u64 a6, .int .u64 a7]⟩, .agg ⟨[.int .u64 a8, .int .u64 a9]⟩, .slice (some ⟨5, 0, none⟩) n c] [(5, ⟨.old, bs⟩)] 6 [false, false, false, false, false, false, true]) =
  Res.ok (Value.bool true, [], ((fun (q0 q1 q2 q3 q4 q5 : Prop) => [q0, q1, (a0 == (0 : Int) && (a1 == (0 : Int) && true)) = false, q0, q1, q2, q3, (a0 == a2 && (a1 == a3 && true)) = false, q2, q3, (a2 == (0 : Int) && (a3
 == (0 : Int) && true)) = false, q0, q1, q4, q5, (a0 == a4 && (a1 == a5 && true)) = false, q2, q3, q4, q5, (a2 == a4 && (a3 == a5 && true)) = false, q4, q5, (a4 == (0 : Int) && (a5 == (0 : Int) && true)) = false, q0, q1,
 (0 : Int) ≤ (3 : Int) ∧ (3 : Int) < (5 : Int), [Value.int IntKind.u64 a6, Value.int IntKind.u64 a7] = [Value.int IntKind.u64 a6, Value.int IntKind.u64 a7], (a0 == a6 && (a1 == a7 && true)) = true]) ((0 : Int) ≤ (0 : Int)
 ∧ (0 : Int) < (5 : Int)) ([Value.int IntKind.u64 a0, Value.int IntKind.u64 a1] = [Value.int IntKind.u64 a0, Value.int IntKind.u64 a1]) ((0 : Int) ≤ (1 : Int) ∧ (1 : Int) < (5 : Int)) ([Value.int IntKind.u64 a2, Value.int
 IntKind.u64 a3] = [Value.int IntKind.u64 a2, Value.int IntKind.u64 a3]) ((0 : Int) ≤ (2 : Int) ∧ (2 : Int) < (5 : Int)) ([Value.int IntKind.u64 a4, Value.int IntKind.u64 a5] = [Value.int IntKind.u64 a4, Value.int
 IntKind.u64 a5]))) := by kernel_rfl
theorem fx_s7 (a0 a1 a2 a3 a4 a5 a6 a7 a8 a9 : Int) (bs : List Value) (n c : Nat) : prjV (runZ (fuV 0 noL) Try.prog 12 5 [.agg ⟨[.int .u64 a0, .int .u64 a1]⟩, .agg ⟨[.int .u64 a2, .int .u64 a3]⟩, .agg ⟨[.int .u64 a4, .int .u64 a5]⟩, .agg ⟨[.int .u64 a6, .int .u64 a7]⟩, .agg ⟨[.int .u64 a8, .int .u64 a9]⟩, .slice (some ⟨5, 0, none⟩) n c] [(5, ⟨.old, bs⟩)] 6 [false, false, false, false, false, false, false, true]) =
  Res.ok (Value.bool true, [], ((fun (q0 q1 q2 q3 q4 q5 q6 q7 : Prop) => [q0, q1, (a0 == (0 : Int) && (a1 == (0 : Int) && true)) = false, q0, q1, q2, q3, (a0 == a2 && (a1 == a3 && true)) = false, q2, q3, (a2 == (0 : Int) &&
 (a3 == (0 : Int) && true)) = false, q0, q1, q4, q5, (a0 == a4 && (a1 == a5 && true)) = false, q2, q3, q4, q5, (a2 == a4 && (a3 == a5 && true)) = false, q4, q5, (a4 == (0 : Int) && (a5 == (0 : Int) && true)) = false, q0,
 q1, q6, q7, (a0 == a6 && (a1 == a7 && true)) = false, q2, q3, q6, q7, (a2 == a6 && (a3 == a7 && true)) = true]) ((0 : Int) ≤ (0 : Int) ∧ (0 : Int) < (5 : Int)) ([Value.int IntKind.u64 a0, Value.int IntKind.u64 a1] =
 [Value.int IntKind.u64 a0, Value.int IntKind.u64 a1]) ((0 : Int) ≤ (1 : Int) ∧ (1 : Int) < (5 : Int)) ([Value.int IntKind.u64 a2, Value.int IntKind.u64 a3] = [Value.int IntKind.u64 a2, Value.int IntKind.u64 a3]) ((0 :
 Int) ≤ (2 : Int) ∧ (2 : Int) < (5 : Int)) ([Value.int IntKind.u64 a4, Value.int IntKind.u64 a5] = [Value.int IntKind.u64 a4, Value.int IntKind.u64 a5]) ((0 : Int) ≤ (3 : Int) ∧ (3 : Int) < (5 : Int)) ([Value.int
 IntKind.u64 a6, Value.int IntKind.u64 a7] = [Value.int IntKind.u64 a6, Value.int IntKind.u64 a7]))) := by kernel_rfl
theorem fx_s8 (a0 a1 a2 a3 a4 a5 a6 a7 a8 a9 : Int) (bs : List Value) (n c : Nat) : prjV (runZ (fuV 0 noL) Try.prog 12 5 [.agg ⟨[.int .u64 a0, .int .u64 a1]⟩, .agg ⟨[.int .u64 a2, .int .u64 a3]⟩, .agg ⟨[.int .u64 a4, .int .u64 a5]⟩, .agg ⟨[.int .u64 a6, .int .u64 a7]⟩, .agg ⟨[.int .u64 a8, .int .u64 a9]⟩, .slice (some ⟨5, 0, none⟩) n c] [(5, ⟨.old, bs⟩)] 6 [false, false, false, false, false, false, false, false, true]) =
  Res.ok (Value.bool true, [], ((fun (q0 q1 q2 q3 q4 q5 q6 q7 : Prop) => [q0, q1, (a0 == (0 : Int) && (a1 == (0 : Int) && true)) = false, q0, q1, q2, q3, (a0 == a2 && (a1 == a3 && true)) = false, q2, q3, (a2 == (0 : Int) &&
 (a3 == (0 : Int) && true)) = false, q0, q1, q4, q5, (a0 == a4 && (a1 == a5 && true)) = false, q2, q3, q4, q5, (a2 == a4 && (a3 == a5 && true)) = false, q4, q5, (a4 == (0 : Int) && (a5 == (0 : Int) && true)) = false, q0,
 q1, q6, q7, (a0 == a6 && (a1 == a7 && true)) = false, q2, q3, q6, q7, (a2 == a6 && (a3 == a7 && true)) = false, q4, q5, q6, q7, (a4 == a6 && (a5 == a7 && true)) = true]) ((0 : Int) ≤ (0 : Int) ∧ (0 : Int) < (5 : Int))
 ([Value.int IntKind.u64 a0, Value.int IntKind.u64 a1] = [Value.int IntKind.u64 a0, Value.int IntKind.u64 a1]) ((0 : Int) ≤ (1 : Int) ∧ (1 : Int) < (5 : Int)) ([Value.int IntKind.u64 a2, Value.int IntKind.u64 a3] =
 [Value.int IntKind.u64 a2, Value.int IntKind.u64 a3]) ((0 : Int) ≤ (2 : Int) ∧ (2 : Int) < (5 : Int)) ([Value.int IntKind.u64 a4, Value.int IntKind.u64 a5] = [Value.int IntKind.u64 a4, Value.int IntKind.u64 a5]) ((0 :
 Int) ≤ (3 : Int) ∧ (3 : Int) < (5 : Int)) ([Value.int IntKind.u64 a6, Value.int IntKind.u64 a7] = [Value.int IntKind.u64 a6, Value.int IntKind.u64 a7]))) := by kernel_rfl
theorem fx_s9 (a0 a1 a2 a3 a4 a5 a6 a7 a8 a9 : Int) (bs : List Value) (n c : Nat) : prjV (runZ (fuV 0 noL) Try.prog 12 5 [.agg ⟨[.int .u64 a0, .int .u64 a1]⟩, .agg ⟨[.int .u64 a2, .int .u64 a3]⟩, .agg ⟨[.int .u64 a4, .int .u64 a5]⟩, .agg ⟨[.int .u64 a6, .int .u64 a7]⟩, .agg ⟨[.int .u64 a8, .int .u64 a9]⟩, .slice (some ⟨5, 0, none⟩) n c] [(5, ⟨.old, bs⟩)] 6 [false, false, false, false, false, false, false, false, false, true]) =
  Res.ok (Value.bool true, [], ((fun (q0 q1 q2 q3 q4 q5 q6 q7 : Prop) => [q0, q1, (a0 == (0 : Int) && (a1 == (0 : Int) && true)) = false, q0, q1, q2, q3, (a0 == a2 && (a1 == a3 && true)) = false, q2, q3, (a2 == (0 : Int) &&
 (a3 == (0 : Int) && true)) = false, q0, q1, q4, q5, (a0 == a4 && (a1 == a5 && true)) = false, q2, q3, q4, q5, (a2 == a4 && (a3 == a5 && true)) = false, q4, q5, (a4 == (0 : Int) && (a5 == (0 : Int) && true)) = false, q0,
 q1, q6, q7, (a0 == a6 && (a1 == a7 && true)) = false, q2, q3, q6, q7, (a2 == a6 && (a3 == a7 && true)) = false, q4, q5, q6, q7, (a4 == a6 && (a5 == a7 && true)) = false, q6, q7, (a6 == (0 : Int) && (a7 == (0 : Int) &&
 true)) = true]) ((0 : Int) ≤ (0 : Int) ∧ (0 : Int) < (5 : Int)) ([Value.int IntKind.u64 a0, Value.int IntKind.u64 a1] = [Value.int IntKind.u64 a0, Value.int IntKind.u64 a1]) ((0 : Int) ≤ (1 : Int) ∧ (1 : Int) < (5 : Int))
 ([Value.int IntKind.u64 a2, Value.int IntKind.u64 a3] = [Value.int IntKind.u64 a2, Value.int IntKind.u64 a3]) ((0 : Int) ≤ (2 : Int) ∧ (2 : Int) < (5 : Int)) ([Value.int IntKind.u64 a4, Value.int IntKind.u64 a5] =
 [Value.int IntKind.u64 a4, Value.int IntKind.u64 a5]) ((0 : Int) ≤ (3 : Int) ∧ (3 : Int) < (5 : Int)) ([Value.int IntKind.u64 a6, Value.int IntKind.u64 a7] = [Value.int IntKind.u64 a6, Value.int IntKind.u64 a7]))) := by kernel_rfl
theorem fx_s10 (a0 a1 a2 a3 a4 a5 a6 a7 a8 a9 : Int) (bs : List Value) (n c : Nat) : prjV (runZ (fuV 0 noL) Try.prog 12 5 [.agg ⟨[.int .u64 a0, .int .u64 a1]⟩, .agg ⟨[.int .u64 a2, .int .u64 a3]⟩, .agg ⟨[.int .u64 a4, .int .u64 a5]⟩, .agg ⟨[.int .u64 a6, .int .u64 a7]⟩, .agg ⟨[.int .u64 a8, .int .u64 a9]⟩, .slice (some ⟨5, 0, none⟩) n c] [(5, ⟨.old, bs⟩)] 6 [false, false, false, false, false, false, false, false, false, false, true]) =
  Res.ok (Value.bool true, [], ((fun (q0 q1 q2 q3 q4 q5 q6 q7 : Prop) => [q0, q1, (a0 == (0 : Int) && (a1 == (0 : Int) && true)) = false, q0, q1, q2, q3, (a0 == a2 && (a1 == a3 && true)) = false, q2, q3, (a2 == (0 : Int) &&
 (a3 == (0 : Int) && true)) = false, q0, q1, q4, q5, (a0 == a4 && (a1 == a5 && true)) = false, q2, q3, q4, q5, (a2 == a4 && (a3 == a5 && true)) = false, q4, q5, (a4 == (0 : Int) && (a5 == (0 : Int) && true)) = false, q0,
 q1, q6, q7, (a0 == a6 && (a1 == a7 && true)) = false, q2, q3, q6, q7, (a2 == a6 && (a3 == a7 && true)) = false, q4, q5, q6, q7, (a4 == a6 && (a5 == a7 && true)) = false, q6, q7, (a6 == (0 : Int) && (a7 == (0 : Int) &&
 true)) = false, q0, q1, (0 : Int) ≤ (4 : Int) ∧ (4 : Int) < (5 : Int), [Value.int IntKind.u64 a8, Value.int IntKind.u64 a9] = [Value.int IntKind.u64 a8, Value.int IntKind.u64 a9], (a0 == a8 && (a1 == a9 && true)) = true])
 ((0 : Int) ≤ (0 : Int) ∧ (0 : Int) < (5 : Int)) ([Value.int IntKind.u64 a0, Value.int IntKind.u64 a1] = [Value.int IntKind.u64 a0, Value.int IntKind.u64 a1]) ((0 : Int) ≤ (1 : Int) ∧ (1 : Int) < (5 : Int)) ([Value.int
 IntKind.u64 a2, Value.int IntKind.u64 a3] = [Value.int IntKind.u64 a2, Value.int IntKind.u64 a3]) ((0 : Int) ≤ (2 : Int) ∧ (2 : Int) < (5 : Int)) ([Value.int IntKind.u64 a4, Value.int IntKind.u64 a5] = [Value.int
 IntKind.u64 a4, Value.int IntKind.u64 a5]) ((0 : Int) ≤ (3 : Int) ∧ (3 : Int) < (5 : Int)) ([Value.int IntKind.u64 a6, Value.int IntKind.u64 a7] = [Value.int IntKind.u64 a6, Value.int IntKind.u64 a7]))) := by kernel_rfl
theorem fx_s11 (a0 a1 a2 a3 a4 a5 a6 a7 a8 a9 : Int) (bs : List Value) (n c : Nat) : prjV (runZ (fuV 0 noL) Try.prog 12 5 [.agg ⟨[.int .u64 a0, .int .u64 a1]⟩, .agg ⟨[.int .u64 a2, .int .u64 a3]⟩, .agg ⟨[.int .u64 a4, .int .u64 a5]⟩, .agg ⟨[.int .u64 a6, .int .u64 a7]⟩, .agg ⟨[.int .u64 a8, .int .u64 a9]⟩, .slice (some ⟨5, 0, none⟩) n c] [(5, ⟨.old, bs⟩)] 6 [false, false, false, false, false, false, false, false, false, false, false, true]) =
  Res.ok (Value.bool true, [], ((fun (q0 q1 q2 q3 q4 q5 q6 q7 q8 q9 : Prop) => [q0, q1, (a0 == (0 : Int) && (a1 == (0 : Int) && true)) = false, q0, q1, q2, q3, (a0 == a2 && (a1 == a3 && true)) = false, q2, q3, (a2 == (0 :
 Int) && (a3 == (0 : Int) && true)) = false, q0, q1, q4, q5, (a0 == a4 && (a1 == a5 && true)) = false, q2, q3, q4, q5, (a2 == a4 && (a3 == a5 && true)) = false, q4, q5, (a4 == (0 : Int) && (a5 == (0 : Int) && true)) =
 false, q0, q1, q6, q7, (a0 == a6 && (a1 == a7 && true)) = false, q2, q3, q6, q7, (a2 == a6 && (a3 == a7 && true)) = false, q4, q5, q6, q7, (a4 == a6 && (a5 == a7 && true)) = false, q6, q7, (a6 == (0 : Int) && (a7 == (0 :
 Int) && true)) = false, q0, q1, q8, q9, (a0 == a8 && (a1 == a9 && true)) = false, q2, q3, q8, q9, (a2 == a8 && (a3 == a9 && true)) = true]) ((0 : Int) ≤ (0 : Int) ∧ (0 : Int) < (5 : Int)) ([Value.int IntKind.u64 a0,
 Value.int IntKind.u64 a1] = [Value.int IntKind.u64 a0, Value.int IntKind.u64 a1]) ((0 : Int) ≤ (1 : Int) ∧ (1 : Int) < (5 : Int)) ([Value.int IntKind.u64 a2, Value.int IntKind.u64 a3] = [Value.int IntKind.u64 a2,
 Value.int IntKind.u64 a3]) ((0 : Int) ≤ (2 : Int) ∧ (2 : Int) < (5 : Int)) ([Value.int IntKind.u64 a4, Value.int IntKind.u64 a5] = [Value.int IntKind.u64 a4, Value.int IntKind.u64 a5]) ((0 : Int) ≤ (3 : Int) ∧ (3 : Int) <
 (5 : Int)) ([Value.int IntKind.u64 a6, Value.int IntKind.u64 a7] = [Value.int IntKind.u64 a6, Value.int IntKind.u64 a7]) ((0 : Int) ≤ (4 : Int) ∧ (4 : Int) < (5 : Int)) ([Value.int IntKind.u64 a8, Value.int IntKind.u64
 a9] = [Value.int IntKind.u64 a8, Value.int IntKind.u64 a9]))) := by kernel_rfl
theorem fx_s12 (a0 a1 a2 a3 a4 a5 a6 a7 a8 a9 : Int) (bs : List Value) (n c : Nat) : prjV (runZ (fuV 0 noL) Try.prog 12 5 [.agg ⟨[.int .u64 a0, .int .u64 a1]⟩, .agg ⟨[.int .u64 a2, .int .u64 a3]⟩, .agg ⟨[.int .u64 a4, .int .u64 a5]⟩, .agg ⟨[.int .u64 a6, .int .u64 a7]⟩, .agg ⟨[.int .u64 a8, .int .u64 a9]⟩, .slice (some ⟨5, 0, none⟩) n c] [(5, ⟨.old, bs⟩)] 6 [false, false, false, false, false, false, false, false, false, false, false, false, true]) =
  Res.ok (Value.bool true, [], ((fun (q0 q1 q2 q3 q4 q5 q6 q7 q8 q9 : Prop) => [q0, q1, (a0 == (0 : Int) && (a1 == (0 : Int) && true)) = false, q0, q1, q2, q3, (a0 == a2 && (a1 == a3 && true)) = false, q2, q3, (a2 == (0 :
 Int) && (a3 == (0 : Int) && true)) = false, q0, q1, q4, q5, (a0 == a4 && (a1 == a5 && true)) = false, q2, q3, q4, q5, (a2 == a4 && (a3 == a5 && true)) = false, q4, q5, (a4 == (0 : Int) && (a5 == (0 : Int) && true)) =
 false, q0, q1, q6, q7, (a0 == a6 && (a1 == a7 && true)) = false, q2, q3, q6, q7, (a2 == a6 && (a3 == a7 && true)) = false, q4, q5, q6, q7, (a4 == a6 && (a5 == a7 && true)) = false, q6, q7, (a6 == (0 : Int) && (a7 == (0 :
 Int) && true)) = false, q0, q1, q8, q9, (a0 == a8 && (a1 == a9 && true)) = false, q2, q3, q8, q9, (a2 == a8 && (a3 == a9 && true)) = false, q4, q5, q8, q9, (a4 == a8 && (a5 == a9 && true)) = true]) ((0 : Int) ≤ (0 : Int)
 ∧ (0 : Int) < (5 : Int)) ([Value.int IntKind.u64 a0, Value.int IntKind.u64 a1] = [Value.int IntKind.u64 a0, Value.int IntKind.u64 a1]) ((0 : Int) ≤ (1 : Int) ∧ (1 : Int) < (5 : Int)) ([Value.int IntKind.u64 a2, Value.int
 IntKind.u64 a3] = [Value.int IntKind.u64 a2, Value.int IntKind.u64 a3]) ((0 : Int) ≤ (2 : Int) ∧ (2 : Int) < (5 : Int)) ([Value.int IntKind.u64 a4, Value.int IntKind.u64 a5] = [Value.int IntKind.u64 a4, Value.int
 IntKind.u64 a5]) ((0 : Int) ≤ (3 : Int) ∧ (3 : Int) < (5 : Int)) ([Value.int IntKind.u64 a6, Value.int IntKind.u64 a7] = [Value.int IntKind.u64 a6, Value.int IntKind.u64 a7]) ((0 : Int) ≤ (4 : Int) ∧ (4 : Int) < (5 :
 Int)) ([Value.int IntKind.u64 a8, Value.int IntKind.u64 a9] = [Value.int IntKind.u64 a8, Value.int IntKind.u64 a9]))) := by kernel_rfl
theorem fx_s13 (a0 a1 a2 a3 a4 a5 a6 a7 a8 a9 : Int) (bs : List Value) (n c : Nat) : prjV (runZ (fuV 0 noL) Try.prog 12 5 [.agg ⟨[.int .u64 a0, .int .u64 a1]⟩, .agg ⟨[.int .u64 a2, .int .u64 a3]⟩, .agg ⟨[.int .u64 a4, .int .u64 a5]⟩, .agg ⟨[.int .u64 a6, .int .u64 a7]⟩, .agg ⟨[.int .u64 a8, .int .u64 a9]⟩, .slice (some ⟨5, 0, none⟩) n c] [(5, ⟨.old, bs⟩)] 6 [false, false, false, false, false, false, false, false, false, false, false, false, false, true]) =
  Res.ok (Value.bool true, [], ((fun (q0 q1 q2 q3 q4 q5 q6 q7 q8 q9 : Prop) => [q0, q1, (a0 == (0 : Int) && (a1 == (0 : Int) && true)) = false, q0, q1, q2, q3, (a0 == a2 && (a1 == a3 && true)) = false, q2, q3, (a2 == (0 :
 Int) && (a3 == (0 : Int) && true)) = false, q0, q1, q4, q5, (a0 == a4 && (a1 == a5 && true)) = false, q2, q3, q4, q5, (a2 == a4 && (a3 == a5 && true)) = false, q4, q5, (a4 == (0 : Int) && (a5 == (0 : Int) && true)) =
 false, q0, q1, q6, q7, (a0 == a6 && (a1 == a7 && true)) = false, q2, q3, q6, q7, (a2 == a6 && (a3 == a7 && true)) = false, q4, q5, q6, q7, (a4 == a6 && (a5 == a7 && true)) = false, q6, q7, (a6 == (0 : Int) && (a7 == (0 :
 Int) && true)) = false, q0, q1, q8, q9, (a0 == a8 && (a1 == a9 && true)) = false, q2, q3, q8, q9, (a2 == a8 && (a3 == a9 && true)) = false, q4, q5, q8, q9, (a4 == a8 && (a5 == a9 && true)) = false, q6, q7, q8, q9, (a6 ==
 a8 && (a7 == a9 && true)) = true]) ((0 : Int) ≤ (0 : Int) ∧ (0 : Int) < (5 : Int)) ([Value.int IntKind.u64 a0, Value.int IntKind.u64 a1] = [Value.int IntKind.u64 a0, Value.int IntKind.u64 a1]) ((0 : Int) ≤ (1 : Int) ∧ (1
 : Int) < (5 : Int)) ([Value.int IntKind.u64 a2, Value.int IntKind.u64 a3] = [Value.int IntKind.u64 a2, Value.int IntKind.u64 a3]) ((0 : Int) ≤ (2 : Int) ∧ (2 : Int) < (5 : Int)) ([Value.int IntKind.u64 a4, Value.int
 IntKind.u64 a5] = [Value.int IntKind.u64 a4, Value.int IntKind.u64 a5]) ((0 : Int) ≤ (3 : Int) ∧ (3 : Int) < (5 : Int)) ([Value.int IntKind.u64 a6, Value.int IntKind.u64 a7] = [Value.int IntKind.u64 a6, Value.int
 IntKind.u64 a7]) ((0 : Int) ≤ (4 : Int) ∧ (4 : Int) < (5 : Int)) ([Value.int IntKind.u64 a8, Value.int IntKind.u64 a9] = [Value.int IntKind.u64 a8, Value.int IntKind.u64 a9]))) := by kernel_rfl
theorem fx_s14 (a0 a1 a2 a3 a4 a5 a6 a7 a8 a9 : Int) (bs : List Value) (n c : Nat) : prjV (runZ (fuV 0 noL) Try.prog 12 5 [.agg ⟨[.int .u64 a0, .int .u64 a1]⟩, .agg ⟨[.int .u64 a2, .int .u64 a3]⟩, .agg ⟨[.int .u64 a4, .int .u64 a5]⟩, .agg ⟨[.int .u64 a6, .int .u64 a7]⟩, .agg ⟨[.int .u64 a8, .int .u64 a9]⟩, .slice (some ⟨5, 0, none⟩) n c] [(5, ⟨.old, bs⟩)] 6 [false, false, false, false, false, false, false, false, false, false, false, false, false, false, true]) =
  Res.ok (Value.bool true, [], ((fun (q0 q1 q2 q3 q4 q5 q6 q7 q8 q9 : Prop) => [q0, q1, (a0 == (0 : Int) && (a1 == (0 : Int) && true)) = false, q0, q1, q2, q3, (a0 == a2 && (a1 == a3 && true)) = false, q2, q3, (a2 == (0 :
 Int) && (a3 == (0 : Int) && true)) = false, q0, q1, q4, q5, (a0 == a4 && (a1 == a5 && true)) = false, q2, q3, q4, q5, (a2 == a4 && (a3 == a5 && true)) = false, q4, q5, (a4 == (0 : Int) && (a5 == (0 : Int) && true)) =
 false, q0, q1, q6, q7, (a0 == a6 && (a1 == a7 && true)) = false, q2, q3, q6, q7, (a2 == a6 && (a3 == a7 && true)) = false, q4, q5, q6, q7, (a4 == a6 && (a5 == a7 && true)) = false, q6, q7, (a6 == (0 : Int) && (a7 == (0 :
 Int) && true)) = false, q0, q1, q8, q9, (a0 == a8 && (a1 == a9 && true)) = false, q2, q3, q8, q9, (a2 == a8 && (a3 == a9 && true)) = false, q4, q5, q8, q9, (a4 == a8 && (a5 == a9 && true)) = false, q6, q7, q8, q9, (a6 ==
 a8 && (a7 == a9 && true)) = false, q8, q9, (a8 == (0 : Int) && (a9 == (0 : Int) && true)) = true]) ((0 : Int) ≤ (0 : Int) ∧ (0 : Int) < (5 : Int)) ([Value.int IntKind.u64 a0, Value.int IntKind.u64 a1] = [Value.int
 IntKind.u64 a0, Value.int IntKind.u64 a1]) ((0 : Int) ≤ (1 : Int) ∧ (1 : Int) < (5 : Int)) ([Value.int IntKind.u64 a2, Value.int IntKind.u64 a3] = [Value.int IntKind.u64 a2, Value.int IntKind.u64 a3]) ((0 : Int) ≤ (2 :
 Int) ∧ (2 : Int) < (5 : Int)) ([Value.int IntKind.u64 a4, Value.int IntKind.u64 a5] = [Value.int IntKind.u64 a4, Value.int IntKind.u64 a5]) ((0 : Int) ≤ (3 : Int) ∧ (3 : Int) < (5 : Int)) ([Value.int IntKind.u64 a6,
 Value.int IntKind.u64 a7] = [Value.int IntKind.u64 a6, Value.int IntKind.u64 a7]) ((0 : Int) ≤ (4 : Int) ∧ (4 : Int) < (5 : Int)) ([Value.int IntKind.u64 a8, Value.int IntKind.u64 a9] = [Value.int IntKind.u64 a8,
 Value.int IntKind.u64 a9]))) := by kernel_rfl
theorem fx_long (a0 a1 a2 a3 a4 a5 a6 a7 a8 a9 : Int) (bs : List Value) (n c : Nat) : prjV (runZ (fuV 0 noL) Try.prog 12 5 [.agg ⟨[.int .u64 a0, .int .u64 a1]⟩, .agg ⟨[.int .u64 a2, .int .u64 a3]⟩, .agg ⟨[.int .u64 a4, .int .u64 a5]⟩, .agg ⟨[.int .u64 a6, .int .u64 a7]⟩, .agg ⟨[.int .u64 a8, .int .u64 a9]⟩, .slice (some ⟨5, 0, none⟩) n c] [(5, ⟨.old, bs⟩)] 6 [false, false, false, false, false, false, false, false, false, false, false, false, false, false, false, true]) =
  Res.ok (Value.bool true, [], ((fun (q0 q1 q2 q3 q4 q5 q6 q7 q8 q9 : Prop) => [q0, q1, (a0 == (0 : Int) && (a1 == (0 : Int) && true)) = false, q0, q1, q2, q3, (a0 == a2 && (a1 == a3 && true)) = false, q2, q3, (a2 == (0 :
 Int) && (a3 == (0 : Int) && true)) = false, q0, q1, q4, q5, (a0 == a4 && (a1 == a5 && true)) = false, q2, q3, q4, q5, (a2 == a4 && (a3 == a5 && true)) = false, q4, q5, (a4 == (0 : Int) && (a5 == (0 : Int) && true)) =
 false, q0, q1, q6, q7, (a0 == a6 && (a1 == a7 && true)) = false, q2, q3, q6, q7, (a2 == a6 && (a3 == a7 && true)) = false, q4, q5, q6, q7, (a4 == a6 && (a5 == a7 && true)) = false, q6, q7, (a6 == (0 : Int) && (a7 == (0 :
 Int) && true)) = false, q0, q1, q8, q9, (a0 == a8 && (a1 == a9 && true)) = false, q2, q3, q8, q9, (a2 == a8 && (a3 == a9 && true)) = false, q4, q5, q8, q9, (a4 == a8 && (a5 == a9 && true)) = false, q6, q7, q8, q9, (a6 ==
 a8 && (a7 == a9 && true)) = false, q8, q9, (a8 == (0 : Int) && (a9 == (0 : Int) && true)) = false, decide ((↑n : Int) > (20 : Int)) = true]) ((0 : Int) ≤ (0 : Int) ∧ (0 : Int) < (5 : Int)) ([Value.int IntKind.u64 a0,
 Value.int IntKind.u64 a1] = [Value.int IntKind.u64 a0, Value.int IntKind.u64 a1]) ((0 : Int) ≤ (1 : Int) ∧ (1 : Int) < (5 : Int)) ([Value.int IntKind.u64 a2, Value.int IntKind.u64 a3] = [Value.int IntKind.u64 a2,
 Value.int IntKind.u64 a3]) ((0 : Int) ≤ (2 : Int) ∧ (2 : Int) < (5 : Int)) ([Value.int IntKind.u64 a4, Value.int IntKind.u64 a5] = [Value.int IntKind.u64 a4, Value.int IntKind.u64 a5]) ((0 : Int) ≤ (3 : Int) ∧ (3 : Int) <
 (5 : Int)) ([Value.int IntKind.u64 a6, Value.int IntKind.u64 a7] = [Value.int IntKind.u64 a6, Value.int IntKind.u64 a7]) ((0 : Int) ≤ (4 : Int) ∧ (4 : Int) < (5 : Int)) ([Value.int IntKind.u64 a8, Value.int IntKind.u64
 a9] = [Value.int IntKind.u64 a8, Value.int IntKind.u64 a9]))) := by kernel_rfl
theorem fx_sall (a0 a1 a2 a3 a4 a5 a6 a7 a8 a9 : Int) (bs : List Value) (n c : Nat) (T1 : List Value) (L1 : List En) (m : Nat) (T2 Y2 : List Value) (L2 : List En) (Yf : Nat → Int) : prjV (runZ (fuV 0 (orL (fuB1 Try.prog (spB Try.prog [.int .u64 a8, .int .u64 a9] (xL a0 a1 a2 a3 a4 a5 a6 a7 a8 a9) T1 L1 [(5, ⟨.old, bs⟩)])) (orL (fuB2 Try.prog (spCs Try.prog [.int .u64 a8, .int .u64 a9] (xL a0 a1 a2 a3 a4 a5 a6 a7 a8 a9) T1 T2 Y2 bs L1 L2 Yf)) (orL (fuB3 Try.prog (spD Try.prog [.int .u64 a8, .int .u64 a9] (xL a0 a1 a2 a3 a4 a5 a6 a7 a8 a9) T2 Y2 Yf m [(5, ⟨.old, bs⟩)])) (fuB4 Try.prog (spT Try.prog [.int .u64 a8, .int .u64 a9] (xL a0 a1 a2 a3 a4 a5 a6 a7 a8 a9) T2 Y2 L2 m)))))) Try.prog 14 5 [.agg ⟨[.int .u64 a0, .int .u64 a1]⟩, .agg ⟨[.int .u64 a2, .int .u64 a3]⟩, .agg ⟨[.int .u64 a4, .int .u64 a5]⟩, .agg ⟨[.int .u64 a6, .int .u64 a7]⟩, .agg ⟨[.int .u64 a8, .int .u64 a9]⟩, .slice (some ⟨5, 0, none⟩) n c] [(5, ⟨.old, bs⟩)] 6 [false, false, false, false, false, false, false, false, false, false, false, false, false, false, false, false]) =
  Res.ok (Value.bool true, [], ((fun (q0 q1 q2 q3 q4 q5 q6 q7 q8 q9 : Prop) => [q0, q1, (a0 == (0 : Int) && (a1 == (0 : Int) && true)) = false, q0, q1, q2, q3, (a0 == a2 && (a1 == a3 && true)) = false, q2, q3, (a2 == (0 :
 Int) && (a3 == (0 : Int) && true)) = false, q0, q1, q4, q5, (a0 == a4 && (a1 == a5 && true)) = false, q2, q3, q4, q5, (a2 == a4 && (a3 == a5 && true)) = false, q4, q5, (a4 == (0 : Int) && (a5 == (0 : Int) && true)) =
 false, q0, q1, q6, q7, (a0 == a6 && (a1 == a7 && true)) = false, q2, q3, q6, q7, (a2 == a6 && (a3 == a7 && true)) = false, q4, q5, q6, q7, (a4 == a6 && (a5 == a7 && true)) = false, q6, q7, (a6 == (0 : Int) && (a7 == (0 :
 Int) && true)) = false, q0, q1, q8, q9, (a0 == a8 && (a1 == a9 && true)) = false, q2, q3, q8, q9, (a2 == a8 && (a3 == a9 && true)) = false, q4, q5, q8, q9, (a4 == a8 && (a5 == a9 && true)) = false, q6, q7, q8, q9, (a6 ==
 a8 && (a7 == a9 && true)) = false, q8, q9, (a8 == (0 : Int) && (a9 == (0 : Int) && true)) = false, decide ((↑n : Int) > (20 : Int)) = false, fb1 Try.prog = fb1 Try.prog, [(5, Value.slice (some (Addr.mk 5 0 none)) n c),
 (10, Value.pointer (some (Addr.mk 10 0 none))), (13, Value.bool true), (14, Value.slice (some (Addr.mk 11 0 none)) 5 5), (17, Value.pointer (some (Addr.mk 12 0 none))), (18, Value.slice (some (Addr.mk 13 0 none)) 4 4),
 (19, Value.int IntKind.i64 (0 : Int))] = fbS (Value.slice (some (Addr.mk 5 0 none)) n c) (0 : Int), [(13, Rw.mk Kd.shut [Value.int IntKind.i64 (1 : Int), Value.int IntKind.i64 (2 : Int), Value.int IntKind.i64 (3 : Int),
 Value.int IntKind.i64 (4 : Int)]), (12, Rw.mk Kd.shut [Value.int IntKind.u64 (0 : Int), Value.int IntKind.u64 (0 : Int), Value.int IntKind.i64 (0 : Int), Value.int IntKind.i64 (0 : Int), Value.int IntKind.i64 (0 : Int),
 Value.slice none 0 0, Value.int IntKind.u64 (0 : Int), Value.int IntKind.u64 (0 : Int), Value.int IntKind.i64 (0 : Int), Value.int IntKind.i64 (0 : Int), Value.int IntKind.i64 (0 : Int), Value.slice none 0 0, Value.int
 IntKind.u64 (0 : Int), Value.int IntKind.u64 (0 : Int), Value.int IntKind.i64 (0 : Int), Value.int IntKind.i64 (0 : Int), Value.int IntKind.i64 (0 : Int), Value.slice none 0 0, Value.int IntKind.u64 (0 : Int), Value.int
 IntKind.u64 (0 : Int), Value.int IntKind.i64 (0 : Int), Value.int IntKind.i64 (0 : Int), Value.int IntKind.i64 (0 : Int), Value.slice none 0 0, Value.int IntKind.i64 (0 : Int), Value.bool true]), (11, Rw.mk Kd.shut
 [Value.int IntKind.u64 a0, Value.int IntKind.u64 a1, Value.int IntKind.u64 a2, Value.int IntKind.u64 a3, Value.int IntKind.u64 a4, Value.int IntKind.u64 a5, Value.int IntKind.u64 a6, Value.int IntKind.u64 a7, Value.int
 IntKind.u64 a8, Value.int IntKind.u64 a9]), (10, Rw.mk Kd.shut [Value.int IntKind.u64 a8, Value.int IntKind.u64 a9]), (9, Rw.mk Kd.shut [Value.int IntKind.u64 a6, Value.int IntKind.u64 a7]), (8, Rw.mk Kd.shut [Value.int
 IntKind.u64 a4, Value.int IntKind.u64 a5]), (7, Rw.mk Kd.shut [Value.int IntKind.u64 a2, Value.int IntKind.u64 a3]), (6, Rw.mk Kd.shut [Value.int IntKind.u64 a0, Value.int IntKind.u64 a1]), (5, Rw.mk Kd.old bs)] = (13,
 Rw.mk Kd.shut [Value.int IntKind.i64 (1 : Int), Value.int IntKind.i64 (2 : Int), Value.int IntKind.i64 (3 : Int), Value.int IntKind.i64 (4 : Int)]) :: (12, tbL []) :: (boxes [Value.int IntKind.u64 a0, Value.int
 IntKind.u64 a1, Value.int IntKind.u64 a2, Value.int IntKind.u64 a3, Value.int IntKind.u64 a4, Value.int IntKind.u64 a5, Value.int IntKind.u64 a6, Value.int IntKind.u64 a7, Value.int IntKind.u64 a8, Value.int IntKind.u64
 a9] [Value.int IntKind.u64 a8, Value.int IntKind.u64 a9] ++ [(5, Rw.mk Kd.old bs)]), 14 = 14, T1 = Rw.cs (tbL L1) ∧ Fl [Value.int IntKind.u64 a8, Value.int IntKind.u64 a9] ∧ Fl [Value.int IntKind.u64 a0, Value.int
 IntKind.u64 a1, Value.int IntKind.u64 a2, Value.int IntKind.u64 a3, Value.int IntKind.u64 a4, Value.int IntKind.u64 a5, Value.int IntKind.u64 a6, Value.int IntKind.u64 a7, Value.int IntKind.u64 a8, Value.int IntKind.u64
 a9] ∧ Keep 14 (Value.slice (some (Addr.mk 5 0 none)) n c) ∧ LoopB Try.prog (Value.slice (some (Addr.mk 5 0 none)) n c) [Value.int IntKind.u64 a8, Value.int IntKind.u64 a9] [Value.int IntKind.u64 a0, Value.int IntKind.u64
 a1, Value.int IntKind.u64 a2, Value.int IntKind.u64 a3, Value.int IntKind.u64 a4, Value.int IntKind.u64 a5, Value.int IntKind.u64 a6, Value.int IntKind.u64 a7, Value.int IntKind.u64 a8, Value.int IntKind.u64 a9] (0 : Int)
 [] L1, fb2 Try.prog = fb2 Try.prog, [(5, Value.slice (some (Addr.mk 5 0 none)) n c), (10, Value.pointer (some (Addr.mk 10 0 none))), (13, Value.bool true), (14, Value.slice (some (Addr.mk 11 0 none)) 5 5), (17,
 Value.pointer (some (Addr.mk 12 0 none))), (18, Value.slice (some (Addr.mk 13 0 none)) 4 4), (23, Value.int IntKind.i64 (0 : Int))] = fcS n c 0, [(10, Rw.mk Kd.shut [Value.int IntKind.u64 a8, Value.int IntKind.u64 a9]),
 (11, Rw.mk Kd.shut [Value.int IntKind.u64 a0, Value.int IntKind.u64 a1, Value.int IntKind.u64 a2, Value.int IntKind.u64 a3, Value.int IntKind.u64 a4, Value.int IntKind.u64 a5, Value.int IntKind.u64 a6, Value.int
 IntKind.u64 a7, Value.int IntKind.u64 a8, Value.int IntKind.u64 a9]), (12, Rw.mk Kd.shut T1), (13, Rw.mk Kd.shut [Value.int IntKind.i64 (1 : Int), Value.int IntKind.i64 (2 : Int), Value.int IntKind.i64 (3 : Int),
 Value.int IntKind.i64 (4 : Int)]), (5, Rw.mk Kd.old bs)] = [(10, Rw.mk Kd.shut [Value.int IntKind.u64 a8, Value.int IntKind.u64 a9]), (11, Rw.mk Kd.shut [Value.int IntKind.u64 a0, Value.int IntKind.u64 a1, Value.int
 IntKind.u64 a2, Value.int IntKind.u64 a3, Value.int IntKind.u64 a4, Value.int IntKind.u64 a5, Value.int IntKind.u64 a6, Value.int IntKind.u64 a7, Value.int IntKind.u64 a8, Value.int IntKind.u64 a9]), (12, Rw.mk Kd.shut
 T1), (13, Rw.mk Kd.shut [Value.int IntKind.i64 (1 : Int), Value.int IntKind.i64 (2 : Int), Value.int IntKind.i64 (3 : Int), Value.int IntKind.i64 (4 : Int)]), (5, Rw.mk Kd.old bs)], 100 = 100, T1 = Rw.cs (tbL L1) ∧ T2 =
 Rw.cs (tbL L2) ∧ Y2 = [Value.int IntKind.i64 (Yf 0), Value.int IntKind.i64 (Yf 1), Value.int IntKind.i64 (Yf 2), Value.int IntKind.i64 (Yf 3)] ∧ Fl [Value.int IntKind.u64 a8, Value.int IntKind.u64 a9] ∧ Fl [Value.int
 IntKind.u64 a0, Value.int IntKind.u64 a1, Value.int IntKind.u64 a2, Value.int IntKind.u64 a3, Value.int IntKind.u64 a4, Value.int IntKind.u64 a5, Value.int IntKind.u64 a6, Value.int IntKind.u64 a7, Value.int IntKind.u64
 a8, Value.int IntKind.u64 a9] ∧ Fl bs ∧ c ≤ 9223372036854775807 ∧ LoopC Try.prog [Value.int IntKind.u64 a8, Value.int IntKind.u64 a9] [Value.int IntKind.u64 a0, Value.int IntKind.u64 a1, Value.int IntKind.u64 a2,
 Value.int IntKind.u64 a3, Value.int IntKind.u64 a4, Value.int IntKind.u64 a5, Value.int IntKind.u64 a6, Value.int IntKind.u64 a7, Value.int IntKind.u64 a8, Value.int IntKind.u64 a9] bs n c L1 L2 Y1 Yf, fb3 Try.prog = fb3
 Try.prog, [(10, Value.pointer (some (Addr.mk 10 0 none))), (13, Value.bool true), (14, Value.slice (some (Addr.mk 11 0 none)) 5 5), (17, Value.pointer (some (Addr.mk 12 0 none))), (18, Value.slice (some (Addr.mk 13 0
 none)) 4 4), (27, Value.int IntKind.i64 (0 : Int)), (28, Value.int IntKind.i64 (1 : Int))] = fdS 0 (1 : Int), [(10, Rw.mk Kd.shut [Value.int IntKind.u64 a8, Value.int IntKind.u64 a9]), (11, Rw.mk Kd.shut [Value.int
 IntKind.u64 a0, Value.int IntKind.u64 a1, Value.int IntKind.u64 a2, Value.int IntKind.u64 a3, Value.int IntKind.u64 a4, Value.int IntKind.u64 a5, Value.int IntKind.u64 a6, Value.int IntKind.u64 a7, Value.int IntKind.u64
 a8, Value.int IntKind.u64 a9]), (12, Rw.mk Kd.shut T2), (13, Rw.mk Kd.shut Y2), (5, Rw.mk Kd.old bs)] = [(10, Rw.mk Kd.shut [Value.int IntKind.u64 a8, Value.int IntKind.u64 a9]), (11, Rw.mk Kd.shut [Value.int IntKind.u64
 a0, Value.int IntKind.u64 a1, Value.int IntKind.u64 a2, Value.int IntKind.u64 a3, Value.int IntKind.u64 a4, Value.int IntKind.u64 a5, Value.int IntKind.u64 a6, Value.int IntKind.u64 a7, Value.int IntKind.u64 a8, Value.int
 IntKind.u64 a9]), (12, Rw.mk Kd.shut T2), (13, Rw.mk Kd.shut Y2), (5, Rw.mk Kd.old bs)], 200 = 200, Y2 = [Value.int IntKind.i64 (Yf 0), Value.int IntKind.i64 (Yf 1), Value.int IntKind.i64 (Yf 2), Value.int IntKind.i64 (Yf
 3)] ∧ Fl [Value.int IntKind.u64 a8, Value.int IntKind.u64 a9] ∧ Fl [Value.int IntKind.u64 a0, Value.int IntKind.u64 a1, Value.int IntKind.u64 a2, Value.int IntKind.u64 a3, Value.int IntKind.u64 a4, Value.int IntKind.u64
 a5, Value.int IntKind.u64 a6, Value.int IntKind.u64 a7, Value.int IntKind.u64 a8, Value.int IntKind.u64 a9] ∧ Fl T2 ∧ LoopD Try.prog [Value.int IntKind.u64 a8, Value.int IntKind.u64 a9] [Value.int IntKind.u64 a0,
 Value.int IntKind.u64 a1, Value.int IntKind.u64 a2, Value.int IntKind.u64 a3, Value.int IntKind.u64 a4, Value.int IntKind.u64 a5, Value.int IntKind.u64 a6, Value.int IntKind.u64 a7, Value.int IntKind.u64 a8, Value.int
 IntKind.u64 a9] T2 Yf m, fuC Try.prog 37 = fuC Try.prog 37, [(10, Value.pointer (some (Addr.mk 10 0 none))), (13, Value.bool true), (14, Value.slice (some (Addr.mk 11 0 none)) 5 5), (17, Value.pointer (some (Addr.mk 12 0
 none))), (27, Value.int IntKind.i64 (↑m : Int))] = t4S m, [(10, Rw.mk Kd.shut [Value.int IntKind.u64 a8, Value.int IntKind.u64 a9]), (11, Rw.mk Kd.shut [Value.int IntKind.u64 a0, Value.int IntKind.u64 a1, Value.int
 IntKind.u64 a2, Value.int IntKind.u64 a3, Value.int IntKind.u64 a4, Value.int IntKind.u64 a5, Value.int IntKind.u64 a6, Value.int IntKind.u64 a7, Value.int IntKind.u64 a8, Value.int IntKind.u64 a9]), (12, Rw.mk Kd.shut
 T2), (13, Rw.mk Kd.shut Y2)] = [(10, Rw.mk Kd.shut [Value.int IntKind.u64 a8, Value.int IntKind.u64 a9]), (11, Rw.mk Kd.shut [Value.int IntKind.u64 a0, Value.int IntKind.u64 a1, Value.int IntKind.u64 a2, Value.int
 IntKind.u64 a3, Value.int IntKind.u64 a4, Value.int IntKind.u64 a5, Value.int IntKind.u64 a6, Value.int IntKind.u64 a7, Value.int IntKind.u64 a8, Value.int IntKind.u64 a9]), (12, Rw.mk Kd.shut T2), (13, Rw.mk Kd.shut
 Y2)], 300 = 300, T2 = Rw.cs (tbL L2) ∧ [Value.int IntKind.u64 a8, Value.int IntKind.u64 a9] = [Value.int IntKind.u64 a8, Value.int IntKind.u64 a9] ∧ Fl [Value.int IntKind.u64 a0, Value.int IntKind.u64 a1, Value.int
 IntKind.u64 a2, Value.int IntKind.u64 a3, Value.int IntKind.u64 a4, Value.int IntKind.u64 a5, Value.int IntKind.u64 a6, Value.int IntKind.u64 a7, Value.int IntKind.u64 a8, Value.int IntKind.u64 a9] ∧ TailF Try.prog
 [Value.int IntKind.u64 a0, Value.int IntKind.u64 a1, Value.int IntKind.u64 a2, Value.int IntKind.u64 a3, Value.int IntKind.u64 a4, Value.int IntKind.u64 a5, Value.int IntKind.u64 a6, Value.int IntKind.u64 a7, Value.int
 IntKind.u64 a8, Value.int IntKind.u64 a9] m L2]) ((0 : Int) ≤ (0 : Int) ∧ (0 : Int) < (5 : Int)) ([Value.int IntKind.u64 a0, Value.int IntKind.u64 a1] = [Value.int IntKind.u64 a0, Value.int IntKind.u64 a1]) ((0 : Int) ≤
 (1 : Int) ∧ (1 : Int) < (5 : Int)) ([Value.int IntKind.u64 a2, Value.int IntKind.u64 a3] = [Value.int IntKind.u64 a2, Value.int IntKind.u64 a3]) ((0 : Int) ≤ (2 : Int) ∧ (2 : Int) < (5 : Int)) ([Value.int IntKind.u64 a4,
 Value.int IntKind.u64 a5] = [Value.int IntKind.u64 a4, Value.int IntKind.u64 a5]) ((0 : Int) ≤ (3 : Int) ∧ (3 : Int) < (5 : Int)) ([Value.int IntKind.u64 a6, Value.int IntKind.u64 a7] = [Value.int IntKind.u64 a6,
 Value.int IntKind.u64 a7]) ((0 : Int) ≤ (4 : Int) ∧ (4 : Int) < (5 : Int)) ([Value.int IntKind.u64 a8, Value.int IntKind.u64 a9] = [Value.int IntKind.u64 a8, Value.int IntKind.u64 a9]))) := by kernel_rfl
end Go.Proofs.Ytdcakhahagbedaa
