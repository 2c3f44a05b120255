/-
  Chapter 22: the statement SessionFull: whatever the arguments are, true (written by wip/tools/gen_fulh.py).
-/
import Derived.Test.YtdcakhahagbedaaFulG
import Derived.Test.YtdcakhahagbedaaOpenSl
namespace Go.Proofs.Ytdcakhahagbedaa
set_option linter.unusedSimpArgs false
set_option linter.unusedVariables false
set_option linter.unusedSectionVars false
open Go Go.RowKit
theorem fu_run {L : LFun} (h : LOne Try.prog L) {k : Nat} {args : List Value} {hp : Hp} {nx : Nat} {tp tp' : Tape} {v : Value} {ob : List Prop} (e : prjV (runZ (fuV 0 L) Try.prog k 5 args hp nx tp) = .ok (v, tp', ob)) (ho : Alls ob) : ∃ h' nx' d, Tri Try.prog 5 args hp nx (v, h', nx', d) :=
  run_val (fuV_X 0 L) (fuV_T 0 L) (L_okV rfl h) e ho rfl
theorem ne_of {h l x y : Int} (hh : w6 h ∧ w6 l) (hx : w6 x ∧ w6 y) (e : (h == x && (l == y && true)) = false) : nm2 h l ≠ nm2 x y := fun hn => by
  rw [eqt hh.1 hh.2 hx.1 hx.2 hn] at e
  cases e
theorem nz_of {h l : Int} (hh : w6 h ∧ w6 l) (e : (h == 0 && (l == 0 && true)) = false) : nm2 h l ≠ 0 := ne_of hh (by unfold w6; omega) e
theorem ix5 (k : Nat) (h : k < 5) : (0 : Int) ≤ ((k : Nat) : Int) ∧ ((k : Nat) : Int) < 5 := by omega
theorem xL_u {a0 a1 a2 a3 a4 a5 a6 a7 a8 a9 : Int} (p0 : w6 a0) (p1 : w6 a1) (p2 : w6 a2) (p3 : w6 a3) (p4 : w6 a4) (p5 : w6 a5) (p6 : w6 a6) (p7 : w6 a7) (p8 : w6 a8) (p9 : w6 a9) : U6 (xL a0 a1 a2 a3 a4 a5 a6 a7 a8 a9) := by
  refine ⟨rfl, fun j hj => ?_⟩
  rcases (by omega : j = 0 ∨ j = 1 ∨ j = 2 ∨ j = 3 ∨ j = 4 ∨ j = 5 ∨ j = 6 ∨ j = 7 ∨ j = 8 ∨ j = 9) with rfl | rfl | rfl | rfl | rfl | rfl | rfl | rfl | rfl | rfl
  · exact ⟨rfl, p0⟩
  · exact ⟨rfl, p1⟩
  · exact ⟨rfl, p2⟩
  · exact ⟨rfl, p3⟩
  · exact ⟨rfl, p4⟩
  · exact ⟨rfl, p5⟩
  · exact ⟨rfl, p6⟩
  · exact ⟨rfl, p7⟩
  · exact ⟨rfl, p8⟩
  · exact ⟨rfl, p9⟩
theorem xL_cls {a0 a1 a2 a3 a4 a5 a6 a7 a8 a9 : Int} (p0 : w6 a0) (p1 : w6 a1) (p2 : w6 a2) (p3 : w6 a3) (p4 : w6 a4) (p5 : w6 a5) (p6 : w6 a6) (p7 : w6 a7) (p8 : w6 a8) (p9 : w6 a9) (t0 : (a0 == 0 && (a1 == 0 && true)) = false) (t1 : (a0 == a2 && (a1 == a3 && true)) = false) (t2 : (a2 == 0 && (a3 == 0 && true)) = false) (t3 : (a0 == a4 && (a1 == a5 && true)) = false) (t4 : (a2 == a4 && (a3 == a5 && true)) = false) (t5 : (a4 == 0 && (a5 == 0 && true)) = false) (t6 : (a0 == a6 && (a1 == a7 && true)) = false) (t7 : (a2 == a6 && (a3 == a7 && true)) = false) (t8 : (a4 == a6 && (a5 == a7 && true)) = false) (t9 : (a6 == 0 && (a7 == 0 && true)) = false) (t10 : (a0 == a8 && (a1 == a9 && true)) = false) (t11 : (a2 == a8 && (a3 == a9 && true)) = false) (t12 : (a4 == a8 && (a5 == a9 && true)) = false) (t13 : (a6 == a8 && (a7 == a9 && true)) = false) (t14 : (a8 == 0 && (a9 == 0 && true)) = false) : Cls (xL a0 a1 a2 a3 a4 a5 a6 a7 a8 a9) := by
  have hu : U6 (xL a0 a1 a2 a3 a4 a5 a6 a7 a8 a9) := xL_u p0 p1 p2 p3 p4 p5 p6 p7 p8 p9
  have lt : ∀ i k, i < k → k < 5 → cl (xL a0 a1 a2 a3 a4 a5 a6 a7 a8 a9) i ≠ cl (xL a0 a1 a2 a3 a4 a5 a6 a7 a8 a9) k := by
    intro i k h1 h2
    rcases (by omega : (i = 0 ∧ k = 1) ∨ (i = 0 ∧ k = 2) ∨ (i = 1 ∧ k = 2) ∨ (i = 0 ∧ k = 3) ∨ (i = 1 ∧ k = 3) ∨ (i = 2 ∧ k = 3) ∨ (i = 0 ∧ k = 4) ∨ (i = 1 ∧ k = 4) ∨ (i = 2 ∧ k = 4) ∨ (i = 3 ∧ k = 4)) with ⟨rfl, rfl⟩ | ⟨rfl, rfl⟩ | ⟨rfl, rfl⟩ | ⟨rfl, rfl⟩ | ⟨rfl, rfl⟩ | ⟨rfl, rfl⟩ | ⟨rfl, rfl⟩ | ⟨rfl, rfl⟩ | ⟨rfl, rfl⟩ | ⟨rfl, rfl⟩
    · exact ne_of ⟨p0, p1⟩ ⟨p2, p3⟩ t1
    · exact ne_of ⟨p0, p1⟩ ⟨p4, p5⟩ t3
    · exact ne_of ⟨p2, p3⟩ ⟨p4, p5⟩ t4
    · exact ne_of ⟨p0, p1⟩ ⟨p6, p7⟩ t6
    · exact ne_of ⟨p2, p3⟩ ⟨p6, p7⟩ t7
    · exact ne_of ⟨p4, p5⟩ ⟨p6, p7⟩ t8
    · exact ne_of ⟨p0, p1⟩ ⟨p8, p9⟩ t10
    · exact ne_of ⟨p2, p3⟩ ⟨p8, p9⟩ t11
    · exact ne_of ⟨p4, p5⟩ ⟨p8, p9⟩ t12
    · exact ne_of ⟨p6, p7⟩ ⟨p8, p9⟩ t13
  refine ⟨hu, fun i k h1 h2 h3 => ?_, fun i hi => ?_⟩
  · rcases Nat.lt_or_ge i k with h | h
    · exact lt i k h h2
    · exact fun e => lt k i (by omega) h1 e.symm
  · rcases (by omega : i = 0 ∨ i = 1 ∨ i = 2 ∨ i = 3 ∨ i = 4) with rfl | rfl | rfl | rfl | rfl
    · exact nz_of ⟨p0, p1⟩ t0
    · exact nz_of ⟨p2, p3⟩ t2
    · exact nz_of ⟨p4, p5⟩ t5
    · exact nz_of ⟨p6, p7⟩ t9
    · exact nz_of ⟨p8, p9⟩ t14
theorem full_n {a0 a1 a2 a3 a4 a5 a6 a7 a8 a9 : Int} (p0 : w6 a0) (p1 : w6 a1) (p2 : w6 a2) (p3 : w6 a3) (p4 : w6 a4) (p5 : w6 a5) (p6 : w6 a6) (p7 : w6 a7) (p8 : w6 a8) (p9 : w6 a9) : ∃ h' nx' d, Tri Try.prog 5 [.agg ⟨[.int .u64 a0, .int .u64 a1]⟩, .agg ⟨[.int .u64 a2, .int .u64 a3]⟩, .agg ⟨[.int .u64 a4, .int .u64 a5]⟩, .agg ⟨[.int .u64 a6, .int .u64 a7]⟩, .agg ⟨[.int .u64 a8, .int .u64 a9]⟩, .slice none 0 0] [] 6 (.bool true, h', nx', d) := by
  rcases Bool.eq_false_or_eq_true (a0 == 0 && (a1 == 0 && true)) with t0 | t0
  · exact fu_run noL_ok (fx_n0 a0 a1 a2 a3 a4 a5 a6 a7 a8 a9) ⟨⟨by omega, by omega⟩, rfl, t0, trivial⟩
  rcases Bool.eq_false_or_eq_true (a0 == a2 && (a1 == a3 && true)) with t1 | t1
  · exact fu_run noL_ok (fx_n1 a0 a1 a2 a3 a4 a5 a6 a7 a8 a9) ⟨⟨by omega, by omega⟩, rfl, t0, ⟨by omega, by omega⟩, rfl, ⟨by omega, by omega⟩, rfl, t1, trivial⟩
  rcases Bool.eq_false_or_eq_true (a2 == 0 && (a3 == 0 && true)) with t2 | t2
  · exact fu_run noL_ok (fx_n2 a0 a1 a2 a3 a4 a5 a6 a7 a8 a9) ⟨⟨by omega, by omega⟩, rfl, t0, ⟨by omega, by omega⟩, rfl, ⟨by omega, by omega⟩, rfl, t1, ⟨by omega, by omega⟩, rfl, t2, trivial⟩
  rcases Bool.eq_false_or_eq_true (a0 == a4 && (a1 == a5 && true)) with t3 | t3
  · exact fu_run noL_ok (fx_n3 a0 a1 a2 a3 a4 a5 a6 a7 a8 a9) ⟨⟨by omega, by omega⟩, rfl, t0, ⟨by omega, by omega⟩, rfl, ⟨by omega, by omega⟩, rfl, t1, ⟨by omega, by omega⟩, rfl, t2, ⟨by omega, by omega⟩, rfl, ⟨by omega, by omega⟩, rfl, t3, trivial⟩
  rcases Bool.eq_false_or_eq_true (a2 == a4 && (a3 == a5 && true)) with t4 | t4
  · exact fu_run noL_ok (fx_n4 a0 a1 a2 a3 a4 a5 a6 a7 a8 a9) ⟨⟨by omega, by omega⟩, rfl, t0, ⟨by omega, by omega⟩, rfl, ⟨by omega, by omega⟩, rfl, t1, ⟨by omega, by omega⟩, rfl, t2, ⟨by omega, by omega⟩, rfl, ⟨by omega, by omega⟩, rfl, t3, ⟨by omega, by omega⟩, rfl, ⟨by omega, by omega⟩, rfl, t4, trivial⟩
  rcases Bool.eq_false_or_eq_true (a4 == 0 && (a5 == 0 && true)) with t5 | t5
  · exact fu_run noL_ok (fx_n5 a0 a1 a2 a3 a4 a5 a6 a7 a8 a9) ⟨⟨by omega, by omega⟩, rfl, t0, ⟨by omega, by omega⟩, rfl, ⟨by omega, by omega⟩, rfl, t1, ⟨by omega, by omega⟩, rfl, t2, ⟨by omega, by omega⟩, rfl, ⟨by omega, by omega⟩, rfl, t3, ⟨by omega, by omega⟩, rfl, ⟨by omega, by omega⟩, rfl, t4, ⟨by omega, by omega⟩, rfl, t5, trivial⟩
  rcases Bool.eq_false_or_eq_true (a0 == a6 && (a1 == a7 && true)) with t6 | t6
  · exact fu_run noL_ok (fx_n6 a0 a1 a2 a3 a4 a5 a6 a7 a8 a9) ⟨⟨by omega, by omega⟩, rfl, t0, ⟨by omega, by omega⟩, rfl, ⟨by omega, by omega⟩, rfl, t1, ⟨by omega, by omega⟩, rfl, t2, ⟨by omega, by omega⟩, rfl, ⟨by omega, by omega⟩, rfl, t3, ⟨by omega, by omega⟩, rfl, ⟨by omega, by omega⟩, rfl, t4, ⟨by omega, by omega⟩, rfl, t5, ⟨by omega, by omega⟩, rfl, ⟨by omega, by omega⟩, rfl, t6, trivial⟩
  rcases Bool.eq_false_or_eq_true (a2 == a6 && (a3 == a7 && true)) with t7 | t7
  · exact fu_run noL_ok (fx_n7 a0 a1 a2 a3 a4 a5 a6 a7 a8 a9) ⟨⟨by omega, by omega⟩, rfl, t0, ⟨by omega, by omega⟩, rfl, ⟨by omega, by omega⟩, rfl, t1, ⟨by omega, by omega⟩, rfl, t2, ⟨by omega, by omega⟩, rfl, ⟨by omega, by omega⟩, rfl, t3, ⟨by omega, by omega⟩, rfl, ⟨by omega, by omega⟩, rfl, t4, ⟨by omega, by omega⟩, rfl, t5, ⟨by omega, by omega⟩, rfl, ⟨by omega, by omega⟩, rfl, t6, ⟨by omega, by omega⟩, rfl, ⟨by omega, by omega⟩, rfl, t7, trivial⟩
  rcases Bool.eq_false_or_eq_true (a4 == a6 && (a5 == a7 && true)) with t8 | t8
  · exact fu_run noL_ok (fx_n8 a0 a1 a2 a3 a4 a5 a6 a7 a8 a9) ⟨⟨by omega, by omega⟩, rfl, t0, ⟨by omega, by omega⟩, rfl, ⟨by omega, by omega⟩, rfl, t1, ⟨by omega, by omega⟩, rfl, t2, ⟨by omega, by omega⟩, rfl, ⟨by omega, by omega⟩, rfl, t3, ⟨by omega, by omega⟩, rfl, ⟨by omega, by omega⟩, rfl, t4, ⟨by omega, by omega⟩, rfl, t5, ⟨by omega, by omega⟩, rfl, ⟨by omega, by omega⟩, rfl, t6, ⟨by omega, by omega⟩, rfl, ⟨by omega, by omega⟩, rfl, t7, ⟨by omega, by omega⟩, rfl, ⟨by omega, by omega⟩, rfl, t8, trivial⟩
  rcases Bool.eq_false_or_eq_true (a6 == 0 && (a7 == 0 && true)) with t9 | t9
  · exact fu_run noL_ok (fx_n9 a0 a1 a2 a3 a4 a5 a6 a7 a8 a9) ⟨⟨by omega, by omega⟩, rfl, t0, ⟨by omega, by omega⟩, rfl, ⟨by omega, by omega⟩, rfl, t1, ⟨by omega, by omega⟩, rfl, t2, ⟨by omega, by omega⟩, rfl, ⟨by omega, by omega⟩, rfl, t3, ⟨by omega, by omega⟩, rfl, ⟨by omega, by omega⟩, rfl, t4, ⟨by omega, by omega⟩, rfl, t5, ⟨by omega, by omega⟩, rfl, ⟨by omega, by omega⟩, rfl, t6, ⟨by omega, by omega⟩, rfl, ⟨by omega, by omega⟩, rfl, t7, ⟨by omega, by omega⟩, rfl, ⟨by omega, by omega⟩, rfl, t8, ⟨by omega, by omega⟩, rfl, t9, trivial⟩
  rcases Bool.eq_false_or_eq_true (a0 == a8 && (a1 == a9 && true)) with t10 | t10
  · exact fu_run noL_ok (fx_n10 a0 a1 a2 a3 a4 a5 a6 a7 a8 a9) ⟨⟨by omega, by omega⟩, rfl, t0, ⟨by omega, by omega⟩, rfl, ⟨by omega, by omega⟩, rfl, t1, ⟨by omega, by omega⟩, rfl, t2, ⟨by omega, by omega⟩, rfl, ⟨by omega, by omega⟩, rfl, t3, ⟨by omega, by omega⟩, rfl, ⟨by omega, by omega⟩, rfl, t4, ⟨by omega, by omega⟩, rfl, t5, ⟨by omega, by omega⟩, rfl, ⟨by omega, by omega⟩, rfl, t6, ⟨by omega, by omega⟩, rfl, ⟨by omega, by omega⟩, rfl, t7, ⟨by omega, by omega⟩, rfl, ⟨by omega, by omega⟩, rfl, t8, ⟨by omega, by omega⟩, rfl, t9, ⟨by omega, by omega⟩, rfl, ⟨by omega, by omega⟩, rfl, t10, trivial⟩
  rcases Bool.eq_false_or_eq_true (a2 == a8 && (a3 == a9 && true)) with t11 | t11
  · exact fu_run noL_ok (fx_n11 a0 a1 a2 a3 a4 a5 a6 a7 a8 a9) ⟨⟨by omega, by omega⟩, rfl, t0, ⟨by omega, by omega⟩, rfl, ⟨by omega, by omega⟩, rfl, t1, ⟨by omega, by omega⟩, rfl, t2, ⟨by omega, by omega⟩, rfl, ⟨by omega, by omega⟩, rfl, t3, ⟨by omega, by omega⟩, rfl, ⟨by omega, by omega⟩, rfl, t4, ⟨by omega, by omega⟩, rfl, t5, ⟨by omega, by omega⟩, rfl, ⟨by omega, by omega⟩, rfl, t6, ⟨by omega, by omega⟩, rfl, ⟨by omega, by omega⟩, rfl, t7, ⟨by omega, by omega⟩, rfl, ⟨by omega, by omega⟩, rfl, t8, ⟨by omega, by omega⟩, rfl, t9, ⟨by omega, by omega⟩, rfl, ⟨by omega, by omega⟩, rfl, t10, ⟨by omega, by omega⟩, rfl, ⟨by omega, by omega⟩, rfl, t11, trivial⟩
  rcases Bool.eq_false_or_eq_true (a4 == a8 && (a5 == a9 && true)) with t12 | t12
  · exact fu_run noL_ok (fx_n12 a0 a1 a2 a3 a4 a5 a6 a7 a8 a9) ⟨⟨by omega, by omega⟩, rfl, t0, ⟨by omega, by omega⟩, rfl, ⟨by omega, by omega⟩, rfl, t1, ⟨by omega, by omega⟩, rfl, t2, ⟨by omega, by omega⟩, rfl, ⟨by omega, by omega⟩, rfl, t3, ⟨by omega, by omega⟩, rfl, ⟨by omega, by omega⟩, rfl, t4, ⟨by omega, by omega⟩, rfl, t5, ⟨by omega, by omega⟩, rfl, ⟨by omega, by omega⟩, rfl, t6, ⟨by omega, by omega⟩, rfl, ⟨by omega, by omega⟩, rfl, t7, ⟨by omega, by omega⟩, rfl, ⟨by omega, by omega⟩, rfl, t8, ⟨by omega, by omega⟩, rfl, t9, ⟨by omega, by omega⟩, rfl, ⟨by omega, by omega⟩, rfl, t10, ⟨by omega, by omega⟩, rfl, ⟨by omega, by omega⟩, rfl, t11, ⟨by omega, by omega⟩, rfl, ⟨by omega, by omega⟩, rfl, t12, trivial⟩
  rcases Bool.eq_false_or_eq_true (a6 == a8 && (a7 == a9 && true)) with t13 | t13
  · exact fu_run noL_ok (fx_n13 a0 a1 a2 a3 a4 a5 a6 a7 a8 a9) ⟨⟨by omega, by omega⟩, rfl, t0, ⟨by omega, by omega⟩, rfl, ⟨by omega, by omega⟩, rfl, t1, ⟨by omega, by omega⟩, rfl, t2, ⟨by omega, by omega⟩, rfl, ⟨by omega, by omega⟩, rfl, t3, ⟨by omega, by omega⟩, rfl, ⟨by omega, by omega⟩, rfl, t4, ⟨by omega, by omega⟩, rfl, t5, ⟨by omega, by omega⟩, rfl, ⟨by omega, by omega⟩, rfl, t6, ⟨by omega, by omega⟩, rfl, ⟨by omega, by omega⟩, rfl, t7, ⟨by omega, by omega⟩, rfl, ⟨by omega, by omega⟩, rfl, t8, ⟨by omega, by omega⟩, rfl, t9, ⟨by omega, by omega⟩, rfl, ⟨by omega, by omega⟩, rfl, t10, ⟨by omega, by omega⟩, rfl, ⟨by omega, by omega⟩, rfl, t11, ⟨by omega, by omega⟩, rfl, ⟨by omega, by omega⟩, rfl, t12, ⟨by omega, by omega⟩, rfl, ⟨by omega, by omega⟩, rfl, t13, trivial⟩
  rcases Bool.eq_false_or_eq_true (a8 == 0 && (a9 == 0 && true)) with t14 | t14
  · exact fu_run noL_ok (fx_n14 a0 a1 a2 a3 a4 a5 a6 a7 a8 a9) ⟨⟨by omega, by omega⟩, rfl, t0, ⟨by omega, by omega⟩, rfl, ⟨by omega, by omega⟩, rfl, t1, ⟨by omega, by omega⟩, rfl, t2, ⟨by omega, by omega⟩, rfl, ⟨by omega, by omega⟩, rfl, t3, ⟨by omega, by omega⟩, rfl, ⟨by omega, by omega⟩, rfl, t4, ⟨by omega, by omega⟩, rfl, t5, ⟨by omega, by omega⟩, rfl, ⟨by omega, by omega⟩, rfl, t6, ⟨by omega, by omega⟩, rfl, ⟨by omega, by omega⟩, rfl, t7, ⟨by omega, by omega⟩, rfl, ⟨by omega, by omega⟩, rfl, t8, ⟨by omega, by omega⟩, rfl, t9, ⟨by omega, by omega⟩, rfl, ⟨by omega, by omega⟩, rfl, t10, ⟨by omega, by omega⟩, rfl, ⟨by omega, by omega⟩, rfl, t11, ⟨by omega, by omega⟩, rfl, ⟨by omega, by omega⟩, rfl, t12, ⟨by omega, by omega⟩, rfl, ⟨by omega, by omega⟩, rfl, t13, ⟨by omega, by omega⟩, rfl, t14, trivial⟩
  have hX : Cls (xL a0 a1 a2 a3 a4 a5 a6 a7 a8 a9) := xL_cls p0 p1 p2 p3 p4 p5 p6 p7 p8 p9 t0 t1 t2 t3 t4 t5 t6 t7 t8 t9 t10 t11 t12 t13 t14
  have hE : Fl [.int .u64 a8, .int .u64 a9] := Fl.of rfl
  have hXf : Fl (xL a0 a1 a2 a3 a4 a5 a6 a7 a8 a9) := Fl.of rfl
  have hk : Keep 14 (.slice none 0 0) := (fun N ρ => rfl)
  obtain ⟨L1, hB⟩ := fb_s0 (tk := .slice none 0 0) (E := [.int .u64 a8, .int .u64 a9]) (X := (xL a0 a1 a2 a3 a4 a5 a6 a7 a8 a9)) hk hE hXf hX Inv.nil
  obtain ⟨m, hm, hl, hD⟩ := fd_s1 (E := [.int .u64 a8, .int .u64 a9]) (X := (xL a0 a1 a2 a3 a4 a5 a6 a7 a8 a9)) (T := (tbL L1).cs) (Y := Y1) (m := 0) hE hXf (tb_fl L1) (by omega) (fun j hj => by obtain rfl : j = 0 := (by omega); exact Int.le_refl _)
  have hT := t4_all (Tl.mk hX hB.1 YD.one hm hl)
  exact fu_run (orL_ok (mkL_ok (spBn_ok [.int .u64 a8, .int .u64 a9] (xL a0 a1 a2 a3 a4 a5 a6 a7 a8 a9) (tbL L1).cs L1 [] (Fl.of rfl))) (orL_ok (mkL_ok (spCn_ok [.int .u64 a8, .int .u64 a9] (xL a0 a1 a2 a3 a4 a5 a6 a7 a8 a9) (tbL L1).cs)) (orL_ok (mkL_ok (spDn_ok [.int .u64 a8, .int .u64 a9] (xL a0 a1 a2 a3 a4 a5 a6 a7 a8 a9) (tbL L1).cs (yC Y1) Y1 m [])) (mkS_ok (spT_ok [.int .u64 a8, .int .u64 a9] (xL a0 a1 a2 a3 a4 a5 a6 a7 a8 a9) (tbL L1).cs (yC Y1) L1 m (yC_fl _)))))) (fx_nall a0 a1 a2 a3 a4 a5 a6 a7 a8 a9 (tbL L1).cs L1 m) ⟨⟨by omega, by omega⟩, rfl, t0, ⟨by omega, by omega⟩, rfl, ⟨by omega, by omega⟩, rfl, t1, ⟨by omega, by omega⟩, rfl, t2, ⟨by omega, by omega⟩, rfl, ⟨by omega, by omega⟩, rfl, t3, ⟨by omega, by omega⟩, rfl, ⟨by omega, by omega⟩, rfl, t4, ⟨by omega, by omega⟩, rfl, t5, ⟨by omega, by omega⟩, rfl, ⟨by omega, by omega⟩, rfl, t6, ⟨by omega, by omega⟩, rfl, ⟨by omega, by omega⟩, rfl, t7, ⟨by omega, by omega⟩, rfl, ⟨by omega, by omega⟩, rfl, t8, ⟨by omega, by omega⟩, rfl, t9, ⟨by omega, by omega⟩, rfl, ⟨by omega, by omega⟩, rfl, t10, ⟨by omega, by omega⟩, rfl, ⟨by omega, by omega⟩, rfl, t11, ⟨by omega, by omega⟩, rfl, ⟨by omega, by omega⟩, rfl, t12, ⟨by omega, by omega⟩, rfl, ⟨by omega, by omega⟩, rfl, t13, ⟨by omega, by omega⟩, rfl, t14, rfl, rfl, rfl, rfl, rfl, ⟨rfl, hE, hXf, hk, hB⟩, rfl, rfl, rfl, rfl, ⟨hE, hXf, tb_fl L1⟩, rfl, rfl, rfl, rfl, ⟨rfl, hE, hXf, tb_fl L1, hD⟩, rfl, rfl, rfl, rfl, ⟨rfl, rfl, hXf, hT⟩, trivial⟩
theorem full_s {a0 a1 a2 a3 a4 a5 a6 a7 a8 a9 : Int} (p0 : w6 a0) (p1 : w6 a1) (p2 : w6 a2) (p3 : w6 a3) (p4 : w6 a4) (p5 : w6 a5) (p6 : w6 a6) (p7 : w6 a7) (p8 : w6 a8) (p9 : w6 a9) {bs : List Value} {n c : Nat} (hb : Ints .i64 bs) (hl : bs.length = n) (hc : n ≤ c ∧ c ≤ 9223372036854775807) : ∃ h' nx' d, Tri Try.prog 5 [.agg ⟨[.int .u64 a0, .int .u64 a1]⟩, .agg ⟨[.int .u64 a2, .int .u64 a3]⟩, .agg ⟨[.int .u64 a4, .int .u64 a5]⟩, .agg ⟨[.int .u64 a6, .int .u64 a7]⟩, .agg ⟨[.int .u64 a8, .int .u64 a9]⟩, .slice (some ⟨5, 0, none⟩) n c] [(5, ⟨.old, bs⟩)] 6 (.bool true, h', nx', d) := by
  rcases Bool.eq_false_or_eq_true (a0 == 0 && (a1 == 0 && true)) with t0 | t0
  · exact fu_run noL_ok (fx_s0 a0 a1 a2 a3 a4 a5 a6 a7 a8 a9 bs n c) ⟨⟨by omega, by omega⟩, rfl, t0, trivial⟩
  rcases Bool.eq_false_or_eq_true (a0 == a2 && (a1 == a3 && true)) with t1 | t1
  · exact fu_run noL_ok (fx_s1 a0 a1 a2 a3 a4 a5 a6 a7 a8 a9 bs n c) ⟨⟨by omega, by omega⟩, rfl, t0, ⟨by omega, by omega⟩, rfl, ⟨by omega, by omega⟩, rfl, t1, trivial⟩
  rcases Bool.eq_false_or_eq_true (a2 == 0 && (a3 == 0 && true)) with t2 | t2
  · exact fu_run noL_ok (fx_s2 a0 a1 a2 a3 a4 a5 a6 a7 a8 a9 bs n c) ⟨⟨by omega, by omega⟩, rfl, t0, ⟨by omega, by omega⟩, rfl, ⟨by omega, by omega⟩, rfl, t1, ⟨by omega, by omega⟩, rfl, t2, trivial⟩
  rcases Bool.eq_false_or_eq_true (a0 == a4 && (a1 == a5 && true)) with t3 | t3
  · exact fu_run noL_ok (fx_s3 a0 a1 a2 a3 a4 a5 a6 a7 a8 a9 bs n c) ⟨⟨by omega, by omega⟩, rfl, t0, ⟨by omega, by omega⟩, rfl, ⟨by omega, by omega⟩, rfl, t1, ⟨by omega, by omega⟩, rfl, t2, ⟨by omega, by omega⟩, rfl, ⟨by omega, by omega⟩, rfl, t3, trivial⟩
  rcases Bool.eq_false_or_eq_true (a2 == a4 && (a3 == a5 && true)) with t4 | t4
  · exact fu_run noL_ok (fx_s4 a0 a1 a2 a3 a4 a5 a6 a7 a8 a9 bs n c) ⟨⟨by omega, by omega⟩, rfl, t0, ⟨by omega, by omega⟩, rfl, ⟨by omega, by omega⟩, rfl, t1, ⟨by omega, by omega⟩, rfl, t2, ⟨by omega, by omega⟩, rfl, ⟨by omega, by omega⟩, rfl, t3, ⟨by omega, by omega⟩, rfl, ⟨by omega, by omega⟩, rfl, t4, trivial⟩
  rcases Bool.eq_false_or_eq_true (a4 == 0 && (a5 == 0 && true)) with t5 | t5
  · exact fu_run noL_ok (fx_s5 a0 a1 a2 a3 a4 a5 a6 a7 a8 a9 bs n c) ⟨⟨by omega, by omega⟩, rfl, t0, ⟨by omega, by omega⟩, rfl, ⟨by omega, by omega⟩, rfl, t1, ⟨by omega, by omega⟩, rfl, t2, ⟨by omega, by omega⟩, rfl, ⟨by omega, by omega⟩, rfl, t3, ⟨by omega, by omega⟩, rfl, ⟨by omega, by omega⟩, rfl, t4, ⟨by omega, by omega⟩, rfl, t5, trivial⟩
  rcases Bool.eq_false_or_eq_true (a0 == a6 && (a1 == a7 && true)) with t6 | t6
  · exact fu_run noL_ok (fx_s6 a0 a1 a2 a3 a4 a5 a6 a7 a8 a9 bs n c) ⟨⟨by omega, by omega⟩, rfl, t0, ⟨by omega, by omega⟩, rfl, ⟨by omega, by omega⟩, rfl, t1, ⟨by omega, by omega⟩, rfl, t2, ⟨by omega, by omega⟩, rfl, ⟨by omega, by omega⟩, rfl, t3, ⟨by omega, by omega⟩, rfl, ⟨by omega, by omega⟩, rfl, t4, ⟨by omega, by omega⟩, rfl, t5, ⟨by omega, by omega⟩, rfl, ⟨by omega, by omega⟩, rfl, t6, trivial⟩
  rcases Bool.eq_false_or_eq_true (a2 == a6 && (a3 == a7 && true)) with t7 | t7
  · exact fu_run noL_ok (fx_s7 a0 a1 a2 a3 a4 a5 a6 a7 a8 a9 bs n c) ⟨⟨by omega, by omega⟩, rfl, t0, ⟨by omega, by omega⟩, rfl, ⟨by omega, by omega⟩, rfl, t1, ⟨by omega, by omega⟩, rfl, t2, ⟨by omega, by omega⟩, rfl, ⟨by omega, by omega⟩, rfl, t3, ⟨by omega, by omega⟩, rfl, ⟨by omega, by omega⟩, rfl, t4, ⟨by omega, by omega⟩, rfl, t5, ⟨by omega, by omega⟩, rfl, ⟨by omega, by omega⟩, rfl, t6, ⟨by omega, by omega⟩, rfl, ⟨by omega, by omega⟩, rfl, t7, trivial⟩
  rcases Bool.eq_false_or_eq_true (a4 == a6 && (a5 == a7 && true)) with t8 | t8
  · exact fu_run noL_ok (fx_s8 a0 a1 a2 a3 a4 a5 a6 a7 a8 a9 bs n c) ⟨⟨by omega, by omega⟩, rfl, t0, ⟨by omega, by omega⟩, rfl, ⟨by omega, by omega⟩, rfl, t1, ⟨by omega, by omega⟩, rfl, t2, ⟨by omega, by omega⟩, rfl, ⟨by omega, by omega⟩, rfl, t3, ⟨by omega, by omega⟩, rfl, ⟨by omega, by omega⟩, rfl, t4, ⟨by omega, by omega⟩, rfl, t5, ⟨by omega, by omega⟩, rfl, ⟨by omega, by omega⟩, rfl, t6, ⟨by omega, by omega⟩, rfl, ⟨by omega, by omega⟩, rfl, t7, ⟨by omega, by omega⟩, rfl, ⟨by omega, by omega⟩, rfl, t8, trivial⟩
  rcases Bool.eq_false_or_eq_true (a6 == 0 && (a7 == 0 && true)) with t9 | t9
  · exact fu_run noL_ok (fx_s9 a0 a1 a2 a3 a4 a5 a6 a7 a8 a9 bs n c) ⟨⟨by omega, by omega⟩, rfl, t0, ⟨by omega, by omega⟩, rfl, ⟨by omega, by omega⟩, rfl, t1, ⟨by omega, by omega⟩, rfl, t2, ⟨by omega, by omega⟩, rfl, ⟨by omega, by omega⟩, rfl, t3, ⟨by omega, by omega⟩, rfl, ⟨by omega, by omega⟩, rfl, t4, ⟨by omega, by omega⟩, rfl, t5, ⟨by omega, by omega⟩, rfl, ⟨by omega, by omega⟩, rfl, t6, ⟨by omega, by omega⟩, rfl, ⟨by omega, by omega⟩, rfl, t7, ⟨by omega, by omega⟩, rfl, ⟨by omega, by omega⟩, rfl, t8, ⟨by omega, by omega⟩, rfl, t9, trivial⟩
  rcases Bool.eq_false_or_eq_true (a0 == a8 && (a1 == a9 && true)) with t10 | t10
  · exact fu_run noL_ok (fx_s10 a0 a1 a2 a3 a4 a5 a6 a7 a8 a9 bs n c) ⟨⟨by omega, by omega⟩, rfl, t0, ⟨by omega, by omega⟩, rfl, ⟨by omega, by omega⟩, rfl, t1, ⟨by omega, by omega⟩, rfl, t2, ⟨by omega, by omega⟩, rfl, ⟨by omega, by omega⟩, rfl, t3, ⟨by omega, by omega⟩, rfl, ⟨by omega, by omega⟩, rfl, t4, ⟨by omega, by omega⟩, rfl, t5, ⟨by omega, by omega⟩, rfl, ⟨by omega, by omega⟩, rfl, t6, ⟨by omega, by omega⟩, rfl, ⟨by omega, by omega⟩, rfl, t7, ⟨by omega, by omega⟩, rfl, ⟨by omega, by omega⟩, rfl, t8, ⟨by omega, by omega⟩, rfl, t9, ⟨by omega, by omega⟩, rfl, ⟨by omega, by omega⟩, rfl, t10, trivial⟩
  rcases Bool.eq_false_or_eq_true (a2 == a8 && (a3 == a9 && true)) with t11 | t11
  · exact fu_run noL_ok (fx_s11 a0 a1 a2 a3 a4 a5 a6 a7 a8 a9 bs n c) ⟨⟨by omega, by omega⟩, rfl, t0, ⟨by omega, by omega⟩, rfl, ⟨by omega, by omega⟩, rfl, t1, ⟨by omega, by omega⟩, rfl, t2, ⟨by omega, by omega⟩, rfl, ⟨by omega, by omega⟩, rfl, t3, ⟨by omega, by omega⟩, rfl, ⟨by omega, by omega⟩, rfl, t4, ⟨by omega, by omega⟩, rfl, t5, ⟨by omega, by omega⟩, rfl, ⟨by omega, by omega⟩, rfl, t6, ⟨by omega, by omega⟩, rfl, ⟨by omega, by omega⟩, rfl, t7, ⟨by omega, by omega⟩, rfl, ⟨by omega, by omega⟩, rfl, t8, ⟨by omega, by omega⟩, rfl, t9, ⟨by omega, by omega⟩, rfl, ⟨by omega, by omega⟩, rfl, t10, ⟨by omega, by omega⟩, rfl, ⟨by omega, by omega⟩, rfl, t11, trivial⟩
  rcases Bool.eq_false_or_eq_true (a4 == a8 && (a5 == a9 && true)) with t12 | t12
  · exact fu_run noL_ok (fx_s12 a0 a1 a2 a3 a4 a5 a6 a7 a8 a9 bs n c) ⟨⟨by omega, by omega⟩, rfl, t0, ⟨by omega, by omega⟩, rfl, ⟨by omega, by omega⟩, rfl, t1, ⟨by omega, by omega⟩, rfl, t2, ⟨by omega, by omega⟩, rfl, ⟨by omega, by omega⟩, rfl, t3, ⟨by omega, by omega⟩, rfl, ⟨by omega, by omega⟩, rfl, t4, ⟨by omega, by omega⟩, rfl, t5, ⟨by omega, by omega⟩, rfl, ⟨by omega, by omega⟩, rfl, t6, ⟨by omega, by omega⟩, rfl, ⟨by omega, by omega⟩, rfl, t7, ⟨by omega, by omega⟩, rfl, ⟨by omega, by omega⟩, rfl, t8, ⟨by omega, by omega⟩, rfl, t9, ⟨by omega, by omega⟩, rfl, ⟨by omega, by omega⟩, rfl, t10, ⟨by omega, by omega⟩, rfl, ⟨by omega, by omega⟩, rfl, t11, ⟨by omega, by omega⟩, rfl, ⟨by omega, by omega⟩, rfl, t12, trivial⟩
  rcases Bool.eq_false_or_eq_true (a6 == a8 && (a7 == a9 && true)) with t13 | t13
  · exact fu_run noL_ok (fx_s13 a0 a1 a2 a3 a4 a5 a6 a7 a8 a9 bs n c) ⟨⟨by omega, by omega⟩, rfl, t0, ⟨by omega, by omega⟩, rfl, ⟨by omega, by omega⟩, rfl, t1, ⟨by omega, by omega⟩, rfl, t2, ⟨by omega, by omega⟩, rfl, ⟨by omega, by omega⟩, rfl, t3, ⟨by omega, by omega⟩, rfl, ⟨by omega, by omega⟩, rfl, t4, ⟨by omega, by omega⟩, rfl, t5, ⟨by omega, by omega⟩, rfl, ⟨by omega, by omega⟩, rfl, t6, ⟨by omega, by omega⟩, rfl, ⟨by omega, by omega⟩, rfl, t7, ⟨by omega, by omega⟩, rfl, ⟨by omega, by omega⟩, rfl, t8, ⟨by omega, by omega⟩, rfl, t9, ⟨by omega, by omega⟩, rfl, ⟨by omega, by omega⟩, rfl, t10, ⟨by omega, by omega⟩, rfl, ⟨by omega, by omega⟩, rfl, t11, ⟨by omega, by omega⟩, rfl, ⟨by omega, by omega⟩, rfl, t12, ⟨by omega, by omega⟩, rfl, ⟨by omega, by omega⟩, rfl, t13, trivial⟩
  rcases Bool.eq_false_or_eq_true (a8 == 0 && (a9 == 0 && true)) with t14 | t14
  · exact fu_run noL_ok (fx_s14 a0 a1 a2 a3 a4 a5 a6 a7 a8 a9 bs n c) ⟨⟨by omega, by omega⟩, rfl, t0, ⟨by omega, by omega⟩, rfl, ⟨by omega, by omega⟩, rfl, t1, ⟨by omega, by omega⟩, rfl, t2, ⟨by omega, by omega⟩, rfl, ⟨by omega, by omega⟩, rfl, t3, ⟨by omega, by omega⟩, rfl, ⟨by omega, by omega⟩, rfl, t4, ⟨by omega, by omega⟩, rfl, t5, ⟨by omega, by omega⟩, rfl, ⟨by omega, by omega⟩, rfl, t6, ⟨by omega, by omega⟩, rfl, ⟨by omega, by omega⟩, rfl, t7, ⟨by omega, by omega⟩, rfl, ⟨by omega, by omega⟩, rfl, t8, ⟨by omega, by omega⟩, rfl, t9, ⟨by omega, by omega⟩, rfl, ⟨by omega, by omega⟩, rfl, t10, ⟨by omega, by omega⟩, rfl, ⟨by omega, by omega⟩, rfl, t11, ⟨by omega, by omega⟩, rfl, ⟨by omega, by omega⟩, rfl, t12, ⟨by omega, by omega⟩, rfl, ⟨by omega, by omega⟩, rfl, t13, ⟨by omega, by omega⟩, rfl, t14, trivial⟩
  by_cases hn : (n : Int) > 20
  · exact fu_run noL_ok (fx_long a0 a1 a2 a3 a4 a5 a6 a7 a8 a9 bs n c) ⟨⟨by omega, by omega⟩, rfl, t0, ⟨by omega, by omega⟩, rfl, ⟨by omega, by omega⟩, rfl, t1, ⟨by omega, by omega⟩, rfl, t2, ⟨by omega, by omega⟩, rfl, ⟨by omega, by omega⟩, rfl, t3, ⟨by omega, by omega⟩, rfl, ⟨by omega, by omega⟩, rfl, t4, ⟨by omega, by omega⟩, rfl, t5, ⟨by omega, by omega⟩, rfl, ⟨by omega, by omega⟩, rfl, t6, ⟨by omega, by omega⟩, rfl, ⟨by omega, by omega⟩, rfl, t7, ⟨by omega, by omega⟩, rfl, ⟨by omega, by omega⟩, rfl, t8, ⟨by omega, by omega⟩, rfl, t9, ⟨by omega, by omega⟩, rfl, ⟨by omega, by omega⟩, rfl, t10, ⟨by omega, by omega⟩, rfl, ⟨by omega, by omega⟩, rfl, t11, ⟨by omega, by omega⟩, rfl, ⟨by omega, by omega⟩, rfl, t12, ⟨by omega, by omega⟩, rfl, ⟨by omega, by omega⟩, rfl, t13, ⟨by omega, by omega⟩, rfl, t14, decide_eq_true hn, trivial⟩
  have hX : Cls (xL a0 a1 a2 a3 a4 a5 a6 a7 a8 a9) := xL_cls p0 p1 p2 p3 p4 p5 p6 p7 p8 p9 t0 t1 t2 t3 t4 t5 t6 t7 t8 t9 t10 t11 t12 t13 t14
  have hE : Fl [.int .u64 a8, .int .u64 a9] := Fl.of rfl
  have hXf : Fl (xL a0 a1 a2 a3 a4 a5 a6 a7 a8 a9) := Fl.of rfl
  have hk : Keep 14 (.slice (some ⟨5, 0, none⟩) n c) := (fun N ρ => rb_slc rfl (by unfold capBig; omega))
  obtain ⟨L1, hB⟩ := fb_s0 (tk := .slice (some ⟨5, 0, none⟩) n c) (E := [.int .u64 a8, .int .u64 a9]) (X := (xL a0 a1 a2 a3 a4 a5 a6 a7 a8 a9)) hk hE hXf hX Inv.nil
  obtain ⟨L2, Yf, hI, hYD, hC⟩ := fc_loop (E := [.int .u64 a8, .int .u64 a9]) (X := (xL a0 a1 a2 a3 a4 a5 a6 a7 a8 a9)) (bs := bs) (n := n) (c := c) hE hXf hX hb hl (by omega) hc.2 n 0 L1 Y1 (by omega) hB.1 YD.one
  obtain ⟨m, hm, hle, hD⟩ := fd_s1 (E := [.int .u64 a8, .int .u64 a9]) (X := (xL a0 a1 a2 a3 a4 a5 a6 a7 a8 a9)) (T := (tbL L2).cs) (Y := Yf) (m := 0) hE hXf (tb_fl L2) (by omega) (fun j hj => by obtain rfl : j = 0 := (by omega); exact Int.le_refl _)
  have hT := t4_all (Tl.mk hX hI hYD hm hle)
  exact fu_run (orL_ok (mkL_ok (spBs_ok [.int .u64 a8, .int .u64 a9] (xL a0 a1 a2 a3 a4 a5 a6 a7 a8 a9) (tbL L1).cs L1 bs hb.fl)) (orL_ok (mkL_ok (spCs_ok [.int .u64 a8, .int .u64 a9] (xL a0 a1 a2 a3 a4 a5 a6 a7 a8 a9) (tbL L1).cs (tbL L2).cs (yC Yf) bs L1 L2 Yf)) (orL_ok (mkL_ok (spDs_ok [.int .u64 a8, .int .u64 a9] (xL a0 a1 a2 a3 a4 a5 a6 a7 a8 a9) (tbL L2).cs (yC Yf) Yf m bs)) (mkS_ok (spT_ok [.int .u64 a8, .int .u64 a9] (xL a0 a1 a2 a3 a4 a5 a6 a7 a8 a9) (tbL L2).cs (yC Yf) L2 m (yC_fl _)))))) (fx_sall a0 a1 a2 a3 a4 a5 a6 a7 a8 a9 bs n c (tbL L1).cs L1 m (tbL L2).cs (yC Yf) L2 Yf) ⟨⟨by omega, by omega⟩, rfl, t0, ⟨by omega, by omega⟩, rfl, ⟨by omega, by omega⟩, rfl, t1, ⟨by omega, by omega⟩, rfl, t2, ⟨by omega, by omega⟩, rfl, ⟨by omega, by omega⟩, rfl, t3, ⟨by omega, by omega⟩, rfl, ⟨by omega, by omega⟩, rfl, t4, ⟨by omega, by omega⟩, rfl, t5, ⟨by omega, by omega⟩, rfl, ⟨by omega, by omega⟩, rfl, t6, ⟨by omega, by omega⟩, rfl, ⟨by omega, by omega⟩, rfl, t7, ⟨by omega, by omega⟩, rfl, ⟨by omega, by omega⟩, rfl, t8, ⟨by omega, by omega⟩, rfl, t9, ⟨by omega, by omega⟩, rfl, ⟨by omega, by omega⟩, rfl, t10, ⟨by omega, by omega⟩, rfl, ⟨by omega, by omega⟩, rfl, t11, ⟨by omega, by omega⟩, rfl, ⟨by omega, by omega⟩, rfl, t12, ⟨by omega, by omega⟩, rfl, ⟨by omega, by omega⟩, rfl, t13, ⟨by omega, by omega⟩, rfl, t14, decide_eq_false hn, rfl, rfl, rfl, rfl, ⟨rfl, hE, hXf, hk, hB⟩, rfl, rfl, rfl, rfl, ⟨rfl, rfl, rfl, hE, hXf, hb.fl, hc.2, hC⟩, rfl, rfl, rfl, rfl, ⟨rfl, hE, hXf, tb_fl L2, hD⟩, rfl, rfl, rfl, rfl, ⟨rfl, rfl, hXf, hT⟩, trivial⟩
theorem caps6 {a b c d e f : Av} {cs : List Nat} (h : CapsOk [a, b, c, d, e, f] cs) : ∃ u v w x y z, cs = [u, v, w, x, y, z] := by
  match cs, caps_len h with
  | [u, v, w, x, y, z], _ => exact ⟨u, v, w, x, y, z, rfl⟩
theorem full_any {W : World} {a0 a1 a2 a3 a4 a5 a6 a7 a8 a9 : Int} (p0 : w6 a0) (p1 : w6 a1) (p2 : w6 a2) (p3 : w6 a3) (p4 : w6 a4) (p5 : w6 a5) (p6 : w6 a6) (p7 : w6 a7) (p8 : w6 a8) (p9 : w6 a9) {v1 : Value} {b1 : Av} {q1 : Option (Addr × Nat)} {z1 : List (List Int)} (h1 : (b1 = .fl (.slice none 0 0) ∧ z1 = []) ∨ b1 = .sl (z1.map (cellsK [.i64])).flatten z1.length)
    (A1 : AvAt b1 v1 q1) (L1 : Lies W b1 q1) (w' : ∀ zs ∈ z1, AllWf [.i64] zs) :
    Calls Try.prog 5 #[.agg #[.int .u64 a0, .int .u64 a1], .agg #[.int .u64 a2, .int .u64 a3], .agg #[.int .u64 a4, .int .u64 a5], .agg #[.int .u64 a6, .int .u64 a7], .agg #[.int .u64 a8, .int .u64 a9], v1] W fun e w' => e = .returned (.bool true) ∧ Ext W w' := by
  have hb : Ints .i64 (z1.map (cellsK [.i64])).flatten := flat_Ints (m := 1) w'
  have l1 : ((z1.map (cellsK [.i64])).flatten).length = z1.length := by rw [flat_len w']; simp
  refine calls_sl (avs := [.fl (.agg ⟨[.int .u64 a0, .int .u64 a1]⟩), .fl (.agg ⟨[.int .u64 a2, .int .u64 a3]⟩), .fl (.agg ⟨[.int .u64 a4, .int .u64 a5]⟩), .fl (.agg ⟨[.int .u64 a6, .int .u64 a7]⟩), .fl (.agg ⟨[.int .u64 a8, .int .u64 a9]⟩), b1]) (vs := [.agg ⟨[.int .u64 a0, .int .u64 a1]⟩, .agg ⟨[.int .u64 a2, .int .u64 a3]⟩, .agg ⟨[.int .u64 a4, .int .u64 a5]⟩, .agg ⟨[.int .u64 a6, .int .u64 a7]⟩, .agg ⟨[.int .u64 a8, .int .u64 a9]⟩, v1]) (ps := [none, none, none, none, none, q1]) ⟨⟨rfl, fun σ => rfl, rfl⟩, ⟨rfl, fun σ => rfl, rfl⟩, ⟨rfl, fun σ => rfl, rfl⟩, ⟨rfl, fun σ => rfl, rfl⟩, ⟨rfl, fun σ => rfl, rfl⟩, A1, trivial⟩ ⟨(fun ad c e => by cases e), (fun ad c e => by cases e), (fun ad c e => by cases e), (fun ad c e => by cases e), (fun ad c e => by cases e), L1, trivial⟩ (fun σ => rfl) fun cs hcs => ?_
  obtain ⟨c0, c1, c2, c3, c4, d, rfl⟩ := caps6 hcs
  rcases h1 with ⟨rfl, rfl⟩ | rfl
  · exact full_n p0 p1 p2 p3 p4 p5 p6 p7 p8 p9
  · exact full_s (c := d) p0 p1 p2 p3 p4 p5 p6 p7 p8 p9 hb l1 hcs.1
end Go.Proofs.Ytdcakhahagbedaa
