/-
  Contracts of the quorum's functions and of the document's that only reckon with numbers.
-/
import Derived.Test.YtoliafpammlkiaaRows
import Derived.Test.YtoliafpammlkiaaFrame
import Derived.Test.YtoliafpammlkiaaExt
import Derived.Test.YtoliafpammlkiaaQuorumP
import Derived.LoopN
import Derived.Lib.Hide
namespace Go.Proofs.Ytoliafpammlkiaa
set_option linter.unusedSimpArgs false
set_option linter.unusedVariables false
set_option linter.unusedSectionVars false
open Go.ChangeShapes Go.WideShapes Go.ChangeAt Go.RowKit

theorem ret1_int {k : IntKind} {a b : Int} (h : a = b) : Ending.returned (.int k a) = .returned (.int k b) := by rw [h]
theorem ret2_int {k l : IntKind} {a b c d : Int} (h : a = c) (h' : b = d) : Ending.returned (.tuple #[.int k a, .int l b]) = .returned (.tuple #[.int k c, .int l d]) := by rw [h, h']

def chk (n : Int) : Int := if n = 3 ∨ n = 5 ∨ n = 7 then 0 else 2
def flt (n : Int) : Int := if n = 3 ∨ n = 5 ∨ n = 7 then n / 2 else 0
def enough (n : Int) : Int := if n = 3 ∨ n = 5 ∨ n = 7 then n / 2 + 1 else 0
def primE (view n : Int) : Int := if n = 3 ∨ n = 5 ∨ n = 7 then (if view < 0 ∨ 1073741824 < view then 5 else 0) else 2
def primV (view n : Int) : Int := if n = 3 ∨ n = 5 ∨ n = 7 then (if view < 0 ∨ 1073741824 < view then 0 else view % n) else 0
def nextE (view replica n : Int) : Int := if n = 3 ∨ n = 5 ∨ n = 7 then (if view < 0 ∨ 1073741824 < view then 5 else if replica < 0 ∨ n ≤ replica then 5 else 0) else 2
def nextV (view replica n : Int) : Int := if n = 3 ∨ n = 5 ∨ n = 7 then (if view < 0 ∨ 1073741824 < view then 0 else if replica < 0 ∨ n ≤ replica then 0 else if replica - view % n ≤ 0 then view + (replica - view % n + n) else view + (replica - view % n)) else 0

section
variable (n view replica : Int) (h1 : -9223372036854775808 ≤ n) (h2 : n ≤ 9223372036854775807) (h3 : -9223372036854775808 ≤ view) (h4 : view ≤ 9223372036854775807)
  (h5 : -9223372036854775808 ≤ replica) (h6 : replica ≤ 9223372036854775807) (w : World)
include h1 h2
theorem check_any : Calls Try.prog 28 #[.int .i64 n] w fun e w' => e = .returned (.int .i64 (chk n)) ∧ Ext w w' := by
  by_cases c3 : n = 3
  · subst c3
    clear h1 h2
    go_enter Try.func28, Try.ntmps28
    go_wp2
    all_goals (go_ret; refine ⟨ret1_int ?_, by (repeat (first | exact Ext.refl _ | assumption | apply Ext.drew | apply Ext.alloc | (refine Ext.setCell ?_ ?_ _ <;> first | (simp; done) | (simp; omega) | omega | skip) | (refine Ext.trans ?_ (by assumption))))⟩)
    all_goals first | rfl | ((try simp only [Bool.not_eq_eq_eq_not, Bool.not_true, Bool.not_false, decide_eq_false_iff_not, decide_eq_true_eq, Int.not_le, Int.not_lt, Bool.not_eq_true', Bool.and_eq_true, Bool.or_eq_true, Bool.and_eq_false_iff, Bool.or_eq_false_iff, beq_iff_eq, bne_iff_ne, beq_eq_false_iff_ne, bne_eq_false_iff_eq] at *); simp only [chk]; (repeat' split) <;> first | rfl | omega | (simp_all; done))
  by_cases c5 : n = 5
  · subst c5
    clear h1 h2 c3
    go_enter Try.func28, Try.ntmps28
    go_wp2
    all_goals (go_ret; refine ⟨ret1_int ?_, by (repeat (first | exact Ext.refl _ | assumption | apply Ext.drew | apply Ext.alloc | (refine Ext.setCell ?_ ?_ _ <;> first | (simp; done) | (simp; omega) | omega | skip) | (refine Ext.trans ?_ (by assumption))))⟩)
    all_goals first | rfl | ((try simp only [Bool.not_eq_eq_eq_not, Bool.not_true, Bool.not_false, decide_eq_false_iff_not, decide_eq_true_eq, Int.not_le, Int.not_lt, Bool.not_eq_true', Bool.and_eq_true, Bool.or_eq_true, Bool.and_eq_false_iff, Bool.or_eq_false_iff, beq_iff_eq, bne_iff_ne, beq_eq_false_iff_ne, bne_eq_false_iff_eq] at *); simp only [chk]; (repeat' split) <;> first | rfl | omega | (simp_all; done))
  by_cases c7 : n = 7
  · subst c7
    clear h1 h2 c3 c5
    go_enter Try.func28, Try.ntmps28
    go_wp2
    all_goals (go_ret; refine ⟨ret1_int ?_, by (repeat (first | exact Ext.refl _ | assumption | apply Ext.drew | apply Ext.alloc | (refine Ext.setCell ?_ ?_ _ <;> first | (simp; done) | (simp; omega) | omega | skip) | (refine Ext.trans ?_ (by assumption))))⟩)
    all_goals first | rfl | ((try simp only [Bool.not_eq_eq_eq_not, Bool.not_true, Bool.not_false, decide_eq_false_iff_not, decide_eq_true_eq, Int.not_le, Int.not_lt, Bool.not_eq_true', Bool.and_eq_true, Bool.or_eq_true, Bool.and_eq_false_iff, Bool.or_eq_false_iff, beq_iff_eq, bne_iff_ne, beq_eq_false_iff_ne, bne_eq_false_iff_eq] at *); simp only [chk]; (repeat' split) <;> first | rfl | omega | (simp_all; done))
  have t3 : (n == 3) = false := by simpa using c3
  have t5 : (n == 5) = false := by simpa using c5
  have t7 : (n == 7) = false := by simpa using c7
  have u3 : (n != 3) = true := by simpa using c3
  have u5 : (n != 5) = true := by simpa using c5
  have u7 : (n != 7) = true := by simpa using c7
  have c3' := Lib.hid c3
  have c5' := Lib.hid c5
  have c7' := Lib.hid c7
  clear c3 c5 c7
  go_enter Try.func28, Try.ntmps28
  go_wp2
  all_goals (go_ret; refine ⟨ret1_int ?_, by (repeat (first | exact Ext.refl _ | assumption | apply Ext.drew | apply Ext.alloc | (refine Ext.setCell ?_ ?_ _ <;> first | (simp; done) | (simp; omega) | omega | skip) | (refine Ext.trans ?_ (by assumption))))⟩)
  all_goals (have c3 := c3'.out; have c5 := c5'.out; have c7 := c7'.out; first | rfl | ((try simp only [Bool.not_eq_eq_eq_not, Bool.not_true, Bool.not_false, decide_eq_false_iff_not, decide_eq_true_eq, Int.not_le, Int.not_lt, Bool.not_eq_true', Bool.and_eq_true, Bool.or_eq_true, Bool.and_eq_false_iff, Bool.or_eq_false_iff, beq_iff_eq, bne_iff_ne, beq_eq_false_iff_ne, bne_eq_false_iff_eq] at *); simp only [chk]; (repeat' split) <;> first | rfl | omega | (simp_all; done)))
theorem rcheck_any : Calls Try.prog 29 #[.int .i64 n] w fun e w' => e = .returned (.int .i64 (chk n)) ∧ Ext w w' := by
  by_cases c3 : n = 3
  · subst c3
    clear h1 h2
    go_enter Try.func29, Try.ntmps29
    go_wp2
    all_goals (go_ret; refine ⟨ret1_int ?_, by (repeat (first | exact Ext.refl _ | assumption | apply Ext.drew | apply Ext.alloc | (refine Ext.setCell ?_ ?_ _ <;> first | (simp; done) | (simp; omega) | omega | skip) | (refine Ext.trans ?_ (by assumption))))⟩)
    all_goals first | rfl | ((try simp only [Bool.not_eq_eq_eq_not, Bool.not_true, Bool.not_false, decide_eq_false_iff_not, decide_eq_true_eq, Int.not_le, Int.not_lt, Bool.not_eq_true', Bool.and_eq_true, Bool.or_eq_true, Bool.and_eq_false_iff, Bool.or_eq_false_iff, beq_iff_eq, bne_iff_ne, beq_eq_false_iff_ne, bne_eq_false_iff_eq] at *); simp only [chk]; (repeat' split) <;> first | rfl | omega | (simp_all; done))
  by_cases c5 : n = 5
  · subst c5
    clear h1 h2 c3
    go_enter Try.func29, Try.ntmps29
    go_wp2
    all_goals (go_ret; refine ⟨ret1_int ?_, by (repeat (first | exact Ext.refl _ | assumption | apply Ext.drew | apply Ext.alloc | (refine Ext.setCell ?_ ?_ _ <;> first | (simp; done) | (simp; omega) | omega | skip) | (refine Ext.trans ?_ (by assumption))))⟩)
    all_goals first | rfl | ((try simp only [Bool.not_eq_eq_eq_not, Bool.not_true, Bool.not_false, decide_eq_false_iff_not, decide_eq_true_eq, Int.not_le, Int.not_lt, Bool.not_eq_true', Bool.and_eq_true, Bool.or_eq_true, Bool.and_eq_false_iff, Bool.or_eq_false_iff, beq_iff_eq, bne_iff_ne, beq_eq_false_iff_ne, bne_eq_false_iff_eq] at *); simp only [chk]; (repeat' split) <;> first | rfl | omega | (simp_all; done))
  by_cases c7 : n = 7
  · subst c7
    clear h1 h2 c3 c5
    go_enter Try.func29, Try.ntmps29
    go_wp2
    all_goals (go_ret; refine ⟨ret1_int ?_, by (repeat (first | exact Ext.refl _ | assumption | apply Ext.drew | apply Ext.alloc | (refine Ext.setCell ?_ ?_ _ <;> first | (simp; done) | (simp; omega) | omega | skip) | (refine Ext.trans ?_ (by assumption))))⟩)
    all_goals first | rfl | ((try simp only [Bool.not_eq_eq_eq_not, Bool.not_true, Bool.not_false, decide_eq_false_iff_not, decide_eq_true_eq, Int.not_le, Int.not_lt, Bool.not_eq_true', Bool.and_eq_true, Bool.or_eq_true, Bool.and_eq_false_iff, Bool.or_eq_false_iff, beq_iff_eq, bne_iff_ne, beq_eq_false_iff_ne, bne_eq_false_iff_eq] at *); simp only [chk]; (repeat' split) <;> first | rfl | omega | (simp_all; done))
  have t3 : (n == 3) = false := by simpa using c3
  have t5 : (n == 5) = false := by simpa using c5
  have t7 : (n == 7) = false := by simpa using c7
  have u3 : (n != 3) = true := by simpa using c3
  have u5 : (n != 5) = true := by simpa using c5
  have u7 : (n != 7) = true := by simpa using c7
  have c3' := Lib.hid c3
  have c5' := Lib.hid c5
  have c7' := Lib.hid c7
  clear c3 c5 c7
  go_enter Try.func29, Try.ntmps29
  go_wp2
  all_goals (go_ret; refine ⟨ret1_int ?_, by (repeat (first | exact Ext.refl _ | assumption | apply Ext.drew | apply Ext.alloc | (refine Ext.setCell ?_ ?_ _ <;> first | (simp; done) | (simp; omega) | omega | skip) | (refine Ext.trans ?_ (by assumption))))⟩)
  all_goals (have c3 := c3'.out; have c5 := c5'.out; have c7 := c7'.out; first | rfl | ((try simp only [Bool.not_eq_eq_eq_not, Bool.not_true, Bool.not_false, decide_eq_false_iff_not, decide_eq_true_eq, Int.not_le, Int.not_lt, Bool.not_eq_true', Bool.and_eq_true, Bool.or_eq_true, Bool.and_eq_false_iff, Bool.or_eq_false_iff, beq_iff_eq, bne_iff_ne, beq_eq_false_iff_ne, bne_eq_false_iff_eq] at *); simp only [chk]; (repeat' split) <;> first | rfl | omega | (simp_all; done)))
theorem faults_any : Calls Try.prog 10 #[.int .i64 n] w fun e w' => e = .returned (.tuple #[.int .i64 (flt n), .int .i64 (chk n)]) ∧ Ext w w' := by
  by_cases c3 : n = 3
  · subst c3
    clear h1 h2
    go_enter Try.func10, Try.ntmps10
    go_wp2
    all_goals (go_ret2; refine ⟨ret2_int ?_ ?_, by (repeat (first | exact Ext.refl _ | assumption | apply Ext.drew | apply Ext.alloc | (refine Ext.setCell ?_ ?_ _ <;> first | (simp; done) | (simp; omega) | omega | skip) | (refine Ext.trans ?_ (by assumption))))⟩)
    all_goals first | rfl | ((try simp only [Bool.not_eq_eq_eq_not, Bool.not_true, Bool.not_false, decide_eq_false_iff_not, decide_eq_true_eq, Int.not_le, Int.not_lt, Bool.not_eq_true', Bool.and_eq_true, Bool.or_eq_true, Bool.and_eq_false_iff, Bool.or_eq_false_iff, beq_iff_eq, bne_iff_ne, beq_eq_false_iff_ne, bne_eq_false_iff_eq] at *); simp only [chk, flt]; (repeat' split) <;> first | rfl | omega | (simp_all; done))
  by_cases c5 : n = 5
  · subst c5
    clear h1 h2 c3
    go_enter Try.func10, Try.ntmps10
    go_wp2
    all_goals (go_ret2; refine ⟨ret2_int ?_ ?_, by (repeat (first | exact Ext.refl _ | assumption | apply Ext.drew | apply Ext.alloc | (refine Ext.setCell ?_ ?_ _ <;> first | (simp; done) | (simp; omega) | omega | skip) | (refine Ext.trans ?_ (by assumption))))⟩)
    all_goals first | rfl | ((try simp only [Bool.not_eq_eq_eq_not, Bool.not_true, Bool.not_false, decide_eq_false_iff_not, decide_eq_true_eq, Int.not_le, Int.not_lt, Bool.not_eq_true', Bool.and_eq_true, Bool.or_eq_true, Bool.and_eq_false_iff, Bool.or_eq_false_iff, beq_iff_eq, bne_iff_ne, beq_eq_false_iff_ne, bne_eq_false_iff_eq] at *); simp only [chk, flt]; (repeat' split) <;> first | rfl | omega | (simp_all; done))
  by_cases c7 : n = 7
  · subst c7
    clear h1 h2 c3 c5
    go_enter Try.func10, Try.ntmps10
    go_wp2
    all_goals (go_ret2; refine ⟨ret2_int ?_ ?_, by (repeat (first | exact Ext.refl _ | assumption | apply Ext.drew | apply Ext.alloc | (refine Ext.setCell ?_ ?_ _ <;> first | (simp; done) | (simp; omega) | omega | skip) | (refine Ext.trans ?_ (by assumption))))⟩)
    all_goals first | rfl | ((try simp only [Bool.not_eq_eq_eq_not, Bool.not_true, Bool.not_false, decide_eq_false_iff_not, decide_eq_true_eq, Int.not_le, Int.not_lt, Bool.not_eq_true', Bool.and_eq_true, Bool.or_eq_true, Bool.and_eq_false_iff, Bool.or_eq_false_iff, beq_iff_eq, bne_iff_ne, beq_eq_false_iff_ne, bne_eq_false_iff_eq] at *); simp only [chk, flt]; (repeat' split) <;> first | rfl | omega | (simp_all; done))
  have t3 : (n == 3) = false := by simpa using c3
  have t5 : (n == 5) = false := by simpa using c5
  have t7 : (n == 7) = false := by simpa using c7
  have u3 : (n != 3) = true := by simpa using c3
  have u5 : (n != 5) = true := by simpa using c5
  have u7 : (n != 7) = true := by simpa using c7
  have c3' := Lib.hid c3
  have c5' := Lib.hid c5
  have c7' := Lib.hid c7
  clear c3 c5 c7
  go_enter Try.func10, Try.ntmps10
  go_wp2
  all_goals (go_ret2; refine ⟨ret2_int ?_ ?_, by (repeat (first | exact Ext.refl _ | assumption | apply Ext.drew | apply Ext.alloc | (refine Ext.setCell ?_ ?_ _ <;> first | (simp; done) | (simp; omega) | omega | skip) | (refine Ext.trans ?_ (by assumption))))⟩)
  all_goals (have c3 := c3'.out; have c5 := c5'.out; have c7 := c7'.out; first | rfl | ((try simp only [Bool.not_eq_eq_eq_not, Bool.not_true, Bool.not_false, decide_eq_false_iff_not, decide_eq_true_eq, Int.not_le, Int.not_lt, Bool.not_eq_true', Bool.and_eq_true, Bool.or_eq_true, Bool.and_eq_false_iff, Bool.or_eq_false_iff, beq_iff_eq, bne_iff_ne, beq_eq_false_iff_ne, bne_eq_false_iff_eq] at *); simp only [chk, flt]; (repeat' split) <;> first | rfl | omega | (simp_all; done)))
theorem rfaults_any : Calls Try.prog 23 #[.int .i64 n] w fun e w' => e = .returned (.tuple #[.int .i64 (flt n), .int .i64 (chk n)]) ∧ Ext w w' := by
  by_cases c3 : n = 3
  · subst c3
    clear h1 h2
    go_enter Try.func23, Try.ntmps23
    go_wp2
    all_goals (go_ret2; refine ⟨ret2_int ?_ ?_, by (repeat (first | exact Ext.refl _ | assumption | apply Ext.drew | apply Ext.alloc | (refine Ext.setCell ?_ ?_ _ <;> first | (simp; done) | (simp; omega) | omega | skip) | (refine Ext.trans ?_ (by assumption))))⟩)
    all_goals first | rfl | ((try simp only [Bool.not_eq_eq_eq_not, Bool.not_true, Bool.not_false, decide_eq_false_iff_not, decide_eq_true_eq, Int.not_le, Int.not_lt, Bool.not_eq_true', Bool.and_eq_true, Bool.or_eq_true, Bool.and_eq_false_iff, Bool.or_eq_false_iff, beq_iff_eq, bne_iff_ne, beq_eq_false_iff_ne, bne_eq_false_iff_eq] at *); simp only [chk, flt]; (repeat' split) <;> first | rfl | omega | (simp_all; done))
  by_cases c5 : n = 5
  · subst c5
    clear h1 h2 c3
    go_enter Try.func23, Try.ntmps23
    go_wp2
    all_goals (go_ret2; refine ⟨ret2_int ?_ ?_, by (repeat (first | exact Ext.refl _ | assumption | apply Ext.drew | apply Ext.alloc | (refine Ext.setCell ?_ ?_ _ <;> first | (simp; done) | (simp; omega) | omega | skip) | (refine Ext.trans ?_ (by assumption))))⟩)
    all_goals first | rfl | ((try simp only [Bool.not_eq_eq_eq_not, Bool.not_true, Bool.not_false, decide_eq_false_iff_not, decide_eq_true_eq, Int.not_le, Int.not_lt, Bool.not_eq_true', Bool.and_eq_true, Bool.or_eq_true, Bool.and_eq_false_iff, Bool.or_eq_false_iff, beq_iff_eq, bne_iff_ne, beq_eq_false_iff_ne, bne_eq_false_iff_eq] at *); simp only [chk, flt]; (repeat' split) <;> first | rfl | omega | (simp_all; done))
  by_cases c7 : n = 7
  · subst c7
    clear h1 h2 c3 c5
    go_enter Try.func23, Try.ntmps23
    go_wp2
    all_goals (go_ret2; refine ⟨ret2_int ?_ ?_, by (repeat (first | exact Ext.refl _ | assumption | apply Ext.drew | apply Ext.alloc | (refine Ext.setCell ?_ ?_ _ <;> first | (simp; done) | (simp; omega) | omega | skip) | (refine Ext.trans ?_ (by assumption))))⟩)
    all_goals first | rfl | ((try simp only [Bool.not_eq_eq_eq_not, Bool.not_true, Bool.not_false, decide_eq_false_iff_not, decide_eq_true_eq, Int.not_le, Int.not_lt, Bool.not_eq_true', Bool.and_eq_true, Bool.or_eq_true, Bool.and_eq_false_iff, Bool.or_eq_false_iff, beq_iff_eq, bne_iff_ne, beq_eq_false_iff_ne, bne_eq_false_iff_eq] at *); simp only [chk, flt]; (repeat' split) <;> first | rfl | omega | (simp_all; done))
  have t3 : (n == 3) = false := by simpa using c3
  have t5 : (n == 5) = false := by simpa using c5
  have t7 : (n == 7) = false := by simpa using c7
  have u3 : (n != 3) = true := by simpa using c3
  have u5 : (n != 5) = true := by simpa using c5
  have u7 : (n != 7) = true := by simpa using c7
  have c3' := Lib.hid c3
  have c5' := Lib.hid c5
  have c7' := Lib.hid c7
  clear c3 c5 c7
  go_enter Try.func23, Try.ntmps23
  go_wp2
  all_goals (go_ret2; refine ⟨ret2_int ?_ ?_, by (repeat (first | exact Ext.refl _ | assumption | apply Ext.drew | apply Ext.alloc | (refine Ext.setCell ?_ ?_ _ <;> first | (simp; done) | (simp; omega) | omega | skip) | (refine Ext.trans ?_ (by assumption))))⟩)
  all_goals (have c3 := c3'.out; have c5 := c5'.out; have c7 := c7'.out; first | rfl | ((try simp only [Bool.not_eq_eq_eq_not, Bool.not_true, Bool.not_false, decide_eq_false_iff_not, decide_eq_true_eq, Int.not_le, Int.not_lt, Bool.not_eq_true', Bool.and_eq_true, Bool.or_eq_true, Bool.and_eq_false_iff, Bool.or_eq_false_iff, beq_iff_eq, bne_iff_ne, beq_eq_false_iff_ne, bne_eq_false_iff_eq] at *); simp only [chk, flt]; (repeat' split) <;> first | rfl | omega | (simp_all; done)))
theorem enough_any : Calls Try.prog 21 #[.int .i64 n] w fun e w' => e = .returned (.tuple #[.int .i64 (enough n), .int .i64 (chk n)]) ∧ Ext w w' := by
  by_cases c3 : n = 3
  · subst c3
    clear h1 h2
    go_enter Try.func21, Try.ntmps21
    go_wp2
    all_goals (go_ret2; refine ⟨ret2_int ?_ ?_, by (repeat (first | exact Ext.refl _ | assumption | apply Ext.drew | apply Ext.alloc | (refine Ext.setCell ?_ ?_ _ <;> first | (simp; done) | (simp; omega) | omega | skip) | (refine Ext.trans ?_ (by assumption))))⟩)
    all_goals first | rfl | ((try simp only [Bool.not_eq_eq_eq_not, Bool.not_true, Bool.not_false, decide_eq_false_iff_not, decide_eq_true_eq, Int.not_le, Int.not_lt, Bool.not_eq_true', Bool.and_eq_true, Bool.or_eq_true, Bool.and_eq_false_iff, Bool.or_eq_false_iff, beq_iff_eq, bne_iff_ne, beq_eq_false_iff_ne, bne_eq_false_iff_eq] at *); simp only [chk, enough]; (repeat' split) <;> first | rfl | omega | (simp_all; done))
  by_cases c5 : n = 5
  · subst c5
    clear h1 h2 c3
    go_enter Try.func21, Try.ntmps21
    go_wp2
    all_goals (go_ret2; refine ⟨ret2_int ?_ ?_, by (repeat (first | exact Ext.refl _ | assumption | apply Ext.drew | apply Ext.alloc | (refine Ext.setCell ?_ ?_ _ <;> first | (simp; done) | (simp; omega) | omega | skip) | (refine Ext.trans ?_ (by assumption))))⟩)
    all_goals first | rfl | ((try simp only [Bool.not_eq_eq_eq_not, Bool.not_true, Bool.not_false, decide_eq_false_iff_not, decide_eq_true_eq, Int.not_le, Int.not_lt, Bool.not_eq_true', Bool.and_eq_true, Bool.or_eq_true, Bool.and_eq_false_iff, Bool.or_eq_false_iff, beq_iff_eq, bne_iff_ne, beq_eq_false_iff_ne, bne_eq_false_iff_eq] at *); simp only [chk, enough]; (repeat' split) <;> first | rfl | omega | (simp_all; done))
  by_cases c7 : n = 7
  · subst c7
    clear h1 h2 c3 c5
    go_enter Try.func21, Try.ntmps21
    go_wp2
    all_goals (go_ret2; refine ⟨ret2_int ?_ ?_, by (repeat (first | exact Ext.refl _ | assumption | apply Ext.drew | apply Ext.alloc | (refine Ext.setCell ?_ ?_ _ <;> first | (simp; done) | (simp; omega) | omega | skip) | (refine Ext.trans ?_ (by assumption))))⟩)
    all_goals first | rfl | ((try simp only [Bool.not_eq_eq_eq_not, Bool.not_true, Bool.not_false, decide_eq_false_iff_not, decide_eq_true_eq, Int.not_le, Int.not_lt, Bool.not_eq_true', Bool.and_eq_true, Bool.or_eq_true, Bool.and_eq_false_iff, Bool.or_eq_false_iff, beq_iff_eq, bne_iff_ne, beq_eq_false_iff_ne, bne_eq_false_iff_eq] at *); simp only [chk, enough]; (repeat' split) <;> first | rfl | omega | (simp_all; done))
  have t3 : (n == 3) = false := by simpa using c3
  have t5 : (n == 5) = false := by simpa using c5
  have t7 : (n == 7) = false := by simpa using c7
  have u3 : (n != 3) = true := by simpa using c3
  have u5 : (n != 5) = true := by simpa using c5
  have u7 : (n != 7) = true := by simpa using c7
  have c3' := Lib.hid c3
  have c5' := Lib.hid c5
  have c7' := Lib.hid c7
  clear c3 c5 c7
  go_enter Try.func21, Try.ntmps21
  go_wp2
  all_goals (go_ret2; refine ⟨ret2_int ?_ ?_, by (repeat (first | exact Ext.refl _ | assumption | apply Ext.drew | apply Ext.alloc | (refine Ext.setCell ?_ ?_ _ <;> first | (simp; done) | (simp; omega) | omega | skip) | (refine Ext.trans ?_ (by assumption))))⟩)
  all_goals (have c3 := c3'.out; have c5 := c5'.out; have c7 := c7'.out; first | rfl | ((try simp only [Bool.not_eq_eq_eq_not, Bool.not_true, Bool.not_false, decide_eq_false_iff_not, decide_eq_true_eq, Int.not_le, Int.not_lt, Bool.not_eq_true', Bool.and_eq_true, Bool.or_eq_true, Bool.and_eq_false_iff, Bool.or_eq_false_iff, beq_iff_eq, bne_iff_ne, beq_eq_false_iff_ne, bne_eq_false_iff_eq] at *); simp only [chk, enough]; (repeat' split) <;> first | rfl | omega | (simp_all; done)))
theorem renough_any : Calls Try.prog 22 #[.int .i64 n] w fun e w' => e = .returned (.tuple #[.int .i64 (enough n), .int .i64 (chk n)]) ∧ Ext w w' := by
  by_cases c3 : n = 3
  · subst c3
    clear h1 h2
    go_enter Try.func22, Try.ntmps22
    go_wp2
    all_goals (go_ret2; refine ⟨ret2_int ?_ ?_, by (repeat (first | exact Ext.refl _ | assumption | apply Ext.drew | apply Ext.alloc | (refine Ext.setCell ?_ ?_ _ <;> first | (simp; done) | (simp; omega) | omega | skip) | (refine Ext.trans ?_ (by assumption))))⟩)
    all_goals first | rfl | ((try simp only [Bool.not_eq_eq_eq_not, Bool.not_true, Bool.not_false, decide_eq_false_iff_not, decide_eq_true_eq, Int.not_le, Int.not_lt, Bool.not_eq_true', Bool.and_eq_true, Bool.or_eq_true, Bool.and_eq_false_iff, Bool.or_eq_false_iff, beq_iff_eq, bne_iff_ne, beq_eq_false_iff_ne, bne_eq_false_iff_eq] at *); simp only [chk, enough]; (repeat' split) <;> first | rfl | omega | (simp_all; done))
  by_cases c5 : n = 5
  · subst c5
    clear h1 h2 c3
    go_enter Try.func22, Try.ntmps22
    go_wp2
    all_goals (go_ret2; refine ⟨ret2_int ?_ ?_, by (repeat (first | exact Ext.refl _ | assumption | apply Ext.drew | apply Ext.alloc | (refine Ext.setCell ?_ ?_ _ <;> first | (simp; done) | (simp; omega) | omega | skip) | (refine Ext.trans ?_ (by assumption))))⟩)
    all_goals first | rfl | ((try simp only [Bool.not_eq_eq_eq_not, Bool.not_true, Bool.not_false, decide_eq_false_iff_not, decide_eq_true_eq, Int.not_le, Int.not_lt, Bool.not_eq_true', Bool.and_eq_true, Bool.or_eq_true, Bool.and_eq_false_iff, Bool.or_eq_false_iff, beq_iff_eq, bne_iff_ne, beq_eq_false_iff_ne, bne_eq_false_iff_eq] at *); simp only [chk, enough]; (repeat' split) <;> first | rfl | omega | (simp_all; done))
  by_cases c7 : n = 7
  · subst c7
    clear h1 h2 c3 c5
    go_enter Try.func22, Try.ntmps22
    go_wp2
    all_goals (go_ret2; refine ⟨ret2_int ?_ ?_, by (repeat (first | exact Ext.refl _ | assumption | apply Ext.drew | apply Ext.alloc | (refine Ext.setCell ?_ ?_ _ <;> first | (simp; done) | (simp; omega) | omega | skip) | (refine Ext.trans ?_ (by assumption))))⟩)
    all_goals first | rfl | ((try simp only [Bool.not_eq_eq_eq_not, Bool.not_true, Bool.not_false, decide_eq_false_iff_not, decide_eq_true_eq, Int.not_le, Int.not_lt, Bool.not_eq_true', Bool.and_eq_true, Bool.or_eq_true, Bool.and_eq_false_iff, Bool.or_eq_false_iff, beq_iff_eq, bne_iff_ne, beq_eq_false_iff_ne, bne_eq_false_iff_eq] at *); simp only [chk, enough]; (repeat' split) <;> first | rfl | omega | (simp_all; done))
  have t3 : (n == 3) = false := by simpa using c3
  have t5 : (n == 5) = false := by simpa using c5
  have t7 : (n == 7) = false := by simpa using c7
  have u3 : (n != 3) = true := by simpa using c3
  have u5 : (n != 5) = true := by simpa using c5
  have u7 : (n != 7) = true := by simpa using c7
  have c3' := Lib.hid c3
  have c5' := Lib.hid c5
  have c7' := Lib.hid c7
  clear c3 c5 c7
  go_enter Try.func22, Try.ntmps22
  go_wp2
  all_goals (go_ret2; refine ⟨ret2_int ?_ ?_, by (repeat (first | exact Ext.refl _ | assumption | apply Ext.drew | apply Ext.alloc | (refine Ext.setCell ?_ ?_ _ <;> first | (simp; done) | (simp; omega) | omega | skip) | (refine Ext.trans ?_ (by assumption))))⟩)
  all_goals (have c3 := c3'.out; have c5 := c5'.out; have c7 := c7'.out; first | rfl | ((try simp only [Bool.not_eq_eq_eq_not, Bool.not_true, Bool.not_false, decide_eq_false_iff_not, decide_eq_true_eq, Int.not_le, Int.not_lt, Bool.not_eq_true', Bool.and_eq_true, Bool.or_eq_true, Bool.and_eq_false_iff, Bool.or_eq_false_iff, beq_iff_eq, bne_iff_ne, beq_eq_false_iff_ne, bne_eq_false_iff_eq] at *); simp only [chk, enough]; (repeat' split) <;> first | rfl | omega | (simp_all; done)))
end
end Go.Proofs.Ytoliafpammlkiaa
