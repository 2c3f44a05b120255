/-
  Contracts of the quorum's functions: views and sets.
-/
import Derived.Test.YtoliafpammlkiaaQuorum
namespace Go.Proofs.Ytoliafpammlkiaa
set_option linter.unusedSimpArgs false
set_option linter.unusedVariables false
set_option linter.unusedSectionVars false
open Go.ChangeShapes Go.WideShapes Go.ChangeAt Go.RowKit

section
variable (n view replica : Int) (h1 : -9223372036854775808 ≤ n) (h2 : n ≤ 9223372036854775807) (h3 : -9223372036854775808 ≤ view) (h4 : view ≤ 9223372036854775807)
  (h5 : -9223372036854775808 ≤ replica) (h6 : replica ≤ 9223372036854775807) (w : World)
include h1 h2 h3 h4
theorem primary_any : Calls Try.prog 24 #[.int .i64 view, .int .i64 n] w fun e w' => e = .returned (.tuple #[.int .i64 (primV view n), .int .i64 (primE view n)]) ∧ Ext w w' := by
  by_cases c3 : n = 3
  · subst c3
    clear h1 h2
    go_enter Try.func24, Try.ntmps24
    go_wp2
    all_goals (go_ret2; refine ⟨ret2_int ?_ ?_, by (repeat (first | exact Ext.refl _ | assumption | apply Ext.drew | apply Ext.alloc | (refine Ext.setCell ?_ ?_ _ <;> first | (simp; done) | (simp; omega) | omega | skip) | (refine Ext.trans ?_ (by assumption))))⟩)
    all_goals first | rfl | ((try simp only [Bool.not_eq_eq_eq_not, Bool.not_true, Bool.not_false, decide_eq_false_iff_not, decide_eq_true_eq, Int.not_le, Int.not_lt, Bool.not_eq_true', Bool.and_eq_true, Bool.or_eq_true, Bool.and_eq_false_iff, Bool.or_eq_false_iff, beq_iff_eq, bne_iff_ne, beq_eq_false_iff_ne, bne_eq_false_iff_eq] at *); simp only [primV, primE]; (repeat' split) <;> first | rfl | omega | (simp_all; done))
  by_cases c5 : n = 5
  · subst c5
    clear h1 h2 c3
    go_enter Try.func24, Try.ntmps24
    go_wp2
    all_goals (go_ret2; refine ⟨ret2_int ?_ ?_, by (repeat (first | exact Ext.refl _ | assumption | apply Ext.drew | apply Ext.alloc | (refine Ext.setCell ?_ ?_ _ <;> first | (simp; done) | (simp; omega) | omega | skip) | (refine Ext.trans ?_ (by assumption))))⟩)
    all_goals first | rfl | ((try simp only [Bool.not_eq_eq_eq_not, Bool.not_true, Bool.not_false, decide_eq_false_iff_not, decide_eq_true_eq, Int.not_le, Int.not_lt, Bool.not_eq_true', Bool.and_eq_true, Bool.or_eq_true, Bool.and_eq_false_iff, Bool.or_eq_false_iff, beq_iff_eq, bne_iff_ne, beq_eq_false_iff_ne, bne_eq_false_iff_eq] at *); simp only [primV, primE]; (repeat' split) <;> first | rfl | omega | (simp_all; done))
  by_cases c7 : n = 7
  · subst c7
    clear h1 h2 c3 c5
    go_enter Try.func24, Try.ntmps24
    go_wp2
    all_goals (go_ret2; refine ⟨ret2_int ?_ ?_, by (repeat (first | exact Ext.refl _ | assumption | apply Ext.drew | apply Ext.alloc | (refine Ext.setCell ?_ ?_ _ <;> first | (simp; done) | (simp; omega) | omega | skip) | (refine Ext.trans ?_ (by assumption))))⟩)
    all_goals first | rfl | ((try simp only [Bool.not_eq_eq_eq_not, Bool.not_true, Bool.not_false, decide_eq_false_iff_not, decide_eq_true_eq, Int.not_le, Int.not_lt, Bool.not_eq_true', Bool.and_eq_true, Bool.or_eq_true, Bool.and_eq_false_iff, Bool.or_eq_false_iff, beq_iff_eq, bne_iff_ne, beq_eq_false_iff_ne, bne_eq_false_iff_eq] at *); simp only [primV, primE]; (repeat' split) <;> first | rfl | omega | (simp_all; done))
  have t3 : (n == 3) = false := by simpa using c3
  have t5 : (n == 5) = false := by simpa using c5
  have t7 : (n == 7) = false := by simpa using c7
  have u3 : (n != 3) = true := by simpa using c3
  have u5 : (n != 5) = true := by simpa using c5
  have u7 : (n != 7) = true := by simpa using c7
  have c3' := Lib.hid c3
  have c5' := Lib.hid c5
  have c7' := Lib.hid c7
  clear c3 c5 c7
  go_enter Try.func24, Try.ntmps24
  go_wp2
  all_goals (go_ret2; refine ⟨ret2_int ?_ ?_, by (repeat (first | exact Ext.refl _ | assumption | apply Ext.drew | apply Ext.alloc | (refine Ext.setCell ?_ ?_ _ <;> first | (simp; done) | (simp; omega) | omega | skip) | (refine Ext.trans ?_ (by assumption))))⟩)
  all_goals (have c3 := c3'.out; have c5 := c5'.out; have c7 := c7'.out; first | rfl | ((try simp only [Bool.not_eq_eq_eq_not, Bool.not_true, Bool.not_false, decide_eq_false_iff_not, decide_eq_true_eq, Int.not_le, Int.not_lt, Bool.not_eq_true', Bool.and_eq_true, Bool.or_eq_true, Bool.and_eq_false_iff, Bool.or_eq_false_iff, beq_iff_eq, bne_iff_ne, beq_eq_false_iff_ne, bne_eq_false_iff_eq] at *); simp only [primV, primE]; (repeat' split) <;> first | rfl | omega | (simp_all; done)))
theorem rprimary_any : Calls Try.prog 25 #[.int .i64 view, .int .i64 n] w fun e w' => e = .returned (.tuple #[.int .i64 (primV view n), .int .i64 (primE view n)]) ∧ Ext w w' := by
  by_cases c3 : n = 3
  · subst c3
    clear h1 h2
    go_enter Try.func25, Try.ntmps25
    go_wp2
    all_goals (go_ret2; refine ⟨ret2_int ?_ ?_, by (repeat (first | exact Ext.refl _ | assumption | apply Ext.drew | apply Ext.alloc | (refine Ext.setCell ?_ ?_ _ <;> first | (simp; done) | (simp; omega) | omega | skip) | (refine Ext.trans ?_ (by assumption))))⟩)
    all_goals first | rfl | ((try simp only [Bool.not_eq_eq_eq_not, Bool.not_true, Bool.not_false, decide_eq_false_iff_not, decide_eq_true_eq, Int.not_le, Int.not_lt, Bool.not_eq_true', Bool.and_eq_true, Bool.or_eq_true, Bool.and_eq_false_iff, Bool.or_eq_false_iff, beq_iff_eq, bne_iff_ne, beq_eq_false_iff_ne, bne_eq_false_iff_eq] at *); simp only [primV, primE]; (repeat' split) <;> first | rfl | omega | (simp_all; done))
  by_cases c5 : n = 5
  · subst c5
    clear h1 h2 c3
    go_enter Try.func25, Try.ntmps25
    go_wp2
    all_goals (go_ret2; refine ⟨ret2_int ?_ ?_, by (repeat (first | exact Ext.refl _ | assumption | apply Ext.drew | apply Ext.alloc | (refine Ext.setCell ?_ ?_ _ <;> first | (simp; done) | (simp; omega) | omega | skip) | (refine Ext.trans ?_ (by assumption))))⟩)
    all_goals first | rfl | ((try simp only [Bool.not_eq_eq_eq_not, Bool.not_true, Bool.not_false, decide_eq_false_iff_not, decide_eq_true_eq, Int.not_le, Int.not_lt, Bool.not_eq_true', Bool.and_eq_true, Bool.or_eq_true, Bool.and_eq_false_iff, Bool.or_eq_false_iff, beq_iff_eq, bne_iff_ne, beq_eq_false_iff_ne, bne_eq_false_iff_eq] at *); simp only [primV, primE]; (repeat' split) <;> first | rfl | omega | (simp_all; done))
  by_cases c7 : n = 7
  · subst c7
    clear h1 h2 c3 c5
    go_enter Try.func25, Try.ntmps25
    go_wp2
    all_goals (go_ret2; refine ⟨ret2_int ?_ ?_, by (repeat (first | exact Ext.refl _ | assumption | apply Ext.drew | apply Ext.alloc | (refine Ext.setCell ?_ ?_ _ <;> first | (simp; done) | (simp; omega) | omega | skip) | (refine Ext.trans ?_ (by assumption))))⟩)
    all_goals first | rfl | ((try simp only [Bool.not_eq_eq_eq_not, Bool.not_true, Bool.not_false, decide_eq_false_iff_not, decide_eq_true_eq, Int.not_le, Int.not_lt, Bool.not_eq_true', Bool.and_eq_true, Bool.or_eq_true, Bool.and_eq_false_iff, Bool.or_eq_false_iff, beq_iff_eq, bne_iff_ne, beq_eq_false_iff_ne, bne_eq_false_iff_eq] at *); simp only [primV, primE]; (repeat' split) <;> first | rfl | omega | (simp_all; done))
  have t3 : (n == 3) = false := by simpa using c3
  have t5 : (n == 5) = false := by simpa using c5
  have t7 : (n == 7) = false := by simpa using c7
  have u3 : (n != 3) = true := by simpa using c3
  have u5 : (n != 5) = true := by simpa using c5
  have u7 : (n != 7) = true := by simpa using c7
  have c3' := Lib.hid c3
  have c5' := Lib.hid c5
  have c7' := Lib.hid c7
  clear c3 c5 c7
  go_enter Try.func25, Try.ntmps25
  go_wp2
  all_goals (go_ret2; refine ⟨ret2_int ?_ ?_, by (repeat (first | exact Ext.refl _ | assumption | apply Ext.drew | apply Ext.alloc | (refine Ext.setCell ?_ ?_ _ <;> first | (simp; done) | (simp; omega) | omega | skip) | (refine Ext.trans ?_ (by assumption))))⟩)
  all_goals (have c3 := c3'.out; have c5 := c5'.out; have c7 := c7'.out; first | rfl | ((try simp only [Bool.not_eq_eq_eq_not, Bool.not_true, Bool.not_false, decide_eq_false_iff_not, decide_eq_true_eq, Int.not_le, Int.not_lt, Bool.not_eq_true', Bool.and_eq_true, Bool.or_eq_true, Bool.and_eq_false_iff, Bool.or_eq_false_iff, beq_iff_eq, bne_iff_ne, beq_eq_false_iff_ne, bne_eq_false_iff_eq] at *); simp only [primV, primE]; (repeat' split) <;> first | rfl | omega | (simp_all; done)))
include h5 h6
theorem next_any : Calls Try.prog 26 #[.int .i64 view, .int .i64 replica, .int .i64 n] w fun e w' => e = .returned (.tuple #[.int .i64 (nextV view replica n), .int .i64 (nextE view replica n)]) ∧ Ext w w' := by
  by_cases c3 : n = 3
  · subst c3
    clear h1 h2
    go_enter Try.func26, Try.ntmps26
    go_wp2
    all_goals (go_ret2; refine ⟨ret2_int ?_ ?_, by (repeat (first | exact Ext.refl _ | assumption | apply Ext.drew | apply Ext.alloc | (refine Ext.setCell ?_ ?_ _ <;> first | (simp; done) | (simp; omega) | omega | skip) | (refine Ext.trans ?_ (by assumption))))⟩)
    all_goals first | rfl | ((try simp only [Bool.not_eq_eq_eq_not, Bool.not_true, Bool.not_false, decide_eq_false_iff_not, decide_eq_true_eq, Int.not_le, Int.not_lt, Bool.not_eq_true', Bool.and_eq_true, Bool.or_eq_true, Bool.and_eq_false_iff, Bool.or_eq_false_iff, beq_iff_eq, bne_iff_ne, beq_eq_false_iff_ne, bne_eq_false_iff_eq] at *); simp only [nextV, nextE]; (repeat' split) <;> first | rfl | omega | (simp_all; done))
  by_cases c5 : n = 5
  · subst c5
    clear h1 h2 c3
    go_enter Try.func26, Try.ntmps26
    go_wp2
    all_goals (go_ret2; refine ⟨ret2_int ?_ ?_, by (repeat (first | exact Ext.refl _ | assumption | apply Ext.drew | apply Ext.alloc | (refine Ext.setCell ?_ ?_ _ <;> first | (simp; done) | (simp; omega) | omega | skip) | (refine Ext.trans ?_ (by assumption))))⟩)
    all_goals first | rfl | ((try simp only [Bool.not_eq_eq_eq_not, Bool.not_true, Bool.not_false, decide_eq_false_iff_not, decide_eq_true_eq, Int.not_le, Int.not_lt, Bool.not_eq_true', Bool.and_eq_true, Bool.or_eq_true, Bool.and_eq_false_iff, Bool.or_eq_false_iff, beq_iff_eq, bne_iff_ne, beq_eq_false_iff_ne, bne_eq_false_iff_eq] at *); simp only [nextV, nextE]; (repeat' split) <;> first | rfl | omega | (simp_all; done))
  by_cases c7 : n = 7
  · subst c7
    clear h1 h2 c3 c5
    go_enter Try.func26, Try.ntmps26
    go_wp2
    all_goals (go_ret2; refine ⟨ret2_int ?_ ?_, by (repeat (first | exact Ext.refl _ | assumption | apply Ext.drew | apply Ext.alloc | (refine Ext.setCell ?_ ?_ _ <;> first | (simp; done) | (simp; omega) | omega | skip) | (refine Ext.trans ?_ (by assumption))))⟩)
    all_goals first | rfl | ((try simp only [Bool.not_eq_eq_eq_not, Bool.not_true, Bool.not_false, decide_eq_false_iff_not, decide_eq_true_eq, Int.not_le, Int.not_lt, Bool.not_eq_true', Bool.and_eq_true, Bool.or_eq_true, Bool.and_eq_false_iff, Bool.or_eq_false_iff, beq_iff_eq, bne_iff_ne, beq_eq_false_iff_ne, bne_eq_false_iff_eq] at *); simp only [nextV, nextE]; (repeat' split) <;> first | rfl | omega | (simp_all; done))
  have t3 : (n == 3) = false := by simpa using c3
  have t5 : (n == 5) = false := by simpa using c5
  have t7 : (n == 7) = false := by simpa using c7
  have u3 : (n != 3) = true := by simpa using c3
  have u5 : (n != 5) = true := by simpa using c5
  have u7 : (n != 7) = true := by simpa using c7
  have c3' := Lib.hid c3
  have c5' := Lib.hid c5
  have c7' := Lib.hid c7
  clear c3 c5 c7
  go_enter Try.func26, Try.ntmps26
  go_wp2
  all_goals (go_ret2; refine ⟨ret2_int ?_ ?_, by (repeat (first | exact Ext.refl _ | assumption | apply Ext.drew | apply Ext.alloc | (refine Ext.setCell ?_ ?_ _ <;> first | (simp; done) | (simp; omega) | omega | skip) | (refine Ext.trans ?_ (by assumption))))⟩)
  all_goals (have c3 := c3'.out; have c5 := c5'.out; have c7 := c7'.out; first | rfl | ((try simp only [Bool.not_eq_eq_eq_not, Bool.not_true, Bool.not_false, decide_eq_false_iff_not, decide_eq_true_eq, Int.not_le, Int.not_lt, Bool.not_eq_true', Bool.and_eq_true, Bool.or_eq_true, Bool.and_eq_false_iff, Bool.or_eq_false_iff, beq_iff_eq, bne_iff_ne, beq_eq_false_iff_ne, bne_eq_false_iff_eq] at *); simp only [nextV, nextE]; (repeat' split) <;> first | rfl | omega | (simp_all; done)))
theorem rnext_any : Calls Try.prog 27 #[.int .i64 view, .int .i64 replica, .int .i64 n] w fun e w' => e = .returned (.tuple #[.int .i64 (nextV view replica n), .int .i64 (nextE view replica n)]) ∧ Ext w w' := by
  by_cases c3 : n = 3
  · subst c3
    clear h1 h2
    go_enter Try.func27, Try.ntmps27
    go_wp2
    all_goals (go_ret2; refine ⟨ret2_int ?_ ?_, by (repeat (first | exact Ext.refl _ | assumption | apply Ext.drew | apply Ext.alloc | (refine Ext.setCell ?_ ?_ _ <;> first | (simp; done) | (simp; omega) | omega | skip) | (refine Ext.trans ?_ (by assumption))))⟩)
    all_goals first | rfl | ((try simp only [Bool.not_eq_eq_eq_not, Bool.not_true, Bool.not_false, decide_eq_false_iff_not, decide_eq_true_eq, Int.not_le, Int.not_lt, Bool.not_eq_true', Bool.and_eq_true, Bool.or_eq_true, Bool.and_eq_false_iff, Bool.or_eq_false_iff, beq_iff_eq, bne_iff_ne, beq_eq_false_iff_ne, bne_eq_false_iff_eq] at *); simp only [nextV, nextE]; (repeat' split) <;> first | rfl | omega | (simp_all; done))
  by_cases c5 : n = 5
  · subst c5
    clear h1 h2 c3
    go_enter Try.func27, Try.ntmps27
    go_wp2
    all_goals (go_ret2; refine ⟨ret2_int ?_ ?_, by (repeat (first | exact Ext.refl _ | assumption | apply Ext.drew | apply Ext.alloc | (refine Ext.setCell ?_ ?_ _ <;> first | (simp; done) | (simp; omega) | omega | skip) | (refine Ext.trans ?_ (by assumption))))⟩)
    all_goals first | rfl | ((try simp only [Bool.not_eq_eq_eq_not, Bool.not_true, Bool.not_false, decide_eq_false_iff_not, decide_eq_true_eq, Int.not_le, Int.not_lt, Bool.not_eq_true', Bool.and_eq_true, Bool.or_eq_true, Bool.and_eq_false_iff, Bool.or_eq_false_iff, beq_iff_eq, bne_iff_ne, beq_eq_false_iff_ne, bne_eq_false_iff_eq] at *); simp only [nextV, nextE]; (repeat' split) <;> first | rfl | omega | (simp_all; done))
  by_cases c7 : n = 7
  · subst c7
    clear h1 h2 c3 c5
    go_enter Try.func27, Try.ntmps27
    go_wp2
    all_goals (go_ret2; refine ⟨ret2_int ?_ ?_, by (repeat (first | exact Ext.refl _ | assumption | apply Ext.drew | apply Ext.alloc | (refine Ext.setCell ?_ ?_ _ <;> first | (simp; done) | (simp; omega) | omega | skip) | (refine Ext.trans ?_ (by assumption))))⟩)
    all_goals first | rfl | ((try simp only [Bool.not_eq_eq_eq_not, Bool.not_true, Bool.not_false, decide_eq_false_iff_not, decide_eq_true_eq, Int.not_le, Int.not_lt, Bool.not_eq_true', Bool.and_eq_true, Bool.or_eq_true, Bool.and_eq_false_iff, Bool.or_eq_false_iff, beq_iff_eq, bne_iff_ne, beq_eq_false_iff_ne, bne_eq_false_iff_eq] at *); simp only [nextV, nextE]; (repeat' split) <;> first | rfl | omega | (simp_all; done))
  have t3 : (n == 3) = false := by simpa using c3
  have t5 : (n == 5) = false := by simpa using c5
  have t7 : (n == 7) = false := by simpa using c7
  have u3 : (n != 3) = true := by simpa using c3
  have u5 : (n != 5) = true := by simpa using c5
  have u7 : (n != 7) = true := by simpa using c7
  have c3' := Lib.hid c3
  have c5' := Lib.hid c5
  have c7' := Lib.hid c7
  clear c3 c5 c7
  go_enter Try.func27, Try.ntmps27
  go_wp2
  all_goals (go_ret2; refine ⟨ret2_int ?_ ?_, by (repeat (first | exact Ext.refl _ | assumption | apply Ext.drew | apply Ext.alloc | (refine Ext.setCell ?_ ?_ _ <;> first | (simp; done) | (simp; omega) | omega | skip) | (refine Ext.trans ?_ (by assumption))))⟩)
  all_goals (have c3 := c3'.out; have c5 := c5'.out; have c7 := c7'.out; first | rfl | ((try simp only [Bool.not_eq_eq_eq_not, Bool.not_true, Bool.not_false, decide_eq_false_iff_not, decide_eq_true_eq, Int.not_le, Int.not_lt, Bool.not_eq_true', Bool.and_eq_true, Bool.or_eq_true, Bool.and_eq_false_iff, Bool.or_eq_false_iff, beq_iff_eq, bne_iff_ne, beq_eq_false_iff_ne, bne_eq_false_iff_eq] at *); simp only [nextV, nextE]; (repeat' split) <;> first | rfl | omega | (simp_all; done)))
end
end Go.Proofs.Ytoliafpammlkiaa
