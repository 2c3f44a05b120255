/-
  The contract of the document's Back.
-/
import Derived.Test.YtbajpjnedipceaaClock
import Derived.LoopN
namespace Go.Proofs.Ytbajpjnedipceaa
set_option linter.unusedSimpArgs false
set_option linter.unusedVariables false
open Go.ChangeShapes Go.WideShapes Go.ChangeAt Go.RowKit
attribute [local go_sem ↓] isSome_setCell
attribute [local go_sem] setCell_setCell

theorem backV_in' {every times : Int} (ha : 0 ≤ every) (hb : every ≤ 1048576) : backV every times = if times ≤ 0 then every else if times = 1 then every * 2 else if times = 2 then every * 4 else if times = 3 then every * 8 else every * 16 := by
  unfold backV; rw [if_pos ⟨ha, hb⟩]
theorem backV_out' {every times : Int} (h : every < 0 ∨ 1048576 < every) : backV every times = every := by
  unfold backV; rw [if_neg (by omega)]
theorem ret_agg {a b c d : Int} (h : a = c) (h' : b = d) : Ending.returned (.agg #[.int .i64 a, .int .i64 b]) = .returned (.agg #[.int .i64 c, .int .i64 d]) := by rw [h, h']

section
variable (every left times : Int) (h1 : -9223372036854775808 ≤ every) (h2 : every ≤ 9223372036854775807) (h3 : -9223372036854775808 ≤ left) (h4 : left ≤ 9223372036854775807) (w : World)
set_option maxHeartbeats 4000000 in
include h1 h2 in
theorem rback_any (ht1 : -9223372036854775808 ≤ times) (ht2 : times ≤ 9223372036854775807) : Calls Try.prog 23 #[.agg #[.int .i64 every, .int .i64 left], .int .i64 times] w fun e w' => e = .returned (.agg #[.int .i64 every, .int .i64 (backV every times)]) ∧ Ext w w' := by
  by_cases c0 : times ≤ 0
  · have e1 : backV every times = every := by unfold backV; rw [if_pos c0, ite_self]
    rw [e1]
    clear e1
    have t0 : decide (0 < times) = false := by simp; omega
    go_enter Try.func23, Try.ntmps23
    go_wp2_with fail
    refine wp_loop_rounds 5 ?_
    rw [rounds_succ]; go_wp2_with fail
    exact bodyPost_ret (v := .agg #[.int .i64 every, .int .i64 (every)]) (by simp [results, Try.results23, go_sem, *]) rfl ⟨ret_agg rfl (by omega), by (repeat (first | exact Ext.refl _ | assumption | apply Ext.drew | apply Ext.alloc | (refine Ext.setCell ?_ ?_ _ <;> first | (simp; done) | (simp; omega) | omega | skip) | (refine Ext.trans ?_ (by assumption))))⟩
  have t0 : decide (0 < times) = true := by simp; omega
  by_cases hn : every < 0
  · rw [backV_out' (.inl hn)]
    have t1 : decide (0 ≤ every) = false := by simp; omega
    go_enter Try.func23, Try.ntmps23
    go_wp2_with fail
    refine wp_loop_rounds 5 ?_
    rw [rounds_succ]; go_wp2_with fail
    exact bodyPost_ret (v := .agg #[.int .i64 every, .int .i64 (every)]) (by simp [results, Try.results23, go_sem, *]) rfl ⟨ret_agg rfl (by omega), by (repeat (first | exact Ext.refl _ | assumption | apply Ext.drew | apply Ext.alloc | (refine Ext.setCell ?_ ?_ _ <;> first | (simp; done) | (simp; omega) | omega | skip) | (refine Ext.trans ?_ (by assumption))))⟩
  by_cases hm : 1048576 < every
  · rw [backV_out' (.inr hm)]
    have t1 : decide (0 ≤ every) = true := by simp; omega
    have t2 : decide (every ≤ 1048576) = false := by simp; omega
    go_enter Try.func23, Try.ntmps23
    go_wp2_with fail
    refine wp_loop_rounds 5 ?_
    rw [rounds_succ]; go_wp2_with fail
    exact bodyPost_ret (v := .agg #[.int .i64 every, .int .i64 (every)]) (by simp [results, Try.results23, go_sem, *]) rfl ⟨ret_agg rfl (by omega), by (repeat (first | exact Ext.refl _ | assumption | apply Ext.drew | apply Ext.alloc | (refine Ext.setCell ?_ ?_ _ <;> first | (simp; done) | (simp; omega) | omega | skip) | (refine Ext.trans ?_ (by assumption))))⟩
  have ha : 0 ≤ every := by omega
  have hb : every ≤ 1048576 := by omega
  have t1 : decide (0 ≤ every) = true := by simp; omega
  have t2 : decide (every ≤ 1048576) = true := by simp; omega
  rw [backV_in' ha hb, if_neg c0]
  clear hn hm
  by_cases c1 : times = 1
  · rw [if_pos c1]
    subst c1
    go_enter Try.func23, Try.ntmps23
    go_wp2_with fail
    refine wp_loop_rounds 5 ?_
    rw [rounds_succ]; go_wp2_with fail
    rw [rounds_succ]; go_wp2_with fail
    exact bodyPost_ret (v := .agg #[.int .i64 every, .int .i64 (2 * every)]) (by simp [results, Try.results23, go_sem, *]) rfl ⟨ret_agg rfl (by omega), by (repeat (first | exact Ext.refl _ | assumption | apply Ext.drew | apply Ext.alloc | (refine Ext.setCell ?_ ?_ _ <;> first | (simp; done) | (simp; omega) | omega | skip) | (refine Ext.trans ?_ (by assumption))))⟩
  rw [if_neg c1]
  by_cases c2 : times = 2
  · rw [if_pos c2]
    subst c2
    go_enter Try.func23, Try.ntmps23
    go_wp2_with fail
    refine wp_loop_rounds 5 ?_
    rw [rounds_succ]; go_wp2_with fail
    rw [rounds_succ]; go_wp2_with fail
    rw [rounds_succ]; go_wp2_with fail
    exact bodyPost_ret (v := .agg #[.int .i64 every, .int .i64 (2 * (2 * every))]) (by simp [results, Try.results23, go_sem, *]) rfl ⟨ret_agg rfl (by omega), by (repeat (first | exact Ext.refl _ | assumption | apply Ext.drew | apply Ext.alloc | (refine Ext.setCell ?_ ?_ _ <;> first | (simp; done) | (simp; omega) | omega | skip) | (refine Ext.trans ?_ (by assumption))))⟩
  rw [if_neg c2]
  by_cases c3 : times = 3
  · rw [if_pos c3]
    subst c3
    go_enter Try.func23, Try.ntmps23
    go_wp2_with fail
    refine wp_loop_rounds 5 ?_
    rw [rounds_succ]; go_wp2_with fail
    rw [rounds_succ]; go_wp2_with fail
    rw [rounds_succ]; go_wp2_with fail
    rw [rounds_succ]; go_wp2_with fail
    exact bodyPost_ret (v := .agg #[.int .i64 every, .int .i64 (2 * (2 * (2 * every)))]) (by simp [results, Try.results23, go_sem, *]) rfl ⟨ret_agg rfl (by omega), by (repeat (first | exact Ext.refl _ | assumption | apply Ext.drew | apply Ext.alloc | (refine Ext.setCell ?_ ?_ _ <;> first | (simp; done) | (simp; omega) | omega | skip) | (refine Ext.trans ?_ (by assumption))))⟩
  rw [if_neg c3]
  have u1 : decide (1 < times) = true := by simp; omega
  have u2 : decide (2 < times) = true := by simp; omega
  have u3 : decide (3 < times) = true := by simp; omega
  by_cases c4 : times = 4
  · subst c4
    go_enter Try.func23, Try.ntmps23
    go_wp2_with fail
    refine wp_loop_rounds 5 ?_
    rw [rounds_succ]; go_wp2_with fail
    rw [rounds_succ]; go_wp2_with fail
    rw [rounds_succ]; go_wp2_with fail
    rw [rounds_succ]; go_wp2_with fail
    rw [rounds_succ]; go_wp2_with fail
    exact bodyPost_ret (v := .agg #[.int .i64 every, .int .i64 (2 * (2 * (2 * (2 * every))))]) (by simp [results, Try.results23, go_sem, *]) rfl ⟨ret_agg rfl (by omega), by (repeat (first | exact Ext.refl _ | assumption | apply Ext.drew | apply Ext.alloc | (refine Ext.setCell ?_ ?_ _ <;> first | (simp; done) | (simp; omega) | omega | skip) | (refine Ext.trans ?_ (by assumption))))⟩
  have u4 : decide (4 < times) = true := by simp; omega
  clear c0 c1 c2 c3 c4
  go_enter Try.func23, Try.ntmps23
  go_wp2_with fail
  refine wp_loop_rounds 5 ?_
  rw [rounds_succ]; go_wp2_with fail
  rw [rounds_succ]; go_wp2_with fail
  rw [rounds_succ]; go_wp2_with fail
  rw [rounds_succ]; go_wp2_with fail
  rw [rounds_succ]; go_wp2_with fail
  exact bodyPost_ret (v := .agg #[.int .i64 every, .int .i64 (2 * (2 * (2 * (2 * every))))]) (by simp [results, Try.results23, go_sem, *]) rfl ⟨ret_agg rfl (by omega), by (repeat (first | exact Ext.refl _ | assumption | apply Ext.drew | apply Ext.alloc | (refine Ext.setCell ?_ ?_ _ <;> first | (simp; done) | (simp; omega) | omega | skip) | (refine Ext.trans ?_ (by assumption))))⟩
end
end Go.Proofs.Ytbajpjnedipceaa
