/-
  Contracts of the clock's Back and of the document's.
-/
import Derived.Test.YtbajpjnedipceaaClock
import Derived.LoopN
namespace Go.Proofs.Ytbajpjnedipceaa
set_option linter.unusedSimpArgs false
set_option linter.unusedVariables false
open Go.ChangeShapes Go.WideShapes Go.ChangeAt Go.RowKit
attribute [local go_sem ↓] isSome_setCell
attribute [local go_sem] setCell_setCell

section
variable (every left times : Int) (h1 : -9223372036854775808 ≤ every) (h2 : every ≤ 9223372036854775807) (h3 : -9223372036854775808 ≤ left) (h4 : left ≤ 9223372036854775807) (w : World)
theorem backV_in {every times : Int} (ha : 0 ≤ every) (hb : every ≤ 1048576) : backV every times = if times ≤ 0 then every else if times = 1 then every * 2 else if times = 2 then every * 4 else if times = 3 then every * 8 else every * 16 := by
  unfold backV; rw [if_pos ⟨ha, hb⟩]
theorem backV_out {every times : Int} (h : every < 0 ∨ 1048576 < every) : backV every times = every := by
  unfold backV; rw [if_neg (by omega)]
set_option maxHeartbeats 2000000 in
include h1 h2 in
theorem back_any (ht1 : -9223372036854775808 ≤ times) (ht2 : times ≤ 9223372036854775807) : Calls Try.prog 22 #[.agg #[.int .i64 every, .int .i64 left], .int .i64 times] w fun e w' => e = .returned (.agg #[.int .i64 every, .int .i64 (backV every times)]) ∧ Ext w w' := by
  by_cases hn : every < 0
  · rw [backV_out (.inl hn)]
    have t1 : decide (0 ≤ every) = false := by simp; omega
    go_enter Try.func22, Try.ntmps22
    go_wp2_with ((go_at_call 15; refine ((start_any _ _ _)).mono ?_; rintro e w1 ⟨rfl, hb1⟩; have _lt0 := Ext.lt hb1 (k := w.heap.size) (by first | (simp; done) | (simp; omega) | omega); have _q0_0 := Ext.cell hb1 (w.heap.size) 0 (by first | (simp; done) | (simp; omega) | omega); (try simp [go_sem, *] at _q0_0); have _f0_0 := Ext.frozen hb1 (w.heap.size) 0 (by first | (simp; done) | (simp; omega) | omega); (try simp [go_sem, *] at _f0_0); have _q0_1 := Ext.cell hb1 (w.heap.size) 1 (by first | (simp; done) | (simp; omega) | omega); (try simp [go_sem, *] at _q0_1); have _f0_1 := Ext.frozen hb1 (w.heap.size) 1 (by first | (simp; done) | (simp; omega) | omega); (try simp [go_sem, *] at _f0_1); have _lt1 := Ext.lt hb1 (k := w.heap.size+1) (by first | (simp; done) | (simp; omega) | omega); have _q1_0 := Ext.cell hb1 (w.heap.size+1) 0 (by first | (simp; done) | (simp; omega) | omega); (try simp [go_sem, *] at _q1_0); have _f1_0 := Ext.frozen hb1 (w.heap.size+1) 0 (by first | (simp; done) | (simp; omega) | omega); (try simp [go_sem, *] at _f1_0); have _q1_1 := Ext.cell hb1 (w.heap.size+1) 1 (by first | (simp; done) | (simp; omega) | omega); (try simp [go_sem, *] at _q1_1); have _f1_1 := Ext.frozen hb1 (w.heap.size+1) 1 (by first | (simp; done) | (simp; omega) | omega); (try simp [go_sem, *] at _f1_1)))
    exact bodyPost_ret (v := .agg #[.int .i64 every, .int .i64 (every)]) (by simp [results, Try.results22, go_sem, *]) rfl ⟨rfl, by (repeat (first | exact Ext.refl _ | assumption | apply Ext.drew | apply Ext.alloc | (refine Ext.setCell ?_ ?_ _ <;> first | (simp; done) | (simp; omega) | omega | skip) | (refine Ext.trans ?_ (by assumption))))⟩
  by_cases hm : 1048576 < every
  · rw [backV_out (.inr hm)]
    have t1 : decide (0 ≤ every) = true := by simp; omega
    have t2 : decide (every ≤ 1048576) = false := by simp; omega
    go_enter Try.func22, Try.ntmps22
    go_wp2_with ((go_at_call 15; refine ((start_any _ _ _)).mono ?_; rintro e w1 ⟨rfl, hb1⟩; have _lt0 := Ext.lt hb1 (k := w.heap.size) (by first | (simp; done) | (simp; omega) | omega); have _q0_0 := Ext.cell hb1 (w.heap.size) 0 (by first | (simp; done) | (simp; omega) | omega); (try simp [go_sem, *] at _q0_0); have _f0_0 := Ext.frozen hb1 (w.heap.size) 0 (by first | (simp; done) | (simp; omega) | omega); (try simp [go_sem, *] at _f0_0); have _q0_1 := Ext.cell hb1 (w.heap.size) 1 (by first | (simp; done) | (simp; omega) | omega); (try simp [go_sem, *] at _q0_1); have _f0_1 := Ext.frozen hb1 (w.heap.size) 1 (by first | (simp; done) | (simp; omega) | omega); (try simp [go_sem, *] at _f0_1); have _lt1 := Ext.lt hb1 (k := w.heap.size+1) (by first | (simp; done) | (simp; omega) | omega); have _q1_0 := Ext.cell hb1 (w.heap.size+1) 0 (by first | (simp; done) | (simp; omega) | omega); (try simp [go_sem, *] at _q1_0); have _f1_0 := Ext.frozen hb1 (w.heap.size+1) 0 (by first | (simp; done) | (simp; omega) | omega); (try simp [go_sem, *] at _f1_0); have _q1_1 := Ext.cell hb1 (w.heap.size+1) 1 (by first | (simp; done) | (simp; omega) | omega); (try simp [go_sem, *] at _q1_1); have _f1_1 := Ext.frozen hb1 (w.heap.size+1) 1 (by first | (simp; done) | (simp; omega) | omega); (try simp [go_sem, *] at _f1_1)))
    exact bodyPost_ret (v := .agg #[.int .i64 every, .int .i64 (every)]) (by simp [results, Try.results22, go_sem, *]) rfl ⟨rfl, by (repeat (first | exact Ext.refl _ | assumption | apply Ext.drew | apply Ext.alloc | (refine Ext.setCell ?_ ?_ _ <;> first | (simp; done) | (simp; omega) | omega | skip) | (refine Ext.trans ?_ (by assumption))))⟩
  have ha : 0 ≤ every := by omega
  have hb : every ≤ 1048576 := by omega
  have t1 : decide (0 ≤ every) = true := by simp; omega
  have t2 : decide (every ≤ 1048576) = true := by simp; omega
  rw [backV_in ha hb]
  clear hn hm
  by_cases c0 : times ≤ 0
  · rw [if_pos c0]
    by_cases c00 : times = 0
    · subst c00
      go_enter Try.func22, Try.ntmps22
      go_wp2_with ((go_at_call 15; refine ((start_any _ _ _)).mono ?_; rintro e w1 ⟨rfl, hb1⟩; have _lt0 := Ext.lt hb1 (k := w.heap.size) (by first | (simp; done) | (simp; omega) | omega); have _q0_0 := Ext.cell hb1 (w.heap.size) 0 (by first | (simp; done) | (simp; omega) | omega); (try simp [go_sem, *] at _q0_0); have _f0_0 := Ext.frozen hb1 (w.heap.size) 0 (by first | (simp; done) | (simp; omega) | omega); (try simp [go_sem, *] at _f0_0); have _q0_1 := Ext.cell hb1 (w.heap.size) 1 (by first | (simp; done) | (simp; omega) | omega); (try simp [go_sem, *] at _q0_1); have _f0_1 := Ext.frozen hb1 (w.heap.size) 1 (by first | (simp; done) | (simp; omega) | omega); (try simp [go_sem, *] at _f0_1); have _lt1 := Ext.lt hb1 (k := w.heap.size+1) (by first | (simp; done) | (simp; omega) | omega); have _q1_0 := Ext.cell hb1 (w.heap.size+1) 0 (by first | (simp; done) | (simp; omega) | omega); (try simp [go_sem, *] at _q1_0); have _f1_0 := Ext.frozen hb1 (w.heap.size+1) 0 (by first | (simp; done) | (simp; omega) | omega); (try simp [go_sem, *] at _f1_0); have _q1_1 := Ext.cell hb1 (w.heap.size+1) 1 (by first | (simp; done) | (simp; omega) | omega); (try simp [go_sem, *] at _q1_1); have _f1_1 := Ext.frozen hb1 (w.heap.size+1) 1 (by first | (simp; done) | (simp; omega) | omega); (try simp [go_sem, *] at _f1_1)))
      exact bodyPost_ret (v := .agg #[.int .i64 every, .int .i64 (every)]) (by simp [results, Try.results22, go_sem, *]) rfl ⟨rfl, by (repeat (first | exact Ext.refl _ | assumption | apply Ext.drew | apply Ext.alloc | (refine Ext.setCell ?_ ?_ _ <;> first | (simp; done) | (simp; omega) | omega | skip) | (refine Ext.trans ?_ (by assumption))))⟩
    · have c01 : times < 0 := by omega
      clear c0 c00
      go_enter Try.func22, Try.ntmps22
      go_wp2_with ((go_at_call 15; refine ((start_any _ _ _)).mono ?_; rintro e w1 ⟨rfl, hb1⟩; have _lt0 := Ext.lt hb1 (k := w.heap.size) (by first | (simp; done) | (simp; omega) | omega); have _q0_0 := Ext.cell hb1 (w.heap.size) 0 (by first | (simp; done) | (simp; omega) | omega); (try simp [go_sem, *] at _q0_0); have _f0_0 := Ext.frozen hb1 (w.heap.size) 0 (by first | (simp; done) | (simp; omega) | omega); (try simp [go_sem, *] at _f0_0); have _q0_1 := Ext.cell hb1 (w.heap.size) 1 (by first | (simp; done) | (simp; omega) | omega); (try simp [go_sem, *] at _q0_1); have _f0_1 := Ext.frozen hb1 (w.heap.size) 1 (by first | (simp; done) | (simp; omega) | omega); (try simp [go_sem, *] at _f0_1); have _lt1 := Ext.lt hb1 (k := w.heap.size+1) (by first | (simp; done) | (simp; omega) | omega); have _q1_0 := Ext.cell hb1 (w.heap.size+1) 0 (by first | (simp; done) | (simp; omega) | omega); (try simp [go_sem, *] at _q1_0); have _f1_0 := Ext.frozen hb1 (w.heap.size+1) 0 (by first | (simp; done) | (simp; omega) | omega); (try simp [go_sem, *] at _f1_0); have _q1_1 := Ext.cell hb1 (w.heap.size+1) 1 (by first | (simp; done) | (simp; omega) | omega); (try simp [go_sem, *] at _q1_1); have _f1_1 := Ext.frozen hb1 (w.heap.size+1) 1 (by first | (simp; done) | (simp; omega) | omega); (try simp [go_sem, *] at _f1_1)))
      all_goals exact bodyPost_ret (v := .agg #[.int .i64 every, .int .i64 (every)]) (by simp [results, Try.results22, go_sem, *]) rfl ⟨rfl, by (repeat (first | exact Ext.refl _ | assumption | apply Ext.drew | apply Ext.alloc | (refine Ext.setCell ?_ ?_ _ <;> first | (simp; done) | (simp; omega) | omega | skip) | (refine Ext.trans ?_ (by assumption))))⟩
  rw [if_neg c0]
  by_cases c1 : times = 1
  · rw [if_pos c1]
    subst c1
    have ww : wrap64 (every * 2) = every * 2 := IntWalk.wrap64_in _ ⟨by omega, by omega⟩
    go_enter Try.func22, Try.ntmps22
    go_wp2_with ((go_at_call 15; refine ((start_any _ _ _)).mono ?_; rintro e w1 ⟨rfl, hb1⟩; have _lt0 := Ext.lt hb1 (k := w.heap.size) (by first | (simp; done) | (simp; omega) | omega); have _q0_0 := Ext.cell hb1 (w.heap.size) 0 (by first | (simp; done) | (simp; omega) | omega); (try simp [go_sem, *] at _q0_0); have _f0_0 := Ext.frozen hb1 (w.heap.size) 0 (by first | (simp; done) | (simp; omega) | omega); (try simp [go_sem, *] at _f0_0); have _q0_1 := Ext.cell hb1 (w.heap.size) 1 (by first | (simp; done) | (simp; omega) | omega); (try simp [go_sem, *] at _q0_1); have _f0_1 := Ext.frozen hb1 (w.heap.size) 1 (by first | (simp; done) | (simp; omega) | omega); (try simp [go_sem, *] at _f0_1); have _lt1 := Ext.lt hb1 (k := w.heap.size+1) (by first | (simp; done) | (simp; omega) | omega); have _q1_0 := Ext.cell hb1 (w.heap.size+1) 0 (by first | (simp; done) | (simp; omega) | omega); (try simp [go_sem, *] at _q1_0); have _f1_0 := Ext.frozen hb1 (w.heap.size+1) 0 (by first | (simp; done) | (simp; omega) | omega); (try simp [go_sem, *] at _f1_0); have _q1_1 := Ext.cell hb1 (w.heap.size+1) 1 (by first | (simp; done) | (simp; omega) | omega); (try simp [go_sem, *] at _q1_1); have _f1_1 := Ext.frozen hb1 (w.heap.size+1) 1 (by first | (simp; done) | (simp; omega) | omega); (try simp [go_sem, *] at _f1_1)))
    exact bodyPost_ret (v := .agg #[.int .i64 every, .int .i64 (every * 2)]) (by simp [results, Try.results22, go_sem, *]) rfl ⟨rfl, by (repeat (first | exact Ext.refl _ | assumption | apply Ext.drew | apply Ext.alloc | (refine Ext.setCell ?_ ?_ _ <;> first | (simp; done) | (simp; omega) | omega | skip) | (refine Ext.trans ?_ (by assumption))))⟩
  rw [if_neg c1]
  by_cases c2 : times = 2
  · rw [if_pos c2]
    subst c2
    have ww : wrap64 (every * 4) = every * 4 := IntWalk.wrap64_in _ ⟨by omega, by omega⟩
    go_enter Try.func22, Try.ntmps22
    go_wp2_with ((go_at_call 15; refine ((start_any _ _ _)).mono ?_; rintro e w1 ⟨rfl, hb1⟩; have _lt0 := Ext.lt hb1 (k := w.heap.size) (by first | (simp; done) | (simp; omega) | omega); have _q0_0 := Ext.cell hb1 (w.heap.size) 0 (by first | (simp; done) | (simp; omega) | omega); (try simp [go_sem, *] at _q0_0); have _f0_0 := Ext.frozen hb1 (w.heap.size) 0 (by first | (simp; done) | (simp; omega) | omega); (try simp [go_sem, *] at _f0_0); have _q0_1 := Ext.cell hb1 (w.heap.size) 1 (by first | (simp; done) | (simp; omega) | omega); (try simp [go_sem, *] at _q0_1); have _f0_1 := Ext.frozen hb1 (w.heap.size) 1 (by first | (simp; done) | (simp; omega) | omega); (try simp [go_sem, *] at _f0_1); have _lt1 := Ext.lt hb1 (k := w.heap.size+1) (by first | (simp; done) | (simp; omega) | omega); have _q1_0 := Ext.cell hb1 (w.heap.size+1) 0 (by first | (simp; done) | (simp; omega) | omega); (try simp [go_sem, *] at _q1_0); have _f1_0 := Ext.frozen hb1 (w.heap.size+1) 0 (by first | (simp; done) | (simp; omega) | omega); (try simp [go_sem, *] at _f1_0); have _q1_1 := Ext.cell hb1 (w.heap.size+1) 1 (by first | (simp; done) | (simp; omega) | omega); (try simp [go_sem, *] at _q1_1); have _f1_1 := Ext.frozen hb1 (w.heap.size+1) 1 (by first | (simp; done) | (simp; omega) | omega); (try simp [go_sem, *] at _f1_1)))
    exact bodyPost_ret (v := .agg #[.int .i64 every, .int .i64 (every * 4)]) (by simp [results, Try.results22, go_sem, *]) rfl ⟨rfl, by (repeat (first | exact Ext.refl _ | assumption | apply Ext.drew | apply Ext.alloc | (refine Ext.setCell ?_ ?_ _ <;> first | (simp; done) | (simp; omega) | omega | skip) | (refine Ext.trans ?_ (by assumption))))⟩
  rw [if_neg c2]
  by_cases c3 : times = 3
  · rw [if_pos c3]
    subst c3
    have ww : wrap64 (every * 8) = every * 8 := IntWalk.wrap64_in _ ⟨by omega, by omega⟩
    go_enter Try.func22, Try.ntmps22
    go_wp2_with ((go_at_call 15; refine ((start_any _ _ _)).mono ?_; rintro e w1 ⟨rfl, hb1⟩; have _lt0 := Ext.lt hb1 (k := w.heap.size) (by first | (simp; done) | (simp; omega) | omega); have _q0_0 := Ext.cell hb1 (w.heap.size) 0 (by first | (simp; done) | (simp; omega) | omega); (try simp [go_sem, *] at _q0_0); have _f0_0 := Ext.frozen hb1 (w.heap.size) 0 (by first | (simp; done) | (simp; omega) | omega); (try simp [go_sem, *] at _f0_0); have _q0_1 := Ext.cell hb1 (w.heap.size) 1 (by first | (simp; done) | (simp; omega) | omega); (try simp [go_sem, *] at _q0_1); have _f0_1 := Ext.frozen hb1 (w.heap.size) 1 (by first | (simp; done) | (simp; omega) | omega); (try simp [go_sem, *] at _f0_1); have _lt1 := Ext.lt hb1 (k := w.heap.size+1) (by first | (simp; done) | (simp; omega) | omega); have _q1_0 := Ext.cell hb1 (w.heap.size+1) 0 (by first | (simp; done) | (simp; omega) | omega); (try simp [go_sem, *] at _q1_0); have _f1_0 := Ext.frozen hb1 (w.heap.size+1) 0 (by first | (simp; done) | (simp; omega) | omega); (try simp [go_sem, *] at _f1_0); have _q1_1 := Ext.cell hb1 (w.heap.size+1) 1 (by first | (simp; done) | (simp; omega) | omega); (try simp [go_sem, *] at _q1_1); have _f1_1 := Ext.frozen hb1 (w.heap.size+1) 1 (by first | (simp; done) | (simp; omega) | omega); (try simp [go_sem, *] at _f1_1)))
    exact bodyPost_ret (v := .agg #[.int .i64 every, .int .i64 (every * 8)]) (by simp [results, Try.results22, go_sem, *]) rfl ⟨rfl, by (repeat (first | exact Ext.refl _ | assumption | apply Ext.drew | apply Ext.alloc | (refine Ext.setCell ?_ ?_ _ <;> first | (simp; done) | (simp; omega) | omega | skip) | (refine Ext.trans ?_ (by assumption))))⟩
  rw [if_neg c3]
  have ww : wrap64 (every * 16) = every * 16 := IntWalk.wrap64_in _ ⟨by omega, by omega⟩
  by_cases c4 : times = 4
  · subst c4
    go_enter Try.func22, Try.ntmps22
    go_wp2_with ((go_at_call 15; refine ((start_any _ _ _)).mono ?_; rintro e w1 ⟨rfl, hb1⟩; have _lt0 := Ext.lt hb1 (k := w.heap.size) (by first | (simp; done) | (simp; omega) | omega); have _q0_0 := Ext.cell hb1 (w.heap.size) 0 (by first | (simp; done) | (simp; omega) | omega); (try simp [go_sem, *] at _q0_0); have _f0_0 := Ext.frozen hb1 (w.heap.size) 0 (by first | (simp; done) | (simp; omega) | omega); (try simp [go_sem, *] at _f0_0); have _q0_1 := Ext.cell hb1 (w.heap.size) 1 (by first | (simp; done) | (simp; omega) | omega); (try simp [go_sem, *] at _q0_1); have _f0_1 := Ext.frozen hb1 (w.heap.size) 1 (by first | (simp; done) | (simp; omega) | omega); (try simp [go_sem, *] at _f0_1); have _lt1 := Ext.lt hb1 (k := w.heap.size+1) (by first | (simp; done) | (simp; omega) | omega); have _q1_0 := Ext.cell hb1 (w.heap.size+1) 0 (by first | (simp; done) | (simp; omega) | omega); (try simp [go_sem, *] at _q1_0); have _f1_0 := Ext.frozen hb1 (w.heap.size+1) 0 (by first | (simp; done) | (simp; omega) | omega); (try simp [go_sem, *] at _f1_0); have _q1_1 := Ext.cell hb1 (w.heap.size+1) 1 (by first | (simp; done) | (simp; omega) | omega); (try simp [go_sem, *] at _q1_1); have _f1_1 := Ext.frozen hb1 (w.heap.size+1) 1 (by first | (simp; done) | (simp; omega) | omega); (try simp [go_sem, *] at _f1_1)))
    exact bodyPost_ret (v := .agg #[.int .i64 every, .int .i64 (every * 16)]) (by simp [results, Try.results22, go_sem, *]) rfl ⟨rfl, by (repeat (first | exact Ext.refl _ | assumption | apply Ext.drew | apply Ext.alloc | (refine Ext.setCell ?_ ?_ _ <;> first | (simp; done) | (simp; omega) | omega | skip) | (refine Ext.trans ?_ (by assumption))))⟩
  have c5 : 5 ≤ times := by omega
  clear c0 c1 c2 c3 c4
  go_enter Try.func22, Try.ntmps22
  go_wp2_with ((go_at_call 15; refine ((start_any _ _ _)).mono ?_; rintro e w1 ⟨rfl, hb1⟩; have _lt0 := Ext.lt hb1 (k := w.heap.size) (by first | (simp; done) | (simp; omega) | omega); have _q0_0 := Ext.cell hb1 (w.heap.size) 0 (by first | (simp; done) | (simp; omega) | omega); (try simp [go_sem, *] at _q0_0); have _f0_0 := Ext.frozen hb1 (w.heap.size) 0 (by first | (simp; done) | (simp; omega) | omega); (try simp [go_sem, *] at _f0_0); have _q0_1 := Ext.cell hb1 (w.heap.size) 1 (by first | (simp; done) | (simp; omega) | omega); (try simp [go_sem, *] at _q0_1); have _f0_1 := Ext.frozen hb1 (w.heap.size) 1 (by first | (simp; done) | (simp; omega) | omega); (try simp [go_sem, *] at _f0_1); have _lt1 := Ext.lt hb1 (k := w.heap.size+1) (by first | (simp; done) | (simp; omega) | omega); have _q1_0 := Ext.cell hb1 (w.heap.size+1) 0 (by first | (simp; done) | (simp; omega) | omega); (try simp [go_sem, *] at _q1_0); have _f1_0 := Ext.frozen hb1 (w.heap.size+1) 0 (by first | (simp; done) | (simp; omega) | omega); (try simp [go_sem, *] at _f1_0); have _q1_1 := Ext.cell hb1 (w.heap.size+1) 1 (by first | (simp; done) | (simp; omega) | omega); (try simp [go_sem, *] at _q1_1); have _f1_1 := Ext.frozen hb1 (w.heap.size+1) 1 (by first | (simp; done) | (simp; omega) | omega); (try simp [go_sem, *] at _f1_1)))
  all_goals exact bodyPost_ret (v := .agg #[.int .i64 every, .int .i64 (every * 16)]) (by simp [results, Try.results22, go_sem, *]) rfl ⟨rfl, by (repeat (first | exact Ext.refl _ | assumption | apply Ext.drew | apply Ext.alloc | (refine Ext.setCell ?_ ?_ _ <;> first | (simp; done) | (simp; omega) | omega | skip) | (refine Ext.trans ?_ (by assumption))))⟩

end
end Go.Proofs.Ytbajpjnedipceaa
