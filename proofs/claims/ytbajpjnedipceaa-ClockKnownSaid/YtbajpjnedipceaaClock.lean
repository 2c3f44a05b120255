/-
  Contracts of the clock's functions and of the document's.
-/
import Derived.Test.YtbajpjnedipceaaRows
import Derived.Test.YtbajpjnedipceaaFrame
import Derived.Test.YtbajpjnedipceaaExt
namespace Go.Proofs.Ytbajpjnedipceaa
set_option linter.unusedSimpArgs false
set_option linter.unusedVariables false
open Go.ChangeShapes Go.WideShapes Go.ChangeAt Go.RowKit

theorem add64_run (x y c : Int) (hx : 0 ≤ x) (hy : 0 ≤ y) (hc0 : 0 ≤ c) (hc : c ≤ 1) (w : World) :
    (callFunc 25 #[.int .u64 x, .int .u64 y, .int .u64 c]).run Try.prog w = .ok (.value (.tuple #[.int .u64 ((x + y + c) % 18446744073709551616), .int .u64 ((x + y + c) / 18446744073709551616)])) w := by
  rw [run_callFunc_extern Try.func25 (by kernel_rfl) (by kernel_rfl) (by kernel_rfl) (e := add64Entry) (by kernel_rfl), run_add64 x y c hx hy hc0 hc]
  rfl
attribute [local go_sem] add64_run

theorem ret2_int {k l : IntKind} {a b c d : Int} (h : a = c) (h' : b = d) : Ending.returned (.tuple #[.int k a, .int l b]) = .returned (.tuple #[.int k c, .int l d]) := by rw [h, h']

/-! ### what is computed -/
def stampE (last : Int) : Int := if last = 18446744073709551615 then 15 else 0
def stampV (last now : Int) : Int := if last = 18446744073709551615 then 0 else max (last + 1) now
def momE (last records : Int) : Int := if records < 0 ∨ 8 < records then 5 else if 18446744073709551615 < last + max records 1 then 15 else 0
def momV (last now records : Int) : Int := if records < 0 ∨ 8 < records then 0 else if 18446744073709551615 < last + max records 1 then 0 else max (last + max records 1) now
def ofV (every : Int) : Int := if 1 ≤ every ∧ every ≤ 1048576 then every else 0
def ofE (every : Int) : Int := if 1 ≤ every ∧ every ≤ 1048576 then 0 else 5
def tickV (every left : Int) : Int := if left ≤ 0 then left else if left = 1 then every else left - 1
def tickB (left : Int) : Bool := left == 1
def backV (every times : Int) : Int := if 0 ≤ every ∧ every ≤ 1048576 then (if times ≤ 0 then every else if times = 1 then every * 2 else if times = 2 then every * 4 else if times = 3 then every * 8 else every * 16) else every

set_option linter.unusedSectionVars false
section
variable (last now records : Int) (h1 : 0 ≤ last) (h2 : last ≤ 18446744073709551615) (h3 : 0 ≤ now) (h4 : now ≤ 18446744073709551615) (w : World)
include h1 h2 h3 h4

theorem stamp_any : Calls Try.prog 8 #[.int .u64 last, .int .u64 now] w fun e w' => e = .returned (.tuple #[.int .u64 (stampV last now), .int .i64 (stampE last)]) ∧ Ext w w' := by
  go_enter Try.func8, Try.ntmps8
  go_wp2
  all_goals go_ret2
  all_goals refine ⟨ret2_int ?_ ?_, Ext.refl _⟩
  all_goals simp only [stampV, stampE]
  all_goals (repeat split) <;> omega
theorem rstamp_any : Calls Try.prog 9 #[.int .u64 last, .int .u64 now] w fun e w' => e = .returned (.tuple #[.int .u64 (stampV last now), .int .i64 (stampE last)]) ∧ Ext w w' := by
  go_enter Try.func9, Try.ntmps9
  go_wp2
  all_goals go_ret2
  all_goals refine ⟨ret2_int ?_ ?_, Ext.refl _⟩
  all_goals simp only [stampV, stampE]
  all_goals simp only [IntKind.wrap_u64, beq_iff_eq, beq_eq_false_iff_ne] at *
  all_goals (repeat split) <;> omega
theorem moment_any (hr1 : -9223372036854775808 ≤ records) (hr2 : records ≤ 9223372036854775807) : Calls Try.prog 10 #[.int .u64 last, .int .u64 now, .int .i64 records] w fun e w' => e = .returned (.tuple #[.int .u64 (momV last now records), .int .i64 (momE last records)]) ∧ Ext w w' := by
  go_enter Try.func10, Try.ntmps10
  go_wp2
  all_goals go_ret2
  all_goals refine ⟨ret2_int ?_ ?_, Ext.refl _⟩
  all_goals simp only [momV, momE]
  all_goals (repeat split) <;> omega
theorem rmoment_any (hr1 : -9223372036854775808 ≤ records) (hr2 : records ≤ 9223372036854775807) : Calls Try.prog 11 #[.int .u64 last, .int .u64 now, .int .i64 records] w fun e w' => e = .returned (.tuple #[.int .u64 (momV last now records), .int .i64 (momE last records)]) ∧ Ext w w' := by
  go_enter Try.func11, Try.ntmps11
  go_wp2
  all_goals go_ret2
  all_goals refine ⟨ret2_int ?_ ?_, Ext.refl _⟩
  all_goals simp only [momV, momE]
  all_goals try simp only [IntKind.wrap_u64] at *
  all_goals (repeat split) <;> omega
end

section
variable (every left times : Int) (h1 : -9223372036854775808 ≤ every) (h2 : every ≤ 9223372036854775807) (h3 : -9223372036854775808 ≤ left) (h4 : left ≤ 9223372036854775807) (w : World)

theorem start_any : Calls Try.prog 15 #[.agg #[.int .i64 every, .int .i64 left]] w fun e w' => e = .returned (.agg #[.int .i64 every, .int .i64 every]) ∧ Ext w w' := by
  go_enter Try.func15, Try.ntmps15
  go_wp2
  exact bodyPost_ret (v := .agg #[.int .i64 every, .int .i64 every]) (by simp [results, Try.results15, go_sem]) rfl ⟨rfl, by (repeat (first | exact Ext.refl _ | assumption | apply Ext.drew | apply Ext.alloc | (refine Ext.setCell ?_ ?_ _ <;> first | (simp; done) | (simp; omega) | omega | skip) | (refine Ext.trans ?_ (by assumption))))⟩
theorem stop_any : Calls Try.prog 14 #[.agg #[.int .i64 every, .int .i64 left]] w fun e w' => e = .returned (.agg #[.int .i64 every, .int .i64 0]) ∧ Ext w w' := by
  go_enter Try.func14, Try.ntmps14
  go_wp2
  exact bodyPost_ret (v := .agg #[.int .i64 every, .int .i64 0]) (by simp [results, Try.results14, go_sem]) rfl ⟨rfl, by (repeat (first | exact Ext.refl _ | assumption | apply Ext.drew | apply Ext.alloc | (refine Ext.setCell ?_ ?_ _ <;> first | (simp; done) | (simp; omega) | omega | skip) | (refine Ext.trans ?_ (by assumption))))⟩
theorem rstart_any : Calls Try.prog 20 #[.agg #[.int .i64 every, .int .i64 left]] w fun e w' => e = .returned (.agg #[.int .i64 every, .int .i64 every]) ∧ Ext w w' := by
  go_enter Try.func20, Try.ntmps20
  go_wp2
  exact bodyPost_ret (v := .agg #[.int .i64 every, .int .i64 every]) (by simp [results, Try.results20, go_sem]) rfl ⟨rfl, by (repeat (first | exact Ext.refl _ | assumption | apply Ext.drew | apply Ext.alloc | (refine Ext.setCell ?_ ?_ _ <;> first | (simp; done) | (simp; omega) | omega | skip) | (refine Ext.trans ?_ (by assumption))))⟩
theorem rstop_any : Calls Try.prog 21 #[.agg #[.int .i64 every, .int .i64 left]] w fun e w' => e = .returned (.agg #[.int .i64 every, .int .i64 0]) ∧ Ext w w' := by
  go_enter Try.func21, Try.ntmps21
  go_wp2
  exact bodyPost_ret (v := .agg #[.int .i64 every, .int .i64 0]) (by simp [results, Try.results21, go_sem]) rfl ⟨rfl, by (repeat (first | exact Ext.refl _ | assumption | apply Ext.drew | apply Ext.alloc | (refine Ext.setCell ?_ ?_ _ <;> first | (simp; done) | (simp; omega) | omega | skip) | (refine Ext.trans ?_ (by assumption))))⟩
theorem runs_any : Calls Try.prog 17 #[.agg #[.int .i64 every, .int .i64 left]] w fun e w' => e = .returned (.bool (decide (0 < left))) ∧ Ext w w' := by
  go_enter Try.func17, Try.ntmps17
  go_wp2
  go_ret
  exact ⟨rfl, by (repeat (first | exact Ext.refl _ | assumption | apply Ext.drew | apply Ext.alloc | (refine Ext.setCell ?_ ?_ _ <;> first | (simp; done) | (simp; omega) | omega | skip) | (refine Ext.trans ?_ (by assumption))))⟩
theorem rruns_any : Calls Try.prog 24 #[.agg #[.int .i64 every, .int .i64 left]] w fun e w' => e = .returned (.bool (decide (0 < left))) ∧ Ext w w' := by
  go_enter Try.func24, Try.ntmps24
  go_wp2
  go_ret
  exact ⟨rfl, by (repeat (first | exact Ext.refl _ | assumption | apply Ext.drew | apply Ext.alloc | (refine Ext.setCell ?_ ?_ _ <;> first | (simp; done) | (simp; omega) | omega | skip) | (refine Ext.trans ?_ (by assumption))))⟩
theorem of_any : Calls Try.prog 13 #[.int .i64 every] w fun e w' => e = .returned (.tuple #[.agg #[.int .i64 (ofV every), .int .i64 0], .int .i64 (ofE every)]) ∧ Ext w w' := by
  by_cases h : 1 ≤ every ∧ every ≤ 1048576
  · have e1 : ofV every = every := by simp only [ofV]; rw [if_pos h]
    have e2 : ofE every = 0 := by simp only [ofE]; rw [if_pos h]
    rw [e1, e2]
    clear e1 e2
    obtain ⟨ha, hb⟩ := h
    go_enter Try.func13, Try.ntmps13
    go_wp2
    exact bodyPost_ret (v := .tuple #[.agg #[.int .i64 every, .int .i64 0], .int .i64 0]) (by simp [results, Try.results13, go_sem]) rfl ⟨rfl, by (repeat (first | exact Ext.refl _ | assumption | apply Ext.drew | apply Ext.alloc | (refine Ext.setCell ?_ ?_ _ <;> first | (simp; done) | (simp; omega) | omega | skip) | (refine Ext.trans ?_ (by assumption))))⟩
  · have e1 : ofV every = 0 := by simp only [ofV]; rw [if_neg h]
    have e2 : ofE every = 5 := by simp only [ofE]; rw [if_neg h]
    rw [e1, e2]
    clear e1 e2
    have h' : every < 1 ∨ 1048576 < every := by omega
    clear h
    go_enter Try.func13, Try.ntmps13
    rcases h' with h' | h'
    all_goals go_wp2
    all_goals exact bodyPost_ret (v := .tuple #[.agg #[.int .i64 0, .int .i64 0], .int .i64 5]) (by simp [results, Try.results13, go_sem]) rfl ⟨rfl, by (repeat (first | exact Ext.refl _ | assumption | apply Ext.drew | apply Ext.alloc | (refine Ext.setCell ?_ ?_ _ <;> first | (simp; done) | (simp; omega) | omega | skip) | (refine Ext.trans ?_ (by assumption))))⟩
theorem rof_any : Calls Try.prog 18 #[.int .i64 every] w fun e w' => e = .returned (.tuple #[.agg #[.int .i64 (ofV every), .int .i64 0], .int .i64 (ofE every)]) ∧ Ext w w' := by
  by_cases h : 1 ≤ every ∧ every ≤ 1048576
  · have e1 : ofV every = every := by simp only [ofV]; rw [if_pos h]
    have e2 : ofE every = 0 := by simp only [ofE]; rw [if_pos h]
    rw [e1, e2]
    clear e1 e2
    obtain ⟨ha, hb⟩ := h
    go_enter Try.func18, Try.ntmps18
    go_wp2
    exact bodyPost_ret (v := .tuple #[.agg #[.int .i64 every, .int .i64 0], .int .i64 0]) (by simp [results, Try.results18, go_sem]) rfl ⟨rfl, by (repeat (first | exact Ext.refl _ | assumption | apply Ext.drew | apply Ext.alloc | (refine Ext.setCell ?_ ?_ _ <;> first | (simp; done) | (simp; omega) | omega | skip) | (refine Ext.trans ?_ (by assumption))))⟩
  · have e1 : ofV every = 0 := by simp only [ofV]; rw [if_neg h]
    have e2 : ofE every = 5 := by simp only [ofE]; rw [if_neg h]
    rw [e1, e2]
    clear e1 e2
    have h' : every < 1 ∨ 1048576 < every := by omega
    clear h
    go_enter Try.func18, Try.ntmps18
    rcases h' with h' | h'
    all_goals go_wp2
    all_goals exact bodyPost_ret (v := .tuple #[.agg #[.int .i64 0, .int .i64 0], .int .i64 5]) (by simp [results, Try.results18, go_sem]) rfl ⟨rfl, by (repeat (first | exact Ext.refl _ | assumption | apply Ext.drew | apply Ext.alloc | (refine Ext.setCell ?_ ?_ _ <;> first | (simp; done) | (simp; omega) | omega | skip) | (refine Ext.trans ?_ (by assumption))))⟩
include h3 h4 in
theorem tick_any : Calls Try.prog 16 #[.agg #[.int .i64 every, .int .i64 left]] w fun e w' => e = .returned (.tuple #[.agg #[.int .i64 every, .int .i64 (tickV every left)], .bool (tickB left)]) ∧ Ext w w' := by
  by_cases ha : left ≤ 0
  · have e1 : tickV every left = left := by simp only [tickV]; rw [if_pos ha]
    have e2 : tickB left = false := by simp only [tickB]; rw [beq_eq_false_iff_ne]; omega
    rw [e1, e2]
    clear e1 e2
    have t1 : decide (0 < left) = false := by simpa using ha
    go_enter Try.func16, Try.ntmps16
    go_wp2_with (first | (go_at_call 17; refine ((runs_any _ _ _)).mono ?_; rintro e w1 ⟨rfl, hb1⟩; have _lt0 := Ext.lt hb1 (k := w.heap.size) (by first | (simp; done) | (simp; omega) | omega); have _q0_0 := Ext.cell hb1 (w.heap.size) 0 (by first | (simp; done) | (simp; omega) | omega); (try simp [go_sem, *] at _q0_0); have _f0_0 := Ext.frozen hb1 (w.heap.size) 0 (by first | (simp; done) | (simp; omega) | omega); (try simp [go_sem, *] at _f0_0); have _q0_1 := Ext.cell hb1 (w.heap.size) 1 (by first | (simp; done) | (simp; omega) | omega); (try simp [go_sem, *] at _q0_1); have _f0_1 := Ext.frozen hb1 (w.heap.size) 1 (by first | (simp; done) | (simp; omega) | omega); (try simp [go_sem, *] at _f0_1); have _lt1 := Ext.lt hb1 (k := w.heap.size+1) (by first | (simp; done) | (simp; omega) | omega); have _q1_0 := Ext.cell hb1 (w.heap.size+1) 0 (by first | (simp; done) | (simp; omega) | omega); (try simp [go_sem, *] at _q1_0); have _f1_0 := Ext.frozen hb1 (w.heap.size+1) 0 (by first | (simp; done) | (simp; omega) | omega); (try simp [go_sem, *] at _f1_0); have _q1_1 := Ext.cell hb1 (w.heap.size+1) 1 (by first | (simp; done) | (simp; omega) | omega); (try simp [go_sem, *] at _q1_1); have _f1_1 := Ext.frozen hb1 (w.heap.size+1) 1 (by first | (simp; done) | (simp; omega) | omega); (try simp [go_sem, *] at _f1_1)) | (go_at_call 15; refine ((start_any _ _ _)).mono ?_; rintro e w1 ⟨rfl, hb1⟩; have _lt0 := Ext.lt hb1 (k := w.heap.size) (by first | (simp; done) | (simp; omega) | omega); have _q0_0 := Ext.cell hb1 (w.heap.size) 0 (by first | (simp; done) | (simp; omega) | omega); (try simp [go_sem, *] at _q0_0); have _f0_0 := Ext.frozen hb1 (w.heap.size) 0 (by first | (simp; done) | (simp; omega) | omega); (try simp [go_sem, *] at _f0_0); have _q0_1 := Ext.cell hb1 (w.heap.size) 1 (by first | (simp; done) | (simp; omega) | omega); (try simp [go_sem, *] at _q0_1); have _f0_1 := Ext.frozen hb1 (w.heap.size) 1 (by first | (simp; done) | (simp; omega) | omega); (try simp [go_sem, *] at _f0_1); have _lt1 := Ext.lt hb1 (k := w.heap.size+1) (by first | (simp; done) | (simp; omega) | omega); have _q1_0 := Ext.cell hb1 (w.heap.size+1) 0 (by first | (simp; done) | (simp; omega) | omega); (try simp [go_sem, *] at _q1_0); have _f1_0 := Ext.frozen hb1 (w.heap.size+1) 0 (by first | (simp; done) | (simp; omega) | omega); (try simp [go_sem, *] at _f1_0); have _q1_1 := Ext.cell hb1 (w.heap.size+1) 1 (by first | (simp; done) | (simp; omega) | omega); (try simp [go_sem, *] at _q1_1); have _f1_1 := Ext.frozen hb1 (w.heap.size+1) 1 (by first | (simp; done) | (simp; omega) | omega); (try simp [go_sem, *] at _f1_1)))
    exact bodyPost_ret (v := .tuple #[.agg #[.int .i64 every, .int .i64 left], .bool false]) (by simp [results, Try.results16, go_sem, *]) rfl ⟨rfl, by (repeat (first | exact Ext.refl _ | assumption | apply Ext.drew | apply Ext.alloc | (refine Ext.setCell ?_ ?_ _ <;> first | (simp; done) | (simp; omega) | omega | skip) | (refine Ext.trans ?_ (by assumption))))⟩
  · by_cases hb : left = 1
    · subst hb
      have e1 : tickV every 1 = every := by simp [tickV]
      have e2 : tickB 1 = true := rfl
      rw [e1, e2]
      clear e1 e2 ha
      go_enter Try.func16, Try.ntmps16
      go_wp2_with (first | (go_at_call 17; refine ((runs_any _ _ _)).mono ?_; rintro e w1 ⟨rfl, hb1⟩; have _lt0 := Ext.lt hb1 (k := w.heap.size) (by first | (simp; done) | (simp; omega) | omega); have _q0_0 := Ext.cell hb1 (w.heap.size) 0 (by first | (simp; done) | (simp; omega) | omega); (try simp [go_sem, *] at _q0_0); have _f0_0 := Ext.frozen hb1 (w.heap.size) 0 (by first | (simp; done) | (simp; omega) | omega); (try simp [go_sem, *] at _f0_0); have _q0_1 := Ext.cell hb1 (w.heap.size) 1 (by first | (simp; done) | (simp; omega) | omega); (try simp [go_sem, *] at _q0_1); have _f0_1 := Ext.frozen hb1 (w.heap.size) 1 (by first | (simp; done) | (simp; omega) | omega); (try simp [go_sem, *] at _f0_1); have _lt1 := Ext.lt hb1 (k := w.heap.size+1) (by first | (simp; done) | (simp; omega) | omega); have _q1_0 := Ext.cell hb1 (w.heap.size+1) 0 (by first | (simp; done) | (simp; omega) | omega); (try simp [go_sem, *] at _q1_0); have _f1_0 := Ext.frozen hb1 (w.heap.size+1) 0 (by first | (simp; done) | (simp; omega) | omega); (try simp [go_sem, *] at _f1_0); have _q1_1 := Ext.cell hb1 (w.heap.size+1) 1 (by first | (simp; done) | (simp; omega) | omega); (try simp [go_sem, *] at _q1_1); have _f1_1 := Ext.frozen hb1 (w.heap.size+1) 1 (by first | (simp; done) | (simp; omega) | omega); (try simp [go_sem, *] at _f1_1)) | (go_at_call 15; refine ((start_any _ _ _)).mono ?_; rintro e w1 ⟨rfl, hb1⟩; have _lt0 := Ext.lt hb1 (k := w.heap.size) (by first | (simp; done) | (simp; omega) | omega); have _q0_0 := Ext.cell hb1 (w.heap.size) 0 (by first | (simp; done) | (simp; omega) | omega); (try simp [go_sem, *] at _q0_0); have _f0_0 := Ext.frozen hb1 (w.heap.size) 0 (by first | (simp; done) | (simp; omega) | omega); (try simp [go_sem, *] at _f0_0); have _q0_1 := Ext.cell hb1 (w.heap.size) 1 (by first | (simp; done) | (simp; omega) | omega); (try simp [go_sem, *] at _q0_1); have _f0_1 := Ext.frozen hb1 (w.heap.size) 1 (by first | (simp; done) | (simp; omega) | omega); (try simp [go_sem, *] at _f0_1); have _lt1 := Ext.lt hb1 (k := w.heap.size+1) (by first | (simp; done) | (simp; omega) | omega); have _q1_0 := Ext.cell hb1 (w.heap.size+1) 0 (by first | (simp; done) | (simp; omega) | omega); (try simp [go_sem, *] at _q1_0); have _f1_0 := Ext.frozen hb1 (w.heap.size+1) 0 (by first | (simp; done) | (simp; omega) | omega); (try simp [go_sem, *] at _f1_0); have _q1_1 := Ext.cell hb1 (w.heap.size+1) 1 (by first | (simp; done) | (simp; omega) | omega); (try simp [go_sem, *] at _q1_1); have _f1_1 := Ext.frozen hb1 (w.heap.size+1) 1 (by first | (simp; done) | (simp; omega) | omega); (try simp [go_sem, *] at _f1_1)))
      exact bodyPost_ret (v := .tuple #[.agg #[.int .i64 every, .int .i64 every], .bool true]) (by simp [results, Try.results16, go_sem, *]) rfl ⟨rfl, by (repeat (first | exact Ext.refl _ | assumption | apply Ext.drew | apply Ext.alloc | (refine Ext.setCell ?_ ?_ _ <;> first | (simp; done) | (simp; omega) | omega | skip) | (refine Ext.trans ?_ (by assumption))))⟩
    · have e1 : tickV every left = left - 1 := by simp only [tickV]; rw [if_neg ha, if_neg hb]
      have e2 : tickB left = false := by simp only [tickB]; rw [beq_eq_false_iff_ne]; omega
      rw [e1, e2]
      clear e1 e2
      have hc : 2 ≤ left := by omega
      have hd : (left - 1 == 0) = false := by rw [beq_eq_false_iff_ne]; omega
      clear ha hb
      have t1 : decide (0 < left) = true := by simp; omega
      have t2 : decide (1 < left) = true := by simp; omega
      go_enter Try.func16, Try.ntmps16
      go_wp2_with (first | (go_at_call 17; refine ((runs_any _ _ _)).mono ?_; rintro e w1 ⟨rfl, hb1⟩; have _lt0 := Ext.lt hb1 (k := w.heap.size) (by first | (simp; done) | (simp; omega) | omega); have _q0_0 := Ext.cell hb1 (w.heap.size) 0 (by first | (simp; done) | (simp; omega) | omega); (try simp [go_sem, *] at _q0_0); have _f0_0 := Ext.frozen hb1 (w.heap.size) 0 (by first | (simp; done) | (simp; omega) | omega); (try simp [go_sem, *] at _f0_0); have _q0_1 := Ext.cell hb1 (w.heap.size) 1 (by first | (simp; done) | (simp; omega) | omega); (try simp [go_sem, *] at _q0_1); have _f0_1 := Ext.frozen hb1 (w.heap.size) 1 (by first | (simp; done) | (simp; omega) | omega); (try simp [go_sem, *] at _f0_1); have _lt1 := Ext.lt hb1 (k := w.heap.size+1) (by first | (simp; done) | (simp; omega) | omega); have _q1_0 := Ext.cell hb1 (w.heap.size+1) 0 (by first | (simp; done) | (simp; omega) | omega); (try simp [go_sem, *] at _q1_0); have _f1_0 := Ext.frozen hb1 (w.heap.size+1) 0 (by first | (simp; done) | (simp; omega) | omega); (try simp [go_sem, *] at _f1_0); have _q1_1 := Ext.cell hb1 (w.heap.size+1) 1 (by first | (simp; done) | (simp; omega) | omega); (try simp [go_sem, *] at _q1_1); have _f1_1 := Ext.frozen hb1 (w.heap.size+1) 1 (by first | (simp; done) | (simp; omega) | omega); (try simp [go_sem, *] at _f1_1)) | (go_at_call 15; refine ((start_any _ _ _)).mono ?_; rintro e w1 ⟨rfl, hb1⟩; have _lt0 := Ext.lt hb1 (k := w.heap.size) (by first | (simp; done) | (simp; omega) | omega); have _q0_0 := Ext.cell hb1 (w.heap.size) 0 (by first | (simp; done) | (simp; omega) | omega); (try simp [go_sem, *] at _q0_0); have _f0_0 := Ext.frozen hb1 (w.heap.size) 0 (by first | (simp; done) | (simp; omega) | omega); (try simp [go_sem, *] at _f0_0); have _q0_1 := Ext.cell hb1 (w.heap.size) 1 (by first | (simp; done) | (simp; omega) | omega); (try simp [go_sem, *] at _q0_1); have _f0_1 := Ext.frozen hb1 (w.heap.size) 1 (by first | (simp; done) | (simp; omega) | omega); (try simp [go_sem, *] at _f0_1); have _lt1 := Ext.lt hb1 (k := w.heap.size+1) (by first | (simp; done) | (simp; omega) | omega); have _q1_0 := Ext.cell hb1 (w.heap.size+1) 0 (by first | (simp; done) | (simp; omega) | omega); (try simp [go_sem, *] at _q1_0); have _f1_0 := Ext.frozen hb1 (w.heap.size+1) 0 (by first | (simp; done) | (simp; omega) | omega); (try simp [go_sem, *] at _f1_0); have _q1_1 := Ext.cell hb1 (w.heap.size+1) 1 (by first | (simp; done) | (simp; omega) | omega); (try simp [go_sem, *] at _q1_1); have _f1_1 := Ext.frozen hb1 (w.heap.size+1) 1 (by first | (simp; done) | (simp; omega) | omega); (try simp [go_sem, *] at _f1_1)))
      exact bodyPost_ret (v := .tuple #[.agg #[.int .i64 every, .int .i64 (left - 1)], .bool false]) (by simp [results, Try.results16, go_sem, *]) rfl ⟨rfl, by (repeat (first | exact Ext.refl _ | assumption | apply Ext.drew | apply Ext.alloc | (refine Ext.setCell ?_ ?_ _ <;> first | (simp; done) | (simp; omega) | omega | skip) | (refine Ext.trans ?_ (by assumption))))⟩
include h3 h4 in
theorem rtick_any : Calls Try.prog 19 #[.agg #[.int .i64 every, .int .i64 left]] w fun e w' => e = .returned (.tuple #[.agg #[.int .i64 every, .int .i64 (tickV every left)], .bool (tickB left)]) ∧ Ext w w' := by
  by_cases ha : left ≤ 0
  · have e1 : tickV every left = left := by simp only [tickV]; rw [if_pos ha]
    have e2 : tickB left = false := by simp only [tickB]; rw [beq_eq_false_iff_ne]; omega
    rw [e1, e2]
    clear e1 e2
    have t1 : decide (0 < left) = false := by simpa using ha
    go_enter Try.func19, Try.ntmps19
    go_wp2_with ((go_at_call 20; refine ((rstart_any _ _ _)).mono ?_; rintro e w1 ⟨rfl, hb1⟩; have _lt0 := Ext.lt hb1 (k := w.heap.size) (by first | (simp; done) | (simp; omega) | omega); have _q0_0 := Ext.cell hb1 (w.heap.size) 0 (by first | (simp; done) | (simp; omega) | omega); (try simp [go_sem, *] at _q0_0); have _f0_0 := Ext.frozen hb1 (w.heap.size) 0 (by first | (simp; done) | (simp; omega) | omega); (try simp [go_sem, *] at _f0_0); have _q0_1 := Ext.cell hb1 (w.heap.size) 1 (by first | (simp; done) | (simp; omega) | omega); (try simp [go_sem, *] at _q0_1); have _f0_1 := Ext.frozen hb1 (w.heap.size) 1 (by first | (simp; done) | (simp; omega) | omega); (try simp [go_sem, *] at _f0_1); have _lt1 := Ext.lt hb1 (k := w.heap.size+1) (by first | (simp; done) | (simp; omega) | omega); have _q1_0 := Ext.cell hb1 (w.heap.size+1) 0 (by first | (simp; done) | (simp; omega) | omega); (try simp [go_sem, *] at _q1_0); have _f1_0 := Ext.frozen hb1 (w.heap.size+1) 0 (by first | (simp; done) | (simp; omega) | omega); (try simp [go_sem, *] at _f1_0); have _q1_1 := Ext.cell hb1 (w.heap.size+1) 1 (by first | (simp; done) | (simp; omega) | omega); (try simp [go_sem, *] at _q1_1); have _f1_1 := Ext.frozen hb1 (w.heap.size+1) 1 (by first | (simp; done) | (simp; omega) | omega); (try simp [go_sem, *] at _f1_1)))
    exact bodyPost_ret (v := .tuple #[.agg #[.int .i64 every, .int .i64 left], .bool false]) (by simp [results, Try.results19, go_sem, *]) rfl ⟨rfl, by (repeat (first | exact Ext.refl _ | assumption | apply Ext.drew | apply Ext.alloc | (refine Ext.setCell ?_ ?_ _ <;> first | (simp; done) | (simp; omega) | omega | skip) | (refine Ext.trans ?_ (by assumption))))⟩
  · by_cases hb : left = 1
    · subst hb
      have e1 : tickV every 1 = every := by simp [tickV]
      have e2 : tickB 1 = true := rfl
      rw [e1, e2]
      clear e1 e2 ha
      go_enter Try.func19, Try.ntmps19
      go_wp2_with ((go_at_call 20; refine ((rstart_any _ _ _)).mono ?_; rintro e w1 ⟨rfl, hb1⟩; have _lt0 := Ext.lt hb1 (k := w.heap.size) (by first | (simp; done) | (simp; omega) | omega); have _q0_0 := Ext.cell hb1 (w.heap.size) 0 (by first | (simp; done) | (simp; omega) | omega); (try simp [go_sem, *] at _q0_0); have _f0_0 := Ext.frozen hb1 (w.heap.size) 0 (by first | (simp; done) | (simp; omega) | omega); (try simp [go_sem, *] at _f0_0); have _q0_1 := Ext.cell hb1 (w.heap.size) 1 (by first | (simp; done) | (simp; omega) | omega); (try simp [go_sem, *] at _q0_1); have _f0_1 := Ext.frozen hb1 (w.heap.size) 1 (by first | (simp; done) | (simp; omega) | omega); (try simp [go_sem, *] at _f0_1); have _lt1 := Ext.lt hb1 (k := w.heap.size+1) (by first | (simp; done) | (simp; omega) | omega); have _q1_0 := Ext.cell hb1 (w.heap.size+1) 0 (by first | (simp; done) | (simp; omega) | omega); (try simp [go_sem, *] at _q1_0); have _f1_0 := Ext.frozen hb1 (w.heap.size+1) 0 (by first | (simp; done) | (simp; omega) | omega); (try simp [go_sem, *] at _f1_0); have _q1_1 := Ext.cell hb1 (w.heap.size+1) 1 (by first | (simp; done) | (simp; omega) | omega); (try simp [go_sem, *] at _q1_1); have _f1_1 := Ext.frozen hb1 (w.heap.size+1) 1 (by first | (simp; done) | (simp; omega) | omega); (try simp [go_sem, *] at _f1_1)))
      exact bodyPost_ret (v := .tuple #[.agg #[.int .i64 every, .int .i64 every], .bool true]) (by simp [results, Try.results19, go_sem, *]) rfl ⟨rfl, by (repeat (first | exact Ext.refl _ | assumption | apply Ext.drew | apply Ext.alloc | (refine Ext.setCell ?_ ?_ _ <;> first | (simp; done) | (simp; omega) | omega | skip) | (refine Ext.trans ?_ (by assumption))))⟩
    · have e1 : tickV every left = left - 1 := by simp only [tickV]; rw [if_neg ha, if_neg hb]
      have e2 : tickB left = false := by simp only [tickB]; rw [beq_eq_false_iff_ne]; omega
      rw [e1, e2]
      clear e1 e2
      have hc : 2 ≤ left := by omega
      have hd : (left - 1 == 0) = false := by rw [beq_eq_false_iff_ne]; omega
      clear ha hb
      have t1 : decide (0 < left) = true := by simp; omega
      have t2 : decide (1 < left) = true := by simp; omega
      go_enter Try.func19, Try.ntmps19
      go_wp2_with ((go_at_call 20; refine ((rstart_any _ _ _)).mono ?_; rintro e w1 ⟨rfl, hb1⟩; have _lt0 := Ext.lt hb1 (k := w.heap.size) (by first | (simp; done) | (simp; omega) | omega); have _q0_0 := Ext.cell hb1 (w.heap.size) 0 (by first | (simp; done) | (simp; omega) | omega); (try simp [go_sem, *] at _q0_0); have _f0_0 := Ext.frozen hb1 (w.heap.size) 0 (by first | (simp; done) | (simp; omega) | omega); (try simp [go_sem, *] at _f0_0); have _q0_1 := Ext.cell hb1 (w.heap.size) 1 (by first | (simp; done) | (simp; omega) | omega); (try simp [go_sem, *] at _q0_1); have _f0_1 := Ext.frozen hb1 (w.heap.size) 1 (by first | (simp; done) | (simp; omega) | omega); (try simp [go_sem, *] at _f0_1); have _lt1 := Ext.lt hb1 (k := w.heap.size+1) (by first | (simp; done) | (simp; omega) | omega); have _q1_0 := Ext.cell hb1 (w.heap.size+1) 0 (by first | (simp; done) | (simp; omega) | omega); (try simp [go_sem, *] at _q1_0); have _f1_0 := Ext.frozen hb1 (w.heap.size+1) 0 (by first | (simp; done) | (simp; omega) | omega); (try simp [go_sem, *] at _f1_0); have _q1_1 := Ext.cell hb1 (w.heap.size+1) 1 (by first | (simp; done) | (simp; omega) | omega); (try simp [go_sem, *] at _q1_1); have _f1_1 := Ext.frozen hb1 (w.heap.size+1) 1 (by first | (simp; done) | (simp; omega) | omega); (try simp [go_sem, *] at _f1_1)))
      exact bodyPost_ret (v := .tuple #[.agg #[.int .i64 every, .int .i64 (left - 1)], .bool false]) (by simp [results, Try.results19, go_sem, *]) rfl ⟨rfl, by (repeat (first | exact Ext.refl _ | assumption | apply Ext.drew | apply Ext.alloc | (refine Ext.setCell ?_ ?_ _ <;> first | (simp; done) | (simp; omega) | omega | skip) | (refine Ext.trans ?_ (by assumption))))⟩
end
end Go.Proofs.Ytbajpjnedipceaa
