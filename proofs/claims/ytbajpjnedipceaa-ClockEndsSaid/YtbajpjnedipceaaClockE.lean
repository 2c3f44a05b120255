/-
  The walk of ClockEnds: a timer comes to its end at just every Every-th tick.
-/
import Derived.Test.YtbajpjnedipceaaClock
import Derived.Test.YtbajpjnedipceaaClockL
import Derived.LoopTactic
import Derived.Lib.Hide
namespace Go.Proofs.Ytbajpjnedipceaa
set_option linter.unusedSimpArgs false
set_option linter.unusedVariables false
open Go.ChangeShapes Go.WideShapes Go.ChangeAt Go.RowKit
attribute [local go_sem ↓] isSome_setCell
attribute [local go_sem] setCell_setCell

theorem ofV_in {every : Int} (h1 : 1 ≤ every) (h2 : every ≤ 1048576) : ofV every = every := by unfold ofV; rw [if_pos ⟨h1, h2⟩]
theorem ofE_in {every : Int} (h1 : 1 ≤ every) (h2 : every ≤ 1048576) : ofE every = 0 := by unfold ofE; rw [if_pos ⟨h1, h2⟩]
theorem ofE_out {every : Int} (h : every < 1 ∨ 1048576 < every) : ofE every = 5 := by unfold ofE; rw [if_neg (by omega)]

/-- What is left at a started timer behind k ticks. -/
theorem left_facts (every : Int) (k : Nat) (h1 : 1 ≤ every) : 1 ≤ every - (k : Int) % every ∧ every - (k : Int) % every ≤ every ∧
    tickV every (every - (k : Int) % every) = every - ((k : Int) + 1) % every ∧ tickB (every - (k : Int) % every) = (((k : Int) + 1) % every == 0) := by
  have a1 := Int.emod_nonneg (k : Int) (b := every) (by omega)
  have a2 := Int.emod_lt_of_pos (k : Int) (b := every) (by omega)
  have key : ((k : Int) + 1) % every = if (k : Int) % every + 1 = every then 0 else (k : Int) % every + 1 := by
    rw [← Int.emod_add_emod]
    split
    · rename_i h; rw [h, Int.emod_self]
    · rw [Int.emod_eq_of_lt (by omega) (by omega)]
  generalize (k : Int) % every = r at *
  rw [key]
  refine ⟨by omega, by omega, ?_, ?_⟩
  · unfold tickV
    rw [if_neg (by omega)]
    split <;> split <;> omega
  · unfold tickB
    rw [Bool.eq_iff_iff, beq_iff_eq, beq_iff_eq]
    split <;> omega

theorem ends_any (every ticks : Int) (h1 : -9223372036854775808 ≤ every) (h2 : every ≤ 9223372036854775807) (h3 : -9223372036854775808 ≤ ticks) (h4 : ticks ≤ 9223372036854775807) (w : World) :
    Calls Try.prog 5 #[.int .i64 every, .int .i64 ticks] w fun e w' => e = .returned (.bool true) ∧ Ext w w' := by
  by_cases ho : every < 1 ∨ 1048576 < every
  · have e1 := ofE_out ho
    clear ho
    go_enter Try.func5, Try.ntmps5
    go_wp2_with (first
      | (go_at_call 12; refine ((awake_any _)).mono ?_; rintro e w1 ⟨rfl, hb1⟩; have hz_ := Ext.size hb1; (try simp only [World.size_alloc, World.size_setCell, World.size_drew] at hz_); )
      | (go_at_call 13; refine ((of_any every _)).mono ?_; rintro e w2 ⟨rfl, hb2⟩; have hz_ := Ext.size hb2; (try simp only [World.size_alloc, World.size_setCell, World.size_drew] at hz_); ))
    go_ret
    exact ⟨rfl, by (repeat (first | exact Ext.refl _ | assumption | apply Ext.drew | apply Ext.alloc | (refine Ext.setCell ?_ ?_ _ <;> first | (simp; done) | (simp; omega) | omega | skip) | (refine Ext.trans ?_ (by assumption))))⟩
  have hv1 : 1 ≤ every := by omega
  have hv2 : every ≤ 1048576 := by omega
  have e1 := ofE_in hv1 hv2
  have e2 := ofV_in hv1 hv2
  clear ho
  by_cases ht : ticks < 0
  · go_enter Try.func5, Try.ntmps5
    go_wp2_with (first
      | (go_at_call 12; refine ((awake_any _)).mono ?_; rintro e w1 ⟨rfl, hb1⟩; have hz_ := Ext.size hb1; (try simp only [World.size_alloc, World.size_setCell, World.size_drew] at hz_); )
      | (go_at_call 13; refine ((of_any every _)).mono ?_; rintro e w2 ⟨rfl, hb2⟩; have hz_ := Ext.size hb2; (try simp only [World.size_alloc, World.size_setCell, World.size_drew] at hz_); ))
    go_ret
    exact ⟨rfl, by (repeat (first | exact Ext.refl _ | assumption | apply Ext.drew | apply Ext.alloc | (refine Ext.setCell ?_ ?_ _ <;> first | (simp; done) | (simp; omega) | omega | skip) | (refine Ext.trans ?_ (by assumption))))⟩
  have ht0 : 0 ≤ ticks := by omega
  clear ht
  by_cases ht : 200 < ticks
  · go_enter Try.func5, Try.ntmps5
    go_wp2_with (first
      | (go_at_call 12; refine ((awake_any _)).mono ?_; rintro e w1 ⟨rfl, hb1⟩; have hz_ := Ext.size hb1; (try simp only [World.size_alloc, World.size_setCell, World.size_drew] at hz_); )
      | (go_at_call 13; refine ((of_any every _)).mono ?_; rintro e w2 ⟨rfl, hb2⟩; have hz_ := Ext.size hb2; (try simp only [World.size_alloc, World.size_setCell, World.size_drew] at hz_); ))
    go_ret
    exact ⟨rfl, by (repeat (first | exact Ext.refl _ | assumption | apply Ext.drew | apply Ext.alloc | (refine Ext.setCell ?_ ?_ _ <;> first | (simp; done) | (simp; omega) | omega | skip) | (refine Ext.trans ?_ (by assumption))))⟩
  have ht1 : ticks ≤ 200 := by omega
  clear ht
  go_enter Try.func5, Try.ntmps5
  go_wp2_with (first
    | (go_at_call 12; refine ((awake_any _)).mono ?_; rintro e w1 ⟨rfl, hb1⟩; have hz_ := Ext.size hb1; (try simp only [World.size_alloc, World.size_setCell, World.size_drew] at hz_); )
    | (go_at_call 13; refine ((of_any every _)).mono ?_; rintro e w2 ⟨rfl, hb2⟩; have hz_ := Ext.size hb2; (try simp only [World.size_alloc, World.size_setCell, World.size_drew] at hz_); )
    | (go_at_call 14; refine ((stop_any _ _ _)).mono ?_; rintro e w3 ⟨rfl, hb3⟩; have hz_ := Ext.size hb3; (try simp only [World.size_alloc, World.size_setCell, World.size_drew] at hz_); have _lt0 := Ext.lt hb3 (k := w2.heap.size) (by first | (simp; done) | (simp; omega) | omega); have _q0_0 := Ext.cell hb3 (w2.heap.size) 0 (by first | (simp; done) | (simp; omega) | omega); (try simp [go_sem, *] at _q0_0); have _f0_0 := Ext.frozen hb3 (w2.heap.size) 0 (by first | (simp; done) | (simp; omega) | omega); (try simp [go_sem, *] at _f0_0); have _q0_1 := Ext.cell hb3 (w2.heap.size) 1 (by first | (simp; done) | (simp; omega) | omega); (try simp [go_sem, *] at _q0_1); have _f0_1 := Ext.frozen hb3 (w2.heap.size) 1 (by first | (simp; done) | (simp; omega) | omega); (try simp [go_sem, *] at _f0_1))
    | (go_at_call 15; refine ((start_any _ _ _)).mono ?_; rintro e w4 ⟨rfl, hb4⟩; have hz_ := Ext.size hb4; (try simp only [World.size_alloc, World.size_setCell, World.size_drew] at hz_); have _lt0 := Ext.lt hb4 (k := w2.heap.size) (by first | (simp; done) | (simp; omega) | omega); have _q0_0 := Ext.cell hb4 (w2.heap.size) 0 (by first | (simp; done) | (simp; omega) | omega); (try simp [go_sem, *] at _q0_0); have _f0_0 := Ext.frozen hb4 (w2.heap.size) 0 (by first | (simp; done) | (simp; omega) | omega); (try simp [go_sem, *] at _f0_0); have _q0_1 := Ext.cell hb4 (w2.heap.size) 1 (by first | (simp; done) | (simp; omega) | omega); (try simp [go_sem, *] at _q0_1); have _f0_1 := Ext.frozen hb4 (w2.heap.size) 1 (by first | (simp; done) | (simp; omega) | omega); (try simp [go_sem, *] at _f0_1); have _lt1 := Ext.lt hb4 (k := w3.heap.size) (by first | (simp; done) | (simp; omega) | omega); have _q1_0 := Ext.cell hb4 (w3.heap.size) 0 (by first | (simp; done) | (simp; omega) | omega); (try simp [go_sem, *] at _q1_0); have _f1_0 := Ext.frozen hb4 (w3.heap.size) 0 (by first | (simp; done) | (simp; omega) | omega); (try simp [go_sem, *] at _f1_0); have _q1_1 := Ext.cell hb4 (w3.heap.size) 1 (by first | (simp; done) | (simp; omega) | omega); (try simp [go_sem, *] at _q1_1); have _f1_1 := Ext.frozen hb4 (w3.heap.size) 1 (by first | (simp; done) | (simp; omega) | omega); (try simp [go_sem, *] at _f1_1)))
  clear e1 e2
  go_loopw [9] (fun i wr => ∃ k : Nat, (k : Int) ≤ ticks ∧ i = .int .i64 ((k : Int) + 1) ∧ Ext w wr ∧ w2.heap.size < wr.heap.size ∧ w3.heap.size < wr.heap.size ∧
      wr.cell? ⟨w2.heap.size, 0, none⟩ = some (.int .i64 every) ∧ wr.cell? ⟨w2.heap.size, 1, none⟩ = some (.int .i64 (every - (k : Int) % every)) ∧
      wr.cell? ⟨w3.heap.size, 0, none⟩ = some (.int .i64 every) ∧ wr.cell? ⟨w3.heap.size, 1, none⟩ = some (.int .i64 0) ∧
      wr.frozen? ⟨w2.heap.size, 0, none⟩ = false ∧ wr.frozen? ⟨w2.heap.size, 1, none⟩ = false ∧ wr.frozen? ⟨w3.heap.size, 0, none⟩ = false ∧ wr.frozen? ⟨w3.heap.size, 1, none⟩ = false)
    (fun i _ => (ticks + 1 - intOf i).toNat)
  case atStart =>
    refine ⟨0, by omega, rfl, by (repeat (first | exact Ext.refl _ | assumption | apply Ext.drew | apply Ext.alloc | (refine Ext.setCell ?_ ?_ _ <;> first | (simp; done) | (simp; omega) | omega | skip) | (refine Ext.trans ?_ (by assumption)))), by simpa using _lt0, by simpa using _lt1, ?_, ?_, ?_, ?_, ?_, ?_, ?_, ?_⟩
    all_goals simp [go_sem, *]
  case round =>
    obtain ⟨k, hk, rfl, hx, l2, l3, c0, c1, d0, d1, f0, f1, f2, f3⟩ := hrel
    obtain ⟨hL1, hL2, hL3, hL4⟩ := left_facts every k hv1
    by_cases hlt : (k : Int) + 1 ≤ ticks
    · generalize every - (k : Int) % every = L at c1 hL1 hL2 hL3 hL4
      have HL3 := Lib.hid hL3
      clear hL3
      have e3 : tickV every 0 = 0 := by simp [tickV]
      have e4 : tickB 0 = false := rfl
      have e5 : decide (0 < tickV every L) = true := by rw [HL3.out]; have := Int.emod_lt_of_pos ((k : Int) + 1) (b := every) (by omega); simp; omega
      go_wp2_with fail
      (go_at_call 16; refine ((tick_any every L (by omega) (by omega) _)).mono ?_; rintro e w5 ⟨rfl, hb5⟩; have hz_ := Ext.size hb5; (try simp only [World.size_alloc, World.size_setCell, World.size_drew] at hz_); have _lt0 := Ext.lt hb5 (k := w2.heap.size) (by first | (simp; done) | (simp; omega) | omega); have _q0_0 := Ext.cell hb5 (w2.heap.size) 0 (by first | (simp; done) | (simp; omega) | omega); (try simp [go_sem, *] at _q0_0); have _f0_0 := Ext.frozen hb5 (w2.heap.size) 0 (by first | (simp; done) | (simp; omega) | omega); (try simp [go_sem, *] at _f0_0); have _q0_1 := Ext.cell hb5 (w2.heap.size) 1 (by first | (simp; done) | (simp; omega) | omega); (try simp [go_sem, *] at _q0_1); have _f0_1 := Ext.frozen hb5 (w2.heap.size) 1 (by first | (simp; done) | (simp; omega) | omega); (try simp [go_sem, *] at _f0_1); have _lt1 := Ext.lt hb5 (k := w3.heap.size) (by first | (simp; done) | (simp; omega) | omega); have _q1_0 := Ext.cell hb5 (w3.heap.size) 0 (by first | (simp; done) | (simp; omega) | omega); (try simp [go_sem, *] at _q1_0); have _f1_0 := Ext.frozen hb5 (w3.heap.size) 0 (by first | (simp; done) | (simp; omega) | omega); (try simp [go_sem, *] at _f1_0); have _q1_1 := Ext.cell hb5 (w3.heap.size) 1 (by first | (simp; done) | (simp; omega) | omega); (try simp [go_sem, *] at _q1_1); have _f1_1 := Ext.frozen hb5 (w3.heap.size) 1 (by first | (simp; done) | (simp; omega) | omega); (try simp [go_sem, *] at _f1_1))
      go_wp2_with fail
      (go_at_call 16; refine ((tick_any every 0 (by omega) (by omega) _)).mono ?_; rintro e w6 ⟨rfl, hb6⟩; have hz_ := Ext.size hb6; (try simp only [World.size_alloc, World.size_setCell, World.size_drew] at hz_); have _lt0 := Ext.lt hb6 (k := w2.heap.size) (by first | (simp; done) | (simp; omega) | omega); have _q0_0 := Ext.cell hb6 (w2.heap.size) 0 (by first | (simp; done) | (simp; omega) | omega); (try simp [go_sem, *] at _q0_0); have _f0_0 := Ext.frozen hb6 (w2.heap.size) 0 (by first | (simp; done) | (simp; omega) | omega); (try simp [go_sem, *] at _f0_0); have _q0_1 := Ext.cell hb6 (w2.heap.size) 1 (by first | (simp; done) | (simp; omega) | omega); (try simp [go_sem, *] at _q0_1); have _f0_1 := Ext.frozen hb6 (w2.heap.size) 1 (by first | (simp; done) | (simp; omega) | omega); (try simp [go_sem, *] at _f0_1); have _lt1 := Ext.lt hb6 (k := w3.heap.size) (by first | (simp; done) | (simp; omega) | omega); have _q1_0 := Ext.cell hb6 (w3.heap.size) 0 (by first | (simp; done) | (simp; omega) | omega); (try simp [go_sem, *] at _q1_0); have _f1_0 := Ext.frozen hb6 (w3.heap.size) 0 (by first | (simp; done) | (simp; omega) | omega); (try simp [go_sem, *] at _f1_0); have _q1_1 := Ext.cell hb6 (w3.heap.size) 1 (by first | (simp; done) | (simp; omega) | omega); (try simp [go_sem, *] at _q1_1); have _f1_1 := Ext.frozen hb6 (w3.heap.size) 1 (by first | (simp; done) | (simp; omega) | omega); (try simp [go_sem, *] at _f1_1))
      go_wp2_with fail
      (go_at_call 17; refine ((runs_any every (tickV every L) _)).mono ?_; rintro e w7 ⟨rfl, hb7⟩; have hz_ := Ext.size hb7; (try simp only [World.size_alloc, World.size_setCell, World.size_drew] at hz_); have _lt0 := Ext.lt hb7 (k := w2.heap.size) (by first | (simp; done) | (simp; omega) | omega); have _q0_0 := Ext.cell hb7 (w2.heap.size) 0 (by first | (simp; done) | (simp; omega) | omega); (try simp [go_sem, *] at _q0_0); have _f0_0 := Ext.frozen hb7 (w2.heap.size) 0 (by first | (simp; done) | (simp; omega) | omega); (try simp [go_sem, *] at _f0_0); have _q0_1 := Ext.cell hb7 (w2.heap.size) 1 (by first | (simp; done) | (simp; omega) | omega); (try simp [go_sem, *] at _q0_1); have _f0_1 := Ext.frozen hb7 (w2.heap.size) 1 (by first | (simp; done) | (simp; omega) | omega); (try simp [go_sem, *] at _f0_1); have _lt1 := Ext.lt hb7 (k := w3.heap.size) (by first | (simp; done) | (simp; omega) | omega); have _q1_0 := Ext.cell hb7 (w3.heap.size) 0 (by first | (simp; done) | (simp; omega) | omega); (try simp [go_sem, *] at _q1_0); have _f1_0 := Ext.frozen hb7 (w3.heap.size) 0 (by first | (simp; done) | (simp; omega) | omega); (try simp [go_sem, *] at _f1_0); have _q1_1 := Ext.cell hb7 (w3.heap.size) 1 (by first | (simp; done) | (simp; omega) | omega); (try simp [go_sem, *] at _q1_1); have _f1_1 := Ext.frozen hb7 (w3.heap.size) 1 (by first | (simp; done) | (simp; omega) | omega); (try simp [go_sem, *] at _f1_1))
      go_wp2_with fail
      (go_at_call 17; refine ((runs_any every 0 _)).mono ?_; rintro e w8 ⟨rfl, hb8⟩; have hz_ := Ext.size hb8; (try simp only [World.size_alloc, World.size_setCell, World.size_drew] at hz_); have _lt0 := Ext.lt hb8 (k := w2.heap.size) (by first | (simp; done) | (simp; omega) | omega); have _q0_0 := Ext.cell hb8 (w2.heap.size) 0 (by first | (simp; done) | (simp; omega) | omega); (try simp [go_sem, *] at _q0_0); have _f0_0 := Ext.frozen hb8 (w2.heap.size) 0 (by first | (simp; done) | (simp; omega) | omega); (try simp [go_sem, *] at _f0_0); have _q0_1 := Ext.cell hb8 (w2.heap.size) 1 (by first | (simp; done) | (simp; omega) | omega); (try simp [go_sem, *] at _q0_1); have _f0_1 := Ext.frozen hb8 (w2.heap.size) 1 (by first | (simp; done) | (simp; omega) | omega); (try simp [go_sem, *] at _f0_1); have _lt1 := Ext.lt hb8 (k := w3.heap.size) (by first | (simp; done) | (simp; omega) | omega); have _q1_0 := Ext.cell hb8 (w3.heap.size) 0 (by first | (simp; done) | (simp; omega) | omega); (try simp [go_sem, *] at _q1_0); have _f1_0 := Ext.frozen hb8 (w3.heap.size) 0 (by first | (simp; done) | (simp; omega) | omega); (try simp [go_sem, *] at _f1_0); have _q1_1 := Ext.cell hb8 (w3.heap.size) 1 (by first | (simp; done) | (simp; omega) | omega); (try simp [go_sem, *] at _q1_1); have _f1_1 := Ext.frozen hb8 (w3.heap.size) 1 (by first | (simp; done) | (simp; omega) | omega); (try simp [go_sem, *] at _f1_1))
      go_wp2_with fail
      go_roundw
      case rel =>
        refine ⟨k + 1, by omega, by go_num, by (repeat (first | exact Ext.refl _ | assumption | apply Ext.drew | apply Ext.alloc | (refine Ext.setCell ?_ ?_ _ <;> first | (simp; done) | (simp; omega) | omega | skip) | (refine Ext.trans ?_ (by assumption)))), by simpa using _lt0, by simpa using _lt1, ?_, ?_, ?_, ?_, ?_, ?_, ?_, ?_⟩
        · simp [go_sem, *]
        · simp only [Int.natCast_add, Int.cast_ofNat_Int]
          rw [← HL3.out]
          simp [go_sem, *]
        all_goals simp [go_sem, *]
      case measure => simp [intOf]; omega
    · go_wp2_with fail
      go_ret
      exact ⟨rfl, hx⟩
end Go.Proofs.Ytbajpjnedipceaa
