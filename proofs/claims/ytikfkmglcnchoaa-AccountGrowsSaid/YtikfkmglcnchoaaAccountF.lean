/-
  Contracts of the document's limits.
-/
import Derived.Test.YtikfkmglcnchoaaAccountE
namespace Go.Proofs.Ytikfkmglcnchoaa
set_option linter.unusedSimpArgs false
set_option linter.unusedVariables false
set_option linter.unusedSectionVars false
open Go.ChangeShapes Go.WideShapes Go.ChangeAt Go.RowKit
attribute [local go_sem ↓] isSome_setCell
attribute [local go_sem] setCell_setCell

section
variable (ah al bh bl ch cl th tl : Int) (h1 : W64 (ah, al)) (h2 : W64 (bh, bl)) (h3 : W64 (ch, cl)) (h4 : W64 (th, tl)) (w : World)
include h1 h2 h3 h4
set_option maxHeartbeats 2000000 in
theorem rmore_any : Calls Try.prog 27 #[.agg #[.int .u64 ah, .int .u64 al], .agg #[.int .u64 bh, .int .u64 bl], .agg #[.int .u64 ch, .int .u64 cl], .agg #[.int .u64 th, .int .u64 tl]] w fun e w' =>
    e = .returned (.bool (decide (V th tl < V ah al + V bh bl + V ch cl))) ∧ Ext w w' := by
  have C1 := fun w => radd_any ah al bh bl h1 h2 w
  obtain ⟨v1, v1'⟩ := V_bd h1
  obtain ⟨v2, v2'⟩ := V_bd h2
  obtain ⟨v3, v3'⟩ := V_bd h3
  obtain ⟨v4, v4'⟩ := V_bd h4
  simp only at v1 v1' v2 v2' v3 v3' v4 v4'
  generalize hA : V ah al + V bh bl = S1 at *
  obtain ⟨xh, hxh⟩ : ∃ x, S1 / 18446744073709551616 % 18446744073709551616 = x := ⟨_, rfl⟩
  obtain ⟨xl, hxl⟩ : ∃ x, S1 % 18446744073709551616 = x := ⟨_, rfl⟩
  have k1 : W64 (xh, xl) := by unfold W64; simp only; omega
  have kx : V xh xl = S1 % 340282366920938463463374607431768211456 := by unfold V; omega
  have C2 := fun w => radd_any xh xl ch cl k1 h3 w
  generalize hB : V xh xl + V ch cl = S2 at *
  obtain ⟨yh, hyh⟩ : ∃ x, S2 / 18446744073709551616 % 18446744073709551616 = x := ⟨_, rfl⟩
  obtain ⟨yl, hyl⟩ : ∃ x, S2 % 18446744073709551616 = x := ⟨_, rfl⟩
  have hS2 : 0 ≤ S2 := by omega
  have k2 : W64 (yh, yl) := by unfold W64; simp only; omega
  have ky : V yh yl = S2 % 340282366920938463463374607431768211456 := by unfold V; omega
  have C3 := fun w => rless_any th tl yh yl h4 k2 w
  by_cases o1 : 340282366920938463463374607431768211456 ≤ S1 <;> by_cases o2 : 340282366920938463463374607431768211456 ≤ S2 <;> by_cases o3 : V th tl < V yh yl
  all_goals
    simp only [hxh, hxl, o1, decide_true, decide_false] at C1
    simp only [hyh, hyl, o2, decide_true, decide_false] at C2
    simp only [o3, decide_true, decide_false] at C3
    first
    | (have q : decide (V th tl < S1 + V ch cl) = true := by simp only [decide_eq_true_eq]; omega)
    | (have q : decide (V th tl < S1 + V ch cl) = false := by simp only [decide_eq_false_iff_not]; omega)
    rw [q]
    clear q o1 o2 o3 v1 v1' v2 v2' v3 v3' v4 v4' hA hB hxh hxl hyh hyl kx ky hS2 k1 k2 h1 h2 h3 h4
    have D1 := Lib.hid C1
    have D2 := Lib.hid C2
    have D3 := Lib.hid C3
    clear C1 C2 C3
    go_enter Try.func27, Try.ntmps27
    go_wp2_with fail
    (go_at_call 29; refine ((D1.out _)).mono ?_; rintro e w1 ⟨rfl, hb1⟩; have hz_ := Ext.size hb1; (try simp only [World.size_alloc, World.size_setCell, World.size_drew] at hz_); have _lt0 := Ext.lt hb1 (k := w.heap.size+1+1) (by first | (simp; done) | (simp; omega) | omega); have _q0_0 := Ext.cell hb1 (w.heap.size+1+1) 0 (by first | (simp; done) | (simp; omega) | omega); (try simp [go_sem, *] at _q0_0); have _f0_0 := Ext.frozen hb1 (w.heap.size+1+1) 0 (by first | (simp; done) | (simp; omega) | omega); (try simp [go_sem, *] at _f0_0); have _q0_1 := Ext.cell hb1 (w.heap.size+1+1) 1 (by first | (simp; done) | (simp; omega) | omega); (try simp [go_sem, *] at _q0_1); have _f0_1 := Ext.frozen hb1 (w.heap.size+1+1) 1 (by first | (simp; done) | (simp; omega) | omega); (try simp [go_sem, *] at _f0_1); have _lt1 := Ext.lt hb1 (k := w.heap.size+1+1+1) (by first | (simp; done) | (simp; omega) | omega); have _q1_0 := Ext.cell hb1 (w.heap.size+1+1+1) 0 (by first | (simp; done) | (simp; omega) | omega); (try simp [go_sem, *] at _q1_0); have _f1_0 := Ext.frozen hb1 (w.heap.size+1+1+1) 0 (by first | (simp; done) | (simp; omega) | omega); (try simp [go_sem, *] at _f1_0); have _q1_1 := Ext.cell hb1 (w.heap.size+1+1+1) 1 (by first | (simp; done) | (simp; omega) | omega); (try simp [go_sem, *] at _q1_1); have _f1_1 := Ext.frozen hb1 (w.heap.size+1+1+1) 1 (by first | (simp; done) | (simp; omega) | omega); (try simp [go_sem, *] at _f1_1))
    go_wp2_with fail
    (go_at_call 29; refine ((D2.out _)).mono ?_; rintro e w2 ⟨rfl, hb2⟩; have hz_ := Ext.size hb2; (try simp only [World.size_alloc, World.size_setCell, World.size_drew] at hz_); have _lt0 := Ext.lt hb2 (k := w.heap.size+1+1+1) (by first | (simp; done) | (simp; omega) | omega); have _q0_0 := Ext.cell hb2 (w.heap.size+1+1+1) 0 (by first | (simp; done) | (simp; omega) | omega); (try simp [go_sem, *] at _q0_0); have _f0_0 := Ext.frozen hb2 (w.heap.size+1+1+1) 0 (by first | (simp; done) | (simp; omega) | omega); (try simp [go_sem, *] at _f0_0); have _q0_1 := Ext.cell hb2 (w.heap.size+1+1+1) 1 (by first | (simp; done) | (simp; omega) | omega); (try simp [go_sem, *] at _q0_1); have _f0_1 := Ext.frozen hb2 (w.heap.size+1+1+1) 1 (by first | (simp; done) | (simp; omega) | omega); (try simp [go_sem, *] at _f0_1))
    go_wp2_with (first
      | (go_at_call 30; refine ((D3.out _)).mono ?_; rintro e w3 ⟨rfl, hb3⟩; have hz_ := Ext.size hb3; (try simp only [World.size_alloc, World.size_setCell, World.size_drew] at hz_); ))
    go_ret
    exact ⟨rfl, by (repeat (first | exact Ext.refl _ | assumption | apply Ext.drew | apply Ext.alloc | (refine Ext.setCell ?_ ?_ _ <;> first | (simp; done) | (simp; omega) | omega | skip) | (refine Ext.trans ?_ (by assumption))))⟩
end
end Go.Proofs.Ytikfkmglcnchoaa
