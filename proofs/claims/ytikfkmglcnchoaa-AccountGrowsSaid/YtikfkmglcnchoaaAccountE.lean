/-
  Contracts of Debited and Credited of the program.
-/
import Derived.Test.YtikfkmglcnchoaaAccountB
import Derived.Test.YtikfkmglcnchoaaQTail
namespace Go.Proofs.Ytikfkmglcnchoaa
set_option linter.unusedSimpArgs false
set_option linter.unusedVariables false
set_option linter.unusedSectionVars false
open Go.ChangeShapes Go.WideShapes Go.ChangeAt Go.RowKit
attribute [local go_sem ↓] isSome_setCell
attribute [local go_sem] setCell_setCell

theorem sl_new' (w : World) (cs : Array Value) (t : TypeId) (n size : Nat) (h : cs.size = n * size) {b : Nat} (hb : w.heap.size = b) : Sl (w.alloc (.cells cs t)) (some ⟨b, 0, none⟩) n size cs.toList := by
  subst hb
  exact Sl.new _ _ _ n size h
theorem w3 {a b c : Int × Int} (ha : W64 a) (hb : W64 b) (hc : W64 c) : ∀ p ∈ [a, b, c], W64 p := by
  intro p hp
  simp only [List.mem_cons, List.not_mem_nil, or_false] at hp
  rcases hp with rfl | rfl | rfl
  · exact ha
  · exact hb
  · exact hc
theorem sum3 (a b c d e f : Int) : sumK [(a, b), (c, d), (e, f)] 3 = V a b + V c d + V e f := by simp [sumK]
set_option maxHeartbeats 1000000 in
theorem debited_any (ih il dph dpl dsh dsl cph cpl csh csl uh ul u64 u32 rs lg cd fl tm mh ml : Int) (w : World) (h1 : W64 (cph, cpl)) (h2 : W64 (csh, csl)) (h3 : W64 (dph, dpl)) (h4 : W64 (dsh, dsl)) (h5 : W64 (mh, ml)) (f2 : Bool) (e2 : (bits .and .u16 fl 2 != 0) = f2) :
    Calls Try.prog 14 #[.agg #[.int .u64 ih, .int .u64 il, .int .u64 dph, .int .u64 dpl, .int .u64 dsh, .int .u64 dsl, .int .u64 cph, .int .u64 cpl, .int .u64 csh, .int .u64 csl, .int .u64 uh, .int .u64 ul, .int .u64 u64, .int .u32 u32, .int .u32 rs, .int .u32 lg, .int .u16 cd, .int .u16 fl, .int .u64 tm], .agg #[.int .u64 mh, .int .u64 ml]] w fun e w' => e = .returned (.bool (f2 && decide (V csh csl < V dph dpl + V dsh dsl + V mh ml))) ∧ Ext w w' := by
  cases f2
  all_goals
    try simp only [Bool.false_and, Bool.true_and]
    go_enter Try.func14, Try.ntmps14
    go_wp2_with fail
  · go_ret
    exact ⟨rfl, by (repeat (first | exact Ext.refl _ | assumption | apply Ext.drew | apply Ext.alloc | (refine Ext.setCell ?_ ?_ _ <;> first | (simp; done) | (simp; omega) | omega | skip) | (refine Ext.trans ?_ (by assumption))))⟩
  · have hsl : Sl (((w.alloc (.cells #[.int .u64 ih, .int .u64 il, .int .u64 dph, .int .u64 dpl, .int .u64 dsh, .int .u64 dsl, .int .u64 cph, .int .u64 cpl, .int .u64 csh, .int .u64 csl, .int .u64 uh, .int .u64 ul, .int .u64 u64, .int .u32 u32, .int .u32 rs, .int .u32 lg, .int .u16 cd, .int .u16 fl, .int .u64 tm] 28)).alloc (.cells #[.int .u64 mh, .int .u64 ml] 24)).alloc (.cells #[.int .u64 dph, .int .u64 dpl, .int .u64 dsh, .int .u64 dsl, .int .u64 mh, .int .u64 ml] 24)) (some ⟨w.heap.size + 1 + 1, 0, none⟩) 3 2 (pairs [(dph, dpl), (dsh, dsl), (mh, ml)]) := sl_new' _ _ _ 3 2 rfl (by simp)
    have habove := above_any _ 3 3 csh csl _ (by omega) rfl (w3 h3 h4 h5) h2 _ hsl
    refine habove.mono ?_
    rintro e w4 ⟨rfl, hb4⟩
    rw [sum3]
    go_wp2_with fail
    go_ret
    exact ⟨rfl, by (repeat (first | exact Ext.refl _ | assumption | apply Ext.drew | apply Ext.alloc | (refine Ext.setCell ?_ ?_ _ <;> first | (simp; done) | (simp; omega) | omega | skip) | (refine Ext.trans ?_ (by assumption))))⟩
set_option maxHeartbeats 1000000 in
theorem credited_any (ih il dph dpl dsh dsl cph cpl csh csl uh ul u64 u32 rs lg cd fl tm mh ml : Int) (w : World) (h1 : W64 (cph, cpl)) (h2 : W64 (csh, csl)) (h3 : W64 (dph, dpl)) (h4 : W64 (dsh, dsl)) (h5 : W64 (mh, ml)) (f2 : Bool) (e2 : (bits .and .u16 fl 4 != 0) = f2) :
    Calls Try.prog 16 #[.agg #[.int .u64 ih, .int .u64 il, .int .u64 dph, .int .u64 dpl, .int .u64 dsh, .int .u64 dsl, .int .u64 cph, .int .u64 cpl, .int .u64 csh, .int .u64 csl, .int .u64 uh, .int .u64 ul, .int .u64 u64, .int .u32 u32, .int .u32 rs, .int .u32 lg, .int .u16 cd, .int .u16 fl, .int .u64 tm], .agg #[.int .u64 mh, .int .u64 ml]] w fun e w' => e = .returned (.bool (f2 && decide (V dsh dsl < V cph cpl + V csh csl + V mh ml))) ∧ Ext w w' := by
  cases f2
  all_goals
    try simp only [Bool.false_and, Bool.true_and]
    go_enter Try.func16, Try.ntmps16
    go_wp2_with fail
  · go_ret
    exact ⟨rfl, by (repeat (first | exact Ext.refl _ | assumption | apply Ext.drew | apply Ext.alloc | (refine Ext.setCell ?_ ?_ _ <;> first | (simp; done) | (simp; omega) | omega | skip) | (refine Ext.trans ?_ (by assumption))))⟩
  · have hsl : Sl (((w.alloc (.cells #[.int .u64 ih, .int .u64 il, .int .u64 dph, .int .u64 dpl, .int .u64 dsh, .int .u64 dsl, .int .u64 cph, .int .u64 cpl, .int .u64 csh, .int .u64 csl, .int .u64 uh, .int .u64 ul, .int .u64 u64, .int .u32 u32, .int .u32 rs, .int .u32 lg, .int .u16 cd, .int .u16 fl, .int .u64 tm] 28)).alloc (.cells #[.int .u64 mh, .int .u64 ml] 24)).alloc (.cells #[.int .u64 cph, .int .u64 cpl, .int .u64 csh, .int .u64 csl, .int .u64 mh, .int .u64 ml] 24)) (some ⟨w.heap.size + 1 + 1, 0, none⟩) 3 2 (pairs [(cph, cpl), (csh, csl), (mh, ml)]) := sl_new' _ _ _ 3 2 rfl (by simp)
    have habove := above_any _ 3 3 dsh dsl _ (by omega) rfl (w3 h1 h2 h5) h4 _ hsl
    refine habove.mono ?_
    rintro e w4 ⟨rfl, hb4⟩
    rw [sum3]
    go_wp2_with fail
    go_ret
    exact ⟨rfl, by (repeat (first | exact Ext.refl _ | assumption | apply Ext.drew | apply Ext.alloc | (refine Ext.setCell ?_ ?_ _ <;> first | (simp; done) | (simp; omega) | omega | skip) | (refine Ext.trans ?_ (by assumption))))⟩

/-! ### the document's -/
section
variable (ah al bh bl : Int) (h1 : W64 (ah, al)) (h2 : W64 (bh, bl)) (w : World)
include h1 h2
theorem rless_any : Calls Try.prog 30 #[.agg #[.int .u64 ah, .int .u64 al], .agg #[.int .u64 bh, .int .u64 bl]] w fun e w' => e = .returned (.bool (decide (V ah al < V bh bl))) ∧ Ext w w' := by
  obtain ⟨a1, a2, a3, a4⟩ := h1
  obtain ⟨b1, b2, b3, b4⟩ := h2
  simp only at a1 a2 a3 a4 b1 b2 b3 b4
  by_cases hh : ah < bh
  · have e : decide (V ah al < V bh bl) = true := by simp only [decide_eq_true_eq]; unfold V; omega
    rw [e]
    clear e
    go_enter Try.func30, Try.ntmps30
    go_wp2_with fail
    go_ret
    exact ⟨rfl, by (repeat (first | exact Ext.refl _ | assumption | apply Ext.drew | apply Ext.alloc | (refine Ext.setCell ?_ ?_ _ <;> first | (simp; done) | (simp; omega) | omega | skip) | (refine Ext.trans ?_ (by assumption))))⟩
  by_cases hq : ah = bh
  · by_cases hl : al < bl
    all_goals
      first
      | (have e : decide (V ah al < V bh bl) = true := by simp only [decide_eq_true_eq]; unfold V; omega)
      | (have e : decide (V ah al < V bh bl) = false := by simp only [decide_eq_false_iff_not]; unfold V; omega)
      rw [e]
      clear e
      subst hq
      go_enter Try.func30, Try.ntmps30
      go_wp2_with fail
      go_ret
      exact ⟨rfl, by (repeat (first | exact Ext.refl _ | assumption | apply Ext.drew | apply Ext.alloc | (refine Ext.setCell ?_ ?_ _ <;> first | (simp; done) | (simp; omega) | omega | skip) | (refine Ext.trans ?_ (by assumption))))⟩
  · have e : decide (V ah al < V bh bl) = false := by simp only [decide_eq_false_iff_not]; unfold V; omega
    rw [e]
    clear e
    go_enter Try.func30, Try.ntmps30
    go_wp2_with fail
    go_ret
    exact ⟨rfl, by (repeat (first | exact Ext.refl _ | assumption | apply Ext.drew | apply Ext.alloc | (refine Ext.setCell ?_ ?_ _ <;> first | (simp; done) | (simp; omega) | omega | skip) | (refine Ext.trans ?_ (by assumption))))⟩
set_option maxHeartbeats 2000000 in
theorem radd_any : Calls Try.prog 29 #[.agg #[.int .u64 ah, .int .u64 al], .agg #[.int .u64 bh, .int .u64 bl]] w fun e w' =>
    e = .returned (.tuple #[.agg #[.int .u64 ((V ah al + V bh bl) / 18446744073709551616 % 18446744073709551616), .int .u64 ((V ah al + V bh bl) % 18446744073709551616)], .bool (decide (340282366920938463463374607431768211456 ≤ V ah al + V bh bl))]) ∧ Ext w w' := by
  obtain ⟨a1, a2, a3, a4⟩ := h1
  obtain ⟨b1, b2, b3, b4⟩ := h2
  simp only at a1 a2 a3 a4 b1 b2 b3 b4
  obtain ⟨L, hL⟩ : ∃ L, IntKind.u64.wrap (al + bl) = L := ⟨_, rfl⟩
  obtain ⟨H, hH⟩ : ∃ H, IntKind.u64.wrap (ah + bh) = H := ⟨_, rfl⟩
  obtain ⟨Z, hZ⟩ : ∃ Z, IntKind.u64.wrap (H + 1) = Z := ⟨_, rfl⟩
  have dL : L = (al + bl) % 18446744073709551616 := by rw [← hL]; rfl
  have dH : H = (ah + bh) % 18446744073709551616 := by rw [← hH]; rfl
  have dZ : Z = (H + 1) % 18446744073709551616 := by rw [← hZ]; rfl
  have q2 : (V ah al + V bh bl) % 18446744073709551616 = L := by unfold V; omega
  rw [q2]
  clear q2
  obtain ⟨g1, g2⟩ : 0 ≤ L ∧ L ≤ 18446744073709551615 := by omega
  obtain ⟨g3, g4⟩ : 0 ≤ H ∧ H ≤ 18446744073709551615 := by omega
  obtain ⟨g5, g6⟩ : 0 ≤ Z ∧ Z ≤ 18446744073709551615 := by omega
  by_cases hc : L < al <;> by_cases ho : H < ah <;> by_cases hz : Z = 0 <;> try (exfalso; omega)
  all_goals
    first
    | (have q1 : (V ah al + V bh bl) / 18446744073709551616 % 18446744073709551616 = H := by unfold V; omega)
    | (have q1 : (V ah al + V bh bl) / 18446744073709551616 % 18446744073709551616 = Z := by unfold V; omega)
    first
    | (have q3 : decide (340282366920938463463374607431768211456 ≤ V ah al + V bh bl) = true := by simp only [decide_eq_true_eq]; unfold V; omega)
    | (have q3 : decide (340282366920938463463374607431768211456 ≤ V ah al + V bh bl) = false := by simp only [decide_eq_false_iff_not]; unfold V; omega)
    rw [q1, q3]
    clear q1 q3 dL dH dZ
    go_enter Try.func29, Try.ntmps29
    go_wp2_with fail
    first
    | exact bodyPost_ret (v := .tuple #[.agg #[.int .u64 Z, .int .u64 L], .bool true]) (by simp [results, Try.results29, go_sem, *]) rfl ⟨rfl, by (repeat (first | exact Ext.refl _ | assumption | apply Ext.drew | apply Ext.alloc | (refine Ext.setCell ?_ ?_ _ <;> first | (simp; done) | (simp; omega) | omega | skip) | (refine Ext.trans ?_ (by assumption))))⟩
    | exact bodyPost_ret (v := .tuple #[.agg #[.int .u64 Z, .int .u64 L], .bool false]) (by simp [results, Try.results29, go_sem, *]) rfl ⟨rfl, by (repeat (first | exact Ext.refl _ | assumption | apply Ext.drew | apply Ext.alloc | (refine Ext.setCell ?_ ?_ _ <;> first | (simp; done) | (simp; omega) | omega | skip) | (refine Ext.trans ?_ (by assumption))))⟩
    | exact bodyPost_ret (v := .tuple #[.agg #[.int .u64 0, .int .u64 L], .bool true]) (by simp [results, Try.results29, go_sem, *]) rfl ⟨rfl, by (repeat (first | exact Ext.refl _ | assumption | apply Ext.drew | apply Ext.alloc | (refine Ext.setCell ?_ ?_ _ <;> first | (simp; done) | (simp; omega) | omega | skip) | (refine Ext.trans ?_ (by assumption))))⟩
    | exact bodyPost_ret (v := .tuple #[.agg #[.int .u64 H, .int .u64 L], .bool true]) (by simp [results, Try.results29, go_sem, *]) rfl ⟨rfl, by (repeat (first | exact Ext.refl _ | assumption | apply Ext.drew | apply Ext.alloc | (refine Ext.setCell ?_ ?_ _ <;> first | (simp; done) | (simp; omega) | omega | skip) | (refine Ext.trans ?_ (by assumption))))⟩
    | exact bodyPost_ret (v := .tuple #[.agg #[.int .u64 H, .int .u64 L], .bool false]) (by simp [results, Try.results29, go_sem, *]) rfl ⟨rfl, by (repeat (first | exact Ext.refl _ | assumption | apply Ext.drew | apply Ext.alloc | (refine Ext.setCell ?_ ?_ _ <;> first | (simp; done) | (simp; omega) | omega | skip) | (refine Ext.trans ?_ (by assumption))))⟩
end
end Go.Proofs.Ytikfkmglcnchoaa
