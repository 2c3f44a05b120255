/-
  Contracts of the document's limits, and of the examples' account.
-/
import Derived.Test.YtikfkmglcnchoaaAccountF
namespace Go.Proofs.Ytikfkmglcnchoaa
set_option linter.unusedSimpArgs false
set_option linter.unusedVariables false
set_option linter.unusedSectionVars false
open Go.ChangeShapes Go.WideShapes Go.ChangeAt Go.RowKit
attribute [local go_sem ↓] isSome_setCell
attribute [local go_sem] setCell_setCell

set_option maxHeartbeats 1000000 in
theorem rdebited_any (ih il dph dpl dsh dsl cph cpl csh csl uh ul u64 u32 rs lg cd fl tm mh ml : Int) (w : World) (h1 : W64 (cph, cpl)) (h2 : W64 (csh, csl)) (h3 : W64 (dph, dpl)) (h4 : W64 (dsh, dsl)) (h5 : W64 (mh, ml)) (f2 : Bool) (e2 : (bits .and .u16 fl 2 != 0) = f2) :
    Calls Try.prog 15 #[.agg #[.int .u64 ih, .int .u64 il, .int .u64 dph, .int .u64 dpl, .int .u64 dsh, .int .u64 dsl, .int .u64 cph, .int .u64 cpl, .int .u64 csh, .int .u64 csl, .int .u64 uh, .int .u64 ul, .int .u64 u64, .int .u32 u32, .int .u32 rs, .int .u32 lg, .int .u16 cd, .int .u16 fl, .int .u64 tm], .agg #[.int .u64 mh, .int .u64 ml]] w fun e w' => e = .returned (.bool (f2 && decide (V csh csl < V dph dpl + V dsh dsl + V mh ml))) ∧ Ext w w' := by
  have C := fun w => rmore_any dph dpl dsh dsl mh ml csh csl h3 h4 h5 h2 w
  have D := Lib.hid C
  clear C h1 h2 h3 h4 h5
  cases f2
  all_goals
    try simp only [Bool.false_and, Bool.true_and]
    go_enter Try.func15, Try.ntmps15
    go_wp2_with (first
      | (go_at_call 27; refine ((D.out _)).mono ?_; rintro e w1 ⟨rfl, hb1⟩; have hz_ := Ext.size hb1; (try simp only [World.size_alloc, World.size_setCell, World.size_drew] at hz_); ))
    go_ret
    exact ⟨rfl, by (repeat (first | exact Ext.refl _ | assumption | apply Ext.drew | apply Ext.alloc | (refine Ext.setCell ?_ ?_ _ <;> first | (simp; done) | (simp; omega) | omega | skip) | (refine Ext.trans ?_ (by assumption))))⟩
set_option maxHeartbeats 1000000 in
theorem rcredited_any (ih il dph dpl dsh dsl cph cpl csh csl uh ul u64 u32 rs lg cd fl tm mh ml : Int) (w : World) (h1 : W64 (cph, cpl)) (h2 : W64 (csh, csl)) (h3 : W64 (dph, dpl)) (h4 : W64 (dsh, dsl)) (h5 : W64 (mh, ml)) (f2 : Bool) (e2 : (bits .and .u16 fl 4 != 0) = f2) :
    Calls Try.prog 17 #[.agg #[.int .u64 ih, .int .u64 il, .int .u64 dph, .int .u64 dpl, .int .u64 dsh, .int .u64 dsl, .int .u64 cph, .int .u64 cpl, .int .u64 csh, .int .u64 csl, .int .u64 uh, .int .u64 ul, .int .u64 u64, .int .u32 u32, .int .u32 rs, .int .u32 lg, .int .u16 cd, .int .u16 fl, .int .u64 tm], .agg #[.int .u64 mh, .int .u64 ml]] w fun e w' => e = .returned (.bool (f2 && decide (V dsh dsl < V cph cpl + V csh csl + V mh ml))) ∧ Ext w w' := by
  have C := fun w => rmore_any cph cpl csh csl mh ml dsh dsl h1 h2 h5 h4 w
  have D := Lib.hid C
  clear C h1 h2 h3 h4 h5
  cases f2
  all_goals
    try simp only [Bool.false_and, Bool.true_and]
    go_enter Try.func17, Try.ntmps17
    go_wp2_with (first
      | (go_at_call 27; refine ((D.out _)).mono ?_; rintro e w1 ⟨rfl, hb1⟩; have hz_ := Ext.size hb1; (try simp only [World.size_alloc, World.size_setCell, World.size_drew] at hz_); ))
    go_ret
    exact ⟨rfl, by (repeat (first | exact Ext.refl _ | assumption | apply Ext.drew | apply Ext.alloc | (refine Ext.setCell ?_ ?_ _ <;> first | (simp; done) | (simp; omega) | omega | skip) | (refine Ext.trans ?_ (by assumption))))⟩
end Go.Proofs.Ytikfkmglcnchoaa
