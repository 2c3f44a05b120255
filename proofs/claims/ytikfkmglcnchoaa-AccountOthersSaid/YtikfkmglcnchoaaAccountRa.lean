/-
  Contract of the document's Other.
-/
import Derived.Test.YtikfkmglcnchoaaAccountT
namespace Go.Proofs.Ytikfkmglcnchoaa
set_option linter.unusedSimpArgs false
set_option linter.unusedVariables false
set_option linter.unusedSectionVars false
open Go.ChangeShapes Go.WideShapes Go.ChangeAt Go.RowKit
attribute [local go_sem ↓] isSome_setCell eq128 neq128
attribute [local go_sem] setCell_setCell
set_option maxRecDepth 100000 in
set_option maxHeartbeats 4000000 in
theorem rother_any (ih il dph dpl dsh dsl cph cpl csh csl uh ul u64 u32 rs lg cd fl tm ih' il' dph' dpl' dsh' dsl' cph' cpl' csh' csl' uh' ul' u64' u32' rs' lg' cd' fl' tm' : Int) (W : World) :
    Calls Try.prog 18 #[.agg #[.int .u64 ih, .int .u64 il, .int .u64 dph, .int .u64 dpl, .int .u64 dsh, .int .u64 dsl, .int .u64 cph, .int .u64 cpl, .int .u64 csh, .int .u64 csl, .int .u64 uh, .int .u64 ul, .int .u64 u64, .int .u32 u32, .int .u32 rs, .int .u32 lg, .int .u16 cd, .int .u16 fl, .int .u64 tm], .agg #[.int .u64 ih', .int .u64 il', .int .u64 dph', .int .u64 dpl', .int .u64 dsh', .int .u64 dsl', .int .u64 cph', .int .u64 cpl', .int .u64 csh', .int .u64 csl', .int .u64 uh', .int .u64 ul', .int .u64 u64', .int .u32 u32', .int .u32 rs', .int .u32 lg', .int .u16 cd', .int .u16 fl', .int .u64 tm']] W fun e w' => e = .returned (.int .i64 (firstV (othBs ih il dph dpl dsh dsl cph cpl csh csl uh ul u64 u32 rs lg cd fl tm ih' il' dph' dpl' dsh' dsl' cph' cpl' csh' csl' uh' ul' u64' u32' rs' lg' cd' fl' tm') othCs)) ∧ Ext W w' := by
  have hS := St.refl W
  go_enter Try.func18, Try.ntmps18
  repeat' (first | ((with_reducible refine g_box ?_); (refine s_box hS _ _ rfl _ rfl _ rfl ?_; clear hS; intro b_ w_ hS; (try simp only [Act.put, List.setIfInBounds_toArray, List.set_cons_zero, List.set_cons_succ]))) | go_values | go_skip | go_guarded | go_step | go_upon | go_back | dsimp only)
  refine reg_mk_tail 32 (fun i => if i = 30 then some (newSlice 7 (boolCells (othBs ih il dph dpl dsh dsl cph cpl csh csl uh ul u64 u32 rs lg cd fl tm ih' il' dph' dpl' dsh' dsl' cph' cpl' csh' csl' uh' ul' u64' u32' rs' lg' cd' fl' tm'))) else if i = 31 then some (newSlice 7 (cellsOf .i64 othCs)) else none) hS (by kernel_rfl) (by kernel_rfl) ?_
  simp only [List.take_succ_cons, List.take_zero, List.drop_succ_cons, List.drop_zero]
  (repeat (first | (refine m_skip rfl ?_; (try simp only [Act.put, List.setIfInBounds_toArray, List.set_cons_zero, List.set_cons_succ])) | (first | (refine m_read rfl rfl _ (r_loadN 0 hS 24 2 _ rfl _ _ rfl _ rfl _ (by (try simp only [List.take_succ_cons, List.take_zero, List.drop_succ_cons, List.drop_zero, List.set_cons_zero, List.set_cons_succ, splice]) <;> exact rfl) rfl (by kernel_rfl) (by kernel_rfl)) ?_; (try simp only [Act.put, List.setIfInBounds_toArray, List.set_cons_zero, List.set_cons_succ])) | (refine m_read rfl rfl _ (r_loadN 1 hS 24 2 _ rfl _ _ rfl _ rfl _ (by (try simp only [List.take_succ_cons, List.take_zero, List.drop_succ_cons, List.drop_zero, List.set_cons_zero, List.set_cons_succ, splice]) <;> exact rfl) rfl (by kernel_rfl) (by kernel_rfl)) ?_; (try simp only [Act.put, List.setIfInBounds_toArray, List.set_cons_zero, List.set_cons_succ])) | (refine m_read rfl rfl _ (r_load1 0 hS _ _ rfl _ _ rfl _ rfl _ rfl (by kernel_rfl)) ?_; (try simp only [Act.put, List.setIfInBounds_toArray, List.set_cons_zero, List.set_cons_succ])) | (refine m_read rfl rfl _ (r_load1 1 hS _ _ rfl _ _ rfl _ rfl _ rfl (by kernel_rfl)) ?_; (try simp only [Act.put, List.setIfInBounds_toArray, List.set_cons_zero, List.set_cons_succ])) | (refine m_make (newSlice 7 (boolCells (othBs ih il dph dpl dsh dsl cph cpl csh csl uh ul u64 u32 rs lg cd fl tm ih' il' dph' dpl' dsh' dsl' cph' cpl' csh' csl' uh' ul' u64' u32' rs' lg' cd' fl' tm'))) rfl rfl (makes_run _ 4 (fun w hw => by go_simp; exact rfl)) (newSlice_ne _ _) ?_; rintro v_ Ln_ ⟨b_, rfl, rfl⟩; (try simp only [Act.put, List.setIfInBounds_toArray, List.set_cons_zero, List.set_cons_succ]); simp only [List.cons_append, List.nil_append]) | (refine m_make (newSlice 7 (cellsOf .i64 othCs)) rfl rfl (makes_run _ 3 (fun w hw => by go_simp; exact rfl)) (newSlice_ne _ _) ?_; rintro v_ Ln_ ⟨b_, rfl, rfl⟩; (try simp only [Act.put, List.setIfInBounds_toArray, List.set_cons_zero, List.set_cons_succ]); simp only [List.cons_append, List.nil_append])) | (refine m_read rfl rfl _ (by intro wq hq; go_simp; first | done | exact rfl | exact ⟨rfl, rfl⟩) ?_; (try simp only [Act.put, List.setIfInBounds_toArray, List.set_cons_zero, List.set_cons_succ]))))
  refine m_nil ?_
  clear hS
  intro w1 hS
  repeat' (first | go_values | go_skip | go_guarded | go_step | go_upon | go_back | dsimp only)
  (go_at_call 23; refine (rfirst_any _ _ 7 7 7 (othBs ih il dph dpl dsh dsl cph cpl csh csl uh ul u64 u32 rs lg cd fl tm ih' il' dph' dpl' dsh' dsl' cph' cpl' csh' csl' uh' ul' u64' u32' rs' lg' cd' fl' tm') othCs (by omega) rfl rfl _ (hS.sl 1 _ 7 1 _ rfl rfl) (hS.sl 0 _ 7 1 _ rfl rfl)).mono ?_; rintro e w_ ⟨rfl, hx_⟩; replace hS := hS.ext hx_)
  repeat' (first | go_values | go_skip | go_guarded | go_step | go_upon | go_back | dsimp only)
  go_ret
  exact ⟨rfl, hS.x⟩
end Go.Proofs.Ytikfkmglcnchoaa
