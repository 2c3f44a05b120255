/-
  The statement AccountChecks's call.
-/
import Derived.Test.YtikfkmglcnchoaaAccountT
namespace Go.Proofs.Ytikfkmglcnchoaa
set_option linter.unusedSimpArgs false
set_option linter.unusedVariables false
set_option linter.unusedSectionVars false
open Go.ChangeShapes Go.WideShapes Go.ChangeAt Go.RowKit
attribute [local go_sem ↓] isSome_setCell
attribute [local go_sem] setCell_setCell
theorem rchk_eq (ih il dph dpl dsh dsl cph cpl csh csl uh ul u64 u32 rs lg cd fl tm : Int) (h1 : 0 ≤ fl) (h2 : fl ≤ 65535) : rchkBs ih il dph dpl dsh dsl cph cpl csh csl uh ul u64 u32 rs lg cd fl tm = chkBs ih il dph dpl dsh dsl cph cpl csh csl uh ul u64 u32 rs lg cd fl tm ((bits .and .u16 fl 2 != 0) && (bits .and .u16 fl 4 != 0)) := by
  unfold rchkBs chkBs
  rw [both6, andNot7 fl h1 h2]
set_option maxRecDepth 100000 in
set_option maxHeartbeats 4000000 in
theorem checks_any (ih il dph dpl dsh dsl cph cpl csh csl uh ul u64 u32 rs lg cd fl tm : Int) (W : World) (h1 : 0 ≤ fl) (h2 : fl ≤ 65535) :
    Calls Try.prog 3 #[.agg #[.int .u64 ih, .int .u64 il, .int .u64 dph, .int .u64 dpl, .int .u64 dsh, .int .u64 dsl, .int .u64 cph, .int .u64 cpl, .int .u64 csh, .int .u64 csl, .int .u64 uh, .int .u64 ul, .int .u64 u64, .int .u32 u32, .int .u32 rs, .int .u32 lg, .int .u16 cd, .int .u16 fl, .int .u64 tm]] W fun e w' => e = .returned (.bool true) ∧ Ext W w' := by
  have D1 := fun w => check_any ih il dph dpl dsh dsl cph cpl csh csl uh ul u64 u32 rs lg cd fl tm w _ _ rfl rfl
  have D2 := fun w => rcheck_any ih il dph dpl dsh dsl cph cpl csh csl uh ul u64 u32 rs lg cd fl tm w
  rw [rchk_eq ih il dph dpl dsh dsl cph cpl csh csl uh ul u64 u32 rs lg cd fl tm h1 h2] at D2
  generalize firstV (chkBs ih il dph dpl dsh dsl cph cpl csh csl uh ul u64 u32 rs lg cd fl tm ((bits .and .u16 fl 2 != 0) && (bits .and .u16 fl 4 != 0))) chkCs = X at D1 D2
  clear h1 h2
  have hS := St.refl W
  go_enter Try.func3, Try.ntmps3
  repeat' (first | ((with_reducible refine g_box ?_); (refine s_box hS _ _ rfl _ rfl _ rfl ?_; clear hS; intro b_ w_ hS; (try simp only [Act.put, List.setIfInBounds_toArray, List.set_cons_zero, List.set_cons_succ]))) | go_values | go_skip | go_guarded | go_step | go_upon | go_back | dsimp only)
  refine reg_mk (fun i => if i = 1 then some (justV (.int .i64 X)) else if i = 3 then some (justV (.int .i64 X)) else if i = 6 then some (justV (.bool true)) else none) hS (by kernel_rfl) (by kernel_rfl) ?_
  (repeat (first | (refine m_skip rfl ?_; (try simp only [Act.put, List.setIfInBounds_toArray, List.set_cons_zero, List.set_cons_succ])) | (first | (refine m_read rfl rfl _ (r_loadN 0 hS 28 19 _ rfl _ _ rfl _ rfl _ (by (try simp only [List.take_succ_cons, List.take_zero, List.drop_succ_cons, List.drop_zero, List.set_cons_zero, List.set_cons_succ, splice]) <;> exact rfl) rfl (by kernel_rfl) (by kernel_rfl)) ?_; (try simp only [Act.put, List.setIfInBounds_toArray, List.set_cons_zero, List.set_cons_succ])) | (refine m_make (justV (.int .i64 X)) rfl rfl (r_call (fun w hw => D1 _) rfl rfl (by kernel_rfl)) (justV_ne _) ?_; rintro v_ Ln_ ⟨rfl, rfl⟩; (try simp only [Act.put, List.setIfInBounds_toArray, List.set_cons_zero, List.set_cons_succ]); simp only [List.nil_append]) | (refine m_make (justV (.int .i64 X)) rfl rfl (r_call (fun w hw => D2 _) rfl rfl (by kernel_rfl)) (justV_ne _) ?_; rintro v_ Ln_ ⟨rfl, rfl⟩; (try simp only [Act.put, List.setIfInBounds_toArray, List.set_cons_zero, List.set_cons_succ]); simp only [List.nil_append]) | (refine m_make (justV (.bool true)) rfl rfl (r_call (fun w hw => awake_any _) rfl rfl (by kernel_rfl)) (justV_ne _) ?_; rintro v_ Ln_ ⟨rfl, rfl⟩; (try simp only [Act.put, List.setIfInBounds_toArray, List.set_cons_zero, List.set_cons_succ]); simp only [List.nil_append])) | (refine m_read rfl rfl _ (by intro wq hq; go_simp; first | done | exact rfl | exact ⟨rfl, rfl⟩) ?_; (try simp only [Act.put, List.setIfInBounds_toArray, List.set_cons_zero, List.set_cons_succ]))))
  refine m_nil ?_
  clear hS
  intro w1 hS
  repeat' (first | go_values | go_skip | go_guarded | go_step | go_upon | go_back | dsimp only)
  go_ret
  exact ⟨rfl, hS.x⟩
end Go.Proofs.Ytikfkmglcnchoaa
