/-
  Contracts of the document's Check and Other; of the statements AccountChecks and AccountOthers.
-/
import Derived.Test.YtikfkmglcnchoaaAccountW
import Derived.Test.YtikfkmglcnchoaaAccountU
import Derived.Test.YtikfkmglcnchoaaState
namespace Go.Proofs.Ytikfkmglcnchoaa
set_option linter.unusedSimpArgs false
set_option linter.unusedVariables false
set_option linter.unusedSectionVars false
open Go.ChangeShapes Go.WideShapes Go.ChangeAt Go.RowKit
attribute [local go_sem ↓] isSome_setCell eq128 neq128
attribute [local go_sem] setCell_setCell
theorem rzero_any (h l : Int) (w : World) : Calls Try.prog 24 #[.agg #[.int .u64 h, .int .u64 l]] w fun e w' => e = .returned (.bool (e128 h l 0 0)) ∧ Ext w w' := by
  go_enter Try.func24, Try.ntmps24
  go_wp2_with fail
  go_ret
  exact ⟨rfl, by (repeat (first | exact Ext.refl _ | assumption | apply Ext.drew | apply Ext.alloc | (refine Ext.setCell ?_ ?_ _ <;> first | (simp; done) | (simp; omega) | omega | skip) | (refine Ext.trans ?_ (by assumption))))⟩
theorem rmax_any (w : World) : Calls Try.prog 25 #[] w fun e w' => e = .returned (.agg #[.int .u64 18446744073709551615, .int .u64 18446744073709551615]) ∧ Ext w w' := by
  go_enter Try.func25, Try.ntmps25
  go_wp2_with fail
  exact bodyPost_ret (v := .agg #[.int .u64 18446744073709551615, .int .u64 18446744073709551615]) (by simp [results, Try.results25, go_sem]) rfl ⟨rfl, by (repeat (first | exact Ext.refl _ | assumption | apply Ext.drew | apply Ext.alloc | (refine Ext.setCell ?_ ?_ _ <;> first | (simp; done) | (simp; omega) | omega | skip) | (refine Ext.trans ?_ (by assumption))))⟩
def rchkBs (ih il dph dpl dsh dsl cph cpl csh csl uh ul u64 u32 rs lg cd fl tm : Int) : List Bool := [tm != 0, rs != 0, decide (7 < fl), e128 ih il 0 0, e128 ih il 18446744073709551615 18446744073709551615, bits .and .u16 fl 6 == 6, !e128 dph dpl 0 0, !e128 dsh dsl 0 0, !e128 cph cpl 0 0, !e128 csh csl 0 0, lg == 0, cd == 0]
def ints12 : List Value := [.int .i64 3, .int .i64 4, .int .i64 5, .int .i64 6, .int .i64 7, .int .i64 8, .int .i64 9, .int .i64 10, .int .i64 11, .int .i64 12, .int .i64 13, .int .i64 14]
set_option maxRecDepth 100000 in
set_option maxHeartbeats 4000000 in
theorem rcheck_any (ih il dph dpl dsh dsl cph cpl csh csl uh ul u64 u32 rs lg cd fl tm : Int) (W : World) :
    Calls Try.prog 10 #[.agg #[.int .u64 ih, .int .u64 il, .int .u64 dph, .int .u64 dpl, .int .u64 dsh, .int .u64 dsl, .int .u64 cph, .int .u64 cpl, .int .u64 csh, .int .u64 csl, .int .u64 uh, .int .u64 ul, .int .u64 u64, .int .u32 u32, .int .u32 rs, .int .u32 lg, .int .u16 cd, .int .u16 fl, .int .u64 tm]] W fun e w' => e = .returned (.int .i64 (firstV (rchkBs ih il dph dpl dsh dsl cph cpl csh csl uh ul u64 u32 rs lg cd fl tm) chkCs)) ∧ Ext W w' := by
  have hS := St.refl W
  go_enter Try.func10, Try.ntmps10
  repeat' (first | ((with_reducible refine g_box ?_); (refine s_box hS _ _ rfl _ rfl _ rfl ?_; clear hS; intro b0 w_ hS; (try simp only [Act.put, List.setIfInBounds_toArray, List.set_cons_zero, List.set_cons_succ]))) | go_values | go_skip | go_guarded | go_step | go_upon | go_back | dsimp only)
  refine reg_mk_tail 46 (fun i => if i = 11 then some (justV (.bool (e128 ih il 0 0))) else if i = 14 then some (justV (.agg #[.int .u64 18446744073709551615, .int .u64 18446744073709551615])) else if i = 24 then some (justV (.bool (e128 dph dpl 0 0))) else if i = 28 then some (justV (.bool (e128 dsh dsl 0 0))) else if i = 32 then some (justV (.bool (e128 cph cpl 0 0))) else if i = 36 then some (justV (.bool (e128 csh csl 0 0)))
      else if i = 44 then some (newSlice 12 (boolCells (rchkBs ih il dph dpl dsh dsl cph cpl csh csl uh ul u64 u32 rs lg cd fl tm))) else if i = 45 then some (newSlice 12 (cellsOf .i64 chkCs)) else none) hS (by kernel_rfl) (by kernel_rfl) ?_
  simp only [List.take_succ_cons, List.take_zero, List.drop_succ_cons, List.drop_zero]
  (repeat (first | (refine m_skip rfl ?_; (try simp only [Act.put, List.setIfInBounds_toArray, List.set_cons_zero, List.set_cons_succ])) | (first | (refine m_read rfl rfl _ (r_loadN 0 hS 24 2 _ rfl _ _ rfl _ rfl _ (by (try simp only [List.take_succ_cons, List.take_zero, List.drop_succ_cons, List.drop_zero, List.set_cons_zero, List.set_cons_succ, splice]) <;> exact rfl) rfl (by kernel_rfl) (by kernel_rfl)) ?_; (try simp only [Act.put, List.setIfInBounds_toArray, List.set_cons_zero, List.set_cons_succ])) | (refine m_read rfl rfl _ (r_load1 0 hS _ _ rfl _ _ rfl _ rfl _ rfl (by kernel_rfl)) ?_; (try simp only [Act.put, List.setIfInBounds_toArray, List.set_cons_zero, List.set_cons_succ])) | (refine m_make (justV (.bool (e128 ih il 0 0))) rfl rfl (r_call (fun w hw => rzero_any _ _ _) rfl rfl (by kernel_rfl)) (justV_ne _) ?_; rintro v_ Ln_ ⟨rfl, rfl⟩; (try simp only [Act.put, List.setIfInBounds_toArray, List.set_cons_zero, List.set_cons_succ]); simp only [List.nil_append]) | (refine m_make (justV (.agg #[.int .u64 18446744073709551615, .int .u64 18446744073709551615])) rfl rfl (r_call (fun w hw => rmax_any _) rfl rfl (by kernel_rfl)) (justV_ne _) ?_; rintro v_ Ln_ ⟨rfl, rfl⟩; (try simp only [Act.put, List.setIfInBounds_toArray, List.set_cons_zero, List.set_cons_succ]); simp only [List.nil_append]) | (refine m_make (justV (.bool (e128 dph dpl 0 0))) rfl rfl (r_call (fun w hw => rzero_any _ _ _) rfl rfl (by kernel_rfl)) (justV_ne _) ?_; rintro v_ Ln_ ⟨rfl, rfl⟩; (try simp only [Act.put, List.setIfInBounds_toArray, List.set_cons_zero, List.set_cons_succ]); simp only [List.nil_append]) | (refine m_make (justV (.bool (e128 dsh dsl 0 0))) rfl rfl (r_call (fun w hw => rzero_any _ _ _) rfl rfl (by kernel_rfl)) (justV_ne _) ?_; rintro v_ Ln_ ⟨rfl, rfl⟩; (try simp only [Act.put, List.setIfInBounds_toArray, List.set_cons_zero, List.set_cons_succ]); simp only [List.nil_append]) | (refine m_make (justV (.bool (e128 cph cpl 0 0))) rfl rfl (r_call (fun w hw => rzero_any _ _ _) rfl rfl (by kernel_rfl)) (justV_ne _) ?_; rintro v_ Ln_ ⟨rfl, rfl⟩; (try simp only [Act.put, List.setIfInBounds_toArray, List.set_cons_zero, List.set_cons_succ]); simp only [List.nil_append]) | (refine m_make (justV (.bool (e128 csh csl 0 0))) rfl rfl (r_call (fun w hw => rzero_any _ _ _) rfl rfl (by kernel_rfl)) (justV_ne _) ?_; rintro v_ Ln_ ⟨rfl, rfl⟩; (try simp only [Act.put, List.setIfInBounds_toArray, List.set_cons_zero, List.set_cons_succ]); simp only [List.nil_append]) | (refine m_make (newSlice 12 (boolCells (rchkBs ih il dph dpl dsh dsl cph cpl csh csl uh ul u64 u32 rs lg cd fl tm))) rfl rfl (makes_run _ 4 (fun w hw => by go_simp; exact rfl)) (newSlice_ne _ _) ?_; rintro v_ Ln_ ⟨b_, rfl, rfl⟩; (try simp only [Act.put, List.setIfInBounds_toArray, List.set_cons_zero, List.set_cons_succ]); simp only [List.cons_append, List.nil_append]) | (refine m_make (newSlice 12 (cellsOf .i64 chkCs)) rfl rfl (makes_run _ 3 (fun w hw => by go_simp; exact rfl)) (newSlice_ne _ _) ?_; rintro v_ Ln_ ⟨b_, rfl, rfl⟩; (try simp only [Act.put, List.setIfInBounds_toArray, List.set_cons_zero, List.set_cons_succ]); simp only [List.cons_append, List.nil_append])) | (refine m_read rfl rfl _ (by intro wq hq; go_simp; first | done | exact rfl | exact ⟨rfl, rfl⟩) ?_; (try simp only [Act.put, List.setIfInBounds_toArray, List.set_cons_zero, List.set_cons_succ]))))
  refine m_nil ?_
  clear hS
  intro w1 hS
  repeat' (first | go_values | go_skip | go_guarded | go_step | go_upon | go_back | dsimp only)
  (go_at_call 23; refine (rfirst_any _ _ 12 12 12 (rchkBs ih il dph dpl dsh dsl cph cpl csh csl uh ul u64 u32 rs lg cd fl tm) chkCs (by omega) rfl rfl _ (hS.sl 1 _ 12 1 _ rfl rfl) (hS.sl 0 _ 12 1 _ rfl rfl)).mono ?_; rintro e w_ ⟨rfl, hx_⟩; replace hS := hS.ext hx_)
  repeat' (first | go_values | go_skip | go_guarded | go_step | go_upon | go_back | dsimp only)
  go_ret
  exact ⟨rfl, hS.x⟩
end Go.Proofs.Ytikfkmglcnchoaa
