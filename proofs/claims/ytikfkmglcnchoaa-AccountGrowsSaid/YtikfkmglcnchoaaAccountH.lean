/-
  Contracts of the document's limits, and of the examples' account.
-/
import Derived.Test.YtikfkmglcnchoaaAccountC
import Derived.Deep.WholeRow
import Derived.Deep.MidRow
namespace Go.Proofs.Ytikfkmglcnchoaa
set_option linter.unusedSimpArgs false
set_option linter.unusedVariables false
set_option linter.unusedSectionVars false
open Go.ChangeShapes Go.WideShapes Go.ChangeAt Go.RowKit
/-! ### a whole account out of and into the block that was made last -/
section
variable (w : World) (c : Array Value) (hc : c.size = 19) (ih il dph dpl dsh dsl cph cpl csh csl uh ul u64 u32 rs lg cd fl tm : Int)
theorem range_new (l : List Value) (t : TypeId) : (w.alloc (.cells l.toArray t)).rangeAt w.heap.size 0 l := fun j v hv => by
  rw [World.cell?_alloc_at _ _ _ _ (by simp)]
  simpa using hv
theorem st28 (hc : c.size = 19) : (Instr.storeAt 28 (.pointer (some ⟨w.heap.size, 0, none⟩)) (.agg #[.int .u64 ih, .int .u64 il, .int .u64 dph, .int .u64 dpl, .int .u64 dsh, .int .u64 dsl, .int .u64 cph, .int .u64 cpl, .int .u64 csh, .int .u64 csl, .int .u64 uh, .int .u64 ul, .int .u64 u64, .int .u32 u32, .int .u32 rs, .int .u32 lg, .int .u16 cd, .int .u16 fl, .int .u64 tm])).run Try.prog (w.alloc (.cells c 28)) = .ok () (w.alloc (.cells #[.int .u64 ih, .int .u64 il, .int .u64 dph, .int .u64 dpl, .int .u64 dsh, .int .u64 dsl, .int .u64 cph, .int .u64 cpl, .int .u64 csh, .int .u64 csl, .int .u64 uh, .int .u64 ul, .int .u64 u64, .int .u32 u32, .int .u32 rs, .int .u32 lg, .int .u16 cd, .int .u16 fl, .int .u64 tm] 28)) :=
  run_storeAt_new w _ c #[.int .u64 ih, .int .u64 il, .int .u64 dph, .int .u64 dpl, .int .u64 dsh, .int .u64 dsl, .int .u64 cph, .int .u64 cpl, .int .u64 csh, .int .u64 csl, .int .u64 uh, .int .u64 ul, .int .u64 u64, .int .u32 u32, .int .u32 rs, .int .u32 lg, .int .u16 cd, .int .u16 fl, .int .u64 tm] (by kernel_rfl) (by simp [hc]) (by simp [Value.oneCell'])
theorem ld28 : (loadVar 28 ⟨w.heap.size, 0, none⟩).run Try.prog (w.alloc (.cells #[.int .u64 ih, .int .u64 il, .int .u64 dph, .int .u64 dpl, .int .u64 dsh, .int .u64 dsl, .int .u64 cph, .int .u64 cpl, .int .u64 csh, .int .u64 csl, .int .u64 uh, .int .u64 ul, .int .u64 u64, .int .u32 u32, .int .u32 rs, .int .u32 lg, .int .u16 cd, .int .u16 fl, .int .u64 tm] 28)) = .ok (.agg #[.int .u64 ih, .int .u64 il, .int .u64 dph, .int .u64 dpl, .int .u64 dsh, .int .u64 dsl, .int .u64 cph, .int .u64 cpl, .int .u64 csh, .int .u64 csl, .int .u64 uh, .int .u64 ul, .int .u64 u64, .int .u32 u32, .int .u32 rs, .int .u32 lg, .int .u16 cd, .int .u16 fl, .int .u64 tm]) (w.alloc (.cells #[.int .u64 ih, .int .u64 il, .int .u64 dph, .int .u64 dpl, .int .u64 dsh, .int .u64 dsl, .int .u64 cph, .int .u64 cpl, .int .u64 csh, .int .u64 csl, .int .u64 uh, .int .u64 ul, .int .u64 u64, .int .u32 u32, .int .u32 rs, .int .u32 lg, .int .u16 cd, .int .u16 fl, .int .u64 tm] 28)) :=
  run_loadVar_mid (P := Try.prog) (w.alloc (.cells #[.int .u64 ih, .int .u64 il, .int .u64 dph, .int .u64 dpl, .int .u64 dsh, .int .u64 dsl, .int .u64 cph, .int .u64 cpl, .int .u64 csh, .int .u64 csl, .int .u64 uh, .int .u64 ul, .int .u64 u64, .int .u32 u32, .int .u32 rs, .int .u32 lg, .int .u16 cd, .int .u16 fl, .int .u64 tm] 28)) w.heap.size 0 28 ((#[.int .u64 ih, .int .u64 il, .int .u64 dph, .int .u64 dpl, .int .u64 dsh, .int .u64 dsl, .int .u64 cph, .int .u64 cpl, .int .u64 csh, .int .u64 csl, .int .u64 uh, .int .u64 ul, .int .u64 u64, .int .u32 u32, .int .u32 rs, .int .u32 lg, .int .u16 cd, .int .u16 fl, .int .u64 tm] : Array Value).toList) _ (range_new w (#[.int .u64 ih, .int .u64 il, .int .u64 dph, .int .u64 dpl, .int .u64 dsh, .int .u64 dsl, .int .u64 cph, .int .u64 cpl, .int .u64 csh, .int .u64 csl, .int .u64 uh, .int .u64 ul, .int .u64 u64, .int .u32 u32, .int .u32 rs, .int .u32 lg, .int .u16 cd, .int .u16 fl, .int .u64 tm] : Array Value).toList 28) Try.underlying28 rfl (by kernel_rfl)
end
section
variable {op : Oper} {a : Act} {K : Act → World → Prop} {Q : Exit → Act → World → Prop}
theorem wp_st28 (x y : Operand) (ho : op.op = .store 28 x y) (w : World) (c : Array Value) (b : Nat) (hx : a.eval x = .pointer (some ⟨b, 0, none⟩)) (hb : w.heap.size = b) (cells : Array Value) (hy : a.eval y = .agg cells)
    (hc : c.size = 19) (hs : cells.size = 19) (h1 : cells.all (·.oneCell') = true) (h : K (a.put op.dst undef) (w.alloc (.cells cells 28))) : op.wp Try.prog a (w.alloc (.cells c 28)) K Q := by
  subst hb
  have hst := run_storeVar_new (P := Try.prog) w 28 c cells (by rw [hs]; kernel_rfl) (by rw [hc, hs]) h1
  unfold Oper.wp execOp
  simp only [ho, hx, hy, Instr.storeAt, Instr.sureAddr, Sem.run_bind, Sem.run_pure, Result.andThen_ok, hst]
  exact h
theorem wp_ld28b (x : Operand) (ho : op.op = .load 28 x) (w : World) (c : Array Value) (o : Obj) (b : Nat) (hx : a.eval x = .pointer (some ⟨b, 0, none⟩)) (hb : w.heap.size = b) (hc : c.size = 19)
    (h : K (a.put op.dst (.agg c)) ((w.alloc (.cells c 28)).alloc o)) : op.wp Try.prog a ((w.alloc (.cells c 28)).alloc o) K Q := by
  subst hb
  exact wp_load_mid 28 x ho w.heap.size 0 hx c.toList _ (fun j v hv => by
    rw [World.cell?_alloc_lt _ _ _ (by simp), World.cell?_alloc_at _ _ _ _ (by simp)]
    simpa using hv) Try.underlying28 rfl (by rw [Array.length_toList, hc]; kernel_rfl) (by simpa using h)
end
/-- A result that lies in the block that was made last. -/
theorem res28 {fn : Func} {p : Tmp} (h : fn.results = #[.cell p 28]) (tmps : Array Value) (w : World) (b : Nat) (c : Array Value) (hp : tmps.getD p undef = .pointer (some ⟨b, 0, none⟩)) (hb : w.heap.size = b) (hc : c.size = 19) :
    (results fn tmps).run Try.prog (w.alloc (.cells c 28)) = .ok (.agg c) (w.alloc (.cells c 28)) := by
  subst hb
  exact results_cell_row h tmps _ w.heap.size 28 c (0, 0) _ hp (heap_alloc_last w _) Try.underlying28 rfl (by rw [hc]; kernel_rfl)
attribute [local go_sem ↓] isSome_setCell
attribute [local go_sem] setCell_setCell

def oneV : Value := .agg #[.int .u64 0, .int .u64 1, .int .u64 0, .int .u64 0, .int .u64 0, .int .u64 0, .int .u64 0, .int .u64 0, .int .u64 0, .int .u64 0, .int .u64 0, .int .u64 0, .int .u64 0, .int .u32 0, .int .u32 0, .int .u32 1, .int .u16 1, .int .u16 0, .int .u64 0]
theorem one_any (w : World) : Calls Try.prog 12 #[] w fun e w' => e = .returned oneV ∧ Ext w w' := by
  go_enter Try.func12, Try.ntmps12
  repeat' (first | (refine wp_st28 _ _ rfl _ _ _ rfl (by simp; done) _ rfl rfl rfl (by simp [Value.oneCell']; done) ?_; (try simp only [Act.put])) | (exact bodyPost_ret (res28 rfl _ _ _ _ rfl (by simp; done) rfl) rfl ⟨rfl, by (repeat (first | exact Ext.refl _ | assumption | apply Ext.drew | apply Ext.alloc | (refine Ext.setCell ?_ ?_ _ <;> first | (simp; done) | (simp; omega) | omega | skip) | (refine Ext.trans ?_ (by assumption))))⟩) | go_values | go_skip | go_guarded | go_step | go_upon | go_back)
theorem made_any (ih il dph dpl dsh dsl cph cpl csh csl uh ul u64 u32 rs lg cd fl tm t : Int) (w : World) : Calls Try.prog 19 #[.agg #[.int .u64 ih, .int .u64 il, .int .u64 dph, .int .u64 dpl, .int .u64 dsh, .int .u64 dsl, .int .u64 cph, .int .u64 cpl, .int .u64 csh, .int .u64 csl, .int .u64 uh, .int .u64 ul, .int .u64 u64, .int .u32 u32, .int .u32 rs, .int .u32 lg, .int .u16 cd, .int .u16 fl, .int .u64 tm], .int .u64 t] w fun e w' => e = .returned (.agg #[.int .u64 ih, .int .u64 il, .int .u64 dph, .int .u64 dpl, .int .u64 dsh, .int .u64 dsl, .int .u64 cph, .int .u64 cpl, .int .u64 csh, .int .u64 csl, .int .u64 uh, .int .u64 ul, .int .u64 u64, .int .u32 u32, .int .u32 rs, .int .u32 lg, .int .u16 cd, .int .u16 fl, .int .u64 t]) ∧ Ext w w' := by
  go_enter Try.func19, Try.ntmps19
  repeat' (first | (refine wp_st28 _ _ rfl _ _ _ rfl (by simp; done) _ rfl rfl rfl (by simp [Value.oneCell']; done) ?_; (try simp only [Act.put])) | (refine wp_ld28b _ rfl _ _ _ _ rfl (by simp; done) rfl ?_; (try simp only [Act.put, List.setIfInBounds_toArray, List.set_cons_zero, List.set_cons_succ])) | (exact bodyPost_ret (res28 rfl _ _ _ _ rfl (by simp; done) rfl) rfl ⟨rfl, by (repeat (first | exact Ext.refl _ | assumption | apply Ext.drew | apply Ext.alloc | (refine Ext.setCell ?_ ?_ _ <;> first | (simp; done) | (simp; omega) | omega | skip) | (refine Ext.trans ?_ (by assumption))))⟩) | go_values | go_skip | go_guarded | go_step | go_upon | go_back)
theorem rmade_any (ih il dph dpl dsh dsl cph cpl csh csl uh ul u64 u32 rs lg cd fl tm t : Int) (w : World) : Calls Try.prog 20 #[.agg #[.int .u64 ih, .int .u64 il, .int .u64 dph, .int .u64 dpl, .int .u64 dsh, .int .u64 dsl, .int .u64 cph, .int .u64 cpl, .int .u64 csh, .int .u64 csl, .int .u64 uh, .int .u64 ul, .int .u64 u64, .int .u32 u32, .int .u32 rs, .int .u32 lg, .int .u16 cd, .int .u16 fl, .int .u64 tm], .int .u64 t] w fun e w' => e = .returned (.agg #[.int .u64 ih, .int .u64 il, .int .u64 dph, .int .u64 dpl, .int .u64 dsh, .int .u64 dsl, .int .u64 cph, .int .u64 cpl, .int .u64 csh, .int .u64 csl, .int .u64 uh, .int .u64 ul, .int .u64 u64, .int .u32 u32, .int .u32 rs, .int .u32 lg, .int .u16 cd, .int .u16 fl, .int .u64 t]) ∧ Ext w w' := by
  go_enter Try.func20, Try.ntmps20
  repeat' (first | (refine wp_st28 _ _ rfl _ _ _ rfl (by simp; done) _ rfl rfl rfl (by simp [Value.oneCell']; done) ?_; (try simp only [Act.put])) | (refine wp_ld28b _ rfl _ _ _ _ rfl (by simp; done) rfl ?_; (try simp only [Act.put, List.setIfInBounds_toArray, List.set_cons_zero, List.set_cons_succ])) | (exact bodyPost_ret (res28 rfl _ _ _ _ rfl (by simp; done) rfl) rfl ⟨rfl, by (repeat (first | exact Ext.refl _ | assumption | apply Ext.drew | apply Ext.alloc | (refine Ext.setCell ?_ ?_ _ <;> first | (simp; done) | (simp; omega) | omega | skip) | (refine Ext.trans ?_ (by assumption))))⟩) | go_values | go_skip | go_guarded | go_step | go_upon | go_back)
end Go.Proofs.Ytikfkmglcnchoaa
