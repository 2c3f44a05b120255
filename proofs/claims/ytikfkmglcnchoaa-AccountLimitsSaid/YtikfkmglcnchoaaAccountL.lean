/-
  Contracts of the document's limits, and of the examples' account.
-/
import Derived.Test.YtikfkmglcnchoaaAccountW
namespace Go.Proofs.Ytikfkmglcnchoaa
set_option linter.unusedSimpArgs false
set_option linter.unusedVariables false
set_option linter.unusedSectionVars false
open Go.ChangeShapes Go.WideShapes Go.ChangeAt Go.RowKit
attribute [local go_sem ↓] isSome_setCell
attribute [local go_sem] setCell_setCell
theorem q_ld28 {a : Act} {o : Oper} (x : Operand) (ho : o.op = .load 28 x) (b : Nat) (hx : a.eval x = .pointer (some ⟨b, 0, none⟩)) (cs : List Value) (w0 wq : World) (h : Row28 w0 b cs) (hl : cs.length = 19) (hq : Ext w0 wq) :
    o.quietAt Try.prog a (Ext w0) wq (.agg cs.toArray) := by
  have hrun := run_loadVar_mid (P := Try.prog) wq b 0 28 cs _ (h.ext hq).range Try.underlying28 rfl (by rw [hl]; kernel_rfl)
  unfold Oper.quietAt execOp
  simp only [ho, hx, Instr.loadAt, Instr.sureAddr, Sem.run_bind, Sem.run_pure, Result.andThen_ok, hrun]
  first | exact rfl | exact ⟨rfl, rfl⟩ | simp [Oper.quietUpon]
set_option maxHeartbeats 4000000 in
theorem limits_any (ih il dph dpl dsh dsl cph cpl csh csl uh ul u64 u32 rs lg cd fl tm mh ml : Int) (w : World) (h1 : W64 (cph, cpl)) (h2 : W64 (csh, csl)) (h3 : W64 (dph, dpl)) (h4 : W64 (dsh, dsl)) (h5 : W64 (mh, ml)) :
    Calls Try.prog 5 #[.agg #[.int .u64 ih, .int .u64 il, .int .u64 dph, .int .u64 dpl, .int .u64 dsh, .int .u64 dsl, .int .u64 cph, .int .u64 cpl, .int .u64 csh, .int .u64 csl, .int .u64 uh, .int .u64 ul, .int .u64 u64, .int .u32 u32, .int .u32 rs, .int .u32 lg, .int .u16 cd, .int .u16 fl, .int .u64 tm], .agg #[.int .u64 mh, .int .u64 ml]] w fun e w' => e = .returned (.bool true) ∧ Ext w w' := by
  have D1 := fun w => debited_any ih il dph dpl dsh dsl cph cpl csh csl uh ul u64 u32 rs lg cd fl tm mh ml w h1 h2 h3 h4 h5 _ rfl
  have D2 := fun w => rdebited_any ih il dph dpl dsh dsl cph cpl csh csl uh ul u64 u32 rs lg cd fl tm mh ml w h1 h2 h3 h4 h5 _ rfl
  have D3 := fun w => credited_any ih il dph dpl dsh dsl cph cpl csh csl uh ul u64 u32 rs lg cd fl tm mh ml w h1 h2 h3 h4 h5 _ rfl
  have D4 := fun w => rcredited_any ih il dph dpl dsh dsl cph cpl csh csl uh ul u64 u32 rs lg cd fl tm mh ml w h1 h2 h3 h4 h5 _ rfl
  generalize ((bits .and .u16 fl 2 != 0) && decide (V csh csl < V dph dpl + V dsh dsl + V mh ml)) = b1 at D1 D2
  generalize ((bits .and .u16 fl 4 != 0) && decide (V dsh dsl < V cph cpl + V csh csl + V mh ml)) = b2 at D3 D4
  clear h1 h2 h3 h4 h5
  go_enter Try.func5, Try.ntmps5
  have hR0 : Row28 ((w.alloc (.cells #[.int .u64 ih, .int .u64 il, .int .u64 dph, .int .u64 dpl, .int .u64 dsh, .int .u64 dsl, .int .u64 cph, .int .u64 cpl, .int .u64 csh, .int .u64 csl, .int .u64 uh, .int .u64 ul, .int .u64 u64, .int .u32 u32, .int .u32 rs, .int .u32 lg, .int .u16 cd, .int .u16 fl, .int .u64 tm] 28)).alloc (.cells #[.int .u64 mh, .int .u64 ml] 24)) w.heap.size _ := (Row28.new w #[.int .u64 ih, .int .u64 il, .int .u64 dph, .int .u64 dpl, .int .u64 dsh, .int .u64 dsl, .int .u64 cph, .int .u64 cpl, .int .u64 csh, .int .u64 csl, .int .u64 uh, .int .u64 ul, .int .u64 u64, .int .u32 u32, .int .u32 rs, .int .u32 lg, .int .u16 cd, .int .u16 fl, .int .u64 tm]).alloc _
  repeat' (first | go_values | go_skip | go_guarded | go_step | go_upon | go_back | dsimp only)
  refine q_region (by kernel_rfl) (by kernel_rfl) ?_
  intro w0 HC HF HZ HX
  (have HC' := Lib.hid HC; clear HC; have HF' := Lib.hid HF; clear HF; intro HEc HEf; have HEc' := Lib.hid HEc; clear HEc; have HEf' := Lib.hid HEf; clear HEf)
  (have _lt0 : w.heap.size+1 < w0.heap.size := Nat.lt_of_lt_of_le (by first | (simp; done) | (simp; omega) | omega) HZ; have _q0_0 := HC'.out (w.heap.size+1) 0 (by first | (simp; done) | (simp; omega) | omega); (try simp [go_sem, *] at _q0_0); have _f0_0 := HF'.out (w.heap.size+1) 0 (by first | (simp; done) | (simp; omega) | omega); (try simp [go_sem, *] at _f0_0); have _q0_1 := HC'.out (w.heap.size+1) 1 (by first | (simp; done) | (simp; omega) | omega); (try simp [go_sem, *] at _q0_1); have _f0_1 := HF'.out (w.heap.size+1) 1 (by first | (simp; done) | (simp; omega) | omega); (try simp [go_sem, *] at _f0_1); have HEc := HEc'.out; have HEf := HEf'.out; clear HEc' HEf' HC' HF')
  have hR := hR0.ext HX
  repeat (first
    | (refine q_skip rfl ?_; (try simp only [Act.put, List.setIfInBounds_toArray, List.set_cons_zero, List.set_cons_succ]))
    | (apply q_want; (exact rfl); (focus (intro wq hq; first | (exact q_ld28 _ rfl _ rfl _ _ _ hR rfl hq) | (go_simp; first | done | exact rfl | exact ⟨rfl, rfl⟩ | (go_at_call 14; exact q_calls hq (D1 _)) | (go_at_call 15; exact q_calls hq (D2 _)) | (go_at_call 16; exact q_calls hq (D3 _)) | (go_at_call 17; exact q_calls hq (D4 _)) | (go_at_call 11; exact q_calls hq (awake_any _))))); (try simp only [Act.put, List.setIfInBounds_toArray, List.set_cons_zero, List.set_cons_succ])))
  refine wpQuiet_nil ?_
  intro wz hz
  repeat' (first | go_values | go_skip | go_guarded | go_step | go_upon | go_back | dsimp only)
  go_ret
  exact ⟨rfl, by (repeat (first | exact Ext.refl _ | assumption | apply Ext.drew | apply Ext.alloc | (refine Ext.setCell ?_ ?_ _ <;> first | (simp; done) | (simp; omega) | omega | skip) | (refine Ext.trans ?_ (by assumption))))⟩
end Go.Proofs.Ytikfkmglcnchoaa
