/-
  Contracts of Check, Other and Made of the program.
-/
import Derived.Test.YtikfkmglcnchoaaAccount
import Derived.Test.YtikfkmglcnchoaaQTail
namespace Go.Proofs.Ytikfkmglcnchoaa
set_option linter.unusedSimpArgs false
set_option linter.unusedVariables false
set_option linter.unusedSectionVars false
open Go.ChangeShapes Go.WideShapes Go.ChangeAt Go.RowKit
attribute [local go_sem ↓] isSome_setCell
attribute [local go_sem] setCell_setCell

/-- Two numbers of 128 bits are one. -/
def e128 (a b c d : Int) : Bool := a == c && b == d
theorem eq128 (a b c d : Int) (w : World) : (binOp .eql 24 (.agg #[.int .u64 a, .int .u64 b]) (.agg #[.int .u64 c, .int .u64 d])).run Try.prog w = .ok (.bool (e128 a b c d)) w := by
  simp [go_sem]
  unfold e128
  by_cases h1 : a = c <;> by_cases h2 : b = d <;> simp [h1, h2]
theorem neq128 (a b c d : Int) (w : World) : (binOp .neq 24 (.agg #[.int .u64 a, .int .u64 b]) (.agg #[.int .u64 c, .int .u64 d])).run Try.prog w = .ok (.bool (!e128 a b c d)) w := by
  simp [go_sem]
  unfold e128
  by_cases h1 : a = c <;> by_cases h2 : b = d <;> simp [h1, h2]
attribute [local go_sem ↓] eq128 neq128

theorem top_any (w : World) : Calls Try.prog 22 #[] w fun e w' => e = .returned (.agg #[.int .u64 18446744073709551615, .int .u64 18446744073709551615]) ∧ Ext w w' := by
  go_enter Try.func22, Try.ntmps22
  go_wp2_with fail
  exact bodyPost_ret (v := .agg #[.int .u64 18446744073709551615, .int .u64 18446744073709551615]) (by simp [results, Try.results22, go_sem]) rfl ⟨rfl, by (repeat (first | exact Ext.refl _ | assumption | apply Ext.drew | apply Ext.alloc | (refine Ext.setCell ?_ ?_ _ <;> first | (simp; done) | (simp; omega) | omega | skip) | (refine Ext.trans ?_ (by assumption))))⟩

def chkBs (ih il dph dpl dsh dsl cph cpl csh csl uh ul u64 u32 rs lg cd fl tm : Int) (f24 : Bool) : List Bool := [tm != 0, rs != 0, bits .andNot .u16 fl 7 != 0, e128 ih il 0 0, e128 ih il 18446744073709551615 18446744073709551615, f24, !e128 dph dpl 0 0, !e128 dsh dsl 0 0, !e128 cph cpl 0 0, !e128 csh csl 0 0, lg == 0, cd == 0]
def chkCs : List Int := [3, 4, 5, 6, 7, 8, 9, 10, 11, 12, 13, 14]
set_option maxRecDepth 100000 in
set_option maxHeartbeats 4000000 in
theorem check_any (ih il dph dpl dsh dsl cph cpl csh csl uh ul u64 u32 rs lg cd fl tm : Int) (w : World) (f2 f4 : Bool) (e2 : (bits .and .u16 fl 2 != 0) = f2) (e4 : (bits .and .u16 fl 4 != 0) = f4) :
    Calls Try.prog 9 #[.agg #[.int .u64 ih, .int .u64 il, .int .u64 dph, .int .u64 dpl, .int .u64 dsh, .int .u64 dsl, .int .u64 cph, .int .u64 cpl, .int .u64 csh, .int .u64 csl, .int .u64 uh, .int .u64 ul, .int .u64 u64, .int .u32 u32, .int .u32 rs, .int .u32 lg, .int .u16 cd, .int .u16 fl, .int .u64 tm]] w fun e w' => e = .returned (.int .i64 (firstV (chkBs ih il dph dpl dsh dsl cph cpl csh csl uh ul u64 u32 rs lg cd fl tm (f2 && f4)) chkCs)) ∧ Ext w w' := by
  cases f2
  all_goals
    try simp only [Bool.false_and, Bool.true_and]
    go_enter Try.func9, Try.ntmps9
    go_wp2_with fail
    simp only [List.append_eq, List.cons_append, List.nil_append]
    (refine q_region_tail 62 (by kernel_rfl) (by kernel_rfl) ?_
     intro w0 HC HF HZ HX
     (have HC' := Lib.hid HC; clear HC; have HF' := Lib.hid HF; clear HF; intro HEc HEf; have HEc' := Lib.hid HEc; clear HEc; have HEf' := Lib.hid HEf; clear HEf)
     (have _lt0 : w.heap.size < w0.heap.size := Nat.lt_of_lt_of_le (by first | (simp; done) | (simp; omega) | omega) HZ; have _q0_0 := HC'.out (w.heap.size) 0 (by first | (simp; done) | (simp; omega) | omega); (try simp [go_sem, *] at _q0_0); have _f0_0 := HF'.out (w.heap.size) 0 (by first | (simp; done) | (simp; omega) | omega); (try simp [go_sem, *] at _f0_0); have _q0_1 := HC'.out (w.heap.size) 1 (by first | (simp; done) | (simp; omega) | omega); (try simp [go_sem, *] at _q0_1); have _f0_1 := HF'.out (w.heap.size) 1 (by first | (simp; done) | (simp; omega) | omega); (try simp [go_sem, *] at _f0_1); have _q0_2 := HC'.out (w.heap.size) 2 (by first | (simp; done) | (simp; omega) | omega); (try simp [go_sem, *] at _q0_2); have _f0_2 := HF'.out (w.heap.size) 2 (by first | (simp; done) | (simp; omega) | omega); (try simp [go_sem, *] at _f0_2); have _q0_3 := HC'.out (w.heap.size) 3 (by first | (simp; done) | (simp; omega) | omega); (try simp [go_sem, *] at _q0_3); have _f0_3 := HF'.out (w.heap.size) 3 (by first | (simp; done) | (simp; omega) | omega); (try simp [go_sem, *] at _f0_3); have _q0_4 := HC'.out (w.heap.size) 4 (by first | (simp; done) | (simp; omega) | omega); (try simp [go_sem, *] at _q0_4); have _f0_4 := HF'.out (w.heap.size) 4 (by first | (simp; done) | (simp; omega) | omega); (try simp [go_sem, *] at _f0_4); have _q0_5 := HC'.out (w.heap.size) 5 (by first | (simp; done) | (simp; omega) | omega); (try simp [go_sem, *] at _q0_5); have _f0_5 := HF'.out (w.heap.size) 5 (by first | (simp; done) | (simp; omega) | omega); (try simp [go_sem, *] at _f0_5); have _q0_6 := HC'.out (w.heap.size) 6 (by first | (simp; done) | (simp; omega) | omega); (try simp [go_sem, *] at _q0_6); have _f0_6 := HF'.out (w.heap.size) 6 (by first | (simp; done) | (simp; omega) | omega); (try simp [go_sem, *] at _f0_6); have _q0_7 := HC'.out (w.heap.size) 7 (by first | (simp; done) | (simp; omega) | omega); (try simp [go_sem, *] at _q0_7); have _f0_7 := HF'.out (w.heap.size) 7 (by first | (simp; done) | (simp; omega) | omega); (try simp [go_sem, *] at _f0_7); have _q0_8 := HC'.out (w.heap.size) 8 (by first | (simp; done) | (simp; omega) | omega); (try simp [go_sem, *] at _q0_8); have _f0_8 := HF'.out (w.heap.size) 8 (by first | (simp; done) | (simp; omega) | omega); (try simp [go_sem, *] at _f0_8); have _q0_9 := HC'.out (w.heap.size) 9 (by first | (simp; done) | (simp; omega) | omega); (try simp [go_sem, *] at _q0_9); have _f0_9 := HF'.out (w.heap.size) 9 (by first | (simp; done) | (simp; omega) | omega); (try simp [go_sem, *] at _f0_9); have _q0_10 := HC'.out (w.heap.size) 10 (by first | (simp; done) | (simp; omega) | omega); (try simp [go_sem, *] at _q0_10); have _f0_10 := HF'.out (w.heap.size) 10 (by first | (simp; done) | (simp; omega) | omega); (try simp [go_sem, *] at _f0_10); have _q0_11 := HC'.out (w.heap.size) 11 (by first | (simp; done) | (simp; omega) | omega); (try simp [go_sem, *] at _q0_11); have _f0_11 := HF'.out (w.heap.size) 11 (by first | (simp; done) | (simp; omega) | omega); (try simp [go_sem, *] at _f0_11); have _q0_12 := HC'.out (w.heap.size) 12 (by first | (simp; done) | (simp; omega) | omega); (try simp [go_sem, *] at _q0_12); have _f0_12 := HF'.out (w.heap.size) 12 (by first | (simp; done) | (simp; omega) | omega); (try simp [go_sem, *] at _f0_12); have _q0_13 := HC'.out (w.heap.size) 13 (by first | (simp; done) | (simp; omega) | omega); (try simp [go_sem, *] at _q0_13); have _f0_13 := HF'.out (w.heap.size) 13 (by first | (simp; done) | (simp; omega) | omega); (try simp [go_sem, *] at _f0_13); have _q0_14 := HC'.out (w.heap.size) 14 (by first | (simp; done) | (simp; omega) | omega); (try simp [go_sem, *] at _q0_14); have _f0_14 := HF'.out (w.heap.size) 14 (by first | (simp; done) | (simp; omega) | omega); (try simp [go_sem, *] at _f0_14); have _q0_15 := HC'.out (w.heap.size) 15 (by first | (simp; done) | (simp; omega) | omega); (try simp [go_sem, *] at _q0_15); have _f0_15 := HF'.out (w.heap.size) 15 (by first | (simp; done) | (simp; omega) | omega); (try simp [go_sem, *] at _f0_15); have _q0_16 := HC'.out (w.heap.size) 16 (by first | (simp; done) | (simp; omega) | omega); (try simp [go_sem, *] at _q0_16); have _f0_16 := HF'.out (w.heap.size) 16 (by first | (simp; done) | (simp; omega) | omega); (try simp [go_sem, *] at _f0_16); have _q0_17 := HC'.out (w.heap.size) 17 (by first | (simp; done) | (simp; omega) | omega); (try simp [go_sem, *] at _q0_17); have _f0_17 := HF'.out (w.heap.size) 17 (by first | (simp; done) | (simp; omega) | omega); (try simp [go_sem, *] at _f0_17); have _q0_18 := HC'.out (w.heap.size) 18 (by first | (simp; done) | (simp; omega) | omega); (try simp [go_sem, *] at _q0_18); have _f0_18 := HF'.out (w.heap.size) 18 (by first | (simp; done) | (simp; omega) | omega); (try simp [go_sem, *] at _f0_18); have _lt1 : w.heap.size+1 < w0.heap.size := Nat.lt_of_lt_of_le (by first | (simp; done) | (simp; omega) | omega) HZ; have _q1_0 := HC'.out (w.heap.size+1) 0 (by first | (simp; done) | (simp; omega) | omega); (try simp [go_sem, *] at _q1_0); have _f1_0 := HF'.out (w.heap.size+1) 0 (by first | (simp; done) | (simp; omega) | omega); (try simp [go_sem, *] at _f1_0); have _q1_1 := HC'.out (w.heap.size+1) 1 (by first | (simp; done) | (simp; omega) | omega); (try simp [go_sem, *] at _q1_1); have _f1_1 := HF'.out (w.heap.size+1) 1 (by first | (simp; done) | (simp; omega) | omega); (try simp [go_sem, *] at _f1_1); have HEc := HEc'.out; have HEf := HEf'.out; clear HEc' HEf' HC' HF')
     simp only [List.take_succ_cons, List.take_zero, List.drop_succ_cons, List.drop_zero]
     repeat (first
       | (refine q_skip rfl ?_; (try simp only [Act.put, List.setIfInBounds_toArray, List.set_cons_zero, List.set_cons_succ]))
       | (apply q_want; (exact rfl); (focus (intro wq hq; go_simp; first | done | exact rfl | exact ⟨rfl, rfl⟩ | ((go_at_call 22; exact q_calls hq (top_any _))))); (try simp only [Act.put, List.setIfInBounds_toArray, List.set_cons_zero, List.set_cons_succ])))
     refine wpQuiet_nil ?_
     intro wz hz)
    go_wp2_with fail
    (go_at_call 21; refine (first_any _ 12 12 (chkBs ih il dph dpl dsh dsl cph cpl csh csl uh ul u64 u32 rs lg cd fl tm _) chkCs (by omega) rfl rfl _ (Sl.new _ _ _ 12 2 rfl)).mono ?_; rintro e w4 ⟨rfl, hb4⟩)
    go_wp2_with fail
    go_ret
    exact ⟨rfl, by (repeat (first | exact Ext.refl _ | assumption | apply Ext.drew | apply Ext.alloc | (refine Ext.setCell ?_ ?_ _ <;> first | (simp; done) | (simp; omega) | omega | skip) | (refine Ext.trans ?_ (by assumption))))⟩
end Go.Proofs.Ytikfkmglcnchoaa
