/-
  Contracts of the document's limits, and of the examples' account.
-/
import Derived.Test.YtikfkmglcnchoaaAccountK
namespace Go.Proofs.Ytikfkmglcnchoaa
set_option linter.unusedSimpArgs false
set_option linter.unusedVariables false
set_option linter.unusedSectionVars false
open Go.ChangeShapes Go.WideShapes Go.ChangeAt Go.RowKit
attribute [local go_sem ↓] isSome_setCell
attribute [local go_sem] setCell_setCell
/-- A whole account out of a block whose cells are known. -/
theorem wp_ld28f {op : Oper} {a : Act} {K : Act → World → Prop} {Q : Exit → Act → World → Prop} (x : Operand) (ho : op.op = .load 28 x) (w : World) (b : Nat) (hx : a.eval x = .pointer (some ⟨b, 0, none⟩)) (cs : List Value)
    (hc : w.rangeAt b 0 cs) (hl : cs.length = 19) (h : K (a.put op.dst (.agg cs.toArray)) w) : op.wp Try.prog a w K Q :=
  wp_load_mid 28 x ho b 0 hx cs _ hc Try.underlying28 rfl (by rw [hl]; kernel_rfl) h
/-- An account lies in block b. -/
def Row28 (w : World) (b : Nat) (cs : List Value) : Prop := b < w.heap.size ∧ w.rangeAt b 0 cs
theorem Row28.range {w : World} {b : Nat} {cs : List Value} (h : Row28 w b cs) : w.rangeAt b 0 cs := h.2
theorem Row28.ext {w w' : World} {b : Nat} {cs : List Value} (h : Row28 w b cs) (hx : Ext w w') : Row28 w' b cs := ⟨hx.lt h.1, fun j v hv => (hx.cell b _ h.1).trans (h.2 j v hv)⟩
theorem Row28.new (w : World) (c : Array Value) : Row28 (w.alloc (.cells c 28)) w.heap.size c.toList := ⟨by simp, range_new w c.toList _⟩
theorem Row28.alloc {w : World} {b : Nat} {cs : List Value} (h : Row28 w b cs) (o : Obj) : Row28 (w.alloc o) b cs := h.ext ((Ext.refl w).alloc o)
set_option maxHeartbeats 1000000 in
theorem awake_any (w : World) : Calls Try.prog 11 #[] w fun e w' => e = .returned (.bool true) ∧ Ext w w' := by
  go_enter Try.func11, Try.ntmps11
  go_wp2_with fail
  (go_at_call 12; refine ((one_lit _)).mono ?_; rintro e w1 ⟨rfl, hb1⟩; have hz_ := Ext.size hb1; (try simp only [World.size_alloc, World.size_setCell, World.size_drew] at hz_); )
  repeat' (first
    | (refine wp_st28 _ _ rfl _ _ _ rfl (by simp; done) _ rfl rfl rfl (by simp [Value.oneCell']; done) ?_; (try simp only [Act.put]))
    | go_values | go_skip | go_guarded | go_step | go_upon | go_back | dsimp only)
  have hR1 := Row28.new w1 #[.int .u64 0, .int .u64 1, .int .u64 0, .int .u64 0, .int .u64 0, .int .u64 0, .int .u64 0, .int .u64 0, .int .u64 0, .int .u64 5, .int .u64 0, .int .u64 0, .int .u64 0, .int .u32 0, .int .u32 0, .int .u32 1, .int .u16 1, .int .u16 2, .int .u64 0]
  (go_at_call 12; refine (one_lit _).mono ?_; rintro e w2 ⟨rfl, hb2⟩; have hR2 := Row28.ext (by assumption) hb2; dsimp only)
  repeat' (first | (refine wp_ld28f _ rfl _ _ rfl _ (by exact Row28.range (by assumption)) rfl ?_; (try simp only [Act.put, List.setIfInBounds_toArray, List.set_cons_zero, List.set_cons_succ])) | go_values | go_skip | go_guarded | go_step | go_upon | go_back | dsimp only)
  (go_at_call 9; refine (chk_one _).mono ?_; rintro e w2 ⟨rfl, hb2⟩; have hR2 := Row28.ext (by assumption) hb2; dsimp only)
  repeat' (first | (refine wp_ld28f _ rfl _ _ rfl _ (by exact Row28.range (by assumption)) rfl ?_; (try simp only [Act.put, List.setIfInBounds_toArray, List.set_cons_zero, List.set_cons_succ])) | go_values | go_skip | go_guarded | go_step | go_upon | go_back | dsimp only)
  (go_at_call 9; refine (chk_zero _).mono ?_; rintro e w2 ⟨rfl, hb2⟩; have hR2 := Row28.ext (by assumption) hb2; dsimp only)
  repeat' (first | (refine wp_ld28f _ rfl _ _ rfl _ (by exact Row28.range (by assumption)) rfl ?_; (try simp only [Act.put, List.setIfInBounds_toArray, List.set_cons_zero, List.set_cons_succ])) | go_values | go_skip | go_guarded | go_step | go_upon | go_back | dsimp only)
  (go_at_call 12; refine (one_lit _).mono ?_; rintro e w2 ⟨rfl, hb2⟩; have hR2 := Row28.ext (by assumption) hb2; dsimp only)
  repeat' (first | (refine wp_ld28f _ rfl _ _ rfl _ (by exact Row28.range (by assumption)) rfl ?_; (try simp only [Act.put, List.setIfInBounds_toArray, List.set_cons_zero, List.set_cons_succ])) | go_values | go_skip | go_guarded | go_step | go_upon | go_back | dsimp only)
  (go_at_call 12; refine (one_lit _).mono ?_; rintro e w2 ⟨rfl, hb2⟩; have hR2 := Row28.ext (by assumption) hb2; dsimp only)
  repeat' (first | (refine wp_ld28f _ rfl _ _ rfl _ (by exact Row28.range (by assumption)) rfl ?_; (try simp only [Act.put, List.setIfInBounds_toArray, List.set_cons_zero, List.set_cons_succ])) | go_values | go_skip | go_guarded | go_step | go_upon | go_back | dsimp only)
  (go_at_call 13; refine (oth_one _).mono ?_; rintro e w2 ⟨rfl, hb2⟩; have hR2 := Row28.ext (by assumption) hb2; dsimp only)
  repeat' (first | (refine wp_ld28f _ rfl _ _ rfl _ (by exact Row28.range (by assumption)) rfl ?_; (try simp only [Act.put, List.setIfInBounds_toArray, List.set_cons_zero, List.set_cons_succ])) | go_values | go_skip | go_guarded | go_step | go_upon | go_back | dsimp only)
  (go_at_call 14; refine (deb6 _).mono ?_; rintro e w2 ⟨rfl, hb2⟩; have hR2 := Row28.ext (by assumption) hb2; dsimp only)
  repeat' (first | (refine wp_ld28f _ rfl _ _ rfl _ (by exact Row28.range (by assumption)) rfl ?_; (try simp only [Act.put, List.setIfInBounds_toArray, List.set_cons_zero, List.set_cons_succ])) | go_values | go_skip | go_guarded | go_step | go_upon | go_back | dsimp only)
  (go_at_call 14; refine (deb5 _).mono ?_; rintro e w2 ⟨rfl, hb2⟩; have hR2 := Row28.ext (by assumption) hb2; dsimp only)
  repeat' (first | (refine wp_ld28f _ rfl _ _ rfl _ (by exact Row28.range (by assumption)) rfl ?_; (try simp only [Act.put, List.setIfInBounds_toArray, List.set_cons_zero, List.set_cons_succ])) | go_values | go_skip | go_guarded | go_step | go_upon | go_back | dsimp only)
  go_ret
  exact ⟨rfl, by (repeat (first | exact Ext.refl _ | assumption | apply Ext.drew | apply Ext.alloc | (refine Ext.setCell ?_ ?_ _ <;> first | (simp; done) | (simp; omega) | omega | skip) | (refine Ext.trans ?_ (by assumption))))⟩
end Go.Proofs.Ytikfkmglcnchoaa
