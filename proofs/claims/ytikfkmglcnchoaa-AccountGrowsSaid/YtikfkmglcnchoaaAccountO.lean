/-
  Opening of an account and of a number of 128 bits that come in.
-/
import Derived.Test.YtikfkmglcnchoaaFlat
import Derived.Test.YtikfkmglcnchoaaRows
import Derived.Test.YtikfkmglcnchoaaAccountS
namespace Go.Proofs.Ytikfkmglcnchoaa
set_option linter.unusedSimpArgs false
set_option linter.unusedVariables false
set_option linter.unusedSectionVars false
open Go.ChangeShapes Go.WideShapes Go.ChangeAt Go.RowKit
theorem AllWf.one {k : IntKind} {ks : List IntKind} {zs : List Int} (h : AllWf (k :: ks) zs) : ∃ z zs', zs = z :: zs' ∧ (Lit.int k z).wf = true ∧ AllWf ks zs' := by
  cases zs with
  | nil => exact h.elim
  | cons z zs => exact ⟨z, zs, rfl, h.1, h.2⟩
theorem AllWf.none {zs : List Int} (h : AllWf [] zs) : zs = [] := by
  cases zs with
  | nil => rfl
  | cons z zs => exact h.elim
theorem wf64 {z : Int} (h : (Lit.int .u64 z).wf = true) : 0 ≤ z ∧ z ≤ 18446744073709551615 := by simpa [Lit.wf, IntKind.min, IntKind.max, IntKind.signed, IntKind.bits] using h
theorem wf32 {z : Int} (h : (Lit.int .u32 z).wf = true) : 0 ≤ z ∧ z ≤ 4294967295 := by simpa [Lit.wf, IntKind.min, IntKind.max, IntKind.signed, IntKind.bits] using h
theorem wf16 {z : Int} (h : (Lit.int .u16 z).wf = true) : 0 ≤ z ∧ z ≤ 65535 := by simpa [Lit.wf, IntKind.min, IntKind.max, IntKind.signed, IntKind.bits] using h
theorem W64.of {a b : Int} (ha : (Lit.int .u64 a).wf = true) (hb : (Lit.int .u64 b).wf = true) : W64 (a, b) := ⟨(wf64 ha).1, (wf64 ha).2, (wf64 hb).1, (wf64 hb).2⟩
section
variable {H : Type} {enc : TypeId × Value → H} {w : World} {base : Nat} {spare : Nat → Bool} {held : Bool}
theorem open_u128 {v : Value} {d : DataW H} {ps : List MemPlace} {r : Reach} {b0 : Nat} (hv : Value.okWide Try.prog w r b0 24 v) (h : DataW.Trod enc Try.prog w base spare held 24 v d ps) :
    ∃ a b, v = .agg #[.int .u64 a, .int .u64 b] ∧ W64 (a, b) := by
  obtain ⟨zs, hz, rfl⟩ := open_flat (ks := [.u64, .u64]) Try.underlying24 (by kernel_rfl) hv h
  obtain ⟨a, z1, rfl, b1, hz⟩ := hz.one
  obtain ⟨b, z2, rfl, b2, hz⟩ := hz.one
  obtain rfl := hz.none
  exact ⟨a, b, rfl, .of b1 b2⟩
theorem open_account {v : Value} {d : DataW H} {ps : List MemPlace} {r : Reach} {b0 : Nat} (hv : Value.okWide Try.prog w r b0 28 v) (h : DataW.Trod enc Try.prog w base spare held 28 v d ps) :
    ∃ ih il dph dpl dsh dsl cph cpl csh csl uh ul u64 u32 rs lg cd fl tm : Int, v = .agg #[.int .u64 ih, .int .u64 il, .int .u64 dph, .int .u64 dpl, .int .u64 dsh, .int .u64 dsl, .int .u64 cph, .int .u64 cpl, .int .u64 csh, .int .u64 csl, .int .u64 uh, .int .u64 ul, .int .u64 u64, .int .u32 u32, .int .u32 rs, .int .u32 lg, .int .u16 cd, .int .u16 fl, .int .u64 tm] ∧ W64 (ih, il) ∧ W64 (dph, dpl) ∧ W64 (dsh, dsl) ∧ W64 (cph, cpl) ∧ W64 (csh, csl) ∧ W64 (uh, ul) ∧ (0 ≤ u64 ∧ u64 ≤ 18446744073709551615) ∧
      (0 ≤ u32 ∧ u32 ≤ 4294967295) ∧ (0 ≤ rs ∧ rs ≤ 4294967295) ∧ (0 ≤ lg ∧ lg ≤ 4294967295) ∧ (0 ≤ cd ∧ cd ≤ 65535) ∧ (0 ≤ fl ∧ fl ≤ 65535) ∧ (0 ≤ tm ∧ tm ≤ 18446744073709551615) := by
  obtain ⟨zs, hz, rfl⟩ := open_flat (ks := [.u64, .u64, .u64, .u64, .u64, .u64, .u64, .u64, .u64, .u64, .u64, .u64, .u64, .u32, .u32, .u32, .u16, .u16, .u64]) Try.underlying28 (by kernel_rfl) hv h
  obtain ⟨ih, z0, rfl, b0, hz⟩ := hz.one
  obtain ⟨il, z1, rfl, b1, hz⟩ := hz.one
  obtain ⟨dph, z2, rfl, b2, hz⟩ := hz.one
  obtain ⟨dpl, z3, rfl, b3, hz⟩ := hz.one
  obtain ⟨dsh, z4, rfl, b4, hz⟩ := hz.one
  obtain ⟨dsl, z5, rfl, b5, hz⟩ := hz.one
  obtain ⟨cph, z6, rfl, b6, hz⟩ := hz.one
  obtain ⟨cpl, z7, rfl, b7, hz⟩ := hz.one
  obtain ⟨csh, z8, rfl, b8, hz⟩ := hz.one
  obtain ⟨csl, z9, rfl, b9, hz⟩ := hz.one
  obtain ⟨uh, z10, rfl, b10, hz⟩ := hz.one
  obtain ⟨ul, z11, rfl, b11, hz⟩ := hz.one
  obtain ⟨u64, z12, rfl, b12, hz⟩ := hz.one
  obtain ⟨u32, z13, rfl, b13, hz⟩ := hz.one
  obtain ⟨rs, z14, rfl, b14, hz⟩ := hz.one
  obtain ⟨lg, z15, rfl, b15, hz⟩ := hz.one
  obtain ⟨cd, z16, rfl, b16, hz⟩ := hz.one
  obtain ⟨fl, z17, rfl, b17, hz⟩ := hz.one
  obtain ⟨tm, z18, rfl, b18, hz⟩ := hz.one
  obtain rfl := hz.none
  exact ⟨ih, il, dph, dpl, dsh, dsl, cph, cpl, csh, csl, uh, ul, u64, u32, rs, lg, cd, fl, tm, rfl, .of b0 b1, .of b2 b3, .of b4 b5, .of b6 b7, .of b8 b9, .of b10 b11, wf64 b12, wf32 b13, wf32 b14, wf32 b15, wf16 b16, wf16 b17, wf64 b18⟩
end
end Go.Proofs.Ytikfkmglcnchoaa
