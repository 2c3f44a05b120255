/-
  Chapter 02: lists of records that come in: the ranges of their 64-bit fields.
-/
import Derived.Test.YtgpgdkpfeoaidaaRecL
import Derived.Test.YtgpgdkpfeoaidaaRecP
namespace Go.Proofs.Ytgpgdkpfeoaidaa
set_option linter.unusedSimpArgs false
set_option linter.unusedVariables false
set_option linter.unusedSectionVars false
open Go Go.RowKit

theorem wf64 {z : Int} (h : (Lit.int .u64 z).wf = true) : w64 z := by
  simp [Lit.wf, IntKind.min, IntKind.max, IntKind.signed, IntKind.bits] at h
  unfold w64; omega
theorem rec_cellsU {zs : List Int} (hz : AllWf recKs zs) : ∃ a0 a1 a2 a3 a4 a5 a6 a7 a8 a9 a10 a11 a12 a13 a14 a15 a16 a17 a18 : Int, cellsK recKs zs = [.int .u64 a0, .int .u64 a1, .int .u64 a2, .int .u64 a3, .int .u64 a4, .int .u64 a5, .int .u64 a6, .int .u64 a7, .int .u64 a8, .int .u64 a9, .int .u64 a10, .int .u64 a11, .int .u64 a12, .int .u32 a13, .int .u32 a14, .int .u32 a15, .int .u16 a16, .int .u16 a17, .int .u64 a18] ∧ w64 a0 ∧ w64 a1 ∧ w64 a2 ∧ w64 a3 ∧ w64 a4 ∧ w64 a5 ∧ w64 a6 ∧ w64 a7 ∧ w64 a8 ∧ w64 a9 ∧ w64 a10 ∧ w64 a11 ∧ w64 a12 ∧ w64 a18 := by
  unfold recKs at hz
  obtain ⟨a0, z0, rfl, h0, hz⟩ := hz.one
  obtain ⟨a1, z1, rfl, h1, hz⟩ := hz.one
  obtain ⟨a2, z2, rfl, h2, hz⟩ := hz.one
  obtain ⟨a3, z3, rfl, h3, hz⟩ := hz.one
  obtain ⟨a4, z4, rfl, h4, hz⟩ := hz.one
  obtain ⟨a5, z5, rfl, h5, hz⟩ := hz.one
  obtain ⟨a6, z6, rfl, h6, hz⟩ := hz.one
  obtain ⟨a7, z7, rfl, h7, hz⟩ := hz.one
  obtain ⟨a8, z8, rfl, h8, hz⟩ := hz.one
  obtain ⟨a9, z9, rfl, h9, hz⟩ := hz.one
  obtain ⟨a10, z10, rfl, h10, hz⟩ := hz.one
  obtain ⟨a11, z11, rfl, h11, hz⟩ := hz.one
  obtain ⟨a12, z12, rfl, h12, hz⟩ := hz.one
  obtain ⟨a13, z13, rfl, h13, hz⟩ := hz.one
  obtain ⟨a14, z14, rfl, h14, hz⟩ := hz.one
  obtain ⟨a15, z15, rfl, h15, hz⟩ := hz.one
  obtain ⟨a16, z16, rfl, h16, hz⟩ := hz.one
  obtain ⟨a17, z17, rfl, h17, hz⟩ := hz.one
  obtain ⟨a18, z18, rfl, h18, hz⟩ := hz.one
  obtain rfl := hz.none
  exact ⟨a0, a1, a2, a3, a4, a5, a6, a7, a8, a9, a10, a11, a12, a13, a14, a15, a16, a17, a18, rfl, wf64 h0, wf64 h1, wf64 h2, wf64 h3, wf64 h4, wf64 h5, wf64 h6, wf64 h7, wf64 h8, wf64 h9, wf64 h10, wf64 h11, wf64 h12, wf64 h18⟩
theorem flat_recU {zss : List (List Int)} (h : ∀ zs ∈ zss, AllWf recKs zs) : ∀ i, i < zss.length → recU ((zss.map (cellsK recKs)).flatten) i := by
  have at_ : ∀ {L : List Value} {i j : Nat} {ys rest : List Value}, L.drop (i * 19) = ys ++ rest → ys.length = 19 → j < 19 → intAt L (i * 19 + j) = intAt ys j := fun {L i j ys rest} e hy hj => by
    rw [← at_drop, e]
    unfold intAt
    rw [List.getElem?_append_left (by omega)]
  intro i hi
  obtain ⟨zs, rest, hz, e⟩ := flat_at h i hi
  obtain ⟨a0, a1, a2, a3, a4, a5, a6, a7, a8, a9, a10, a11, a12, a13, a14, a15, a16, a17, a18, ec, u0, u1, u2, u3, u4, u5, u6, u7, u8, u9, u10, u11, u12, u18⟩ := rec_cellsU hz
  rw [ec] at e
  have e0 := at_ (j := 0) e rfl (by omega)
  rw [Nat.add_zero] at e0
  unfold recU
  rw [e0, at_ (j := 1) e rfl (by omega), at_ (j := 2) e rfl (by omega), at_ (j := 3) e rfl (by omega), at_ (j := 4) e rfl (by omega), at_ (j := 5) e rfl (by omega), at_ (j := 6) e rfl (by omega), at_ (j := 7) e rfl (by omega), at_ (j := 8) e rfl (by omega), at_ (j := 9) e rfl (by omega), at_ (j := 10) e rfl (by omega), at_ (j := 11) e rfl (by omega), at_ (j := 12) e rfl (by omega), at_ (j := 18) e rfl (by omega)]
  exact ⟨u0, u1, u2, u3, u4, u5, u6, u7, u8, u9, u10, u11, u12, u18⟩
end Go.Proofs.Ytgpgdkpfeoaidaa
