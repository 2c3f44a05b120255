/-
  Chapter 02: the statement RecordWrites, run at any account and any transfer.
-/
import Derived.Test.YtgpgdkpfeoaidaaRecA
namespace Go.Proofs.Ytgpgdkpfeoaidaa
set_option linter.unusedSimpArgs false
set_option linter.unusedVariables false
set_option linter.unusedSectionVars false
open Go Go.RowKit

theorem AllWf.one {k : IntKind} {ks : List IntKind} {zs : List Int} (h : AllWf (k :: ks) zs) : ∃ z zs', zs = z :: zs' ∧ (Lit.int k z).wf = true ∧ AllWf ks zs' := by
  cases zs with
  | nil => exact h.elim
  | cons z zs => exact ⟨z, zs, rfl, h.1, h.2⟩
theorem AllWf.none {zs : List Int} (h : AllWf [] zs) : zs = [] := by
  cases zs with
  | nil => rfl
  | cons z zs => exact h.elim
theorem wfK32 {z : Int} (h : (Lit.int .u32 z).wf = true) : wfK z 4294967296 := by
  simp [Lit.wf, IntKind.min, IntKind.max, IntKind.signed, IntKind.bits] at h
  unfold wfK; omega
theorem wfK16 {z : Int} (h : (Lit.int .u16 z).wf = true) : wfK z 65536 := by
  simp [Lit.wf, IntKind.min, IntKind.max, IntKind.signed, IntKind.bits] at h
  unfold wfK; omega
def recKs : List IntKind := [.u64, .u64, .u64, .u64, .u64, .u64, .u64, .u64, .u64, .u64, .u64, .u64, .u64, .u32, .u32, .u32, .u16, .u16, .u64]
theorem open_rec {zs : List Int} (hz : AllWf recKs zs) : ∃ a0 a1 a2 a3 a4 a5 a6 a7 a8 a9 a10 a11 a12 a13 a14 a15 a16 a17 a18 : Int, (cellsK recKs zs).toArray = (⟨[.int .u64 a0, .int .u64 a1, .int .u64 a2, .int .u64 a3, .int .u64 a4, .int .u64 a5, .int .u64 a6, .int .u64 a7, .int .u64 a8, .int .u64 a9, .int .u64 a10, .int .u64 a11, .int .u64 a12, .int .u32 a13, .int .u32 a14, .int .u32 a15, .int .u16 a16, .int .u16 a17, .int .u64 a18]⟩ : Array Value) ∧ recW a13 a14 a15 a16 a17 := by
  unfold recKs at hz
  obtain ⟨a0, z0, rfl, h0, hz⟩ := hz.one
  obtain ⟨a1, z1, rfl, h1, hz⟩ := hz.one
  obtain ⟨a2, z2, rfl, h2, hz⟩ := hz.one
  obtain ⟨a3, z3, rfl, h3, hz⟩ := hz.one
  obtain ⟨a4, z4, rfl, h4, hz⟩ := hz.one
  obtain ⟨a5, z5, rfl, h5, hz⟩ := hz.one
  obtain ⟨a6, z6, rfl, h6, hz⟩ := hz.one
  obtain ⟨a7, z7, rfl, h7, hz⟩ := hz.one
  obtain ⟨a8, z8, rfl, h8, hz⟩ := hz.one
  obtain ⟨a9, z9, rfl, h9, hz⟩ := hz.one
  obtain ⟨a10, z10, rfl, h10, hz⟩ := hz.one
  obtain ⟨a11, z11, rfl, h11, hz⟩ := hz.one
  obtain ⟨a12, z12, rfl, h12, hz⟩ := hz.one
  obtain ⟨a13, z13, rfl, h13, hz⟩ := hz.one
  obtain ⟨a14, z14, rfl, h14, hz⟩ := hz.one
  obtain ⟨a15, z15, rfl, h15, hz⟩ := hz.one
  obtain ⟨a16, z16, rfl, h16, hz⟩ := hz.one
  obtain ⟨a17, z17, rfl, h17, hz⟩ := hz.one
  obtain ⟨a18, z18, rfl, h18, hz⟩ := hz.one
  obtain rfl := hz.none
  exact ⟨a0, a1, a2, a3, a4, a5, a6, a7, a8, a9, a10, a11, a12, a13, a14, a15, a16, a17, a18, rfl, wfK32 h13, wfK32 h14, wfK32 h15, wfK16 h16, wfK16 h17⟩
end Go.Proofs.Ytgpgdkpfeoaidaa
