/-
  The document's differences of numbers of 128 bits.
-/
import Derived.Test.YtpiapipmhlpmjaaU128C
namespace Go.Proofs.Ytpiapipmhlpmjaa
set_option linter.unusedSimpArgs false
set_option linter.unusedVariables false
open Go Go.RowKit
theorem rsub_val (h1 l1 h2 l2 : Int) : valO (vU tBm) Try.prog 5 [15] [37] 6 17 [uv h1 l1, uv h2 l2] [false] =
    some (.tuple #[uv (vL ((sbT (b16 h1 l1) (b16 h2 l2) 0).1.drop 8)) (vL ((sbT (b16 h1 l1) (b16 h2 l2) 0).1.take 8)), .bool false],
      [(uwf h1 l1 && uwf h2 l2, true), (decide (cmpV h1 l1 h2 l2 < 0), false), (uwf h1 l1, true), (uwf h2 l2, true), (bytesB (sbT (b16 h1 l1) (b16 h2 l2) 0).1, true)]) := by kernel_rfl
theorem rsub_val1 (h1 l1 h2 l2 : Int) : valO (vU tBm) Try.prog 5 [15] [37] 6 17 [uv h1 l1, uv h2 l2] [true] =
    some (.tuple #[uv 0 0, .bool true], [(uwf h1 l1 && uwf h2 l2, true), (decide (cmpV h1 l1 h2 l2 < 0), true)]) := by kernel_rfl
theorem rsub_any {h1 l1 h2 l2 : Int} (a1 : wf64 h1) (a2 : wf64 l1) (a3 : wf64 h2) (a4 : wf64 l2) (W : World) :
    Calls Try.prog 17 #[uv h1 l1, uv h2 l2] W fun e w' => e = .returned (.tuple #[uv (subV h1 l1 h2 l2).1 (subV h1 l1 h2 l2).2.1, .bool (subV h1 l1 h2 l2).2.2]) ∧ Ext W w' := by
  have V0 := rsub_val h1 l1 h2 l2
  have V1 := rsub_val1 h1 l1 h2 l2
  rw [sbT_eq _ _ _ (b16_wf h1 l1) (b16_wf h2 l2) (by decide) (by decide)] at V0
  obtain ⟨e1, e2, e3, e4, e5⟩ := sbL_ok (b16 h1 l1) (b16 h2 l2) 0 (by simp [b16_len]) (b16_wf h1 l1) (b16_wf h2 l2) (by decide) (by decide)
  rw [b16_len] at e3
  rw [vL_b16 a1 a2, vL_b16 a3 a4, b16_len] at e1
  obtain ⟨s1, s2⟩ := vL_split _ e3 e2
  have bd := vL_bd _ e2
  rw [e3] at bd
  have w2 : (uwf h1 l1 && uwf h2 l2) = true := by rw [uwf_mk a1 a2, uwf_mk a3 a4]; rfl
  have hb : 0 ≤ nm h1 l1 ∧ nm h1 l1 < top128 ∧ 0 ≤ nm h2 l2 ∧ nm h2 l2 < top128 := by unfold nm top128; unfold wf64 at a1 a2 a3 a4; omega
  generalize sbL (b16 h1 l1) (b16 h2 l2) 0 = z at *
  unfold subV
  by_cases h : nm h1 l1 < nm h2 l2
  · rw [if_pos h]
    exact closedO (condX_ok xU_one) (condT_ok tBm_ok) mixedU 5 [15] [37] 6 _ _ [true] _ _ rfl V1 (obs2 w2 (by simp [cmpV, h])) (fun _ => rfl) W
  · rw [if_neg h]
    have hc : decide (cmpV h1 l1 h2 l2 < 0) = false := by unfold cmpV; rw [if_neg h]; split <;> simp
    refine ret_v (uvb_eq ?_ ?_ rfl) (closedO (condX_ok xU_one) (condT_ok tBm_ok) mixedU 5 [15] [37] 6 _ _ [false] _ _ rfl V0 (.cons w2 (obs4 hc (uwf_mk a1 a2) (uwf_mk a3 a4) (bytesB_mk e3 e2))) (fun _ => rfl) W)
    · rw [s1]; dsimp only; unfold top128 at hb; simp at bd e1; congr 1; omega
    · rw [s2]; dsimp only; unfold top128 at hb; simp at bd e1; congr 1; omega
theorem tRSub_ok : TOne Try.prog (oneT 17 gSub) := oneT_ok fun args v h => by
  unfold gSub at h
  split at h
  · rename_i h1 l1 h2 l2
    simp only [Option.some.injEq, Prod.mk.injEq] at h
    obtain ⟨rfl, hc⟩ := h
    obtain ⟨a1, a2, a3, a4⟩ := uwf2_of hc
    exact ⟨fun σ args' hr => ren2 (ren_uv σ h1 l1) (ren_uv σ h2 l2) hr, fun σ => rfl, fun w => rsub_any a1 a2 a3 a4 w⟩
  · cases h
end Go.Proofs.Ytpiapipmhlpmjaa
