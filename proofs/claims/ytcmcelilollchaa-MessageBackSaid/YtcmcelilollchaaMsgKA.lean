/-
  The statement MessageBack's own call.
-/
import Derived.Test.YtcmcelilollchaaMsgK
namespace Go.Proofs.Ytcmcelilollchaa
set_option linter.unusedSimpArgs false
set_option linter.unusedVariables false
set_option linter.unusedSectionVars false
open Go Go.RowKit
theorem flat_U64s {m : Nat} {zss : List (List Int)} (h : ∀ zs ∈ zss, AllWf (List.replicate m .u64) zs) : U64s (zss.map (cellsK (List.replicate m .u64))).flatten := by
  obtain ⟨l, e, hw⟩ := flat_rep h
  rw [e]
  refine ⟨Ints.of, fun i hi => ?_⟩
  rw [List.length_map] at hi
  have e2 : intAt (l.map (Value.int .u64)) i = l[i] := by unfold intAt; rw [List.getElem?_map, List.getElem?_eq_getElem hi]; rfl
  rw [e2]
  have := hw _ (List.getElem_mem hi)
  simp [Lit.wf, IntKind.min, IntKind.max, IntKind.signed, IntKind.bits] at this
  omega
theorem back_any {W : World} {v0 v1 v2 : Value} {a0 a1 a2 : Av} {q0 q1 q2 : Option (Addr × Nat)} {z0 z1 z2 : List (List Int)} (h0 : (a0 = .fl (.slice none 0 0) ∧ z0 = []) ∨ a0 = .sl (z0.map (cellsK [.u64, .u64])).flatten z0.length) (h1 : (a1 = .fl (.slice none 0 0) ∧ z1 = []) ∨ a1 = .sl (z1.map (cellsK [.i64, .i64, .i64])).flatten z1.length) (h2 : (a2 = .fl (.slice none 0 0) ∧ z2 = []) ∨ a2 = .sl (z2.map (cellsK [.u8])).flatten z2.length)
    (A0 : AvAt a0 v0 q0) (A1 : AvAt a1 v1 q1) (A2 : AvAt a2 v2 q2) (L0 : Lies W a0 q0) (L1 : Lies W a1 q1) (L2 : Lies W a2 q2) (w0 : ∀ zs ∈ z0, AllWf [.u64, .u64] zs) (w1 : ∀ zs ∈ z1, AllWf [.i64, .i64, .i64] zs) (w2 : ∀ zs ∈ z2, AllWf [.u8] zs) :
    Calls Try.prog 7 #[v0, v1, v2] W fun e w' => e = .returned (.bool true) ∧ Ext W w' := by
  have b0 : U64s (z0.map (cellsK [.u64, .u64])).flatten := flat_U64s (m := 2) w0
  have l0 : ((z0.map (cellsK [.u64, .u64])).flatten).length = z0.length * 2 := flat_len w0
  have b1 : Ints .i64 (z1.map (cellsK [.i64, .i64, .i64])).flatten := flat_Ints (m := 3) w1
  have l1 : ((z1.map (cellsK [.i64, .i64, .i64])).flatten).length = z1.length * 3 := flat_len w1
  have b2 := flat_Byts w2
  have l2 : ((z2.map (cellsK [.u8])).flatten).length = z2.length * 1 := flat_len w2
  have n0 : U64s [] := ⟨rfl, fun i h => by simp at h⟩
  have n1 : Ints .i64 [] := rfl
  refine calls_sl (avs := [a0, a1, a2]) (vs := [v0, v1, v2]) (ps := [q0, q1, q2]) ⟨A0, A1, A2, trivial⟩ ⟨L0, L1, L2, trivial⟩ (fun σ => rfl) fun cs hcs => ?_
  obtain ⟨c, d, e, rfl⟩ := caps3 hcs
  rcases h0 with ⟨rfl, rfl⟩ | rfl <;> rcases h1 with ⟨rfl, rfl⟩ | rfl <;> rcases h2 with ⟨rfl, rfl⟩ | rfl
  · exact back_run (a0 := ⟨false, 0, 0, []⟩) (a1 := ⟨false, 0, 0, []⟩) (a2 := ⟨false, 0, 0, []⟩) (SaOk.nil n0) (SaOk.nil n1) (SaOk.nil Byts.nil)
  · exact back_run (a0 := ⟨false, 0, 0, []⟩) (a1 := ⟨false, 0, 0, []⟩) (a2 := ⟨true, _, e, _⟩) (SaOk.nil n0) (SaOk.nil n1) (⟨b2, l2, hcs.1, Nat.le_trans hcs.1.1 hcs.1.2, fun h => by cases h⟩)
  · exact back_run (a0 := ⟨false, 0, 0, []⟩) (a1 := ⟨true, _, d, _⟩) (a2 := ⟨false, 0, 0, []⟩) (SaOk.nil n0) (⟨b1, l1, hcs.1, Nat.le_trans hcs.1.1 hcs.1.2, fun h => by cases h⟩) (SaOk.nil Byts.nil)
  · exact back_run (a0 := ⟨false, 0, 0, []⟩) (a1 := ⟨true, _, d, _⟩) (a2 := ⟨true, _, e, _⟩) (SaOk.nil n0) (⟨b1, l1, hcs.1, Nat.le_trans hcs.1.1 hcs.1.2, fun h => by cases h⟩) (⟨b2, l2, hcs.2.1, Nat.le_trans hcs.2.1.1 hcs.2.1.2, fun h => by cases h⟩)
  · exact back_run (a0 := ⟨true, _, c, _⟩) (a1 := ⟨false, 0, 0, []⟩) (a2 := ⟨false, 0, 0, []⟩) (⟨b0, l0, hcs.1, Nat.le_trans hcs.1.1 hcs.1.2, fun h => by cases h⟩) (SaOk.nil n1) (SaOk.nil Byts.nil)
  · exact back_run (a0 := ⟨true, _, c, _⟩) (a1 := ⟨false, 0, 0, []⟩) (a2 := ⟨true, _, e, _⟩) (⟨b0, l0, hcs.1, Nat.le_trans hcs.1.1 hcs.1.2, fun h => by cases h⟩) (SaOk.nil n1) (⟨b2, l2, hcs.2.1, Nat.le_trans hcs.2.1.1 hcs.2.1.2, fun h => by cases h⟩)
  · exact back_run (a0 := ⟨true, _, c, _⟩) (a1 := ⟨true, _, d, _⟩) (a2 := ⟨false, 0, 0, []⟩) (⟨b0, l0, hcs.1, Nat.le_trans hcs.1.1 hcs.1.2, fun h => by cases h⟩) (⟨b1, l1, hcs.2.1, Nat.le_trans hcs.2.1.1 hcs.2.1.2, fun h => by cases h⟩) (SaOk.nil Byts.nil)
  · exact back_run (a0 := ⟨true, _, c, _⟩) (a1 := ⟨true, _, d, _⟩) (a2 := ⟨true, _, e, _⟩) (⟨b0, l0, hcs.1, Nat.le_trans hcs.1.1 hcs.1.2, fun h => by cases h⟩) (⟨b1, l1, hcs.2.1, Nat.le_trans hcs.2.1.1 hcs.2.1.2, fun h => by cases h⟩) (⟨b2, l2, hcs.2.2.1, Nat.le_trans hcs.2.2.1.1 hcs.2.2.1.2, fun h => by cases h⟩)
end Go.Proofs.Ytcmcelilollchaa
