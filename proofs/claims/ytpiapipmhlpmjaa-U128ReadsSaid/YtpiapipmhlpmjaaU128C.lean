/-
  The document's order and differences of numbers of 128 bits, way by way.
-/
import Derived.Test.YtpiapipmhlpmjaaU128B
namespace Go.Proofs.Ytpiapipmhlpmjaa
set_option linter.unusedSimpArgs false
set_option linter.unusedVariables false
open Go Go.RowKit

def prs (h1 l1 h2 l2 : Int) : List (Int × Int) := ((b16 h1 l1).zip (b16 h2 l2)).reverse
def obE : List (Int × Int) → Ob
  | [] => []
  | (x, y) :: t => (decide (x < y), false) :: (decide (x > y), false) :: obE t
theorem obE_ok : ∀ (l : List (Int × Int)), (∀ p ∈ l, p.1 = p.2) → Obs (obE l)
  | [], _ => .nil
  | (x, y) :: t, h => by
      have e : x = y := h (x, y) (by simp)
      subst e
      exact .cons (by simp) (.cons (by simp) (obE_ok t fun p hp => h p (by simp [hp])))
theorem Obs.app {a b : Ob} (h : Obs a) (k : Obs b) : Obs (a ++ b) := fun p hp => by
  rcases List.mem_append.1 hp with hp | hp
  · exact h p hp
  · exact k p hp
def ltO (p : Int × Int) : Ob := [(decide (p.1 < p.2), true)]
def gtO (p : Int × Int) : Ob := [(decide (p.1 < p.2), false), (decide (p.1 > p.2), true)]
def tapeL (j : Nat) : List Bool := List.replicate (2 * j) false ++ [true]
def tapeG (j : Nat) : List Bool := List.replicate (2 * j + 1) false ++ [true]
def prAt (h1 l1 h2 l2 : Int) (j : Nat) : Int × Int := (prs h1 l1 h2 l2).getD j (0, 0)

theorem rcmp_lt (h1 l1 h2 l2 : Int) : (j : Nat) → j < 16 → valO (vU tA) Try.prog 5 [22, 29] [] 6 19 [uv h1 l1, uv h2 l2] (tapeL j) =
    some (.int .i64 (-1), [(uwf h1 l1, true), (uwf h2 l2, true)] ++ (obE ((prs h1 l1 h2 l2).take j) ++ ltO (prAt h1 l1 h2 l2 j)))
  | 0, _ => by kernel_rfl
  | 1, _ => by kernel_rfl
  | 2, _ => by kernel_rfl
  | 3, _ => by kernel_rfl
  | 4, _ => by kernel_rfl
  | 5, _ => by kernel_rfl
  | 6, _ => by kernel_rfl
  | 7, _ => by kernel_rfl
  | 8, _ => by kernel_rfl
  | 9, _ => by kernel_rfl
  | 10, _ => by kernel_rfl
  | 11, _ => by kernel_rfl
  | 12, _ => by kernel_rfl
  | 13, _ => by kernel_rfl
  | 14, _ => by kernel_rfl
  | 15, _ => by kernel_rfl
  | n + 16, h => absurd h (by omega)
theorem rcmp_gt (h1 l1 h2 l2 : Int) : (j : Nat) → j < 16 → valO (vU tA) Try.prog 5 [22, 29] [] 6 19 [uv h1 l1, uv h2 l2] (tapeG j) =
    some (.int .i64 1, [(uwf h1 l1, true), (uwf h2 l2, true)] ++ (obE ((prs h1 l1 h2 l2).take j) ++ gtO (prAt h1 l1 h2 l2 j)))
  | 0, _ => by kernel_rfl
  | 1, _ => by kernel_rfl
  | 2, _ => by kernel_rfl
  | 3, _ => by kernel_rfl
  | 4, _ => by kernel_rfl
  | 5, _ => by kernel_rfl
  | 6, _ => by kernel_rfl
  | 7, _ => by kernel_rfl
  | 8, _ => by kernel_rfl
  | 9, _ => by kernel_rfl
  | 10, _ => by kernel_rfl
  | 11, _ => by kernel_rfl
  | 12, _ => by kernel_rfl
  | 13, _ => by kernel_rfl
  | 14, _ => by kernel_rfl
  | 15, _ => by kernel_rfl
  | n + 16, h => absurd h (by omega)
theorem rcmp_eq (h1 l1 h2 l2 : Int) : valO (vU tA) Try.prog 5 [22, 29] [] 6 19 [uv h1 l1, uv h2 l2] (List.replicate 32 false) =
    some (.int .i64 0, [(uwf h1 l1, true), (uwf h2 l2, true)] ++ obE (prs h1 l1 h2 l2)) := by kernel_rfl
theorem obs2 {a b : Bool} {x y : Bool} (h1 : a = x) (h2 : b = y) : Obs [(a, x), (b, y)] := .cons h1 (.cons h2 .nil)
theorem rcmp_any {h1 l1 h2 l2 : Int} (a1 : wf64 h1) (a2 : wf64 l1) (a3 : wf64 h2) (a4 : wf64 l2) (W : World) :
    Calls Try.prog 19 #[uv h1 l1, uv h2 l2] W fun e w' => e = .returned (.int .i64 (cmpV h1 l1 h2 l2)) ∧ Ext W w' := by
  have hv := cmL_rev (b16 h1 l1) (b16 h2 l2) (by simp [b16_len]) (b16_wf h1 l1) (b16_wf h2 l2)
  rw [vL_b16 a1 a2, vL_b16 a3 a4] at hv
  have hw : Obs [(uwf h1 l1, true), (uwf h2 l2, true)] := obs2 (uwf_mk a1 a2) (uwf_mk a3 a4)
  have hc : cmpV h1 l1 h2 l2 = cmL (prs h1 l1 h2 l2) := hv.symm
  rw [hc]
  have hlen : (prs h1 l1 h2 l2).length = 16 := by simp [prs, b16_len]
  rcases cmL_first (prs h1 l1 h2 l2) with ⟨j, x, y, hj, he, ⟨hxy, hr⟩ | ⟨hxy, hr⟩⟩ | ⟨he, hr⟩
  · have hj16 : j < 16 := by rw [← hlen]; exact (List.getElem?_eq_some_iff.1 hj).1
    have hp : prAt h1 l1 h2 l2 j = (x, y) := by simp [prAt, List.getD, hj]
    rw [hr]
    exact closedO (condX_ok xU_one) (condT_ok tA_ok) mixedU 5 [22, 29] [] 6 _ _ (tapeL j) _ _ rfl (rcmp_lt h1 l1 h2 l2 j hj16) (hw.app ((obE_ok _ he).app (by rw [hp]; exact .cons (by simpa using hxy) .nil))) (fun _ => rfl) W
  · have hj16 : j < 16 := by rw [← hlen]; exact (List.getElem?_eq_some_iff.1 hj).1
    have hp : prAt h1 l1 h2 l2 j = (x, y) := by simp [prAt, List.getD, hj]
    rw [hr]
    exact closedO (condX_ok xU_one) (condT_ok tA_ok) mixedU 5 [22, 29] [] 6 _ _ (tapeG j) _ _ rfl (rcmp_gt h1 l1 h2 l2 j hj16) (hw.app ((obE_ok _ he).app (by rw [hp]; exact .cons (by simp; omega) (.cons (by simpa using hxy) .nil)))) (fun _ => rfl) W
  · rw [hr]
    exact closedO (condX_ok xU_one) (condT_ok tA_ok) mixedU 5 [22, 29] [] 6 _ _ (List.replicate 32 false) _ _ rfl (rcmp_eq h1 l1 h2 l2) (hw.app (obE_ok _ he)) (fun _ => rfl) W
def gCmp : List Value → Option (Value × Bool)
  | [.agg ⟨[.int .u64 h1, .int .u64 l1]⟩, .agg ⟨[.int .u64 h2, .int .u64 l2]⟩] => some (.int .i64 (cmpV h1 l1 h2 l2), uwf h1 l1 && uwf h2 l2)
  | _ => none
def gAdd : List Value → Option (Value × Bool)
  | [.agg ⟨[.int .u64 h1, .int .u64 l1]⟩, .agg ⟨[.int .u64 h2, .int .u64 l2]⟩] => some (.tuple #[uv (addV h1 l1 h2 l2).1 (addV h1 l1 h2 l2).2.1, .bool (addV h1 l1 h2 l2).2.2], uwf h1 l1 && uwf h2 l2)
  | _ => none
def gSub : List Value → Option (Value × Bool)
  | [.agg ⟨[.int .u64 h1, .int .u64 l1]⟩, .agg ⟨[.int .u64 h2, .int .u64 l2]⟩] => some (.tuple #[uv (subV h1 l1 h2 l2).1 (subV h1 l1 h2 l2).2.1, .bool (subV h1 l1 h2 l2).2.2], uwf h1 l1 && uwf h2 l2)
  | _ => none
theorem uwf2_of {a b c d : Int} (h : (uwf a b && uwf c d) = true) : wf64 a ∧ wf64 b ∧ wf64 c ∧ wf64 d := by
  simp only [Bool.and_eq_true] at h
  exact ⟨(uwf_of h.1).1, (uwf_of h.1).2, (uwf_of h.2).1, (uwf_of h.2).2⟩

theorem tCmp_ok : TOne Try.prog (oneT 18 gCmp) := oneT_ok fun args v h => by
  unfold gCmp at h
  split at h
  · rename_i h1 l1 h2 l2
    simp only [Option.some.injEq, Prod.mk.injEq] at h
    obtain ⟨rfl, hc⟩ := h
    obtain ⟨a1, a2, a3, a4⟩ := uwf2_of hc
    exact ⟨fun σ args' hr => ren2 (ren_uv σ h1 l1) (ren_uv σ h2 l2) hr, fun σ => rfl, fun w => cmp_any a1 a2 a3 a4 w⟩
  · cases h
theorem tRCmp_ok : TOne Try.prog (oneT 19 gCmp) := oneT_ok fun args v h => by
  unfold gCmp at h
  split at h
  · rename_i h1 l1 h2 l2
    simp only [Option.some.injEq, Prod.mk.injEq] at h
    obtain ⟨rfl, hc⟩ := h
    obtain ⟨a1, a2, a3, a4⟩ := uwf2_of hc
    exact ⟨fun σ args' hr => ren2 (ren_uv σ h1 l1) (ren_uv σ h2 l2) hr, fun σ => rfl, fun w => rcmp_any a1 a2 a3 a4 w⟩
  · cases h
theorem tAdd_ok : TOne Try.prog (oneT 14 gAdd) := oneT_ok fun args v h => by
  unfold gAdd at h
  split at h
  · rename_i h1 l1 h2 l2
    simp only [Option.some.injEq, Prod.mk.injEq] at h
    obtain ⟨rfl, hc⟩ := h
    obtain ⟨a1, a2, a3, a4⟩ := uwf2_of hc
    exact ⟨fun σ args' hr => ren2 (ren_uv σ h1 l1) (ren_uv σ h2 l2) hr, fun σ => rfl, fun w => add_any a1 a2 a3 a4 w⟩
  · cases h
theorem tRAdd_ok : TOne Try.prog (oneT 15 gAdd) := oneT_ok fun args v h => by
  unfold gAdd at h
  split at h
  · rename_i h1 l1 h2 l2
    simp only [Option.some.injEq, Prod.mk.injEq] at h
    obtain ⟨rfl, hc⟩ := h
    obtain ⟨a1, a2, a3, a4⟩ := uwf2_of hc
    exact ⟨fun σ args' hr => ren2 (ren_uv σ h1 l1) (ren_uv σ h2 l2) hr, fun σ => rfl, fun w => radd_any a1 a2 a3 a4 w⟩
  · cases h
theorem tSub_ok : TOne Try.prog (oneT 16 gSub) := oneT_ok fun args v h => by
  unfold gSub at h
  split at h
  · rename_i h1 l1 h2 l2
    simp only [Option.some.injEq, Prod.mk.injEq] at h
    obtain ⟨rfl, hc⟩ := h
    obtain ⟨a1, a2, a3, a4⟩ := uwf2_of hc
    exact ⟨fun σ args' hr => ren2 (ren_uv σ h1 l1) (ren_uv σ h2 l2) hr, fun σ => rfl, fun w => sub_any a1 a2 a3 a4 w⟩
  · cases h

/-! ### differences -/
def sbT : List Int → List Int → Int → List Int × Int
  | x :: xs, y :: ys, c => (u8w (bif decide (i64w (i64w (i64w x - i64w y) - c) < 0) then i64w (i64w (i64w (i64w x - i64w y) - c) + 256) else i64w (i64w (i64w x - i64w y) - c)) :: (sbT xs ys (bif decide (i64w (i64w (i64w x - i64w y) - c) < 0) then 1 else 0)).1, (sbT xs ys (bif decide (i64w (i64w (i64w x - i64w y) - c) < 0) then 1 else 0)).2)
  | _, _, c => ([], c)
theorem sbT_eq : ∀ (xs ys : List Int) (c : Int), (∀ x ∈ xs, wfB x) → (∀ y ∈ ys, wfB y) → 0 ≤ c → c ≤ 1 → sbT xs ys c = sbL xs ys c
  | [], _, c, _, _, _, _ => by simp [sbT, sbL]
  | _ :: _, [], c, _, _, _, _ => by simp [sbT, sbL]
  | x :: xs, y :: ys, c, hx, hy, h0, h1 => by
      have a := hx x (by simp)
      have b := hy y (by simp)
      unfold wfB at a b
      have e1 : i64w (i64w (i64w x - i64w y) - c) = x - y - c := by
        rw [i64w_in (x := x) (by omega) (by omega), i64w_in (x := y) (by omega) (by omega), i64w_in (x := x - y) (by omega) (by omega), i64w_in (by omega) (by omega)]
      have e2 : i64w (x - y - c + 256) = x - y - c + 256 := i64w_in (by omega) (by omega)
      have e3 : u8w (bif decide (x - y - c < 0) then x - y - c + 256 else x - y - c) = (x - y - c) % 256 := by
        by_cases h : x - y - c < 0
        · simp only [h, decide_true, cond_true]; unfold u8w; rw [IntKind.wrap_u8]; omega
        · simp only [h, decide_false, cond_false]; unfold u8w; rw [IntKind.wrap_u8]
      have e4 : (bif decide (x - y - c < 0) then (1 : Int) else 0) = if x - y - c < 0 then 1 else 0 := by
        by_cases h : x - y - c < 0 <;> simp [h]
      simp only [sbT, sbL, e1, e2, e3, e4]
      rw [sbT_eq xs ys _ (fun z hz => hx z (by simp [hz])) (fun z hz => hy z (by simp [hz])) (by split <;> omega) (by split <;> omega)]
def tBm : FuncId → List Value → Hp → Nat → Option (Out × Bool) := orT tA (oneT 19 gCmp)
theorem tBm_ok : TOne Try.prog tBm := orT_ok tA_ok tRCmp_ok
end Go.Proofs.Ytpiapipmhlpmjaa
