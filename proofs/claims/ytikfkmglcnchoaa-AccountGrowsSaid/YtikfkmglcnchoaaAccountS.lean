/-
  Contracts of the limits: sums of numbers of 128 bits.
-/
import Derived.Test.YtikfkmglcnchoaaAccount
namespace Go.Proofs.Ytikfkmglcnchoaa
set_option linter.unusedSimpArgs false
set_option linter.unusedVariables false
set_option linter.unusedSectionVars false
open Go.ChangeShapes Go.WideShapes Go.ChangeAt Go.RowKit
attribute [local go_sem ↓] isSome_setCell
attribute [local go_sem] setCell_setCell

def sumS (x y c : Int) : Int := (x + y + c) % 18446744073709551616
def sumC (x y c : Int) : Int := (x + y + c) / 18446744073709551616
theorem add64_run (x y c : Int) (hx : 0 ≤ x) (hy : 0 ≤ y) (hc0 : 0 ≤ c) (hc : c ≤ 1) (w : World) :
    (callFunc 28 #[.int .u64 x, .int .u64 y, .int .u64 c]).run Try.prog w = .ok (.value (.tuple #[.int .u64 (sumS x y c), .int .u64 (sumC x y c)])) w := by
  rw [run_callFunc_extern Try.func28 (by kernel_rfl) (by kernel_rfl) (by kernel_rfl) (e := add64Entry) (by kernel_rfl), run_add64 x y c hx hy hc0 hc]
  rfl
attribute [local go_sem] add64_run

/-- The number of two words. -/
def V (h l : Int) : Int := h * 18446744073709551616 + l
/-- One step of the sum: S so far. -/
theorem sum_step (S h l : Int) (hS : 0 ≤ S) (h1 : 0 ≤ h) (h2 : h ≤ 18446744073709551615) (l1 : 0 ≤ l) (l2 : l ≤ 18446744073709551615) :
    sumS (S % 18446744073709551616) l 0 = (S + V h l) % 18446744073709551616 ∧
    0 ≤ sumC (S % 18446744073709551616) l 0 ∧ sumC (S % 18446744073709551616) l 0 ≤ 1 ∧
    sumS (S / 18446744073709551616 % 18446744073709551616) h (sumC (S % 18446744073709551616) l 0) = (S + V h l) / 18446744073709551616 % 18446744073709551616 ∧
    S / 340282366920938463463374607431768211456 + sumC (S / 18446744073709551616 % 18446744073709551616) h (sumC (S % 18446744073709551616) l 0) = (S + V h l) / 340282366920938463463374607431768211456 := by
  unfold sumS sumC V
  omega

/-! ### above: the program's sum of any list -/
def sumL : List (Int × Int) → Int
  | [] => 0
  | p :: ps => sumL ps + V p.1 p.2
/-- The first k. -/
def sumK (l : List (Int × Int)) (k : Nat) : Int := (l.take k).foldl (fun s p => s + V p.1 p.2) 0
theorem sumK_succ (l : List (Int × Int)) (k : Nat) (h : k < l.length) : sumK l (k + 1) = sumK l k + V (l.getD k (0, 0)).1 (l.getD k (0, 0)).2 := by
  unfold sumK
  rw [List.take_succ_eq_append_getElem h, List.foldl_append]
  simp [h]
def pairs : List (Int × Int) → List Value
  | [] => []
  | p :: ps => .int .u64 p.1 :: .int .u64 p.2 :: pairs ps
theorem pairs_at : ∀ (l : List (Int × Int)) (k : Nat), k < l.length → (pairs l).getD (k * 2 + 0) undef = .int .u64 (l.getD k (0, 0)).1 ∧ (pairs l).getD (k * 2 + 1) undef = .int .u64 (l.getD k (0, 0)).2
  | [], _, h => by simp at h
  | p :: ps, 0, _ => ⟨rfl, rfl⟩
  | p :: ps, k + 1, hk => by
      obtain ⟨h1, h2⟩ := pairs_at ps k (by simpa using hk)
      have e1 : (k + 1) * 2 + 0 = (k * 2 + 0) + 1 + 1 := by omega
      have e2 : (k + 1) * 2 + 1 = (k * 2 + 1) + 1 + 1 := by omega
      rw [e1, e2]
      simp only [pairs, List.getD_cons_succ]
      exact ⟨h1, h2⟩
def W64 (p : Int × Int) : Prop := 0 ≤ p.1 ∧ p.1 ≤ 18446744073709551615 ∧ 0 ≤ p.2 ∧ p.2 ≤ 18446744073709551615
theorem V_bd {p : Int × Int} (h : W64 p) : 0 ≤ V p.1 p.2 ∧ V p.1 p.2 ≤ 340282366920938463463374607431768211455 := by unfold W64 at h; unfold V; omega
theorem sumK_bd (l : List (Int × Int)) (h : ∀ p ∈ l, W64 p) : ∀ k, k ≤ l.length → 0 ≤ sumK l k ∧ sumK l k ≤ k * 340282366920938463463374607431768211455
  | 0, _ => by simp [sumK]
  | k + 1, hk => by
    obtain ⟨h1, h2⟩ := sumK_bd l h k (by omega)
    rw [sumK_succ l k (by omega)]
    have hm : l.getD k (0, 0) ∈ l := by
      rw [List.getD_eq_getElem?_getD, List.getElem?_eq_getElem (by omega : k < l.length)]
      exact List.getElem_mem _
    have := V_bd (h _ hm)
    generalize V (l.getD k (0, 0)).1 (l.getD k (0, 0)).2 = v at *
    omega
/-- What the words of a sum say: more than a limit. -/
theorem above_eq (S lh ll : Int) (hS : 0 ≤ S) (h1 : 0 ≤ lh) (h2 : lh ≤ 18446744073709551615) (l1 : 0 ≤ ll) (l2 : ll ≤ 18446744073709551615) :
    (decide (0 < S / 340282366920938463463374607431768211456) || (decide (lh < S / 18446744073709551616 % 18446744073709551616) || (S / 18446744073709551616 % 18446744073709551616 == lh && decide (ll < S % 18446744073709551616)))) = decide (V lh ll < S) := by
  rw [Bool.eq_iff_iff]
  simp only [Bool.or_eq_true, Bool.and_eq_true, decide_eq_true_eq, beq_iff_eq]
  unfold V
  omega
end Go.Proofs.Ytikfkmglcnchoaa
