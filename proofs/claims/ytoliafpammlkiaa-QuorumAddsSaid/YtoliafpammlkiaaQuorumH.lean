/-
  Finite facts on quorums: any two sets that are enough meet; what With adds.
-/
import Derived.Test.YtoliafpammlkiaaQuorumD
namespace Go.Proofs.Ytoliafpammlkiaa
set_option linter.unusedSimpArgs false
set_option linter.unusedVariables false
set_option linter.unusedSectionVars false

theorem meet3 : ∀ x y : Fin 8, 2 ≤ cnt x.val → 2 ≤ cnt y.val → 1 ≤ cnt (x.val &&& y.val) := by decide +kernel
theorem meet5 : ∀ x y : Fin 32, 3 ≤ cnt x.val → 3 ≤ cnt y.val → 1 ≤ cnt (x.val &&& y.val) := by decide +kernel
theorem meet7 : ∀ x y : Fin 128, 4 ≤ cnt x.val → 4 ≤ cnt y.val → 1 ≤ cnt (x.val &&& y.val) := by decide +kernel
theorem cnt3 : ∀ x : Fin 8, cnt x.val ≤ 3 := by decide +kernel
theorem cnt5 : ∀ x : Fin 32, cnt x.val ≤ 5 := by decide +kernel
theorem cnt_with : ∀ m : Fin 128, ∀ r : Fin 7, cnt (m.val ||| 2 ^ r.val) = cnt m.val + (if m.val.testBit r.val then 0 else 1) := by decide +kernel
theorem has_with : ∀ m : Fin 128, ∀ r q : Fin 7, (m.val ||| 2 ^ r.val).testBit q.val = (m.val.testBit q.val || decide (r = q)) := by decide +kernel
theorem with_lt : ∀ m : Fin 128, ∀ r : Fin 7, m.val ||| 2 ^ r.val < 128 := by decide +kernel
theorem low_nat (m : Nat) (h : m < 128) : low (m : Int) = m := by unfold low; omega

theorem low_with {s r : Int} (h0 : 0 ≤ r) (h1 : r < 7) : low (withV s r) = low s ||| 2 ^ r.toNat := by
  unfold withV
  rw [if_pos ⟨h0, h1⟩]
  exact low_nat _ (with_lt ⟨low s, low_lt s⟩ ⟨r.toNat, by omega⟩)
theorem withV_bd (s r : Int) : -9223372036854775808 ≤ withV s r ∧ withV s r ≤ 9223372036854775807 := by
  unfold withV
  split
  · rename_i h
    have := with_lt ⟨low s, low_lt s⟩ ⟨r.toNat, by omega⟩
    simp only at this
    omega
  · omega
theorem hasB_with {s r : Int} (h0 : 0 ≤ r) (h1 : r < 7) (q : Int) : hasB (low (withV s r)) q = (hasB (low s) q || decide (r = q)) := by
  rw [low_with h0 h1]
  by_cases hq : 0 ≤ q ∧ q < 7
  · obtain ⟨a, rfl⟩ := Int.eq_ofNat_of_zero_le hq.1
    obtain ⟨c, rfl⟩ := Int.eq_ofNat_of_zero_le h0
    have := has_with ⟨low s, low_lt s⟩ ⟨c, by omega⟩ ⟨a, by omega⟩
    simp only at this
    rw [Int.toNat_natCast, hasB_at _ _ (by omega), hasB_at _ _ (by omega), this]
    congr 1
    simp only [Fin.mk.injEq, decide_eq_decide]
    omega
  · have e : ∀ m, hasB m q = false := by intro m; unfold hasB; rcases (by omega : q < 0 ∨ 7 ≤ q) with h | h <;> simp <;> omega
    rw [e, e]
    simp
    omega
theorem cnt_withV {s r : Int} (h0 : 0 ≤ r) (h1 : r < 7) : cnt (low (withV s r)) = cnt (low s) + (if hasB (low s) r then 0 else 1) := by
  rw [low_with h0 h1]
  have := cnt_with ⟨low s, low_lt s⟩ ⟨r.toNat, by omega⟩
  simp only at this
  rw [this]
  obtain ⟨c, rfl⟩ := Int.eq_ofNat_of_zero_le h0
  simp only [Int.toNat_natCast]
  rw [hasB_at _ _ (by omega)]
theorem with_comm {s r q : Int} (h0 : 0 ≤ r) (h1 : r < 7) (h2 : 0 ≤ q) (h3 : q < 7) : withV (withV s r) q = withV (withV s q) r := by
  have e : ∀ t u : Int, 0 ≤ t → t < 7 → 0 ≤ u → u < 7 → withV (withV s t) u = ((low s ||| 2 ^ t.toNat ||| 2 ^ u.toNat : Nat) : Int) := by
    intro t u ht ht' hu hu'
    rw [← low_with ht ht']
    conv => lhs; unfold withV
    rw [if_pos ⟨hu, hu'⟩]
    rfl
  rw [e r q h0 h1 h2 h3, e q r h2 h3 h0 h1, Nat.or_assoc, Nat.or_comm (2 ^ r.toNat), ← Nat.or_assoc]
end Go.Proofs.Ytoliafpammlkiaa
