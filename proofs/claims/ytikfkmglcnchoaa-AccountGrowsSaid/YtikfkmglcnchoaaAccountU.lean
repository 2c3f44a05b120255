/-
  Facts on an account's flags: what the program and the document ask of them.
-/
import Derived.Test.YtikfkmglcnchoaaAccountP
namespace Go.Proofs.Ytikfkmglcnchoaa
set_option linter.unusedSimpArgs false
set_option linter.unusedVariables false
open Go.ChangeShapes Go.WideShapes Go.ChangeAt Go.RowKit

theorem and6 (x : BitVec 16) : x &&& 6#16 = (if x.getLsbD 1 then 2#16 else 0#16) ||| (if x.getLsbD 2 then 4#16 else 0#16) := by
  apply BitVec.eq_of_getLsbD_eq
  intro i hi
  rw [BitVec.getLsbD_and]
  rcases (by omega : i = 0 ∨ i = 1 ∨ i = 2 ∨ i = 3 ∨ i = 4 ∨ i = 5 ∨ i = 6 ∨ i = 7 ∨ i = 8 ∨ i = 9 ∨ i = 10 ∨ i = 11 ∨ i = 12 ∨ i = 13 ∨ i = 14 ∨ i = 15) with rfl | rfl | rfl | rfl | rfl | rfl | rfl | rfl | rfl | rfl | rfl | rfl | rfl | rfl | rfl | rfl
  all_goals (cases h : x.getLsbD 1 <;> cases h2 : x.getLsbD 2 <;> simp [h, h2] <;> decide)
theorem both6 (a : Int) : (bits .and .u16 a 6 == 6) = ((bits .and .u16 a 2 != 0) && (bits .and .u16 a 4 != 0)) := by
  rw [flag2, flag4, bits_and16, show BitVec.ofInt 16 6 = 6#16 from rfl, and6]
  cases (BitVec.ofInt 16 a).getLsbD 1 <;> cases (BitVec.ofInt 16 a).getLsbD 2 <;> decide
theorem andNot7 (a : Int) (h1 : 0 ≤ a) (h2 : a ≤ 65535) : (bits .andNot .u16 a 7 != 0) = decide (7 < a) := by
  rw [bits_andNot16]
  obtain ⟨n, rfl⟩ := Int.eq_ofNat_of_zero_le h1
  have hn : n < 65536 := by omega
  have e : (BitVec.ofInt 16 (n : Int) &&& ~~~ BitVec.ofInt 16 7).toNat = n &&& 65528 := by
    rw [BitVec.toNat_and, BitVec.ofInt_natCast, BitVec.toNat_ofNat, Nat.mod_eq_of_lt hn]
    rfl
  rw [e]
  have key : (n &&& 65528 = 0) ↔ n < 8 := by
    constructor
    · intro h
      refine Nat.lt_pow_two_of_testBit (n := 3) n fun i hi => ?_
      by_cases hi16 : i < 16
      · have hb : (n &&& 65528).testBit i = false := by rw [h]; simp
        rw [Nat.testBit_and] at hb
        have : (65528 : Nat).testBit i = true := by
          rcases (by omega : i = 3 ∨ i = 4 ∨ i = 5 ∨ i = 6 ∨ i = 7 ∨ i = 8 ∨ i = 9 ∨ i = 10 ∨ i = 11 ∨ i = 12 ∨ i = 13 ∨ i = 14 ∨ i = 15) with rfl | rfl | rfl | rfl | rfl | rfl | rfl | rfl | rfl | rfl | rfl | rfl | rfl <;> rfl
        simpa [this] using hb
      · exact Nat.testBit_lt_two_pow (Nat.lt_of_lt_of_le (show n < 2 ^ 16 from hn) (Nat.pow_le_pow_right (n := 2) (by decide) (by omega)))
    · intro h
      rcases (by omega : n = 0 ∨ n = 1 ∨ n = 2 ∨ n = 3 ∨ n = 4 ∨ n = 5 ∨ n = 6 ∨ n = 7) with rfl | rfl | rfl | rfl | rfl | rfl | rfl | rfl <;> rfl
  rw [Bool.eq_iff_iff]
  simp only [bne_iff_ne, decide_eq_true_eq, ne_eq]
  constructor
  · intro h
    have : ¬ n < 8 := fun h' => h (by rw [key.2 h']; rfl)
    omega
  · intro h h'
    have : n &&& 65528 = 0 := by omega
    have := key.1 this
    omega
end Go.Proofs.Ytikfkmglcnchoaa
