/-
  Facts on an account's flags.
-/
import Derived.Test.YtikfkmglcnchoaaAccount
namespace Go.Proofs.Ytikfkmglcnchoaa
set_option linter.unusedSimpArgs false
set_option linter.unusedVariables false
open Go.ChangeShapes Go.WideShapes Go.ChangeAt Go.RowKit

theorem and2 (x : BitVec 16) : x &&& 2#16 = if x.getLsbD 1 then 2#16 else 0#16 := by
  apply BitVec.eq_of_getLsbD_eq
  intro i hi
  rw [BitVec.getLsbD_and]
  rcases (by omega : i = 0 ∨ i = 1 ∨ i = 2 ∨ i = 3 ∨ i = 4 ∨ i = 5 ∨ i = 6 ∨ i = 7 ∨ i = 8 ∨ i = 9 ∨ i = 10 ∨ i = 11 ∨ i = 12 ∨ i = 13 ∨ i = 14 ∨ i = 15) with rfl | rfl | rfl | rfl | rfl | rfl | rfl | rfl | rfl | rfl | rfl | rfl | rfl | rfl | rfl | rfl
  all_goals (cases h : x.getLsbD 1 <;> simp [h] <;> decide)
theorem and4 (x : BitVec 16) : x &&& 4#16 = if x.getLsbD 2 then 4#16 else 0#16 := by
  apply BitVec.eq_of_getLsbD_eq
  intro i hi
  rw [BitVec.getLsbD_and]
  rcases (by omega : i = 0 ∨ i = 1 ∨ i = 2 ∨ i = 3 ∨ i = 4 ∨ i = 5 ∨ i = 6 ∨ i = 7 ∨ i = 8 ∨ i = 9 ∨ i = 10 ∨ i = 11 ∨ i = 12 ∨ i = 13 ∨ i = 14 ∨ i = 15) with rfl | rfl | rfl | rfl | rfl | rfl | rfl | rfl | rfl | rfl | rfl | rfl | rfl | rfl | rfl | rfl
  all_goals (cases h : x.getLsbD 2 <;> simp [h] <;> decide)
theorem bits_and16 (a b : Int) : bits .and .u16 a b = IntKind.u16.wrap ((BitVec.ofInt 16 a &&& BitVec.ofInt 16 b).toNat : Int) := rfl
theorem flag2 (a : Int) : (bits .and .u16 a 2 != 0) = (BitVec.ofInt 16 a).getLsbD 1 := by
  rw [bits_and16, show BitVec.ofInt 16 2 = 2#16 from rfl, and2]
  cases (BitVec.ofInt 16 a).getLsbD 1 <;> decide
theorem flag4 (a : Int) : (bits .and .u16 a 4 != 0) = (BitVec.ofInt 16 a).getLsbD 2 := by
  rw [bits_and16, show BitVec.ofInt 16 4 = 4#16 from rfl, and4]
  cases (BitVec.ofInt 16 a).getLsbD 2 <;> decide
theorem wrap16 (v : BitVec 16) : IntKind.u16.wrap (v.toNat : Int) = (v.toNat : Int) := by
  have := v.isLt
  have e : IntKind.u16.wrap (v.toNat : Int) = (v.toNat : Int) % 65536 := rfl
  rw [e]
  omega
theorem ofInt_nat (v : BitVec 16) : BitVec.ofInt 16 (v.toNat : Int) = v := by
  rw [BitVec.ofInt_natCast]
  simp
theorem bits_or16 (a b : Int) : bits .or .u16 a b = ((BitVec.ofInt 16 a ||| BitVec.ofInt 16 b).toNat : Int) := wrap16 _
theorem ofInt_or (a b : Int) : BitVec.ofInt 16 (bits .or .u16 a b) = BitVec.ofInt 16 a ||| BitVec.ofInt 16 b := by rw [bits_or16, ofInt_nat]
theorem bits_andNot16 (a b : Int) : bits .andNot .u16 a b = ((BitVec.ofInt 16 a &&& ~~~ BitVec.ofInt 16 b).toNat : Int) := wrap16 _
theorem ofInt_andNot (a b : Int) : BitVec.ofInt 16 (bits .andNot .u16 a b) = BitVec.ofInt 16 a &&& ~~~ BitVec.ofInt 16 b := by rw [bits_andNot16, ofInt_nat]
/-- The flags, the sides exchanged. -/
theorem swap2 (fl X Y : Int) : (bits .and .u16 (bits .or .u16 (bits .or .u16 (bits .andNot .u16 fl 6) X) Y) 2 != 0) = ((BitVec.ofInt 16 X).getLsbD 1 || (BitVec.ofInt 16 Y).getLsbD 1) := by
  rw [flag2, ofInt_or, ofInt_or, ofInt_andNot]
  simp only [BitVec.getLsbD_or, BitVec.getLsbD_and, BitVec.getLsbD_not]
  have : (BitVec.ofInt 16 6).getLsbD 1 = true := by decide
  rw [this]
  simp
theorem swap4 (fl X Y : Int) : (bits .and .u16 (bits .or .u16 (bits .or .u16 (bits .andNot .u16 fl 6) X) Y) 4 != 0) = ((BitVec.ofInt 16 X).getLsbD 2 || (BitVec.ofInt 16 Y).getLsbD 2) := by
  rw [flag4, ofInt_or, ofInt_or, ofInt_andNot]
  simp only [BitVec.getLsbD_or, BitVec.getLsbD_and, BitVec.getLsbD_not]
  have : (BitVec.ofInt 16 6).getLsbD 2 = true := by decide
  rw [this]
  simp
theorem and2v (a : Int) : bits .and .u16 a 2 = if (bits .and .u16 a 2 != 0) then 2 else 0 := by
  rw [flag2, bits_and16, show BitVec.ofInt 16 2 = 2#16 from rfl, and2]
  cases (BitVec.ofInt 16 a).getLsbD 1 <;> decide
theorem and4v (a : Int) : bits .and .u16 a 4 = if (bits .and .u16 a 4 != 0) then 4 else 0 := by
  rw [flag4, bits_and16, show BitVec.ofInt 16 4 = 4#16 from rfl, and4]
  cases (BitVec.ofInt 16 a).getLsbD 2 <;> decide
end Go.Proofs.Ytikfkmglcnchoaa
