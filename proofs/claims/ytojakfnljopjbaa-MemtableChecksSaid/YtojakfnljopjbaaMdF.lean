/-
  Chapter 12: the statement MemtableChecks: keys compared, in two ways.
-/
import Derived.Test.YtojakfnljopjbaaMdE
namespace Go.Proofs.Ytojakfnljopjbaa
set_option linter.unusedSimpArgs false
set_option linter.unusedVariables false
set_option linter.unusedSectionVars false
open Go Go.RowKit
theorem cmp_less : ∀ (l m : List Int), (∀ x ∈ l, 0 ≤ x ∧ x < 256) → (∀ x ∈ m, 0 ≤ x ∧ x < 256) → Op.bytesLess (l.map fun n => UInt8.ofNat n.toNat) (m.map fun n => UInt8.ofNat n.toNat) = !decide (cmpI l m ≥ 0)
  | [], [], _, _ => rfl
  | [], _ :: _, _, _ => rfl
  | _ :: _, [], _, _ => rfl
  | a :: l, b :: m, hl, hm => by
      have ih := cmp_less l m (fun x h => hl x (by simp [h])) (fun x h => hm x (by simp [h]))
      have ha := hl a (by simp)
      have hb := hm b (by simp)
      have h1 := u8_lt ha hb
      have e : (UInt8.ofNat a.toNat == UInt8.ofNat b.toNat) = decide (a = b) := by
        have h2 := u8_lt hb ha
        have : (UInt8.ofNat a.toNat = UInt8.ofNat b.toNat) ↔ a = b := by
          constructor
          · intro e
            have h3 : ¬ (a < b) := by rw [← h1]; show ¬ (UInt8.ofNat a.toNat < UInt8.ofNat b.toNat); rw [e]; exact fun h => absurd (UInt8.lt_iff_toNat_lt.1 h) (Nat.lt_irrefl _)
            have h4 : ¬ (b < a) := by rw [← h2]; show ¬ (UInt8.ofNat b.toNat < UInt8.ofNat a.toNat); rw [e]; exact fun h => absurd (UInt8.lt_iff_toNat_lt.1 h) (Nat.lt_irrefl _)
            omega
          · intro e; rw [e]
        by_cases h : a = b
        · simp [h]
        · have h' : ¬ (UInt8.ofNat a.toNat = UInt8.ofNat b.toNat) := fun e => h (this.1 e)
          simp [h, h']
      have h1' : (UInt8.ofNat a.toNat < UInt8.ofNat b.toNat) = (a < b) := h1
      simp only [List.map_cons, Op.bytesLess, cmpI, e, h1', ih]
      by_cases h2 : a < b
      · simp [h2]
      · by_cases h3 : b < a
        · have : ¬ a = b := by omega
          simp [h2, h3, this]
        · have : a = b := by omega
          simp [h2, h3, this]
end Go.Proofs.Ytojakfnljopjbaa
