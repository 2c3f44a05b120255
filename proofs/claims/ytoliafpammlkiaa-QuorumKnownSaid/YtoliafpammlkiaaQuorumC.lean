/-
  Contracts of the quorum's functions: sets.
-/
import Derived.Test.YtoliafpammlkiaaQuorum
import Derived.Test.YtoliafpammlkiaaQuorumF
namespace Go.Proofs.Ytoliafpammlkiaa
set_option linter.unusedSimpArgs false
set_option linter.unusedVariables false
set_option linter.unusedSectionVars false
open Go.ChangeShapes Go.WideShapes Go.ChangeAt Go.RowKit

theorem bool_congr {a b : Bool} (h : a = b) : Ending.returned (.bool a) = .returned (.bool b) := by rw [h]

theorem test_low (s : Int) (r : Nat) (hr : r < 7) : (low s).testBit r = (s / ((2 ^ r : Nat) : Int) % 2 == 1) := by
  have hp : 0 < 2 ^ r := Nat.two_pow_pos r
  rw [Nat.testBit_eq_decide_div_mod_eq, Bool.eq_iff_iff, decide_eq_true_eq, beq_iff_eq]
  unfold low
  rcases (by omega : r = 0 ∨ r = 1 ∨ r = 2 ∨ r = 3 ∨ r = 4 ∨ r = 5 ∨ r = 6) with rfl | rfl | rfl | rfl | rfl | rfl | rfl <;> simp <;> omega
theorem has_bit (s : Int) (r : Nat) (hr : r < 7) (d : Int) (hd : d = ((2 ^ r : Nat) : Int)) : hasB (low s) (r : Int) = (bits BinOp.and IntKind.i64 (s / d) 1 == 1) := by
  subst hd
  rw [and_1, ← test_low s r hr]
  unfold hasB
  simp
  omega
theorem has_bit0 (s : Int) : hasB (low s) 0 = (bits BinOp.and IntKind.i64 s 1 == 1) := by
  have := has_bit s 0 (by omega) 1 rfl
  simpa using this

section
variable (s : Int) (h1 : -9223372036854775808 ≤ s) (h2 : s ≤ 9223372036854775807) (r : Int) (h3 : -9223372036854775808 ≤ r) (h4 : r ≤ 9223372036854775807) (w : World)
include h1 h2 h3 h4 in
theorem has_any : Calls Try.prog 15 #[.int .i64 s, .int .i64 r] w fun e w' => e = .returned (.bool (hasB (low s) r)) ∧ Ext w w' := by
  by_cases c0 : r = 0
  · subst c0
    go_enter Try.func15, Try.ntmps15
    go_wp2
    go_ret
    exact ⟨bool_congr (by first | exact (has_bit s 0 (by omega) 1 rfl).symm | exact (has_bit0 s).symm), by (repeat (first | exact Ext.refl _ | assumption | apply Ext.drew | apply Ext.alloc | (refine Ext.setCell ?_ ?_ _ <;> first | (simp; done) | (simp; omega) | omega | skip) | (refine Ext.trans ?_ (by assumption))))⟩
  by_cases c1 : r = 1
  · subst c1
    go_enter Try.func15, Try.ntmps15
    go_wp2
    go_ret
    exact ⟨bool_congr (by first | exact (has_bit s 1 (by omega) 2 rfl).symm | exact (has_bit0 s).symm), by (repeat (first | exact Ext.refl _ | assumption | apply Ext.drew | apply Ext.alloc | (refine Ext.setCell ?_ ?_ _ <;> first | (simp; done) | (simp; omega) | omega | skip) | (refine Ext.trans ?_ (by assumption))))⟩
  by_cases c2 : r = 2
  · subst c2
    go_enter Try.func15, Try.ntmps15
    go_wp2
    go_ret
    exact ⟨bool_congr (by first | exact (has_bit s 2 (by omega) 4 rfl).symm | exact (has_bit0 s).symm), by (repeat (first | exact Ext.refl _ | assumption | apply Ext.drew | apply Ext.alloc | (refine Ext.setCell ?_ ?_ _ <;> first | (simp; done) | (simp; omega) | omega | skip) | (refine Ext.trans ?_ (by assumption))))⟩
  by_cases c3 : r = 3
  · subst c3
    go_enter Try.func15, Try.ntmps15
    go_wp2
    go_ret
    exact ⟨bool_congr (by first | exact (has_bit s 3 (by omega) 8 rfl).symm | exact (has_bit0 s).symm), by (repeat (first | exact Ext.refl _ | assumption | apply Ext.drew | apply Ext.alloc | (refine Ext.setCell ?_ ?_ _ <;> first | (simp; done) | (simp; omega) | omega | skip) | (refine Ext.trans ?_ (by assumption))))⟩
  by_cases c4 : r = 4
  · subst c4
    go_enter Try.func15, Try.ntmps15
    go_wp2
    go_ret
    exact ⟨bool_congr (by first | exact (has_bit s 4 (by omega) 16 rfl).symm | exact (has_bit0 s).symm), by (repeat (first | exact Ext.refl _ | assumption | apply Ext.drew | apply Ext.alloc | (refine Ext.setCell ?_ ?_ _ <;> first | (simp; done) | (simp; omega) | omega | skip) | (refine Ext.trans ?_ (by assumption))))⟩
  by_cases c5 : r = 5
  · subst c5
    go_enter Try.func15, Try.ntmps15
    go_wp2
    go_ret
    exact ⟨bool_congr (by first | exact (has_bit s 5 (by omega) 32 rfl).symm | exact (has_bit0 s).symm), by (repeat (first | exact Ext.refl _ | assumption | apply Ext.drew | apply Ext.alloc | (refine Ext.setCell ?_ ?_ _ <;> first | (simp; done) | (simp; omega) | omega | skip) | (refine Ext.trans ?_ (by assumption))))⟩
  by_cases c6 : r = 6
  · subst c6
    go_enter Try.func15, Try.ntmps15
    go_wp2
    go_ret
    exact ⟨bool_congr (by first | exact (has_bit s 6 (by omega) 64 rfl).symm | exact (has_bit0 s).symm), by (repeat (first | exact Ext.refl _ | assumption | apply Ext.drew | apply Ext.alloc | (refine Ext.setCell ?_ ?_ _ <;> first | (simp; done) | (simp; omega) | omega | skip) | (refine Ext.trans ?_ (by assumption))))⟩
  have e1 : hasB (low s) r = false := by
    unfold hasB
    rcases (by omega : r < 0 ∨ 7 ≤ r) with h | h <;> simp <;> omega
  rw [e1]
  rcases (by omega : r < 0 ∨ 7 ≤ r) with h | h
  all_goals
    have t1 : decide (r < 7) = decide (r < 7) := rfl
    clear c0 c1 c2 c3 c4 c5 c6 e1 t1
    go_enter Try.func15, Try.ntmps15
    go_wp2
    go_ret
    exact ⟨rfl, by (repeat (first | exact Ext.refl _ | assumption | apply Ext.drew | apply Ext.alloc | (refine Ext.setCell ?_ ?_ _ <;> first | (simp; done) | (simp; omega) | omega | skip) | (refine Ext.trans ?_ (by assumption))))⟩
include h1 h2 h3 h4 in
theorem rhas_any : Calls Try.prog 17 #[.int .i64 s, .int .i64 r] w fun e w' => e = .returned (.bool (hasB (low s) r)) ∧ Ext w w' := by
  by_cases c0 : r = 0
  · subst c0
    go_enter Try.func17, Try.ntmps17
    go_wp2
    go_ret
    exact ⟨bool_congr (by first | exact (has_bit s 0 (by omega) 1 rfl).symm | exact (has_bit0 s).symm), by (repeat (first | exact Ext.refl _ | assumption | apply Ext.drew | apply Ext.alloc | (refine Ext.setCell ?_ ?_ _ <;> first | (simp; done) | (simp; omega) | omega | skip) | (refine Ext.trans ?_ (by assumption))))⟩
  by_cases c1 : r = 1
  · subst c1
    go_enter Try.func17, Try.ntmps17
    go_wp2
    go_ret
    exact ⟨bool_congr (by first | exact (has_bit s 1 (by omega) 2 rfl).symm | exact (has_bit0 s).symm), by (repeat (first | exact Ext.refl _ | assumption | apply Ext.drew | apply Ext.alloc | (refine Ext.setCell ?_ ?_ _ <;> first | (simp; done) | (simp; omega) | omega | skip) | (refine Ext.trans ?_ (by assumption))))⟩
  by_cases c2 : r = 2
  · subst c2
    go_enter Try.func17, Try.ntmps17
    go_wp2
    go_ret
    exact ⟨bool_congr (by first | exact (has_bit s 2 (by omega) 4 rfl).symm | exact (has_bit0 s).symm), by (repeat (first | exact Ext.refl _ | assumption | apply Ext.drew | apply Ext.alloc | (refine Ext.setCell ?_ ?_ _ <;> first | (simp; done) | (simp; omega) | omega | skip) | (refine Ext.trans ?_ (by assumption))))⟩
  by_cases c3 : r = 3
  · subst c3
    go_enter Try.func17, Try.ntmps17
    go_wp2
    go_ret
    exact ⟨bool_congr (by first | exact (has_bit s 3 (by omega) 8 rfl).symm | exact (has_bit0 s).symm), by (repeat (first | exact Ext.refl _ | assumption | apply Ext.drew | apply Ext.alloc | (refine Ext.setCell ?_ ?_ _ <;> first | (simp; done) | (simp; omega) | omega | skip) | (refine Ext.trans ?_ (by assumption))))⟩
  by_cases c4 : r = 4
  · subst c4
    go_enter Try.func17, Try.ntmps17
    go_wp2
    go_ret
    exact ⟨bool_congr (by first | exact (has_bit s 4 (by omega) 16 rfl).symm | exact (has_bit0 s).symm), by (repeat (first | exact Ext.refl _ | assumption | apply Ext.drew | apply Ext.alloc | (refine Ext.setCell ?_ ?_ _ <;> first | (simp; done) | (simp; omega) | omega | skip) | (refine Ext.trans ?_ (by assumption))))⟩
  by_cases c5 : r = 5
  · subst c5
    go_enter Try.func17, Try.ntmps17
    go_wp2
    go_ret
    exact ⟨bool_congr (by first | exact (has_bit s 5 (by omega) 32 rfl).symm | exact (has_bit0 s).symm), by (repeat (first | exact Ext.refl _ | assumption | apply Ext.drew | apply Ext.alloc | (refine Ext.setCell ?_ ?_ _ <;> first | (simp; done) | (simp; omega) | omega | skip) | (refine Ext.trans ?_ (by assumption))))⟩
  by_cases c6 : r = 6
  · subst c6
    go_enter Try.func17, Try.ntmps17
    go_wp2
    go_ret
    exact ⟨bool_congr (by first | exact (has_bit s 6 (by omega) 64 rfl).symm | exact (has_bit0 s).symm), by (repeat (first | exact Ext.refl _ | assumption | apply Ext.drew | apply Ext.alloc | (refine Ext.setCell ?_ ?_ _ <;> first | (simp; done) | (simp; omega) | omega | skip) | (refine Ext.trans ?_ (by assumption))))⟩
  have e1 : hasB (low s) r = false := by
    unfold hasB
    rcases (by omega : r < 0 ∨ 7 ≤ r) with h | h <;> simp <;> omega
  rw [e1]
  rcases (by omega : r < 0 ∨ 7 ≤ r) with h | h
  all_goals
    have t1 : decide (r < 7) = decide (r < 7) := rfl
    clear c0 c1 c2 c3 c4 c5 c6 e1 t1
    go_enter Try.func17, Try.ntmps17
    go_wp2
    go_ret
    exact ⟨rfl, by (repeat (first | exact Ext.refl _ | assumption | apply Ext.drew | apply Ext.alloc | (refine Ext.setCell ?_ ?_ _ <;> first | (simp; done) | (simp; omega) | omega | skip) | (refine Ext.trans ?_ (by assumption))))⟩

def withV (s r : Int) : Int := if 0 ≤ r ∧ r < 7 then ((low s ||| 2 ^ r.toNat : Nat) : Int) else 0
def withE (r : Int) : Int := if 0 ≤ r ∧ r < 7 then 0 else 5
include h1 h2 h3 h4 in
theorem with_any : Calls Try.prog 14 #[.int .i64 s, .int .i64 r] w fun e w' => e = .returned (.tuple #[.int .i64 (withV s r), .int .i64 (withE r)]) ∧ Ext w w' := by
  by_cases c0 : r = 0
  · subst c0
    go_enter Try.func14, Try.ntmps14
    go_wp2
    go_ret2
    refine ⟨ret2_int ?_ rfl, by (repeat (first | exact Ext.refl _ | assumption | apply Ext.drew | apply Ext.alloc | (refine Ext.setCell ?_ ?_ _ <;> first | (simp; done) | (simp; omega) | omega | skip) | (refine Ext.trans ?_ (by assumption))))⟩
    rw [and_127]
    exact or_pow (low s) 0 (low_lt s) (by omega)
  by_cases c1 : r = 1
  · subst c1
    go_enter Try.func14, Try.ntmps14
    go_wp2
    go_ret2
    refine ⟨ret2_int ?_ rfl, by (repeat (first | exact Ext.refl _ | assumption | apply Ext.drew | apply Ext.alloc | (refine Ext.setCell ?_ ?_ _ <;> first | (simp; done) | (simp; omega) | omega | skip) | (refine Ext.trans ?_ (by assumption))))⟩
    rw [and_127]
    exact or_pow (low s) 1 (low_lt s) (by omega)
  by_cases c2 : r = 2
  · subst c2
    go_enter Try.func14, Try.ntmps14
    go_wp2
    go_ret2
    refine ⟨ret2_int ?_ rfl, by (repeat (first | exact Ext.refl _ | assumption | apply Ext.drew | apply Ext.alloc | (refine Ext.setCell ?_ ?_ _ <;> first | (simp; done) | (simp; omega) | omega | skip) | (refine Ext.trans ?_ (by assumption))))⟩
    rw [and_127]
    exact or_pow (low s) 2 (low_lt s) (by omega)
  by_cases c3 : r = 3
  · subst c3
    go_enter Try.func14, Try.ntmps14
    go_wp2
    go_ret2
    refine ⟨ret2_int ?_ rfl, by (repeat (first | exact Ext.refl _ | assumption | apply Ext.drew | apply Ext.alloc | (refine Ext.setCell ?_ ?_ _ <;> first | (simp; done) | (simp; omega) | omega | skip) | (refine Ext.trans ?_ (by assumption))))⟩
    rw [and_127]
    exact or_pow (low s) 3 (low_lt s) (by omega)
  by_cases c4 : r = 4
  · subst c4
    go_enter Try.func14, Try.ntmps14
    go_wp2
    go_ret2
    refine ⟨ret2_int ?_ rfl, by (repeat (first | exact Ext.refl _ | assumption | apply Ext.drew | apply Ext.alloc | (refine Ext.setCell ?_ ?_ _ <;> first | (simp; done) | (simp; omega) | omega | skip) | (refine Ext.trans ?_ (by assumption))))⟩
    rw [and_127]
    exact or_pow (low s) 4 (low_lt s) (by omega)
  by_cases c5 : r = 5
  · subst c5
    go_enter Try.func14, Try.ntmps14
    go_wp2
    go_ret2
    refine ⟨ret2_int ?_ rfl, by (repeat (first | exact Ext.refl _ | assumption | apply Ext.drew | apply Ext.alloc | (refine Ext.setCell ?_ ?_ _ <;> first | (simp; done) | (simp; omega) | omega | skip) | (refine Ext.trans ?_ (by assumption))))⟩
    rw [and_127]
    exact or_pow (low s) 5 (low_lt s) (by omega)
  by_cases c6 : r = 6
  · subst c6
    go_enter Try.func14, Try.ntmps14
    go_wp2
    go_ret2
    refine ⟨ret2_int ?_ rfl, by (repeat (first | exact Ext.refl _ | assumption | apply Ext.drew | apply Ext.alloc | (refine Ext.setCell ?_ ?_ _ <;> first | (simp; done) | (simp; omega) | omega | skip) | (refine Ext.trans ?_ (by assumption))))⟩
    rw [and_127]
    exact or_pow (low s) 6 (low_lt s) (by omega)
  have e1 : withV s r = 0 := by unfold withV; rw [if_neg (by omega)]
  have e2 : withE r = 5 := by unfold withE; rw [if_neg (by omega)]
  rw [e1, e2]
  rcases (by omega : r < 0 ∨ 7 ≤ r) with h | h
  all_goals
    clear c0 c1 c2 c3 c4 c5 c6 e1 e2
    go_enter Try.func14, Try.ntmps14
    go_wp2
    go_ret2
    exact ⟨rfl, by (repeat (first | exact Ext.refl _ | assumption | apply Ext.drew | apply Ext.alloc | (refine Ext.setCell ?_ ?_ _ <;> first | (simp; done) | (simp; omega) | omega | skip) | (refine Ext.trans ?_ (by assumption))))⟩
theorem both_any (t : Int) : Calls Try.prog 13 #[.int .i64 s, .int .i64 t] w fun e w' => e = .returned (.int .i64 ((low s &&& low t : Nat) : Int)) ∧ Ext w w' := by
  go_enter Try.func13, Try.ntmps13
  go_wp2
  go_ret
  exact ⟨ret1_int (and_and_127 s t), by (repeat (first | exact Ext.refl _ | assumption | apply Ext.drew | apply Ext.alloc | (refine Ext.setCell ?_ ?_ _ <;> first | (simp; done) | (simp; omega) | omega | skip) | (refine Ext.trans ?_ (by assumption))))⟩
end

/-- The table of the ones in a byte. -/
def pop8 : ByteArray := ⟨#[0, 1, 1, 2, 1, 2, 2, 3, 1, 2, 2, 3, 2, 3, 3, 4, 1, 2, 2, 3, 2, 3, 3, 4, 2, 3, 3, 4, 3, 4, 4, 5, 1, 2, 2, 3, 2, 3, 3, 4, 2, 3, 3, 4, 3, 4, 4, 5, 2, 3, 3, 4, 3, 4, 4, 5, 3, 4, 4, 5, 4, 5, 5, 6, 1, 2, 2, 3, 2, 3, 3, 4, 2, 3, 3, 4, 3, 4, 4, 5, 2, 3, 3, 4, 3, 4, 4, 5, 3, 4, 4, 5, 4, 5, 5, 6, 2, 3, 3, 4, 3, 4, 4, 5, 3, 4, 4, 5, 4, 5, 5, 6, 3, 4, 4, 5, 4, 5, 5, 6, 4, 5, 5, 6, 5, 6, 6, 7, 1, 2, 2, 3, 2, 3, 3, 4, 2, 3, 3, 4, 3, 4, 4, 5, 2, 3, 3, 4, 3, 4, 4, 5, 3, 4, 4, 5, 4, 5, 5, 6, 2, 3, 3, 4, 3, 4, 4, 5, 3, 4, 4, 5, 4, 5, 5, 6, 3, 4, 4, 5, 4, 5, 5, 6, 4, 5, 5, 6, 5, 6, 6, 7, 2, 3, 3, 4, 3, 4, 4, 5, 3, 4, 4, 5, 4, 5, 5, 6, 3, 4, 4, 5, 4, 5, 5, 6, 4, 5, 5, 6, 5, 6, 6, 7, 3, 4, 4, 5, 4, 5, 5, 6, 4, 5, 5, 6, 5, 6, 6, 7, 4, 5, 5, 6, 5, 6, 6, 7, 5, 6, 6, 7, 6, 7, 7, 8]⟩
theorem pop8_size : pop8.size = 256 := by decide +kernel
theorem pop8_at : ∀ j : Fin 128, ∀ h : j.val < pop8.size, ((pop8[j.val]'h).toNat : Int) = ((cnt j.val : Nat) : Int) := by
  have key : ∀ j : Fin 128, (pop8.data.toList.getD j.val 0).toNat = cnt j.val := by decide +kernel
  intro j h
  rw [← key j]
  have hl : j.val < pop8.data.toList.length := by simpa using h
  rw [List.getD_eq_getElem?_getD, List.getElem?_eq_getElem hl]
  rfl
set_option maxRecDepth 100000 in
theorem ones_any (m : Nat) (h : m < 128) (w : World) : Calls Try.prog 30 #[.int .u8 m] w fun e w' => e = .returned (.int .i64 (cnt m)) ∧ Ext w w' := by
  have hm : (m : Int) < 128 := by omega
  have hc := cnt_le m
  go_enter Try.func30, Try.ntmps30
  go_wp2
  go_ret
  refine ⟨ret1_int ?_, by (repeat (first | exact Ext.refl _ | assumption | apply Ext.drew | apply Ext.alloc | (refine Ext.setCell ?_ ?_ _ <;> first | (simp; done) | (simp; omega) | omega | skip) | (refine Ext.trans ?_ (by assumption))))⟩
  have hs : m < pop8.size := by rw [pop8_size]; omega
  have key := pop8_at ⟨m, h⟩ hs
  show wrap64 (((pop8[m]'hs).toNat : Nat) : Int) = _
  rw [key]
  show wrap64 ((cnt m : Nat) : Int) = _
  exact IntWalk.wrap64_in _ ⟨by omega, by omega⟩
end Go.Proofs.Ytoliafpammlkiaa
