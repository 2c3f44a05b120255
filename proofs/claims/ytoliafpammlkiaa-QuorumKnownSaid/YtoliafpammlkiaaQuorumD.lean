/-
  Contracts of the quorum's functions: how many are in a set, whether enough are.
-/
import Derived.Test.YtoliafpammlkiaaQuorumC
import Derived.Test.YtoliafpammlkiaaOwn
import Derived.LoopTactic
namespace Go.Proofs.Ytoliafpammlkiaa
set_option linter.unusedSimpArgs false
set_option linter.unusedVariables false
set_option linter.unusedSectionVars false
open Go.ChangeShapes Go.WideShapes Go.ChangeAt Go.RowKit
attribute [local go_sem] and_127

def fullB (s n : Int) : Bool := if n = 3 then decide (2 ≤ cnt (low (s % 8))) else if n = 5 then decide (3 ≤ cnt (low (s % 32))) else if n = 7 then decide (4 ≤ cnt (low (s % 128))) else false
def cntK (m k : Nat) : Nat := ((List.range k).filter fun i => m.testBit i).length
def memK (m k : Nat) : List Int := List.map (fun (i : Nat) => (i : Int)) ((List.range k).filter fun i => m.testBit i)
theorem cntK_succ (m k : Nat) : cntK m (k + 1) = if m.testBit k then cntK m k + 1 else cntK m k := by
  unfold cntK
  rw [List.range_succ, List.filter_append]
  by_cases h : m.testBit k <;> simp [h]
theorem memK_succ (m k : Nat) : memK m (k + 1) = if m.testBit k then memK m k ++ [(k : Int)] else memK m k := by
  unfold memK
  rw [List.range_succ, List.filter_append]
  by_cases h : m.testBit k <;> simp [h]
theorem cntK_le (m k : Nat) : cntK m k ≤ k := by unfold cntK; exact Nat.le_trans (List.length_filter_le _ _) (by simp)
theorem memK_len (m k : Nat) : (memK m k).length = cntK m k := by simp [memK, cntK]
theorem hasB_at (m k : Nat) (h : k < 7) : hasB m (k : Int) = m.testBit k := by unfold hasB; simp; omega
theorem cntK_full : ∀ m : Fin 128, cntK m.val 3 = cnt (m.val % 8) ∧ cntK m.val 5 = cnt (m.val % 32) ∧ cntK m.val 7 = cnt m.val := by decide +kernel
theorem low_mod8 (s : Int) : low (s % 8) = low s % 8 := by unfold low; omega
theorem low_mod32 (s : Int) : low (s % 32) = low s % 32 := by unfold low; omega
theorem low_mod128 (s : Int) : low (s % 128) = low s := by unfold low; omega

section
variable (s : Int) (h1 : -9223372036854775808 ≤ s) (h2 : s ≤ 9223372036854775807) (n : Int) (h3 : -9223372036854775808 ≤ n) (h4 : n ≤ 9223372036854775807) (w : World)
include h1 h2
theorem count_any : Calls Try.prog 12 #[.int .i64 s] w fun e w' => e = .returned (.int .i64 (cnt (low s))) ∧ Ext w w' := by
  have hl := low_lt s
  have hl' : (low s : Int) < 128 := by omega
  have hl'' : (0 : Int) ≤ (low s : Int) := by omega
  generalize hm : low s = m at hl hl' hl''
  have HM := Lib.hid hm
  have e1 : bits .and .i64 s 127 = (m : Int) := by rw [and_127, hm]
  clear hm
  go_enter Try.func12, Try.ntmps12
  go_wp2_with fail
  (go_at_call 30; refine ((ones_any m hl _)).mono ?_; rintro e w1 ⟨rfl, hb1⟩; have hz_ := Ext.size hb1; (try simp only [World.size_alloc, World.size_setCell, World.size_drew] at hz_); )
  go_wp2_with fail
  go_ret
  exact ⟨rfl, by (repeat (first | exact Ext.refl _ | assumption | apply Ext.drew | apply Ext.alloc | (refine Ext.setCell ?_ ?_ _ <;> first | (simp; done) | (simp; omega) | omega | skip) | (refine Ext.trans ?_ (by assumption))))⟩
include h3 h4
theorem full_any : Calls Try.prog 11 #[.int .i64 s, .int .i64 n] w fun e w' => e = .returned (.bool (fullB s n)) ∧ Ext w w' := by
  by_cases c3 : n = 3
  · subst c3
    have e1 : bits .and .i64 s 7 = s % 8 := and_mask s 3 (by omega) 7 rfl
    have e2 : fullB s 3 = decide ((3 : Int) / 2 + 1 ≤ (cnt (low (s % 8)) : Int)) := by unfold fullB; simp; omega
    have hm : -9223372036854775808 ≤ s % 8 ∧ s % 8 ≤ 9223372036854775807 := by omega
    rw [e2]
    clear e2
    go_enter Try.func11, Try.ntmps11
    go_wp2_with fail
    (go_at_call 21; refine ((enough_any _ (by omega) (by omega) _)).mono ?_; rintro e w1 ⟨rfl, hb1⟩; have hz_ := Ext.size hb1; (try simp only [World.size_alloc, World.size_setCell, World.size_drew] at hz_); )
    have e3 : chk 3 = 0 := rfl
    have e4 : enough 3 = 3 / 2 + 1 := rfl
    go_wp2_with fail
    (go_at_call 12; refine ((count_any _ hm.1 hm.2 _)).mono ?_; rintro e w2 ⟨rfl, hb2⟩; have hz_ := Ext.size hb2; (try simp only [World.size_alloc, World.size_setCell, World.size_drew] at hz_); )
    go_wp2_with fail
    go_ret
    exact ⟨bool_congr (by simp), by (repeat (first | exact Ext.refl _ | assumption | apply Ext.drew | apply Ext.alloc | (refine Ext.setCell ?_ ?_ _ <;> first | (simp; done) | (simp; omega) | omega | skip) | (refine Ext.trans ?_ (by assumption))))⟩
  by_cases c5 : n = 5
  · subst c5
    have e1 : bits .and .i64 s 31 = s % 32 := and_mask s 5 (by omega) 31 rfl
    have e2 : fullB s 5 = decide ((5 : Int) / 2 + 1 ≤ (cnt (low (s % 32)) : Int)) := by unfold fullB; simp; omega
    have hm : -9223372036854775808 ≤ s % 32 ∧ s % 32 ≤ 9223372036854775807 := by omega
    rw [e2]
    clear e2
    go_enter Try.func11, Try.ntmps11
    go_wp2_with fail
    (go_at_call 21; refine ((enough_any _ (by omega) (by omega) _)).mono ?_; rintro e w1 ⟨rfl, hb1⟩; have hz_ := Ext.size hb1; (try simp only [World.size_alloc, World.size_setCell, World.size_drew] at hz_); )
    have e3 : chk 5 = 0 := rfl
    have e4 : enough 5 = 5 / 2 + 1 := rfl
    go_wp2_with fail
    (go_at_call 12; refine ((count_any _ hm.1 hm.2 _)).mono ?_; rintro e w2 ⟨rfl, hb2⟩; have hz_ := Ext.size hb2; (try simp only [World.size_alloc, World.size_setCell, World.size_drew] at hz_); )
    go_wp2_with fail
    go_ret
    exact ⟨bool_congr (by simp), by (repeat (first | exact Ext.refl _ | assumption | apply Ext.drew | apply Ext.alloc | (refine Ext.setCell ?_ ?_ _ <;> first | (simp; done) | (simp; omega) | omega | skip) | (refine Ext.trans ?_ (by assumption))))⟩
  by_cases c7 : n = 7
  · subst c7
    have e1 : bits .and .i64 s 127 = s % 128 := and_mask s 7 (by omega) 127 rfl
    have e2 : fullB s 7 = decide ((7 : Int) / 2 + 1 ≤ (cnt (low (s % 128)) : Int)) := by unfold fullB; simp; omega
    have hm : -9223372036854775808 ≤ s % 128 ∧ s % 128 ≤ 9223372036854775807 := by omega
    rw [e2]
    clear e2
    go_enter Try.func11, Try.ntmps11
    go_wp2_with fail
    (go_at_call 21; refine ((enough_any _ (by omega) (by omega) _)).mono ?_; rintro e w1 ⟨rfl, hb1⟩; have hz_ := Ext.size hb1; (try simp only [World.size_alloc, World.size_setCell, World.size_drew] at hz_); )
    have e3 : chk 7 = 0 := rfl
    have e4 : enough 7 = 7 / 2 + 1 := rfl
    go_wp2_with fail
    (go_at_call 12; refine ((count_any _ hm.1 hm.2 _)).mono ?_; rintro e w2 ⟨rfl, hb2⟩; have hz_ := Ext.size hb2; (try simp only [World.size_alloc, World.size_setCell, World.size_drew] at hz_); )
    go_wp2_with fail
    go_ret
    exact ⟨bool_congr (by simp), by (repeat (first | exact Ext.refl _ | assumption | apply Ext.drew | apply Ext.alloc | (refine Ext.setCell ?_ ?_ _ <;> first | (simp; done) | (simp; omega) | omega | skip) | (refine Ext.trans ?_ (by assumption))))⟩
  have e1 : fullB s n = false := by unfold fullB; rw [if_neg c3, if_neg c5, if_neg c7]
  have e2 : (chk n == 0) = false := by unfold chk; rw [if_neg (by omega)]; rfl
  rw [e1]
  clear c3 c5 c7 e1
  go_enter Try.func11, Try.ntmps11
  go_wp2_with fail
  (go_at_call 21; refine ((enough_any _ h3 h4 _)).mono ?_; rintro e w1 ⟨rfl, hb1⟩; have hz_ := Ext.size hb1; (try simp only [World.size_alloc, World.size_setCell, World.size_drew] at hz_); )
  go_wp2_with fail
  go_ret
  exact ⟨rfl, by (repeat (first | exact Ext.refl _ | assumption | apply Ext.drew | apply Ext.alloc | (refine Ext.setCell ?_ ?_ _ <;> first | (simp; done) | (simp; omega) | omega | skip) | (refine Ext.trans ?_ (by assumption))))⟩
end
end Go.Proofs.Ytoliafpammlkiaa
