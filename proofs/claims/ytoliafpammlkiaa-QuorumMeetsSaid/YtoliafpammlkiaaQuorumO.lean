/-
  The walk of QuorumMeets.
-/
import Derived.Test.YtoliafpammlkiaaQuorumL
import Derived.Test.YtoliafpammlkiaaQuorumH
namespace Go.Proofs.Ytoliafpammlkiaa
set_option linter.unusedSimpArgs false
set_option linter.unusedVariables false
set_option linter.unusedSectionVars false
open Go.ChangeShapes Go.WideShapes Go.ChangeAt Go.RowKit

theorem low_and (x y : Nat) (hx : x < 128) : low ((x &&& y : Nat) : Int) = x &&& y := low_nat _ (Nat.lt_of_le_of_lt Nat.and_le_left hx)

theorem fullB3 (a : Int) : fullB (a % 8) 3 = decide ((2 : Int) ≤ (cnt (low (a % 8)) : Int)) := by
  unfold fullB
  rw [if_pos rfl, show a % 8 % 8 = a % 8 from by omega, decide_eq_decide]
  omega
theorem fullB5 (a : Int) : fullB (a % 32) 5 = decide ((3 : Int) ≤ (cnt (low (a % 32)) : Int)) := by
  unfold fullB
  rw [if_neg (by omega), if_pos rfl, show a % 32 % 32 = a % 32 from by omega, decide_eq_decide]
  omega
theorem fullB7 (a : Int) : fullB (a % 128) 7 = decide ((4 : Int) ≤ (cnt (low (a % 128)) : Int)) := by
  unfold fullB
  rw [if_neg (by omega), if_neg (by omega), if_pos rfl, show a % 128 % 128 = a % 128 from by omega, decide_eq_decide]
  omega
set_option maxHeartbeats 1000000 in
theorem meets3 (a b : Int) (ha1 : -9223372036854775808 ≤ a) (ha2 : a ≤ 9223372036854775807) (hb1 : -9223372036854775808 ≤ b) (hb2 : b ≤ 9223372036854775807) (w : World) :
    Calls Try.prog 3 #[.int .i64 a, .int .i64 b, .int .i64 3] w fun e w' => e = .returned (.bool true) ∧ Ext w w' := by
  have ea : bits BinOp.and IntKind.i64 a 7 = a % 8 := and_mask a 3 (by omega) 7 rfl
  have eb : bits BinOp.and IntKind.i64 b 7 = b % 8 := and_mask b 3 (by omega) 7 rfl
  have xa : low (a % 8) < 8 := by unfold low; omega
  have xb : low (b % 8) < 8 := by unfold low; omega
  have hm := meet3 ⟨_, xa⟩ ⟨_, xb⟩
  have hcA : cnt (low (a % 8)) ≤ 3 := cnt3 ⟨_, xa⟩
  simp only at hm
  have fa : fullB (a % 8) 3 = decide ((2 : Int) ≤ (cnt (low (a % 8)) : Int)) := fullB3 _
  have fb : fullB (b % 8) 3 = decide ((2 : Int) ≤ (cnt (low (b % 8)) : Int)) := fullB3 _
  have xl := low_and (low (a % 8)) (low (b % 8)) (low_lt _)
  have ba : -9223372036854775808 ≤ a % 8 ∧ a % 8 ≤ 9223372036854775807 := by omega
  have bb : -9223372036854775808 ≤ b % 8 ∧ b % 8 ≤ 9223372036854775807 := by omega
  have xand : -9223372036854775808 ≤ ((low (a % 8) &&& low (b % 8) : Nat) : Int) ∧ ((low (a % 8) &&& low (b % 8) : Nat) : Int) ≤ 9223372036854775807 := by
    have := Nat.lt_of_le_of_lt (Nat.and_le_left (n := low (a % 8)) (m := low (b % 8))) xa
    omega
  rw [← xl] at hm
  have e1 : flt 3 = 1 := rfl
  have e2 : chk 3 = 0 := rfl
  generalize a % 8 = A at *
  generalize b % 8 = B at *
  clear xl xa xb
  generalize hAB : ((low A &&& low B : Nat) : Int) = D at *
  generalize hcx : (cnt (low A) : Int) = cx at *
  generalize hcy : (cnt (low B) : Int) = cy at *
  generalize hcd : (cnt (low D) : Int) = cd at *
  have hb1 : 0 ≤ cx := by omega
  have hb2 : cx ≤ 3 := by omega
  have hb3 : 2 ≤ cx → 2 ≤ cy → 1 ≤ cd := by omega
  clear hm hcA
  have HB := Lib.hid hb3
  clear hb3
  by_cases hx : 2 ≤ cx
  · have fa' : fullB A 3 = true := by rw [fa]; simpa using hx
    have u1 : decide (3 - cx ≤ 1) = true := by simp; omega
    have u2 : decide (1 < cx) = true := by simp; omega
    clear fa
    by_cases hy : 2 ≤ cy
    · have fb' : fullB B 3 = true := by rw [fb]; simpa using hy
      have hd := HB.out hx hy
      have u3 : decide (cd < 1) = false := by simp; omega
      clear fb
      go_enter Try.func3, Try.ntmps3
      go_wp2_with fail
      (go_at_call 9; refine ((awake_any _)).mono ?_; rintro e w1 ⟨rfl, hx1⟩; have hz_ := Ext.size hx1; (try simp only [World.size_alloc, World.size_setCell, World.size_drew] at hz_); )
      go_wp2_with fail
      (go_at_call 10; refine ((faults_any _ (by omega) (by omega) _)).mono ?_; rintro e w2 ⟨rfl, hx2⟩; have hz_ := Ext.size hx2; (try simp only [World.size_alloc, World.size_setCell, World.size_drew] at hz_); )
      go_wp2_with fail
      (go_at_call 11; refine ((full_any _ ba.1 ba.2 _ (by omega) (by omega) _)).mono ?_; rintro e w3 ⟨rfl, hx3⟩; have hz_ := Ext.size hx3; (try simp only [World.size_alloc, World.size_setCell, World.size_drew] at hz_); )
      go_wp2_with fail
      (go_at_call 11; refine ((full_any _ bb.1 bb.2 _ (by omega) (by omega) _)).mono ?_; rintro e w4 ⟨rfl, hx4⟩; have hz_ := Ext.size hx4; (try simp only [World.size_alloc, World.size_setCell, World.size_drew] at hz_); )
      go_wp2_with fail
      (go_at_call 13; refine ((both_any _ _ _)).mono ?_; rintro e w5 ⟨rfl, hx5⟩; have hz_ := Ext.size hx5; (try simp only [World.size_alloc, World.size_setCell, World.size_drew] at hz_); )
      go_wp2_with fail
      (go_at_call 12; refine ((count_any _ xand.1 xand.2 _)).mono ?_; rintro e w6 ⟨rfl, hx6⟩; have hz_ := Ext.size hx6; (try simp only [World.size_alloc, World.size_setCell, World.size_drew] at hz_); )
      go_wp2_with fail
      (go_at_call 12; refine ((count_any _ ba.1 ba.2 _)).mono ?_; rintro e w7 ⟨rfl, hx7⟩; have hz_ := Ext.size hx7; (try simp only [World.size_alloc, World.size_setCell, World.size_drew] at hz_); )
      go_wp2_with fail
      (go_at_call 11; refine ((full_any _ ba.1 ba.2 _ (by omega) (by omega) _)).mono ?_; rintro e w8 ⟨rfl, hx8⟩; have hz_ := Ext.size hx8; (try simp only [World.size_alloc, World.size_setCell, World.size_drew] at hz_); )
      go_wp2_with fail
      (go_at_call 11; refine ((full_any _ ba.1 ba.2 _ (by omega) (by omega) _)).mono ?_; rintro e w9 ⟨rfl, hx9⟩; have hz_ := Ext.size hx9; (try simp only [World.size_alloc, World.size_setCell, World.size_drew] at hz_); )
      go_wp2_with fail
      (go_at_call 12; refine ((count_any _ ba.1 ba.2 _)).mono ?_; rintro e w10 ⟨rfl, hx10⟩; have hz_ := Ext.size hx10; (try simp only [World.size_alloc, World.size_setCell, World.size_drew] at hz_); )
      go_wp2_with fail
      go_ret
      exact ⟨rfl, by (repeat (first | exact Ext.refl _ | assumption | apply Ext.drew | apply Ext.alloc | (refine Ext.setCell ?_ ?_ _ <;> first | (simp; done) | (simp; omega) | omega | skip) | (refine Ext.trans ?_ (by assumption))))⟩
    · have fb' : fullB B 3 = false := by rw [fb]; simpa using hy
      clear fb
      go_enter Try.func3, Try.ntmps3
      go_wp2_with fail
      (go_at_call 9; refine ((awake_any _)).mono ?_; rintro e w1 ⟨rfl, hx1⟩; have hz_ := Ext.size hx1; (try simp only [World.size_alloc, World.size_setCell, World.size_drew] at hz_); )
      go_wp2_with fail
      (go_at_call 10; refine ((faults_any _ (by omega) (by omega) _)).mono ?_; rintro e w2 ⟨rfl, hx2⟩; have hz_ := Ext.size hx2; (try simp only [World.size_alloc, World.size_setCell, World.size_drew] at hz_); )
      go_wp2_with fail
      (go_at_call 11; refine ((full_any _ ba.1 ba.2 _ (by omega) (by omega) _)).mono ?_; rintro e w3 ⟨rfl, hx3⟩; have hz_ := Ext.size hx3; (try simp only [World.size_alloc, World.size_setCell, World.size_drew] at hz_); )
      go_wp2_with fail
      (go_at_call 11; refine ((full_any _ bb.1 bb.2 _ (by omega) (by omega) _)).mono ?_; rintro e w4 ⟨rfl, hx4⟩; have hz_ := Ext.size hx4; (try simp only [World.size_alloc, World.size_setCell, World.size_drew] at hz_); )
      go_wp2_with fail
      (go_at_call 12; refine ((count_any _ ba.1 ba.2 _)).mono ?_; rintro e w7 ⟨rfl, hx7⟩; have hz_ := Ext.size hx7; (try simp only [World.size_alloc, World.size_setCell, World.size_drew] at hz_); )
      go_wp2_with fail
      (go_at_call 11; refine ((full_any _ ba.1 ba.2 _ (by omega) (by omega) _)).mono ?_; rintro e w8 ⟨rfl, hx8⟩; have hz_ := Ext.size hx8; (try simp only [World.size_alloc, World.size_setCell, World.size_drew] at hz_); )
      go_wp2_with fail
      (go_at_call 11; refine ((full_any _ ba.1 ba.2 _ (by omega) (by omega) _)).mono ?_; rintro e w9 ⟨rfl, hx9⟩; have hz_ := Ext.size hx9; (try simp only [World.size_alloc, World.size_setCell, World.size_drew] at hz_); )
      go_wp2_with fail
      (go_at_call 12; refine ((count_any _ ba.1 ba.2 _)).mono ?_; rintro e w10 ⟨rfl, hx10⟩; have hz_ := Ext.size hx10; (try simp only [World.size_alloc, World.size_setCell, World.size_drew] at hz_); )
      go_wp2_with fail
      go_ret
      exact ⟨rfl, by (repeat (first | exact Ext.refl _ | assumption | apply Ext.drew | apply Ext.alloc | (refine Ext.setCell ?_ ?_ _ <;> first | (simp; done) | (simp; omega) | omega | skip) | (refine Ext.trans ?_ (by assumption))))⟩
  · have fa' : fullB A 3 = false := by rw [fa]; simpa using hx
    have u1 : decide (3 - cx ≤ 1) = false := by simp; omega
    have u2 : decide (1 < cx) = false := by simp; omega
    clear fa
    go_enter Try.func3, Try.ntmps3
    go_wp2_with fail
    (go_at_call 9; refine ((awake_any _)).mono ?_; rintro e w1 ⟨rfl, hx1⟩; have hz_ := Ext.size hx1; (try simp only [World.size_alloc, World.size_setCell, World.size_drew] at hz_); )
    go_wp2_with fail
    (go_at_call 10; refine ((faults_any _ (by omega) (by omega) _)).mono ?_; rintro e w2 ⟨rfl, hx2⟩; have hz_ := Ext.size hx2; (try simp only [World.size_alloc, World.size_setCell, World.size_drew] at hz_); )
    go_wp2_with fail
    (go_at_call 11; refine ((full_any _ ba.1 ba.2 _ (by omega) (by omega) _)).mono ?_; rintro e w3 ⟨rfl, hx3⟩; have hz_ := Ext.size hx3; (try simp only [World.size_alloc, World.size_setCell, World.size_drew] at hz_); )
    go_wp2_with fail
    (go_at_call 12; refine ((count_any _ ba.1 ba.2 _)).mono ?_; rintro e w7 ⟨rfl, hx7⟩; have hz_ := Ext.size hx7; (try simp only [World.size_alloc, World.size_setCell, World.size_drew] at hz_); )
    go_wp2_with fail
    (go_at_call 11; refine ((full_any _ ba.1 ba.2 _ (by omega) (by omega) _)).mono ?_; rintro e w8 ⟨rfl, hx8⟩; have hz_ := Ext.size hx8; (try simp only [World.size_alloc, World.size_setCell, World.size_drew] at hz_); )
    go_wp2_with fail
    (go_at_call 11; refine ((full_any _ ba.1 ba.2 _ (by omega) (by omega) _)).mono ?_; rintro e w9 ⟨rfl, hx9⟩; have hz_ := Ext.size hx9; (try simp only [World.size_alloc, World.size_setCell, World.size_drew] at hz_); )
    go_wp2_with fail
    (go_at_call 12; refine ((count_any _ ba.1 ba.2 _)).mono ?_; rintro e w10 ⟨rfl, hx10⟩; have hz_ := Ext.size hx10; (try simp only [World.size_alloc, World.size_setCell, World.size_drew] at hz_); )
    go_wp2_with fail
    go_ret
    exact ⟨rfl, by (repeat (first | exact Ext.refl _ | assumption | apply Ext.drew | apply Ext.alloc | (refine Ext.setCell ?_ ?_ _ <;> first | (simp; done) | (simp; omega) | omega | skip) | (refine Ext.trans ?_ (by assumption))))⟩
set_option maxHeartbeats 1000000 in
theorem meets5 (a b : Int) (ha1 : -9223372036854775808 ≤ a) (ha2 : a ≤ 9223372036854775807) (hb1 : -9223372036854775808 ≤ b) (hb2 : b ≤ 9223372036854775807) (w : World) :
    Calls Try.prog 3 #[.int .i64 a, .int .i64 b, .int .i64 5] w fun e w' => e = .returned (.bool true) ∧ Ext w w' := by
  have ea : bits BinOp.and IntKind.i64 a 31 = a % 32 := and_mask a 5 (by omega) 31 rfl
  have eb : bits BinOp.and IntKind.i64 b 31 = b % 32 := and_mask b 5 (by omega) 31 rfl
  have xa : low (a % 32) < 32 := by unfold low; omega
  have xb : low (b % 32) < 32 := by unfold low; omega
  have hm := meet5 ⟨_, xa⟩ ⟨_, xb⟩
  have hcA : cnt (low (a % 32)) ≤ 5 := cnt5 ⟨_, xa⟩
  simp only at hm
  have fa : fullB (a % 32) 5 = decide ((3 : Int) ≤ (cnt (low (a % 32)) : Int)) := fullB5 _
  have fb : fullB (b % 32) 5 = decide ((3 : Int) ≤ (cnt (low (b % 32)) : Int)) := fullB5 _
  have xl := low_and (low (a % 32)) (low (b % 32)) (low_lt _)
  have ba : -9223372036854775808 ≤ a % 32 ∧ a % 32 ≤ 9223372036854775807 := by omega
  have bb : -9223372036854775808 ≤ b % 32 ∧ b % 32 ≤ 9223372036854775807 := by omega
  have xand : -9223372036854775808 ≤ ((low (a % 32) &&& low (b % 32) : Nat) : Int) ∧ ((low (a % 32) &&& low (b % 32) : Nat) : Int) ≤ 9223372036854775807 := by
    have := Nat.lt_of_le_of_lt (Nat.and_le_left (n := low (a % 32)) (m := low (b % 32))) xa
    omega
  rw [← xl] at hm
  have e1 : flt 5 = 2 := rfl
  have e2 : chk 5 = 0 := rfl
  generalize a % 32 = A at *
  generalize b % 32 = B at *
  clear xl xa xb
  generalize hAB : ((low A &&& low B : Nat) : Int) = D at *
  generalize hcx : (cnt (low A) : Int) = cx at *
  generalize hcy : (cnt (low B) : Int) = cy at *
  generalize hcd : (cnt (low D) : Int) = cd at *
  have hb1 : 0 ≤ cx := by omega
  have hb2 : cx ≤ 5 := by omega
  have hb3 : 3 ≤ cx → 3 ≤ cy → 1 ≤ cd := by omega
  clear hm hcA
  have HB := Lib.hid hb3
  clear hb3
  by_cases hx : 3 ≤ cx
  · have fa' : fullB A 5 = true := by rw [fa]; simpa using hx
    have u1 : decide (5 - cx ≤ 2) = true := by simp; omega
    have u2 : decide (2 < cx) = true := by simp; omega
    clear fa
    by_cases hy : 3 ≤ cy
    · have fb' : fullB B 5 = true := by rw [fb]; simpa using hy
      have hd := HB.out hx hy
      have u3 : decide (cd < 1) = false := by simp; omega
      clear fb
      go_enter Try.func3, Try.ntmps3
      go_wp2_with fail
      (go_at_call 9; refine ((awake_any _)).mono ?_; rintro e w1 ⟨rfl, hx1⟩; have hz_ := Ext.size hx1; (try simp only [World.size_alloc, World.size_setCell, World.size_drew] at hz_); )
      go_wp2_with fail
      (go_at_call 10; refine ((faults_any _ (by omega) (by omega) _)).mono ?_; rintro e w2 ⟨rfl, hx2⟩; have hz_ := Ext.size hx2; (try simp only [World.size_alloc, World.size_setCell, World.size_drew] at hz_); )
      go_wp2_with fail
      (go_at_call 11; refine ((full_any _ ba.1 ba.2 _ (by omega) (by omega) _)).mono ?_; rintro e w3 ⟨rfl, hx3⟩; have hz_ := Ext.size hx3; (try simp only [World.size_alloc, World.size_setCell, World.size_drew] at hz_); )
      go_wp2_with fail
      (go_at_call 11; refine ((full_any _ bb.1 bb.2 _ (by omega) (by omega) _)).mono ?_; rintro e w4 ⟨rfl, hx4⟩; have hz_ := Ext.size hx4; (try simp only [World.size_alloc, World.size_setCell, World.size_drew] at hz_); )
      go_wp2_with fail
      (go_at_call 13; refine ((both_any _ _ _)).mono ?_; rintro e w5 ⟨rfl, hx5⟩; have hz_ := Ext.size hx5; (try simp only [World.size_alloc, World.size_setCell, World.size_drew] at hz_); )
      go_wp2_with fail
      (go_at_call 12; refine ((count_any _ xand.1 xand.2 _)).mono ?_; rintro e w6 ⟨rfl, hx6⟩; have hz_ := Ext.size hx6; (try simp only [World.size_alloc, World.size_setCell, World.size_drew] at hz_); )
      go_wp2_with fail
      (go_at_call 12; refine ((count_any _ ba.1 ba.2 _)).mono ?_; rintro e w7 ⟨rfl, hx7⟩; have hz_ := Ext.size hx7; (try simp only [World.size_alloc, World.size_setCell, World.size_drew] at hz_); )
      go_wp2_with fail
      (go_at_call 11; refine ((full_any _ ba.1 ba.2 _ (by omega) (by omega) _)).mono ?_; rintro e w8 ⟨rfl, hx8⟩; have hz_ := Ext.size hx8; (try simp only [World.size_alloc, World.size_setCell, World.size_drew] at hz_); )
      go_wp2_with fail
      (go_at_call 11; refine ((full_any _ ba.1 ba.2 _ (by omega) (by omega) _)).mono ?_; rintro e w9 ⟨rfl, hx9⟩; have hz_ := Ext.size hx9; (try simp only [World.size_alloc, World.size_setCell, World.size_drew] at hz_); )
      go_wp2_with fail
      (go_at_call 12; refine ((count_any _ ba.1 ba.2 _)).mono ?_; rintro e w10 ⟨rfl, hx10⟩; have hz_ := Ext.size hx10; (try simp only [World.size_alloc, World.size_setCell, World.size_drew] at hz_); )
      go_wp2_with fail
      go_ret
      exact ⟨rfl, by (repeat (first | exact Ext.refl _ | assumption | apply Ext.drew | apply Ext.alloc | (refine Ext.setCell ?_ ?_ _ <;> first | (simp; done) | (simp; omega) | omega | skip) | (refine Ext.trans ?_ (by assumption))))⟩
    · have fb' : fullB B 5 = false := by rw [fb]; simpa using hy
      clear fb
      go_enter Try.func3, Try.ntmps3
      go_wp2_with fail
      (go_at_call 9; refine ((awake_any _)).mono ?_; rintro e w1 ⟨rfl, hx1⟩; have hz_ := Ext.size hx1; (try simp only [World.size_alloc, World.size_setCell, World.size_drew] at hz_); )
      go_wp2_with fail
      (go_at_call 10; refine ((faults_any _ (by omega) (by omega) _)).mono ?_; rintro e w2 ⟨rfl, hx2⟩; have hz_ := Ext.size hx2; (try simp only [World.size_alloc, World.size_setCell, World.size_drew] at hz_); )
      go_wp2_with fail
      (go_at_call 11; refine ((full_any _ ba.1 ba.2 _ (by omega) (by omega) _)).mono ?_; rintro e w3 ⟨rfl, hx3⟩; have hz_ := Ext.size hx3; (try simp only [World.size_alloc, World.size_setCell, World.size_drew] at hz_); )
      go_wp2_with fail
      (go_at_call 11; refine ((full_any _ bb.1 bb.2 _ (by omega) (by omega) _)).mono ?_; rintro e w4 ⟨rfl, hx4⟩; have hz_ := Ext.size hx4; (try simp only [World.size_alloc, World.size_setCell, World.size_drew] at hz_); )
      go_wp2_with fail
      (go_at_call 12; refine ((count_any _ ba.1 ba.2 _)).mono ?_; rintro e w7 ⟨rfl, hx7⟩; have hz_ := Ext.size hx7; (try simp only [World.size_alloc, World.size_setCell, World.size_drew] at hz_); )
      go_wp2_with fail
      (go_at_call 11; refine ((full_any _ ba.1 ba.2 _ (by omega) (by omega) _)).mono ?_; rintro e w8 ⟨rfl, hx8⟩; have hz_ := Ext.size hx8; (try simp only [World.size_alloc, World.size_setCell, World.size_drew] at hz_); )
      go_wp2_with fail
      (go_at_call 11; refine ((full_any _ ba.1 ba.2 _ (by omega) (by omega) _)).mono ?_; rintro e w9 ⟨rfl, hx9⟩; have hz_ := Ext.size hx9; (try simp only [World.size_alloc, World.size_setCell, World.size_drew] at hz_); )
      go_wp2_with fail
      (go_at_call 12; refine ((count_any _ ba.1 ba.2 _)).mono ?_; rintro e w10 ⟨rfl, hx10⟩; have hz_ := Ext.size hx10; (try simp only [World.size_alloc, World.size_setCell, World.size_drew] at hz_); )
      go_wp2_with fail
      go_ret
      exact ⟨rfl, by (repeat (first | exact Ext.refl _ | assumption | apply Ext.drew | apply Ext.alloc | (refine Ext.setCell ?_ ?_ _ <;> first | (simp; done) | (simp; omega) | omega | skip) | (refine Ext.trans ?_ (by assumption))))⟩
  · have fa' : fullB A 5 = false := by rw [fa]; simpa using hx
    have u1 : decide (5 - cx ≤ 2) = false := by simp; omega
    have u2 : decide (2 < cx) = false := by simp; omega
    clear fa
    go_enter Try.func3, Try.ntmps3
    go_wp2_with fail
    (go_at_call 9; refine ((awake_any _)).mono ?_; rintro e w1 ⟨rfl, hx1⟩; have hz_ := Ext.size hx1; (try simp only [World.size_alloc, World.size_setCell, World.size_drew] at hz_); )
    go_wp2_with fail
    (go_at_call 10; refine ((faults_any _ (by omega) (by omega) _)).mono ?_; rintro e w2 ⟨rfl, hx2⟩; have hz_ := Ext.size hx2; (try simp only [World.size_alloc, World.size_setCell, World.size_drew] at hz_); )
    go_wp2_with fail
    (go_at_call 11; refine ((full_any _ ba.1 ba.2 _ (by omega) (by omega) _)).mono ?_; rintro e w3 ⟨rfl, hx3⟩; have hz_ := Ext.size hx3; (try simp only [World.size_alloc, World.size_setCell, World.size_drew] at hz_); )
    go_wp2_with fail
    (go_at_call 12; refine ((count_any _ ba.1 ba.2 _)).mono ?_; rintro e w7 ⟨rfl, hx7⟩; have hz_ := Ext.size hx7; (try simp only [World.size_alloc, World.size_setCell, World.size_drew] at hz_); )
    go_wp2_with fail
    (go_at_call 11; refine ((full_any _ ba.1 ba.2 _ (by omega) (by omega) _)).mono ?_; rintro e w8 ⟨rfl, hx8⟩; have hz_ := Ext.size hx8; (try simp only [World.size_alloc, World.size_setCell, World.size_drew] at hz_); )
    go_wp2_with fail
    (go_at_call 11; refine ((full_any _ ba.1 ba.2 _ (by omega) (by omega) _)).mono ?_; rintro e w9 ⟨rfl, hx9⟩; have hz_ := Ext.size hx9; (try simp only [World.size_alloc, World.size_setCell, World.size_drew] at hz_); )
    go_wp2_with fail
    (go_at_call 12; refine ((count_any _ ba.1 ba.2 _)).mono ?_; rintro e w10 ⟨rfl, hx10⟩; have hz_ := Ext.size hx10; (try simp only [World.size_alloc, World.size_setCell, World.size_drew] at hz_); )
    go_wp2_with fail
    go_ret
    exact ⟨rfl, by (repeat (first | exact Ext.refl _ | assumption | apply Ext.drew | apply Ext.alloc | (refine Ext.setCell ?_ ?_ _ <;> first | (simp; done) | (simp; omega) | omega | skip) | (refine Ext.trans ?_ (by assumption))))⟩
set_option maxHeartbeats 1000000 in
theorem meets7 (a b : Int) (ha1 : -9223372036854775808 ≤ a) (ha2 : a ≤ 9223372036854775807) (hb1 : -9223372036854775808 ≤ b) (hb2 : b ≤ 9223372036854775807) (w : World) :
    Calls Try.prog 3 #[.int .i64 a, .int .i64 b, .int .i64 7] w fun e w' => e = .returned (.bool true) ∧ Ext w w' := by
  have ea : bits BinOp.and IntKind.i64 a 127 = a % 128 := and_mask a 7 (by omega) 127 rfl
  have eb : bits BinOp.and IntKind.i64 b 127 = b % 128 := and_mask b 7 (by omega) 127 rfl
  have xa : low (a % 128) < 128 := by unfold low; omega
  have xb : low (b % 128) < 128 := by unfold low; omega
  have hm := meet7 ⟨_, xa⟩ ⟨_, xb⟩
  have hcA : cnt (low (a % 128)) ≤ 7 := cnt_le _
  simp only at hm
  have fa : fullB (a % 128) 7 = decide ((4 : Int) ≤ (cnt (low (a % 128)) : Int)) := fullB7 _
  have fb : fullB (b % 128) 7 = decide ((4 : Int) ≤ (cnt (low (b % 128)) : Int)) := fullB7 _
  have xl := low_and (low (a % 128)) (low (b % 128)) (low_lt _)
  have ba : -9223372036854775808 ≤ a % 128 ∧ a % 128 ≤ 9223372036854775807 := by omega
  have bb : -9223372036854775808 ≤ b % 128 ∧ b % 128 ≤ 9223372036854775807 := by omega
  have xand : -9223372036854775808 ≤ ((low (a % 128) &&& low (b % 128) : Nat) : Int) ∧ ((low (a % 128) &&& low (b % 128) : Nat) : Int) ≤ 9223372036854775807 := by
    have := Nat.lt_of_le_of_lt (Nat.and_le_left (n := low (a % 128)) (m := low (b % 128))) xa
    omega
  rw [← xl] at hm
  have e1 : flt 7 = 3 := rfl
  have e2 : chk 7 = 0 := rfl
  generalize a % 128 = A at *
  generalize b % 128 = B at *
  clear xl xa xb
  generalize hAB : ((low A &&& low B : Nat) : Int) = D at *
  generalize hcx : (cnt (low A) : Int) = cx at *
  generalize hcy : (cnt (low B) : Int) = cy at *
  generalize hcd : (cnt (low D) : Int) = cd at *
  have hb1 : 0 ≤ cx := by omega
  have hb2 : cx ≤ 7 := by omega
  have hb3 : 4 ≤ cx → 4 ≤ cy → 1 ≤ cd := by omega
  clear hm hcA
  have HB := Lib.hid hb3
  clear hb3
  by_cases hx : 4 ≤ cx
  · have fa' : fullB A 7 = true := by rw [fa]; simpa using hx
    have u1 : decide (7 - cx ≤ 3) = true := by simp; omega
    have u2 : decide (3 < cx) = true := by simp; omega
    clear fa
    by_cases hy : 4 ≤ cy
    · have fb' : fullB B 7 = true := by rw [fb]; simpa using hy
      have hd := HB.out hx hy
      have u3 : decide (cd < 1) = false := by simp; omega
      clear fb
      go_enter Try.func3, Try.ntmps3
      go_wp2_with fail
      (go_at_call 9; refine ((awake_any _)).mono ?_; rintro e w1 ⟨rfl, hx1⟩; have hz_ := Ext.size hx1; (try simp only [World.size_alloc, World.size_setCell, World.size_drew] at hz_); )
      go_wp2_with fail
      (go_at_call 10; refine ((faults_any _ (by omega) (by omega) _)).mono ?_; rintro e w2 ⟨rfl, hx2⟩; have hz_ := Ext.size hx2; (try simp only [World.size_alloc, World.size_setCell, World.size_drew] at hz_); )
      go_wp2_with fail
      (go_at_call 11; refine ((full_any _ ba.1 ba.2 _ (by omega) (by omega) _)).mono ?_; rintro e w3 ⟨rfl, hx3⟩; have hz_ := Ext.size hx3; (try simp only [World.size_alloc, World.size_setCell, World.size_drew] at hz_); )
      go_wp2_with fail
      (go_at_call 11; refine ((full_any _ bb.1 bb.2 _ (by omega) (by omega) _)).mono ?_; rintro e w4 ⟨rfl, hx4⟩; have hz_ := Ext.size hx4; (try simp only [World.size_alloc, World.size_setCell, World.size_drew] at hz_); )
      go_wp2_with fail
      (go_at_call 13; refine ((both_any _ _ _)).mono ?_; rintro e w5 ⟨rfl, hx5⟩; have hz_ := Ext.size hx5; (try simp only [World.size_alloc, World.size_setCell, World.size_drew] at hz_); )
      go_wp2_with fail
      (go_at_call 12; refine ((count_any _ xand.1 xand.2 _)).mono ?_; rintro e w6 ⟨rfl, hx6⟩; have hz_ := Ext.size hx6; (try simp only [World.size_alloc, World.size_setCell, World.size_drew] at hz_); )
      go_wp2_with fail
      (go_at_call 12; refine ((count_any _ ba.1 ba.2 _)).mono ?_; rintro e w7 ⟨rfl, hx7⟩; have hz_ := Ext.size hx7; (try simp only [World.size_alloc, World.size_setCell, World.size_drew] at hz_); )
      go_wp2_with fail
      (go_at_call 11; refine ((full_any _ ba.1 ba.2 _ (by omega) (by omega) _)).mono ?_; rintro e w8 ⟨rfl, hx8⟩; have hz_ := Ext.size hx8; (try simp only [World.size_alloc, World.size_setCell, World.size_drew] at hz_); )
      go_wp2_with fail
      (go_at_call 11; refine ((full_any _ ba.1 ba.2 _ (by omega) (by omega) _)).mono ?_; rintro e w9 ⟨rfl, hx9⟩; have hz_ := Ext.size hx9; (try simp only [World.size_alloc, World.size_setCell, World.size_drew] at hz_); )
      go_wp2_with fail
      (go_at_call 12; refine ((count_any _ ba.1 ba.2 _)).mono ?_; rintro e w10 ⟨rfl, hx10⟩; have hz_ := Ext.size hx10; (try simp only [World.size_alloc, World.size_setCell, World.size_drew] at hz_); )
      go_wp2_with fail
      go_ret
      exact ⟨rfl, by (repeat (first | exact Ext.refl _ | assumption | apply Ext.drew | apply Ext.alloc | (refine Ext.setCell ?_ ?_ _ <;> first | (simp; done) | (simp; omega) | omega | skip) | (refine Ext.trans ?_ (by assumption))))⟩
    · have fb' : fullB B 7 = false := by rw [fb]; simpa using hy
      clear fb
      go_enter Try.func3, Try.ntmps3
      go_wp2_with fail
      (go_at_call 9; refine ((awake_any _)).mono ?_; rintro e w1 ⟨rfl, hx1⟩; have hz_ := Ext.size hx1; (try simp only [World.size_alloc, World.size_setCell, World.size_drew] at hz_); )
      go_wp2_with fail
      (go_at_call 10; refine ((faults_any _ (by omega) (by omega) _)).mono ?_; rintro e w2 ⟨rfl, hx2⟩; have hz_ := Ext.size hx2; (try simp only [World.size_alloc, World.size_setCell, World.size_drew] at hz_); )
      go_wp2_with fail
      (go_at_call 11; refine ((full_any _ ba.1 ba.2 _ (by omega) (by omega) _)).mono ?_; rintro e w3 ⟨rfl, hx3⟩; have hz_ := Ext.size hx3; (try simp only [World.size_alloc, World.size_setCell, World.size_drew] at hz_); )
      go_wp2_with fail
      (go_at_call 11; refine ((full_any _ bb.1 bb.2 _ (by omega) (by omega) _)).mono ?_; rintro e w4 ⟨rfl, hx4⟩; have hz_ := Ext.size hx4; (try simp only [World.size_alloc, World.size_setCell, World.size_drew] at hz_); )
      go_wp2_with fail
      (go_at_call 12; refine ((count_any _ ba.1 ba.2 _)).mono ?_; rintro e w7 ⟨rfl, hx7⟩; have hz_ := Ext.size hx7; (try simp only [World.size_alloc, World.size_setCell, World.size_drew] at hz_); )
      go_wp2_with fail
      (go_at_call 11; refine ((full_any _ ba.1 ba.2 _ (by omega) (by omega) _)).mono ?_; rintro e w8 ⟨rfl, hx8⟩; have hz_ := Ext.size hx8; (try simp only [World.size_alloc, World.size_setCell, World.size_drew] at hz_); )
      go_wp2_with fail
      (go_at_call 11; refine ((full_any _ ba.1 ba.2 _ (by omega) (by omega) _)).mono ?_; rintro e w9 ⟨rfl, hx9⟩; have hz_ := Ext.size hx9; (try simp only [World.size_alloc, World.size_setCell, World.size_drew] at hz_); )
      go_wp2_with fail
      (go_at_call 12; refine ((count_any _ ba.1 ba.2 _)).mono ?_; rintro e w10 ⟨rfl, hx10⟩; have hz_ := Ext.size hx10; (try simp only [World.size_alloc, World.size_setCell, World.size_drew] at hz_); )
      go_wp2_with fail
      go_ret
      exact ⟨rfl, by (repeat (first | exact Ext.refl _ | assumption | apply Ext.drew | apply Ext.alloc | (refine Ext.setCell ?_ ?_ _ <;> first | (simp; done) | (simp; omega) | omega | skip) | (refine Ext.trans ?_ (by assumption))))⟩
  · have fa' : fullB A 7 = false := by rw [fa]; simpa using hx
    have u1 : decide (7 - cx ≤ 3) = false := by simp; omega
    have u2 : decide (3 < cx) = false := by simp; omega
    clear fa
    go_enter Try.func3, Try.ntmps3
    go_wp2_with fail
    (go_at_call 9; refine ((awake_any _)).mono ?_; rintro e w1 ⟨rfl, hx1⟩; have hz_ := Ext.size hx1; (try simp only [World.size_alloc, World.size_setCell, World.size_drew] at hz_); )
    go_wp2_with fail
    (go_at_call 10; refine ((faults_any _ (by omega) (by omega) _)).mono ?_; rintro e w2 ⟨rfl, hx2⟩; have hz_ := Ext.size hx2; (try simp only [World.size_alloc, World.size_setCell, World.size_drew] at hz_); )
    go_wp2_with fail
    (go_at_call 11; refine ((full_any _ ba.1 ba.2 _ (by omega) (by omega) _)).mono ?_; rintro e w3 ⟨rfl, hx3⟩; have hz_ := Ext.size hx3; (try simp only [World.size_alloc, World.size_setCell, World.size_drew] at hz_); )
    go_wp2_with fail
    (go_at_call 12; refine ((count_any _ ba.1 ba.2 _)).mono ?_; rintro e w7 ⟨rfl, hx7⟩; have hz_ := Ext.size hx7; (try simp only [World.size_alloc, World.size_setCell, World.size_drew] at hz_); )
    go_wp2_with fail
    (go_at_call 11; refine ((full_any _ ba.1 ba.2 _ (by omega) (by omega) _)).mono ?_; rintro e w8 ⟨rfl, hx8⟩; have hz_ := Ext.size hx8; (try simp only [World.size_alloc, World.size_setCell, World.size_drew] at hz_); )
    go_wp2_with fail
    (go_at_call 11; refine ((full_any _ ba.1 ba.2 _ (by omega) (by omega) _)).mono ?_; rintro e w9 ⟨rfl, hx9⟩; have hz_ := Ext.size hx9; (try simp only [World.size_alloc, World.size_setCell, World.size_drew] at hz_); )
    go_wp2_with fail
    (go_at_call 12; refine ((count_any _ ba.1 ba.2 _)).mono ?_; rintro e w10 ⟨rfl, hx10⟩; have hz_ := Ext.size hx10; (try simp only [World.size_alloc, World.size_setCell, World.size_drew] at hz_); )
    go_wp2_with fail
    go_ret
    exact ⟨rfl, by (repeat (first | exact Ext.refl _ | assumption | apply Ext.drew | apply Ext.alloc | (refine Ext.setCell ?_ ?_ _ <;> first | (simp; done) | (simp; omega) | omega | skip) | (refine Ext.trans ?_ (by assumption))))⟩

theorem meets_any (a b n : Int) (ha1 : -9223372036854775808 ≤ a) (ha2 : a ≤ 9223372036854775807) (hb1 : -9223372036854775808 ≤ b) (hb2 : b ≤ 9223372036854775807)
    (hn1 : -9223372036854775808 ≤ n) (hn2 : n ≤ 9223372036854775807) (w : World) :
    Calls Try.prog 3 #[.int .i64 a, .int .i64 b, .int .i64 n] w fun e w' => e = .returned (.bool true) ∧ Ext w w' := by
  by_cases c3 : n = 3
  · subst c3; exact meets3 a b ha1 ha2 hb1 hb2 w
  by_cases c5 : n = 5
  · subst c5; exact meets5 a b ha1 ha2 hb1 hb2 w
  by_cases c7 : n = 7
  · subst c7; exact meets7 a b ha1 ha2 hb1 hb2 w
  have e1 : (chk n != 0) = true := by unfold chk; rw [if_neg (by omega)]; rfl
  have e2 : fullB a n = false := by unfold fullB; rw [if_neg c3, if_neg c5, if_neg c7]
  clear c3 c5 c7
  go_enter Try.func3, Try.ntmps3
  go_wp2_with fail
  (go_at_call 9; refine ((awake_any _)).mono ?_; rintro e w1 ⟨rfl, hx1⟩; have hz_ := Ext.size hx1; (try simp only [World.size_alloc, World.size_setCell, World.size_drew] at hz_); )
  go_wp2_with fail
  (go_at_call 10; refine ((faults_any _ hn1 hn2 _)).mono ?_; rintro e w2 ⟨rfl, hx2⟩; have hz_ := Ext.size hx2; (try simp only [World.size_alloc, World.size_setCell, World.size_drew] at hz_); )
  go_wp2_with fail
  (go_at_call 11; refine ((full_any _ ha1 ha2 _ hn1 hn2 _)).mono ?_; rintro e w3 ⟨rfl, hx3⟩; have hz_ := Ext.size hx3; (try simp only [World.size_alloc, World.size_setCell, World.size_drew] at hz_); )
  go_wp2_with fail
  go_ret
  exact ⟨rfl, by (repeat (first | exact Ext.refl _ | assumption | apply Ext.drew | apply Ext.alloc | (refine Ext.setCell ?_ ?_ _ <;> first | (simp; done) | (simp; omega) | omega | skip) | (refine Ext.trans ?_ (by assumption))))⟩
end Go.Proofs.Ytoliafpammlkiaa
