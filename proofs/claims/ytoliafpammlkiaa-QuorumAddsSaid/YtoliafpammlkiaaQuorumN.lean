/-
  The walks of QuorumAdds and QuorumMeets.
-/
import Derived.Test.YtoliafpammlkiaaQuorumL
import Derived.Test.YtoliafpammlkiaaQuorumH
namespace Go.Proofs.Ytoliafpammlkiaa
set_option linter.unusedSimpArgs false
set_option linter.unusedVariables false
set_option linter.unusedSectionVars false
open Go.ChangeShapes Go.WideShapes Go.ChangeAt Go.RowKit

theorem withE_in {r : Int} (h0 : 0 ≤ r) (h1 : r < 7) : withE r = 0 := by unfold withE; rw [if_pos ⟨h0, h1⟩]
theorem withE_out {r : Int} (h : ¬ (0 ≤ r ∧ r < 7)) : (withE r != 0) = true := by unfold withE; rw [if_neg h]; rfl

theorem adds_any (s one two other : Int) (hs1 : -9223372036854775808 ≤ s) (hs2 : s ≤ 9223372036854775807) (h1 : -9223372036854775808 ≤ one) (h2 : one ≤ 9223372036854775807)
    (h3 : -9223372036854775808 ≤ two) (h4 : two ≤ 9223372036854775807) (h5 : -9223372036854775808 ≤ other) (h6 : other ≤ 9223372036854775807) (w : World) :
    Calls Try.prog 4 #[.int .i64 s, .int .i64 one, .int .i64 two, .int .i64 other] w fun e w' => e = .returned (.bool true) ∧ Ext w w' := by
  by_cases ho : 0 ≤ one ∧ one < 7
  · have e1 := withE_in ho.1 ho.2
    by_cases ht : 0 ≤ two ∧ two < 7
    · have e2 := withE_in ht.1 ht.2
      obtain ⟨ba1, ba2⟩ := withV_bd s one
      obtain ⟨bb1, bb2⟩ := withV_bd s two
      have hc := with_comm (s := s) ho.1 ho.2 ht.1 ht.2
      have g1 := hasB_with (s := s) ho.1 ho.2 one
      have g2 := hasB_with (s := s) ho.1 ho.2 other
      have g3 := cnt_withV (s := s) ho.1 ho.2
      have hcl := cnt_le (low s)
      simp only [decide_true, Bool.or_true] at g1
      generalize hA : withV s one = a at *
      generalize hB : withV s two = b at *
      generalize hCC : withV b one = cc at *
      have g3' : (cnt (low a) : Int) = (cnt (low s) : Int) + (if hasB (low s) one then 0 else 1 : Int) := by rw [g3]; split <;> simp
      clear g3 ho ht
      have hcl1 : (cnt (low s) : Int) ≤ 7 := by omega
      have hcl2 : 0 ≤ (cnt (low s) : Int) := by omega
      clear hcl
      generalize hcs : (cnt (low s) : Int) = cs at *
      by_cases hoo : one = other
      · subst hoo
        have t1 : (one != one) = false := by simp
        cases hh : hasB (low s) one
        all_goals
          rw [hh] at g3'
          simp only [Bool.false_eq_true, ↓reduceIte] at g3'
          try simp only [Int.add_zero] at g3'
          go_enter Try.func4, Try.ntmps4
          go_wp2_with fail
          (go_at_call 9; refine ((awake_any _)).mono ?_; rintro e w1 ⟨rfl, hb1⟩; have hz_ := Ext.size hb1; (try simp only [World.size_alloc, World.size_setCell, World.size_drew] at hz_); )
          go_wp2_with fail
          (go_at_call 14; refine ((with_any s hs1 hs2 one h1 h2 _)).mono ?_; rintro e w2 ⟨rfl, hb2⟩; have hz_ := Ext.size hb2; (try simp only [World.size_alloc, World.size_setCell, World.size_drew] at hz_); )
          go_wp2_with fail
          (go_at_call 14; refine ((with_any s hs1 hs2 two h3 h4 _)).mono ?_; rintro e w3 ⟨rfl, hb3⟩; have hz_ := Ext.size hb3; (try simp only [World.size_alloc, World.size_setCell, World.size_drew] at hz_); )
          go_wp2_with fail
          (go_at_call 14; refine ((with_any a ba1 ba2 two h3 h4 _)).mono ?_; rintro e w4 ⟨rfl, hb4⟩; have hz_ := Ext.size hb4; (try simp only [World.size_alloc, World.size_setCell, World.size_drew] at hz_); )
          go_wp2_with fail
          (go_at_call 14; refine ((with_any b bb1 bb2 one h1 h2 _)).mono ?_; rintro e w5 ⟨rfl, hb5⟩; have hz_ := Ext.size hb5; (try simp only [World.size_alloc, World.size_setCell, World.size_drew] at hz_); )
          go_wp2_with fail
          (go_at_call 15; refine ((has_any s hs1 hs2 one h1 h2 _)).mono ?_; rintro e w6 ⟨rfl, hb6⟩; have hz_ := Ext.size hb6; (try simp only [World.size_alloc, World.size_setCell, World.size_drew] at hz_); )
          go_wp2_with fail
          (go_at_call 15; refine ((has_any a ba1 ba2 one h1 h2 _)).mono ?_; rintro e w7 ⟨rfl, hb7⟩; have hz_ := Ext.size hb7; (try simp only [World.size_alloc, World.size_setCell, World.size_drew] at hz_); )
          go_wp2_with fail
          (go_at_call 12; refine ((count_any a ba1 ba2 _)).mono ?_; rintro e w8 ⟨rfl, hb8⟩; have hz_ := Ext.size hb8; (try simp only [World.size_alloc, World.size_setCell, World.size_drew] at hz_); )
          go_wp2_with fail
          (go_at_call 12; refine ((count_any s hs1 hs2 _)).mono ?_; rintro e w9 ⟨rfl, hb9⟩; have hz_ := Ext.size hb9; (try simp only [World.size_alloc, World.size_setCell, World.size_drew] at hz_); )
          go_wp2_with fail
          go_ret
          exact ⟨rfl, by (repeat (first | exact Ext.refl _ | assumption | apply Ext.drew | apply Ext.alloc | (refine Ext.setCell ?_ ?_ _ <;> first | (simp; done) | (simp; omega) | omega | skip) | (refine Ext.trans ?_ (by assumption))))⟩
      · have t1 : (other != one) = true := by simp; exact fun h => hoo h.symm
        have t2 : decide (one = other) = false := by simpa using hoo
        rw [t2, Bool.or_false] at g2
        clear hoo t2
        cases hh : hasB (low s) one
        all_goals
          rw [hh] at g3'
          simp only [Bool.false_eq_true, ↓reduceIte] at g3'
          try simp only [Int.add_zero] at g3'
          go_enter Try.func4, Try.ntmps4
          go_wp2_with fail
          (go_at_call 9; refine ((awake_any _)).mono ?_; rintro e w1 ⟨rfl, hb1⟩; have hz_ := Ext.size hb1; (try simp only [World.size_alloc, World.size_setCell, World.size_drew] at hz_); )
          go_wp2_with fail
          (go_at_call 14; refine ((with_any s hs1 hs2 one h1 h2 _)).mono ?_; rintro e w2 ⟨rfl, hb2⟩; have hz_ := Ext.size hb2; (try simp only [World.size_alloc, World.size_setCell, World.size_drew] at hz_); )
          go_wp2_with fail
          (go_at_call 14; refine ((with_any s hs1 hs2 two h3 h4 _)).mono ?_; rintro e w3 ⟨rfl, hb3⟩; have hz_ := Ext.size hb3; (try simp only [World.size_alloc, World.size_setCell, World.size_drew] at hz_); )
          go_wp2_with fail
          (go_at_call 14; refine ((with_any a ba1 ba2 two h3 h4 _)).mono ?_; rintro e w4 ⟨rfl, hb4⟩; have hz_ := Ext.size hb4; (try simp only [World.size_alloc, World.size_setCell, World.size_drew] at hz_); )
          go_wp2_with fail
          (go_at_call 14; refine ((with_any b bb1 bb2 one h1 h2 _)).mono ?_; rintro e w5 ⟨rfl, hb5⟩; have hz_ := Ext.size hb5; (try simp only [World.size_alloc, World.size_setCell, World.size_drew] at hz_); )
          go_wp2_with fail
          (go_at_call 15; refine ((has_any s hs1 hs2 one h1 h2 _)).mono ?_; rintro e w6 ⟨rfl, hb6⟩; have hz_ := Ext.size hb6; (try simp only [World.size_alloc, World.size_setCell, World.size_drew] at hz_); )
          go_wp2_with fail
          (go_at_call 15; refine ((has_any a ba1 ba2 one h1 h2 _)).mono ?_; rintro e w7 ⟨rfl, hb7⟩; have hz_ := Ext.size hb7; (try simp only [World.size_alloc, World.size_setCell, World.size_drew] at hz_); )
          go_wp2_with fail
          (go_at_call 15; refine ((has_any a ba1 ba2 other h5 h6 _)).mono ?_; rintro e w71 ⟨rfl, hb71⟩; have hz_ := Ext.size hb71; (try simp only [World.size_alloc, World.size_setCell, World.size_drew] at hz_); )
          go_wp2_with fail
          (go_at_call 15; refine ((has_any s hs1 hs2 other h5 h6 _)).mono ?_; rintro e w72 ⟨rfl, hb72⟩; have hz_ := Ext.size hb72; (try simp only [World.size_alloc, World.size_setCell, World.size_drew] at hz_); )
          go_wp2_with fail
          (go_at_call 12; refine ((count_any a ba1 ba2 _)).mono ?_; rintro e w8 ⟨rfl, hb8⟩; have hz_ := Ext.size hb8; (try simp only [World.size_alloc, World.size_setCell, World.size_drew] at hz_); )
          go_wp2_with fail
          (go_at_call 12; refine ((count_any s hs1 hs2 _)).mono ?_; rintro e w9 ⟨rfl, hb9⟩; have hz_ := Ext.size hb9; (try simp only [World.size_alloc, World.size_setCell, World.size_drew] at hz_); )
          go_wp2_with fail
          go_ret
          exact ⟨rfl, by (repeat (first | exact Ext.refl _ | assumption | apply Ext.drew | apply Ext.alloc | (refine Ext.setCell ?_ ?_ _ <;> first | (simp; done) | (simp; omega) | omega | skip) | (refine Ext.trans ?_ (by assumption))))⟩
    · have e2 := withE_out ht
      clear ht ho
      go_enter Try.func4, Try.ntmps4
      go_wp2_with fail
      (go_at_call 9; refine ((awake_any _)).mono ?_; rintro e w1 ⟨rfl, hb1⟩; have hz_ := Ext.size hb1; (try simp only [World.size_alloc, World.size_setCell, World.size_drew] at hz_); )
      go_wp2_with fail
      (go_at_call 14; refine ((with_any s hs1 hs2 one h1 h2 _)).mono ?_; rintro e w2 ⟨rfl, hb2⟩; have hz_ := Ext.size hb2; (try simp only [World.size_alloc, World.size_setCell, World.size_drew] at hz_); )
      go_wp2_with fail
      (go_at_call 14; refine ((with_any s hs1 hs2 two h3 h4 _)).mono ?_; rintro e w3 ⟨rfl, hb3⟩; have hz_ := Ext.size hb3; (try simp only [World.size_alloc, World.size_setCell, World.size_drew] at hz_); )
      go_wp2_with fail
      go_ret
      exact ⟨rfl, by (repeat (first | exact Ext.refl _ | assumption | apply Ext.drew | apply Ext.alloc | (refine Ext.setCell ?_ ?_ _ <;> first | (simp; done) | (simp; omega) | omega | skip) | (refine Ext.trans ?_ (by assumption))))⟩
  · have e2 := withE_out ho
    clear ho
    go_enter Try.func4, Try.ntmps4
    go_wp2_with fail
    (go_at_call 9; refine ((awake_any _)).mono ?_; rintro e w1 ⟨rfl, hb1⟩; have hz_ := Ext.size hb1; (try simp only [World.size_alloc, World.size_setCell, World.size_drew] at hz_); )
    go_wp2_with fail
    (go_at_call 14; refine ((with_any s hs1 hs2 one h1 h2 _)).mono ?_; rintro e w2 ⟨rfl, hb2⟩; have hz_ := Ext.size hb2; (try simp only [World.size_alloc, World.size_setCell, World.size_drew] at hz_); )
    go_wp2_with fail
    (go_at_call 14; refine ((with_any s hs1 hs2 two h3 h4 _)).mono ?_; rintro e w3 ⟨rfl, hb3⟩; have hz_ := Ext.size hb3; (try simp only [World.size_alloc, World.size_setCell, World.size_drew] at hz_); )
    go_wp2_with fail
    go_ret
    exact ⟨rfl, by (repeat (first | exact Ext.refl _ | assumption | apply Ext.drew | apply Ext.alloc | (refine Ext.setCell ?_ ?_ _ <;> first | (simp; done) | (simp; omega) | omega | skip) | (refine Ext.trans ?_ (by assumption))))⟩
end Go.Proofs.Ytoliafpammlkiaa
