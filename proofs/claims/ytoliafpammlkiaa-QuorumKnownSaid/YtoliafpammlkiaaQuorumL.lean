/-
  The walks of the quorum's statements: the examples, the counts, the sets, the known answers.
-/
import Derived.Test.YtoliafpammlkiaaQuorumB
import Derived.Test.YtoliafpammlkiaaQuorumG
namespace Go.Proofs.Ytoliafpammlkiaa
set_option linter.unusedSimpArgs false
set_option linter.unusedVariables false
set_option linter.unusedSectionVars false
open Go.ChangeShapes Go.WideShapes Go.ChangeAt Go.RowKit

theorem awake_any (w : World) : Calls Try.prog 9 #[] w fun e w' => e = .returned (.bool true) ∧ Ext w w' := by
  have e1 : enough 5 = 3 := rfl
  have e2 : chk 5 = 0 := rfl
  have e3 : primV 7 3 = 1 := by decide
  have e4 : primE 7 3 = 0 := by decide
  have e5 : withV 0 2 = 4 := by decide
  have e6 : withE 2 = 0 := by decide
  have e7 : cnt (low 7) = 3 := by decide
  have e8 : fullB 3 3 = true := by decide
  go_enter Try.func9, Try.ntmps9
  go_wp2_with fail
  (go_at_call 21; refine ((enough_any _ (by omega) (by omega) _)).mono ?_; rintro e w1 ⟨rfl, hb1⟩; have hz_ := Ext.size hb1; (try simp only [World.size_alloc, World.size_setCell, World.size_drew] at hz_); )
  go_wp2_with fail
  (go_at_call 24; refine ((primary_any _ _ (by omega) (by omega) (by omega) (by omega) _)).mono ?_; rintro e w2 ⟨rfl, hb2⟩; have hz_ := Ext.size hb2; (try simp only [World.size_alloc, World.size_setCell, World.size_drew] at hz_); )
  go_wp2_with fail
  (go_at_call 14; refine ((with_any _ (by omega) (by omega) _ (by omega) (by omega) _)).mono ?_; rintro e w3 ⟨rfl, hb3⟩; have hz_ := Ext.size hb3; (try simp only [World.size_alloc, World.size_setCell, World.size_drew] at hz_); )
  go_wp2_with fail
  (go_at_call 12; refine ((count_any _ (by omega) (by omega) _)).mono ?_; rintro e w4 ⟨rfl, hb4⟩; have hz_ := Ext.size hb4; (try simp only [World.size_alloc, World.size_setCell, World.size_drew] at hz_); )
  go_wp2_with fail
  (go_at_call 11; refine ((full_any _ (by omega) (by omega) _ (by omega) (by omega) _)).mono ?_; rintro e w5 ⟨rfl, hb5⟩; have hz_ := Ext.size hb5; (try simp only [World.size_alloc, World.size_setCell, World.size_drew] at hz_); )
  go_wp2_with fail
  go_ret
  exact ⟨rfl, by (repeat (first | exact Ext.refl _ | assumption | apply Ext.drew | apply Ext.alloc | (refine Ext.setCell ?_ ?_ _ <;> first | (simp; done) | (simp; omega) | omega | skip) | (refine Ext.trans ?_ (by assumption))))⟩

theorem sets_any (a b r n : Int) (ha1 : -9223372036854775808 ≤ a) (ha2 : a ≤ 9223372036854775807) (hb1 : -9223372036854775808 ≤ b) (hb2 : b ≤ 9223372036854775807)
    (hr1 : -9223372036854775808 ≤ r) (hr2 : r ≤ 9223372036854775807) (hn1 : -9223372036854775808 ≤ n) (hn2 : n ≤ 9223372036854775807) (w : World) :
    Calls Try.prog 5 #[.int .i64 a, .int .i64 b, .int .i64 r, .int .i64 n] w fun e w' => e = .returned (.bool true) ∧ Ext w w' := by
  go_enter Try.func5, Try.ntmps5
  go_wp2_with fail
  (go_at_call 14; refine ((with_any _ ha1 ha2 _ hr1 hr2 _)).mono ?_; rintro e w1 ⟨rfl, hx1⟩; have hz_ := Ext.size hx1; (try simp only [World.size_alloc, World.size_setCell, World.size_drew] at hz_); )
  go_wp2_with fail
  (go_at_call 16; refine ((rwith_any _ ha1 ha2 _ hr1 hr2 _)).mono ?_; rintro e w2 ⟨rfl, hx2⟩; have hz_ := Ext.size hx2; (try simp only [World.size_alloc, World.size_setCell, World.size_drew] at hz_); )
  go_wp2_with fail
  (go_at_call 15; refine ((has_any _ ha1 ha2 _ hr1 hr2 _)).mono ?_; rintro e w3 ⟨rfl, hx3⟩; have hz_ := Ext.size hx3; (try simp only [World.size_alloc, World.size_setCell, World.size_drew] at hz_); )
  go_wp2_with fail
  (go_at_call 17; refine ((rhas_any _ ha1 ha2 _ hr1 hr2 _)).mono ?_; rintro e w4 ⟨rfl, hx4⟩; have hz_ := Ext.size hx4; (try simp only [World.size_alloc, World.size_setCell, World.size_drew] at hz_); )
  go_wp2_with fail
  (go_at_call 12; refine ((count_any _ ha1 ha2 _)).mono ?_; rintro e w5 ⟨rfl, hx5⟩; have hz_ := Ext.size hx5; (try simp only [World.size_alloc, World.size_setCell, World.size_drew] at hz_); )
  go_wp2_with fail
  (go_at_call 18; refine ((rcount_any _ ha1 ha2 _)).mono ?_; rintro e w6 ⟨rfl, hx6⟩; have hz_ := Ext.size hx6; (try simp only [World.size_alloc, World.size_setCell, World.size_drew] at hz_); )
  go_wp2_with fail
  (go_at_call 11; refine ((full_any _ ha1 ha2 _ hn1 hn2 _)).mono ?_; rintro e w7 ⟨rfl, hx7⟩; have hz_ := Ext.size hx7; (try simp only [World.size_alloc, World.size_setCell, World.size_drew] at hz_); )
  go_wp2_with fail
  (go_at_call 19; refine ((rfull_any _ ha1 ha2 _ hn1 hn2 _)).mono ?_; rintro e w8 ⟨rfl, hx8⟩; have hz_ := Ext.size hx8; (try simp only [World.size_alloc, World.size_setCell, World.size_drew] at hz_); )
  go_wp2_with fail
  (go_at_call 13; refine ((both_any _ _ _)).mono ?_; rintro e w9 ⟨rfl, hx9⟩; have hz_ := Ext.size hx9; (try simp only [World.size_alloc, World.size_setCell, World.size_drew] at hz_); )
  go_wp2_with fail
  (go_at_call 20; refine ((rboth_any _ _ ha1 ha2 hb1 hb2 _)).mono ?_; rintro e w10 ⟨rfl, hx10⟩; have hz_ := Ext.size hx10; (try simp only [World.size_alloc, World.size_setCell, World.size_drew] at hz_); )
  go_wp2_with fail
  (go_at_call 9; refine ((awake_any _)).mono ?_; rintro e w11 ⟨rfl, hx11⟩; have hz_ := Ext.size hx11; (try simp only [World.size_alloc, World.size_setCell, World.size_drew] at hz_); )
  go_wp2_with fail
  go_ret
  exact ⟨rfl, by (repeat (first | exact Ext.refl _ | assumption | apply Ext.drew | apply Ext.alloc | (refine Ext.setCell ?_ ?_ _ <;> first | (simp; done) | (simp; omega) | omega | skip) | (refine Ext.trans ?_ (by assumption))))⟩

theorem counts_any (n view r : Int) (hn1 : -9223372036854775808 ≤ n) (hn2 : n ≤ 9223372036854775807) (hv1 : -9223372036854775808 ≤ view) (hv2 : view ≤ 9223372036854775807)
    (hr1 : -9223372036854775808 ≤ r) (hr2 : r ≤ 9223372036854775807) (w : World) :
    Calls Try.prog 6 #[.int .i64 n, .int .i64 view, .int .i64 r] w fun e w' => e = .returned (.bool true) ∧ Ext w w' := by
  go_enter Try.func6, Try.ntmps6
  go_wp2_with fail
  (go_at_call 21; refine ((enough_any _ hn1 hn2 _)).mono ?_; rintro e w1 ⟨rfl, hx1⟩; have hz_ := Ext.size hx1; (try simp only [World.size_alloc, World.size_setCell, World.size_drew] at hz_); )
  go_wp2_with fail
  (go_at_call 22; refine ((renough_any _ hn1 hn2 _)).mono ?_; rintro e w2 ⟨rfl, hx2⟩; have hz_ := Ext.size hx2; (try simp only [World.size_alloc, World.size_setCell, World.size_drew] at hz_); )
  go_wp2_with fail
  (go_at_call 10; refine ((faults_any _ hn1 hn2 _)).mono ?_; rintro e w3 ⟨rfl, hx3⟩; have hz_ := Ext.size hx3; (try simp only [World.size_alloc, World.size_setCell, World.size_drew] at hz_); )
  go_wp2_with fail
  (go_at_call 23; refine ((rfaults_any _ hn1 hn2 _)).mono ?_; rintro e w4 ⟨rfl, hx4⟩; have hz_ := Ext.size hx4; (try simp only [World.size_alloc, World.size_setCell, World.size_drew] at hz_); )
  go_wp2_with fail
  (go_at_call 24; refine ((primary_any _ _ hn1 hn2 hv1 hv2 _)).mono ?_; rintro e w5 ⟨rfl, hx5⟩; have hz_ := Ext.size hx5; (try simp only [World.size_alloc, World.size_setCell, World.size_drew] at hz_); )
  go_wp2_with fail
  (go_at_call 25; refine ((rprimary_any _ _ hn1 hn2 hv1 hv2 _)).mono ?_; rintro e w6 ⟨rfl, hx6⟩; have hz_ := Ext.size hx6; (try simp only [World.size_alloc, World.size_setCell, World.size_drew] at hz_); )
  go_wp2_with fail
  (go_at_call 26; refine ((next_any _ _ _ hn1 hn2 hv1 hv2 hr1 hr2 _)).mono ?_; rintro e w7 ⟨rfl, hx7⟩; have hz_ := Ext.size hx7; (try simp only [World.size_alloc, World.size_setCell, World.size_drew] at hz_); )
  go_wp2_with fail
  (go_at_call 27; refine ((rnext_any _ _ _ hn1 hn2 hv1 hv2 hr1 hr2 _)).mono ?_; rintro e w8 ⟨rfl, hx8⟩; have hz_ := Ext.size hx8; (try simp only [World.size_alloc, World.size_setCell, World.size_drew] at hz_); )
  go_wp2_with fail
  (go_at_call 28; refine ((check_any _ hn1 hn2 _)).mono ?_; rintro e w9 ⟨rfl, hx9⟩; have hz_ := Ext.size hx9; (try simp only [World.size_alloc, World.size_setCell, World.size_drew] at hz_); )
  go_wp2_with fail
  (go_at_call 29; refine ((rcheck_any _ hn1 hn2 _)).mono ?_; rintro e w10 ⟨rfl, hx10⟩; have hz_ := Ext.size hx10; (try simp only [World.size_alloc, World.size_setCell, World.size_drew] at hz_); )
  go_wp2_with fail
  (go_at_call 9; refine ((awake_any _)).mono ?_; rintro e w11 ⟨rfl, hx11⟩; have hz_ := Ext.size hx11; (try simp only [World.size_alloc, World.size_setCell, World.size_drew] at hz_); )
  go_wp2_with fail
  go_ret
  exact ⟨rfl, by (repeat (first | exact Ext.refl _ | assumption | apply Ext.drew | apply Ext.alloc | (refine Ext.setCell ?_ ?_ _ <;> first | (simp; done) | (simp; omega) | omega | skip) | (refine Ext.trans ?_ (by assumption))))⟩
end Go.Proofs.Ytoliafpammlkiaa
