/-
  The walks of QuorumKnown and QuorumNext.
-/
import Derived.Test.YtoliafpammlkiaaQuorumL
import Derived.LoopTactic
namespace Go.Proofs.Ytoliafpammlkiaa
set_option linter.unusedSimpArgs false
set_option linter.unusedVariables false
set_option linter.unusedSectionVars false
open Go.ChangeShapes Go.WideShapes Go.ChangeAt Go.RowKit

theorem known_any (w : World) : Calls Try.prog 8 #[] w fun e w' => e = .returned (.bool true) ∧ Ext w w' := by
  have e1 : enough 3 = 2 := rfl
  have e2 : chk 3 = 0 := rfl
  have e3 : flt 7 = 3 := rfl
  have e4 : chk 7 = 0 := rfl
  have e5 : enough 4 = 0 := rfl
  have e6 : chk 4 = 2 := rfl
  have e7 : nextV 7 1 3 = 10 := by decide
  have e8 : nextE 7 1 3 = 0 := by decide
  have e9 : nextV 7 2 3 = 8 := by decide
  have e10 : nextE 7 2 3 = 0 := by decide
  have e11 : withV 5 0 = 5 := by decide
  have e12 : withE 0 = 0 := by decide
  have e13 : withV 0 7 = 0 := by decide
  have e14 : withE 7 = 5 := by decide
  have e15 : fullB 8 3 = false := by decide
  have e16 : low 6 = 6 := by decide
  have e17 : low 3 = 3 := by decide
  go_enter Try.func8, Try.ntmps8
  go_wp2_with fail
  (go_at_call 21; refine ((enough_any _ (by omega) (by omega) _)).mono ?_; rintro e w1 ⟨rfl, hb1⟩; have hz_ := Ext.size hb1; (try simp only [World.size_alloc, World.size_setCell, World.size_drew] at hz_); )
  go_wp2_with fail
  (go_at_call 10; refine ((faults_any _ (by omega) (by omega) _)).mono ?_; rintro e w2 ⟨rfl, hb2⟩; have hz_ := Ext.size hb2; (try simp only [World.size_alloc, World.size_setCell, World.size_drew] at hz_); )
  go_wp2_with fail
  (go_at_call 21; refine ((enough_any _ (by omega) (by omega) _)).mono ?_; rintro e w3 ⟨rfl, hb3⟩; have hz_ := Ext.size hb3; (try simp only [World.size_alloc, World.size_setCell, World.size_drew] at hz_); )
  go_wp2_with fail
  (go_at_call 26; refine ((next_any _ _ _ (by omega) (by omega) (by omega) (by omega) (by omega) (by omega) _)).mono ?_; rintro e w4 ⟨rfl, hb4⟩; have hz_ := Ext.size hb4; (try simp only [World.size_alloc, World.size_setCell, World.size_drew] at hz_); )
  go_wp2_with fail
  (go_at_call 26; refine ((next_any _ _ _ (by omega) (by omega) (by omega) (by omega) (by omega) (by omega) _)).mono ?_; rintro e w5 ⟨rfl, hb5⟩; have hz_ := Ext.size hb5; (try simp only [World.size_alloc, World.size_setCell, World.size_drew] at hz_); )
  go_wp2_with fail
  (go_at_call 14; refine ((with_any _ (by omega) (by omega) _ (by omega) (by omega) _)).mono ?_; rintro e w6 ⟨rfl, hb6⟩; have hz_ := Ext.size hb6; (try simp only [World.size_alloc, World.size_setCell, World.size_drew] at hz_); )
  go_wp2_with fail
  (go_at_call 14; refine ((with_any _ (by omega) (by omega) _ (by omega) (by omega) _)).mono ?_; rintro e w7 ⟨rfl, hb7⟩; have hz_ := Ext.size hb7; (try simp only [World.size_alloc, World.size_setCell, World.size_drew] at hz_); )
  go_wp2_with fail
  (go_at_call 9; refine ((awake_any _)).mono ?_; rintro e w8 ⟨rfl, hb8⟩; have hz_ := Ext.size hb8; (try simp only [World.size_alloc, World.size_setCell, World.size_drew] at hz_); )
  go_wp2_with fail
  (go_at_call 11; refine ((full_any _ (by omega) (by omega) _ (by omega) (by omega) _)).mono ?_; rintro e w9 ⟨rfl, hb9⟩; have hz_ := Ext.size hb9; (try simp only [World.size_alloc, World.size_setCell, World.size_drew] at hz_); )
  go_wp2_with fail
  (go_at_call 13; refine ((both_any _ _ _)).mono ?_; rintro e w10 ⟨rfl, hb10⟩; have hz_ := Ext.size hb10; (try simp only [World.size_alloc, World.size_setCell, World.size_drew] at hz_); )
  go_wp2_with fail
  go_ret
  exact ⟨rfl, by (repeat (first | exact Ext.refl _ | assumption | apply Ext.drew | apply Ext.alloc | (refine Ext.setCell ?_ ?_ _ <;> first | (simp; done) | (simp; omega) | omega | skip) | (refine Ext.trans ?_ (by assumption))))⟩

theorem next_facts {view replica n : Int} (h : nextE view replica n = 0) :
    (n = 3 ∨ n = 5 ∨ n = 7) ∧ 0 ≤ view ∧ view ≤ 1073741824 ∧ 0 ≤ replica ∧ replica < n ∧
    view + 1 ≤ nextV view replica n ∧ nextV view replica n ≤ view + n ∧ nextV view replica n % n = replica ∧ ∀ v : Int, view < v → v < nextV view replica n → v % n ≠ replica := by
  unfold nextE at h
  split at h <;> rename_i c1
  · split at h <;> rename_i c2
    · omega
    split at h <;> rename_i c3
    · omega
    unfold nextV
    rw [if_pos c1, if_neg c2, if_neg c3]
    rcases c1 with rfl | rfl | rfl
    all_goals
      refine ⟨by omega, by omega, by omega, by omega, by omega, ?_, ?_, ?_, ?_⟩
      · split <;> omega
      · split <;> omega
      · split <;> omega
      · intro v hv; split <;> intro hv2 <;> omega
  · omega

theorem primE_in {v n : Int} (hn : n = 3 ∨ n = 5 ∨ n = 7) (h0 : 0 ≤ v) (h1 : v ≤ 1073741824) : primE v n = 0 ∧ primV v n = v % n := by
  unfold primE primV; rw [if_pos hn, if_pos hn, if_neg (by omega), if_neg (by omega)]; exact ⟨rfl, rfl⟩

theorem next_law (view r n : Int) (hv1 : -9223372036854775808 ≤ view) (hv2 : view ≤ 9223372036854775807) (hr1 : -9223372036854775808 ≤ r) (hr2 : r ≤ 9223372036854775807)
    (hn1 : -9223372036854775808 ≤ n) (hn2 : n ≤ 9223372036854775807) (w : World) :
    Calls Try.prog 7 #[.int .i64 view, .int .i64 r, .int .i64 n] w fun e w' => e = .returned (.bool true) ∧ Ext w w' := by
  by_cases hE : nextE view r n = 0
  · by_cases hm : 1073741814 < view
    · go_enter Try.func7, Try.ntmps7
      go_wp2_with fail
      (go_at_call 9; refine ((awake_any _)).mono ?_; rintro e w1 ⟨rfl, hb1⟩; have hz_ := Ext.size hb1; (try simp only [World.size_alloc, World.size_setCell, World.size_drew] at hz_); )
      go_wp2_with fail
      (go_at_call 26; refine ((next_any _ _ _ hn1 hn2 hv1 hv2 hr1 hr2 _)).mono ?_; rintro e w2 ⟨rfl, hb2⟩; have hz_ := Ext.size hb2; (try simp only [World.size_alloc, World.size_setCell, World.size_drew] at hz_); )
      go_wp2_with fail
      go_ret
      exact ⟨rfl, by (repeat (first | exact Ext.refl _ | assumption | apply Ext.drew | apply Ext.alloc | (refine Ext.setCell ?_ ?_ _ <;> first | (simp; done) | (simp; omega) | omega | skip) | (refine Ext.trans ?_ (by assumption))))⟩
    have hm' : view ≤ 1073741814 := by omega
    clear hm
    obtain ⟨c1, c2, c3, c4, c5, c6, c7, c8, c9⟩ := next_facts hE
    obtain ⟨p1, p2⟩ := primE_in (v := nextV view r n) c1 (by omega) (by omega)
    rw [c8] at p2
    generalize hxv : nextV view r n = x at *
    have C1 := Lib.hid c1
    have C8 := Lib.hid c8
    have C9 := Lib.hid c9
    have hn8 : n ≤ 7 := by omega
    have hn0 : 3 ≤ n := by omega
    clear c1 c8 c9
    go_enter Try.func7, Try.ntmps7
    go_wp2_with fail
    (go_at_call 9; refine ((awake_any _)).mono ?_; rintro e w1 ⟨rfl, hb1⟩; have hz_ := Ext.size hb1; (try simp only [World.size_alloc, World.size_setCell, World.size_drew] at hz_); )
    go_wp2_with fail
    (go_at_call 26; refine ((next_any _ _ _ hn1 hn2 hv1 hv2 hr1 hr2 _)).mono ?_; rintro e w2 ⟨rfl, hb2⟩; have hz_ := Ext.size hb2; (try simp only [World.size_alloc, World.size_setCell, World.size_drew] at hz_); )
    go_wp2_with fail
    (go_at_call 24; refine ((primary_any n x hn1 hn2 (by omega) (by omega) _)).mono ?_; rintro e w3 ⟨rfl, hb3⟩; have hz_ := Ext.size hb3; (try simp only [World.size_alloc, World.size_setCell, World.size_drew] at hz_); )
    go_wp2_with fail
    clear p1 p2 hxv hE
    go_loopw [12] (fun i wr => ∃ v : Int, view + 1 ≤ v ∧ v ≤ x ∧ i = .int .i64 v ∧ Ext w wr) (fun i _ => (x - intOf i).toNat)
    case atStart => exact ⟨view + 1, by omega, c6, rfl, by (repeat (first | exact Ext.refl _ | assumption | apply Ext.drew | apply Ext.alloc | (refine Ext.setCell ?_ ?_ _ <;> first | (simp; done) | (simp; omega) | omega | skip) | (refine Ext.trans ?_ (by assumption))))⟩
    case round =>
      obtain ⟨v, hva, hvb, rfl, hx⟩ := hrel
      by_cases hlt : v < x
      · obtain ⟨f1, f2⟩ := primE_in (v := v) C1.out (by omega) (by omega)
        have f3 : (primV v n == r) = false := by
          rw [f2, beq_eq_false_iff_ne]
          exact C9.out v (by omega) hlt
        clear f2
        go_wp2_with fail
        (go_at_call 24; refine ((primary_any n v hn1 hn2 (by omega) (by omega) _)).mono ?_; rintro e w4 ⟨rfl, hb4⟩; have hz_ := Ext.size hb4; (try simp only [World.size_alloc, World.size_setCell, World.size_drew] at hz_); )
        go_wp2_with fail
        exact ⟨⟨v + 1, by omega, by omega, rfl, by (repeat (first | exact Ext.refl _ | assumption | apply Ext.drew | apply Ext.alloc | (refine Ext.setCell ?_ ?_ _ <;> first | (simp; done) | (simp; omega) | omega | skip) | (refine Ext.trans ?_ (by assumption))))⟩, by simp [intOf]; omega⟩
      · go_wp2_with fail
        go_ret
        exact ⟨rfl, hx⟩
  · have hE' : (nextE view r n != 0) = true := by simpa using hE
    clear hE
    go_enter Try.func7, Try.ntmps7
    go_wp2_with fail
    (go_at_call 9; refine ((awake_any _)).mono ?_; rintro e w1 ⟨rfl, hb1⟩; have hz_ := Ext.size hb1; (try simp only [World.size_alloc, World.size_setCell, World.size_drew] at hz_); )
    go_wp2_with fail
    (go_at_call 26; refine ((next_any _ _ _ hn1 hn2 hv1 hv2 hr1 hr2 _)).mono ?_; rintro e w2 ⟨rfl, hb2⟩; have hz_ := Ext.size hb2; (try simp only [World.size_alloc, World.size_setCell, World.size_drew] at hz_); )
    go_wp2_with fail
    go_ret
    exact ⟨rfl, by (repeat (first | exact Ext.refl _ | assumption | apply Ext.drew | apply Ext.alloc | (refine Ext.setCell ?_ ?_ _ <;> first | (simp; done) | (simp; omega) | omega | skip) | (refine Ext.trans ?_ (by assumption))))⟩
end Go.Proofs.Ytoliafpammlkiaa
