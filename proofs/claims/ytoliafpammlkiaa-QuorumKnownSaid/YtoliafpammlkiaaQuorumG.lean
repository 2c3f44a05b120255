/-
  Contracts of the document's Full and Both.
-/
import Derived.Test.YtoliafpammlkiaaQuorumE
namespace Go.Proofs.Ytoliafpammlkiaa
set_option linter.unusedSimpArgs false
set_option linter.unusedVariables false
set_option linter.unusedSectionVars false
open Go.ChangeShapes Go.WideShapes Go.ChangeAt Go.RowKit

def bothK (m p k : Nat) : List Int := List.map (fun (i : Nat) => (i : Int)) ((List.range k).filter fun i => m.testBit i && p.testBit i)
theorem bothK_succ (m p k : Nat) : bothK m p (k + 1) = if m.testBit k && p.testBit k then bothK m p k ++ [(k : Int)] else bothK m p k := by
  unfold bothK
  rw [List.range_succ, List.filter_append]
  by_cases h : m.testBit k && p.testBit k <;> simp_all
theorem bothK_le (m p k : Nat) : (bothK m p k).length ≤ k := by unfold bothK; rw [List.length_map]; exact Nat.le_trans (List.length_filter_le _ _) (by simp)

theorem fullB_eq (s n : Int) : fullB s n = (decide (chk n = 0) && decide (enough n ≤ (cntK (low s) (min n 7).toNat : Int))) := by
  have hf := cntK_full ⟨low s, low_lt s⟩
  simp only at hf
  obtain ⟨f3, f5, f7⟩ := hf
  unfold fullB
  by_cases c3 : n = 3
  · subst c3
    rw [if_pos rfl, low_mod8, ← f3, show (min (3 : Int) 7).toNat = 3 from rfl]
    simp [chk, enough]
    omega
  by_cases c5 : n = 5
  · subst c5
    rw [if_neg (by omega), if_pos rfl, low_mod32, ← f5, show (min (5 : Int) 7).toNat = 5 from rfl]
    simp [chk, enough]
    omega
  by_cases c7 : n = 7
  · subst c7
    rw [if_neg (by omega), if_neg (by omega), if_pos rfl, low_mod128, ← f7, show (min (7 : Int) 7).toNat = 7 from rfl]
    simp [chk, enough]
    omega
  rw [if_neg c3, if_neg c5, if_neg c7]
  have : chk n = 2 := by unfold chk; rw [if_neg (by omega)]
  simp [this]

section
variable (s : Int) (h1 : -9223372036854775808 ≤ s) (h2 : s ≤ 9223372036854775807) (n : Int) (h3 : -9223372036854775808 ≤ n) (h4 : n ≤ 9223372036854775807) (w : World)
include h1 h2 h3 h4
theorem rfull_any : Calls Try.prog 19 #[.int .i64 s, .int .i64 n] w fun e w' => e = .returned (.bool (fullB s n)) ∧ Ext w w' := by
  have hF := Lib.hid (fullB_eq s n)
  go_enter Try.func19, Try.ntmps19
  go_wp2_with fail
  (go_at_call 22; refine ((renough_any _ h3 h4 _)).mono ?_; rintro e w1 ⟨rfl, hb1⟩; have hz_ := Ext.size hb1; (try simp only [World.size_alloc, World.size_setCell, World.size_drew] at hz_); )
  go_wp2_with fail
  go_loopw [7, 8] (fun v i wr => ∃ k : Nat, k ≤ (min n 7).toNat ∧ i = .int .i64 k ∧ v = .int .i64 (cntK (low s) k) ∧ Ext w wr) (fun _ i _ => 7 - (intOf i).toNat)
  case atStart => exact ⟨0, by omega, rfl, rfl, hb1⟩
  case round =>
    obtain ⟨k, hk, rfl, rfl, hx⟩ := hrel
    by_cases hlt : k < (min n 7).toNat
    · have hle := cntK_le (low s) k
      have hk7 : k < 7 := by omega
      have hkn : (k : Int) < n := by omega
      have t1 : decide ((k : Int) < n) = true := by simpa using hkn
      have hHas : hasB (low s) (k : Int) = (low s).testBit k := hasB_at _ _ hk7
      have hstep := cntK_succ (low s) k
      rw [← hHas] at hstep
      have hK := Lib.hid hk
      clear hHas hk
      cases hbit : hasB (low s) (k : Int)
      all_goals
        rw [hbit] at hstep
        have HS := Lib.hid hstep
        clear hstep
        generalize cntK (low s) k = cc at *
        go_wp2_with fail
        (go_at_call 17; refine ((rhas_any s h1 h2 k (by omega) (by omega) _)).mono ?_; rintro e w2 ⟨rfl, hb2⟩; have hz_ := Ext.size hb2; (try simp only [World.size_alloc, World.size_setCell, World.size_drew] at hz_); )
        go_wp2_with fail
        exact ⟨⟨k + 1, by omega, by go_num, by rw [HS.out]; simp, by (repeat (first | exact Ext.refl _ | assumption | apply Ext.drew | apply Ext.alloc | (refine Ext.setCell ?_ ?_ _ <;> first | (simp; done) | (simp; omega) | omega | skip) | (refine Ext.trans ?_ (by assumption))))⟩, by simp [intOf]; omega⟩
    · obtain rfl : k = (min n 7).toNat := by omega
      clear hlt hk
      have hend : ((((min n 7).toNat : Nat) : Int) < n ∧ (((min n 7).toNat : Nat) : Int) < 7) → False := by omega
      generalize hq : (min n 7).toNat = q at *
      have HQ := Lib.hid hq
      have HE := Lib.hid hend
      clear hq hend
      have hF' : Hid (fullB s n = (decide (chk n = 0) && decide (enough n ≤ (cntK (low s) q : Int)))) := by have h1 := hF.out; have h2 := HQ.out; subst h2; exact h1
      clear hF
      generalize cntK (low s) q = cc at *
      have hend : decide ((q : Int) < n) = false ∨ (decide ((q : Int) < n) = true ∧ decide ((q : Int) < 7) = false) := by
        by_cases ha : (q : Int) < n
        · exact .inr ⟨by simpa using ha, by simp only [decide_eq_false_iff_not]; exact fun h => HE.out ⟨ha, h⟩⟩
        · exact .inl (by simpa using ha)
      by_cases hc : chk n = 0
      · have e1 : (chk n == 0) = true := by simpa using hc
        have HC := Lib.hid hc
        clear hc
        rcases hend with ha | ⟨ha, hb⟩
        all_goals
          go_wp2_with fail
          go_ret
          exact ⟨bool_congr (by rw [hF'.out]; simp [HC.out]), hx⟩
      · have e1 : (chk n == 0) = false := by simpa using hc
        have HC := Lib.hid hc
        clear hc
        rcases hend with ha | ⟨ha, hb⟩
        all_goals
          go_wp2_with fail
          go_ret
          exact ⟨bool_congr (by rw [hF'.out]; simp [HC.out]), hx⟩
end

section
variable (s t : Int) (h1 : -9223372036854775808 ≤ s) (h2 : s ≤ 9223372036854775807) (h3 : -9223372036854775808 ≤ t) (h4 : t ≤ 9223372036854775807) (w : World)
include h1 h2 h3 h4
theorem rboth_any : Calls Try.prog 20 #[.int .i64 s, .int .i64 t] w fun e w' => e = .returned (.int .i64 ((low s &&& low t : Nat) : Int)) ∧ Ext w w' := by
  go_enter Try.func20, Try.ntmps20
  go_wp2_with fail
  go_loopw [5, 6] (fun v i wr => ∃ k : Nat, k ≤ 7 ∧ i = .int .i64 k ∧ wr.ownsRow w.heap.size 3 1 v (bothK (low s) (low t) k).length (cellsOf .i64 (bothK (low s) (low t) k)) ∧ Ext w wr)
    (fun _ i _ => 7 - (intOf i).toNat)
  case atStart => exact ⟨0, by omega, rfl, World.ownsRow_nil _ _ _ _, Ext.refl w⟩
  case round =>
    obtain ⟨k, hk, rfl, hown, hx⟩ := hrel
    by_cases hlt : k < 7
    · have hle := bothK_le (low s) (low t) k
      have hsz := Ext.size hx
      have hstep := bothK_succ (low s) (low t) k
      rw [← hasB_at (low s) k hlt, ← hasB_at (low t) k hlt] at hstep
      cases hb1 : hasB (low s) (k : Int)
      · rw [hb1] at hstep
        have HS := Lib.hid hstep
        clear hstep
        go_wp2_with fail
        (go_at_call 17; refine ((rhas_any s h1 h2 k (by omega) (by omega) _)).mono ?_; rintro e w2 ⟨rfl, hb2⟩; have hz_ := Ext.size hb2; (try simp only [World.size_alloc, World.size_setCell, World.size_drew] at hz_); )
        have hown1 := own_ext hown hb2
        go_wp2_with fail
        exact ⟨⟨k + 1, by omega, by go_num, by rw [HS.out]; simpa using hown1, by (repeat (first | exact Ext.refl _ | assumption | apply Ext.drew | apply Ext.alloc | (refine Ext.setCell ?_ ?_ _ <;> first | (simp; done) | (simp; omega) | omega | skip) | (refine Ext.trans ?_ (by assumption))))⟩, by simp [intOf]; omega⟩
      · cases hb2 : hasB (low t) (k : Int)
        · rw [hb1, hb2] at hstep
          have HS := Lib.hid hstep
          clear hstep
          go_wp2_with fail
          (go_at_call 17; refine ((rhas_any s h1 h2 k (by omega) (by omega) _)).mono ?_; rintro e w2 ⟨rfl, hx2⟩; have hz_ := Ext.size hx2; (try simp only [World.size_alloc, World.size_setCell, World.size_drew] at hz_); )
          go_wp2_with fail
          (go_at_call 17; refine ((rhas_any t h3 h4 k (by omega) (by omega) _)).mono ?_; rintro e w3 ⟨rfl, hx3⟩; have hz_ := Ext.size hx3; (try simp only [World.size_alloc, World.size_setCell, World.size_drew] at hz_); )
          have hown1 := own_ext (own_ext hown hx2) hx3
          go_wp2_with fail
          exact ⟨⟨k + 1, by omega, by go_num, by rw [HS.out]; simpa using hown1, by (repeat (first | exact Ext.refl _ | assumption | apply Ext.drew | apply Ext.alloc | (refine Ext.setCell ?_ ?_ _ <;> first | (simp; done) | (simp; omega) | omega | skip) | (refine Ext.trans ?_ (by assumption))))⟩, by simp [intOf]; omega⟩
        · rw [hb1, hb2] at hstep
          have HS := Lib.hid hstep
          clear hstep
          go_wp2_with fail
          (go_at_call 17; refine ((rhas_any s h1 h2 k (by omega) (by omega) _)).mono ?_; rintro e w2 ⟨rfl, hx2⟩; have hz_ := Ext.size hx2; (try simp only [World.size_alloc, World.size_setCell, World.size_drew] at hz_); )
          go_wp2_with fail
          (go_at_call 17; refine ((rhas_any t h3 h4 k (by omega) (by omega) _)).mono ?_; rintro e w3 ⟨rfl, hx3⟩; have hz_ := Ext.size hx3; (try simp only [World.size_alloc, World.size_setCell, World.size_drew] at hz_); )
          have hown1 := own_ext (own_ext hown hx2) hx3
          go_wp2_with (at_builtin; refine wpList_app1 rfl (.tmp 19) (.tmp 21) _ 3 3 1 8 rfl ei_ints w.heap.size _ _ _ rfl hown1 #[.int .i64 k] rfl rfl (by simp [Value.oneCell']) (by simp only [maxLen]; omega) (by omega) (by omega) ?_; intro v' w4 hown2 hbel)
          exact ⟨⟨k + 1, by omega, by go_num, by rw [HS.out]; simpa [cells_snoc] using hown2, Ext.of_below (by (repeat (first | exact Ext.refl _ | assumption | apply Ext.drew | apply Ext.alloc | (refine Ext.setCell ?_ ?_ _ <;> first | (simp; done) | (simp; omega) | omega | skip) | (refine Ext.trans ?_ (by assumption))))) hbel (Nat.le_refl _)⟩, by simp [intOf]; omega⟩
    · obtain rfl : k = 7 := by omega
      have hle := bothK_le (low s) (low t) 7
      obtain ⟨A, c, rfl, hcc, hcm, hsl⟩ := own_form hown
      have hl : ofL (bothK (low s) (low t) 7) = ((low s &&& low t : Nat) : Int) := ofL_both ⟨low s, low_lt s⟩ ⟨low t, low_lt t⟩
      have HL := Lib.hid hl
      clear hl
      go_wp2_with fail
      (go_at_call 31; refine ((of_any A _ c _ rfl (by omega) _ hsl)).mono ?_; rintro e w3 ⟨rfl, hb3⟩; have hz_ := Ext.size hb3; (try simp only [World.size_alloc, World.size_setCell, World.size_drew] at hz_); )
      go_wp2_with fail
      go_ret
      exact ⟨ret1_int HL.out, by (repeat (first | exact Ext.refl _ | assumption | apply Ext.drew | apply Ext.alloc | (refine Ext.setCell ?_ ?_ _ <;> first | (simp; done) | (simp; omega) | omega | skip) | (refine Ext.trans ?_ (by assumption))))⟩
end
end Go.Proofs.Ytoliafpammlkiaa
