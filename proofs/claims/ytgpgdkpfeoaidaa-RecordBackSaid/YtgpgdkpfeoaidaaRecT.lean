/-
  Chapter 02: the statement RecordBack: its loops' laws; contracts of what it calls.
-/
import Derived.Test.YtgpgdkpfeoaidaaRecS
import Derived.Test.YtgpgdkpfeoaidaaRecordKnownV
namespace Go.Proofs.Ytgpgdkpfeoaidaa
set_option linter.unusedSimpArgs false
set_option linter.unusedVariables false
set_option linter.unusedSectionVars false
open Go Go.RowKit

/-- Older rows beside a list. -/
def RestB (a b : Nat) (rest : Hp) : Prop := rest = [] ∨ (∃ ys, Fl ys ∧ rest = [(a, ⟨.old, ys⟩)]) ∨ (∃ zs, Fl zs ∧ rest = [(b, ⟨.old, zs⟩)]) ∨ (∃ ys zs, Fl ys ∧ Fl zs ∧ rest = [(a, ⟨.old, ys⟩), (b, ⟨.old, zs⟩)])
/-- An argument that is carried on. -/
def ArgV (v : Value) : Prop := ∀ lo N ρ, 3 ≤ lo → renV (sgf lo N ρ) v = some v
theorem ArgV.nil : ArgV (.slice none 0 0) := fun lo N ρ h => by simp only [renV]
theorem ArgV.sl {k n c : Nat} (hk : k < 3) (hc : c ≤ 9223372036854775807) : ArgV (.slice (some ⟨k, 0, none⟩) n c) := fun lo N ρ h => rb_slc (sgf_old (by omega)) (by unfold capBig; omega)
/-- Records with all their ranges. -/
structure RecsU (xs : List Value) (n c : Nat) : Prop where
  r : RecsOk xs n
  u : ∀ i, i < n → recU xs i
  c : n ≤ c ∧ c ≤ 9223372036854775807
theorem RecsU.is {xs : List Value} {n c i : Nat} (H : RecsU xs n c) (hi : i < n) : RdIs (recX rcdB xs i) 128 xs i := by
  obtain ⟨u0, u1, u2, u3, u4, u5, u6, u7, u8, u9, u10, u11, u12, u18⟩ := H.u i hi
  exact ⟨recX_Byts rfl xs i, rfl, rcC_rcdB (H.r.w i hi) u0 u1 u2 u3 u4 u5 u6 u7 u8 u9 u10 u11 u12 u18⟩
set_option maxHeartbeats 4000000 in
theorem bl_loop {inr : Bool} {h0 : Hp} {xs : List Value} {v1 v2 : Value} {rest : Hp} {lo n c : Nat} (hlo : lo = 3 ∨ lo = 3) (H : RecsU xs n c) (g1 : ArgV v1) (g2 : ArgV v2) (hr : RestB 1 2 rest) : ∀ (k i : Nat), i + k = n →
    LRuns inr Try.prog (blB Try.prog) lo 20 h0 194 (blS v1 v2 n c i) ((0, ⟨.old, xs⟩) :: rest) 3 (.exit (0 * 2), blE v1 v2 n c, rest ++ [(0, ⟨.old, xs⟩)])
  | 0, i, hk => by
      have hX : XOkZ (blV [] xs i) Try.prog := noXz_ok rfl
      have hT : TOkZ (blV [] xs i) Try.prog := T_okV rfl (blT_one [] xs i)
      have hL : LOkZ (blV [] xs i) Try.prog := noL_okV rfl
      have hc := H.c
      have ht : decide ((i : Int) < (n : Int)) = false := by simp only [decide_eq_false_iff_not]; omega
      rcases hr with rfl | ⟨ys, f1, rfl⟩ | ⟨zs, f2, rfl⟩ | ⟨ys, zs, f1, f2, rfl⟩
      · rcases hlo with rfl | rfl <;> refine LRuns.exit (code_runs hX hL (runZ_ok hX hT hL mixed 5) mixed (bl0_done inr [] xs v1 v2 n c i) ⟨ht, trivial⟩) (by intro e; cases e) rfl (by omega) (by omega) (fun n => n) ?_ ?_ rfl
        all_goals
          repeat' (first | exact trivial | refine And.intro ?_ ?_)
          all_goals first
          | rfl
          | exact rb_old (by omega) rfl (by first | assumption | exact H.r.f)
          | exact g1 _ _ _ (by omega)
          | exact g2 _ _ _ (by omega)
          | exact g1 _ _ _ (Nat.le_of_ble_eq_true rfl)
          | exact g2 _ _ _ (Nat.le_of_ble_eq_true rfl)
          | exact rb_old (Nat.le_of_ble_eq_true rfl) rfl (by first | assumption | exact H.r.f)
          | exact rb_slc (l := n) (c := c) rfl (by unfold capBig; omega)
          | exact rb_slc rfl (by unfold capBig; omega)
      · rcases hlo with rfl | rfl <;> refine LRuns.exit (code_runs hX hL (runZ_ok hX hT hL mixed 5) mixed (bl1_done inr [] xs ys v1 v2 n c i) ⟨ht, trivial⟩) (by intro e; cases e) rfl (by omega) (by omega) (fun n => n) ?_ ?_ rfl
        all_goals
          repeat' (first | exact trivial | refine And.intro ?_ ?_)
          all_goals first
          | rfl
          | exact rb_old (by omega) rfl (by first | assumption | exact H.r.f)
          | exact g1 _ _ _ (by omega)
          | exact g2 _ _ _ (by omega)
          | exact g1 _ _ _ (Nat.le_of_ble_eq_true rfl)
          | exact g2 _ _ _ (Nat.le_of_ble_eq_true rfl)
          | exact rb_old (Nat.le_of_ble_eq_true rfl) rfl (by first | assumption | exact H.r.f)
          | exact rb_slc (l := n) (c := c) rfl (by unfold capBig; omega)
          | exact rb_slc rfl (by unfold capBig; omega)
      · rcases hlo with rfl | rfl <;> refine LRuns.exit (code_runs hX hL (runZ_ok hX hT hL mixed 5) mixed (bl2_done inr [] xs zs v1 v2 n c i) ⟨ht, trivial⟩) (by intro e; cases e) rfl (by omega) (by omega) (fun n => n) ?_ ?_ rfl
        all_goals
          repeat' (first | exact trivial | refine And.intro ?_ ?_)
          all_goals first
          | rfl
          | exact rb_old (by omega) rfl (by first | assumption | exact H.r.f)
          | exact g1 _ _ _ (by omega)
          | exact g2 _ _ _ (by omega)
          | exact g1 _ _ _ (Nat.le_of_ble_eq_true rfl)
          | exact g2 _ _ _ (Nat.le_of_ble_eq_true rfl)
          | exact rb_old (Nat.le_of_ble_eq_true rfl) rfl (by first | assumption | exact H.r.f)
          | exact rb_slc (l := n) (c := c) rfl (by unfold capBig; omega)
          | exact rb_slc rfl (by unfold capBig; omega)
      · rcases hlo with rfl | rfl <;> refine LRuns.exit (code_runs hX hL (runZ_ok hX hT hL mixed 5) mixed (bl3_done inr [] xs ys zs v1 v2 n c i) ⟨ht, trivial⟩) (by intro e; cases e) rfl (by omega) (by omega) (fun n => n) ?_ ?_ rfl
        all_goals
          repeat' (first | exact trivial | refine And.intro ?_ ?_)
          all_goals first
          | rfl
          | exact rb_old (by omega) rfl (by first | assumption | exact H.r.f)
          | exact g1 _ _ _ (by omega)
          | exact g2 _ _ _ (by omega)
          | exact g1 _ _ _ (Nat.le_of_ble_eq_true rfl)
          | exact g2 _ _ _ (Nat.le_of_ble_eq_true rfl)
          | exact rb_old (Nat.le_of_ble_eq_true rfl) rfl (by first | assumption | exact H.r.f)
          | exact rb_slc (l := n) (c := c) rfl (by unfold capBig; omega)
          | exact rb_slc rfl (by unfold capBig; omega)
  | k + 1, i, hk => by
      have nx := bl_loop (inr := inr) (h0 := h0) hlo H g1 g2 hr k (i + 1) (by omega)
      obtain ⟨R, hR⟩ : ∃ R, R = recX rcdB xs i := ⟨_, rfl⟩
      have hX : XOkZ (blV R xs i) Try.prog := noXz_ok rfl
      have hT : TOkZ (blV R xs i) Try.prog := T_okV rfl (blT_one R xs i)
      have hL : LOkZ (blV R xs i) Try.prog := noL_okV rfl
      have hc := H.c
      have ht := H.r.t i (by omega)
      have hw := H.r.w i (by omega)
      have hi := H.is (i := i) (by omega)
      rw [← hR] at hi
      have fR : Fl R := fl_byts hi.b
      have lR : R.length = 128 := by rw [hR]; exact recX_len rfl xs i
      have ex : R.take 128 = R := take_len lR
      have bR := hi.b
      have iR : RcdIs R (intAt xs (i * 19)) (intAt xs (i * 19 + 1)) (intAt xs (i * 19 + 2)) (intAt xs (i * 19 + 3)) (intAt xs (i * 19 + 4)) (intAt xs (i * 19 + 5)) (intAt xs (i * 19 + 6)) (intAt xs (i * 19 + 7)) (intAt xs (i * 19 + 8)) (intAt xs (i * 19 + 9)) (intAt xs (i * 19 + 10)) (intAt xs (i * 19 + 11)) (intAt xs (i * 19 + 12)) (intAt xs (i * 19 + 13)) (intAt xs (i * 19 + 14)) (intAt xs (i * 19 + 15)) (intAt xs (i * 19 + 16)) (intAt xs (i * 19 + 17)) (intAt xs (i * 19 + 18)) := hR
      clear hR
      rcases hr with rfl | ⟨ys, f1, rfl⟩ | ⟨zs, f2, rfl⟩ | ⟨ys, zs, f1, f2, rfl⟩
      · rcases hlo with rfl | rfl <;> refine LRuns.step (code_runs hX hL (runZ_ok hX hT hL mixed 5) mixed (bl0_more inr R xs v1 v2 n c i) ?_) rfl (by omega) (by omega) (fun n => n) ?_ ?_ rfl nx
        case inl.refine_1 | inr.refine_1 =>
          repeat' (first | exact alls_nil | refine alls_cons ?_ ?_)
          all_goals first
          | with_reducible rfl
          | with_reducible assumption
          | omega
          | (simp only [decide_eq_true_eq]; omega)
          | exact ht
          | exact hw
          | exact hi
          | (rw [ex]; exact hi)
          | exact fR
          | (rw [ex]; exact fR)
          | (rw [ex]; exact lR)
          | (rw [ex]; exact bR)
          | (simp only [rg]; omega)
          | (simp only [beq_self_eq_true, Bool.and_self, Bool.not_true]; done)
          | rfl
        all_goals
          repeat' (first | exact trivial | refine And.intro ?_ ?_)
          all_goals first
          | rfl
          | exact rb_old (by omega) rfl (by first | assumption | exact H.r.f)
          | exact g1 _ _ _ (by omega)
          | exact g2 _ _ _ (by omega)
          | exact g1 _ _ _ (Nat.le_of_ble_eq_true rfl)
          | exact g2 _ _ _ (Nat.le_of_ble_eq_true rfl)
          | exact rb_old (Nat.le_of_ble_eq_true rfl) rfl (by first | assumption | exact H.r.f)
          | exact rb_slc (l := n) (c := c) rfl (by unfold capBig; omega)
          | exact rb_slc rfl (by unfold capBig; omega)
      · rcases hlo with rfl | rfl <;> refine LRuns.step (code_runs hX hL (runZ_ok hX hT hL mixed 5) mixed (bl1_more inr R xs ys v1 v2 n c i) ?_) rfl (by omega) (by omega) (fun n => n) ?_ ?_ rfl nx
        case inl.refine_1 | inr.refine_1 =>
          repeat' (first | exact alls_nil | refine alls_cons ?_ ?_)
          all_goals first
          | with_reducible rfl
          | with_reducible assumption
          | omega
          | (simp only [decide_eq_true_eq]; omega)
          | exact ht
          | exact hw
          | exact hi
          | (rw [ex]; exact hi)
          | exact fR
          | (rw [ex]; exact fR)
          | (rw [ex]; exact lR)
          | (rw [ex]; exact bR)
          | (simp only [rg]; omega)
          | (simp only [beq_self_eq_true, Bool.and_self, Bool.not_true]; done)
          | rfl
        all_goals
          repeat' (first | exact trivial | refine And.intro ?_ ?_)
          all_goals first
          | rfl
          | exact rb_old (by omega) rfl (by first | assumption | exact H.r.f)
          | exact g1 _ _ _ (by omega)
          | exact g2 _ _ _ (by omega)
          | exact g1 _ _ _ (Nat.le_of_ble_eq_true rfl)
          | exact g2 _ _ _ (Nat.le_of_ble_eq_true rfl)
          | exact rb_old (Nat.le_of_ble_eq_true rfl) rfl (by first | assumption | exact H.r.f)
          | exact rb_slc (l := n) (c := c) rfl (by unfold capBig; omega)
          | exact rb_slc rfl (by unfold capBig; omega)
      · rcases hlo with rfl | rfl <;> refine LRuns.step (code_runs hX hL (runZ_ok hX hT hL mixed 5) mixed (bl2_more inr R xs zs v1 v2 n c i) ?_) rfl (by omega) (by omega) (fun n => n) ?_ ?_ rfl nx
        case inl.refine_1 | inr.refine_1 =>
          repeat' (first | exact alls_nil | refine alls_cons ?_ ?_)
          all_goals first
          | with_reducible rfl
          | with_reducible assumption
          | omega
          | (simp only [decide_eq_true_eq]; omega)
          | exact ht
          | exact hw
          | exact hi
          | (rw [ex]; exact hi)
          | exact fR
          | (rw [ex]; exact fR)
          | (rw [ex]; exact lR)
          | (rw [ex]; exact bR)
          | (simp only [rg]; omega)
          | (simp only [beq_self_eq_true, Bool.and_self, Bool.not_true]; done)
          | rfl
        all_goals
          repeat' (first | exact trivial | refine And.intro ?_ ?_)
          all_goals first
          | rfl
          | exact rb_old (by omega) rfl (by first | assumption | exact H.r.f)
          | exact g1 _ _ _ (by omega)
          | exact g2 _ _ _ (by omega)
          | exact g1 _ _ _ (Nat.le_of_ble_eq_true rfl)
          | exact g2 _ _ _ (Nat.le_of_ble_eq_true rfl)
          | exact rb_old (Nat.le_of_ble_eq_true rfl) rfl (by first | assumption | exact H.r.f)
          | exact rb_slc (l := n) (c := c) rfl (by unfold capBig; omega)
          | exact rb_slc rfl (by unfold capBig; omega)
      · rcases hlo with rfl | rfl <;> refine LRuns.step (code_runs hX hL (runZ_ok hX hT hL mixed 5) mixed (bl3_more inr R xs ys zs v1 v2 n c i) ?_) rfl (by omega) (by omega) (fun n => n) ?_ ?_ rfl nx
        case inl.refine_1 | inr.refine_1 =>
          repeat' (first | exact alls_nil | refine alls_cons ?_ ?_)
          all_goals first
          | with_reducible rfl
          | with_reducible assumption
          | omega
          | (simp only [decide_eq_true_eq]; omega)
          | exact ht
          | exact hw
          | exact hi
          | (rw [ex]; exact hi)
          | exact fR
          | (rw [ex]; exact fR)
          | (rw [ex]; exact lR)
          | (rw [ex]; exact bR)
          | (simp only [rg]; omega)
          | (simp only [beq_self_eq_true, Bool.and_self, Bool.not_true]; done)
          | rfl
        all_goals
          repeat' (first | exact trivial | refine And.intro ?_ ?_)
          all_goals first
          | rfl
          | exact rb_old (by omega) rfl (by first | assumption | exact H.r.f)
          | exact g1 _ _ _ (by omega)
          | exact g2 _ _ _ (by omega)
          | exact g1 _ _ _ (Nat.le_of_ble_eq_true rfl)
          | exact g2 _ _ _ (Nat.le_of_ble_eq_true rfl)
          | exact rb_old (Nat.le_of_ble_eq_true rfl) rfl (by first | assumption | exact H.r.f)
          | exact rb_slc (l := n) (c := c) rfl (by unfold capBig; omega)
          | exact rb_slc rfl (by unfold capBig; omega)
set_option maxHeartbeats 4000000 in
theorem bm_loop {inr : Bool} {h0 : Hp} {xs : List Value} {v1 v2 : Value} {rest : Hp} {lo n c : Nat} (hlo : lo = 3 ∨ lo = 20) (H : RecsU xs n c) (g1 : ArgV v1) (g2 : ArgV v2) (hr : RestB 2 0 rest) : ∀ (k i : Nat), i + k = n →
    LRuns inr Try.prog (bmB Try.prog) lo 40 h0 194 (bmS v1 v2 n c i) ((1, ⟨.old, xs⟩) :: rest) 20 (.exit (1 * 2), bmE v1 v2 n c, rest ++ [(1, ⟨.old, xs⟩)])
  | 0, i, hk => by
      have hX : XOkZ (blV [] xs i) Try.prog := noXz_ok rfl
      have hT : TOkZ (blV [] xs i) Try.prog := T_okV rfl (blT_one [] xs i)
      have hL : LOkZ (blV [] xs i) Try.prog := noL_okV rfl
      have hc := H.c
      have ht : decide ((i : Int) < (n : Int)) = false := by simp only [decide_eq_false_iff_not]; omega
      rcases hr with rfl | ⟨ys, f1, rfl⟩ | ⟨zs, f2, rfl⟩ | ⟨ys, zs, f1, f2, rfl⟩
      · rcases hlo with rfl | rfl <;> refine LRuns.exit (code_runs hX hL (runZ_ok hX hT hL mixed 5) mixed (bm0_done inr [] xs v1 v2 n c i) ⟨ht, trivial⟩) (by intro e; cases e) rfl (by omega) (by omega) (fun n => n) ?_ ?_ rfl
        all_goals
          repeat' (first | exact trivial | refine And.intro ?_ ?_)
          all_goals first
          | rfl
          | exact rb_old (by omega) rfl (by first | assumption | exact H.r.f)
          | exact g1 _ _ _ (by omega)
          | exact g2 _ _ _ (by omega)
          | exact g1 _ _ _ (Nat.le_of_ble_eq_true rfl)
          | exact g2 _ _ _ (Nat.le_of_ble_eq_true rfl)
          | exact rb_old (Nat.le_of_ble_eq_true rfl) rfl (by first | assumption | exact H.r.f)
          | exact rb_slc (l := n) (c := c) rfl (by unfold capBig; omega)
          | exact rb_slc rfl (by unfold capBig; omega)
      · rcases hlo with rfl | rfl <;> refine LRuns.exit (code_runs hX hL (runZ_ok hX hT hL mixed 5) mixed (bm1_done inr [] xs ys v1 v2 n c i) ⟨ht, trivial⟩) (by intro e; cases e) rfl (by omega) (by omega) (fun n => n) ?_ ?_ rfl
        all_goals
          repeat' (first | exact trivial | refine And.intro ?_ ?_)
          all_goals first
          | rfl
          | exact rb_old (by omega) rfl (by first | assumption | exact H.r.f)
          | exact g1 _ _ _ (by omega)
          | exact g2 _ _ _ (by omega)
          | exact g1 _ _ _ (Nat.le_of_ble_eq_true rfl)
          | exact g2 _ _ _ (Nat.le_of_ble_eq_true rfl)
          | exact rb_old (Nat.le_of_ble_eq_true rfl) rfl (by first | assumption | exact H.r.f)
          | exact rb_slc (l := n) (c := c) rfl (by unfold capBig; omega)
          | exact rb_slc rfl (by unfold capBig; omega)
      · rcases hlo with rfl | rfl <;> refine LRuns.exit (code_runs hX hL (runZ_ok hX hT hL mixed 5) mixed (bm2_done inr [] xs zs v1 v2 n c i) ⟨ht, trivial⟩) (by intro e; cases e) rfl (by omega) (by omega) (fun n => n) ?_ ?_ rfl
        all_goals
          repeat' (first | exact trivial | refine And.intro ?_ ?_)
          all_goals first
          | rfl
          | exact rb_old (by omega) rfl (by first | assumption | exact H.r.f)
          | exact g1 _ _ _ (by omega)
          | exact g2 _ _ _ (by omega)
          | exact g1 _ _ _ (Nat.le_of_ble_eq_true rfl)
          | exact g2 _ _ _ (Nat.le_of_ble_eq_true rfl)
          | exact rb_old (Nat.le_of_ble_eq_true rfl) rfl (by first | assumption | exact H.r.f)
          | exact rb_slc (l := n) (c := c) rfl (by unfold capBig; omega)
          | exact rb_slc rfl (by unfold capBig; omega)
      · rcases hlo with rfl | rfl <;> refine LRuns.exit (code_runs hX hL (runZ_ok hX hT hL mixed 5) mixed (bm3_done inr [] xs ys zs v1 v2 n c i) ⟨ht, trivial⟩) (by intro e; cases e) rfl (by omega) (by omega) (fun n => n) ?_ ?_ rfl
        all_goals
          repeat' (first | exact trivial | refine And.intro ?_ ?_)
          all_goals first
          | rfl
          | exact rb_old (by omega) rfl (by first | assumption | exact H.r.f)
          | exact g1 _ _ _ (by omega)
          | exact g2 _ _ _ (by omega)
          | exact g1 _ _ _ (Nat.le_of_ble_eq_true rfl)
          | exact g2 _ _ _ (Nat.le_of_ble_eq_true rfl)
          | exact rb_old (Nat.le_of_ble_eq_true rfl) rfl (by first | assumption | exact H.r.f)
          | exact rb_slc (l := n) (c := c) rfl (by unfold capBig; omega)
          | exact rb_slc rfl (by unfold capBig; omega)
  | k + 1, i, hk => by
      have nx := bm_loop (inr := inr) (h0 := h0) hlo H g1 g2 hr k (i + 1) (by omega)
      obtain ⟨R, hR⟩ : ∃ R, R = recX rcdB xs i := ⟨_, rfl⟩
      have hX : XOkZ (blV R xs i) Try.prog := noXz_ok rfl
      have hT : TOkZ (blV R xs i) Try.prog := T_okV rfl (blT_one R xs i)
      have hL : LOkZ (blV R xs i) Try.prog := noL_okV rfl
      have hc := H.c
      have ht := H.r.t i (by omega)
      have hw := H.r.w i (by omega)
      have hi := H.is (i := i) (by omega)
      rw [← hR] at hi
      have fR : Fl R := fl_byts hi.b
      have lR : R.length = 128 := by rw [hR]; exact recX_len rfl xs i
      have ex : R.take 128 = R := take_len lR
      have bR := hi.b
      have iR : RcdIs R (intAt xs (i * 19)) (intAt xs (i * 19 + 1)) (intAt xs (i * 19 + 2)) (intAt xs (i * 19 + 3)) (intAt xs (i * 19 + 4)) (intAt xs (i * 19 + 5)) (intAt xs (i * 19 + 6)) (intAt xs (i * 19 + 7)) (intAt xs (i * 19 + 8)) (intAt xs (i * 19 + 9)) (intAt xs (i * 19 + 10)) (intAt xs (i * 19 + 11)) (intAt xs (i * 19 + 12)) (intAt xs (i * 19 + 13)) (intAt xs (i * 19 + 14)) (intAt xs (i * 19 + 15)) (intAt xs (i * 19 + 16)) (intAt xs (i * 19 + 17)) (intAt xs (i * 19 + 18)) := hR
      clear hR
      rcases hr with rfl | ⟨ys, f1, rfl⟩ | ⟨zs, f2, rfl⟩ | ⟨ys, zs, f1, f2, rfl⟩
      · rcases hlo with rfl | rfl <;> refine LRuns.step (code_runs hX hL (runZ_ok hX hT hL mixed 5) mixed (bm0_more inr R xs v1 v2 n c i) ?_) rfl (by omega) (by omega) (fun n => n) ?_ ?_ rfl nx
        case inl.refine_1 | inr.refine_1 =>
          repeat' (first | exact alls_nil | refine alls_cons ?_ ?_)
          all_goals first
          | with_reducible rfl
          | with_reducible assumption
          | omega
          | (simp only [decide_eq_true_eq]; omega)
          | exact ht
          | exact hw
          | exact hi
          | (rw [ex]; exact hi)
          | exact fR
          | (rw [ex]; exact fR)
          | (rw [ex]; exact lR)
          | (rw [ex]; exact bR)
          | (simp only [rg]; omega)
          | (simp only [beq_self_eq_true, Bool.and_self, Bool.not_true]; done)
          | rfl
        all_goals
          repeat' (first | exact trivial | refine And.intro ?_ ?_)
          all_goals first
          | rfl
          | exact rb_old (by omega) rfl (by first | assumption | exact H.r.f)
          | exact g1 _ _ _ (by omega)
          | exact g2 _ _ _ (by omega)
          | exact g1 _ _ _ (Nat.le_of_ble_eq_true rfl)
          | exact g2 _ _ _ (Nat.le_of_ble_eq_true rfl)
          | exact rb_old (Nat.le_of_ble_eq_true rfl) rfl (by first | assumption | exact H.r.f)
          | exact rb_slc (l := n) (c := c) rfl (by unfold capBig; omega)
          | exact rb_slc rfl (by unfold capBig; omega)
      · rcases hlo with rfl | rfl <;> refine LRuns.step (code_runs hX hL (runZ_ok hX hT hL mixed 5) mixed (bm1_more inr R xs ys v1 v2 n c i) ?_) rfl (by omega) (by omega) (fun n => n) ?_ ?_ rfl nx
        case inl.refine_1 | inr.refine_1 =>
          repeat' (first | exact alls_nil | refine alls_cons ?_ ?_)
          all_goals first
          | with_reducible rfl
          | with_reducible assumption
          | omega
          | (simp only [decide_eq_true_eq]; omega)
          | exact ht
          | exact hw
          | exact hi
          | (rw [ex]; exact hi)
          | exact fR
          | (rw [ex]; exact fR)
          | (rw [ex]; exact lR)
          | (rw [ex]; exact bR)
          | (simp only [rg]; omega)
          | (simp only [beq_self_eq_true, Bool.and_self, Bool.not_true]; done)
          | rfl
        all_goals
          repeat' (first | exact trivial | refine And.intro ?_ ?_)
          all_goals first
          | rfl
          | exact rb_old (by omega) rfl (by first | assumption | exact H.r.f)
          | exact g1 _ _ _ (by omega)
          | exact g2 _ _ _ (by omega)
          | exact g1 _ _ _ (Nat.le_of_ble_eq_true rfl)
          | exact g2 _ _ _ (Nat.le_of_ble_eq_true rfl)
          | exact rb_old (Nat.le_of_ble_eq_true rfl) rfl (by first | assumption | exact H.r.f)
          | exact rb_slc (l := n) (c := c) rfl (by unfold capBig; omega)
          | exact rb_slc rfl (by unfold capBig; omega)
      · rcases hlo with rfl | rfl <;> refine LRuns.step (code_runs hX hL (runZ_ok hX hT hL mixed 5) mixed (bm2_more inr R xs zs v1 v2 n c i) ?_) rfl (by omega) (by omega) (fun n => n) ?_ ?_ rfl nx
        case inl.refine_1 | inr.refine_1 =>
          repeat' (first | exact alls_nil | refine alls_cons ?_ ?_)
          all_goals first
          | with_reducible rfl
          | with_reducible assumption
          | omega
          | (simp only [decide_eq_true_eq]; omega)
          | exact ht
          | exact hw
          | exact hi
          | (rw [ex]; exact hi)
          | exact fR
          | (rw [ex]; exact fR)
          | (rw [ex]; exact lR)
          | (rw [ex]; exact bR)
          | (simp only [rg]; omega)
          | (simp only [beq_self_eq_true, Bool.and_self, Bool.not_true]; done)
          | rfl
        all_goals
          repeat' (first | exact trivial | refine And.intro ?_ ?_)
          all_goals first
          | rfl
          | exact rb_old (by omega) rfl (by first | assumption | exact H.r.f)
          | exact g1 _ _ _ (by omega)
          | exact g2 _ _ _ (by omega)
          | exact g1 _ _ _ (Nat.le_of_ble_eq_true rfl)
          | exact g2 _ _ _ (Nat.le_of_ble_eq_true rfl)
          | exact rb_old (Nat.le_of_ble_eq_true rfl) rfl (by first | assumption | exact H.r.f)
          | exact rb_slc (l := n) (c := c) rfl (by unfold capBig; omega)
          | exact rb_slc rfl (by unfold capBig; omega)
      · rcases hlo with rfl | rfl <;> refine LRuns.step (code_runs hX hL (runZ_ok hX hT hL mixed 5) mixed (bm3_more inr R xs ys zs v1 v2 n c i) ?_) rfl (by omega) (by omega) (fun n => n) ?_ ?_ rfl nx
        case inl.refine_1 | inr.refine_1 =>
          repeat' (first | exact alls_nil | refine alls_cons ?_ ?_)
          all_goals first
          | with_reducible rfl
          | with_reducible assumption
          | omega
          | (simp only [decide_eq_true_eq]; omega)
          | exact ht
          | exact hw
          | exact hi
          | (rw [ex]; exact hi)
          | exact fR
          | (rw [ex]; exact fR)
          | (rw [ex]; exact lR)
          | (rw [ex]; exact bR)
          | (simp only [rg]; omega)
          | (simp only [beq_self_eq_true, Bool.and_self, Bool.not_true]; done)
          | rfl
        all_goals
          repeat' (first | exact trivial | refine And.intro ?_ ?_)
          all_goals first
          | rfl
          | exact rb_old (by omega) rfl (by first | assumption | exact H.r.f)
          | exact g1 _ _ _ (by omega)
          | exact g2 _ _ _ (by omega)
          | exact g1 _ _ _ (Nat.le_of_ble_eq_true rfl)
          | exact g2 _ _ _ (Nat.le_of_ble_eq_true rfl)
          | exact rb_old (Nat.le_of_ble_eq_true rfl) rfl (by first | assumption | exact H.r.f)
          | exact rb_slc (l := n) (c := c) rfl (by unfold capBig; omega)
          | exact rb_slc rfl (by unfold capBig; omega)
def nxOf (rest : Hp) : Nat := match lk rest 0 with | some _ => 20 | none => 3
theorem lk_perm {a b k : Nat} {rest : Hp} {r : Rw} (hr : RestB a b rest) (hak : a ≠ k) (hbk : b ≠ k) (n : Nat) : lk (rest ++ [(k, r)]) n = lk ((k, r) :: rest) n := by
  by_cases hk : k = n
  · subst hk
    have e1 : Nat.beq a k = false := by cases h : Nat.beq a k with | false => rfl | true => exact absurd (Nat.eq_of_beq_eq_true h) hak
    have e2 : Nat.beq b k = false := by cases h : Nat.beq b k with | false => rfl | true => exact absurd (Nat.eq_of_beq_eq_true h) hbk
    rcases hr with rfl | ⟨ys, f1, rfl⟩ | ⟨zs, f2, rfl⟩ | ⟨ys, zs, f1, f2, rfl⟩ <;> simp [lk, e1, e2]
  · have e0 : Nat.beq k n = false := by cases h : Nat.beq k n with | false => rfl | true => exact absurd (Nat.eq_of_beq_eq_true h) hk
    rcases hr with rfl | ⟨ys, f1, rfl⟩ | ⟨zs, f2, rfl⟩ | ⟨ys, zs, f1, f2, rfl⟩ <;> simp [lk, e0]
def blSpec : LSpec := lspec (fun live h => match live, h with | [(_, .slice _ n c), (_, v1), (_, v2), _, _], (_, r) :: rest => some (n, c, v1, v2, r.cs, rest) | _, _ => none) (fun a => (blS a.2.2.1 a.2.2.2.1 a.1 a.2.1 0, (0, ⟨.old, a.2.2.2.2.1⟩) :: a.2.2.2.2.2, 3))
  (fun a tp => some ((.exit 0, blE a.2.2.1 a.2.2.2.1 a.1 a.2.1, a.2.2.2.2.2 ++ [(0, ⟨.old, a.2.2.2.2.1⟩)], 20, []), tp, [RecsU a.2.2.2.2.1 a.1 a.2.1, ArgV a.2.2.1, ArgV a.2.2.2.1, RestB 1 2 a.2.2.2.2.2]))
def bmSpec : LSpec := lspec (fun live h => match live, h with | [(_, v1), (_, .slice _ n c), (_, v2), _, _], (_, r) :: rest => some (n, c, v1, v2, r.cs, rest) | _, _ => none) (fun a => (bmS a.2.2.1 a.2.2.2.1 a.1 a.2.1 0, (1, ⟨.old, a.2.2.2.2.1⟩) :: a.2.2.2.2.2, nxOf a.2.2.2.2.2))
  (fun a tp => some ((.exit 2, bmE a.2.2.1 a.2.2.2.1 a.1 a.2.1, a.2.2.2.2.2 ++ [(1, ⟨.old, a.2.2.2.2.1⟩)], 40, []), tp, [RecsU a.2.2.2.2.1 a.1 a.2.1, ArgV a.2.2.1, ArgV a.2.2.2.1, RestB 2 0 a.2.2.2.2.2]))
theorem bl_spec_ok : LSOk Try.prog 194 [0, 1, 2, 7, 8] (blB Try.prog) blSpec := by
  refine lspec_ok fun a tp xt l2 h2 nx2 d tp' ob hs ho inr ts hn hg => ?_
  obtain ⟨n, c, v1, v2, xs, rest⟩ := a
  simp only at hs hg
  simp only [Option.some.injEq, Prod.mk.injEq] at hs
  obtain ⟨⟨rfl, rfl, rfl, rfl, rfl⟩, rfl, rfl⟩ := hs
  obtain ⟨H, g1, g2, hr, _⟩ := ho
  (try simp only at H g1 g2 hr)
  have hc := H.c
  have hp := fun n => lk_perm (k := 0) (r := ⟨.old, xs⟩) hr (by omega) (by omega) n
  have key := fun (lo : Nat) (hlo : lo = 3 ∨ lo = 3) (h0 : Hp) => bl_loop (inr := inr) (h0 := h0) hlo H g1 g2 hr n 0 (by omega)
  rcases hr with rfl | ⟨ys, f1, rfl⟩ | ⟨zs, f2, rfl⟩ | ⟨ys, zs, f1, f2, rfl⟩ <;>
    (refine LRuns.enter (N := 3) (l2 := blS v1 v2 n c 0) (h := (0, ⟨.old, xs⟩) :: _) (h2 := (0, ⟨.old, xs⟩) :: _) hn hg (Nat.le_of_ble_eq_true rfl) (Nat.le_of_ble_eq_true rfl) (fun n => n) ?_ ?_ rfl (key _ (by first | exact .inl rfl | exact .inr rfl) _) (tidy_of (Nat.le_of_ble_eq_true rfl) (fun n hn hd => hp n) rfl))
  all_goals
    repeat' (first | exact trivial | refine And.intro ?_ ?_)
    all_goals first
    | rfl
    | exact rb_old (by omega) rfl (by first | assumption | exact H.r.f)
    | exact g1 _ _ _ (by omega)
    | exact g2 _ _ _ (by omega)
    | exact g1 _ _ _ (Nat.le_of_ble_eq_true rfl)
    | exact g2 _ _ _ (Nat.le_of_ble_eq_true rfl)
    | exact rb_old (Nat.le_of_ble_eq_true rfl) rfl (by first | assumption | exact H.r.f)
    | exact rb_slc (l := n) (c := c) rfl (by unfold capBig; omega)
    | exact rb_slc rfl (by unfold capBig; omega)
theorem bm_spec_ok : LSOk Try.prog 194 [0, 1, 2, 7, 11] (bmB Try.prog) bmSpec := by
  refine lspec_ok fun a tp xt l2 h2 nx2 d tp' ob hs ho inr ts hn hg => ?_
  obtain ⟨n, c, v1, v2, xs, rest⟩ := a
  simp only at hs hg
  simp only [Option.some.injEq, Prod.mk.injEq] at hs
  obtain ⟨⟨rfl, rfl, rfl, rfl, rfl⟩, rfl, rfl⟩ := hs
  obtain ⟨H, g1, g2, hr, _⟩ := ho
  (try simp only at H g1 g2 hr)
  have hc := H.c
  have hp := fun n => lk_perm (k := 1) (r := ⟨.old, xs⟩) hr (by omega) (by omega) n
  have key := fun (lo : Nat) (hlo : lo = 3 ∨ lo = 20) (h0 : Hp) => bm_loop (inr := inr) (h0 := h0) hlo H g1 g2 hr n 0 (by omega)
  rcases hr with rfl | ⟨ys, f1, rfl⟩ | ⟨zs, f2, rfl⟩ | ⟨ys, zs, f1, f2, rfl⟩ <;>
    (refine LRuns.enter (N := 20) (l2 := bmS v1 v2 n c 0) (h := (1, ⟨.old, xs⟩) :: _) (h2 := (1, ⟨.old, xs⟩) :: _) hn hg (Nat.le_of_ble_eq_true rfl) (Nat.le_of_ble_eq_true rfl) (fun n => n) ?_ ?_ rfl (key _ (by first | exact .inl rfl | exact .inr rfl) _) (tidy_of (Nat.le_of_ble_eq_true rfl) (fun n hn hd => hp n) rfl))
  all_goals
    repeat' (first | exact trivial | refine And.intro ?_ ?_)
    all_goals first
    | rfl
    | exact rb_old (by omega) rfl (by first | assumption | exact H.r.f)
    | exact g1 _ _ _ (by omega)
    | exact g2 _ _ _ (by omega)
    | exact g1 _ _ _ (Nat.le_of_ble_eq_true rfl)
    | exact g2 _ _ _ (Nat.le_of_ble_eq_true rfl)
    | exact rb_old (Nat.le_of_ble_eq_true rfl) rfl (by first | assumption | exact H.r.f)
    | exact rb_slc (l := n) (c := c) rfl (by unfold capBig; omega)
    | exact rb_slc rfl (by unfold capBig; omega)
/-! ### what the statement calls -/
def gFl (G : Nat → Int) : List Value := [.int .u64 (G 0), .int .u64 (G 1), .int .u64 (G 2), .int .u64 (G 3), .int .u64 (G 4), .int .u64 (G 5), .int .u64 (G 6), .int .u64 (G 7), .int .u64 (G 8), .int .u64 (G 9), .int .u64 (G 10), .int .u64 (G 11), .int .u64 (G 12), .int .u32 (G 13), .int .u32 (G 14), .int .u32 (G 15), .int .u16 (G 16), .int .u16 (G 17), .int .u64 (G 18)]
structure RdG (xs : List Value) (n : Nat) (G : Nat → Int) : Prop where
  b : Byts xs
  n : n = 128
  g : G = fun k => rcF k xs
def sRg (G : Nat → Int) : Spec1 := fun xs n tp => match tp with
  | true :: tp => some (⟨fun _ => rdBad, []⟩, tp, [n ≠ 128])
  | false :: tp => some (⟨fun _ => .tuple ⟨[.agg ⟨gFl G⟩, .int .i64 0]⟩, []⟩, tp, [RdG xs n G])
  | [] => none
theorem sRg_of (G : Nat → Int) : ∀ xs n tp gr tp' ob, sRg G xs n tp = some (gr, tp', ob) → Alls ob → ∃ tq tp0 ob0, sRr xs n tq = some (gr, tp0, ob0) ∧ Alls ob0 := by
  intro xs n tp gr tp' ob hG ho
  unfold sRg at hG
  split at hG
  · simp only [Option.some.injEq, Prod.mk.injEq] at hG
    obtain ⟨rfl, rfl, rfl⟩ := hG
    exact ⟨[true], [], _, rfl, ho⟩
  · simp only [Option.some.injEq, Prod.mk.injEq] at hG
    obtain ⟨rfl, rfl, rfl⟩ := hG
    obtain ⟨⟨h1, h2, h3⟩, _⟩ := ho
    subst h3
    exact ⟨[false], [], [Byts xs, n = 128], rfl, h1, h2, trivial⟩
  · cases hG
def sRl (O : List Value) (k : Nat) : Spec1 := fun xs n tp => match tp with
  | true :: tp => some (⟨fun _ => tupE 0, []⟩, tp, [n = 0])
  | false :: tp => some (⟨fun nx => tup0 (.slice (some ⟨nx, 0, none⟩) k (capBig + nx)), [⟨.room 19 z19, O⟩]⟩, tp, [RdSome xs n k O])
  | [] => none
theorem sRl_of (O : List Value) (k : Nat) : ∀ xs n tp gr tp' ob, sRl O k xs n tp = some (gr, tp', ob) → Alls ob → ∃ tp0 ob0, sRdO 0 k O xs n tp = some (gr, tp0, ob0) ∧ Alls ob0 := by
  intro xs n tp gr tp' ob hG ho
  unfold sRl at hG
  split at hG
  · simp only [Option.some.injEq, Prod.mk.injEq] at hG
    obtain ⟨rfl, rfl, rfl⟩ := hG
    obtain ⟨rfl, _⟩ := ho
    exact ⟨_, _, rfl, ⟨rfl, by unfold rdNo; omega⟩, trivial⟩
  · simp only [Option.some.injEq, Prod.mk.injEq] at hG
    obtain ⟨rfl, rfl, rfl⟩ := hG
    exact ⟨_, _, rfl, ho⟩
  · cases hG
theorem kn_gok : GOk Try.prog 5 [] gTrueY := gTrueY_ok known_any
def rkT (B : List Value) (N : Nat) (C : List Value) (M : Nat) (ls : List Value) (n : Nat) (ms : List Value) (m : Nat) (xs : List Value) (G : Nat → Int) : TFun := orTz (mkT 5 [] gTrueY) (orTz (mkT 23 [.s 19] (gS (sAbO B N))) (orTz (mkT 25 [.s 19] (gS (sAbO C M))) (orTz (mkT 21 [.s 1] (gS (sRl ls n))) (orTz (mkT 22 [.s 1] (gS (sRl ms m)))
  (orTz (mkT 27 [.s 19, .s 19] (gSS (sEqO RecsOk))) (orTz (mkT 28 [.s 19, .s 19] (gSS (sEqO RecsOk))) (orTz (mkT 16 [.s 1] (gS (sRg G))) (orTz (mkT 18 [.s 1] (gS (sRg G))) (orTz (mkT 8 [.f] (gRecX false xs)) (orTz (mkT 9 [.f] (gRecX false xs)) (mkT 10 [.s 1, .s 1] gSameO)))))))))))
theorem rkT_one (B : List Value) (N : Nat) (C : List Value) (M : Nat) (ls : List Value) (n : Nat) (ms : List Value) (m : Nat) (xs : List Value) (G : Nat → Int) : TOneZ Try.prog (rkT B N C M ls n ms m xs G) := orTz_ok (mkT_one kn_gok) (orTz_ok (mkT_one ((ab_gok B).of (gS_of (sAbO_of _ _)))) (orTz_ok (mkT_one ((tb_gok C).of (gS_of (sAbO_of _ _)))) (orTz_ok (mkT_one ((rda_gok _ _ _).of (gS_of fun x k tp gr tp' ob h ho => let ⟨a, b, h1, h2⟩ := sRl_of _ _ x k tp gr tp' ob h ho; sRdO_of _ _ _ x k tp gr a b h1 h2))) (orTz_ok (mkT_one ((rdt_gok _ _ _).of (gS_of fun x k tp gr tp' ob h ho => let ⟨a, b, h1, h2⟩ := sRl_of _ _ x k tp gr tp' ob h ho; sRdO_of _ _ _ x k tp gr a b h1 h2)))
  (orTz_ok (mkT_one wa_gok) (orTz_ok (mkT_one wt_gok) (orTz_ok (mkT_one (ra_i_gok.ofT (gS_ofT (sRg_of G)))) (orTz_ok (mkT_one (rt_i_gok.ofT (gS_ofT (sRg_of G)))) (orTz_ok (mkT_one (gRecX_ok ab_i_gok xs)) (orTz_ok (mkT_one (gRecX_ok tb_i_gok xs)) (mkT_one (same_ok.of gSameO_of))))))))))))
def rkL (P : Program) (a b : Bool) : LFun := orL (bif a then mkL 7 5 194 [0, 1, 2, 7, 8] (blB P) blSpec else noL) (bif b then mkL 7 11 194 [0, 1, 2, 7, 11] (bmB P) bmSpec else noL)
theorem rkL_one (a b : Bool) : LOne Try.prog (rkL Try.prog a b) := by
  cases a <;> cases b
  · exact orL_ok noL_ok noL_ok
  · exact orL_ok noL_ok (mkL_ok bm_spec_ok)
  · exact orL_ok (mkL_ok bl_spec_ok) noL_ok
  · exact orL_ok (mkL_ok bl_spec_ok) (mkL_ok bm_spec_ok)
def rkV (P : Program) (a b : Bool) (B : List Value) (N : Nat) (C : List Value) (M : Nat) (ls : List Value) (n : Nat) (ms : List Value) (m : Nat) (xs : List Value) (G : Nat → Int) : Tv := ⟨rkT B N C M ls n ms m xs G, noXz, rkL P a b, tbl 7 [29, 33, 38, 44, 69, 141, 148, 163], allSy 7 [], fun _ => [], fun _ => 0⟩
section
variable (a b : Bool) (B : List Value) (N : Nat) (C : List Value) (M : Nat) (ls : List Value) (n : Nat) (ms : List Value) (m : Nat) (xs : List Value) (G : Nat → Int)
theorem rkV_X : XOkZ (rkV Try.prog a b B N C M ls n ms m xs G) Try.prog := noXz_ok rfl
theorem rkV_T : TOkZ (rkV Try.prog a b B N C M ls n ms m xs G) Try.prog := T_okV rfl (rkT_one B N C M ls n ms m xs G)
theorem rkV_L : LOkZ (rkV Try.prog a b B N C M ls n ms m xs G) Try.prog := L_okV rfl (rkL_one a b)
end
end Go.Proofs.Ytgpgdkpfeoaidaa
