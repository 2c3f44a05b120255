/-
  Chapter 23: the statement MessageSize, run at any message.
-/
import Derived.Test.YtcmcelilollchaaMszF
import Derived.Test.YtcmcelilollchaaOpenAg
namespace Go.Proofs.Ytcmcelilollchaa
set_option linter.unusedSimpArgs false
set_option linter.unusedVariables false
set_option linter.unusedSectionVars false
open Go Go.RowKit

theorem runs_true {P : Program} {f : FuncId} {args : List Value} {h : Hp} {nx : Nat} {b : Bool} (H : ∃ h' nx' d, Tri P f args h nx (.bool b, h', nx', d)) (e : b = true) : RunsTrue P f args h nx := by subst e; exact H
theorem ck_w3 {g : Nat → Int} {n : Nat} {xs : List Value} (h : wB (g 3) 0 1073741824 = false) : ckB g n xs = false := ck_w (by simp only [bf4, List.all_cons, List.all_nil, id_eq, h, Bool.false_and])
theorem ck_w7 {g : Nat → Int} {n : Nat} {xs : List Value} (h : wB (g 7) 0 1073741824 = false) : ckB g n xs = false := ck_w (by simp only [bf4, List.all_cons, List.all_nil, id_eq, h, Bool.false_and, Bool.and_false])
theorem er2 {b : Bool} (h : b = false) : ((bif b then (0 : Int) else 2) == 2) = true := by subst h; rfl
theorem size_sl {f : Nat → Int} {s : Int} {n c : Nat} {xs : List Value} (hb : Byts xs) (hl : xs.length = n) (hc : n ≤ c ∧ c ≤ 9223372036854775807) : RunsTrue Try.prog 4 [.agg ⟨hdF f ++ [.slice (some ⟨0, 0, none⟩) n c]⟩, .int .i64 s] [(0, ⟨.old, xs⟩)] 2 := by
  have hX : XOkZ szV Try.prog := noXz_ok rfl
  have hT : TOkZ szV Try.prog := T_okV rfl szT_one
  have hL : LOkZ szV Try.prog := noL_okV rfl
  have ex : xs.take n = xs := take_len hl
  have f0 := fl_byts hb
  by_cases h1 : (n : Nat) ≤ 1100
  case neg =>
    have h5 : True := trivial
    have h6 : True := trivial
    have g1 : decide (((n : Nat) : Int) > 1100) = true := by simp only [decide_eq_true_eq]; omega
    refine runs_true (run_val hX hT hL (sz_bl f s n c xs) ?_ rfl) ?_
    · repeat' (first | exact alls_nil | refine alls_cons ?_ ?_)
      all_goals (try simp only [ex, cond_true, cond_false])
      all_goals first | with_reducible rfl | with_reducible assumption | omega | (simp only [decide_eq_true_eq, decide_eq_false_iff_not]; omega) | exact er2 (ck_size h6) | exact er2 (ck_w3 rfl) | exact h5 | rfl
    · (try simp only [ex, cond_true, cond_false])
      first | done | exact er2 (ck_w7 rfl) | rfl
  cases h4 : ckB f n xs
  ·
    have h6 : True := trivial
    have h5 : ((bif ckB f n xs then (0 : Int) else 2) != 0) = true := by rw [h4]; rfl
    refine runs_true (run_val hX hT hL (sz_bx f s n c xs) ?_ rfl) ?_
    · repeat' (first | exact alls_nil | refine alls_cons ?_ ?_)
      all_goals (try simp only [ex, cond_true, cond_false])
      all_goals first | with_reducible rfl | with_reducible assumption | omega | (simp only [decide_eq_true_eq, decide_eq_false_iff_not]; omega) | exact er2 (ck_size h6) | exact er2 (ck_w3 rfl) | exact h5 | rfl
    · (try simp only [ex, cond_true, cond_false])
      first | done | exact er2 (ck_w7 rfl) | rfl
  ·
    have h5 : ((bif ckB f n xs then (0 : Int) else 2) != 0) = false := by rw [h4]; rfl
    obtain ⟨f2, ⟨f1a, f1b⟩, f5, f3⟩ := ck_true h4
    have f2' : (f 2 != ((n : Nat) : Int)) = false := by rw [f2]; simp
    cases h6 : (s == ((n : Nat) : Int))
    ·
      refine runs_true (run_val hX hT hL (sz_bd f s n c xs) ?_ rfl) ?_
      · repeat' (first | exact alls_nil | refine alls_cons ?_ ?_)
        all_goals (try simp only [ex, cond_true, cond_false])
        all_goals first | with_reducible rfl | with_reducible assumption | omega | (simp only [decide_eq_true_eq, decide_eq_false_iff_not]; omega) | exact er2 (ck_size h6) | exact er2 (ck_w3 rfl) | exact h5 | rfl
      · (try simp only [ex, cond_true, cond_false])
        first | done | exact er2 (ck_w7 rfl) | rfl
    ·
      refine runs_true (run_val hX hT hL (sz_be f s n c xs) ?_ rfl) ?_
      · repeat' (first | exact alls_nil | refine alls_cons ?_ ?_)
        all_goals (try simp only [ex, cond_true, cond_false])
        all_goals first | with_reducible rfl | with_reducible assumption | omega | (simp only [decide_eq_true_eq, decide_eq_false_iff_not]; omega) | exact er2 (ck_size h6) | exact er2 (ck_w3 rfl) | exact h5 | rfl
      · (try simp only [ex, cond_true, cond_false])
        first | done | exact er2 (ck_w7 rfl) | rfl
theorem size_nil {f : Nat → Int} {s : Int} : RunsTrue Try.prog 4 [.agg ⟨hdF f ++ [.slice none 0 0]⟩, .int .i64 s] [] 2 := by
  have hX : XOkZ szV Try.prog := noXz_ok rfl
  have hT : TOkZ szV Try.prog := T_okV rfl szT_one
  have hL : LOkZ szV Try.prog := noL_okV rfl
  obtain ⟨xs, hxs⟩ : ∃ xs : List Value, xs = [] := ⟨_, rfl⟩
  have ex : ([] : List Value) = xs := hxs.symm
  by_cases h1 : (0 : Nat) ≤ 1100
  case neg =>
    have h5 : True := trivial
    have h6 : True := trivial
    have g1 : decide (((0 : Nat) : Int) > 1100) = true := by simp only [decide_eq_true_eq]; omega
    refine runs_true (run_val hX hT hL (sz_nl f s) ?_ rfl) ?_
    · repeat' (first | exact alls_nil | refine alls_cons ?_ ?_)
      all_goals (try simp only [ex, cond_true, cond_false])
      all_goals first | with_reducible rfl | with_reducible assumption | omega | (simp only [decide_eq_true_eq, decide_eq_false_iff_not]; omega) | exact er2 (ck_size h6) | exact er2 (ck_w3 rfl) | exact h5 | rfl
    · (try simp only [ex, cond_true, cond_false])
      first | done | exact er2 (ck_w7 rfl) | rfl
  cases h4 : ckB f 0 xs
  ·
    have h6 : True := trivial
    have h5 : ((bif ckB f 0 xs then (0 : Int) else 2) != 0) = true := by rw [h4]; rfl
    refine runs_true (run_val hX hT hL (sz_nx f s) ?_ rfl) ?_
    · repeat' (first | exact alls_nil | refine alls_cons ?_ ?_)
      all_goals (try simp only [ex, cond_true, cond_false])
      all_goals first | with_reducible rfl | with_reducible assumption | omega | (simp only [decide_eq_true_eq, decide_eq_false_iff_not]; omega) | exact er2 (ck_size h6) | exact er2 (ck_w3 rfl) | exact h5 | rfl
    · (try simp only [ex, cond_true, cond_false])
      first | done | exact er2 (ck_w7 rfl) | rfl
  ·
    have h5 : ((bif ckB f 0 xs then (0 : Int) else 2) != 0) = false := by rw [h4]; rfl
    obtain ⟨f2, ⟨f1a, f1b⟩, f5, f3⟩ := ck_true h4
    have f2' : (f 2 != ((0 : Nat) : Int)) = false := by rw [f2]; simp
    cases h6 : (s == ((0 : Nat) : Int))
    ·
      refine runs_true (run_val hX hT hL (sz_nd f s) ?_ rfl) ?_
      · repeat' (first | exact alls_nil | refine alls_cons ?_ ?_)
        all_goals (try simp only [ex, cond_true, cond_false])
        all_goals first | with_reducible rfl | with_reducible assumption | omega | (simp only [decide_eq_true_eq, decide_eq_false_iff_not]; omega) | exact er2 (ck_size h6) | exact er2 (ck_w3 rfl) | exact h5 | rfl
      · (try simp only [ex, cond_true, cond_false])
        first | done | exact er2 (ck_w7 rfl) | rfl
    ·
      refine runs_true (run_val hX hT hL (sz_ne f s) ?_ rfl) ?_
      · repeat' (first | exact alls_nil | refine alls_cons ?_ ?_)
        all_goals (try simp only [ex, cond_true, cond_false])
        all_goals first | with_reducible rfl | with_reducible assumption | omega | (simp only [decide_eq_true_eq, decide_eq_false_iff_not]; omega) | exact er2 (ck_size h6) | exact er2 (ck_w3 rfl) | exact h5 | rfl
      · (try simp only [ex, cond_true, cond_false])
        first | done | exact er2 (ck_w7 rfl) | rfl
end Go.Proofs.Ytcmcelilollchaa
