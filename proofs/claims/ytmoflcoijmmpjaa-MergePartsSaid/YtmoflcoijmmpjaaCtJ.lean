/-
  Chapter 14: the statement MergeParts, at any arguments.
-/
import Derived.Test.YtmoflcoijmmpjaaCtI
namespace Go.Proofs.Ytmoflcoijmmpjaa
set_option linter.unusedSimpArgs false
set_option linter.unusedVariables false
set_option linter.unusedSectionVars false
open Go Go.RowKit
theorem mvLo_one : LOne Try.prog (mvLo Try.prog) := orL_ok ctLo_one (mkL_ok mvSp_ok)
theorem mwX {L : LFun} {T : TFun} : XOkZ (mwV L T) Try.prog := XOneZ.ok cmpY_ok rfl
theorem mwT_one : TOneZ Try.prog mwT := orTz_ok (mkT_one kn_gok) pxTs_one
theorem mw_run {L : LFun} (h : LOne Try.prog L) {args : List Value} {hp : Hp} {nx : Nat} {tp tp' : Tape} {v : Value} {ob : List Prop} (e : prjV (runZ (mwV L mwT) Try.prog 12 8 args hp nx tp) = .ok (v, tp', ob)) (ho : Alls ob) : ∃ h' nx' d, Tri Try.prog 8 args hp nx (v, h', nx', d) :=
  run_val mwX (T_okV rfl mwT_one) (L_okV rfl h) e ho rfl
theorem parts_any {W : World} {v0 : Value} {m : Int} {rows : List (List DV)} {c : Nat} (hA : DA.at W v0 (.dl rows.flatten rows.length c)) (hc : c ≤ 9223372036854775807) (hnc : rows.length ≤ c) (hr : ∀ r, r ∈ rows → ShsOk [.sl [.i .u8], .sl [.i .u8], .b] r) :
    Calls Try.prog 8 #[v0, .int .i64 m] W fun e w' => e = .returned (.bool true) ∧ Ext W w' := by
  refine calls_dp [.dl rows.flatten rows.length c, .fl (.int .i64 m)] ?_ (fun σ => rfl) (us := [v0, .int .i64 m]) ⟨hA, ⟨rfl, fun σ => rfl⟩, trivial⟩
  show ∃ h' nx' d, Tri Try.prog 8 [.slice (some ⟨0, 0, none⟩) rows.length c, .int .i64 m] [(0, ⟨.sd rows.flatten, []⟩)] 2 (.bool true, h', nx', d)
  obtain ⟨ps, hP, hn, hO⟩ := prs_of hr
  have hps := prsOf_of hP
  generalize rows.length = n at *
  generalize rows.flatten = ds at *
  have hds : n = 0 → ds = [] := fun e => by
    rw [List.eq_nil_of_length_eq_zero (hn.trans e)] at hP
    exact hP
  have hLp : LpOk ds n := ⟨by rw [hps]; exact hP, by rw [hps]; exact hn⟩
  by_cases hL : (decide ((n : Int) > 300) || ps.any big) = true
  · exact mw_run noL_ok (mw_e1 n c m ds) ⟨hds, ⟨hLp, by rw [hps]; exact hL⟩, trivial⟩
  have hL0 : (decide ((n : Int) > 300) || (prsOf ds).any big) = false := by rw [hps]; simpa using hL
  have hL1 : n ≤ 300 ∧ ps.any big = false := by
    rw [hps] at hL0
    simp only [Bool.or_eq_false_iff, decide_eq_false_iff_not] at hL0
    exact ⟨by omega, hL0.2⟩
  by_cases h1 : m < 1
  · refine mw_run noL_ok (mw_e2 n c m ds) ?_
    simp only [Alls, decide_eq_true_eq, decide_eq_false_iff_not]
    repeat' (with_reducible apply And.intro)
    all_goals first | (with_reducible assumption) | omega | (with_reducible exact trivial) | (with_reducible rfl)
  by_cases h2 : m > 64
  · refine mw_run noL_ok (mw_e3 n c m ds) ?_
    simp only [Alls, decide_eq_true_eq, decide_eq_false_iff_not]
    repeat' (with_reducible apply And.intro)
    all_goals first | (with_reducible assumption) | omega | (with_reducible exact trivial) | (with_reducible rfl)
  obtain ⟨M, rfl⟩ : ∃ M : Nat, m = (M : Int) := ⟨m.toNat, by omega⟩
  have hB : CtOk ds (prsOf ds) n c M := by
    rw [hps]
    refine ⟨hP, hO, hn, hL1.1, fun p hp => ?_, hc, hnc, by omega, by omega⟩
    have := List.any_eq_false.1 hL1.2 p hp
    simp [big] at this
    omega
  by_cases hz : n = 0
  · have hd := hds hz
    have S1 : CtSt ds n c M true := ⟨hB, decide_eq_true hz⟩
    have sp : SpOk [] ds 0 := ⟨rfl, by rw [hd]; rfl, rfl, by omega⟩
    refine mw_run ctLo_one (mw_z n c M ds) ?_
    simp only [Alls]
    repeat' (with_reducible apply And.intro)
    all_goals first | (with_reducible assumption) | omega | (with_reducible exact trivial) | (with_reducible rfl) | exact decide_eq_false h1 | exact decide_eq_false h2 | rfl
  · have S1 : CtSt ds n c M false := ⟨hB, decide_eq_false hz⟩
    have hM : MvOk ds (prsOf ds) n c M (nPt n M) := ⟨hB, fun t ht => finJ_lt n M n 0 (fun t h => by omega) t ht, finJ_ge n M hB.M1 n 0 (by omega)⟩
    have hJ : 0 < nPt n M := by
      rcases Nat.eq_zero_or_pos (nPt n M) with h | h
      · have := hM.ge; rw [h, Nat.zero_mul] at this; omega
      · exact h
    have S2 : MvSt ds (osD (prsOf ds) M (nPt n M)) n c M (nPt n M) := ⟨hM, rfl, hJ⟩
    have cl := cpD_len (prsOf ds)
    have sp : SpOk (cpD (prsOf ds)) ds n := ⟨by rw [prsOf_cp]; exact cpD_prs _, by rw [prsOf_cp]; exact hB.P, by rw [prsOf_cp]; exact hB.l, by omega⟩
    refine mw_run mvLo_one (mw_r n c M ds) ?_
    simp only [Alls]
    repeat' (with_reducible apply And.intro)
    all_goals first | (with_reducible assumption) | omega | (with_reducible exact trivial) | (with_reducible rfl) | exact decide_eq_false h1 | exact decide_eq_false h2 | rfl | (intro e; exact absurd e hz)
end Go.Proofs.Ytmoflcoijmmpjaa
