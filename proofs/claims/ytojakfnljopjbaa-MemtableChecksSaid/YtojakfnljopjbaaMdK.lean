/-
  Chapter 12: the statement MemtableChecks, at any arguments.
-/
import Derived.Test.YtojakfnljopjbaaMdJ
namespace Go.Proofs.Ytojakfnljopjbaa
set_option linter.unusedSimpArgs false
set_option linter.unusedVariables false
set_option linter.unusedSectionVars false
open Go Go.RowKit
theorem lk_nil (m : Nat) : lk [] m = none := rfl
theorem big_false {ps : List Pr} (h : ps.any big = false) : ∀ p ∈ ps, p.1.length ≤ 200 ∧ p.2.1.length ≤ 200 := fun p hp => by
  have := List.any_eq_false.1 h p hp
  simp [big] at this
  omega
theorem lpSp_ok : LSOk Try.prog 32 [0, 5] (bodyIn Try.prog 9 4) lpSp := by
  refine lspec_ok fun a tp xt l2 h2 nx2 d tp' ob hs ho inr ts hn hg => ?_
  obtain ⟨n, c, ds⟩ := a
  simp only at hs hg
  split at hs
  case h_2 => cases hs
  simp only [Option.some.injEq, Prod.mk.injEq] at hs
  obtain ⟨⟨rfl, rfl, rfl, rfl, rfl⟩, rfl, rfl⟩ := hs
  rename_i b _
  obtain ⟨⟨ps, h, hb⟩, _⟩ := ho
  have hcc : c < capBig := by have := h.fc; unfold capBig; omega
  have key := lp_loop (inr := inr) (h0 := [(0, ⟨.sd ds, []⟩)]) h.fP h.fn h.fm h.fc n 0 (by omega)
  rw [List.drop_zero, hb] at key
  cases b with
  | true =>
    refine LRuns.enter (N := 2) (l2 := [(0, sdV n c), (5, iV 0)]) hn hg (by omega) (by omega) (fun n => n) ?_ ?_ rfl key ?_
    · exact ⟨rfl, rb_slc rfl hcc, rfl, rfl, trivial⟩
    · exact ⟨sd_row rfl rfl, trivial⟩
    · exact tidy_of (by omega) (fun m hm hd => rfl) rfl
  | false =>
    refine LRuns.enter (N := 2) (l2 := [(0, sdV n c), (5, iV 0)]) hn hg (by omega) (by omega) (fun n => n) ?_ ?_ rfl key ?_
    · exact ⟨rfl, rb_slc rfl hcc, rfl, rfl, trivial⟩
    · exact ⟨sd_row rfl rfl, trivial⟩
    · exact tidy_of (by omega) (fun m hm hd => rfl) rfl
theorem cpSp_ok : LSOk Try.prog 33 [0, 3, 4] (bodyIn Try.prog 10 3) cpSp := by
  refine lspec_ok fun a tp xt l2 h2 nx2 d tp' ob hs ho inr ts hn hg => ?_
  obtain ⟨n, c, ds⟩ := a
  simp only at hs hg
  simp only [Option.some.injEq, Prod.mk.injEq] at hs
  obtain ⟨⟨rfl, rfl, rfl, rfl, rfl⟩, rfl, rfl⟩ := hs
  obtain ⟨⟨h1, ps, h, hb⟩, _⟩ := ho
  have hcc : c < capBig := by have := h.fc; unfold capBig; omega
  have key := cp_all (inr := inr) (h0 := [(0, ⟨.sd ds, []⟩)]) h.fP h.fn h1 h.fm h.fc (big_false hb)
  rw [← ucs_prs h.fP] at key
  refine LRuns.enter (N := 81) (l2 := [(0, sdV n c), (3, .slice none 0 0), (4, iV 0)]) hn hg (by omega) (by omega) (fun n => n) ?_ ?_ rfl key ?_
  · exact ⟨rfl, rb_slc rfl hcc, rfl, rfl, rfl, rfl, trivial⟩
  · exact ⟨sd_row rfl rfl, trivial⟩
  · refine tidy_of (by omega) (fun m hm hd => ?_) rfl
    simp only [mdH, lk_cons, lk_nil]
    repeat' split
    all_goals first | rfl | (exfalso; omega)
theorem wSp_ok : LSOk Try.prog 39 [0, 3, 4] (bodyIn Try.prog 3 5) wSp := by
  refine lspec_ok fun a tp xt l2 h2 nx2 d tp' ob hs ho inr ts hn hg => ?_
  obtain ⟨n, c, ds, es⟩ := a
  simp only at hs hg
  simp only [Option.some.injEq, Prod.mk.injEq] at hs
  obtain ⟨⟨rfl, rfl, rfl, rfl, rfl⟩, rfl, rfl⟩ := hs
  skip
  obtain ⟨⟨ps, h, hE⟩, _⟩ := ho
  have hcc : c < capBig := by have := h.fc; unfold capBig; omega
  have key := w_loop (inr := inr) (h0 := mdH ds es) h.fP hE h.fn h.fm h.fc n 0 (by omega)
  refine LRuns.enter (N := 101) (l2 := [(0, sdV n c), (3, dpV n), (4, iV 0)]) hn hg (by omega) (by omega) (fun n => n) ?_ ?_ rfl key ?_
  · exact ⟨rfl, rb_slc rfl hcc, rfl, rb_slg rfl rfl, rfl, rfl, trivial⟩
  · exact ⟨sd_row rfl rfl, dp_row (m := 80) rfl rfl, trivial⟩
  · exact tidy_of (by omega) (fun m hm hd => rfl) rfl
theorem spSp_ok : LSOk Try.prog 27 [0, 1, 5] (bodyIn Try.prog 15 4) spSp := by
  refine lspec_ok fun a tp xt l2 h2 nx2 d tp' ob hs ho inr ts hn hg => ?_
  obtain ⟨n, c, ds, es⟩ := a
  simp only at hs hg
  simp only [Option.some.injEq, Prod.mk.injEq] at hs
  obtain ⟨⟨rfl, rfl, rfl, rfl, rfl⟩, rfl, rfl⟩ := hs
  skip
  obtain ⟨⟨ps, h, hE⟩, _⟩ := ho
  have hcc : c < capBig := by have := h.fc; unfold capBig; omega
  have key := sp_loop (inr := inr) (h0 := mdH ds es) h.fP hE h.fn h.fm h.fc n 0 (by omega)
  refine LRuns.enter (N := 161) (l2 := [(0, dpV n), (1, sdV n c), (5, iV 0)]) hn hg (by omega) (by omega) (fun n => n) ?_ ?_ rfl key ?_
  · exact ⟨rfl, rb_slg rfl rfl, rfl, rb_slc rfl hcc, rfl, rfl, trivial⟩
  · exact ⟨sd_row rfl rfl, dp_row (m := 80) rfl rfl, trivial⟩
  · exact tidy_of (by omega) (fun m hm hd => rfl) rfl
theorem soSp_ok : LSOk Try.prog 23 [0, 3] (bodyIn Try.prog 13 2) soSp := by
  refine lspec_ok fun a tp xt l2 h2 nx2 d tp' ob hs ho inr ts hn hg => ?_
  obtain ⟨n, c, ds, es⟩ := a
  simp only at hs hg
  split at hs
  case h_2 => cases hs
  simp only [Option.some.injEq, Prod.mk.injEq] at hs
  obtain ⟨⟨rfl, rfl, rfl, rfl, rfl⟩, rfl, rfl⟩ := hs
  rename_i b _
  obtain ⟨⟨h1, c9, ps, h, hE, hb⟩, _⟩ := ho
  have key := so_loop (inr := inr) (h0 := mdH ds es) (ds := ds) hE h.fO h.fn h.fm h.fc (n - 1) 0 (by omega)
  rw [List.drop_zero, hb] at key
  cases b with
  | true =>
    refine LRuns.enter (N := 121) (l2 := [(0, dpV n), (3, iV 1)]) hn hg (by omega) (by omega) (fun n => n) ?_ ?_ rfl key ?_
    · exact ⟨rfl, rb_slg rfl rfl, rfl, rfl, trivial⟩
    · exact ⟨sd_row rfl rfl, dp_row (m := 80) rfl rfl, trivial⟩
    · exact tidy_of (by omega) (fun m hm hd => rfl) rfl
  | false =>
    refine LRuns.enter (N := 121) (l2 := [(0, dpV n), (3, iV 1)]) hn hg (by omega) (by omega) (fun n => n) ?_ ?_ rfl key ?_
    · exact ⟨rfl, rb_slg rfl rfl, rfl, rfl, trivial⟩
    · exact ⟨sd_row rfl rfl, dp_row (m := 80) rfl rfl, trivial⟩
    · exact tidy_of (by omega) (fun m hm hd => rfl) rfl
theorem srSp_ok : LSOk Try.prog 23 [0, 3] (bodyIn Try.prog 14 2) srSp := by
  refine lspec_ok fun a tp xt l2 h2 nx2 d tp' ob hs ho inr ts hn hg => ?_
  obtain ⟨n, c, ds, es⟩ := a
  simp only at hs hg
  split at hs
  case h_2 => cases hs
  simp only [Option.some.injEq, Prod.mk.injEq] at hs
  obtain ⟨⟨rfl, rfl, rfl, rfl, rfl⟩, rfl, rfl⟩ := hs
  rename_i b _
  obtain ⟨⟨h1, ps, h, hb⟩, _⟩ := ho
  have hcc : c < capBig := by have := h.fc; unfold capBig; omega
  have key := sr_loop (inr := inr) (h0 := mdH ds es) (es := es) h.fP h.fO h.fn h.fm h.fc (n - 1) 0 (by omega)
  rw [List.drop_zero, hb] at key
  cases b with
  | true =>
    refine LRuns.enter (N := 141) (l2 := [(0, sdV n c), (3, iV 1)]) hn hg (by omega) (by omega) (fun n => n) ?_ ?_ rfl key ?_
    · exact ⟨rfl, rb_slc rfl hcc, rfl, rfl, trivial⟩
    · exact ⟨sd_row rfl rfl, dp_row (m := 80) rfl rfl, trivial⟩
    · exact tidy_of (by omega) (fun m hm hd => rfl) rfl
  | false =>
    refine LRuns.enter (N := 141) (l2 := [(0, sdV n c), (3, iV 1)]) hn hg (by omega) (by omega) (fun n => n) ?_ ?_ rfl key ?_
    · exact ⟨rfl, rb_slc rfl hcc, rfl, rfl, trivial⟩
    · exact ⟨sd_row rfl rfl, dp_row (m := 80) rfl rfl, trivial⟩
    · exact tidy_of (by omega) (fun m hm hd => rfl) rfl
theorem mdLo_ok : LOne Try.prog (mdLo Try.prog) := orL_ok (mkL_ok lpSp_ok) (orL_ok (mkL_ok cpSp_ok) (orL_ok (mkL_ok wSp_ok) (orL_ok (mkL_ok soSp_ok) (orL_ok (mkL_ok srSp_ok) (mkL_ok spSp_ok)))))
theorem md_run {L : LFun} (h : LOne Try.prog L) {args : List Value} {hp : Hp} {nx : Nat} {tp tp' : Tape} {v : Value} {ob : List Prop} (e : prjV (runZ (mdV L mdT1) Try.prog 12 3 args hp nx tp) = .ok (v, tp', ob)) (ho : Alls ob) : ∃ h' nx' d, Tri Try.prog 3 args hp nx (v, h', nx', d) :=
  run_val (XOneZ.ok cmpY_ok rfl) (T_okV rfl (mkT_one aw_gok)) (L_okV rfl h) e ho rfl
theorem checks_any {W : World} {v : Value} {rows : List (List DV)} {cap : Nat} (hA : DA.at W v (.dl rows.flatten rows.length cap)) (hl : rows.length ≤ cap) (hc : cap ≤ 9223372036854775807) (hr : ∀ r, r ∈ rows → ShsOk [.sl [.i .u8], .sl [.i .u8], .b] r) :
    Calls Try.prog 3 #[v] W fun e w' => e = .returned (.bool true) ∧ Ext W w' := by
  refine calls_dp [.dl rows.flatten rows.length cap] ?_ (fun σ => rfl) (us := [v]) ⟨hA, trivial⟩
  show ∃ h' nx' d, Tri Try.prog 3 [.slice (some ⟨0, 0, none⟩) rows.length cap] [(0, ⟨.sd rows.flatten, []⟩)] 1 (.bool true, h', nx', d)
  by_cases h : (rows.length : Int) > 100
  · exact md_run noL_ok (md_long rows.length cap rows.flatten) ⟨decide_eq_true h, trivial⟩
  obtain ⟨ps, hP, hn, hO⟩ := prs_of hr
  have F : PsL rows.flatten rows.length cap ps := ⟨hP, hO, hn, by omega, hc⟩
  generalize rows.length = n at *
  generalize rows.flatten = ds at *
  by_cases h0 : n = 0
  · subst h0
    exact md_run noL_ok (md_none 0 cap ds) ⟨rfl, rfl, rfl, rfl, rfl, rfl, rfl, rfl, trivial⟩
  have hE : Prs (ucs ds) ps := by rw [ucs_prs hP]; exact cpD_prs ps
  cases hb : ps.any big with
  | true => exact md_run mdLo_ok (md_big n cap ds) ⟨decide_eq_false h, rfl, rfl, rfl, rfl, ⟨ps, F, hb⟩, trivial⟩
  | false =>
    have hne : ((n : Int) != (n : Int)) = false := by simp
    cases ha : asc ps with
    | true => exact md_run mdLo_ok (md_t n cap ds) ⟨decide_eq_false h, rfl, rfl, rfl, rfl, ⟨ps, F, hb⟩, rfl, rfl, rfl, rfl, ⟨by omega, ps, F, hb⟩, rfl, rfl, rfl, rfl, ⟨ps, F, hE⟩, rfl, rfl, rfl, rfl, ⟨by omega, cap, ps, F, hE, ha⟩, rfl, rfl, rfl, rfl, ⟨by omega, ps, F, ha⟩, hne, rfl, rfl, rfl, rfl, ⟨ps, F, hE⟩, trivial⟩
    | false => exact md_run mdLo_ok (md_f n cap ds) ⟨decide_eq_false h, rfl, rfl, rfl, rfl, ⟨ps, F, hb⟩, rfl, rfl, rfl, rfl, ⟨by omega, ps, F, hb⟩, rfl, rfl, rfl, rfl, ⟨ps, F, hE⟩, rfl, rfl, rfl, rfl, ⟨by omega, cap, ps, F, hE, ha⟩, rfl, rfl, rfl, rfl, ⟨by omega, ps, F, ha⟩, hne, rfl, rfl, rfl, rfl, ⟨ps, F, hE⟩, trivial⟩
end Go.Proofs.Ytojakfnljopjbaa
