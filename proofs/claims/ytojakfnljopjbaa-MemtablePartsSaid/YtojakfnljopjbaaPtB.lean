/-
  Chapter 12: the statement MemtableParts: its loop.
-/
import Derived.Test.YtojakfnljopjbaaPtA
import Derived.Test.YtojakfnljopjbaaPtP
namespace Go.Proofs.Ytojakfnljopjbaa
set_option linter.unusedSimpArgs false
set_option linter.unusedVariables false
set_option linter.unusedSectionVars false
open Go Go.RowKit
theorem ptX {L : LFun} {T : TFun} : XOkZ (ptV L T) Try.prog := XOneZ.ok cmpY_ok rfl
theorem ptT0_one : TOneZ Try.prog ptT0 := orTz_ok bsT_one insT9_one
theorem ptT {L : LFun} : TOkZ (ptV L ptT0) Try.prog := T_okV rfl ptT0_one
theorem ptL0 {T : TFun} : LOkZ (ptV noL T) Try.prog := noL_okV rfl
theorem sh2_row {lo N : Nat} {ρ : Nat → Nat} {h0 h1 : Hp} {n m : Nat} {v v1 : Value} {b : Bool} (hn : fnN lo N ρ n = some m) (hl : lk h1 m = some ⟨.shut, [.bool b, v1]⟩) (hv : renV (sgf lo N ρ) v = some v1) : RbRow lo N ρ h0 h1 n ⟨.shut, [.bool b, v]⟩ := ⟨m, _, hn, hl, rfl, rfl, .inl (renL_mk rfl (renL_mk hv rfl))⟩
theorem ol_row {lo N : Nat} {ρ : Nat → Nat} {h0 h1 : Hp} {n m : Nat} {cs : List Value} (hn : fnN lo N ρ n = some m) (hl : lk h1 m = some ⟨.old, cs⟩) (hf : ∀ τ, renL τ cs = some cs) : RbRow lo N ρ h0 h1 n ⟨.old, cs⟩ := ⟨m, _, hn, hl, rfl, rfl, .inl (hf _)⟩
/-- The pair that Put lays. -/
def puP (p : Pr) : Pr := (p.1, p.2.1, false)
def ptHp (ts : List Pr) (ds : List DV) (k1 k2 k3 : List Value) : Hp := bif ts.isEmpty then ptN ds k1 k2 k3 else ptW ts.length (cpD ts) ds k1 k2 k3
def ptE (c1 m1 c2 m2 c3 m3 : Nat) : List (Nat × Value) := [(1, .slice (some ⟨1, 0, none⟩) m1 c1), (2, .slice (some ⟨2, 0, none⟩) m2 c2), (3, .slice (some ⟨3, 0, none⟩) m3 c3), (9, .bool true), (10, .pointer (some ⟨4, 0, none⟩))]
structure PtOk (ds : List DV) (ps : List Pr) (n c c1 m1 c2 m2 c3 m3 : Nat) (k1 k2 k3 : List Value) : Prop where
  P : Prs ds ps
  O : ∀ p ∈ ps, PrOk p
  l : ps.length = n
  m : n ≤ 100
  B : ∀ p ∈ ps, p.1.length ≤ 200 ∧ p.2.1.length ≤ 200
  c : c ≤ 9223372036854775807
  c1 : c1 ≤ 9223372036854775807
  c2 : c2 ≤ 9223372036854775807
  c3 : c3 ≤ 9223372036854775807
  K1 : BytI m1 k1
  K2 : BytI m2 k2
  K3 : BytI m3 k3
theorem lay_ne {ts : List Pr} {p : Pr} (h : ts ≠ []) : layP ts p ≠ [] := by
  unfold layP
  cases okK p with
  | false => exact h
  | true =>
    simp only [cond_true]
    cases hitP ts p.1 with
    | true => unfold setP; simp
    | false =>
      simp only [cond_false]
      cases decide (64 ≤ ts.length) with
      | true => exact h
      | false => unfold insP; simp
theorem ptHp_R {ts : List Pr} (h : ts ≠ []) (ds : List DV) (k1 k2 k3 : List Value) : ptHp ts ds k1 k2 k3 = ptW ts.length (cpD ts) ds k1 k2 k3 := by
  cases ts with
  | nil => exact absurd rfl h
  | cons p ts => rfl
theorem pt_loop {inr : Bool} {h0 : Hp} {ds : List DV} {ps : List Pr} {n c c1 m1 c2 m2 c3 m3 : Nat} {k1 k2 k3 : List Value} (hB : PtOk ds ps n c c1 m1 c2 m2 c3 m3 k1 k2 k3) : ∀ (r i : Nat) (ts : List Pr), i + r = n → Ti ts →
    LRuns inr Try.prog (bodyIn Try.prog 5 6) 5 200 h0 101 (ptS n c c1 m1 c2 m2 c3 m3 i) (ptHp ts ds k1 k2 k3) 100
      (.exit 0, ptE c1 m1 c2 m2 c3 m3, ptHp ((ps.drop i).foldl (fun t p => layP t (puP p)) ts) ds k1 k2 k3)
  | 0, i, ts, hr, hT => by
      have hl := hB.l
      have h1c : c1 < capBig := by have := hB.c1; unfold capBig; omega
      have h2c : c2 < capBig := by have := hB.c2; unfold capBig; omega
      have h3c : c3 < capBig := by have := hB.c3; unfold capBig; omega
      rw [List.drop_of_length_le (by omega), List.foldl_nil]
      by_cases he : ts = []
      · subst he
        refine LRuns.exit (code_runsP ptX ptL0 (runZ_ok ptX ptT ptL0 mixed 12) mixed (pt_nend inr n c c1 m1 c2 m2 c3 m3 i ds k1 k2 k3) ?_) (by intro e; cases e) rfl (by omega) (by omega) (fun n => n) ?_ ?_ rfl
        · simp only [Alls, decide_eq_false_iff_not]
          exact ⟨by omega, trivial⟩
        · exact ⟨rfl, rb_slc rfl h1c, rfl, rb_slc rfl h2c, rfl, rb_slc rfl h3c, rfl, rfl, rfl, rb_ptr rfl, trivial⟩
        · exact ⟨sh2_row (m := 4) rfl rfl rfl, sd_row (m := 0) rfl rfl, ol_row (m := 1) rfl rfl hB.K1.fl, ol_row (m := 2) rfl rfl hB.K2.fl, ol_row (m := 3) rfl rfl hB.K3.fl, trivial⟩
      · rw [ptHp_R he]
        refine LRuns.exit (code_runsP ptX ptL0 (runZ_ok ptX ptT ptL0 mixed 12) mixed (pt_rend inr n c c1 m1 c2 m2 c3 m3 i ts.length (cpD ts) ds k1 k2 k3) ?_) (by intro e; cases e) rfl (by omega) (by omega) (fun n => n) ?_ ?_ rfl
        · simp only [Alls, decide_eq_false_iff_not]
          exact ⟨by omega, trivial⟩
        · exact ⟨rfl, rb_slc rfl h1c, rfl, rb_slc rfl h2c, rfl, rb_slc rfl h3c, rfl, rfl, rfl, rb_ptr rfl, trivial⟩
        · exact ⟨dp_row (m := 80) rfl rfl, sh2_row (m := 4) rfl rfl (rb_slg rfl rfl), sd_row (m := 0) rfl rfl, ol_row (m := 1) rfl rfl hB.K1.fl, ol_row (m := 2) rfl rfl hB.K2.fl, ol_row (m := 3) rfl rfl hB.K3.fl, trivial⟩
  | r + 1, i, ts, hr, hT => by
      have hl := hB.l
      have hm := hB.m
      have hcc : c < capBig := by have := hB.c; unfold capBig; omega
      have h1c : c1 < capBig := by have := hB.c1; unfold capBig; omega
      have h2c : c2 < capBig := by have := hB.c2; unfold capBig; omega
      have h3c : c3 < capBig := by have := hB.c3; unfold capBig; omega
      have hi : i < ps.length := by omega
      have F := hB.P.facts (List.getElem?_eq_getElem hi)
      obtain ⟨p, hp⟩ : ∃ p, ps[i] = p := ⟨_, rfl⟩
      have hmem : p ∈ ps := by rw [← hp]; exact List.getElem_mem hi
      rw [hp] at F
      have hpo := hB.O p hmem
      obtain ⟨u2, u3⟩ := hB.B p hmem
      have hd : ps.drop i = p :: ps.drop (i + 1) := by rw [List.drop_eq_getElem_cons hi, hp]
      rw [hd, List.foldl_cons]
      have hTn := hT.lay (p := puP p) hpo
      have nx := pt_loop (inr := inr) (h0 := h0) hB r (i + 1) (layP ts (puP p)) (by omega) hTn
      have f0 := F.l0
      have f1 := F.l1
      have v0 := F.v0
      have v1 := F.v1
      have o1 := F.o27 100
      have o2 := F.o27' 101
      have y1 := byV_bytI hpo.1
      have i0 := byV_ints p.1
      have hl0 := byV_len p.1
      have hl1 := byV_len p.2.1
      have t0 : List.take p.1.length (byV p.1) = byV p.1 := List.take_of_length_le (by omega)
      have t1 : List.take p.2.1.length (byV p.2.1) = byV p.2.1 := List.take_of_length_le (by omega)
      have r0 := byV_ren p.1
      have r1 := byV_ren p.2.1
      have a0 : all1 (byV p.1) = true := all1_map p.1
      have a1 : all1 (byV p.2.1) = true := all1_map p.2.1
      have z0 : p.1.length = 0 → byV p.1 = [] := fun e => List.eq_nil_of_length_eq_zero (by omega)
      have z1 : p.2.1.length = 0 → byV p.2.1 = [] := fun e => List.eq_nil_of_length_eq_zero (by omega)
      have bs : BsOk (cpD ts) (byV p.1) ts.length p.1.length := ⟨hT.tb, y1⟩
      have pT := prsOf_cp ts
      have lbl := lb_le ts p.1
      have cpl := cpD_len ts
      have d1 : DVones (cpD ts) := cpD_one ts
      have d2 : DVones (prD none none (puP p)) := prD_one (puP p)
      have hml := hT.m
      have en : ts = [] → cpD ts = [] := fun e => by rw [e]; rfl
      have en0 : ts.length = 0 → cpD ts = [] := fun e => en (List.eq_nil_of_length_eq_zero e)
      have eD : ∀ X : List DV, X = [DV.sl p.1.length none (byD p.1), DV.sl p.2.1.length none (byD p.2.1), DV.fl (.bool false)] → X = prD none none (puP p) := fun X hX => hX
      -- the row of the table
      have row : ∀ {Y X : List DV}, Y = X → some (Rw.mk (.dp 3 zPr Y) []) = some (Rw.mk (.dp 3 zPr X) []) := fun h => by rw [h]
      by_cases q1 : p.1.length < 1
      · have eL : layP ts (puP p) = ts := by
          have : okK (puP p) = false := by cases h : okK (puP p) with | false => rfl | true => have := (okK_iff.1 h).1; simp only [puP] at this; omega
          unfold layP; rw [this]; rfl
        rw [eL] at nx ⊢
        by_cases he : ts = []
        · subst he
          refine LRuns.step (code_runsP ptX ptL0 (runZ_ok ptX ptT ptL0 mixed 12) mixed (pt_nk0 inr n c c1 m1 c2 m2 c3 m3 i ds k1 k2 k3) ?_) rfl (by omega) (by omega) (fun n => n) ?_ ?_ rfl nx
          ·
            simp only [Alls, rg, decide_eq_true_eq, decide_eq_false_iff_not, Nat.add_zero, f0, f1, v0, v1, t0, t1, i0, Nat.mul_one]
            repeat' (with_reducible apply And.intro)
            all_goals first | omega | (with_reducible assumption) | (with_reducible exact trivial) | (with_reducible rfl) | exact fun e => z0 (f0.symm.trans e) | exact fun e => z1 (f1.symm.trans e) | skip
          ·
            exact ⟨rfl, rb_slc rfl hcc, rfl, rb_slc rfl h1c, rfl, rb_slc rfl h2c, rfl, rb_slc rfl h3c, rfl, rfl, rfl, rb_ptr rfl, rfl, rfl, trivial⟩
          · exact ⟨sh2_row (m := 4) rfl rfl rfl, sd_row (m := 0) rfl rfl, ol_row (m := 1) rfl rfl hB.K1.fl, ol_row (m := 2) rfl rfl hB.K2.fl, ol_row (m := 3) rfl rfl hB.K3.fl, trivial⟩
        · rw [ptHp_R he] at nx ⊢
          refine LRuns.step (code_runsP ptX ptL0 (runZ_ok ptX ptT ptL0 mixed 12) mixed (pt_rk0 inr n c c1 m1 c2 m2 c3 m3 i ts.length (cpD ts) ds k1 k2 k3) ?_) rfl (by omega) (by omega) (fun n => n) ?_ ?_ rfl nx
          ·
            simp only [Alls, rg, decide_eq_true_eq, decide_eq_false_iff_not, Nat.add_zero, f0, f1, v0, v1, t0, t1, i0, Nat.mul_one]
            repeat' (with_reducible apply And.intro)
            all_goals first | omega | (with_reducible assumption) | (with_reducible exact trivial) | (with_reducible rfl) | exact fun e => z0 (f0.symm.trans e) | exact fun e => z1 (f1.symm.trans e) | skip
          ·
            exact ⟨rfl, rb_slc rfl hcc, rfl, rb_slc rfl h1c, rfl, rb_slc rfl h2c, rfl, rb_slc rfl h3c, rfl, rfl, rfl, rb_ptr rfl, rfl, rfl, trivial⟩
          · exact ⟨dp_row (m := 80) rfl rfl, sh2_row (m := 4) rfl rfl (rb_slg rfl rfl), sd_row (m := 0) rfl rfl, ol_row (m := 1) rfl rfl hB.K1.fl, ol_row (m := 2) rfl rfl hB.K2.fl, ol_row (m := 3) rfl rfl hB.K3.fl, trivial⟩
      by_cases q2 : 32 < p.1.length
      · have eL : layP ts (puP p) = ts := by
          have : okK (puP p) = false := by cases h : okK (puP p) with | false => rfl | true => have := (okK_iff.1 h).2.1; simp only [puP] at this; omega
          unfold layP; rw [this]; rfl
        rw [eL] at nx ⊢
        by_cases he : ts = []
        · subst he
          refine LRuns.step (code_runsP ptX ptL0 (runZ_ok ptX ptT ptL0 mixed 12) mixed (pt_nk32 inr n c c1 m1 c2 m2 c3 m3 i ds k1 k2 k3) ?_) rfl (by omega) (by omega) (fun n => n) ?_ ?_ rfl nx
          ·
            simp only [Alls, rg, decide_eq_true_eq, decide_eq_false_iff_not, Nat.add_zero, f0, f1, v0, v1, t0, t1, i0, Nat.mul_one]
            repeat' (with_reducible apply And.intro)
            all_goals first | omega | (with_reducible assumption) | (with_reducible exact trivial) | (with_reducible rfl) | exact fun e => z0 (f0.symm.trans e) | exact fun e => z1 (f1.symm.trans e) | skip
          ·
            exact ⟨rfl, rb_slc rfl hcc, rfl, rb_slc rfl h1c, rfl, rb_slc rfl h2c, rfl, rb_slc rfl h3c, rfl, rfl, rfl, rb_ptr rfl, rfl, rfl, trivial⟩
          · exact ⟨sh2_row (m := 4) rfl rfl rfl, sd_row (m := 0) rfl rfl, ol_row (m := 1) rfl rfl hB.K1.fl, ol_row (m := 2) rfl rfl hB.K2.fl, ol_row (m := 3) rfl rfl hB.K3.fl, trivial⟩
        · rw [ptHp_R he] at nx ⊢
          refine LRuns.step (code_runsP ptX ptL0 (runZ_ok ptX ptT ptL0 mixed 12) mixed (pt_rk32 inr n c c1 m1 c2 m2 c3 m3 i ts.length (cpD ts) ds k1 k2 k3) ?_) rfl (by omega) (by omega) (fun n => n) ?_ ?_ rfl nx
          ·
            simp only [Alls, rg, decide_eq_true_eq, decide_eq_false_iff_not, Nat.add_zero, f0, f1, v0, v1, t0, t1, i0, Nat.mul_one]
            repeat' (with_reducible apply And.intro)
            all_goals first | omega | (with_reducible assumption) | (with_reducible exact trivial) | (with_reducible rfl) | exact fun e => z0 (f0.symm.trans e) | exact fun e => z1 (f1.symm.trans e) | skip
          ·
            exact ⟨rfl, rb_slc rfl hcc, rfl, rb_slc rfl h1c, rfl, rb_slc rfl h2c, rfl, rb_slc rfl h3c, rfl, rfl, rfl, rb_ptr rfl, rfl, rfl, trivial⟩
          · exact ⟨dp_row (m := 80) rfl rfl, sh2_row (m := 4) rfl rfl (rb_slg rfl rfl), sd_row (m := 0) rfl rfl, ol_row (m := 1) rfl rfl hB.K1.fl, ol_row (m := 2) rfl rfl hB.K2.fl, ol_row (m := 3) rfl rfl hB.K3.fl, trivial⟩
      by_cases q3 : 128 < p.2.1.length
      · have eL : layP ts (puP p) = ts := by
          have : okK (puP p) = false := by cases h : okK (puP p) with | false => rfl | true => have := (okK_iff.1 h).2.2; simp only [puP] at this; omega
          unfold layP; rw [this]; rfl
        rw [eL] at nx ⊢
        by_cases he : ts = []
        · subst he
          refine LRuns.step (code_runsP ptX ptL0 (runZ_ok ptX ptT ptL0 mixed 12) mixed (pt_nv inr n c c1 m1 c2 m2 c3 m3 i ds k1 k2 k3) ?_) rfl (by omega) (by omega) (fun n => n) ?_ ?_ rfl nx
          ·
            simp only [Alls, rg, decide_eq_true_eq, decide_eq_false_iff_not, Nat.add_zero, f0, f1, v0, v1, t0, t1, i0, Nat.mul_one]
            repeat' (with_reducible apply And.intro)
            all_goals first | omega | (with_reducible assumption) | (with_reducible exact trivial) | (with_reducible rfl) | exact fun e => z0 (f0.symm.trans e) | exact fun e => z1 (f1.symm.trans e) | skip
          ·
            exact ⟨rfl, rb_slc rfl hcc, rfl, rb_slc rfl h1c, rfl, rb_slc rfl h2c, rfl, rb_slc rfl h3c, rfl, rfl, rfl, rb_ptr rfl, rfl, rfl, trivial⟩
          · exact ⟨sh2_row (m := 4) rfl rfl rfl, sd_row (m := 0) rfl rfl, ol_row (m := 1) rfl rfl hB.K1.fl, ol_row (m := 2) rfl rfl hB.K2.fl, ol_row (m := 3) rfl rfl hB.K3.fl, trivial⟩
        · rw [ptHp_R he] at nx ⊢
          refine LRuns.step (code_runsP ptX ptL0 (runZ_ok ptX ptT ptL0 mixed 12) mixed (pt_rv inr n c c1 m1 c2 m2 c3 m3 i ts.length (cpD ts) ds k1 k2 k3) ?_) rfl (by omega) (by omega) (fun n => n) ?_ ?_ rfl nx
          ·
            simp only [Alls, rg, decide_eq_true_eq, decide_eq_false_iff_not, Nat.add_zero, f0, f1, v0, v1, t0, t1, i0, Nat.mul_one]
            repeat' (with_reducible apply And.intro)
            all_goals first | omega | (with_reducible assumption) | (with_reducible exact trivial) | (with_reducible rfl) | exact fun e => z0 (f0.symm.trans e) | exact fun e => z1 (f1.symm.trans e) | skip
          ·
            exact ⟨rfl, rb_slc rfl hcc, rfl, rb_slc rfl h1c, rfl, rb_slc rfl h2c, rfl, rb_slc rfl h3c, rfl, rfl, rfl, rb_ptr rfl, rfl, rfl, trivial⟩
          · exact ⟨dp_row (m := 80) rfl rfl, sh2_row (m := 4) rfl rfl (rb_slg rfl rfl), sd_row (m := 0) rfl rfl, ol_row (m := 1) rfl rfl hB.K1.fl, ol_row (m := 2) rfl rfl hB.K2.fl, ol_row (m := 3) rfl rfl hB.K3.fl, trivial⟩
      have hok : okK (puP p) = true := okK_iff.2 ⟨by simp only [puP]; omega, by simp only [puP]; omega, by simp only [puP]; omega⟩
      by_cases he : ts = []
      · subst he
        have eL : layP [] (puP p) = [puP p] := by unfold layP; rw [hok]; rfl
        rw [eL] at nx ⊢
        have bs0 : BsOk [] (byV p.1) 0 p.1.length := bs
        refine LRuns.step (code_runsP ptX ptL0 (runZ_ok ptX ptT ptL0 mixed 12) mixed (pt_nins inr n c c1 m1 c2 m2 c3 m3 i ds k1 k2 k3) ?_) rfl (by omega) (by omega) (fun _ => 113) ?_ ?_ rfl nx
        ·
          simp only [Alls, rg, decide_eq_true_eq, decide_eq_false_iff_not, Nat.add_zero, f0, f1, v0, v1, t0, t1, i0, Nat.mul_one]
          repeat' (with_reducible apply And.intro)
          all_goals first | omega | (with_reducible assumption) | (with_reducible exact trivial) | (with_reducible rfl) | exact fun e => z0 (f0.symm.trans e) | exact fun e => z1 (f1.symm.trans e) | skip
        ·
          exact ⟨rfl, rb_slc rfl hcc, rfl, rb_slc rfl h1c, rfl, rb_slc rfl h2c, rfl, rb_slc rfl h3c, rfl, rfl, rfl, rb_ptr rfl, rfl, rfl, trivial⟩
        · refine ⟨dp_row (m := 113) rfl (row ?_), sh2_row (m := 4) rfl rfl (rb_slg rfl rfl), sd_row (m := 0) rfl rfl, ol_row (m := 1) rfl rfl hB.K1.fl, ol_row (m := 2) rfl rfl hB.K2.fl, ol_row (m := 3) rfl rfl hB.K3.fl, trivial⟩
          simp only [Nat.add_zero, f0, f1, v0, v1, t0, t1, byV_fl]
          rfl
      · rw [ptHp_R he] at *
        rw [ptHp_R (lay_ne he)] at nx
        cases hh : hitP ts p.1 with
        | true =>
          have eL : layP ts (puP p) = setP ts (puP p) := by unfold layP; rw [hok]; show (bif hitP ts p.1 then _ else _) = _; rw [hh]; rfl
          obtain ⟨g1, g2, g3⟩ := atP_hit hh
          have eN : (setP ts (puP p)).length = ts.length := by
            unfold setP
            rw [List.length_append, List.length_cons, List.length_take, List.length_drop]
            show min (lbP ts p.1) ts.length + (ts.length - (lbP ts p.1 + 1) + 1) = _
            omega
          rw [eL]
          rw [eL, eN, ← setD_cpD] at nx
          refine LRuns.step (code_runsP ptX ptL0 (runZ_ok ptX ptT ptL0 mixed 12) mixed (pt_rup inr n c c1 m1 c2 m2 c3 m3 i ts.length (cpD ts) ds k1 k2 k3) ?_) rfl (by omega) (by omega) (fun _ => 111) ?_ ?_ rfl nx
          ·
            simp only [Alls, rg, decide_eq_true_eq, decide_eq_false_iff_not, Nat.add_zero, f0, f1, v0, v1, t0, t1, i0, Nat.mul_one, pT, cpl]
            repeat' (with_reducible apply And.intro)
            all_goals first | omega | (with_reducible assumption) | (with_reducible exact trivial) | (with_reducible rfl) | exact fun e => z0 (f0.symm.trans e) | exact fun e => z1 (f1.symm.trans e) | skip
          ·
            exact ⟨rfl, rb_slc rfl hcc, rfl, rb_slc rfl h1c, rfl, rb_slc rfl h2c, rfl, rb_slc rfl h3c, rfl, rfl, rfl, rb_ptr rfl, rfl, rfl, trivial⟩
          · refine ⟨dp_row (m := 111) rfl (row ?_), sh2_row (m := 4) rfl rfl (rb_slg rfl rfl), sd_row (m := 0) rfl rfl, ol_row (m := 1) rfl rfl hB.K1.fl, ol_row (m := 2) rfl rfl hB.K2.fl, ol_row (m := 3) rfl rfl hB.K3.fl, trivial⟩
            simp only [Nat.add_zero, f0, f1, v0, v1, t0, t1, i0, pT, byV_fl]
            rfl
        | false =>
          by_cases hful : 64 ≤ ts.length
          · have eL : layP ts (puP p) = ts := by unfold layP; rw [hok]; show (bif hitP ts p.1 then _ else _) = _; rw [hh, decide_eq_true hful]; rfl
            rw [eL] at nx ⊢
            refine LRuns.step (code_runsP ptX ptL0 (runZ_ok ptX ptT ptL0 mixed 12) mixed (pt_rfull inr n c c1 m1 c2 m2 c3 m3 i ts.length (cpD ts) ds k1 k2 k3) ?_) rfl (by omega) (by omega) (fun n => n) ?_ ?_ rfl nx
            ·
              simp only [Alls, rg, decide_eq_true_eq, decide_eq_false_iff_not, Nat.add_zero, f0, f1, v0, v1, t0, t1, i0, Nat.mul_one, pT, cpl]
              repeat' (with_reducible apply And.intro)
              all_goals first | omega | (with_reducible assumption) | (with_reducible exact trivial) | (with_reducible rfl) | exact fun e => z0 (f0.symm.trans e) | exact fun e => z1 (f1.symm.trans e) | skip
            ·
              exact ⟨rfl, rb_slc rfl hcc, rfl, rb_slc rfl h1c, rfl, rb_slc rfl h2c, rfl, rb_slc rfl h3c, rfl, rfl, rfl, rb_ptr rfl, rfl, rfl, trivial⟩
            · exact ⟨dp_row (m := 80) rfl rfl, sh2_row (m := 4) rfl rfl (rb_slg rfl rfl), sd_row (m := 0) rfl rfl, ol_row (m := 1) rfl rfl hB.K1.fl, ol_row (m := 2) rfl rfl hB.K2.fl, ol_row (m := 3) rfl rfl hB.K3.fl, trivial⟩
          · have eL : layP ts (puP p) = insP ts (puP p) := by unfold layP; rw [hok]; show (bif hitP ts p.1 then _ else _) = _; rw [hh, decide_eq_false hful]; rfl
            have eN : (insP ts (puP p)).length = ts.length + 1 := by
              unfold insP
              rw [List.length_append, List.length_cons, List.length_take, List.length_drop]
              show min (lbP ts p.1) ts.length + (ts.length - lbP ts p.1 + 1) = _
              omega
            rw [eL]
            rw [eL, eN, ← insD_cpD] at nx
            refine LRuns.step (code_runsP ptX ptL0 (runZ_ok ptX ptT ptL0 mixed 12) mixed (pt_rins inr n c c1 m1 c2 m2 c3 m3 i ts.length (cpD ts) ds k1 k2 k3) ?_) rfl (by omega) (by omega) (fun _ => 112) ?_ ?_ rfl nx
            ·
              simp only [Alls, rg, decide_eq_true_eq, decide_eq_false_iff_not, Nat.add_zero, f0, f1, v0, v1, t0, t1, i0, Nat.mul_one, pT, cpl, byV_fl]
              repeat' (with_reducible apply And.intro)
              all_goals first | omega | (with_reducible assumption) | (with_reducible exact trivial) | (with_reducible rfl) | exact fun e => z0 (f0.symm.trans e) | exact fun e => z1 (f1.symm.trans e) | skip
              exact d2
            ·
              exact ⟨rfl, rb_slc rfl hcc, rfl, rb_slc rfl h1c, rfl, rb_slc rfl h2c, rfl, rb_slc rfl h3c, rfl, rfl, rfl, rb_ptr rfl, rfl, rfl, trivial⟩
            · refine ⟨dp_row (m := 112) rfl (row ?_), sh2_row (m := 4) rfl rfl (rb_slg rfl rfl), sd_row (m := 0) rfl rfl, ol_row (m := 1) rfl rfl hB.K1.fl, ol_row (m := 2) rfl rfl hB.K2.fl, ol_row (m := 3) rfl rfl hB.K3.fl, trivial⟩
              simp only [Nat.add_zero, f0, f1, v0, v1, t0, t1, i0, pT, byV_fl]
              rfl
end Go.Proofs.Ytojakfnljopjbaa
