/-
  Chapter 12: the statement MemtableMap: its first loop.
-/
import Derived.Test.YtojakfnljopjbaaMapA
import Derived.Test.YtojakfnljopjbaaMapP
namespace Go.Proofs.Ytojakfnljopjbaa
set_option linter.unusedSimpArgs false
set_option linter.unusedVariables false
set_option linter.unusedSectionVars false
open Go Go.RowKit
theorem mpX {L : LFun} {T : TFun} : XOkZ (mpV L T) Try.prog := XOneZ.ok cmpY_ok rfl
theorem mpT {L : LFun} : TOkZ (mpV L ptT0) Try.prog := T_okV rfl ptT0_one
theorem mpL0 {T : TFun} : LOkZ (mpV noL T) Try.prog := noL_okV rfl
/-- The pair that Remove lays. -/
def goP (p : Pr) : Pr := (p.1, [], true)
theorem cl_pu {p : Pr} (h : p.2.2 = false) : clP p = puP p := by unfold clP; rw [h]; rfl
theorem cl_go {p : Pr} (h : p.2.2 = true) : clP p = goP p := by unfold clP; rw [h]; rfl
def mpHp (s : MSt) (ds : List DV) (k1 : List Value) : Hp := bif s.1.isEmpty then mpN ds k1 else mpW s.1.length (cpD s.1) (cpD s.2) ds k1
def mpLa (s : MSt) : Value := bif s.1.isEmpty then .slice none 0 0 else laV s.2.length
def mpE (c1 m1 : Nat) (s : MSt) : List (Nat × Value) := [(1, .slice (some ⟨1, 0, none⟩) m1 c1), (5, .bool true), (6, .pointer (some ⟨2, 0, none⟩)), (7, mpLa s)]
structure MpOk (ds : List DV) (ps : List Pr) (n c c1 m1 : Nat) (k1 : List Value) : Prop where
  P : Prs ds ps
  O : ∀ p ∈ ps, PrOk p
  l : ps.length = n
  m : n ≤ 100
  B : ∀ p ∈ ps, p.1.length ≤ 200 ∧ p.2.1.length ≤ 200
  c : c ≤ 9223372036854775807
  c1 : c1 ≤ 9223372036854775807
  K1 : BytI m1 k1
theorem mpHp_R {s : MSt} (h : s.1 ≠ []) (ds : List DV) (k1 : List Value) : mpHp s ds k1 = mpW s.1.length (cpD s.1) (cpD s.2) ds k1 := by
  obtain ⟨ts, ls⟩ := s
  cases ts with
  | nil => exact absurd rfl h
  | cons p ts => rfl
theorem mpLa_R {s : MSt} (h : s.1 ≠ []) : mpLa s = laV s.2.length := by
  obtain ⟨ts, ls⟩ := s
  cases ts with
  | nil => exact absurd rfl h
  | cons p ts => rfl
/-- A pair that is not laid changes nothing. -/
theorem st_same {s : MSt} {p q : Pr} (e : clP p = q) (hk : okK q = false) : stP s p = s := by
  unfold stP okL layP
  rw [e, hk]
  rfl
theorem st_full {s : MSt} {p q : Pr} (e : clP p = q) (hh : hitP s.1 q.1 = false) (hm : 64 ≤ s.1.length) : stP s p = s := by
  have hd : decide (64 ≤ s.1.length) = true := decide_eq_true hm
  unfold stP okL layP
  rw [e, hh, hd]
  cases okK q <;> rfl
theorem st_set {s : MSt} {p q : Pr} (e : clP p = q) (hk : okK q = true) (hh : hitP s.1 q.1 = true) : stP s p = (setP s.1 q, s.2 ++ [q]) := by
  unfold stP okL layP
  rw [e, hk, hh]
  rfl
theorem st_ins {s : MSt} {p q : Pr} (e : clP p = q) (hk : okK q = true) (hh : hitP s.1 q.1 = false) (hm : ¬ 64 ≤ s.1.length) : stP s p = (insP s.1 q, s.2 ++ [q]) := by
  have hd : decide (64 ≤ s.1.length) = false := decide_eq_false hm
  unfold stP okL layP
  rw [e, hk, hh, hd]
  rfl
theorem setP_len {ts : List Pr} {q : Pr} (hh : hitP ts q.1 = true) : (setP ts q).length = ts.length := by
  obtain ⟨g1, g2, g3⟩ := atP_hit hh
  unfold setP
  rw [List.length_append, List.length_cons, List.length_take, List.length_drop]
  omega
theorem insP_len (ts : List Pr) (q : Pr) : (insP ts q).length = ts.length + 1 := by
  have := lb_le ts q.1
  unfold insP
  rw [List.length_append, List.length_cons, List.length_take, List.length_drop]
  omega
theorem setP_ne {ts : List Pr} {q : Pr} : setP ts q ≠ [] := by unfold setP; simp
theorem insP_ne {ts : List Pr} {q : Pr} : insP ts q ≠ [] := by unfold insP; simp
theorem row_eq {Y X : List DV} (h : Y = X) : some (Rw.mk (.dp 3 zPr Y) []) = some (Rw.mk (.dp 3 zPr X) []) := by rw [h]
theorem mp_loop {inr : Bool} {h0 : Hp} {ds : List DV} {ps : List Pr} {n c c1 m1 : Nat} {k1 : List Value} (hB : MpOk ds ps n c c1 m1 k1) : ∀ (r i : Nat) (s : MSt), i + r = n → Mi s → s.2.length ≤ i →
    LRuns inr Try.prog (bodyIn Try.prog 8 7) 3 200 h0 128 (mpS n c m1 c1 i (mpLa s)) (mpHp s ds k1) 100
      (.exit 0, mpE c1 m1 ((ps.drop i).foldl stP s), mpHp ((ps.drop i).foldl stP s) ds k1)
  | 0, i, s, hr, hM, hli => by
      obtain ⟨ts, ls⟩ := s
      have hl := hB.l
      have h1c : c1 < capBig := by have := hB.c1; unfold capBig; omega
      rw [List.drop_of_length_le (by omega), List.foldl_nil]
      unfold mpE
      by_cases he : ts = []
      · subst he
        have el : ls = [] := hM.e.1 rfl
        subst el
        refine LRuns.exit (code_runsP mpX mpL0 (runZ_ok mpX mpT mpL0 mixed 12) mixed (mp_nend inr n c m1 c1 i ds k1) ?_) (by intro e; cases e) rfl (by omega) (by omega) (fun n => n) ?_ ?_ rfl
        · simp only [Alls, decide_eq_false_iff_not]
          exact ⟨by omega, trivial⟩
        · exact ⟨rfl, rb_slc rfl h1c, rfl, rfl, rfl, rb_ptr rfl, rfl, rfl, trivial⟩
        ·
          exact ⟨sh2_row (m := 2) rfl rfl rfl, sd_row (m := 0) rfl rfl, ol_row (m := 1) rfl rfl hB.K1.fl, trivial⟩
      · rw [mpHp_R he, mpLa_R he]
        refine LRuns.exit (code_runsP mpX mpL0 (runZ_ok mpX mpT mpL0 mixed 12) mixed (mp_rend inr n c m1 c1 i ts.length ls.length (cpD ts) (cpD ls) ds k1) ?_) (by intro e; cases e) rfl (by omega) (by omega) (fun n => n) ?_ ?_ rfl
        · simp only [Alls, decide_eq_false_iff_not]
          exact ⟨by omega, trivial⟩
        · exact ⟨rfl, rb_slc rfl h1c, rfl, rfl, rfl, rb_ptr rfl, rfl, rb_slg rfl rfl, trivial⟩
        ·
          exact ⟨dp_row (m := 80) rfl rfl, dp_row (m := 81) rfl rfl, sh2_row (m := 2) rfl rfl (rb_slg rfl rfl), sd_row (m := 0) rfl rfl, ol_row (m := 1) rfl rfl hB.K1.fl, trivial⟩
  | r + 1, i, (ts, ls), hr, hM, hli => by
      have hl := hB.l
      have hm := hB.m
      have hcc : c < capBig := by have := hB.c; unfold capBig; omega
      have h1c : c1 < capBig := by have := hB.c1; unfold capBig; omega
      have hi : i < ps.length := by omega
      have F := hB.P.facts (List.getElem?_eq_getElem hi)
      obtain ⟨p, hp⟩ : ∃ p, ps[i] = p := ⟨_, rfl⟩
      have hmem : p ∈ ps := by rw [← hp]; exact List.getElem_mem hi
      rw [hp] at F
      have hpo := hB.O p hmem
      obtain ⟨u2, u3⟩ := hB.B p hmem
      have hd : ps.drop i = p :: ps.drop (i + 1) := by rw [List.drop_eq_getElem_cons hi, hp]
      rw [hd, List.foldl_cons]
      have hMn := hM.step (p := p) hpo
      have hT : Ti ts := hM.T
      have hli1 : ls.length ≤ i := hli
      have hle2 : (stP (ts, ls) p).2.length ≤ i + 1 := by
        unfold stP
        simp only
        cases okL ts (clP p) with
        | true => simp only [cond_true, List.length_append, List.length_singleton]; omega
        | false => simp only [cond_false]; omega
      have nx := mp_loop (inr := inr) (h0 := h0) hB r (i + 1) (stP (ts, ls) p) (by omega) hMn hle2
      have f0 := F.l0
      have f1 := F.l1
      have v0 := F.v0
      have v1 := F.v1
      have o1 := F.o29 100
      have y1 := byV_bytI hpo.1
      have i0 := byV_ints p.1
      have hl0 := byV_len p.1
      have hl1 := byV_len p.2.1
      have t0 : List.take p.1.length (byV p.1) = byV p.1 := List.take_of_length_le (by omega)
      have t1 : List.take p.2.1.length (byV p.2.1) = byV p.2.1 := List.take_of_length_le (by omega)
      have r0 := byV_ren p.1
      have r1 := byV_ren p.2.1
      have a0 : all1 (byV p.1) = true := all1_map p.1
      have a1 : all1 (byV p.2.1) = true := all1_map p.2.1
      have z0 : p.1.length = 0 → byV p.1 = [] := fun e => List.eq_nil_of_length_eq_zero (by omega)
      have z1 : p.2.1.length = 0 → byV p.2.1 = [] := fun e => List.eq_nil_of_length_eq_zero (by omega)
      have bs : BsOk (cpD ts) (byV p.1) ts.length p.1.length := ⟨hT.tb, y1⟩
      have pT := prsOf_cp ts
      have lbl := lb_le ts p.1
      have cpl := cpD_len ts
      have cpll := cpD_len ls
      have d1 : DVones (cpD ts) := cpD_one ts
      have hml := hT.m
      have en : ts = [] → cpD ts = [] := fun e => by rw [e]; rfl
      have en0 : ts.length = 0 → cpD ts = [] := fun e => en (List.eq_nil_of_length_eq_zero e)
      cases hg : p.2.2 with
      | false =>
        have g0 := F.g.trans hg
        have eC : clP p = puP p := cl_pu hg
        have d2 : DVones (prD none none (puP p)) := prD_one (puP p)
        by_cases q1 : p.1.length < 1
        · have eL : stP (ts, ls) p = (ts, ls) := st_same eC (by cases h : okK (puP p) with | false => rfl | true => have := (okK_iff.1 h).1; simp only [puP] at this; omega)
          rw [eL] at nx ⊢
          by_cases he : ts = []
          · subst he
            have el : ls = [] := hM.e.1 rfl
            subst el
            refine LRuns.step (code_runsP mpX mpL0 (runZ_ok mpX mpT mpL0 mixed 12) mixed (mp_npk0 inr n c m1 c1 i ds k1) ?_) rfl (by omega) (by omega) (fun n => n) ?_ ?_ rfl nx
            ·
              simp only [Alls, rg, decide_eq_true_eq, decide_eq_false_iff_not, Nat.add_zero, f0, f1, v0, v1, g0, t0, t1, i0, Nat.mul_one]
              repeat' (with_reducible apply And.intro)
              all_goals first | omega | (with_reducible assumption) | (with_reducible exact trivial) | (with_reducible rfl) | exact fun e => z0 (f0.symm.trans e) | exact fun e => z1 (f1.symm.trans e) | exact fun _ => rfl | exact fun h => h | skip
            ·
              exact ⟨rfl, rb_slc rfl hcc, rfl, rb_slc rfl h1c, rfl, rfl, rfl, rb_ptr rfl, rfl, rfl, rfl, rfl, trivial⟩
            ·
              exact ⟨sh2_row (m := 2) rfl rfl rfl, sd_row (m := 0) rfl rfl, ol_row (m := 1) rfl rfl hB.K1.fl, trivial⟩
          · rw [mpHp_R he, mpLa_R he] at nx ⊢
            refine LRuns.step (code_runsP mpX mpL0 (runZ_ok mpX mpT mpL0 mixed 12) mixed (mp_rpk0 inr n c m1 c1 i ts.length ls.length (cpD ts) (cpD ls) ds k1) ?_) rfl (by omega) (by omega) (fun n => n) ?_ ?_ rfl nx
            ·
              simp only [Alls, rg, decide_eq_true_eq, decide_eq_false_iff_not, Nat.add_zero, f0, f1, v0, v1, g0, t0, t1, i0, Nat.mul_one]
              repeat' (with_reducible apply And.intro)
              all_goals first | omega | (with_reducible assumption) | (with_reducible exact trivial) | (with_reducible rfl) | exact fun e => z0 (f0.symm.trans e) | exact fun e => z1 (f1.symm.trans e) | exact fun _ => rfl | exact fun h => h | skip
            ·
              exact ⟨rfl, rb_slc rfl hcc, rfl, rb_slc rfl h1c, rfl, rfl, rfl, rb_ptr rfl, rfl, rb_slg rfl rfl, rfl, rfl, trivial⟩
            ·
              exact ⟨dp_row (m := 80) rfl rfl, dp_row (m := 81) rfl rfl, sh2_row (m := 2) rfl rfl (rb_slg rfl rfl), sd_row (m := 0) rfl rfl, ol_row (m := 1) rfl rfl hB.K1.fl, trivial⟩
        by_cases q2 : 32 < p.1.length
        · have eL : stP (ts, ls) p = (ts, ls) := st_same eC (by cases h : okK (puP p) with | false => rfl | true => have := (okK_iff.1 h).2.1; simp only [puP] at this; omega)
          rw [eL] at nx ⊢
          by_cases he : ts = []
          · subst he
            have el : ls = [] := hM.e.1 rfl
            subst el
            refine LRuns.step (code_runsP mpX mpL0 (runZ_ok mpX mpT mpL0 mixed 12) mixed (mp_npk32 inr n c m1 c1 i ds k1) ?_) rfl (by omega) (by omega) (fun n => n) ?_ ?_ rfl nx
            ·
              simp only [Alls, rg, decide_eq_true_eq, decide_eq_false_iff_not, Nat.add_zero, f0, f1, v0, v1, g0, t0, t1, i0, Nat.mul_one]
              repeat' (with_reducible apply And.intro)
              all_goals first | omega | (with_reducible assumption) | (with_reducible exact trivial) | (with_reducible rfl) | exact fun e => z0 (f0.symm.trans e) | exact fun e => z1 (f1.symm.trans e) | exact fun _ => rfl | exact fun h => h | skip
            ·
              exact ⟨rfl, rb_slc rfl hcc, rfl, rb_slc rfl h1c, rfl, rfl, rfl, rb_ptr rfl, rfl, rfl, rfl, rfl, trivial⟩
            ·
              exact ⟨sh2_row (m := 2) rfl rfl rfl, sd_row (m := 0) rfl rfl, ol_row (m := 1) rfl rfl hB.K1.fl, trivial⟩
          · rw [mpHp_R he, mpLa_R he] at nx ⊢
            refine LRuns.step (code_runsP mpX mpL0 (runZ_ok mpX mpT mpL0 mixed 12) mixed (mp_rpk32 inr n c m1 c1 i ts.length ls.length (cpD ts) (cpD ls) ds k1) ?_) rfl (by omega) (by omega) (fun n => n) ?_ ?_ rfl nx
            ·
              simp only [Alls, rg, decide_eq_true_eq, decide_eq_false_iff_not, Nat.add_zero, f0, f1, v0, v1, g0, t0, t1, i0, Nat.mul_one]
              repeat' (with_reducible apply And.intro)
              all_goals first | omega | (with_reducible assumption) | (with_reducible exact trivial) | (with_reducible rfl) | exact fun e => z0 (f0.symm.trans e) | exact fun e => z1 (f1.symm.trans e) | exact fun _ => rfl | exact fun h => h | skip
            ·
              exact ⟨rfl, rb_slc rfl hcc, rfl, rb_slc rfl h1c, rfl, rfl, rfl, rb_ptr rfl, rfl, rb_slg rfl rfl, rfl, rfl, trivial⟩
            ·
              exact ⟨dp_row (m := 80) rfl rfl, dp_row (m := 81) rfl rfl, sh2_row (m := 2) rfl rfl (rb_slg rfl rfl), sd_row (m := 0) rfl rfl, ol_row (m := 1) rfl rfl hB.K1.fl, trivial⟩
        by_cases q3 : 128 < p.2.1.length
        · have eL : stP (ts, ls) p = (ts, ls) := st_same eC (by cases h : okK (puP p) with | false => rfl | true => have := (okK_iff.1 h).2.2; simp only [puP] at this; omega)
          rw [eL] at nx ⊢
          by_cases he : ts = []
          · subst he
            have el : ls = [] := hM.e.1 rfl
            subst el
            refine LRuns.step (code_runsP mpX mpL0 (runZ_ok mpX mpT mpL0 mixed 12) mixed (mp_npv inr n c m1 c1 i ds k1) ?_) rfl (by omega) (by omega) (fun n => n) ?_ ?_ rfl nx
            ·
              simp only [Alls, rg, decide_eq_true_eq, decide_eq_false_iff_not, Nat.add_zero, f0, f1, v0, v1, g0, t0, t1, i0, Nat.mul_one]
              repeat' (with_reducible apply And.intro)
              all_goals first | omega | (with_reducible assumption) | (with_reducible exact trivial) | (with_reducible rfl) | exact fun e => z0 (f0.symm.trans e) | exact fun e => z1 (f1.symm.trans e) | exact fun _ => rfl | exact fun h => h | skip
            ·
              exact ⟨rfl, rb_slc rfl hcc, rfl, rb_slc rfl h1c, rfl, rfl, rfl, rb_ptr rfl, rfl, rfl, rfl, rfl, trivial⟩
            ·
              exact ⟨sh2_row (m := 2) rfl rfl rfl, sd_row (m := 0) rfl rfl, ol_row (m := 1) rfl rfl hB.K1.fl, trivial⟩
          · rw [mpHp_R he, mpLa_R he] at nx ⊢
            refine LRuns.step (code_runsP mpX mpL0 (runZ_ok mpX mpT mpL0 mixed 12) mixed (mp_rpv inr n c m1 c1 i ts.length ls.length (cpD ts) (cpD ls) ds k1) ?_) rfl (by omega) (by omega) (fun n => n) ?_ ?_ rfl nx
            ·
              simp only [Alls, rg, decide_eq_true_eq, decide_eq_false_iff_not, Nat.add_zero, f0, f1, v0, v1, g0, t0, t1, i0, Nat.mul_one]
              repeat' (with_reducible apply And.intro)
              all_goals first | omega | (with_reducible assumption) | (with_reducible exact trivial) | (with_reducible rfl) | exact fun e => z0 (f0.symm.trans e) | exact fun e => z1 (f1.symm.trans e) | exact fun _ => rfl | exact fun h => h | skip
            ·
              exact ⟨rfl, rb_slc rfl hcc, rfl, rb_slc rfl h1c, rfl, rfl, rfl, rb_ptr rfl, rfl, rb_slg rfl rfl, rfl, rfl, trivial⟩
            ·
              exact ⟨dp_row (m := 80) rfl rfl, dp_row (m := 81) rfl rfl, sh2_row (m := 2) rfl rfl (rb_slg rfl rfl), sd_row (m := 0) rfl rfl, ol_row (m := 1) rfl rfl hB.K1.fl, trivial⟩
        have hok : okK (puP p) = true := okK_iff.2 ⟨by simp only [puP]; omega, by simp only [puP]; omega, by simp only [puP]; omega⟩
        by_cases he : ts = []
        · subst he
          have el : ls = [] := hM.e.1 rfl
          subst el
          have eL : stP ([], []) p = ([puP p], [puP p]) := by rw [st_ins eC hok rfl (by simp)]; rfl
          rw [eL] at nx ⊢
          have bs0 : BsOk [] (byV p.1) 0 p.1.length := bs
          refine LRuns.step (code_runsP mpX mpL0 (runZ_ok mpX mpT mpL0 mixed 12) mixed (mp_npins inr n c m1 c1 i ds k1) ?_) rfl (by omega) (by omega) (fun n => bif Nat.beq n 80 then 114 else 117) ?_ ?_ rfl nx
          ·
            simp only [Alls, rg, decide_eq_true_eq, decide_eq_false_iff_not, Nat.add_zero, f0, f1, v0, v1, g0, t0, t1, i0, Nat.mul_one]
            repeat' (with_reducible apply And.intro)
            all_goals first | omega | (with_reducible assumption) | (with_reducible exact trivial) | (with_reducible rfl) | exact fun e => z0 (f0.symm.trans e) | exact fun e => z1 (f1.symm.trans e) | exact fun _ => rfl | exact fun h => h | skip
          ·
            exact ⟨rfl, rb_slc rfl hcc, rfl, rb_slc rfl h1c, rfl, rfl, rfl, rb_ptr rfl, rfl, rb_slg rfl rfl, rfl, rfl, trivial⟩
          ·
            refine ⟨dp_row (m := 114) rfl (row_eq ?_), dp_row (m := 117) rfl (row_eq ?_), sh2_row (m := 2) rfl rfl (rb_slg rfl rfl), sd_row (m := 0) rfl rfl, ol_row (m := 1) rfl rfl hB.K1.fl, trivial⟩
            all_goals
              simp only [Nat.add_zero, f0, f1, v0, v1, g0, t0, t1, i0, pT, byV_fl]
              rfl
        · rw [mpHp_R he, mpLa_R he] at *
          cases hh : hitP ts p.1 with
          | true =>
            have eL : stP (ts, ls) p = (setP ts (puP p), ls ++ [puP p]) := st_set eC hok hh
            obtain ⟨g1, g2, g3⟩ := atP_hit hh
            rw [eL]
            rw [eL, mpHp_R setP_ne, mpLa_R setP_ne] at nx
            dsimp only at nx ⊢
            rw [setP_len (ts := ts) (q := puP p) hh, List.length_append, List.length_singleton, ← setD_cpD, cpD_snoc] at nx
            refine LRuns.step (code_runsP mpX mpL0 (runZ_ok mpX mpT mpL0 mixed 12) mixed (mp_rpup inr n c m1 c1 i ts.length ls.length (cpD ts) (cpD ls) ds k1) ?_) rfl (by omega) (by omega) (fun n => bif Nat.beq n 80 then 112 else 115) ?_ ?_ rfl nx
            ·
              simp only [Alls, rg, decide_eq_true_eq, decide_eq_false_iff_not, Nat.add_zero, f0, f1, v0, v1, g0, t0, t1, i0, Nat.mul_one, pT, cpl, cpll]
              repeat' (with_reducible apply And.intro)
              all_goals first | omega | (with_reducible assumption) | (with_reducible exact trivial) | (with_reducible rfl) | exact fun e => z0 (f0.symm.trans e) | exact fun e => z1 (f1.symm.trans e) | exact fun _ => rfl | exact fun h => h | skip
            ·
              exact ⟨rfl, rb_slc rfl hcc, rfl, rb_slc rfl h1c, rfl, rfl, rfl, rb_ptr rfl, rfl, rb_slg rfl rfl, rfl, rfl, trivial⟩
            ·
              refine ⟨dp_row (m := 112) rfl (row_eq ?_), dp_row (m := 115) rfl (row_eq ?_), sh2_row (m := 2) rfl rfl (rb_slg rfl rfl), sd_row (m := 0) rfl rfl, ol_row (m := 1) rfl rfl hB.K1.fl, trivial⟩
              all_goals
                simp only [Nat.add_zero, f0, f1, v0, v1, g0, t0, t1, i0, pT, byV_fl]
                rfl
          | false =>
            by_cases hful : 64 ≤ ts.length
            · have eL : stP (ts, ls) p = (ts, ls) := st_full eC hh hful
              rw [eL] at nx ⊢
              rw [mpHp_R he, mpLa_R he] at nx
              refine LRuns.step (code_runsP mpX mpL0 (runZ_ok mpX mpT mpL0 mixed 12) mixed (mp_rpfull inr n c m1 c1 i ts.length ls.length (cpD ts) (cpD ls) ds k1) ?_) rfl (by omega) (by omega) (fun n => n) ?_ ?_ rfl nx
              ·
                simp only [Alls, rg, decide_eq_true_eq, decide_eq_false_iff_not, Nat.add_zero, f0, f1, v0, v1, g0, t0, t1, i0, Nat.mul_one, pT, cpl, cpll]
                repeat' (with_reducible apply And.intro)
                all_goals first | omega | (with_reducible assumption) | (with_reducible exact trivial) | (with_reducible rfl) | exact fun e => z0 (f0.symm.trans e) | exact fun e => z1 (f1.symm.trans e) | exact fun _ => rfl | exact fun h => h | skip
              ·
                exact ⟨rfl, rb_slc rfl hcc, rfl, rb_slc rfl h1c, rfl, rfl, rfl, rb_ptr rfl, rfl, rb_slg rfl rfl, rfl, rfl, trivial⟩
              ·
                exact ⟨dp_row (m := 80) rfl rfl, dp_row (m := 81) rfl rfl, sh2_row (m := 2) rfl rfl (rb_slg rfl rfl), sd_row (m := 0) rfl rfl, ol_row (m := 1) rfl rfl hB.K1.fl, trivial⟩
            · have eL : stP (ts, ls) p = (insP ts (puP p), ls ++ [puP p]) := st_ins eC hok hh hful
              rw [eL]
              rw [eL, mpHp_R insP_ne, mpLa_R insP_ne] at nx
              dsimp only at nx ⊢
              rw [insP_len, List.length_append, List.length_singleton, ← insD_cpD, cpD_snoc] at nx
              refine LRuns.step (code_runsP mpX mpL0 (runZ_ok mpX mpT mpL0 mixed 12) mixed (mp_rpins inr n c m1 c1 i ts.length ls.length (cpD ts) (cpD ls) ds k1) ?_) rfl (by omega) (by omega) (fun n => bif Nat.beq n 80 then 113 else 116) ?_ ?_ rfl nx
              ·
                simp only [Alls, rg, decide_eq_true_eq, decide_eq_false_iff_not, Nat.add_zero, f0, f1, v0, v1, g0, t0, t1, i0, Nat.mul_one, pT, cpl, cpll, byV_fl]
                repeat' (with_reducible apply And.intro)
                all_goals first | omega | (with_reducible assumption) | (with_reducible exact trivial) | (with_reducible rfl) | exact fun e => z0 (f0.symm.trans e) | exact fun e => z1 (f1.symm.trans e) | exact fun _ => rfl | exact fun h => h | skip
                try exact d2
              ·
                exact ⟨rfl, rb_slc rfl hcc, rfl, rb_slc rfl h1c, rfl, rfl, rfl, rb_ptr rfl, rfl, rb_slg rfl rfl, rfl, rfl, trivial⟩
              ·
                refine ⟨dp_row (m := 113) rfl (row_eq ?_), dp_row (m := 116) rfl (row_eq ?_), sh2_row (m := 2) rfl rfl (rb_slg rfl rfl), sd_row (m := 0) rfl rfl, ol_row (m := 1) rfl rfl hB.K1.fl, trivial⟩
                all_goals
                  simp only [Nat.add_zero, f0, f1, v0, v1, g0, t0, t1, i0, pT, byV_fl]
                  rfl
      | true =>
        have g0 := F.g.trans hg
        have eC : clP p = goP p := cl_go hg
        have d2 : DVones (prD none none (goP p)) := prD_one (goP p)
        by_cases q1 : p.1.length < 1
        · have eL : stP (ts, ls) p = (ts, ls) := st_same eC (by cases h : okK (goP p) with | false => rfl | true => have := (okK_iff.1 h).1; simp only [goP] at this; omega)
          rw [eL] at nx ⊢
          by_cases he : ts = []
          · subst he
            have el : ls = [] := hM.e.1 rfl
            subst el
            refine LRuns.step (code_runsP mpX mpL0 (runZ_ok mpX mpT mpL0 mixed 12) mixed (mp_ngk0 inr n c m1 c1 i ds k1) ?_) rfl (by omega) (by omega) (fun n => n) ?_ ?_ rfl nx
            ·
              simp only [Alls, rg, decide_eq_true_eq, decide_eq_false_iff_not, Nat.add_zero, f0, f1, v0, v1, g0, t0, t1, i0, Nat.mul_one]
              repeat' (with_reducible apply And.intro)
              all_goals first | omega | (with_reducible assumption) | (with_reducible exact trivial) | (with_reducible rfl) | exact fun e => z0 (f0.symm.trans e) | exact fun e => z1 (f1.symm.trans e) | exact fun _ => rfl | exact fun h => h | skip
            ·
              exact ⟨rfl, rb_slc rfl hcc, rfl, rb_slc rfl h1c, rfl, rfl, rfl, rb_ptr rfl, rfl, rfl, rfl, rfl, trivial⟩
            ·
              exact ⟨sh2_row (m := 2) rfl rfl rfl, sd_row (m := 0) rfl rfl, ol_row (m := 1) rfl rfl hB.K1.fl, trivial⟩
          · rw [mpHp_R he, mpLa_R he] at nx ⊢
            refine LRuns.step (code_runsP mpX mpL0 (runZ_ok mpX mpT mpL0 mixed 12) mixed (mp_rgk0 inr n c m1 c1 i ts.length ls.length (cpD ts) (cpD ls) ds k1) ?_) rfl (by omega) (by omega) (fun n => n) ?_ ?_ rfl nx
            ·
              simp only [Alls, rg, decide_eq_true_eq, decide_eq_false_iff_not, Nat.add_zero, f0, f1, v0, v1, g0, t0, t1, i0, Nat.mul_one]
              repeat' (with_reducible apply And.intro)
              all_goals first | omega | (with_reducible assumption) | (with_reducible exact trivial) | (with_reducible rfl) | exact fun e => z0 (f0.symm.trans e) | exact fun e => z1 (f1.symm.trans e) | exact fun _ => rfl | exact fun h => h | skip
            ·
              exact ⟨rfl, rb_slc rfl hcc, rfl, rb_slc rfl h1c, rfl, rfl, rfl, rb_ptr rfl, rfl, rb_slg rfl rfl, rfl, rfl, trivial⟩
            ·
              exact ⟨dp_row (m := 80) rfl rfl, dp_row (m := 81) rfl rfl, sh2_row (m := 2) rfl rfl (rb_slg rfl rfl), sd_row (m := 0) rfl rfl, ol_row (m := 1) rfl rfl hB.K1.fl, trivial⟩
        by_cases q2 : 32 < p.1.length
        · have eL : stP (ts, ls) p = (ts, ls) := st_same eC (by cases h : okK (goP p) with | false => rfl | true => have := (okK_iff.1 h).2.1; simp only [goP] at this; omega)
          rw [eL] at nx ⊢
          by_cases he : ts = []
          · subst he
            have el : ls = [] := hM.e.1 rfl
            subst el
            refine LRuns.step (code_runsP mpX mpL0 (runZ_ok mpX mpT mpL0 mixed 12) mixed (mp_ngk32 inr n c m1 c1 i ds k1) ?_) rfl (by omega) (by omega) (fun n => n) ?_ ?_ rfl nx
            ·
              simp only [Alls, rg, decide_eq_true_eq, decide_eq_false_iff_not, Nat.add_zero, f0, f1, v0, v1, g0, t0, t1, i0, Nat.mul_one]
              repeat' (with_reducible apply And.intro)
              all_goals first | omega | (with_reducible assumption) | (with_reducible exact trivial) | (with_reducible rfl) | exact fun e => z0 (f0.symm.trans e) | exact fun e => z1 (f1.symm.trans e) | exact fun _ => rfl | exact fun h => h | skip
            ·
              exact ⟨rfl, rb_slc rfl hcc, rfl, rb_slc rfl h1c, rfl, rfl, rfl, rb_ptr rfl, rfl, rfl, rfl, rfl, trivial⟩
            ·
              exact ⟨sh2_row (m := 2) rfl rfl rfl, sd_row (m := 0) rfl rfl, ol_row (m := 1) rfl rfl hB.K1.fl, trivial⟩
          · rw [mpHp_R he, mpLa_R he] at nx ⊢
            refine LRuns.step (code_runsP mpX mpL0 (runZ_ok mpX mpT mpL0 mixed 12) mixed (mp_rgk32 inr n c m1 c1 i ts.length ls.length (cpD ts) (cpD ls) ds k1) ?_) rfl (by omega) (by omega) (fun n => n) ?_ ?_ rfl nx
            ·
              simp only [Alls, rg, decide_eq_true_eq, decide_eq_false_iff_not, Nat.add_zero, f0, f1, v0, v1, g0, t0, t1, i0, Nat.mul_one]
              repeat' (with_reducible apply And.intro)
              all_goals first | omega | (with_reducible assumption) | (with_reducible exact trivial) | (with_reducible rfl) | exact fun e => z0 (f0.symm.trans e) | exact fun e => z1 (f1.symm.trans e) | exact fun _ => rfl | exact fun h => h | skip
            ·
              exact ⟨rfl, rb_slc rfl hcc, rfl, rb_slc rfl h1c, rfl, rfl, rfl, rb_ptr rfl, rfl, rb_slg rfl rfl, rfl, rfl, trivial⟩
            ·
              exact ⟨dp_row (m := 80) rfl rfl, dp_row (m := 81) rfl rfl, sh2_row (m := 2) rfl rfl (rb_slg rfl rfl), sd_row (m := 0) rfl rfl, ol_row (m := 1) rfl rfl hB.K1.fl, trivial⟩
        have hok : okK (goP p) = true := okK_iff.2 ⟨by simp only [goP]; omega, by simp only [goP]; omega, by simp only [goP, List.length_nil]; omega⟩
        by_cases he : ts = []
        · subst he
          have el : ls = [] := hM.e.1 rfl
          subst el
          have eL : stP ([], []) p = ([goP p], [goP p]) := by rw [st_ins eC hok rfl (by simp)]; rfl
          rw [eL] at nx ⊢
          have bs0 : BsOk [] (byV p.1) 0 p.1.length := bs
          refine LRuns.step (code_runsP mpX mpL0 (runZ_ok mpX mpT mpL0 mixed 12) mixed (mp_ngins inr n c m1 c1 i ds k1) ?_) rfl (by omega) (by omega) (fun n => bif Nat.beq n 80 then 114 else 117) ?_ ?_ rfl nx
          ·
            simp only [Alls, rg, decide_eq_true_eq, decide_eq_false_iff_not, Nat.add_zero, f0, f1, v0, v1, g0, t0, t1, i0, Nat.mul_one]
            repeat' (with_reducible apply And.intro)
            all_goals first | omega | (with_reducible assumption) | (with_reducible exact trivial) | (with_reducible rfl) | exact fun e => z0 (f0.symm.trans e) | exact fun e => z1 (f1.symm.trans e) | exact fun _ => rfl | exact fun h => h | skip
          ·
            exact ⟨rfl, rb_slc rfl hcc, rfl, rb_slc rfl h1c, rfl, rfl, rfl, rb_ptr rfl, rfl, rb_slg rfl rfl, rfl, rfl, trivial⟩
          ·
            refine ⟨dp_row (m := 114) rfl (row_eq ?_), dp_row (m := 117) rfl (row_eq ?_), sh2_row (m := 2) rfl rfl (rb_slg rfl rfl), sd_row (m := 0) rfl rfl, ol_row (m := 1) rfl rfl hB.K1.fl, trivial⟩
            all_goals
              simp only [Nat.add_zero, f0, f1, v0, v1, g0, t0, t1, i0, pT, byV_fl]
              rfl
        · rw [mpHp_R he, mpLa_R he] at *
          cases hh : hitP ts p.1 with
          | true =>
            have eL : stP (ts, ls) p = (setP ts (goP p), ls ++ [goP p]) := st_set eC hok hh
            obtain ⟨g1, g2, g3⟩ := atP_hit hh
            rw [eL]
            rw [eL, mpHp_R setP_ne, mpLa_R setP_ne] at nx
            dsimp only at nx ⊢
            rw [setP_len (ts := ts) (q := goP p) hh, List.length_append, List.length_singleton, ← setD_cpD, cpD_snoc] at nx
            refine LRuns.step (code_runsP mpX mpL0 (runZ_ok mpX mpT mpL0 mixed 12) mixed (mp_rgup inr n c m1 c1 i ts.length ls.length (cpD ts) (cpD ls) ds k1) ?_) rfl (by omega) (by omega) (fun n => bif Nat.beq n 80 then 112 else 115) ?_ ?_ rfl nx
            ·
              simp only [Alls, rg, decide_eq_true_eq, decide_eq_false_iff_not, Nat.add_zero, f0, f1, v0, v1, g0, t0, t1, i0, Nat.mul_one, pT, cpl, cpll]
              repeat' (with_reducible apply And.intro)
              all_goals first | omega | (with_reducible assumption) | (with_reducible exact trivial) | (with_reducible rfl) | exact fun e => z0 (f0.symm.trans e) | exact fun e => z1 (f1.symm.trans e) | exact fun _ => rfl | exact fun h => h | skip
            ·
              exact ⟨rfl, rb_slc rfl hcc, rfl, rb_slc rfl h1c, rfl, rfl, rfl, rb_ptr rfl, rfl, rb_slg rfl rfl, rfl, rfl, trivial⟩
            ·
              refine ⟨dp_row (m := 112) rfl (row_eq ?_), dp_row (m := 115) rfl (row_eq ?_), sh2_row (m := 2) rfl rfl (rb_slg rfl rfl), sd_row (m := 0) rfl rfl, ol_row (m := 1) rfl rfl hB.K1.fl, trivial⟩
              all_goals
                simp only [Nat.add_zero, f0, f1, v0, v1, g0, t0, t1, i0, pT, byV_fl]
                rfl
          | false =>
            by_cases hful : 64 ≤ ts.length
            · have eL : stP (ts, ls) p = (ts, ls) := st_full eC hh hful
              rw [eL] at nx ⊢
              rw [mpHp_R he, mpLa_R he] at nx
              refine LRuns.step (code_runsP mpX mpL0 (runZ_ok mpX mpT mpL0 mixed 12) mixed (mp_rgfull inr n c m1 c1 i ts.length ls.length (cpD ts) (cpD ls) ds k1) ?_) rfl (by omega) (by omega) (fun n => n) ?_ ?_ rfl nx
              ·
                simp only [Alls, rg, decide_eq_true_eq, decide_eq_false_iff_not, Nat.add_zero, f0, f1, v0, v1, g0, t0, t1, i0, Nat.mul_one, pT, cpl, cpll]
                repeat' (with_reducible apply And.intro)
                all_goals first | omega | (with_reducible assumption) | (with_reducible exact trivial) | (with_reducible rfl) | exact fun e => z0 (f0.symm.trans e) | exact fun e => z1 (f1.symm.trans e) | exact fun _ => rfl | exact fun h => h | skip
              ·
                exact ⟨rfl, rb_slc rfl hcc, rfl, rb_slc rfl h1c, rfl, rfl, rfl, rb_ptr rfl, rfl, rb_slg rfl rfl, rfl, rfl, trivial⟩
              ·
                exact ⟨dp_row (m := 80) rfl rfl, dp_row (m := 81) rfl rfl, sh2_row (m := 2) rfl rfl (rb_slg rfl rfl), sd_row (m := 0) rfl rfl, ol_row (m := 1) rfl rfl hB.K1.fl, trivial⟩
            · have eL : stP (ts, ls) p = (insP ts (goP p), ls ++ [goP p]) := st_ins eC hok hh hful
              rw [eL]
              rw [eL, mpHp_R insP_ne, mpLa_R insP_ne] at nx
              dsimp only at nx ⊢
              rw [insP_len, List.length_append, List.length_singleton, ← insD_cpD, cpD_snoc] at nx
              refine LRuns.step (code_runsP mpX mpL0 (runZ_ok mpX mpT mpL0 mixed 12) mixed (mp_rgins inr n c m1 c1 i ts.length ls.length (cpD ts) (cpD ls) ds k1) ?_) rfl (by omega) (by omega) (fun n => bif Nat.beq n 80 then 113 else 116) ?_ ?_ rfl nx
              ·
                simp only [Alls, rg, decide_eq_true_eq, decide_eq_false_iff_not, Nat.add_zero, f0, f1, v0, v1, g0, t0, t1, i0, Nat.mul_one, pT, cpl, cpll, byV_fl]
                repeat' (with_reducible apply And.intro)
                all_goals first | omega | (with_reducible assumption) | (with_reducible exact trivial) | (with_reducible rfl) | exact fun e => z0 (f0.symm.trans e) | exact fun e => z1 (f1.symm.trans e) | exact fun _ => rfl | exact fun h => h | skip
                try exact d2
              ·
                exact ⟨rfl, rb_slc rfl hcc, rfl, rb_slc rfl h1c, rfl, rfl, rfl, rb_ptr rfl, rfl, rb_slg rfl rfl, rfl, rfl, trivial⟩
              ·
                refine ⟨dp_row (m := 113) rfl (row_eq ?_), dp_row (m := 116) rfl (row_eq ?_), sh2_row (m := 2) rfl rfl (rb_slg rfl rfl), sd_row (m := 0) rfl rfl, ol_row (m := 1) rfl rfl hB.K1.fl, trivial⟩
                all_goals
                  simp only [Nat.add_zero, f0, f1, v0, v1, g0, t0, t1, i0, pT, byV_fl]
                  rfl
end Go.Proofs.Ytojakfnljopjbaa
