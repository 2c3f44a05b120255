/-
  Chapter 14: Cut: its inner loop.
-/
import Derived.Test.YtmoflcoijmmpjaaCtA
namespace Go.Proofs.Ytmoflcoijmmpjaa
set_option linter.unusedSimpArgs false
set_option linter.unusedVariables false
set_option linter.unusedSectionVars false
open Go Go.RowKit
theorem ctX {L : LFun} {T : TFun} : XOkZ (ctV L T) Try.prog := XOneZ.ok cmpY_ok rfl
theorem ctT {L : LFun} : TOkZ (ctV L noTz) Try.prog := noTz_okV rfl
theorem ctL0 {T : TFun} : LOkZ (ctV noL T) Try.prog := noL_okV rfl
/-- What Cut is at: a part begins at the pair k, and has q pairs. -/
structure CdOk (ds : List DV) (ps : List Pr) (n c k q : Nat) : Prop where
  P : Prs ds ps
  O : ∀ p ∈ ps, PrOk p
  l : ps.length = n
  m : n ≤ 300
  B : ∀ p ∈ ps, p.1.length ≤ 200 ∧ p.2.1.length ≤ 200
  c : c ≤ 9223372036854775807
  kq : k + q ≤ n
def cdB (P : Program) (n c : Nat) (m : Int) (ds : List DV) : Option (Nat × List DV) → Hp
  | none => cdG P n c m ds nlV
  | some (x, os) => (80, ⟨.dp 1 zSl os, []⟩) :: cdG P n c m ds (ouV x)
def ctT1 (m : Int) : List Value := [.int .i64 m, undef, undef, .slice none 0 0, .int .i64 0, .pointer (some ⟨2, 0, none⟩), undef, undef, undef, undef, .int .i64 m, .bool false, .bool false, .int .i64 m, .bool false, .bool false]
def ctT2 (m : Int) : List Value := [.int .i64 m, .func (.func 44) ⟨[]⟩ ⟨[.pointer (some ⟨3, 0, none⟩), .pointer (some ⟨4, 0, none⟩)]⟩, undef, undef, undef, undef, undef, undef, undef, undef, undef, undef, undef, undef, undef, undef, undef, undef, undef, undef]
theorem ctTm_eq (n c : Nat) (m : Int) : ctTm n c m = .slice (some ⟨0, 0, none⟩) n c :: (ctT1 m ++ (.slice (some ⟨0, 0, none⟩) n c :: ctT2 m)) := rfl
theorem ctTm_ren {f : Sg} {n c : Nat} {m : Int} (hs : renV f (.slice (some ⟨0, 0, none⟩) n c) = some (.slice (some ⟨0, 0, none⟩) n c)) (h1 : renL f (ctT1 m) = some (ctT1 m)) (h2 : renL f (ctT2 m) = some (ctT2 m)) : renL f (ctTm n c m) = some (ctTm n c m) := by
  rw [ctTm_eq]
  exact renL_mk hs (renL_app h1 (renL_mk hs h2))
theorem row_eq {Y X : List DV} (h : Y = X) : some (Rw.mk (.dp 3 zPr Y) []) = some (Rw.mk (.dp 3 zPr X) []) := by rw [h]
theorem cd_more {inr : Bool} {h0 : Hp} {ds : List DV} {ps : List Pr} {n c k q : Nat} {m : Int} (hB : CdOk ds ps n c k q) (bo : Option (Nat × List DV)) : ∀ (r j : Nat), j + r = q →
    LRuns inr Try.prog (bodyIn Try.prog 24 8) 81 200 h0 38 (cdS (k * 3) q j (xxV j)) ((120, ⟨.dp 3 zPr (cpD ((ps.drop k).take j)), []⟩) :: cdB Try.prog n c m ds bo) 121
      (.exit 2, [(6, .pointer (some ⟨2, 0, none⟩)), (8, xxV q)], (120, ⟨.dp 3 zPr (cpD ((ps.drop k).take q)), []⟩) :: cdB Try.prog n c m ds bo)
  | 0, j, hr => by
      obtain rfl : j = q := by omega
      have hcc : c < capBig := by have := hB.c; unfold capBig; omega
      cases bo with
      | none =>
        refine LRuns.exit (code_runsP ctX ctL0 (runZ_ok ctX ctT ctL0 mixed 12) mixed (cd_ne inr n c (k * 3) j j m (cpD ((ps.drop k).take j)) ds) ?_) (by intro e; cases e) rfl (by omega) (by omega) (fun n => n) ?_ ?_ rfl
        · simp only [Alls, decide_eq_false_iff_not]
          exact ⟨by omega, trivial⟩
        · exact ⟨rfl, rb_ptr rfl, rfl, rb_slg rfl rfl, trivial⟩
        ·
          exact ⟨dp_row (m := 120) rfl rfl, rb_rec (m := 6) rfl rfl (ctTm_ren (rb_slc rfl hcc) rfl rfl), rb_rec (m := 5) rfl rfl trivial, sh1_row (m := 4) rfl rfl rfl, sh1_row (m := 3) rfl rfl (rb_slc rfl hcc), sh1_row (m := 2) rfl rfl rfl, sd_row (m := 0) rfl rfl, trivial⟩
      | some b =>
        obtain ⟨x, os⟩ := b
        refine LRuns.exit (code_runsP ctX ctL0 (runZ_ok ctX ctT ctL0 mixed 12) mixed (cd_re inr n c (k * 3) j j x m (cpD ((ps.drop k).take j)) ds os) ?_) (by intro e; cases e) rfl (by omega) (by omega) (fun n => n) ?_ ?_ rfl
        · simp only [Alls, decide_eq_false_iff_not]
          exact ⟨by omega, trivial⟩
        · exact ⟨rfl, rb_ptr rfl, rfl, rb_slg rfl rfl, trivial⟩
        ·
          exact ⟨dp_row (m := 120) rfl rfl, dp_row (m := 80) rfl rfl, rb_rec (m := 6) rfl rfl (ctTm_ren (rb_slc rfl hcc) rfl rfl), rb_rec (m := 5) rfl rfl trivial, sh1_row (m := 4) rfl rfl rfl, sh1_row (m := 3) rfl rfl (rb_slc rfl hcc), sh1_row (m := 2) rfl rfl (rb_slg rfl rfl), sd_row (m := 0) rfl rfl, trivial⟩
  | r + 1, j, hr => by
      have hcc : c < capBig := by have := hB.c; unfold capBig; omega
      have hqc : q < capBig := by have := hB.kq; have := hB.m; unfold capBig; omega
      have nx := cd_more (inr := inr) (h0 := h0) (m := m) hB bo r (j + 1) (by omega)
      have hi : k + j < ps.length := by rw [hB.l]; have := hB.kq; omega
      have F := hB.P.facts (List.getElem?_eq_getElem hi)
      obtain ⟨p, hp⟩ : ∃ p, ps[k + j] = p := ⟨_, rfl⟩
      have hmem : p ∈ ps := by rw [← hp]; exact List.getElem_mem hi
      rw [hp] at F
      obtain ⟨u1, u2⟩ := hB.B p hmem
      have hm := hB.m
      have hkq := hB.kq
      have ex : ixO (k * 3) j 3 = (k + j) * 3 := by rw [ixO_eq]; omega
      have f0 := F.l0
      have f1 := F.l1
      have v0 := F.v0
      have v1 := F.v1
      have gb := F.g
      have o1 := F.o29 121
      have hl0 := byV_len p.1
      have hl1 := byV_len p.2.1
      have t0 : List.take p.1.length (byV p.1) = byV p.1 := List.take_of_length_le (by omega)
      have t1 : List.take p.2.1.length (byV p.2.1) = byV p.2.1 := List.take_of_length_le (by omega)
      have r0 := byV_ren p.1
      have r1 := byV_ren p.2.1
      have a0 : all1 (byV p.1) = true := all1_map p.1
      have a1 : all1 (byV p.2.1) = true := all1_map p.2.1
      have z0 : p.1.length = 0 → byV p.1 = [] := fun e => List.eq_nil_of_length_eq_zero (by omega)
      have z1 : p.2.1.length = 0 → byV p.2.1 = [] := fun e => List.eq_nil_of_length_eq_zero (by omega)
      have eN : cpD ((ps.drop k).take (j + 1)) = cpD ((ps.drop k).take j) ++ prD none none p := by
        have : (ps.drop k).take (j + 1) = (ps.drop k).take j ++ [p] := by
          rw [List.take_add_one, List.getElem?_drop, List.getElem?_eq_getElem hi, hp]; rfl
        rw [this, cpD_snoc]
      have cl : (cpD ((ps.drop k).take j)).length = j * 3 := by rw [cpD_len, List.length_take, List.length_drop]; omega
      rw [eN] at nx
      cases bo with
      | none =>
        refine LRuns.step (code_runsP ctX ctL0 (runZ_ok ctX ctT ctL0 mixed 12) mixed (cd_nm inr n c (k * 3) q j m (cpD ((ps.drop k).take j)) ds) ?_) rfl (by omega) (by omega) (fun _ => 132) ?_ ?_ rfl nx
        ·
          simp only [Alls, rg, decide_eq_true_eq, decide_eq_false_iff_not, Nat.add_zero, ex, f0, f1, v0, v1, t0, t1, Nat.mul_one]
          repeat' (with_reducible apply And.intro)
          all_goals first | omega | (with_reducible assumption) | (with_reducible exact trivial) | (with_reducible rfl) | exact fun e => z0 (f0.symm.trans (ex ▸ e)) | exact fun e => z1 (f1.symm.trans (ex ▸ e)) | skip
        · exact ⟨rfl, rb_ptr rfl, rfl, rb_slg rfl rfl, rfl, rb_slc rfl hqc, rfl, rfl, rfl, rfl, trivial⟩
        · refine ⟨dp_row (m := 132) rfl (row_eq ?_), rb_rec (m := 6) rfl rfl (ctTm_ren (rb_slc rfl hcc) rfl rfl), rb_rec (m := 5) rfl rfl trivial, sh1_row (m := 4) rfl rfl rfl, sh1_row (m := 3) rfl rfl (rb_slc rfl hcc), sh1_row (m := 2) rfl rfl rfl, sd_row (m := 0) rfl rfl, trivial⟩
          simp only [Nat.add_zero, ex, f0, f1, v0, v1, t0, t1, gb, byV_fl]
          rfl
      | some b =>
        obtain ⟨x, os⟩ := b
        refine LRuns.step (code_runsP ctX ctL0 (runZ_ok ctX ctT ctL0 mixed 12) mixed (cd_rm inr n c (k * 3) q j x m (cpD ((ps.drop k).take j)) ds os) ?_) rfl (by omega) (by omega) (fun _ => 132) ?_ ?_ rfl nx
        ·
          simp only [Alls, rg, decide_eq_true_eq, decide_eq_false_iff_not, Nat.add_zero, ex, f0, f1, v0, v1, t0, t1, Nat.mul_one]
          repeat' (with_reducible apply And.intro)
          all_goals first | omega | (with_reducible assumption) | (with_reducible exact trivial) | (with_reducible rfl) | exact fun e => z0 (f0.symm.trans (ex ▸ e)) | exact fun e => z1 (f1.symm.trans (ex ▸ e)) | skip
        · exact ⟨rfl, rb_ptr rfl, rfl, rb_slg rfl rfl, rfl, rb_slc rfl hqc, rfl, rfl, rfl, rfl, trivial⟩
        · refine ⟨dp_row (m := 132) rfl (row_eq ?_), dp_row (m := 80) rfl rfl, rb_rec (m := 6) rfl rfl (ctTm_ren (rb_slc rfl hcc) rfl rfl), rb_rec (m := 5) rfl rfl trivial, sh1_row (m := 4) rfl rfl rfl, sh1_row (m := 3) rfl rfl (rb_slc rfl hcc), sh1_row (m := 2) rfl rfl (rb_slg rfl rfl), sd_row (m := 0) rfl rfl, trivial⟩
          simp only [Nat.add_zero, ex, f0, f1, v0, v1, t0, t1, gb, byV_fl]
          rfl
/-- What the inner loop begins with. -/
structure CdSt (ds : List DV) (n c o q : Nat) : Prop where
  B : CdOk ds (prsOf ds) n c (o / 3) q
  o : o / 3 * 3 = o
  q : 0 < q
structure CdA where
  n : Nat
  c : Nat
  o : Nat
  q : Nat
  m : Int
  ds : List DV
  bo : Option (Nat × List DV)
def cdPk (live : List (Nat × Value)) (h : Hp) : Option CdA := match live, lk h 0, lk h 3 with
  | _ :: _ :: (_, .slice (some ⟨_, o, _⟩) q _) :: _, some ⟨.sd ds, _⟩, some ⟨_, [.slice _ n c]⟩ => (match lk h 4, lk h 2 with
    | some ⟨_, [.int _ m]⟩, some ⟨_, [.slice none _ _]⟩ => some ⟨n, c, o, q, m, ds, none⟩
    | some ⟨_, [.int _ m]⟩, some ⟨_, [.slice (some _) x _]⟩ => (match lk h 80 with
      | some ⟨.dp _ _ os, _⟩ => some ⟨n, c, o, q, m, ds, some (x, os)⟩
      | _ => none)
    | _, _ => none)
  | _, _, _ => none
def cdX (ds : List DV) (o q : Nat) : List DV := cpD (((prsOf ds).drop (o / 3)).take q)
def cdSp (P : Program) : LSpec := lspec cdPk (fun a => (cdS a.o a.q 0 nlV, cdB P a.n a.c a.m a.ds a.bo, 81)) (fun a tp => some ((.exit 2, [(6, .pointer (some ⟨2, 0, none⟩)), (8, xxV a.q)], (120, ⟨.dp 3 zPr (cdX a.ds a.o a.q), []⟩) :: cdB P a.n a.c a.m a.ds a.bo, 200, []), tp, [CdSt a.ds a.n a.c a.o a.q]))
def cdLo (P : Program) : LFun := mkL 24 8 38 [6, 8, 21, 22, 23] (bodyIn P 24 8) (cdSp P)
theorem cd_first {inr : Bool} {h0 : Hp} {ds : List DV} {ps : List Pr} {n c k q : Nat} {m : Int} (hB : CdOk ds ps n c k q) (hq : 0 < q) (bo : Option (Nat × List DV)) :
    LRuns inr Try.prog (bodyIn Try.prog 24 8) 81 200 h0 38 (cdS (k * 3) q 0 nlV) (cdB Try.prog n c m ds bo) 121
      (.exit 2, [(6, .pointer (some ⟨2, 0, none⟩)), (8, xxV q)], (120, ⟨.dp 3 zPr (cpD ((ps.drop k).take q)), []⟩) :: cdB Try.prog n c m ds bo) := by
  have hcc : c < capBig := by have := hB.c; unfold capBig; omega
  have hqc : q < capBig := by have := hB.kq; have := hB.m; unfold capBig; omega
  obtain ⟨j, hj⟩ : ∃ j, j = 0 := ⟨0, rfl⟩
  have nx := cd_more (inr := inr) (h0 := h0) (m := m) hB bo (q - 1) 1 (by omega)
  have e1 : cpD ((ps.drop k).take 1) = cpD ((ps.drop k).take (j + 1)) := by rw [hj]
  have hi : k + j < ps.length := by rw [hB.l]; have := hB.kq; omega
  have F := hB.P.facts (List.getElem?_eq_getElem hi)
  obtain ⟨p, hp⟩ : ∃ p, ps[k + j] = p := ⟨_, rfl⟩
  have hmem : p ∈ ps := by rw [← hp]; exact List.getElem_mem hi
  rw [hp] at F
  obtain ⟨u1, u2⟩ := hB.B p hmem
  have hm := hB.m
  have hkq := hB.kq
  have ex : ixO (k * 3) j 3 = (k + j) * 3 := by rw [ixO_eq]; omega
  have f0 := F.l0
  have f1 := F.l1
  have v0 := F.v0
  have v1 := F.v1
  have gb := F.g
  have o1 := F.o29 121
  have hl0 := byV_len p.1
  have hl1 := byV_len p.2.1
  have t0 : List.take p.1.length (byV p.1) = byV p.1 := List.take_of_length_le (by omega)
  have t1 : List.take p.2.1.length (byV p.2.1) = byV p.2.1 := List.take_of_length_le (by omega)
  have r0 := byV_ren p.1
  have r1 := byV_ren p.2.1
  have a0 : all1 (byV p.1) = true := all1_map p.1
  have a1 : all1 (byV p.2.1) = true := all1_map p.2.1
  have z0 : p.1.length = 0 → byV p.1 = [] := fun e => List.eq_nil_of_length_eq_zero (by omega)
  have z1 : p.2.1.length = 0 → byV p.2.1 = [] := fun e => List.eq_nil_of_length_eq_zero (by omega)
  have eN : cpD ((ps.drop k).take (j + 1)) = cpD ((ps.drop k).take j) ++ prD none none p := by
    have : (ps.drop k).take (j + 1) = (ps.drop k).take j ++ [p] := by
      rw [List.take_add_one, List.getElem?_drop, List.getElem?_eq_getElem hi, hp]; rfl
    rw [this, cpD_snoc]
  have cl : (cpD ((ps.drop k).take j)).length = j * 3 := by rw [cpD_len, List.length_take, List.length_drop]; omega
  have e0 : cpD ((ps.drop k).take j) = [] := by rw [hj]; rfl
  rw [e1, eN, e0, List.nil_append] at nx
  have ej : cdS (k * 3) q 0 nlV = cdS (k * 3) q j nlV := by rw [hj]
  have e2 : cdS (k * 3) q 1 (xxV 1) = cdS (k * 3) q (j + 1) (xxV 1) := by rw [hj]
  rw [ej]
  rw [e2] at nx
  cases bo with
  | none =>
    refine LRuns.step (code_runsP ctX ctL0 (runZ_ok ctX ctT ctL0 mixed 12) mixed (cd_nf inr n c (k * 3) q j m ds) ?_) rfl (by omega) (by omega) (fun _ => 132) ?_ ?_ rfl nx
    ·
      simp only [Alls, rg, decide_eq_true_eq, decide_eq_false_iff_not, Nat.add_zero, ex, f0, f1, v0, v1, t0, t1, Nat.mul_one]
      repeat' (with_reducible apply And.intro)
      all_goals first | omega | (with_reducible assumption) | (with_reducible exact trivial) | (with_reducible rfl) | exact fun e => z0 (f0.symm.trans (ex ▸ e)) | exact fun e => z1 (f1.symm.trans (ex ▸ e)) | skip
    · exact ⟨rfl, rb_ptr rfl, rfl, rb_slg rfl rfl, rfl, rb_slc rfl hqc, rfl, rfl, rfl, rfl, trivial⟩
    · refine ⟨dp_row (m := 132) rfl (row_eq ?_), rb_rec (m := 6) rfl rfl (ctTm_ren (rb_slc rfl hcc) rfl rfl), rb_rec (m := 5) rfl rfl trivial, sh1_row (m := 4) rfl rfl rfl, sh1_row (m := 3) rfl rfl (rb_slc rfl hcc), sh1_row (m := 2) rfl rfl rfl, sd_row (m := 0) rfl rfl, trivial⟩
      simp only [Nat.add_zero, ex, f0, f1, v0, v1, t0, t1, gb, byV_fl]
      rfl
  | some b =>
    obtain ⟨x, os⟩ := b
    refine LRuns.step (code_runsP ctX ctL0 (runZ_ok ctX ctT ctL0 mixed 12) mixed (cd_rf inr n c (k * 3) q j x m ds os) ?_) rfl (by omega) (by omega) (fun _ => 132) ?_ ?_ rfl nx
    ·
      simp only [Alls, rg, decide_eq_true_eq, decide_eq_false_iff_not, Nat.add_zero, ex, f0, f1, v0, v1, t0, t1, Nat.mul_one]
      repeat' (with_reducible apply And.intro)
      all_goals first | omega | (with_reducible assumption) | (with_reducible exact trivial) | (with_reducible rfl) | exact fun e => z0 (f0.symm.trans (ex ▸ e)) | exact fun e => z1 (f1.symm.trans (ex ▸ e)) | skip
    · exact ⟨rfl, rb_ptr rfl, rfl, rb_slg rfl rfl, rfl, rb_slc rfl hqc, rfl, rfl, rfl, rfl, trivial⟩
    · refine ⟨dp_row (m := 132) rfl (row_eq ?_), dp_row (m := 80) rfl rfl, rb_rec (m := 6) rfl rfl (ctTm_ren (rb_slc rfl hcc) rfl rfl), rb_rec (m := 5) rfl rfl trivial, sh1_row (m := 4) rfl rfl rfl, sh1_row (m := 3) rfl rfl (rb_slc rfl hcc), sh1_row (m := 2) rfl rfl (rb_slg rfl rfl), sd_row (m := 0) rfl rfl, trivial⟩
      simp only [Nat.add_zero, ex, f0, f1, v0, v1, t0, t1, gb, byV_fl]
      rfl
theorem cdSp_ok : LSOk Try.prog 38 [6, 8, 21, 22, 23] (bodyIn Try.prog 24 8) (cdSp Try.prog) := by
  refine lspec_ok fun a tp xt l2 h2 nx2 d tp' ob hs ho inr ts hn hg => ?_
  obtain ⟨n, c, o, q, m, ds, bo⟩ := a
  simp only [Option.some.injEq, Prod.mk.injEq] at hs
  obtain ⟨⟨rfl, rfl, rfl, rfl, rfl⟩, rfl, rfl⟩ := hs
  obtain ⟨⟨hB, e, hq⟩, _⟩ := ho
  (try simp only at hB e hq hg)
  have hcc : c < capBig := by have := hB.c; unfold capBig; omega
  have hqc : q < capBig := by have := hB.kq; have := hB.m; unfold capBig; omega
  have key := cd_first (inr := inr) (h0 := cdB Try.prog n c m ds bo) (m := m) hB hq bo
  rw [e] at key
  refine LRuns.enter (N := 121) (l2 := cdS o q 0 nlV) (h2 := cdB Try.prog n c m ds bo) hn hg (by decide) (by omega) (fun n => n) ?_ ?_ ?_ key ?_
  · exact ⟨rfl, rb_ptr rfl, rfl, rfl, rfl, rb_slc rfl hqc, rfl, rfl, rfl, rfl, trivial⟩
  · cases bo with
    | none =>
      exact ⟨rb_rec (m := 6) rfl rfl (ctTm_ren (rb_slc rfl hcc) rfl rfl), rb_rec (m := 5) rfl rfl trivial, sh1_row (m := 4) rfl rfl rfl, sh1_row (m := 3) rfl rfl (rb_slc rfl hcc), sh1_row (m := 2) rfl rfl rfl, sd_row (m := 0) rfl rfl, trivial⟩
    | some b =>
      obtain ⟨x, os⟩ := b
      exact ⟨dp_row (m := 80) rfl rfl, rb_rec (m := 6) rfl rfl (ctTm_ren (rb_slc rfl hcc) rfl rfl), rb_rec (m := 5) rfl rfl trivial, sh1_row (m := 4) rfl rfl rfl, sh1_row (m := 3) rfl rfl (rb_slc rfl hcc), sh1_row (m := 2) rfl rfl (rb_slg rfl rfl), sd_row (m := 0) rfl rfl, trivial⟩
  · cases bo with
    | none => rfl
    | some b => rfl
  · refine tidy_of (by decide) (fun m hm hd => ?_) (by cases bo <;> rfl)
    have hm2 : m < 81 := hm
    show lk ((120, _) :: _) m = _
    rw [lk_cons, if_neg (by omega)]
theorem cdLo_one : LOne Try.prog (cdLo Try.prog) := mkL_ok cdSp_ok
end Go.Proofs.Ytmoflcoijmmpjaa
