/-
  Chapter 14: merge.Merge: the law of its main loop.
-/
import Derived.Test.YtmoflcoijmmpjaaGrAV
namespace Go.Proofs.Ytmoflcoijmmpjaa
set_option linter.unusedSimpArgs false
set_option linter.unusedVariables false
set_option linter.unusedSectionVars false
open Go Go.RowKit
def ouV (out : List Pr) : Value := match out with | [] => nlV | _ => ouA out.length
def moR (out : List Pr) (t : Hp) : Hp := match out with | [] => t | _ => (200, ⟨.dx 1 3 zPr (cpD out), []⟩) :: t
theorem ouV_ne {out : List Pr} (h : out ≠ []) : ouV out = ouA out.length := by cases out with | nil => exact absurd rfl h | cons x l => rfl
theorem moR_ne {out : List Pr} (h : out ≠ []) (t : Hp) : moR out t = (200, ⟨.dx 1 3 zPr (cpD out), []⟩) :: t := by cases out with | nil => exact absurd rfl h | cons x l => rfl
def mLs (ds : List DV) (sm : Bool) (last : List Int) : Hp := bif sm then [(202, ⟨.ow, byV last⟩), (0, ⟨.sw ds, []⟩)] else [(0, ⟨.sw ds, []⟩)]
def mSl (dr : Bool) (s : MSt) : List (Nat × Value) := [(1, .bool dr), (9, heA s.n), (13, ouV s.out), (14, bif s.sm then ltA s.last.length else nlV), (15, .bool s.sm)]
def mHp (ds : List DV) (s : MSt) : Hp := (60, ⟨.dw 2 zHd (hdD s.H), []⟩) :: moR s.out (mLs ds s.sm s.last)
structure PrSz (p : Pr) : Prop where
 k : p.1.length ≤ 9000000
 v : p.2.1.length ≤ 9000000
structure WM (s : MSt) : Prop where
 hl : s.n ≤ s.H.length
 n9 : s.n ≤ 100
 O : ∀ j, j < s.n → HdOk (gH s.H j)
 Z : ∀ j, j < s.n → ∀ p ∈ (gH s.H j).1, PrSz p
 L : ∀ x ∈ s.last, 0 ≤ x ∧ x < 256
 b : s.out.length + lfM s.n s.H ≤ 9000000000
theorem df_row {lo N : Nat} {ρ : Nat → Nat} {h0 h1 : Hp} {n m sz : Nat} {z : List Value} {ds : List DV} (hn : fnN lo N ρ n = some m) (hl : lk h1 m = some ⟨.dx 1 sz z ds, []⟩) : RbRow lo N ρ h0 h1 n ⟨.dx 1 sz z ds, []⟩ := rb_rec hn hl rfl
theorem df_eq {Y X : List DV} (h : Y = X) : some (Rw.mk (.dx 1 3 zPr Y) []) = some (Rw.mk (.dx 1 3 zPr X) []) := by rw [h]
theorem ow_eq {Y X : List Value} (h : Y = X) : some (Rw.mk .ow Y) = some (Rw.mk .ow X) := by rw [h]
theorem hd_cons {H : List Hd} {m : Nat} (hl : m ≤ H.length) (hm : 0 < m) : ∃ T, H = gH H 0 :: T := by
 cases H with
 | nil => simp at hl; omega
 | cons x T => exact ⟨T, rfl⟩
theorem setD_one (x : Hd) (T : List Hd) (l : List Pr) : setD (hdD (x :: T)) 0 [.sl l.length none (cpD l)] = hdD ((l, x.2) :: T) := by simp [setD, hdD_cons]
theorem hd0_at (x : Hd) (T : List Hd) : LlAt (hdD (x :: T)) 0 x.1 := dsl_at rfl
theorem popE {p : Pr} {a0 : Nat} {T : List Hd} {m : Nat} : popH ((p :: [], a0) :: T) m = ((([], a0) :: T).set 0 (gH (([], a0) :: T) (m - 1)), m - 1) := rfl
theorem popM {p : Pr} {x : Pr} {r : List Pr} {a0 : Nat} {T : List Hd} {m : Nat} : popH ((p :: x :: r, a0) :: T) m = ((x :: r, a0) :: T, m) := rfl
theorem WM.ok {s : MSt} (W : WM s) (hn : 0 < s.n) : ∀ j, j < (popH s.H s.n).2 → HdOk (gH (popH s.H s.n).1 j) ∧ ∀ p ∈ (gH (popH s.H s.n).1 j).1, PrSz p := fun j hj => by
 have P := pop_is W.hl hn
 rcases P.m j hj with ⟨k, k1, k2, e⟩ | ⟨e, h⟩
 ·rw [e]; exact ⟨W.O k k2, W.Z k k2⟩
 ·rw [e]
  have h0 := W.O 0 hn
  have z0 := W.Z 0 hn
  refine ⟨⟨h, fun p hp => h0.O p (List.mem_of_mem_drop hp), ?_, h0.a⟩, fun p hp => z0 p (List.mem_of_mem_drop hp)⟩
  have := h0.l
  simp only [List.length_drop]
  omega
theorem pop_le {s : MSt} (W : WM s) (hn : 0 < s.n) : (popH s.H s.n).2 ≤ s.n := by
 by_cases h : (gH s.H 0).1.drop 1 = []
 ·rw [(pop_empty h W.hl hn).1]; omega
 ·rw [(pop_more h W.hl hn).1]; exact Nat.le_refl _
theorem WM.st {s : MSt} {dr : Bool} (W : WM s) (hn : 0 < s.n) : WM (stM dr s) := by
 have h1 := lf_st (drop := dr) W.hl hn (W.O 0 hn).ne
 have P := (pop_is W.hl hn).l
 have hle := pop_le W hn
 have hok := W.ok hn
 have hp : ∀ x ∈ (fstP s.H).1, 0 ≤ x ∧ x < 256 := by
  obtain ⟨p, r, e⟩ := List.exists_cons_of_ne_nil (W.O 0 hn).ne
  have : fstP s.H = p := by unfold fstP; rw [e]; rfl
  rw [this]
  exact ((W.O 0 hn).O p (by rw [e]; exact List.mem_cons_self ..)).1
 have hb := W.b
 have n9 := W.n9
 have hol : (stM dr s).out.length ≤ s.out.length + 1 := by
  unfold stM
  obtain ⟨H1, n1, e⟩ : ∃ H1 n1, popH s.H s.n = (H1, n1) := ⟨_, _, rfl⟩
  rw [e]
  simp only
  cases newK s && (!dr || !(fstP s.H).2.2) with
  | true => simp
  | false => simp
 have hst : (stM dr s).n = (popH s.H s.n).2 ∧ (stM dr s).H = dnH (popH s.H s.n).2 (popH s.H s.n).1 (popH s.H s.n).2 0 ∧ (stM dr s).last = (fstP s.H).1 := ⟨rfl, rfl, rfl⟩
 have S := dn_same (n := (popH s.H s.n).2) (popH s.H s.n).2 (popH s.H s.n).1 0 P
 have hok2 : ∀ j, j < (stM dr s).n → HdOk (gH (stM dr s).H j) ∧ ∀ p ∈ (gH (stM dr s).H j).1, PrSz p := fun j hj => by
  rw [hst.1] at hj
  rw [hst.2.1]
  obtain ⟨k, h1, h2⟩ := S.m _ ⟨j, hj, rfl⟩
  rw [← h2]
  exact hok k h1
 refine ⟨?_, ?_, fun j hj => (hok2 j hj).1, fun j hj => (hok2 j hj).2, ?_, by omega⟩
 ·rw [hst.1, hst.2.1, S.l]; exact P
 ·rw [hst.1]; omega
 ·rw [hst.2.2]; exact hp
structure Fp (H : List Hd) (T : List Hd) (p : Pr) (rest : List Pr) (a0 : Nat) : Prop where
 e : H = (p :: rest, a0) :: T
 n0 : dLen (hdD H) 0 = (p :: rest).length
 s0 : dSub (hdD H) 0 = cpD (p :: rest)
 o27 : ∀ nx, ShOb Try.prog 27 true true (hdD H) 0 nx
 k0 : dLen (cpD (p :: rest)) 0 = p.1.length
 k1 : dLen (cpD (p :: rest)) 1 = p.2.1.length
 v0 : dVals (cpD (p :: rest)) 0 = byV p.1
 v1 : dVals (cpD (p :: rest)) 1 = byV p.2.1
 g : dBool (cpD (p :: rest)) 2 = p.2.2
 o29 : ∀ nx, ShOb Try.prog 32 false true (cpD (p :: rest)) 0 nx
 b0 : ∀ x ∈ p.1, 0 ≤ x ∧ x < 256
 b1 : ∀ x ∈ p.2.1, 0 ≤ x ∧ x < 256
 z0 : p.1.length ≤ 9000000
 z1 : p.2.1.length ≤ 9000000
 l9 : (p :: rest).length ≤ 9000000
theorem WM.fp {s : MSt} (W : WM s) (hn : 0 < s.n) : ∃ T p rest a0, Fp s.H T p rest a0 := by
 obtain ⟨T, hT⟩ := hd_cons W.hl hn
 obtain ⟨p, rest, e⟩ := List.exists_cons_of_ne_nil (W.O 0 hn).ne
 obtain ⟨a0, ha⟩ : ∃ a0, (gH s.H 0).2 = a0 := ⟨_, rfl⟩
 have hg : gH s.H 0 = (p :: rest, a0) := Prod.ext e ha
 have hO := W.O 0 hn
 have hZ := W.Z 0 hn
 rw [hg] at hT hO hZ
 refine ⟨T, p, rest, a0, ?_⟩
 rw [hT]
 have A := hd0_at (p :: rest, a0) T
 have F := (cpD_prs (p :: rest)).facts (i := 0) (p := p) rfl
 have f1 := F.l0
 have f2 := F.l1
 have f3 := F.v0
 have f4 := F.v1
 have f5 := F.g
 have f6 := F.o29
 rw [Nat.zero_mul] at f1 f3 f6
 rw [Nat.zero_mul, Nat.zero_add] at f2 f4 f5
 have hp := hO.O p (List.mem_cons_self ..)
 have hz := hZ p (List.mem_cons_self ..)
 exact ⟨rfl, A.n, A.s, A.o, f1, f2, f3, f4, f5, f6, hp.1, hp.2, hz.k, hz.v, hO.l⟩
structure HdY (ds : List DV) (c : Nat) (x : Hd) : Prop where
 n : dLen ds (c * 2) = x.1.length
 s : dSub ds (c * 2) = cpD x.1
 a : dInt ds (c * 2 + 1) = (x.2 : Int)
 o : ∀ nx, ShOb Try.prog 56 true true ds (c * 2) nx
theorem hdY_of {ds : List DV} {c : Nat} {x : Hd} (g1 : ds[c * 2]? = some (.sl x.1.length none (cpD x.1))) (g2 : ds[c * 2 + 1]? = some (.fl (.int .i64 (x.2 : Int)))) : HdY ds c x := by
 have e1 : dLen ds (c * 2) = x.1.length := by unfold dLen; rw [g1]
 have e2 : dSub ds (c * 2) = cpD x.1 := by unfold dSub; rw [g1]
 have e3 : dInt ds (c * 2 + 1) = (x.2 : Int) := by unfold dInt; rw [g2]
 refine ⟨e1, e2, e3, fun nx => ?_⟩
 rw [obHd]
 simp only [Nat.add_zero]
 exact ⟨⟨none, by rw [e1, e2]; exact g1, .inl rfl⟩, by rw [e3]; exact g2, trivial⟩
theorem byV_eq (l : List Int) : byV l = List.map (Value.int .u8) l := rfl
theorem tk_by (l : List Int) : List.take l.length (byV l) = byV l := List.take_of_length_le (by rw [byV_len]; exact Nat.le_refl _)
theorem a1_by (l : List Int) : all1 (byV l) = true := all1_map l
theorem nil_by {l : List Int} (h : l.length = 0) : byV l = [] := by rw [List.eq_nil_of_length_eq_zero h]; rfl
set_option maxHeartbeats 4000000 in
theorem mh_main {inr : Bool} {h0 : Hp} {ds : List DV} {dr : Bool} : ∀ (f : Nat) (s : MSt), WM s → lfM s.n s.H ≤ f → (s.sm = false → 0 < s.n ∧ s.out = []) →
  LRuns inr Try.prog (bodyIn Try.prog 12 25) 120 400 h0 128 (mSl dr s) (mHp ds s) 300 (.exit 6, [(13, ouV (runM dr f s).out)], moR (runM dr f s).out [(0, ⟨.sw ds, []⟩)])
 | f, s, W, hf, hA => by
   by_cases hn : s.n = 0
   ·-- all is gone
    have er : runM dr f s = s := by
     cases f with
     | zero => rfl
     | succ f => simp only [runM, hn, decide_true, cond_true]
    rw [er]
    obtain ⟨H, m, sm, last, out⟩ := s
    simp only at hn
    subst hn
    cases sm with
    | false => exact absurd (hA rfl).1 (by simp)
    | true =>
     cases out with
     | nil =>
      refine LRuns.exit (code_runsP mhX mhL0 (runZ_ok mhX mhTt mhL0 mixed 12) mixed (mh_e_Bx inr 0 last.length 0 dr ds (hdD H) [] (byV last)) ?_) (by intro e; cases e) rfl (by omega) (by omega) (fun n => n) ?_ ?_ rfl
      ·simp only [Alls, decide_eq_false_iff_not]
       exact ⟨by omega, trivial⟩
      ·exact ⟨rfl, rfl, trivial⟩
      ·exact ⟨sw_row (m := 0) rfl rfl, trivial⟩
     | cons x t =>
      refine LRuns.exit (code_runsP mhX mhL0 (runZ_ok mhX mhTt mhL0 mixed 12) mixed (mh_e_Cx inr 0 last.length (x :: t).length dr ds (hdD H) (cpD (x :: t)) (byV last)) ?_) (by intro e; cases e) rfl (by omega) (by omega) (fun n => n) ?_ ?_ rfl
      ·simp only [Alls, decide_eq_false_iff_not]
       exact ⟨by omega, trivial⟩
      ·exact ⟨rfl, rb_slg rfl rfl, trivial⟩
      ·exact ⟨df_row (m := 200) rfl rfl, sw_row (m := 0) rfl rfl, trivial⟩
   have hn0 : 0 < s.n := by omega
   have hlf := lf_st (drop := dr) W.hl hn0 (W.O 0 hn0).ne
   obtain ⟨f, rfl⟩ : ∃ g, f = g + 1 := ⟨f - 1, by omega⟩
   have er : runM dr (f + 1) s = runM dr f (stM dr s) := by simp only [runM, hn, decide_false, cond_false]
   rw [er]
   have nx := mh_main (inr := inr) (h0 := h0) (ds := ds) (dr := dr) f (stM dr s) (W.st hn0) (by omega) (fun e => by cases e)
   obtain ⟨ro, hro⟩ : ∃ ro, (runM dr f (stM dr s)).out = ro := ⟨_, rfl⟩
   rw [hro] at nx ⊢
   have hok := W.ok hn0
   have hPl := (pop_is W.hl hn0).l
   have hple := pop_le W hn0
   have n9 := W.n9
   have hb := W.b
   have hl := W.hl
   have hLs := W.L
   obtain ⟨T, p, rest, a0, F⟩ := W.fp hn0
   obtain ⟨H, m, sm, last, out⟩ := s
   simp only at F hn hn0 hok hPl hple n9 hb hl hLs
   have hfp : fstP H = p := by unfold fstP; rw [F.e]; rfl
   have b0 := F.b0
   have b1 := F.b1
   have z0 := F.z0
   have z1 := F.z1
   have l9 := F.l9
   have hDl := hdD_len H
   have hD : DnOk (hdD (popH H m).1) (popH H m).2 0 := ⟨by rw [hdOf_hd], by rw [hdOf_hd]; exact hPl, by omega, by omega, by rw [hdOf_hd]; exact fun j hj => (hok j hj).1⟩
   have hst : ∀ y, (newK ⟨H, m, sm, last, out⟩ && (!dr || !p.2.2)) = y → stM dr ⟨H, m, sm, last, out⟩ = ⟨dnH (popH H m).2 (popH H m).1 (popH H m).2 0, (popH H m).2, true, p.1, bif y then out ++ [p] else out⟩ := fun y hy => by
    unfold stM
    obtain ⟨H1, n1, e⟩ : ∃ H1 n1, popH H m = (H1, n1) := ⟨_, _, rfl⟩
    simp only [e, hfp, hy]
   have hlen1 := F.e ▸ (show ((p :: rest, a0) :: T : List Hd).length = T.length + 1 from rfl)
   have hcd := cpD_len out
   by_cases hrest : rest = []
   ·subst hrest
    have hpop : popH H m = ((([], a0) :: T : List Hd).set 0 (gH (([], a0) :: T) (m - 1)), m - 1) := by rw [F.e]; exact popE
    have sd : setD (hdD H) 0 [DV.sl 0 none []] = hdD (([], a0) :: T) := by rw [F.e]; exact setD_one _ _ []
    have em : Int.toNat ((m : Int) - 1) = m - 1 := by omega
    obtain ⟨y, hyg⟩ : ∃ y, gH (([], a0) :: T) (m - 1) = y := ⟨_, rfl⟩
    have hm1 : m - 1 < (([], a0) :: T : List Hd).length := by rw [List.length_cons]; omega
    have hyi : (([], a0) :: T : List Hd)[m - 1]? = some y := by rw [← hyg]; unfold gH; rw [List.getElem?_eq_getElem hm1]; rfl
    obtain ⟨y1, y2⟩ := hdD_at hyi
    have G : HdY (hdD (([], a0) :: T)) (m - 1) y := hdY_of y1 y2
    have R := hd0_at ([], a0) T
    have sd2 : setD (hdD (([], a0) :: T)) 0 [DV.sl y.1.length none (cpD y.1), DV.fl (.int .i64 (y.2 : Int))] = hdD ((([], a0) :: T : List Hd).set 0 y) := hdD_set (i := 0) y (by simp)
    have l2 : (hdD (([], a0) :: T)).length = (T.length + 1) * 2 := hdD_len _
    have l3 : (hdD ((([], a0) :: T : List Hd).set 0 y)).length = (T.length + 1) * 2 := by rw [hdD_len]; simp
    rw [hpop, hyg] at hD
    rw [hyg] at hpop
    have zx : y.1.length = 0 → cpD y.1 = [] := fun e => by rw [List.eq_nil_of_length_eq_zero e]; rfl
    have zz := zx
    cases sm with
    | false =>
     obtain rfl := (hA rfl).2
     have hnw : newK ⟨H, m, false, last, []⟩ = true := rfl
     have hx : (0 : Nat) = 0 := rfl
     have hse := hx
     cases hd : !dr with
     | true =>
      have hy : (newK ⟨H, m, false, last, []⟩ && (!dr || !p.2.2)) = true := by rw [hnw]; simp only [hd, Bool.true_or, Bool.true_and]
      rw [hst _ hy, hpop] at nx
      simp only [cond_true] at nx
      simp only [mSl, mHp, mLs, cond_true, cond_false, hx] at nx ⊢
      rw [ouV_ne (by simp), moR_ne (by simp)] at nx
      refine LRuns.step (code_runsP mhX mhL0 (runZ_ok mhX mhTt mhL0 mixed 12) mixed (mh_e_Ade inr m 0 0 dr ds (hdD H) [] []) ?_) rfl (by omega) (by omega) (fun n => bif Nat.beq n 200 then 312 else 301) ?_ ?_ rfl nx
      ·
       simp only [Alls, rg, decide_eq_true_eq, decide_eq_false_iff_not, beq_iff_eq, beq_eq_false_iff_ne, Nat.add_zero, Nat.zero_add, Nat.zero_mul, ixO_eq, sbN_eq, Int.toNat_zero, Int.toNat_one, F.n0, F.s0, F.k0, F.k1, F.v0, F.v1, F.g, tk_by, byV_ints, byV_len, Nat.mul_one, sd, em, G.n, G.s, G.a, sd2]
       repeat' (with_reducible apply And.intro)
       all_goals first | omega | (with_reducible assumption) | exact F.o27 _ | exact F.o29 _ | (with_reducible exact trivial) | (with_reducible rfl) | exact u8_by F.b0 | exact u8_by F.b1 | exact byV_eq _ | exact a1_by _ | exact byV_ren _ | exact fun e => nil_by e | skip
       all_goals first | exact R.o _ | exact G.o _ | exact hD | exact hse | (rw [hDl]; omega) | exact zz | exact zx | (simp only [List.length_cons, List.length_nil]; omega) | exact fun _ => trivial | skip
      ·refine ⟨rfl, rfl, rfl, ?_, rfl, ?_, rfl, ?_, rfl, rfl, trivial⟩
       ·rw [em]; exact rb_slg rfl rfl
       ·rw [List.length_append]; exact rb_slg rfl rfl
       ·rw [F.s0, F.k0]; exact rb_slg rfl rfl
      ·refine ⟨dw_row (m := 60) rfl (dw_eq ?_), df_row (m := 312) rfl (df_eq ?_), ow_row (m := 301) rfl (ow_eq ?_) (byV_ren _), sw_row (m := 0) rfl rfl, trivial⟩
       ·simp only [Nat.add_zero, F.n0, F.s0, sd, em, G.n, G.s, G.a, sd2, hdOf_hd]
       ·rw [cpD_snoc]; simp only [F.s0, F.k0, F.k1, F.v0, F.v1, F.g, tk_by, byV_fl, prD]; rfl
       ·rw [F.s0, F.v0]
     | false =>
      cases hg : !p.2.2 with
      | true =>
       have hy : (newK ⟨H, m, false, last, []⟩ && (!dr || !p.2.2)) = true := by rw [hnw]; simp only [hd, hg, Bool.not_false, Bool.not_true, Bool.or_true, Bool.true_and, Bool.false_or]
       rw [hst _ hy, hpop] at nx
       simp only [cond_true] at nx
       simp only [mSl, mHp, mLs, cond_true, cond_false, hx] at nx ⊢
       rw [ouV_ne (by simp), moR_ne (by simp)] at nx
       refine LRuns.step (code_runsP mhX mhL0 (runZ_ok mhX mhTt mhL0 mixed 12) mixed (mh_e_Age inr m 0 0 dr ds (hdD H) [] []) ?_) rfl (by omega) (by omega) (fun n => bif Nat.beq n 200 then 312 else 301) ?_ ?_ rfl nx
       ·
        simp only [Alls, rg, decide_eq_true_eq, decide_eq_false_iff_not, beq_iff_eq, beq_eq_false_iff_ne, Nat.add_zero, Nat.zero_add, Nat.zero_mul, ixO_eq, sbN_eq, Int.toNat_zero, Int.toNat_one, F.n0, F.s0, F.k0, F.k1, F.v0, F.v1, F.g, tk_by, byV_ints, byV_len, Nat.mul_one, sd, em, G.n, G.s, G.a, sd2]
        repeat' (with_reducible apply And.intro)
        all_goals first | omega | (with_reducible assumption) | exact F.o27 _ | exact F.o29 _ | (with_reducible exact trivial) | (with_reducible rfl) | exact u8_by F.b0 | exact u8_by F.b1 | exact byV_eq _ | exact a1_by _ | exact byV_ren _ | exact fun e => nil_by e | skip
        all_goals first | exact R.o _ | exact G.o _ | exact hD | exact hse | (rw [hDl]; omega) | exact zz | exact zx | (simp only [List.length_cons, List.length_nil]; omega) | exact fun _ => trivial | skip
       ·refine ⟨rfl, rfl, rfl, ?_, rfl, ?_, rfl, ?_, rfl, rfl, trivial⟩
        ·rw [em]; exact rb_slg rfl rfl
        ·rw [List.length_append]; exact rb_slg rfl rfl
        ·rw [F.s0, F.k0]; exact rb_slg rfl rfl
       ·refine ⟨dw_row (m := 60) rfl (dw_eq ?_), df_row (m := 312) rfl (df_eq ?_), ow_row (m := 301) rfl (ow_eq ?_) (byV_ren _), sw_row (m := 0) rfl rfl, trivial⟩
        ·simp only [Nat.add_zero, F.n0, F.s0, sd, em, G.n, G.s, G.a, sd2, hdOf_hd]
        ·rw [cpD_snoc]; simp only [F.s0, F.k0, F.k1, F.v0, F.v1, F.g, tk_by, byV_fl, prD]; rfl
        ·rw [F.s0, F.v0]
      | false =>
       have hy : (newK ⟨H, m, false, last, []⟩ && (!dr || !p.2.2)) = false := by rw [hnw]; simp only [hd, hg, Bool.not_true, Bool.false_or, Bool.true_and, Bool.and_false]
       rw [hst _ hy, hpop] at nx
       simp only [cond_false] at nx
       simp only [mSl, mHp, mLs, cond_true, cond_false, hx] at nx ⊢
       refine LRuns.step (code_runsP mhX mhL0 (runZ_ok mhX mhTt mhL0 mixed 12) mixed (mh_e_Ake inr m 0 0 dr ds (hdD H) [] []) ?_) rfl (by omega) (by omega) (fun n => bif Nat.beq n 200 then 200 else 301) ?_ ?_ rfl nx
       ·
        simp only [Alls, rg, decide_eq_true_eq, decide_eq_false_iff_not, beq_iff_eq, beq_eq_false_iff_ne, Nat.add_zero, Nat.zero_add, Nat.zero_mul, ixO_eq, sbN_eq, Int.toNat_zero, Int.toNat_one, F.n0, F.s0, F.k0, F.k1, F.v0, F.v1, F.g, tk_by, byV_ints, byV_len, Nat.mul_one, sd, em, G.n, G.s, G.a, sd2]
        repeat' (with_reducible apply And.intro)
        all_goals first | omega | (with_reducible assumption) | exact F.o27 _ | exact F.o29 _ | (with_reducible exact trivial) | (with_reducible rfl) | exact u8_by F.b0 | exact u8_by F.b1 | exact byV_eq _ | exact a1_by _ | exact byV_ren _ | exact fun e => nil_by e | skip
        all_goals first | exact R.o _ | exact G.o _ | exact hD | exact hse | (rw [hDl]; omega) | exact zz | exact zx | (simp only [List.length_cons, List.length_nil]; omega) | exact fun _ => trivial | skip
       ·refine ⟨rfl, rfl, rfl, ?_, rfl, ?_, rfl, ?_, rfl, rfl, trivial⟩
        ·rw [em]; exact rb_slg rfl rfl
        ·rfl
        ·rw [F.s0, F.k0]; exact rb_slg rfl rfl
       ·refine ⟨dw_row (m := 60) rfl (dw_eq ?_), ow_row (m := 301) rfl (ow_eq ?_) (byV_ren _), sw_row (m := 0) rfl rfl, trivial⟩
        ·simp only [Nat.add_zero, F.n0, F.s0, sd, em, G.n, G.s, G.a, sd2, hdOf_hd]
        ·rw [F.s0, F.v0]
    | true =>
     have hse0 := strEq_I hLs b0
     cases out with
     | nil =>
      have hx : (0 : Nat) = 0 := rfl
      by_cases hle : last = p.1
      ·rw [decide_eq_true hle] at hse0
       have hse := hse0
       have hnw : newK ⟨H, m, true, last, []⟩ = false := by unfold newK; rw [hfp]; simp [hle]
       have hy : (newK ⟨H, m, true, last, []⟩ && (!dr || !p.2.2)) = false := by rw [hnw]; simp only [Bool.false_and]
       rw [hst _ hy, hpop] at nx
       simp only [cond_false] at nx
       simp only [mSl, mHp, mLs, cond_true, cond_false, hx] at nx ⊢
       refine LRuns.step (code_runsP mhX mhL0 (runZ_ok mhX mhTt mhL0 mixed 12) mixed (mh_e_Bqe inr m last.length 0 dr ds (hdD H) [] (byV last)) ?_) rfl (by omega) (by omega) (fun n => bif Nat.beq n 200 then 200 else 202) ?_ ?_ rfl nx
       ·
        simp only [Alls, rg, decide_eq_true_eq, decide_eq_false_iff_not, beq_iff_eq, beq_eq_false_iff_ne, Nat.add_zero, Nat.zero_add, Nat.zero_mul, ixO_eq, sbN_eq, Int.toNat_zero, Int.toNat_one, F.n0, F.s0, F.k0, F.k1, F.v0, F.v1, F.g, tk_by, byV_ints, byV_len, Nat.mul_one, sd, em, G.n, G.s, G.a, sd2]
        repeat' (with_reducible apply And.intro)
        all_goals first | omega | (with_reducible assumption) | exact F.o27 _ | exact F.o29 _ | (with_reducible exact trivial) | (with_reducible rfl) | exact u8_by F.b0 | exact u8_by F.b1 | exact byV_eq _ | exact a1_by _ | exact byV_ren _ | exact fun e => nil_by e | skip
        all_goals first | exact R.o _ | exact G.o _ | exact hD | exact hse | (rw [hDl]; omega) | exact zz | exact zx | (simp only [List.length_cons, List.length_nil]; omega) | exact fun _ => trivial | skip
       ·refine ⟨rfl, rfl, rfl, ?_, rfl, ?_, rfl, ?_, rfl, rfl, trivial⟩
        ·rw [em]; exact rb_slg rfl rfl
        ·rfl
        ·rw [← hle]; exact rb_slg rfl rfl
       ·refine ⟨dw_row (m := 60) rfl (dw_eq ?_), ow_row (m := 202) rfl (ow_eq ?_) (byV_ren _), sw_row (m := 0) rfl rfl, trivial⟩
        ·simp only [Nat.add_zero, F.n0, F.s0, sd, em, G.n, G.s, G.a, sd2, hdOf_hd]
        ·rw [hle]
      ·rw [decide_eq_false hle] at hse0
       have hse := hse0
       have hnw : newK ⟨H, m, true, last, []⟩ = true := by unfold newK; rw [hfp]; simp [hle]
       cases hd : !dr with
       | true =>
        have hy : (newK ⟨H, m, true, last, []⟩ && (!dr || !p.2.2)) = true := by rw [hnw]; simp only [hd, Bool.true_or, Bool.true_and]
        rw [hst _ hy, hpop] at nx
        simp only [cond_true] at nx
        simp only [mSl, mHp, mLs, cond_true, cond_false, hx] at nx ⊢
        rw [ouV_ne (by simp), moR_ne (by simp)] at nx
        refine LRuns.step (code_runsP mhX mhL0 (runZ_ok mhX mhTt mhL0 mixed 12) mixed (mh_e_Bde inr m last.length 0 dr ds (hdD H) [] (byV last)) ?_) rfl (by omega) (by omega) (fun n => bif Nat.beq n 200 then 312 else 301) ?_ ?_ rfl nx
        ·
         simp only [Alls, rg, decide_eq_true_eq, decide_eq_false_iff_not, beq_iff_eq, beq_eq_false_iff_ne, Nat.add_zero, Nat.zero_add, Nat.zero_mul, ixO_eq, sbN_eq, Int.toNat_zero, Int.toNat_one, F.n0, F.s0, F.k0, F.k1, F.v0, F.v1, F.g, tk_by, byV_ints, byV_len, Nat.mul_one, sd, em, G.n, G.s, G.a, sd2]
         repeat' (with_reducible apply And.intro)
         all_goals first | omega | (with_reducible assumption) | exact F.o27 _ | exact F.o29 _ | (with_reducible exact trivial) | (with_reducible rfl) | exact u8_by F.b0 | exact u8_by F.b1 | exact byV_eq _ | exact a1_by _ | exact byV_ren _ | exact fun e => nil_by e | skip
         all_goals first | exact R.o _ | exact G.o _ | exact hD | exact hse | (rw [hDl]; omega) | exact zz | exact zx | (simp only [List.length_cons, List.length_nil]; omega) | exact fun _ => trivial | skip
        ·refine ⟨rfl, rfl, rfl, ?_, rfl, ?_, rfl, ?_, rfl, rfl, trivial⟩
         ·rw [em]; exact rb_slg rfl rfl
         ·rw [List.length_append]; exact rb_slg rfl rfl
         ·rw [F.s0, F.k0]; exact rb_slg rfl rfl
        ·refine ⟨dw_row (m := 60) rfl (dw_eq ?_), df_row (m := 312) rfl (df_eq ?_), ow_row (m := 301) rfl (ow_eq ?_) (byV_ren _), sw_row (m := 0) rfl rfl, trivial⟩
         ·simp only [Nat.add_zero, F.n0, F.s0, sd, em, G.n, G.s, G.a, sd2, hdOf_hd]
         ·rw [cpD_snoc]; simp only [F.s0, F.k0, F.k1, F.v0, F.v1, F.g, tk_by, byV_fl, prD]; rfl
         ·rw [F.s0, F.v0]
       | false =>
        cases hg : !p.2.2 with
        | true =>
         have hy : (newK ⟨H, m, true, last, []⟩ && (!dr || !p.2.2)) = true := by rw [hnw]; simp only [hd, hg, Bool.not_false, Bool.not_true, Bool.or_true, Bool.true_and, Bool.false_or]
         rw [hst _ hy, hpop] at nx
         simp only [cond_true] at nx
         simp only [mSl, mHp, mLs, cond_true, cond_false, hx] at nx ⊢
         rw [ouV_ne (by simp), moR_ne (by simp)] at nx
         refine LRuns.step (code_runsP mhX mhL0 (runZ_ok mhX mhTt mhL0 mixed 12) mixed (mh_e_Bge inr m last.length 0 dr ds (hdD H) [] (byV last)) ?_) rfl (by omega) (by omega) (fun n => bif Nat.beq n 200 then 312 else 301) ?_ ?_ rfl nx
         ·
          simp only [Alls, rg, decide_eq_true_eq, decide_eq_false_iff_not, beq_iff_eq, beq_eq_false_iff_ne, Nat.add_zero, Nat.zero_add, Nat.zero_mul, ixO_eq, sbN_eq, Int.toNat_zero, Int.toNat_one, F.n0, F.s0, F.k0, F.k1, F.v0, F.v1, F.g, tk_by, byV_ints, byV_len, Nat.mul_one, sd, em, G.n, G.s, G.a, sd2]
          repeat' (with_reducible apply And.intro)
          all_goals first | omega | (with_reducible assumption) | exact F.o27 _ | exact F.o29 _ | (with_reducible exact trivial) | (with_reducible rfl) | exact u8_by F.b0 | exact u8_by F.b1 | exact byV_eq _ | exact a1_by _ | exact byV_ren _ | exact fun e => nil_by e | skip
          all_goals first | exact R.o _ | exact G.o _ | exact hD | exact hse | (rw [hDl]; omega) | exact zz | exact zx | (simp only [List.length_cons, List.length_nil]; omega) | exact fun _ => trivial | skip
         ·refine ⟨rfl, rfl, rfl, ?_, rfl, ?_, rfl, ?_, rfl, rfl, trivial⟩
          ·rw [em]; exact rb_slg rfl rfl
          ·rw [List.length_append]; exact rb_slg rfl rfl
          ·rw [F.s0, F.k0]; exact rb_slg rfl rfl
         ·refine ⟨dw_row (m := 60) rfl (dw_eq ?_), df_row (m := 312) rfl (df_eq ?_), ow_row (m := 301) rfl (ow_eq ?_) (byV_ren _), sw_row (m := 0) rfl rfl, trivial⟩
          ·simp only [Nat.add_zero, F.n0, F.s0, sd, em, G.n, G.s, G.a, sd2, hdOf_hd]
          ·rw [cpD_snoc]; simp only [F.s0, F.k0, F.k1, F.v0, F.v1, F.g, tk_by, byV_fl, prD]; rfl
          ·rw [F.s0, F.v0]
        | false =>
         have hy : (newK ⟨H, m, true, last, []⟩ && (!dr || !p.2.2)) = false := by rw [hnw]; simp only [hd, hg, Bool.not_true, Bool.false_or, Bool.true_and, Bool.and_false]
         rw [hst _ hy, hpop] at nx
         simp only [cond_false] at nx
         simp only [mSl, mHp, mLs, cond_true, cond_false, hx] at nx ⊢
         refine LRuns.step (code_runsP mhX mhL0 (runZ_ok mhX mhTt mhL0 mixed 12) mixed (mh_e_Bke inr m last.length 0 dr ds (hdD H) [] (byV last)) ?_) rfl (by omega) (by omega) (fun n => bif Nat.beq n 200 then 200 else 301) ?_ ?_ rfl nx
         ·
          simp only [Alls, rg, decide_eq_true_eq, decide_eq_false_iff_not, beq_iff_eq, beq_eq_false_iff_ne, Nat.add_zero, Nat.zero_add, Nat.zero_mul, ixO_eq, sbN_eq, Int.toNat_zero, Int.toNat_one, F.n0, F.s0, F.k0, F.k1, F.v0, F.v1, F.g, tk_by, byV_ints, byV_len, Nat.mul_one, sd, em, G.n, G.s, G.a, sd2]
          repeat' (with_reducible apply And.intro)
          all_goals first | omega | (with_reducible assumption) | exact F.o27 _ | exact F.o29 _ | (with_reducible exact trivial) | (with_reducible rfl) | exact u8_by F.b0 | exact u8_by F.b1 | exact byV_eq _ | exact a1_by _ | exact byV_ren _ | exact fun e => nil_by e | skip
          all_goals first | exact R.o _ | exact G.o _ | exact hD | exact hse | (rw [hDl]; omega) | exact zz | exact zx | (simp only [List.length_cons, List.length_nil]; omega) | exact fun _ => trivial | skip
         ·refine ⟨rfl, rfl, rfl, ?_, rfl, ?_, rfl, ?_, rfl, rfl, trivial⟩
          ·rw [em]; exact rb_slg rfl rfl
          ·rfl
          ·rw [F.s0, F.k0]; exact rb_slg rfl rfl
         ·refine ⟨dw_row (m := 60) rfl (dw_eq ?_), ow_row (m := 301) rfl (ow_eq ?_) (byV_ren _), sw_row (m := 0) rfl rfl, trivial⟩
          ·simp only [Nat.add_zero, F.n0, F.s0, sd, em, G.n, G.s, G.a, sd2, hdOf_hd]
          ·rw [F.s0, F.v0]
     | cons x t =>
      have hx : (0 : Nat) = 0 := rfl
      by_cases hle : last = p.1
      ·rw [decide_eq_true hle] at hse0
       have hse := hse0
       have hnw : newK ⟨H, m, true, last, x :: t⟩ = false := by unfold newK; rw [hfp]; simp [hle]
       have hy : (newK ⟨H, m, true, last, (x :: t)⟩ && (!dr || !p.2.2)) = false := by rw [hnw]; simp only [Bool.false_and]
       rw [hst _ hy, hpop] at nx
       simp only [cond_false] at nx
       simp only [mSl, mHp, mLs, cond_true, cond_false, hx] at nx ⊢
       rw [ouV_ne (by simp), moR_ne (by simp)] at nx
       rw [ouV_ne (by simp), moR_ne (by simp)]
       refine LRuns.step (code_runsP mhX mhL0 (runZ_ok mhX mhTt mhL0 mixed 12) mixed (mh_e_Cqe inr m last.length (x :: t).length dr ds (hdD H) (cpD (x :: t)) (byV last)) ?_) rfl (by omega) (by omega) (fun n => bif Nat.beq n 200 then 200 else 202) ?_ ?_ rfl nx
       ·
        simp only [Alls, rg, decide_eq_true_eq, decide_eq_false_iff_not, beq_iff_eq, beq_eq_false_iff_ne, Nat.add_zero, Nat.zero_add, Nat.zero_mul, ixO_eq, sbN_eq, Int.toNat_zero, Int.toNat_one, F.n0, F.s0, F.k0, F.k1, F.v0, F.v1, F.g, tk_by, byV_ints, byV_len, Nat.mul_one, sd, em, G.n, G.s, G.a, sd2]
        repeat' (with_reducible apply And.intro)
        all_goals first | omega | (with_reducible assumption) | exact F.o27 _ | exact F.o29 _ | (with_reducible exact trivial) | (with_reducible rfl) | exact u8_by F.b0 | exact u8_by F.b1 | exact byV_eq _ | exact a1_by _ | exact byV_ren _ | exact fun e => nil_by e | skip
        all_goals first | exact R.o _ | exact G.o _ | exact hD | exact hse | (rw [hDl]; omega) | exact zz | exact zx | (simp only [List.length_cons, List.length_nil]; omega) | exact fun _ => trivial | skip
       ·refine ⟨rfl, rfl, rfl, ?_, rfl, ?_, rfl, ?_, rfl, rfl, trivial⟩
        ·rw [em]; exact rb_slg rfl rfl
        ·exact rb_slg rfl rfl
        ·rw [← hle]; exact rb_slg rfl rfl
       ·refine ⟨dw_row (m := 60) rfl (dw_eq ?_), df_row (m := 200) rfl rfl, ow_row (m := 202) rfl (ow_eq ?_) (byV_ren _), sw_row (m := 0) rfl rfl, trivial⟩
        ·simp only [Nat.add_zero, F.n0, F.s0, sd, em, G.n, G.s, G.a, sd2, hdOf_hd]
        ·rw [hle]
      ·rw [decide_eq_false hle] at hse0
       have hse := hse0
       have hnw : newK ⟨H, m, true, last, x :: t⟩ = true := by unfold newK; rw [hfp]; simp [hle]
       cases hd : !dr with
       | true =>
        have hy : (newK ⟨H, m, true, last, (x :: t)⟩ && (!dr || !p.2.2)) = true := by rw [hnw]; simp only [hd, Bool.true_or, Bool.true_and]
        rw [hst _ hy, hpop] at nx
        simp only [cond_true] at nx
        simp only [mSl, mHp, mLs, cond_true, cond_false, hx] at nx ⊢
        rw [ouV_ne (by simp), moR_ne (by simp)] at nx
        rw [ouV_ne (by simp), moR_ne (by simp)]
        refine LRuns.step (code_runsP mhX mhL0 (runZ_ok mhX mhTt mhL0 mixed 12) mixed (mh_e_Cde inr m last.length (x :: t).length dr ds (hdD H) (cpD (x :: t)) (byV last)) ?_) rfl (by omega) (by omega) (fun n => bif Nat.beq n 200 then 312 else 301) ?_ ?_ rfl nx
        ·
         simp only [Alls, rg, decide_eq_true_eq, decide_eq_false_iff_not, beq_iff_eq, beq_eq_false_iff_ne, Nat.add_zero, Nat.zero_add, Nat.zero_mul, ixO_eq, sbN_eq, Int.toNat_zero, Int.toNat_one, F.n0, F.s0, F.k0, F.k1, F.v0, F.v1, F.g, tk_by, byV_ints, byV_len, Nat.mul_one, sd, em, G.n, G.s, G.a, sd2]
         repeat' (with_reducible apply And.intro)
         all_goals first | omega | (with_reducible assumption) | exact F.o27 _ | exact F.o29 _ | (with_reducible exact trivial) | (with_reducible rfl) | exact u8_by F.b0 | exact u8_by F.b1 | exact byV_eq _ | exact a1_by _ | exact byV_ren _ | exact fun e => nil_by e | skip
         all_goals first | exact R.o _ | exact G.o _ | exact hD | exact hse | (rw [hDl]; omega) | exact zz | exact zx | (simp only [List.length_cons, List.length_nil]; omega) | exact fun _ => trivial | skip
        ·refine ⟨rfl, rfl, rfl, ?_, rfl, ?_, rfl, ?_, rfl, rfl, trivial⟩
         ·rw [em]; exact rb_slg rfl rfl
         ·rw [List.length_append]; exact rb_slg rfl rfl
         ·rw [F.s0, F.k0]; exact rb_slg rfl rfl
        ·refine ⟨dw_row (m := 60) rfl (dw_eq ?_), df_row (m := 312) rfl (df_eq ?_), ow_row (m := 301) rfl (ow_eq ?_) (byV_ren _), sw_row (m := 0) rfl rfl, trivial⟩
         ·simp only [Nat.add_zero, F.n0, F.s0, sd, em, G.n, G.s, G.a, sd2, hdOf_hd]
         ·rw [cpD_snoc]; simp only [F.s0, F.k0, F.k1, F.v0, F.v1, F.g, tk_by, byV_fl, prD]
         ·rw [F.s0, F.v0]
       | false =>
        cases hg : !p.2.2 with
        | true =>
         have hy : (newK ⟨H, m, true, last, (x :: t)⟩ && (!dr || !p.2.2)) = true := by rw [hnw]; simp only [hd, hg, Bool.not_false, Bool.not_true, Bool.or_true, Bool.true_and, Bool.false_or]
         rw [hst _ hy, hpop] at nx
         simp only [cond_true] at nx
         simp only [mSl, mHp, mLs, cond_true, cond_false, hx] at nx ⊢
         rw [ouV_ne (by simp), moR_ne (by simp)] at nx
         rw [ouV_ne (by simp), moR_ne (by simp)]
         refine LRuns.step (code_runsP mhX mhL0 (runZ_ok mhX mhTt mhL0 mixed 12) mixed (mh_e_Cge inr m last.length (x :: t).length dr ds (hdD H) (cpD (x :: t)) (byV last)) ?_) rfl (by omega) (by omega) (fun n => bif Nat.beq n 200 then 312 else 301) ?_ ?_ rfl nx
         ·
          simp only [Alls, rg, decide_eq_true_eq, decide_eq_false_iff_not, beq_iff_eq, beq_eq_false_iff_ne, Nat.add_zero, Nat.zero_add, Nat.zero_mul, ixO_eq, sbN_eq, Int.toNat_zero, Int.toNat_one, F.n0, F.s0, F.k0, F.k1, F.v0, F.v1, F.g, tk_by, byV_ints, byV_len, Nat.mul_one, sd, em, G.n, G.s, G.a, sd2]
          repeat' (with_reducible apply And.intro)
          all_goals first | omega | (with_reducible assumption) | exact F.o27 _ | exact F.o29 _ | (with_reducible exact trivial) | (with_reducible rfl) | exact u8_by F.b0 | exact u8_by F.b1 | exact byV_eq _ | exact a1_by _ | exact byV_ren _ | exact fun e => nil_by e | skip
          all_goals first | exact R.o _ | exact G.o _ | exact hD | exact hse | (rw [hDl]; omega) | exact zz | exact zx | (simp only [List.length_cons, List.length_nil]; omega) | exact fun _ => trivial | skip
         ·refine ⟨rfl, rfl, rfl, ?_, rfl, ?_, rfl, ?_, rfl, rfl, trivial⟩
          ·rw [em]; exact rb_slg rfl rfl
          ·rw [List.length_append]; exact rb_slg rfl rfl
          ·rw [F.s0, F.k0]; exact rb_slg rfl rfl
         ·refine ⟨dw_row (m := 60) rfl (dw_eq ?_), df_row (m := 312) rfl (df_eq ?_), ow_row (m := 301) rfl (ow_eq ?_) (byV_ren _), sw_row (m := 0) rfl rfl, trivial⟩
          ·simp only [Nat.add_zero, F.n0, F.s0, sd, em, G.n, G.s, G.a, sd2, hdOf_hd]
          ·rw [cpD_snoc]; simp only [F.s0, F.k0, F.k1, F.v0, F.v1, F.g, tk_by, byV_fl, prD]
          ·rw [F.s0, F.v0]
        | false =>
         have hy : (newK ⟨H, m, true, last, (x :: t)⟩ && (!dr || !p.2.2)) = false := by rw [hnw]; simp only [hd, hg, Bool.not_true, Bool.false_or, Bool.true_and, Bool.and_false]
         rw [hst _ hy, hpop] at nx
         simp only [cond_false] at nx
         simp only [mSl, mHp, mLs, cond_true, cond_false, hx] at nx ⊢
         rw [ouV_ne (by simp), moR_ne (by simp)] at nx
         rw [ouV_ne (by simp), moR_ne (by simp)]
         refine LRuns.step (code_runsP mhX mhL0 (runZ_ok mhX mhTt mhL0 mixed 12) mixed (mh_e_Cke inr m last.length (x :: t).length dr ds (hdD H) (cpD (x :: t)) (byV last)) ?_) rfl (by omega) (by omega) (fun n => bif Nat.beq n 200 then 200 else 301) ?_ ?_ rfl nx
         ·
          simp only [Alls, rg, decide_eq_true_eq, decide_eq_false_iff_not, beq_iff_eq, beq_eq_false_iff_ne, Nat.add_zero, Nat.zero_add, Nat.zero_mul, ixO_eq, sbN_eq, Int.toNat_zero, Int.toNat_one, F.n0, F.s0, F.k0, F.k1, F.v0, F.v1, F.g, tk_by, byV_ints, byV_len, Nat.mul_one, sd, em, G.n, G.s, G.a, sd2]
          repeat' (with_reducible apply And.intro)
          all_goals first | omega | (with_reducible assumption) | exact F.o27 _ | exact F.o29 _ | (with_reducible exact trivial) | (with_reducible rfl) | exact u8_by F.b0 | exact u8_by F.b1 | exact byV_eq _ | exact a1_by _ | exact byV_ren _ | exact fun e => nil_by e | skip
          all_goals first | exact R.o _ | exact G.o _ | exact hD | exact hse | (rw [hDl]; omega) | exact zz | exact zx | (simp only [List.length_cons, List.length_nil]; omega) | exact fun _ => trivial | skip
         ·refine ⟨rfl, rfl, rfl, ?_, rfl, ?_, rfl, ?_, rfl, rfl, trivial⟩
          ·rw [em]; exact rb_slg rfl rfl
          ·exact rb_slg rfl rfl
          ·rw [F.s0, F.k0]; exact rb_slg rfl rfl
         ·refine ⟨dw_row (m := 60) rfl (dw_eq ?_), df_row (m := 200) rfl rfl, ow_row (m := 301) rfl (ow_eq ?_) (byV_ren _), sw_row (m := 0) rfl rfl, trivial⟩
          ·simp only [Nat.add_zero, F.n0, F.s0, sd, em, G.n, G.s, G.a, sd2, hdOf_hd]
          ·rw [F.s0, F.v0]
   ·obtain ⟨x0, r0, hr0⟩ := List.exists_cons_of_ne_nil hrest
    have hpop : popH H m = ((rest, a0) :: T, m) := by rw [F.e, hr0]; exact popM
    have sd : setD (hdD H) 0 [DV.sl ((p :: rest).length - 1) none (List.drop 3 (cpD (p :: rest)))] = hdD ((rest, a0) :: T) := by rw [F.e]; exact setD_one _ _ rest
    have R := hd0_at (rest, a0) T
    have hrl : 0 < rest.length := by rw [hr0]; simp
    have hpl : (p :: rest).length = rest.length + 1 := rfl
    rw [hpop] at hD
    have zz : (p :: rest).length - 1 = 0 → List.drop 3 (cpD (p :: rest)) = [] := fun e => by omega
    have zx := zz
    have G := R
    cases sm with
    | false =>
     obtain rfl := (hA rfl).2
     have hnw : newK ⟨H, m, false, last, []⟩ = true := rfl
     have hx : (0 : Nat) = 0 := rfl
     have hse := hx
     cases hd : !dr with
     | true =>
      have hy : (newK ⟨H, m, false, last, []⟩ && (!dr || !p.2.2)) = true := by rw [hnw]; simp only [hd, Bool.true_or, Bool.true_and]
      rw [hst _ hy, hpop] at nx
      simp only [cond_true] at nx
      simp only [mSl, mHp, mLs, cond_true, cond_false, hx] at nx ⊢
      rw [ouV_ne (by simp), moR_ne (by simp)] at nx
      refine LRuns.step (code_runsP mhX mhL0 (runZ_ok mhX mhTt mhL0 mixed 12) mixed (mh_e_Adm inr m 0 0 dr ds (hdD H) [] []) ?_) rfl (by omega) (by omega) (fun n => bif Nat.beq n 200 then 312 else 301) ?_ ?_ rfl nx
      ·
       simp only [Alls, rg, decide_eq_true_eq, decide_eq_false_iff_not, beq_iff_eq, beq_eq_false_iff_ne, Nat.add_zero, Nat.zero_add, Nat.zero_mul, ixO_eq, sbN_eq, Int.toNat_zero, Int.toNat_one, F.n0, F.s0, F.k0, F.k1, F.v0, F.v1, F.g, tk_by, byV_ints, byV_len, Nat.mul_one, sd, R.n, R.s]
       repeat' (with_reducible apply And.intro)
       all_goals first | omega | (with_reducible assumption) | exact F.o27 _ | exact F.o29 _ | (with_reducible exact trivial) | (with_reducible rfl) | exact u8_by F.b0 | exact u8_by F.b1 | exact byV_eq _ | exact a1_by _ | exact byV_ren _ | exact fun e => nil_by e | skip
       all_goals first | exact R.o _ | exact G.o _ | exact hD | exact hse | (rw [hDl]; omega) | exact zz | exact zx | (simp only [List.length_cons, List.length_nil]; omega) | exact fun _ => trivial | skip
      ·refine ⟨rfl, rfl, rfl, ?_, rfl, ?_, rfl, ?_, rfl, rfl, trivial⟩
       ·exact rb_slg rfl rfl
       ·rw [List.length_append]; exact rb_slg rfl rfl
       ·rw [F.s0, F.k0]; exact rb_slg rfl rfl
      ·refine ⟨dw_row (m := 60) rfl (dw_eq ?_), df_row (m := 312) rfl (df_eq ?_), ow_row (m := 301) rfl (ow_eq ?_) (byV_ren _), sw_row (m := 0) rfl rfl, trivial⟩
       ·simp only [Nat.add_zero, F.n0, F.s0, sd, R.n, R.s, hdOf_hd]
       ·rw [cpD_snoc]; simp only [F.s0, F.k0, F.k1, F.v0, F.v1, F.g, tk_by, byV_fl, prD]; rfl
       ·rw [F.s0, F.v0]
     | false =>
      cases hg : !p.2.2 with
      | true =>
       have hy : (newK ⟨H, m, false, last, []⟩ && (!dr || !p.2.2)) = true := by rw [hnw]; simp only [hd, hg, Bool.not_false, Bool.not_true, Bool.or_true, Bool.true_and, Bool.false_or]
       rw [hst _ hy, hpop] at nx
       simp only [cond_true] at nx
       simp only [mSl, mHp, mLs, cond_true, cond_false, hx] at nx ⊢
       rw [ouV_ne (by simp), moR_ne (by simp)] at nx
       refine LRuns.step (code_runsP mhX mhL0 (runZ_ok mhX mhTt mhL0 mixed 12) mixed (mh_e_Agm inr m 0 0 dr ds (hdD H) [] []) ?_) rfl (by omega) (by omega) (fun n => bif Nat.beq n 200 then 312 else 301) ?_ ?_ rfl nx
       ·
        simp only [Alls, rg, decide_eq_true_eq, decide_eq_false_iff_not, beq_iff_eq, beq_eq_false_iff_ne, Nat.add_zero, Nat.zero_add, Nat.zero_mul, ixO_eq, sbN_eq, Int.toNat_zero, Int.toNat_one, F.n0, F.s0, F.k0, F.k1, F.v0, F.v1, F.g, tk_by, byV_ints, byV_len, Nat.mul_one, sd, R.n, R.s]
        repeat' (with_reducible apply And.intro)
        all_goals first | omega | (with_reducible assumption) | exact F.o27 _ | exact F.o29 _ | (with_reducible exact trivial) | (with_reducible rfl) | exact u8_by F.b0 | exact u8_by F.b1 | exact byV_eq _ | exact a1_by _ | exact byV_ren _ | exact fun e => nil_by e | skip
        all_goals first | exact R.o _ | exact G.o _ | exact hD | exact hse | (rw [hDl]; omega) | exact zz | exact zx | (simp only [List.length_cons, List.length_nil]; omega) | exact fun _ => trivial | skip
       ·refine ⟨rfl, rfl, rfl, ?_, rfl, ?_, rfl, ?_, rfl, rfl, trivial⟩
        ·exact rb_slg rfl rfl
        ·rw [List.length_append]; exact rb_slg rfl rfl
        ·rw [F.s0, F.k0]; exact rb_slg rfl rfl
       ·refine ⟨dw_row (m := 60) rfl (dw_eq ?_), df_row (m := 312) rfl (df_eq ?_), ow_row (m := 301) rfl (ow_eq ?_) (byV_ren _), sw_row (m := 0) rfl rfl, trivial⟩
        ·simp only [Nat.add_zero, F.n0, F.s0, sd, R.n, R.s, hdOf_hd]
        ·rw [cpD_snoc]; simp only [F.s0, F.k0, F.k1, F.v0, F.v1, F.g, tk_by, byV_fl, prD]; rfl
        ·rw [F.s0, F.v0]
      | false =>
       have hy : (newK ⟨H, m, false, last, []⟩ && (!dr || !p.2.2)) = false := by rw [hnw]; simp only [hd, hg, Bool.not_true, Bool.false_or, Bool.true_and, Bool.and_false]
       rw [hst _ hy, hpop] at nx
       simp only [cond_false] at nx
       simp only [mSl, mHp, mLs, cond_true, cond_false, hx] at nx ⊢
       refine LRuns.step (code_runsP mhX mhL0 (runZ_ok mhX mhTt mhL0 mixed 12) mixed (mh_e_Akm inr m 0 0 dr ds (hdD H) [] []) ?_) rfl (by omega) (by omega) (fun n => bif Nat.beq n 200 then 200 else 301) ?_ ?_ rfl nx
       ·
        simp only [Alls, rg, decide_eq_true_eq, decide_eq_false_iff_not, beq_iff_eq, beq_eq_false_iff_ne, Nat.add_zero, Nat.zero_add, Nat.zero_mul, ixO_eq, sbN_eq, Int.toNat_zero, Int.toNat_one, F.n0, F.s0, F.k0, F.k1, F.v0, F.v1, F.g, tk_by, byV_ints, byV_len, Nat.mul_one, sd, R.n, R.s]
        repeat' (with_reducible apply And.intro)
        all_goals first | omega | (with_reducible assumption) | exact F.o27 _ | exact F.o29 _ | (with_reducible exact trivial) | (with_reducible rfl) | exact u8_by F.b0 | exact u8_by F.b1 | exact byV_eq _ | exact a1_by _ | exact byV_ren _ | exact fun e => nil_by e | skip
        all_goals first | exact R.o _ | exact G.o _ | exact hD | exact hse | (rw [hDl]; omega) | exact zz | exact zx | (simp only [List.length_cons, List.length_nil]; omega) | exact fun _ => trivial | skip
       ·refine ⟨rfl, rfl, rfl, ?_, rfl, ?_, rfl, ?_, rfl, rfl, trivial⟩
        ·exact rb_slg rfl rfl
        ·rfl
        ·rw [F.s0, F.k0]; exact rb_slg rfl rfl
       ·refine ⟨dw_row (m := 60) rfl (dw_eq ?_), ow_row (m := 301) rfl (ow_eq ?_) (byV_ren _), sw_row (m := 0) rfl rfl, trivial⟩
        ·simp only [Nat.add_zero, F.n0, F.s0, sd, R.n, R.s, hdOf_hd]
        ·rw [F.s0, F.v0]
    | true =>
     have hse0 := strEq_I hLs b0
     cases out with
     | nil =>
      have hx : (0 : Nat) = 0 := rfl
      by_cases hle : last = p.1
      ·rw [decide_eq_true hle] at hse0
       have hse := hse0
       have hnw : newK ⟨H, m, true, last, []⟩ = false := by unfold newK; rw [hfp]; simp [hle]
       have hy : (newK ⟨H, m, true, last, []⟩ && (!dr || !p.2.2)) = false := by rw [hnw]; simp only [Bool.false_and]
       rw [hst _ hy, hpop] at nx
       simp only [cond_false] at nx
       simp only [mSl, mHp, mLs, cond_true, cond_false, hx] at nx ⊢
       refine LRuns.step (code_runsP mhX mhL0 (runZ_ok mhX mhTt mhL0 mixed 12) mixed (mh_e_Bqm inr m last.length 0 dr ds (hdD H) [] (byV last)) ?_) rfl (by omega) (by omega) (fun n => bif Nat.beq n 200 then 200 else 202) ?_ ?_ rfl nx
       ·
        simp only [Alls, rg, decide_eq_true_eq, decide_eq_false_iff_not, beq_iff_eq, beq_eq_false_iff_ne, Nat.add_zero, Nat.zero_add, Nat.zero_mul, ixO_eq, sbN_eq, Int.toNat_zero, Int.toNat_one, F.n0, F.s0, F.k0, F.k1, F.v0, F.v1, F.g, tk_by, byV_ints, byV_len, Nat.mul_one, sd, R.n, R.s]
        repeat' (with_reducible apply And.intro)
        all_goals first | omega | (with_reducible assumption) | exact F.o27 _ | exact F.o29 _ | (with_reducible exact trivial) | (with_reducible rfl) | exact u8_by F.b0 | exact u8_by F.b1 | exact byV_eq _ | exact a1_by _ | exact byV_ren _ | exact fun e => nil_by e | skip
        all_goals first | exact R.o _ | exact G.o _ | exact hD | exact hse | (rw [hDl]; omega) | exact zz | exact zx | (simp only [List.length_cons, List.length_nil]; omega) | exact fun _ => trivial | skip
       ·refine ⟨rfl, rfl, rfl, ?_, rfl, ?_, rfl, ?_, rfl, rfl, trivial⟩
        ·exact rb_slg rfl rfl
        ·rfl
        ·rw [← hle]; exact rb_slg rfl rfl
       ·refine ⟨dw_row (m := 60) rfl (dw_eq ?_), ow_row (m := 202) rfl (ow_eq ?_) (byV_ren _), sw_row (m := 0) rfl rfl, trivial⟩
        ·simp only [Nat.add_zero, F.n0, F.s0, sd, R.n, R.s, hdOf_hd]
        ·rw [hle]
      ·rw [decide_eq_false hle] at hse0
       have hse := hse0
       have hnw : newK ⟨H, m, true, last, []⟩ = true := by unfold newK; rw [hfp]; simp [hle]
       cases hd : !dr with
       | true =>
        have hy : (newK ⟨H, m, true, last, []⟩ && (!dr || !p.2.2)) = true := by rw [hnw]; simp only [hd, Bool.true_or, Bool.true_and]
        rw [hst _ hy, hpop] at nx
        simp only [cond_true] at nx
        simp only [mSl, mHp, mLs, cond_true, cond_false, hx] at nx ⊢
        rw [ouV_ne (by simp), moR_ne (by simp)] at nx
        refine LRuns.step (code_runsP mhX mhL0 (runZ_ok mhX mhTt mhL0 mixed 12) mixed (mh_e_Bdm inr m last.length 0 dr ds (hdD H) [] (byV last)) ?_) rfl (by omega) (by omega) (fun n => bif Nat.beq n 200 then 312 else 301) ?_ ?_ rfl nx
        ·
         simp only [Alls, rg, decide_eq_true_eq, decide_eq_false_iff_not, beq_iff_eq, beq_eq_false_iff_ne, Nat.add_zero, Nat.zero_add, Nat.zero_mul, ixO_eq, sbN_eq, Int.toNat_zero, Int.toNat_one, F.n0, F.s0, F.k0, F.k1, F.v0, F.v1, F.g, tk_by, byV_ints, byV_len, Nat.mul_one, sd, R.n, R.s]
         repeat' (with_reducible apply And.intro)
         all_goals first | omega | (with_reducible assumption) | exact F.o27 _ | exact F.o29 _ | (with_reducible exact trivial) | (with_reducible rfl) | exact u8_by F.b0 | exact u8_by F.b1 | exact byV_eq _ | exact a1_by _ | exact byV_ren _ | exact fun e => nil_by e | skip
         all_goals first | exact R.o _ | exact G.o _ | exact hD | exact hse | (rw [hDl]; omega) | exact zz | exact zx | (simp only [List.length_cons, List.length_nil]; omega) | exact fun _ => trivial | skip
        ·refine ⟨rfl, rfl, rfl, ?_, rfl, ?_, rfl, ?_, rfl, rfl, trivial⟩
         ·exact rb_slg rfl rfl
         ·rw [List.length_append]; exact rb_slg rfl rfl
         ·rw [F.s0, F.k0]; exact rb_slg rfl rfl
        ·refine ⟨dw_row (m := 60) rfl (dw_eq ?_), df_row (m := 312) rfl (df_eq ?_), ow_row (m := 301) rfl (ow_eq ?_) (byV_ren _), sw_row (m := 0) rfl rfl, trivial⟩
         ·simp only [Nat.add_zero, F.n0, F.s0, sd, R.n, R.s, hdOf_hd]
         ·rw [cpD_snoc]; simp only [F.s0, F.k0, F.k1, F.v0, F.v1, F.g, tk_by, byV_fl, prD]; rfl
         ·rw [F.s0, F.v0]
       | false =>
        cases hg : !p.2.2 with
        | true =>
         have hy : (newK ⟨H, m, true, last, []⟩ && (!dr || !p.2.2)) = true := by rw [hnw]; simp only [hd, hg, Bool.not_false, Bool.not_true, Bool.or_true, Bool.true_and, Bool.false_or]
         rw [hst _ hy, hpop] at nx
         simp only [cond_true] at nx
         simp only [mSl, mHp, mLs, cond_true, cond_false, hx] at nx ⊢
         rw [ouV_ne (by simp), moR_ne (by simp)] at nx
         refine LRuns.step (code_runsP mhX mhL0 (runZ_ok mhX mhTt mhL0 mixed 12) mixed (mh_e_Bgm inr m last.length 0 dr ds (hdD H) [] (byV last)) ?_) rfl (by omega) (by omega) (fun n => bif Nat.beq n 200 then 312 else 301) ?_ ?_ rfl nx
         ·
          simp only [Alls, rg, decide_eq_true_eq, decide_eq_false_iff_not, beq_iff_eq, beq_eq_false_iff_ne, Nat.add_zero, Nat.zero_add, Nat.zero_mul, ixO_eq, sbN_eq, Int.toNat_zero, Int.toNat_one, F.n0, F.s0, F.k0, F.k1, F.v0, F.v1, F.g, tk_by, byV_ints, byV_len, Nat.mul_one, sd, R.n, R.s]
          repeat' (with_reducible apply And.intro)
          all_goals first | omega | (with_reducible assumption) | exact F.o27 _ | exact F.o29 _ | (with_reducible exact trivial) | (with_reducible rfl) | exact u8_by F.b0 | exact u8_by F.b1 | exact byV_eq _ | exact a1_by _ | exact byV_ren _ | exact fun e => nil_by e | skip
          all_goals first | exact R.o _ | exact G.o _ | exact hD | exact hse | (rw [hDl]; omega) | exact zz | exact zx | (simp only [List.length_cons, List.length_nil]; omega) | exact fun _ => trivial | skip
         ·refine ⟨rfl, rfl, rfl, ?_, rfl, ?_, rfl, ?_, rfl, rfl, trivial⟩
          ·exact rb_slg rfl rfl
          ·rw [List.length_append]; exact rb_slg rfl rfl
          ·rw [F.s0, F.k0]; exact rb_slg rfl rfl
         ·refine ⟨dw_row (m := 60) rfl (dw_eq ?_), df_row (m := 312) rfl (df_eq ?_), ow_row (m := 301) rfl (ow_eq ?_) (byV_ren _), sw_row (m := 0) rfl rfl, trivial⟩
          ·simp only [Nat.add_zero, F.n0, F.s0, sd, R.n, R.s, hdOf_hd]
          ·rw [cpD_snoc]; simp only [F.s0, F.k0, F.k1, F.v0, F.v1, F.g, tk_by, byV_fl, prD]; rfl
          ·rw [F.s0, F.v0]
        | false =>
         have hy : (newK ⟨H, m, true, last, []⟩ && (!dr || !p.2.2)) = false := by rw [hnw]; simp only [hd, hg, Bool.not_true, Bool.false_or, Bool.true_and, Bool.and_false]
         rw [hst _ hy, hpop] at nx
         simp only [cond_false] at nx
         simp only [mSl, mHp, mLs, cond_true, cond_false, hx] at nx ⊢
         refine LRuns.step (code_runsP mhX mhL0 (runZ_ok mhX mhTt mhL0 mixed 12) mixed (mh_e_Bkm inr m last.length 0 dr ds (hdD H) [] (byV last)) ?_) rfl (by omega) (by omega) (fun n => bif Nat.beq n 200 then 200 else 301) ?_ ?_ rfl nx
         ·
          simp only [Alls, rg, decide_eq_true_eq, decide_eq_false_iff_not, beq_iff_eq, beq_eq_false_iff_ne, Nat.add_zero, Nat.zero_add, Nat.zero_mul, ixO_eq, sbN_eq, Int.toNat_zero, Int.toNat_one, F.n0, F.s0, F.k0, F.k1, F.v0, F.v1, F.g, tk_by, byV_ints, byV_len, Nat.mul_one, sd, R.n, R.s]
          repeat' (with_reducible apply And.intro)
          all_goals first | omega | (with_reducible assumption) | exact F.o27 _ | exact F.o29 _ | (with_reducible exact trivial) | (with_reducible rfl) | exact u8_by F.b0 | exact u8_by F.b1 | exact byV_eq _ | exact a1_by _ | exact byV_ren _ | exact fun e => nil_by e | skip
          all_goals first | exact R.o _ | exact G.o _ | exact hD | exact hse | (rw [hDl]; omega) | exact zz | exact zx | (simp only [List.length_cons, List.length_nil]; omega) | exact fun _ => trivial | skip
         ·refine ⟨rfl, rfl, rfl, ?_, rfl, ?_, rfl, ?_, rfl, rfl, trivial⟩
          ·exact rb_slg rfl rfl
          ·rfl
          ·rw [F.s0, F.k0]; exact rb_slg rfl rfl
         ·refine ⟨dw_row (m := 60) rfl (dw_eq ?_), ow_row (m := 301) rfl (ow_eq ?_) (byV_ren _), sw_row (m := 0) rfl rfl, trivial⟩
          ·simp only [Nat.add_zero, F.n0, F.s0, sd, R.n, R.s, hdOf_hd]
          ·rw [F.s0, F.v0]
     | cons x t =>
      have hx : (0 : Nat) = 0 := rfl
      by_cases hle : last = p.1
      ·rw [decide_eq_true hle] at hse0
       have hse := hse0
       have hnw : newK ⟨H, m, true, last, x :: t⟩ = false := by unfold newK; rw [hfp]; simp [hle]
       have hy : (newK ⟨H, m, true, last, (x :: t)⟩ && (!dr || !p.2.2)) = false := by rw [hnw]; simp only [Bool.false_and]
       rw [hst _ hy, hpop] at nx
       simp only [cond_false] at nx
       simp only [mSl, mHp, mLs, cond_true, cond_false, hx] at nx ⊢
       rw [ouV_ne (by simp), moR_ne (by simp)] at nx
       rw [ouV_ne (by simp), moR_ne (by simp)]
       refine LRuns.step (code_runsP mhX mhL0 (runZ_ok mhX mhTt mhL0 mixed 12) mixed (mh_e_Cqm inr m last.length (x :: t).length dr ds (hdD H) (cpD (x :: t)) (byV last)) ?_) rfl (by omega) (by omega) (fun n => bif Nat.beq n 200 then 200 else 202) ?_ ?_ rfl nx
       ·
        simp only [Alls, rg, decide_eq_true_eq, decide_eq_false_iff_not, beq_iff_eq, beq_eq_false_iff_ne, Nat.add_zero, Nat.zero_add, Nat.zero_mul, ixO_eq, sbN_eq, Int.toNat_zero, Int.toNat_one, F.n0, F.s0, F.k0, F.k1, F.v0, F.v1, F.g, tk_by, byV_ints, byV_len, Nat.mul_one, sd, R.n, R.s]
        repeat' (with_reducible apply And.intro)
        all_goals first | omega | (with_reducible assumption) | exact F.o27 _ | exact F.o29 _ | (with_reducible exact trivial) | (with_reducible rfl) | exact u8_by F.b0 | exact u8_by F.b1 | exact byV_eq _ | exact a1_by _ | exact byV_ren _ | exact fun e => nil_by e | skip
        all_goals first | exact R.o _ | exact G.o _ | exact hD | exact hse | (rw [hDl]; omega) | exact zz | exact zx | (simp only [List.length_cons, List.length_nil]; omega) | exact fun _ => trivial | skip
       ·refine ⟨rfl, rfl, rfl, ?_, rfl, ?_, rfl, ?_, rfl, rfl, trivial⟩
        ·exact rb_slg rfl rfl
        ·exact rb_slg rfl rfl
        ·rw [← hle]; exact rb_slg rfl rfl
       ·refine ⟨dw_row (m := 60) rfl (dw_eq ?_), df_row (m := 200) rfl rfl, ow_row (m := 202) rfl (ow_eq ?_) (byV_ren _), sw_row (m := 0) rfl rfl, trivial⟩
        ·simp only [Nat.add_zero, F.n0, F.s0, sd, R.n, R.s, hdOf_hd]
        ·rw [hle]
      ·rw [decide_eq_false hle] at hse0
       have hse := hse0
       have hnw : newK ⟨H, m, true, last, x :: t⟩ = true := by unfold newK; rw [hfp]; simp [hle]
       cases hd : !dr with
       | true =>
        have hy : (newK ⟨H, m, true, last, (x :: t)⟩ && (!dr || !p.2.2)) = true := by rw [hnw]; simp only [hd, Bool.true_or, Bool.true_and]
        rw [hst _ hy, hpop] at nx
        simp only [cond_true] at nx
        simp only [mSl, mHp, mLs, cond_true, cond_false, hx] at nx ⊢
        rw [ouV_ne (by simp), moR_ne (by simp)] at nx
        rw [ouV_ne (by simp), moR_ne (by simp)]
        refine LRuns.step (code_runsP mhX mhL0 (runZ_ok mhX mhTt mhL0 mixed 12) mixed (mh_e_Cdm inr m last.length (x :: t).length dr ds (hdD H) (cpD (x :: t)) (byV last)) ?_) rfl (by omega) (by omega) (fun n => bif Nat.beq n 200 then 312 else 301) ?_ ?_ rfl nx
        ·
         simp only [Alls, rg, decide_eq_true_eq, decide_eq_false_iff_not, beq_iff_eq, beq_eq_false_iff_ne, Nat.add_zero, Nat.zero_add, Nat.zero_mul, ixO_eq, sbN_eq, Int.toNat_zero, Int.toNat_one, F.n0, F.s0, F.k0, F.k1, F.v0, F.v1, F.g, tk_by, byV_ints, byV_len, Nat.mul_one, sd, R.n, R.s]
         repeat' (with_reducible apply And.intro)
         all_goals first | omega | (with_reducible assumption) | exact F.o27 _ | exact F.o29 _ | (with_reducible exact trivial) | (with_reducible rfl) | exact u8_by F.b0 | exact u8_by F.b1 | exact byV_eq _ | exact a1_by _ | exact byV_ren _ | exact fun e => nil_by e | skip
         all_goals first | exact R.o _ | exact G.o _ | exact hD | exact hse | (rw [hDl]; omega) | exact zz | exact zx | (simp only [List.length_cons, List.length_nil]; omega) | exact fun _ => trivial | skip
        ·refine ⟨rfl, rfl, rfl, ?_, rfl, ?_, rfl, ?_, rfl, rfl, trivial⟩
         ·exact rb_slg rfl rfl
         ·rw [List.length_append]; exact rb_slg rfl rfl
         ·rw [F.s0, F.k0]; exact rb_slg rfl rfl
        ·refine ⟨dw_row (m := 60) rfl (dw_eq ?_), df_row (m := 312) rfl (df_eq ?_), ow_row (m := 301) rfl (ow_eq ?_) (byV_ren _), sw_row (m := 0) rfl rfl, trivial⟩
         ·simp only [Nat.add_zero, F.n0, F.s0, sd, R.n, R.s, hdOf_hd]
         ·rw [cpD_snoc]; simp only [F.s0, F.k0, F.k1, F.v0, F.v1, F.g, tk_by, byV_fl, prD]
         ·rw [F.s0, F.v0]
       | false =>
        cases hg : !p.2.2 with
        | true =>
         have hy : (newK ⟨H, m, true, last, (x :: t)⟩ && (!dr || !p.2.2)) = true := by rw [hnw]; simp only [hd, hg, Bool.not_false, Bool.not_true, Bool.or_true, Bool.true_and, Bool.false_or]
         rw [hst _ hy, hpop] at nx
         simp only [cond_true] at nx
         simp only [mSl, mHp, mLs, cond_true, cond_false, hx] at nx ⊢
         rw [ouV_ne (by simp), moR_ne (by simp)] at nx
         rw [ouV_ne (by simp), moR_ne (by simp)]
         refine LRuns.step (code_runsP mhX mhL0 (runZ_ok mhX mhTt mhL0 mixed 12) mixed (mh_e_Cgm inr m last.length (x :: t).length dr ds (hdD H) (cpD (x :: t)) (byV last)) ?_) rfl (by omega) (by omega) (fun n => bif Nat.beq n 200 then 312 else 301) ?_ ?_ rfl nx
         ·
          simp only [Alls, rg, decide_eq_true_eq, decide_eq_false_iff_not, beq_iff_eq, beq_eq_false_iff_ne, Nat.add_zero, Nat.zero_add, Nat.zero_mul, ixO_eq, sbN_eq, Int.toNat_zero, Int.toNat_one, F.n0, F.s0, F.k0, F.k1, F.v0, F.v1, F.g, tk_by, byV_ints, byV_len, Nat.mul_one, sd, R.n, R.s]
          repeat' (with_reducible apply And.intro)
          all_goals first | omega | (with_reducible assumption) | exact F.o27 _ | exact F.o29 _ | (with_reducible exact trivial) | (with_reducible rfl) | exact u8_by F.b0 | exact u8_by F.b1 | exact byV_eq _ | exact a1_by _ | exact byV_ren _ | exact fun e => nil_by e | skip
          all_goals first | exact R.o _ | exact G.o _ | exact hD | exact hse | (rw [hDl]; omega) | exact zz | exact zx | (simp only [List.length_cons, List.length_nil]; omega) | exact fun _ => trivial | skip
         ·refine ⟨rfl, rfl, rfl, ?_, rfl, ?_, rfl, ?_, rfl, rfl, trivial⟩
          ·exact rb_slg rfl rfl
          ·rw [List.length_append]; exact rb_slg rfl rfl
          ·rw [F.s0, F.k0]; exact rb_slg rfl rfl
         ·refine ⟨dw_row (m := 60) rfl (dw_eq ?_), df_row (m := 312) rfl (df_eq ?_), ow_row (m := 301) rfl (ow_eq ?_) (byV_ren _), sw_row (m := 0) rfl rfl, trivial⟩
          ·simp only [Nat.add_zero, F.n0, F.s0, sd, R.n, R.s, hdOf_hd]
          ·rw [cpD_snoc]; simp only [F.s0, F.k0, F.k1, F.v0, F.v1, F.g, tk_by, byV_fl, prD]
          ·rw [F.s0, F.v0]
        | false =>
         have hy : (newK ⟨H, m, true, last, (x :: t)⟩ && (!dr || !p.2.2)) = false := by rw [hnw]; simp only [hd, hg, Bool.not_true, Bool.false_or, Bool.true_and, Bool.and_false]
         rw [hst _ hy, hpop] at nx
         simp only [cond_false] at nx
         simp only [mSl, mHp, mLs, cond_true, cond_false, hx] at nx ⊢
         rw [ouV_ne (by simp), moR_ne (by simp)] at nx
         rw [ouV_ne (by simp), moR_ne (by simp)]
         refine LRuns.step (code_runsP mhX mhL0 (runZ_ok mhX mhTt mhL0 mixed 12) mixed (mh_e_Ckm inr m last.length (x :: t).length dr ds (hdD H) (cpD (x :: t)) (byV last)) ?_) rfl (by omega) (by omega) (fun n => bif Nat.beq n 200 then 200 else 301) ?_ ?_ rfl nx
         ·
          simp only [Alls, rg, decide_eq_true_eq, decide_eq_false_iff_not, beq_iff_eq, beq_eq_false_iff_ne, Nat.add_zero, Nat.zero_add, Nat.zero_mul, ixO_eq, sbN_eq, Int.toNat_zero, Int.toNat_one, F.n0, F.s0, F.k0, F.k1, F.v0, F.v1, F.g, tk_by, byV_ints, byV_len, Nat.mul_one, sd, R.n, R.s]
          repeat' (with_reducible apply And.intro)
          all_goals first | omega | (with_reducible assumption) | exact F.o27 _ | exact F.o29 _ | (with_reducible exact trivial) | (with_reducible rfl) | exact u8_by F.b0 | exact u8_by F.b1 | exact byV_eq _ | exact a1_by _ | exact byV_ren _ | exact fun e => nil_by e | skip
          all_goals first | exact R.o _ | exact G.o _ | exact hD | exact hse | (rw [hDl]; omega) | exact zz | exact zx | (simp only [List.length_cons, List.length_nil]; omega) | exact fun _ => trivial | skip
         ·refine ⟨rfl, rfl, rfl, ?_, rfl, ?_, rfl, ?_, rfl, rfl, trivial⟩
          ·exact rb_slg rfl rfl
          ·exact rb_slg rfl rfl
          ·rw [F.s0, F.k0]; exact rb_slg rfl rfl
         ·refine ⟨dw_row (m := 60) rfl (dw_eq ?_), df_row (m := 200) rfl rfl, ow_row (m := 301) rfl (ow_eq ?_) (byV_ren _), sw_row (m := 0) rfl rfl, trivial⟩
          ·simp only [Nat.add_zero, F.n0, F.s0, sd, R.n, R.s, hdOf_hd]
          ·rw [F.s0, F.v0]
end Go.Proofs.Ytmoflcoijmmpjaa
