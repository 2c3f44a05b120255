/-
  Chapter 14: exchequerref14.Merge: the laws of its loops, its contract.
-/
import Derived.Test.YtmoflcoijmmpjaaGrBB
namespace Go.Proofs.Ytmoflcoijmmpjaa
set_option linter.unusedSimpArgs false
set_option linter.unusedVariables false
set_option linter.unusedSectionVars false
open Go Go.RowKit
theorem rmX {L : LFun} {p : Pr} {y : List Int} : XOkZ (rmV L p y) Try.prog := XOneZ.ok cmpY_ok rfl
theorem rmT_one (p : Pr) (y : List Int) : TOneZ Try.prog (rmT p y) := orTz_ok (mkD_ok rs_gok) (orTz_ok (mkO_ok (rf_gok p)) (mkO_ok (le_gok y)))
theorem rmTt {L : LFun} {p : Pr} {y : List Int} : TOkZ (rmV L p y) Try.prog := T_okV rfl (rmT_one p y)
theorem rmL0 {p : Pr} {y : List Int} : LOkZ (rmV noL p y) Try.prog := noL_okV rfl
theorem rm_sum {inr : Bool} {h0 : Hp} {L : List (List Pr)} {n : Nat} {dr : Bool} (hL : LL L n) : ∀ (r i : Nat), i + r = n →
  LRuns inr Try.prog (bodyIn Try.prog 13 3) 4 20 h0 76 [(0, llA n), (1, .bool dr), (6, mhI (sumL (L.take i) : Nat)), (7, iV i)] [(0, ⟨.sw (llD L), []⟩)] 10 (.exit 0, [(0, llA n), (1, .bool dr), (6, mhI (sumL L : Nat))], [(0, ⟨.sw (llD L), []⟩)])
 | 0, i, hr => by
   have hl := hL.l
   rw [List.take_of_length_le (show L.length ≤ i by omega)]
   refine LRuns.exit (code_runsP rmX rmL0 (runZ_ok rmX rmTt rmL0 mixed 9) mixed (rm_a_x inr n i _ dr (llD L)) ?_) (by intro e; cases e) rfl (by omega) (by omega) (fun n => n) ?_ ?_ rfl
   ·simp only [Alls, decide_eq_false_iff_not]
    exact ⟨by omega, trivial⟩
   ·exact ⟨rfl, rb_slg rfl rfl, rfl, rfl, rfl, rfl, trivial⟩
   ·exact ⟨sw_row rfl rfl, trivial⟩
 | r + 1, i, hr => by
   have hl := hL.l
   have hn9 := hL.n9
   have hi : i < L.length := by omega
   obtain ⟨l, hx⟩ : ∃ l, L[i]? = some l := ⟨L[i], List.getElem?_eq_getElem hi⟩
   have A := ll_at hx
   have hlm := hL.m l (List.mem_of_getElem? hx)
   have hs := sumL_le (L := L.take i) fun x hx => hL.m x (List.mem_of_mem_take hx)
   rw [List.length_take] at hs
   have hs2 : sumL (L.take (i + 1)) = sumL (L.take i) + l.length := by rw [takeI_snoc hx, sumL_snoc]
   have es : adI ((sumL (L.take i) : Nat) : Int) (l.length : Int) = ((sumL (L.take (i + 1)) : Nat) : Int) := by rw [adI_eq, hs2]; omega
   have o1 := A.o 10
   refine LRuns.step (code_runsP rmX rmL0 (runZ_ok rmX rmTt rmL0 mixed 9) mixed (rm_a_go inr n i _ dr (llD L)) ?_) rfl (by omega) (by omega) (fun n => n) ?_ ?_ rfl (rm_sum hL r (i + 1) (by omega))
   ·simp only [Alls, rg, decide_eq_true_eq, Nat.add_zero, A.n, es]
    repeat' (with_reducible apply And.intro)
    all_goals first | omega | (with_reducible assumption) | (with_reducible exact trivial)
   ·refine ⟨rfl, rb_slg rfl rfl, rfl, rfl, rfl, ?_, rfl, rfl, trivial⟩
    simp only [Nat.add_zero, A.n, es]
    first | done | rfl
   ·exact ⟨sw_row (m := 0) rfl rfl, trivial⟩
theorem rm_srt {inr : Bool} {h0 : Hp} {L : List (List Pr)} {n : Nat} {dr : Bool} (hL : LL L n) : ∀ (r i : Nat), i + r = n →
  LRuns inr Try.prog (bodyIn Try.prog 13 9) 20 40 h0 76 [(0, llA n), (1, .bool dr), (8, iV i)] [(0, ⟨.sw (llD L), []⟩)] 30
   (bif allA (L.drop i) then (.exit 2, [(0, llA n), (1, .bool dr)], [(0, ⟨.sw (llD L), []⟩)]) else (.ret, [(4, nlV), (5, mhI 2)], [(0, ⟨.sw (llD L), []⟩)]))
 | 0, i, hr => by
   have hl := hL.l
   rw [List.drop_of_length_le (show L.length ≤ i by omega)]
   refine LRuns.exit (code_runsP rmX rmL0 (runZ_ok rmX rmTt rmL0 mixed 9) mixed (rm_b_x inr n i 0 dr (llD L)) ?_) (by intro e; cases e) rfl (by omega) (by omega) (fun n => n) ?_ ?_ rfl
   ·simp only [Alls, decide_eq_false_iff_not]
    exact ⟨by omega, trivial⟩
   ·exact ⟨rfl, rb_slg rfl rfl, rfl, rfl, trivial⟩
   ·exact ⟨sw_row (m := 0) rfl rfl, trivial⟩
 | r + 1, i, hr => by
   have hl := hL.l
   have hn9 := hL.n9
   have hi : i < L.length := by omega
   obtain ⟨l, hx⟩ : ∃ l, L[i]? = some l := ⟨L[i], List.getElem?_eq_getElem hi⟩
   have hlm := List.mem_of_getElem? hx
   have A := ll_at hx
   have hm := hL.m l hlm
   have hd : L.drop i = l :: L.drop (i + 1) := by
    obtain ⟨h1, h2⟩ := List.getElem?_eq_some_iff.1 hx
    rw [List.drop_eq_getElem_cons hi, h2]
   have hS : SoOk (cpD l) l.length (asc l) := ⟨by rw [prsOf_cp]; exact cpD_prs l, by rw [prsOf_cp]; exact hL.O l hlm, by rw [prsOf_cp], hm, by rw [prsOf_cp]⟩
   rw [hd]
   show LRuns _ _ _ _ _ _ _ _ _ _ (bif (asc l && allA (L.drop (i + 1))) then _ else _)
   cases hs : asc l with
   | false =>
    rw [hs] at hS
    refine LRuns.exit (code_runsP rmX rmL0 (runZ_ok rmX rmTt rmL0 mixed 9) mixed (rm_b_no inr n i 0 dr (llD L)) ?_) (by intro e; cases e) rfl (by omega) (by omega) (fun n => n) ?_ ?_ rfl
    ·
     simp only [Alls, rg, decide_eq_true_eq, decide_eq_false_iff_not, Nat.add_zero, A.n, A.s, cp_all, cnL_cp]
     repeat' (with_reducible apply And.intro)
     all_goals first | omega | (with_reducible assumption) | exact A.o _ | (with_reducible exact trivial) | (with_reducible rfl) | skip
    ·exact ⟨rfl, rfl, rfl, rfl, trivial⟩
    ·exact ⟨sw_row (m := 0) rfl rfl, trivial⟩
   | true =>
    rw [hs] at hS
    simp only [Bool.true_and]
    refine LRuns.step (code_runsP rmX rmL0 (runZ_ok rmX rmTt rmL0 mixed 9) mixed (rm_b_go inr n i 0 dr (llD L)) ?_) rfl (by omega) (by omega) (fun n => n) ?_ ?_ rfl (rm_srt hL r (i + 1) (by omega))
    ·
     simp only [Alls, rg, decide_eq_true_eq, decide_eq_false_iff_not, Nat.add_zero, A.n, A.s, cp_all, cnL_cp]
     repeat' (with_reducible apply And.intro)
     all_goals first | omega | (with_reducible assumption) | exact A.o _ | (with_reducible exact trivial) | (with_reducible rfl) | skip
    ·exact ⟨rfl, rb_slg rfl rfl, rfl, rfl, rfl, rfl, trivial⟩
    ·exact ⟨sw_row (m := 0) rfl rfl, trivial⟩
def doR (out : List Pr) (t : Hp) : Hp := match out with | [] => t | _ => (200, ⟨.dw 3 zPr (cpD out), []⟩) :: t
theorem doR_ne {out : List Pr} (h : out ≠ []) (t : Hp) : doR out t = (200, ⟨.dw 3 zPr (cpD out), []⟩) :: t := by cases out with | nil => exact absurd rfl h | cons x l => rfl
def rkL (n : Nat) (dr : Bool) (out : List Pr) (k : Option (List Int)) : List (Nat × Value) := [(0, llA n), (1, .bool dr), (9, ouV out), (10, oV 202 k), (11, .bool k.isSome)]
def rkH (ds : List DV) (out : List Pr) (k : Option (List Int)) : Hp := doR out (match k with | none => [(0, ⟨.sw ds, []⟩)] | some y => [(202, ⟨.ow, byV y⟩), (0, ⟨.sw ds, []⟩)])
def rkO (dr : Bool) (L : List (List Pr)) (k : List Int) (out : List Pr) : List Pr := match fnd L k with | some p => bif !dr || !p.2.2 then out ++ [p] else out | none => out
theorem zPw_eq {Y X : List DV} (h : Y = X) : some (Rw.mk (.dw 3 zPr Y) []) = some (Rw.mk (.dw 3 zPr X) []) := by rw [h]
set_option maxHeartbeats 4000000 in
theorem rm_main {inr : Bool} {h0 : Hp} {L : List (List Pr)} {n : Nat} {dr : Bool} (hL : FdLL L n) : ∀ (f : Nat) (b : Option (List Int)) (out : List Pr), lfK b (ksL L) ≤ f → out.length + f ≤ 9000000000 →
  LRuns inr Try.prog (bodyIn Try.prog 13 15) 41 400 h0 76 (rkL n dr out (lsK b (ksL L) none)) (rkH (llD L) out (lsK b (ksL L) none)) 300 (.exit 4, [(9, ouV (rfM dr L f (lsK b (ksL L) none) out))], doR (rfM dr L f (lsK b (ksL L) none) out) [(0, ⟨.sw (llD L), []⟩)])
 | f, b, out, hf, ho => by
   have hl := hL.l
   have hn9 := hL.n9
   have etk : cnL ((llD L).take (mlN n 1)) = llD L := by rw [mlN_eq, Nat.mul_one, List.take_of_length_le (by rw [llD_len]; omega), cnL_ll]
   have etk2 : cnL ((llD L).take n) = llD L := by rw [List.take_of_length_le (by rw [llD_len]; omega), cnL_ll]
   cases hk : lsK b (ksL L) none with
   | none =>
    have er : rfM dr L f none out = out := by cases f <;> rfl
    rw [er]
    cases out with
    | nil =>
     cases dr with
     | false =>
      refine LRuns.exit (code_runsP rmX rmL0 (runZ_ok rmX rmTt rmL0 mixed 9) mixed (rm_c_nxf inr n 0 0 (llD L) [] [] rmP []) ?_) (by intro e; cases e) rfl (by omega) (by omega) (fun n => n) ?_ ?_ rfl
      ·simp only [Alls]
      ·exact ⟨rfl, rfl, trivial⟩
      ·exact ⟨sw_row (m := 0) rfl rfl, trivial⟩
     | true =>
      refine LRuns.exit (code_runsP rmX rmL0 (runZ_ok rmX rmTt rmL0 mixed 9) mixed (rm_c_nxt inr n 0 0 (llD L) [] [] rmP []) ?_) (by intro e; cases e) rfl (by omega) (by omega) (fun n => n) ?_ ?_ rfl
      ·simp only [Alls]
      ·exact ⟨rfl, rfl, trivial⟩
      ·exact ⟨sw_row (m := 0) rfl rfl, trivial⟩
    | cons x t =>
     cases dr with
     | false =>
      refine LRuns.exit (code_runsP rmX rmL0 (runZ_ok rmX rmTt rmL0 mixed 9) mixed (rm_c_rxf inr n 0 (x :: t).length (llD L) (cpD (x :: t)) [] rmP []) ?_) (by intro e; cases e) rfl (by omega) (by omega) (fun n => n) ?_ ?_ rfl
      ·simp only [Alls]
      ·exact ⟨rfl, rb_slg rfl rfl, trivial⟩
      ·exact ⟨dw_row (m := 200) rfl rfl, sw_row (m := 0) rfl rfl, trivial⟩
     | true =>
      refine LRuns.exit (code_runsP rmX rmL0 (runZ_ok rmX rmTt rmL0 mixed 9) mixed (rm_c_rxt inr n 0 (x :: t).length (llD L) (cpD (x :: t)) [] rmP []) ?_) (by intro e; cases e) rfl (by omega) (by omega) (fun n => n) ?_ ?_ rfl
      ·simp only [Alls]
      ·exact ⟨rfl, rb_slg rfl rfl, trivial⟩
      ·exact ⟨dw_row (m := 200) rfl rfl, sw_row (m := 0) rfl rfl, trivial⟩
   | some k =>
    obtain ⟨h1, h2, _⟩ := (lsK_is b (ksL L)).s k hk
    obtain ⟨p, hp⟩ := ksL_fnd.1 h1
    obtain ⟨l0, g1, g2, gk⟩ := fnd_mem hp
    have hpo := (hL.L l0 g1).O p g2
    have bk : ∀ x ∈ k, 0 ≤ x ∧ x < 256 := by rw [← gk]; exact hpo.1
    have hK : FdK (byV k) k.length (intsOf (byV k)) := by rw [byV_ints]; exact ⟨rfl, rfl, bk⟩
    have hfo : FoOk (llD L) (byV k) k.length n := ⟨hK, by rw [llOf_ll], by rw [llOf_ll]; exact hL⟩
    have hfd : fnd (llOf (llD L)) (intsOf (byV k)) = some p := by rw [llOf_ll, byV_ints]; exact hp
    have hless := lfK_less h1 h2
    obtain ⟨f, rfl⟩ : ∃ g, f = g + 1 := ⟨f - 1, by omega⟩
    have er : rfM dr L (f + 1) (some k) out = rfM dr L f (lsK (some k) (ksL L) none) (rkO dr L k out) := rfl
    rw [er]
    have hol : (rkO dr L k out).length ≤ out.length + 1 := by
     unfold rkO
     rw [hp]
     simp only
     cases (!dr || !p.2.2) <;> simp
    have nx := rm_main (inr := inr) (h0 := h0) (dr := dr) hL f (some k) (rkO dr L k out) (by omega) (by omega)
    obtain ⟨ro, hro⟩ : ∃ ro, rfM dr L f (lsK (some k) (ksL L) none) (rkO dr L k out) = ro := ⟨_, rfl⟩
    rw [hro] at nx ⊢
    have hcd := cpD_len out
    have bq : ∀ y, lsK (some k) (ksL L) none = y → lsK (bhv false (intsOf (byV k))) (ksL (llOf (llD L))) none = y := fun y h => by rw [llOf_ll, byV_ints]; exact h
    cases hq : lsK (some k) (ksL L) none with
    | none =>
     rw [hq] at nx
     have hnx := bq _ hq
     cases hy : (!dr || !p.2.2) with
     | false =>
      have ek : rkO dr L k out = out := by unfold rkO; rw [hp]; simp only [hy, cond_true, cond_false]
      rw [ek] at nx
      cases dr with
      | false => simp at hy
      | true =>
       have hg : (!p.2.2) = false := by simpa using hy
       cases out with
       | nil =>
        refine LRuns.step (code_runsP rmX rmL0 (runZ_ok rmX rmTt rmL0 mixed 9) mixed (rm_c_ndn inr n k.length 0 (llD L) [] (byV k) p []) ?_) rfl (by omega) (by omega) (fun n => bif Nat.beq n 200 then 200 else bif Nat.beq n 202 then 303 else n) ?_ ?_ rfl nx
        ·
         simp only [Alls, rg, List.drop_zero, etk2, hcd]
         repeat' (with_reducible apply And.intro)
         all_goals first | omega | (with_reducible assumption) | (with_reducible exact trivial) | (with_reducible rfl) | exact byV_ren _ | exact fun e => nil_by e | exact hfo | exact hfd | exact hnx | exact hg | skip
        ·exact ⟨rfl, rb_slg rfl rfl, rfl, rfl, rfl, rfl, rfl, rfl, rfl, rfl, trivial⟩
        ·exact ⟨sw_row (m := 0) rfl rfl, trivial⟩
       | cons x t =>
        refine LRuns.step (code_runsP rmX rmL0 (runZ_ok rmX rmTt rmL0 mixed 9) mixed (rm_c_rdn inr n k.length (x :: t).length (llD L) (cpD (x :: t)) (byV k) p []) ?_) rfl (by omega) (by omega) (fun n => bif Nat.beq n 200 then 200 else bif Nat.beq n 202 then 303 else n) ?_ ?_ rfl nx
        ·
         simp only [Alls, rg, List.drop_zero, etk2, hcd]
         repeat' (with_reducible apply And.intro)
         all_goals first | omega | (with_reducible assumption) | (with_reducible exact trivial) | (with_reducible rfl) | exact byV_ren _ | exact fun e => nil_by e | exact hfo | exact hfd | exact hnx | exact hg | skip
        ·exact ⟨rfl, rb_slg rfl rfl, rfl, rfl, rfl, rb_slg rfl rfl, rfl, rfl, rfl, rfl, trivial⟩
        ·exact ⟨dw_row (m := 200) rfl rfl, sw_row (m := 0) rfl rfl, trivial⟩
     | true =>
      have ek : rkO dr L k out = out ++ [p] := by unfold rkO; rw [hp]; simp only [hy, cond_true, cond_false]
      rw [ek] at nx
      cases dr with
      | false =>
       cases out with
       | nil =>
        rw [show (([] ++ [p] : List Pr)) = [p] from rfl] at nx
        refine LRuns.step (code_runsP rmX rmL0 (runZ_ok rmX rmTt rmL0 mixed 9) mixed (rm_c_nan inr n k.length 0 (llD L) [] (byV k) p []) ?_) rfl (by omega) (by omega) (fun n => bif Nat.beq n 200 then 305 else bif Nat.beq n 202 then 306 else n) ?_ ?_ rfl nx
        ·
         simp only [Alls, rg, List.drop_zero, etk2, hcd]
         repeat' (with_reducible apply And.intro)
         all_goals first | omega | (with_reducible assumption) | (with_reducible exact trivial) | (with_reducible rfl) | exact byV_ren _ | exact fun e => nil_by e | exact hfo | exact hfd | exact hnx | exact hg | skip
        ·exact ⟨rfl, rb_slg rfl rfl, rfl, rfl, rfl, rb_slg rfl rfl, rfl, rfl, rfl, rfl, trivial⟩
        ·refine ⟨dw_row (m := 305) rfl (zPw_eq ?_), sw_row (m := 0) rfl rfl, trivial⟩
         simp only [byV_fl]
         rfl
       | cons x t =>
        rw [show ((x :: t ++ [p] : List Pr)) = x :: (t ++ [p]) from rfl] at nx
        refine LRuns.step (code_runsP rmX rmL0 (runZ_ok rmX rmTt rmL0 mixed 9) mixed (rm_c_ran inr n k.length (x :: t).length (llD L) (cpD (x :: t)) (byV k) p []) ?_) rfl (by omega) (by omega) (fun n => bif Nat.beq n 200 then 305 else bif Nat.beq n 202 then 306 else n) ?_ ?_ rfl nx
        ·
         simp only [Alls, rg, List.drop_zero, etk2, hcd]
         repeat' (with_reducible apply And.intro)
         all_goals first | omega | (with_reducible assumption) | (with_reducible exact trivial) | (with_reducible rfl) | exact byV_ren _ | exact fun e => nil_by e | exact hfo | exact hfd | exact hnx | exact hg | skip
        ·exact ⟨rfl, rb_slg rfl rfl, rfl, rfl, rfl, (by show renV _ (.slice (some ⟨200, 0, none⟩) (x :: (t ++ [p])).length (capBig + 200)) = _; rw [show (x :: (t ++ [p])).length = (x :: t).length + 1 by simp]; exact rb_slg rfl rfl), rfl, rfl, rfl, rfl, trivial⟩
        ·refine ⟨dw_row (m := 305) rfl (zPw_eq ?_), sw_row (m := 0) rfl rfl, trivial⟩
         rw [show (x :: (t ++ [p])) = (x :: t) ++ [p] from rfl, cpD_snoc]
         simp only [byV_fl, prD]
      | true =>
       have hg : (!p.2.2) = true := by simpa using hy
       cases out with
       | nil =>
        rw [show (([] ++ [p] : List Pr)) = [p] from rfl] at nx
        refine LRuns.step (code_runsP rmX rmL0 (runZ_ok rmX rmTt rmL0 mixed 9) mixed (rm_c_nkn inr n k.length 0 (llD L) [] (byV k) p []) ?_) rfl (by omega) (by omega) (fun n => bif Nat.beq n 200 then 305 else bif Nat.beq n 202 then 306 else n) ?_ ?_ rfl nx
        ·
         simp only [Alls, rg, List.drop_zero, etk2, hcd]
         repeat' (with_reducible apply And.intro)
         all_goals first | omega | (with_reducible assumption) | (with_reducible exact trivial) | (with_reducible rfl) | exact byV_ren _ | exact fun e => nil_by e | exact hfo | exact hfd | exact hnx | exact hg | skip
        ·exact ⟨rfl, rb_slg rfl rfl, rfl, rfl, rfl, rb_slg rfl rfl, rfl, rfl, rfl, rfl, trivial⟩
        ·refine ⟨dw_row (m := 305) rfl (zPw_eq ?_), sw_row (m := 0) rfl rfl, trivial⟩
         simp only [byV_fl]
         rfl
       | cons x t =>
        rw [show ((x :: t ++ [p] : List Pr)) = x :: (t ++ [p]) from rfl] at nx
        refine LRuns.step (code_runsP rmX rmL0 (runZ_ok rmX rmTt rmL0 mixed 9) mixed (rm_c_rkn inr n k.length (x :: t).length (llD L) (cpD (x :: t)) (byV k) p []) ?_) rfl (by omega) (by omega) (fun n => bif Nat.beq n 200 then 305 else bif Nat.beq n 202 then 306 else n) ?_ ?_ rfl nx
        ·
         simp only [Alls, rg, List.drop_zero, etk2, hcd]
         repeat' (with_reducible apply And.intro)
         all_goals first | omega | (with_reducible assumption) | (with_reducible exact trivial) | (with_reducible rfl) | exact byV_ren _ | exact fun e => nil_by e | exact hfo | exact hfd | exact hnx | exact hg | skip
        ·exact ⟨rfl, rb_slg rfl rfl, rfl, rfl, rfl, (by show renV _ (.slice (some ⟨200, 0, none⟩) (x :: (t ++ [p])).length (capBig + 200)) = _; rw [show (x :: (t ++ [p])).length = (x :: t).length + 1 by simp]; exact rb_slg rfl rfl), rfl, rfl, rfl, rfl, trivial⟩
        ·refine ⟨dw_row (m := 305) rfl (zPw_eq ?_), sw_row (m := 0) rfl rfl, trivial⟩
         rw [show (x :: (t ++ [p])) = (x :: t) ++ [p] from rfl, cpD_snoc]
         simp only [byV_fl, prD]
    | some y =>
     rw [hq] at nx
     have hnx := bq _ hq
     have hyb : ∀ τ, renL τ (byV y) = some (byV y) := byV_ren y
     cases hy : (!dr || !p.2.2) with
     | false =>
      have ek : rkO dr L k out = out := by unfold rkO; rw [hp]; simp only [hy, cond_true, cond_false]
      rw [ek] at nx
      cases dr with
      | false => simp at hy
      | true =>
       have hg : (!p.2.2) = false := by simpa using hy
       cases out with
       | nil =>
        refine LRuns.step (code_runsP rmX rmL0 (runZ_ok rmX rmTt rmL0 mixed 9) mixed (rm_c_nds inr n k.length 0 (llD L) [] (byV k) p y) ?_) rfl (by omega) (by omega) (fun n => bif Nat.beq n 200 then 200 else bif Nat.beq n 202 then 303 else n) ?_ ?_ rfl nx
        ·
         simp only [Alls, rg, List.drop_zero, etk2, hcd]
         repeat' (with_reducible apply And.intro)
         all_goals first | omega | (with_reducible assumption) | (with_reducible exact trivial) | (with_reducible rfl) | exact byV_ren _ | exact fun e => nil_by e | exact hfo | exact hfd | exact hnx | exact hg | skip
        ·exact ⟨rfl, rb_slg rfl rfl, rfl, rfl, rfl, rfl, rfl, rb_slg rfl rfl, rfl, rfl, trivial⟩
        ·exact ⟨ow_row (m := 303) rfl rfl hyb, sw_row (m := 0) rfl rfl, trivial⟩
       | cons x t =>
        refine LRuns.step (code_runsP rmX rmL0 (runZ_ok rmX rmTt rmL0 mixed 9) mixed (rm_c_rds inr n k.length (x :: t).length (llD L) (cpD (x :: t)) (byV k) p y) ?_) rfl (by omega) (by omega) (fun n => bif Nat.beq n 200 then 200 else bif Nat.beq n 202 then 303 else n) ?_ ?_ rfl nx
        ·
         simp only [Alls, rg, List.drop_zero, etk2, hcd]
         repeat' (with_reducible apply And.intro)
         all_goals first | omega | (with_reducible assumption) | (with_reducible exact trivial) | (with_reducible rfl) | exact byV_ren _ | exact fun e => nil_by e | exact hfo | exact hfd | exact hnx | exact hg | skip
        ·exact ⟨rfl, rb_slg rfl rfl, rfl, rfl, rfl, rb_slg rfl rfl, rfl, rb_slg rfl rfl, rfl, rfl, trivial⟩
        ·exact ⟨dw_row (m := 200) rfl rfl, ow_row (m := 303) rfl rfl hyb, sw_row (m := 0) rfl rfl, trivial⟩
     | true =>
      have ek : rkO dr L k out = out ++ [p] := by unfold rkO; rw [hp]; simp only [hy, cond_true, cond_false]
      rw [ek] at nx
      cases dr with
      | false =>
       cases out with
       | nil =>
        rw [show (([] ++ [p] : List Pr)) = [p] from rfl] at nx
        refine LRuns.step (code_runsP rmX rmL0 (runZ_ok rmX rmTt rmL0 mixed 9) mixed (rm_c_nas inr n k.length 0 (llD L) [] (byV k) p y) ?_) rfl (by omega) (by omega) (fun n => bif Nat.beq n 200 then 305 else bif Nat.beq n 202 then 306 else n) ?_ ?_ rfl nx
        ·
         simp only [Alls, rg, List.drop_zero, etk2, hcd]
         repeat' (with_reducible apply And.intro)
         all_goals first | omega | (with_reducible assumption) | (with_reducible exact trivial) | (with_reducible rfl) | exact byV_ren _ | exact fun e => nil_by e | exact hfo | exact hfd | exact hnx | exact hg | skip
        ·exact ⟨rfl, rb_slg rfl rfl, rfl, rfl, rfl, rb_slg rfl rfl, rfl, rb_slg rfl rfl, rfl, rfl, trivial⟩
        ·refine ⟨dw_row (m := 305) rfl (zPw_eq ?_), ow_row (m := 306) rfl rfl hyb, sw_row (m := 0) rfl rfl, trivial⟩
         simp only [byV_fl]
         rfl
       | cons x t =>
        rw [show ((x :: t ++ [p] : List Pr)) = x :: (t ++ [p]) from rfl] at nx
        refine LRuns.step (code_runsP rmX rmL0 (runZ_ok rmX rmTt rmL0 mixed 9) mixed (rm_c_ras inr n k.length (x :: t).length (llD L) (cpD (x :: t)) (byV k) p y) ?_) rfl (by omega) (by omega) (fun n => bif Nat.beq n 200 then 305 else bif Nat.beq n 202 then 306 else n) ?_ ?_ rfl nx
        ·
         simp only [Alls, rg, List.drop_zero, etk2, hcd]
         repeat' (with_reducible apply And.intro)
         all_goals first | omega | (with_reducible assumption) | (with_reducible exact trivial) | (with_reducible rfl) | exact byV_ren _ | exact fun e => nil_by e | exact hfo | exact hfd | exact hnx | exact hg | skip
        ·exact ⟨rfl, rb_slg rfl rfl, rfl, rfl, rfl, (by show renV _ (.slice (some ⟨200, 0, none⟩) (x :: (t ++ [p])).length (capBig + 200)) = _; rw [show (x :: (t ++ [p])).length = (x :: t).length + 1 by simp]; exact rb_slg rfl rfl), rfl, rb_slg rfl rfl, rfl, rfl, trivial⟩
        ·refine ⟨dw_row (m := 305) rfl (zPw_eq ?_), ow_row (m := 306) rfl rfl hyb, sw_row (m := 0) rfl rfl, trivial⟩
         rw [show (x :: (t ++ [p])) = (x :: t) ++ [p] from rfl, cpD_snoc]
         simp only [byV_fl, prD]
      | true =>
       have hg : (!p.2.2) = true := by simpa using hy
       cases out with
       | nil =>
        rw [show (([] ++ [p] : List Pr)) = [p] from rfl] at nx
        refine LRuns.step (code_runsP rmX rmL0 (runZ_ok rmX rmTt rmL0 mixed 9) mixed (rm_c_nks inr n k.length 0 (llD L) [] (byV k) p y) ?_) rfl (by omega) (by omega) (fun n => bif Nat.beq n 200 then 305 else bif Nat.beq n 202 then 306 else n) ?_ ?_ rfl nx
        ·
         simp only [Alls, rg, List.drop_zero, etk2, hcd]
         repeat' (with_reducible apply And.intro)
         all_goals first | omega | (with_reducible assumption) | (with_reducible exact trivial) | (with_reducible rfl) | exact byV_ren _ | exact fun e => nil_by e | exact hfo | exact hfd | exact hnx | exact hg | skip
        ·exact ⟨rfl, rb_slg rfl rfl, rfl, rfl, rfl, rb_slg rfl rfl, rfl, rb_slg rfl rfl, rfl, rfl, trivial⟩
        ·refine ⟨dw_row (m := 305) rfl (zPw_eq ?_), ow_row (m := 306) rfl rfl hyb, sw_row (m := 0) rfl rfl, trivial⟩
         simp only [byV_fl]
         rfl
       | cons x t =>
        rw [show ((x :: t ++ [p] : List Pr)) = x :: (t ++ [p]) from rfl] at nx
        refine LRuns.step (code_runsP rmX rmL0 (runZ_ok rmX rmTt rmL0 mixed 9) mixed (rm_c_rks inr n k.length (x :: t).length (llD L) (cpD (x :: t)) (byV k) p y) ?_) rfl (by omega) (by omega) (fun n => bif Nat.beq n 200 then 305 else bif Nat.beq n 202 then 306 else n) ?_ ?_ rfl nx
        ·
         simp only [Alls, rg, List.drop_zero, etk2, hcd]
         repeat' (with_reducible apply And.intro)
         all_goals first | omega | (with_reducible assumption) | (with_reducible exact trivial) | (with_reducible rfl) | exact byV_ren _ | exact fun e => nil_by e | exact hfo | exact hfd | exact hnx | exact hg | skip
        ·exact ⟨rfl, rb_slg rfl rfl, rfl, rfl, rfl, (by show renV _ (.slice (some ⟨200, 0, none⟩) (x :: (t ++ [p])).length (capBig + 200)) = _; rw [show (x :: (t ++ [p])).length = (x :: t).length + 1 by simp]; exact rb_slg rfl rfl), rfl, rb_slg rfl rfl, rfl, rfl, trivial⟩
        ·refine ⟨dw_row (m := 305) rfl (zPw_eq ?_), ow_row (m := 306) rfl rfl hyb, sw_row (m := 0) rfl rfl, trivial⟩
         rw [show (x :: (t ++ [p])) = (x :: t) ++ [p] from rfl, cpD_snoc]
         simp only [byV_fl, prD]
def rm1Pk (live : List (Nat × Value)) (h : Hp) : Option (Nat × Bool × List DV) := match live, lk h 0 with | (_, .slice _ n _) :: (_, .bool dr) :: _, some ⟨.sw ds, _⟩ => some (n, dr, ds) | _, _ => none
def rm1Sp : LSpec := lspec rm1Pk (fun a => ([(0, llA a.1), (1, .bool a.2.1), (6, mhI 0), (7, iV 0)], [(0, ⟨.sw a.2.2, []⟩)], 4)) (fun a tp => some ((.exit 0, [(0, llA a.1), (1, .bool a.2.1), (6, mhI (sumL (llOf a.2.2) : Nat))], [(0, ⟨.sw a.2.2, []⟩)], 20, []), tp, [MgA a.2.2 a.1]))
theorem rm1_ok : LSOk Try.prog 76 [0, 1, 6, 7] (bodyIn Try.prog 13 3) rm1Sp := by
 refine lspec_ok fun a tp xt l2 h2 nx2 d tp' ob hs ho inr ts hn hg => ?_
 obtain ⟨n, dr, ds⟩ := a
 simp only at hs hg
 simp only [oI, pI] at hs
 obtain ⟨⟨rfl, rfl, rfl, rfl, rfl⟩, rfl, rfl⟩ := hs
 obtain ⟨h, _⟩ := ho
 have key := rm_sum (inr := inr) (h0 := [(0, ⟨.sw (llD (llOf ds)), []⟩)]) (dr := dr) h.L n 0 (by omega)
 have e := h.e
 generalize llOf ds = L at *
 subst e
 rw [List.take_zero] at key
 refine LRuns.enter (N := 10) (l2 := [(0, llA n), (1, .bool dr), (6, mhI 0), (7, iV 0)]) hn hg (by omega) (by omega) (fun n => n) ?_ ?_ rfl key ?_
 ·exact ⟨rfl, rb_slg rfl rfl, rfl, rfl, rfl, rfl, rfl, rfl, trivial⟩
 ·exact ⟨sw_row (m := 0) rfl rfl, trivial⟩
 ·exact tidy_of (by omega) (fun m hm hd => rfl) rfl
def rm2Sp : LSpec := lspec rm1Pk (fun a => ([(0, llA a.1), (1, .bool a.2.1), (8, iV 0)], [(0, ⟨.sw a.2.2, []⟩)], 20)) (fun a tp => match tp with
 | b :: tp' => some ((bif b then .exit 2 else .ret, bif b then [(0, llA a.1), (1, .bool a.2.1)] else [(4, nlV), (5, mhI 2)], [(0, ⟨.sw a.2.2, []⟩)], 40, []), tp', [MgA a.2.2 a.1, allA (llOf a.2.2) = b])
 | _ => none)
theorem rm2_ok : LSOk Try.prog 76 [0, 1, 8] (bodyIn Try.prog 13 9) rm2Sp := by
 refine lspec_ok fun a tp xt l2 h2 nx2 d tp' ob hs ho inr ts hn hg => ?_
 obtain ⟨n, dr, ds⟩ := a
 simp only at hs hg
 split at hs
 case h_2 => cases hs
 rename_i b _
 simp only [oI, pI] at hs
 obtain ⟨⟨rfl, rfl, rfl, rfl, rfl⟩, rfl, rfl⟩ := hs
 obtain ⟨h, h1, _⟩ := ho
 have key := rm_srt (inr := inr) (h0 := [(0, ⟨.sw (llD (llOf ds)), []⟩)]) (dr := dr) h.L n 0 (by omega)
 rw [List.drop_zero, h1, ← h.e] at key
 cases b <;>
 ·refine LRuns.enter (N := 30) (l2 := [(0, llA n), (1, .bool dr), (8, iV 0)]) hn hg (by omega) (by omega) (fun n => n) ?_ ?_ rfl key ?_
  ·exact ⟨rfl, rb_slg rfl rfl, rfl, rfl, rfl, rfl, trivial⟩
  ·exact ⟨sw_row (m := 0) rfl rfl, trivial⟩
  ·exact tidy_of (by omega) (fun m hm hd => rfl) rfl
theorem MgB.fd {ds : List DV} {n : Nat} (h : MgB ds n) : FdLL (llOf ds) n := ⟨h.A.L.l, by have := h.n32; omega, fun l hl => ⟨h.A.L.O l hl, h.z l hl, h.A.L.m l hl⟩⟩
theorem ksL_len : ∀ L : List (List Pr), (ksL L).length = sumL L
 | [] => rfl
 | l :: L => by
   have ih := ksL_len L
   simp only [ksL, sumL, List.flatMap_cons, List.length_append, List.length_map, List.map_cons, List.sum_cons] at ih ⊢
   omega
theorem lfK_len (b : Option (List Int)) (K : List (List Int)) : lfK b K ≤ K.length := by unfold lfK; exact List.length_filter_le _ _
theorem MgB.rk {ds : List DV} {n : Nat} (h : MgB ds n) (dr : Bool) : lfK none (ksL (llOf ds)) ≤ 4096 ∧ rfM dr (llOf ds) 4096 (lsK none (ksL (llOf ds)) none) [] = mgOut dr (llOf ds) := by
 have h1 := lfK_len none (ksL (llOf ds))
 rw [ksL_len] at h1
 have h2 := h.s
 exact ⟨by omega, rk_is h.a 4096 (by omega)⟩
def rm3Pk (live : List (Nat × Value)) (h : Hp) : Option (Nat × Bool × List DV) := rm1Pk live h
def rmQ (out : List Pr) (dr : Bool) (ds : List DV) (d : List Nat) (tp : Tape) (obs : List Prop) : Option ((Xt × List (Nat × Value) × Hp × Nat × List Nat) × Tape × List Prop) := match tp with
 | true :: tp' => some ((.exit 4, [(9, nlV)], [(0, ⟨.sw ds, []⟩)], 400, d), tp', (mgOut dr (llOf ds) = []) :: obs)
 | false :: tp' => some ((.exit 4, [(9, ouA (mgOut dr (llOf ds)).length)], [(200, ⟨.dw 3 zPr (cpD (mgOut dr (llOf ds))), []⟩), (0, ⟨.sw ds, []⟩)], 400, d), tp', (mgOut dr (llOf ds) ≠ []) :: obs)
 | [] => none
theorem rmQ_ok {out : List Pr} {dr : Bool} {ds : List DV} {d : List Nat} {tp tp' : Tape} {obs ob : List Prop} {xt : Xt} {l2 : List (Nat × Value)} {h2 : Hp} {nx2 : Nat} {d2 : List Nat} (e : rmQ out dr ds d tp obs = some ((xt, l2, h2, nx2, d2), tp', ob)) (ho : Alls ob) :
  xt = .exit 4 ∧ l2 = [(9, ouV (mgOut dr (llOf ds)))] ∧ h2 = doR (mgOut dr (llOf ds)) [(0, ⟨.sw ds, []⟩)] ∧ nx2 = 400 ∧ d2 = d ∧ Alls obs := by
 unfold rmQ at e
 split at e
 ·simp only [oI, pI] at e
  obtain ⟨⟨rfl, rfl, rfl, rfl, rfl⟩, rfl, rfl⟩ := e
  obtain ⟨h, h'⟩ := ho
  rw [h]
  exact ⟨rfl, rfl, rfl, rfl, rfl, h'⟩
 ·simp only [oI, pI] at e
  obtain ⟨⟨rfl, rfl, rfl, rfl, rfl⟩, rfl, rfl⟩ := e
  obtain ⟨h, h'⟩ := ho
  exact ⟨rfl, by rw [ouV_ne h], by rw [doR_ne h], rfl, rfl, h'⟩
 ·cases e
theorem doR_tidy {out : List Pr} {h : Hp} {nx : Nat} {ds : List DV} {d : List Nat} (hnx : nx ≤ 200) (hd : ∀ m, m < nx → m ∉ d → lk [(0, (⟨.sw ds, []⟩ : Rw))] m = lk h m) : Tidy h nx (doR out [(0, ⟨.sw ds, []⟩)]) 400 d := by
 refine tidy_of (by omega) (fun m hm hdm => ?_) ?_
 ·rw [← hd m hm hdm]
  cases out with
  | nil => rfl
  | cons x t => show lk ((200, _) :: _) m = _; rw [lk_cons, if_neg (by omega)]
 ·cases out <;> rfl
def rm3n : LSpec := lspec rm3Pk (fun a => ([(0, llA a.1), (1, .bool a.2.1), (9, nlV), (10, nlV), (11, .bool false)], [(0, ⟨.sw a.2.2, []⟩)], 40)) (fun a tp => rmQ [] a.2.1 a.2.2 [] tp [MgB a.2.2 a.1, lsK none (ksL (llOf a.2.2)) none = none])
theorem rm3n_ok : LSOk Try.prog 76 [0, 1, 9, 10, 11] (bodyIn Try.prog 13 15) rm3n := by
 refine lspec_ok fun a tp xt l2 h2 nx2 d tp' ob hs ho inr ts hn hg => ?_
 obtain ⟨n, dr, ds⟩ := a
 simp only at hs hg
 obtain ⟨rfl, rfl, rfl, rfl, rfl, h, hk, _⟩ := rmQ_ok hs ho
 have R := h.rk dr
 have hz : mgOut dr (llOf ds) = [] := by rw [← R.2, hk]; rfl
 have q : LRuns inr Try.prog (bodyIn Try.prog 13 15) 40 400 [(0, ⟨.sw ds, []⟩)] 76 (rkL n dr [] none) (rkH ds [] none) 300 (.exit 4, [(9, ouV (mgOut dr (llOf ds)))], doR (mgOut dr (llOf ds)) [(0, ⟨.sw ds, []⟩)]) := by
  rw [hz]
  cases dr with
  | false =>
   refine LRuns.exit (code_runsP rmX rmL0 (runZ_ok rmX rmTt rmL0 mixed 9) mixed (rm_c_nxf inr n 0 0 ds [] [] rmP []) ?_) (by intro e; cases e) rfl (by omega) (by omega) (fun n => n) ?_ ?_ rfl
   ·simp only [Alls]
   ·exact ⟨rfl, rfl, trivial⟩
   ·exact ⟨sw_row (m := 0) rfl rfl, trivial⟩
  | true =>
   refine LRuns.exit (code_runsP rmX rmL0 (runZ_ok rmX rmTt rmL0 mixed 9) mixed (rm_c_nxt inr n 0 0 ds [] [] rmP []) ?_) (by intro e; cases e) rfl (by omega) (by omega) (fun n => n) ?_ ?_ rfl
   ·simp only [Alls]
   ·exact ⟨rfl, rfl, trivial⟩
   ·exact ⟨sw_row (m := 0) rfl rfl, trivial⟩
 refine LRuns.enter (N := 300) (l2 := rkL n dr [] none) (h2 := [(0, ⟨.sw ds, []⟩)]) hn hg (by omega) (by omega) (fun n => n) ?_ ?_ rfl q (doR_tidy (by omega) fun m _ _ => rfl)
 ·exact ⟨rfl, rb_slg rfl rfl, rfl, rfl, rfl, rfl, rfl, rfl, rfl, rfl, trivial⟩
 ·exact ⟨sw_row (m := 0) rfl rfl, trivial⟩
def rm3y (y : List Int) : LSpec := lspec rm3Pk (fun a => ([(0, llA a.1), (1, .bool a.2.1), (9, nlV), (10, slN 40 y.length), (11, .bool true)], [(40, ⟨.ow, byV y⟩), (0, ⟨.sw a.2.2, []⟩)], 41)) (fun a tp => rmQ [] a.2.1 a.2.2 [40] tp [MgB a.2.2 a.1, lsK none (ksL (llOf a.2.2)) none = some y])
theorem rm3y_ok (y : List Int) : LSOk Try.prog 76 [0, 1, 9, 10, 11] (bodyIn Try.prog 13 15) (rm3y y) := by
 refine lspec_ok fun a tp xt l2 h2 nx2 d tp' ob hs ho inr ts hn hg => ?_
 obtain ⟨n, dr, ds⟩ := a
 simp only at hs hg
 obtain ⟨rfl, rfl, rfl, rfl, rfl, h, hk, _⟩ := rmQ_ok hs ho
 have R := h.rk dr
 have q := rm_main (inr := inr) (h0 := [(40, ⟨.ow, byV y⟩), (0, ⟨.sw ds, []⟩)]) (dr := dr) h.fd 4096 none [] R.1 (by simp)
 rw [R.2, hk, ← h.A.e] at q
 refine LRuns.enter (N := 300) (l2 := rkL n dr [] (some y)) (h2 := [(202, ⟨.ow, byV y⟩), (0, ⟨.sw ds, []⟩)]) hn hg (by omega) (by omega) (fun n => bif Nat.beq n 202 then 40 else n) ?_ ?_ rfl q (doR_tidy (by omega) fun m hm hd => ?_)
 ·exact ⟨rfl, rb_slg rfl rfl, rfl, rfl, rfl, rfl, rfl, rb_slg rfl rfl, rfl, rfl, trivial⟩
 ·exact ⟨ow_row (m := 40) rfl rfl (byV_ren _), sw_row (m := 0) rfl rfl, trivial⟩
 ·rw [show lk ([(40, ⟨.ow, byV y⟩), (0, ⟨.sw ds, []⟩)] : Hp) m = lk [(0, ⟨.sw ds, []⟩)] m by rw [lk_cons, if_neg (fun e => hd (by simp [e]))]]
def rmLa (P : Program) : LFun := orL (mkL 13 3 76 [0, 1, 6, 7] (bodyIn P 13 3) rm1Sp) (mkL 13 9 76 [0, 1, 8] (bodyIn P 13 9) rm2Sp)
def rmLn (P : Program) : LFun := orL (rmLa P) (mkL 13 15 76 [0, 1, 9, 10, 11] (bodyIn P 13 15) rm3n)
def rmLy (P : Program) (y : List Int) : LFun := orL (rmLa P) (mkL 13 15 76 [0, 1, 9, 10, 11] (bodyIn P 13 15) (rm3y y))
theorem rmLa_one : LOne Try.prog (rmLa Try.prog) := orL_ok (mkL_ok rm1_ok) (mkL_ok rm2_ok)
theorem rmLn_one : LOne Try.prog (rmLn Try.prog) := orL_ok rmLa_one (mkL_ok rm3n_ok)
theorem rmLy_one (y : List Int) : LOne Try.prog (rmLy Try.prog y) := orL_ok rmLa_one (mkL_ok (rm3y_ok y))
theorem rn_l1 (n : Nat) (dr : Bool) (ds : List DV) (y : List Int) : runZ (rmV (rmLn Try.prog) rmP y) Try.prog 9 13 [llA n, .bool dr] [(0, ⟨.sw ds, []⟩)] 4 [true] =
 (let a4 := (7, Value.int IntKind.i64 (0 : Int)); let a3 := (6, Value.int IntKind.i64 (0 : Int)); let a2 := (0, Rw.mk (Kd.sw ds) []); let a1 := (0, Value.slice (some (Addr.mk 0 0 none)) n 18446744073709551616); Res.ok ((Value.tuple (Array.mk [Value.slice none 0 0, Value.int IntKind.i64 (3 : Int)]), [a2], 20, []), [], [bodyIn Try.prog (13 : FuncId) 3 = bodyIn Try.prog (13 : FuncId) 3, [a1, (1, Value.bool dr), a3, a4] = [a1, (1, Value.bool dr), a3, a4], [a2] = [a2], 4 = 4, MgA ds n, decide ((↑n : Int) > (32 : Int)) = true])) := by kernel_rfl
theorem rn_l2 (n : Nat) (dr : Bool) (ds : List DV) (y : List Int) : runZ (rmV (rmLn Try.prog) rmP y) Try.prog 9 13 [llA n, .bool dr] [(0, ⟨.sw ds, []⟩)] 4 [false, true] =
 (let a4 := (7, Value.int IntKind.i64 (0 : Int)); let a3 := (6, Value.int IntKind.i64 (0 : Int)); let a2 := (0, Rw.mk (Kd.sw ds) []); let a1 := (0, Value.slice (some (Addr.mk 0 0 none)) n 18446744073709551616); Res.ok ((Value.tuple (Array.mk [Value.slice none 0 0, Value.int IntKind.i64 (3 : Int)]), [a2], 20, []), [], [bodyIn Try.prog (13 : FuncId) 3 = bodyIn Try.prog (13 : FuncId) 3, [a1, (1, Value.bool dr), a3, a4] = [a1, (1, Value.bool dr), a3, a4], [a2] = [a2], 4 = 4, MgA ds n, decide ((↑n : Int) > (32 : Int)) = false, decide ((↑(sumL (llOf ds)) : Int) > (4096 : Int)) = true])) := by kernel_rfl
theorem rn_uns (n : Nat) (dr : Bool) (ds : List DV) (y : List Int) : runZ (rmV (rmLn Try.prog) rmP y) Try.prog 9 13 [llA n, .bool dr] [(0, ⟨.sw ds, []⟩)] 4 [false, false, false] =
 (let a7 := (13 : FuncId); let a6 := (8, Value.int IntKind.i64 (0 : Int)); let a5 := (7, Value.int IntKind.i64 (0 : Int)); let a4 := (6, Value.int IntKind.i64 (0 : Int)); let a3 := (1, Value.bool dr); let a2 := (0, Rw.mk (Kd.sw ds) []); let a1 := (0, Value.slice (some (Addr.mk 0 0 none)) n 18446744073709551616); Res.ok ((Value.tuple (Array.mk [Value.slice none 0 0, Value.int IntKind.i64 (2 : Int)]), [a2], 40, []), [], [bodyIn Try.prog a7 3 = bodyIn Try.prog a7 3, [a1, a3, a4, a5] = [a1, a3, a4, a5], [a2] = [a2], 4 = 4, MgA ds n, decide ((↑n : Int) > (32 : Int)) = false, decide ((↑(sumL (llOf ds)) : Int) > (4096 : Int)) = false, bodyIn Try.prog a7 9 = bodyIn Try.prog a7 9, [a1, a3, a6] = [a1, a3, a6], [a2] = [a2], 20 = 20, MgA ds n, allA (llOf ds) = false])) := by kernel_rfl
theorem rn_nn (n : Nat) (dr : Bool) (ds : List DV) (y : List Int) : runZ (rmV (rmLn Try.prog) rmP y) Try.prog 9 13 [llA n, .bool dr] [(0, ⟨.sw ds, []⟩)] 4 [false, false, true, false, true] =
 (let a8 := (cnL (List.take n (List.drop 0 ds))); let a7 := (8, Value.int IntKind.i64 (0 : Int)); let a6 := (7, Value.int IntKind.i64 (0 : Int)); let a5 := (6, Value.int IntKind.i64 (0 : Int)); let a4 := (13 : FuncId); let a3 := (1, Value.bool dr); let a2 := (0, Rw.mk (Kd.sw ds) []); let a1 := (0, Value.slice (some (Addr.mk 0 0 none)) n 18446744073709551616); Res.ok ((Value.tuple (Array.mk [Value.slice none 0 0, Value.int IntKind.i64 (0 : Int)]), [a2], 400, []), [], [bodyIn Try.prog a4 3 = bodyIn Try.prog a4 3, [a1, a3, a5, a6] = [a1, a3, a5, a6], [a2] = [a2], 4 = 4, MgA ds n, decide ((↑n : Int) > (32 : Int)) = false, decide ((↑(sumL (llOf ds)) : Int) > (4096 : Int)) = false, bodyIn Try.prog a4 9 = bodyIn Try.prog a4 9, [a1, a3, a7] = [a1, a3, a7], [a2] = [a2], 20 = 20, MgA ds n, allA (llOf ds) = true, FoOk a8 [] 0 n, lsK (bhv true (intsOf [])) (ksL (llOf a8)) none = none, bodyIn Try.prog
 a4 15 = bodyIn Try.prog a4 15, [a1, a3, (9, Value.slice none 0 0), (10, Value.slice none 0 0), (11, Value.bool false)] = [a1, a3, (9, Value.slice none 0 0), (10, Value.slice none 0 0), (11, Value.bool false)], rowsN 40 [] [a2] = [a2], 40 = 40, mgOut dr (llOf ds) = [], MgB ds n, lsK none (ksL (llOf ds)) none =
 none])) := by kernel_rfl
theorem rn_yn (n : Nat) (dr : Bool) (ds : List DV) (y : List Int) : runZ (rmV (rmLy Try.prog y) rmP y) Try.prog 9 13 [llA n, .bool dr] [(0, ⟨.sw ds, []⟩)] 4 [false, false, true, true, true] =
 (let a9 := (cnL (List.take n (List.drop 0 ds))); let a8 := (8, Value.int IntKind.i64 (0 : Int)); let a7 := (7, Value.int IntKind.i64 (0 : Int)); let a6 := (6, Value.int IntKind.i64 (0 : Int)); let a5 := (13 : FuncId); let a4 := (10, Value.slice (some (Addr.mk 40 0 none)) (List.length y) (capBig + 40)); let a3 := (1, Value.bool dr); let a2 := (0, Rw.mk (Kd.sw ds) []); let a1 := (0, Value.slice (some (Addr.mk 0 0 none)) n 18446744073709551616); Res.ok ((Value.tuple (Array.mk [Value.slice none 0 0, Value.int IntKind.i64 (0 : Int)]), [a2], 400, []), [], [bodyIn Try.prog a5 3 = bodyIn Try.prog a5 3, [a1, a3, a6, a7] = [a1, a3, a6, a7], [a2] = [a2], 4 = 4, MgA ds n, decide ((↑n : Int) > (32 : Int)) = false, decide ((↑(sumL (llOf ds)) : Int) > (4096 : Int)) = false, bodyIn Try.prog a5 9 = bodyIn Try.prog a5 9, [a1, a3, a8] = [a1, a3, a8], [a2] = [a2], 20 = 20, MgA ds n, allA (llOf ds) = true,
 FoOk a9 [] 0 n, lsK (bhv true (intsOf [])) (ksL (llOf a9)) none = some y, bodyIn Try.prog a5 15 = bodyIn Try.prog a5 15, [a1, a3, (9, Value.slice none 0 0), a4, (11, Value.bool true)] = [a1, a3, (9, Value.slice none 0 0), a4, (11, Value.bool true)], rowsN 40 [Rw.mk Kd.ow (byV y)] [a2] = [(40, Rw.mk Kd.ow (byV y)), a2], 41 = 41, mgOut dr (llOf ds) = [], MgB ds n, lsK none (ksL (llOf ds)) none = some
 y])) := by kernel_rfl
theorem rn_yr (n : Nat) (dr : Bool) (ds : List DV) (y : List Int) : runZ (rmV (rmLy Try.prog y) rmP y) Try.prog 9 13 [llA n, .bool dr] [(0, ⟨.sw ds, []⟩)] 4 [false, false, true, true, false] =
 (let a9 := (cnL (List.take n (List.drop 0 ds))); let a8 := (8, Value.int IntKind.i64 (0 : Int)); let a7 := (7, Value.int IntKind.i64 (0 : Int)); let a6 := (6, Value.int IntKind.i64 (0 : Int)); let a5 := (13 : FuncId); let a4 := (10, Value.slice (some (Addr.mk 40 0 none)) (List.length y) (capBig + 40)); let a3 := (1, Value.bool dr); let a2 := (0, Rw.mk (Kd.sw ds) []); let a1 := (0, Value.slice (some (Addr.mk 0 0 none)) n 18446744073709551616); Res.ok ((Value.tuple (Array.mk [Value.slice (some (Addr.mk 200 0 none)) (List.length (mgOut dr (llOf ds))) (capBig + 200), Value.int IntKind.i64 (0 : Int)]), [(200, Rw.mk (Kd.dw 3 [Value.slice none 0 0, Value.slice none 0 0, Value.bool false] (cpD (mgOut dr (llOf ds)))) []), a2], 400, []), [], [bodyIn Try.prog a5 3 = bodyIn Try.prog a5 3, [a1, a3, a6, a7] = [a1, a3, a6, a7], [a2] = [a2], 4 = 4, MgA ds n, decide ((↑n : Int) > (32 : Int)) = false,
 decide ((↑(sumL (llOf ds)) : Int) > (4096 : Int)) = false, bodyIn Try.prog a5 9 = bodyIn Try.prog a5 9, [a1, a3, a8] = [a1, a3, a8], [a2] = [a2], 20 = 20, MgA ds n, allA (llOf ds) = true, FoOk a9 [] 0 n, lsK (bhv true (intsOf [])) (ksL (llOf a9)) none = some y, bodyIn Try.prog a5 15 = bodyIn Try.prog a5 15, [a1, a3, (9, Value.slice none 0 0), a4, (11, Value.bool true)] = [a1, a3, (9, Value.slice none 0 0), a4, (11, Value.bool true)], rowsN 40 [Rw.mk Kd.ow (byV y)] [a2] = [(40, Rw.mk Kd.ow (byV y)), a2], 41 = 41, mgOut dr (llOf ds) ≠ [], MgB ds n, lsK none (ksL (llOf ds)) none = some
 y])) := by kernel_rfl
def gRm (W : List Pr) : GSpecD := fun aL tp => match aL, tp with
 | [.dl ds n, .fl (.bool dr)], true :: tp' => some (⟨fun _ => tupM nlV 3, []⟩, tp', [MgA ds n, 32 < n ∨ 4096 < sumL (llOf ds)])
 | [.dl ds n, .fl (.bool dr)], false :: false :: tp' => some (⟨fun _ => tupM nlV 2, []⟩, tp', [MgA ds n, n ≤ 32, sumL (llOf ds) ≤ 4096, allA (llOf ds) = false])
 | [.dl ds n, .fl (.bool dr)], false :: true :: true :: tp' => some (⟨fun _ => tupM nlV 0, []⟩, tp', [MgB ds n, mgOut dr (llOf ds) = []])
 | [.dl ds n, .fl (.bool dr)], false :: true :: false :: tp' => some (⟨fun nx => tupM (.slice (some ⟨nx, 0, none⟩) W.length (capBig + nx)) 0, [⟨.dw 3 zPr (cpD W), []⟩]⟩, tp', [MgB ds n, W ≠ [], mgOut dr (llOf ds) = W])
 | _, _ => none
theorem rm_gok (W : List Pr) : GOkO Try.prog 13 (gRm W) := by
 intro aL tp gr tp' ob hG ho cs hc
 have fin : ∀ {n : Nat} {dr : Bool} {ds : List DV} {L : LFun} {y : List Int} {tp3 tp4 : Tape} {v : Value} {h' : Hp} {nx' : Nat} {d : List Nat} {ob : List Prop}, LOkZ (rmV L rmP y) Try.prog → runZ (rmV L rmP y) Try.prog 9 13 [llA n, .bool dr] [(0, ⟨.sw ds, []⟩)] 4 tp3 = .ok ((v, h', nx', d), tp4, ob) → Alls ob → (∀ σ, renV σ v = some v) → ∃ v0 h0' nx0' d0 g, Tri Try.prog 13 (dvV [.dl ds n, .fl (.bool dr)] cs 0) (dvH [.dl ds n, .fl (.bool dr)] cs 0) (2 * 2) (v0, h0', nx0', d0) ∧ GrO ⟨fun _ => v, []⟩ v0 h0' g := fun hL e ho hv => by
  have T := run_tri rmX rmTt hL e ho rfl
  exact ⟨_, _, _, _, fun n => n, T, GrO.flat hv⟩
 have hLn : ∀ {y : List Int}, LOkZ (rmV (rmLn Try.prog) rmP y) Try.prog := L_okV rfl rmLn_one
 have hLy : ∀ {y : List Int}, LOkZ (rmV (rmLy Try.prog y) rmP y) Try.prog := L_okV rfl (rmLy_one _)
 have fo : ∀ {ds : List DV} {n : Nat}, MgB ds n → FoOk (cnL (List.take n ds)) [] 0 n ∧ cnL (List.take n ds) = ds := fun {ds n} h => by
  have e : cnL (List.take n ds) = ds := by
   rw [h.A.e, List.take_of_length_le (by rw [llD_len, h.A.L.l]; exact Nat.le_refl _), cnL_ll]
  rw [e]
  exact ⟨⟨⟨rfl, rfl, fun x hx => by cases hx⟩, h.A.e, h.fd⟩, rfl⟩
 have num : ∀ {ds : List DV} {n : Nat}, MgB ds n → ¬ ((n : Int) > 32) ∧ ¬ ((sumL (llOf ds) : Nat) : Int) > 4096 := fun h => by
  have h1 := h.n32
  have h2 := h.s
  exact ⟨by omega, by omega⟩
 unfold gRm at hG
 split at hG
 ·rename_i ds n dr tp2
  simp only [oI, pI] at hG
  obtain ⟨rfl, rfl, rfl⟩ := hG
  obtain ⟨h, h1, _⟩ := ho
  by_cases h2 : 32 < n
  ·exact fin hLn (rn_l1 n dr ds []) ⟨rfl, rfl, rfl, rfl, h, decide_eq_true (by omega), trivial⟩ fun σ => rfl
  ·exact fin hLn (rn_l2 n dr ds []) ⟨rfl, rfl, rfl, rfl, h, decide_eq_false (by omega), decide_eq_true (by omega), trivial⟩ fun σ => rfl
 ·rename_i ds n dr tp2
  simp only [oI, pI] at hG
  obtain ⟨rfl, rfl, rfl⟩ := hG
  obtain ⟨h, h1, h2, h3, _⟩ := ho
  exact fin hLn (rn_uns n dr ds []) ⟨rfl, rfl, rfl, rfl, h, decide_eq_false (by omega), decide_eq_false (by omega), rfl, rfl, rfl, rfl, h, h3, trivial⟩ fun σ => rfl
 ·rename_i ds n dr tp2
  simp only [oI, pI] at hG
  obtain ⟨rfl, rfl, rfl⟩ := hG
  obtain ⟨h, h1, _⟩ := ho
  obtain ⟨g1, g2⟩ := num h
  obtain ⟨f1, f2⟩ := fo h
  cases hk : lsK none (ksL (llOf ds)) none with
  | none => exact fin hLn (rn_nn n dr ds []) ⟨rfl, rfl, rfl, rfl, h.A, decide_eq_false g1, decide_eq_false g2, rfl, rfl, rfl, rfl, h.A, h.a, f1, (by rw [show cnL (List.take n (List.drop 0 ds)) = ds from f2]; exact hk), rfl, rfl, rfl, rfl, h1, h, hk, trivial⟩ fun σ => rfl
  | some y => exact fin hLy (rn_yn n dr ds y) ⟨rfl, rfl, rfl, rfl, h.A, decide_eq_false g1, decide_eq_false g2, rfl, rfl, rfl, rfl, h.A, h.a, f1, (by rw [show cnL (List.take n (List.drop 0 ds)) = ds from f2]; exact hk), rfl, rfl, rfl, rfl, h1, h, hk, trivial⟩ fun σ => rfl
 ·rename_i ds n dr tp2
  simp only [oI, pI] at hG
  obtain ⟨rfl, rfl, rfl⟩ := hG
  obtain ⟨h, h1, h2, _⟩ := ho
  obtain ⟨g1, g2⟩ := num h
  obtain ⟨f1, f2⟩ := fo h
  have hne : mgOut dr (llOf ds) ≠ [] := by rw [h2]; exact h1
  cases hk : lsK none (ksL (llOf ds)) none with
  | none => exact absurd (by rw [← (h.rk dr).2, hk]; rfl) hne
  | some y =>
   have T := run_tri rmX rmTt hLy (rn_yr n dr ds y) ⟨rfl, rfl, rfl, rfl, h.A, decide_eq_false g1, decide_eq_false g2, rfl, rfl, rfl, rfl, h.A, h.a, f1, (by rw [show cnL (List.take n (List.drop 0 ds)) = ds from f2]; exact hk), rfl, rfl, rfl, rfl, hne, h, hk, trivial⟩ rfl
   rw [h2] at T
   refine ⟨_, _, _, _, fun _ => 200, T, ⟨fun nx => f2s_tupM (by simp) rfl _ _, fun j r hj => ?_, fun i j hi hj _ => by simp at hi hj; omega⟩⟩
   match j, hj with
   | 0, hj => cases hj; exact ⟨fun τ => rfl, rfl, rfl⟩
 ·cases hG
def gMw (W : List Pr) : GSpecD := fun aL tp => match aL, tp with
 | [.dl ds n, .fl (.bool dr)], true :: tp' => some (⟨fun _ => tupM nlV 3, []⟩, tp', [MgA ds n, 32 < n ∨ 4096 < sumL (llOf ds)])
 | [.dl ds n, .fl (.bool dr)], false :: false :: tp' => some (⟨fun _ => tupM nlV 2, []⟩, tp', [MgA ds n, n ≤ 32, sumL (llOf ds) ≤ 4096, allA (llOf ds) = false])
 | [.dl ds n, .fl (.bool dr)], false :: true :: true :: tp' => some (⟨fun _ => tupM nlV 0, []⟩, tp', [MgB ds n, mgOut dr (llOf ds) = []])
 | [.dl ds n, .fl (.bool dr)], false :: true :: false :: tp' => some (⟨fun nx => tupM (.slice (some ⟨nx, 0, none⟩) W.length (capBig + nx)) 0, [⟨.dx 1 3 zPr (cpD W), []⟩]⟩, tp', [MgB ds n, W ≠ [], mgOut dr (llOf ds) = W])
 | _, _ => none
theorem mw_gok (W : List Pr) : GOkD Try.prog 12 (gMw W) := by
 intro aL tp gr tp' ob hG ho cs hc
 unfold gMw at hG
 split at hG
 ·rename_i ds n dr tp2
  simp only [oI, pI] at hG
  obtain ⟨rfl, rfl, rfl⟩ := hG
  exact mg_gok [.dl ds n, .fl (.bool dr)] (true :: tp2) _ _ _ rfl ho cs hc
 ·rename_i ds n dr tp2
  simp only [oI, pI] at hG
  obtain ⟨rfl, rfl, rfl⟩ := hG
  exact mg_gok [.dl ds n, .fl (.bool dr)] (false :: false :: tp2) _ _ _ rfl ho cs hc
 ·rename_i ds n dr tp2
  simp only [oI, pI] at hG
  obtain ⟨rfl, rfl, rfl⟩ := hG
  exact mg_gok [.dl ds n, .fl (.bool dr)] (false :: true :: true :: tp2) _ _ _ rfl ho cs hc
 ·rename_i ds n dr tp2
  simp only [oI, pI] at hG
  obtain ⟨rfl, rfl, rfl⟩ := hG
  obtain ⟨h, h1, h2, _⟩ := ho
  subst h2
  exact mg_gok [.dl ds n, .fl (.bool dr)] (false :: true :: false :: tp2) _ _ _ rfl ⟨h, h1, trivial⟩ cs hc
 ·cases hG
end Go.Proofs.Ytmoflcoijmmpjaa
