/-
  Chapter 12: the statement MemtableMap, at any arguments.
-/
import Derived.Test.YtojakfnljopjbaaMapE
import Derived.Test.YtojakfnljopjbaaPtD
namespace Go.Proofs.Ytojakfnljopjbaa
set_option linter.unusedSimpArgs false
set_option linter.unusedVariables false
set_option linter.unusedSectionVars false
open Go Go.RowKit
theorem mpSp_ok : LSOk Try.prog 128 [0, 1, 5, 6, 7, 8] (bodyIn Try.prog 8 7) mpSp := by
  refine lspec_ok fun a tp xt l2 h2 nx2 d tp' ob hs ho inr ts hn hg => ?_
  obtain ⟨n, c, m1, c1, ds, k1⟩ := a
  simp only at hs hg
  split at hs
  case h_2 => cases hs
  rename_i b _
  simp only [Option.some.injEq, Prod.mk.injEq] at hs
  obtain ⟨⟨rfl, rfl, rfl, rfl, rfl⟩, rfl, rfl⟩ := hs
  obtain ⟨⟨hB, he⟩, _⟩ := ho
  (try simp only at hB he)
  have hcc : c < capBig := by have := hB.c; unfold capBig; omega
  have h1c : c1 < capBig := by have := hB.c1; unfold capBig; omega
  have key := mp_loop (inr := inr) (h0 := mpN ds k1) hB n 0 ([], []) (by omega) Mi.nil (Nat.le_refl _)
  have eF : mpHp (((prsOf ds).drop 0).foldl stP ([], [])) ds k1 = mpOut (mpFin (prsOf ds)) ds k1 b := by
    rw [List.drop_zero, ← he]; rfl
  have eE : mpE c1 m1 (((prsOf ds).drop 0).foldl stP ([], [])) = mpOE c1 m1 (mpFin (prsOf ds)).2.length b := by
    rw [List.drop_zero, ← he]; rfl
  rw [eF, eE] at key
  refine LRuns.enter (N := 100) (l2 := mpS n c m1 c1 0 (.slice none 0 0)) (h2 := mpN ds k1) hn hg (by omega) (by omega) (fun n => n) ?_ ?_ rfl key ?_
  · exact ⟨rfl, rb_slc rfl hcc, rfl, rb_slc rfl h1c, rfl, rfl, rfl, rb_ptr rfl, rfl, rfl, rfl, rfl, trivial⟩
  · exact ⟨sh2_row (m := 2) rfl rfl rfl, sd_row (m := 0) rfl rfl, ol_row (m := 1) rfl rfl hB.K1.fl, trivial⟩
  · refine tidy_of (by omega) (fun m hm hd => ?_) (by cases b <;> rfl)
    have h4 : m ≠ 2 := fun e => hd (by simp [e])
    cases b with
    | true => rfl
    | false =>
      have hm2 : m < 3 := hm
      show lk ((80, _) :: (81, _) :: _) m = _
      rw [lk_cons, if_neg (by omega), lk_cons, if_neg (by omega)]
      simp only [mpN, lk_cons, if_neg (Ne.symm h4)]
theorem mqSp_ok : LSOk Try.prog 128 [1, 5, 6, 7, 11, 12, 13] (bodyIn Try.prog 8 19) mqSp := by
  refine lspec_ok fun a tp xt l2 h2 nx2 d tp' ob hs ho inr ts hn hg => ?_
  obtain ⟨z, m1, c1, k, x, es, ls, ds, k1⟩ := a
  cases z with
  | true =>
    simp only [cond_true] at hs hg
    simp only [Option.some.injEq, Prod.mk.injEq] at hs
    obtain ⟨⟨rfl, rfl, rfl, rfl, rfl⟩, rfl, rfl⟩ := hs
    obtain ⟨⟨hK, hc⟩, _⟩ := ho
    (try simp only at hK hc)
    have h1c : c1 < capBig := by unfold capBig; omega
    have key : LRuns inr Try.prog (bodyIn Try.prog 8 19) 201 400 (mzN ds k1) 128 (mzE m1 c1 ++ [(13, iV 0)]) (mzN ds k1) 300 (.exit 2, mzE m1 c1, mzN ds k1) := by
      refine LRuns.exit (code_runsP mqX mqL0 (runZ_ok mqX mqT mqL0 mixed 12) mixed (mz_end inr m1 c1 ds k1) ⟨rfl, trivial⟩) (by intro e; cases e) rfl (by omega) (by omega) (fun n => n) ?_ ?_ rfl
      · exact ⟨rfl, rb_slc rfl h1c, rfl, rfl, rfl, rb_ptr rfl, rfl, rfl, rfl, rb_ptr rfl, rfl, rfl, trivial⟩
      · exact ⟨sh3_row (m := 200) rfl rfl rfl rfl, sh2_row (m := 2) rfl rfl rfl, sd_row (m := 0) rfl rfl, ol_row (m := 1) rfl rfl hK.fl, trivial⟩
    refine LRuns.enter (N := 300) (l2 := mzE m1 c1 ++ [(13, iV 0)]) (h2 := mzN ds k1) hn hg (by decide) (by omega) (fun n => n) ?_ ?_ rfl key ?_
    · exact ⟨rfl, rb_slc rfl h1c, rfl, rfl, rfl, rb_ptr rfl, rfl, rfl, rfl, rb_ptr rfl, rfl, rfl, rfl, rfl, trivial⟩
    · exact ⟨sh3_row (m := 200) rfl rfl rfl rfl, sh2_row (m := 2) rfl rfl rfl, sd_row (m := 0) rfl rfl, ol_row (m := 1) rfl rfl hK.fl, trivial⟩
    · exact tidy_of (by decide) (fun m hm hd => rfl) rfl
  | false =>
    simp only [cond_false] at hs hg
    split at hs
    case h_2 => cases hs
    rename_i b _
    simp only [Option.some.injEq, Prod.mk.injEq] at hs
    obtain ⟨⟨rfl, rfl, rfl, rfl, rfl⟩, rfl, rfl⟩ := hs
    obtain ⟨⟨⟨ps, n, c, hB⟩, hM, e1, e2, hk, hx, hm, hb⟩, _⟩ := ho
    (try simp only at hB hM e1 e2 hk hx hm hb)
    have h1c : c1 < capBig := by have := hB.c1; unfold capBig; omega
    have key := mq_loop (inr := inr) (h0 := mqN k es ls ds k1) hB hM (by rw [hx]; exact hm) (prsOf ls).length 0 none (by omega) (fun q h => by cases h)
    rw [e1, e2, hk, hx, List.drop_zero] at key
    have hb2 : ((prsOf ls).foldl (stepL (intsOf k1)) none).isSome = b := hb
    have eH : mqHp ((prsOf ls).foldl (stepL (intsOf k1)) none) k es ls ds k1 = (bif b then mqY (lsQ (prsOf ls) (intsOf k1)) k es ls ds k1 else mqN k es ls ds k1) := by
      unfold lsQ lastL
      rw [← hb2]
      cases (prsOf ls).foldl (stepL (intsOf k1)) none <;> rfl
    rw [eH, hb2] at key
    refine LRuns.enter (N := 300) (l2 := mqS m1 c1 0 x false) (h2 := mqN k es ls ds k1) hn hg (by decide) (by omega) (fun n => n) ?_ ?_ rfl key ?_
    ·
      exact ⟨rfl, rb_slc rfl h1c, rfl, rfl, rfl, rb_ptr rfl, rfl, rb_slg rfl rfl, rfl, rb_ptr rfl, rfl, rfl, rfl, rfl, trivial⟩
    · exact ⟨sh3_row (m := 200) rfl rfl rfl rfl, dp_row (m := 80) rfl rfl, dp_row (m := 81) rfl rfl, sh2_row (m := 2) rfl rfl (rb_slg rfl rfl), sd_row (m := 0) rfl rfl, ol_row (m := 1) rfl rfl hB.K1.fl, trivial⟩
    · refine tidy_of (by decide) (fun m hm hd => ?_) (by cases b <;> rfl)
      have h4 : m ≠ 200 := fun e => hd (by simp [e])
      cases b with
      | false => rfl
      | true =>
        have hm2 : m < 201 := hm
        show lk ((201, _) :: (202, _) :: (200, _) :: _) m = lk ((200, _) :: _) m
        rw [lk_cons, if_neg (by omega), lk_cons, if_neg (by omega), lk_cons, if_neg (by omega), lk_cons, if_neg (by omega)]
theorem mpLo_one : LOne Try.prog (mpLo Try.prog) := orL_ok (mkL_ok mpSp_ok) (mkL_ok mqSp_ok)
theorem mfX {L : LFun} {T : TFun} : XOkZ (mfV L T) Try.prog := XOneZ.ok cmpY_ok rfl
theorem mfT_one : TOneZ Try.prog mfT := orTz_ok (mkT_one kn_gok) (orTz_ok btwT_one (orTz_ok getT_one pxTs_one))
theorem mf_run {L : LFun} (h : LOne Try.prog L) {args : List Value} {hp : Hp} {nx : Nat} {tp tp' : Tape} {v : Value} {ob : List Prop} (e : prjV (runZ (mfV L mfT) Try.prog 12 8 args hp nx tp) = .ok (v, tp', ob)) (ho : Alls ob) : ∃ h' nx' d, Tri Try.prog 8 args hp nx (v, h', nx', d) :=
  run_val mfX (T_okV rfl mfT_one) (L_okV rfl h) e ho rfl
theorem st_len : ∀ (ps : List Pr) (s : MSt), (ps.foldl stP s).2.length ≤ s.2.length + ps.length
  | [], s => by simp
  | p :: ps, s => by
      have h := st_len ps (stP s p)
      have h2 : (stP s p).2.length ≤ s.2.length + 1 := by
        unfold stP
        simp only
        cases okL s.1 (clP p) with
        | true => simp only [cond_true, List.length_append, List.length_singleton]; omega
        | false => simp only [cond_false]; omega
      rw [List.foldl_cons, List.length_cons]
      omega
theorem map_any {W : World} {v0 v1 : Value} {rows : List (List DV)} {c c1 : Nat} {l1 : List Int} (hA : DA.at W v0 (.dl rows.flatten rows.length c)) (hc : c ≤ 9223372036854775807) (hr : ∀ r, r ∈ rows → ShsOk [.sl [.i .u8], .sl [.i .u8], .b] r)
    (h1 : DA.at W v1 (.sl (byV l1) l1.length c1)) (hc1 : c1 ≤ 9223372036854775807) (b1 : ∀ x ∈ l1, 0 ≤ x ∧ x < 256) :
    Calls Try.prog 8 #[v0, v1] W fun e w' => e = .returned (.bool true) ∧ Ext W w' := by
  refine calls_dp [.dl rows.flatten rows.length c, .sl (byV l1) l1.length c1] ?_ (fun σ => rfl) (us := [v0, v1]) ⟨hA, h1, trivial⟩
  show ∃ h' nx' d, Tri Try.prog 8 [.slice (some ⟨0, 0, none⟩) rows.length c, .slice (some ⟨1, 0, none⟩) l1.length c1] [(0, ⟨.sd rows.flatten, []⟩), (1, ⟨.old, byV l1⟩)] 2 (.bool true, h', nx', d)
  obtain ⟨ps, hP, hn, hO⟩ := prs_of hr
  have hps := prsOf_of hP
  generalize rows.length = n at *
  generalize rows.flatten = ds at *
  have hds : n = 0 → ds = [] := fun e => by
    rw [List.eq_nil_of_length_eq_zero (hn.trans e)] at hP
    exact hP
  have hLp : LpOk ds n := ⟨by rw [hps]; exact hP, by rw [hps]; exact hn⟩
  have y1 := byV_bytI b1
  have i1 := byV_ints l1
  by_cases hL : (decide ((n : Int) > 100) || ps.any big) = true
  · exact mf_run noL_ok (mf_e1 n c l1.length c1 ds (byV l1)) ⟨hds, ⟨hLp, by rw [hps]; exact hL⟩, trivial⟩
  have hL0 : (decide ((n : Int) > 100) || (prsOf ds).any big) = false := by rw [hps]; simpa using hL
  have hL1 : n ≤ 100 ∧ ps.any big = false := by
    rw [hps] at hL0
    simp only [Bool.or_eq_false_iff, decide_eq_false_iff_not] at hL0
    exact ⟨by omega, hL0.2⟩
  by_cases c1' : (l1.length : Int) > 300
  · exact mf_run noL_ok (mf_e2 n c l1.length c1 ds (byV l1)) ⟨hds, ⟨hLp, hL0⟩, decide_eq_true c1', trivial⟩
  have d1 := decide_eq_false c1'
  have hL2 : (decide ((n : Int) > 100) || ps.any big) = false := by rw [← hps]; exact hL0
  have hM : Mi (mpFin ps) := Mi.fold hO Mi.nil
  have hlen : (mpFin ps).2.length ≤ 100 := by
    have := st_len ps ([], [])
    unfold mpFin
    simp only [List.length_nil] at this
    omega
  have hB : MpOk ds (prsOf ds) n c c1 l1.length (byV l1) := by
    rw [hps]
    refine ⟨hP, hO, hn, hL1.1, fun p hp => ?_, hc, hc1, y1⟩
    have := List.any_eq_false.1 hL1.2 p hp
    simp [big] at this
    omega
  obtain ⟨ts, ls, hF⟩ : ∃ ts ls, mpFin ps = (ts, ls) := ⟨_, _, rfl⟩
  rw [hF] at hM hlen
  have St : ∀ b, ts.isEmpty = b → MpSt ds n c c1 l1.length (byV l1) b := fun b e => ⟨hB, by rw [hps, hF]; exact e⟩
  have f1 := y1.fl
  have k1 : l1.length = 0 → byV l1 = [] := fun e => List.eq_nil_of_length_eq_zero (by have := byV_len l1; omega)
  have z0 : BytI 0 [] := ⟨rfl, (fun x hx => by cases hx), rfl⟩
  have e0 : intsOf ([] : List Value) = [] := rfl
  have m1 : ∀ l : List Int, byV l = List.map (Value.int .u8) l := fun l => rfl
  have hT : Ti ts := hM.T
  have ll : ts.length ≤ ls.length := hM.l
  have hlen1 : ls.length ≤ 100 := hlen
  cases hE : ts.isEmpty with
  | true =>
    obtain rfl := emp_of hE
    have tn : TbK [] 0 := Ti.nil.tk
    have tn2 : TbOk [] 0 := tn.T
    have S1 := St _ hE
    refine mf_run mpLo_one (mf_n n c l1.length c1 ds (byV l1)) ?_
    simp only [Alls]
    repeat' (with_reducible apply And.intro)
    all_goals first | (with_reducible assumption) | omega | (with_reducible exact trivial) | (with_reducible rfl) | rfl
  | false =>
    have S1 := St _ hE
    have Sq : ∀ b, (lastL ls l1).isSome = b → MqSt (cpD ts) (cpD ls) ds ts.length ls.length l1.length c1 (byV l1) b := fun b e => ⟨⟨_, _, _, hB⟩, by rw [prsOf_cp, prsOf_cp]; exact hM, by rw [prsOf_cp], by rw [prsOf_cp], by rw [prsOf_cp], by rw [prsOf_cp], hlen, by rw [prsOf_cp, i1]; exact e⟩
    have tk := hT.tk
    have tk2 := tk.T
    have eA := btw_all ts
    have cl := cpD_len ts
    have ff := hM.f l1
    unfold fndT at ff
    simp only at ff
    have pos := pos_of hE
    have zA : ts.length = 0 → cpD ts = [] := fun e => by omega
    cases hh : hitP ts l1 with
    | false =>
      rw [hh] at ff
      have Sq1 := Sq false (by rw [← ff]; rfl)
      refine mf_run mpLo_one (mf_f n c l1.length c1 ds (byV l1)) ?_
      simp only [Alls, hps, hF, prsOf_cp, i1, e0, eA, hE, hh, beq_self_eq_true, decide_eq_true_eq, decide_eq_false_iff_not]
      repeat' (with_reducible apply And.intro)
      all_goals first | (with_reducible assumption) | omega | (with_reducible exact trivial) | (with_reducible rfl) | rfl | skip
    | true =>
      rw [hh] at ff
      have Sq1 := Sq true (by rw [← ff]; rfl)
      obtain ⟨g1, g2, g3⟩ := atP_hit hh
      have eq : lsQ ls l1 = atP ts l1 := by unfold lsQ; rw [← ff]; rfl
      obtain ⟨q, hq⟩ : ∃ q, atP ts l1 = q := ⟨_, rfl⟩
      have hqo : PrOk q := by rw [← hq]; exact hT.o _ (List.mem_of_getElem? g1)
      rw [hq] at eq
      have sA : strEq (strOfI q.1) (strOfI q.1) = true := by rw [strEq_I hqo.1 hqo.1]; exact decide_eq_true rfl
      have sB : strEq (strOfI q.2.1) (strOfI q.2.1) = true := by rw [strEq_I hqo.2 hqo.2]; exact decide_eq_true rfl
      have i2 := byV_ints q.1
      have i3 := byV_ints q.2.1
      have w2 := byV_len q.1
      have w3 := byV_len q.2.1
      have t2 : List.take q.1.length (byV q.1) = byV q.1 := List.take_of_length_le (by omega)
      have t3 : List.take q.2.1.length (byV q.2.1) = byV q.2.1 := List.take_of_length_le (by omega)
      refine mf_run mpLo_one (mf_t n c l1.length c1 ds (byV l1)) ?_
      simp only [Alls, hps, hF, prsOf_cp, i1, e0, eA, hE, hh, eq, hq, t2, t3, i2, i3, w2, w3, sA, sB, beq_self_eq_true, decide_eq_true_eq, decide_eq_false_iff_not]
      repeat' (with_reducible apply And.intro)
      all_goals first | (with_reducible assumption) | omega | (with_reducible exact trivial) | (with_reducible rfl) | exact m1 _ | rfl | skip
end Go.Proofs.Ytojakfnljopjbaa
