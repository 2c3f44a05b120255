/-
  Chapter 12: the statement MemtableParts, at any arguments.
-/
import Derived.Test.YtojakfnljopjbaaPtC
import Derived.Test.YtojakfnljopjbaaMdI
namespace Go.Proofs.Ytojakfnljopjbaa
set_option linter.unusedSimpArgs false
set_option linter.unusedVariables false
set_option linter.unusedSectionVars false
open Go Go.RowKit
/-! ### what is between -/
theorem tk_take {ps : List Pr} {b : List Int} (ha : asc ps = true) (hb : b ≠ []) : ∀ (r i : Nat), i + r = ps.length → tkP (ps.drop i) b = (ps.drop i).take (lbP ps b - i)
  | 0, i, hr => by rw [List.drop_of_length_le (by omega)]; simp [tkP]
  | r + 1, i, hr => by
      have hi : i < ps.length := by omega
      have hd := List.drop_eq_getElem_cons hi
      have hat := lb_at (k := b) ha (List.getElem?_eq_getElem hi)
      have hu : upP b ps[i] = ltK ps[i].1 b := by
        unfold upP
        have : b.isEmpty = false := by cases b with | nil => exact absurd rfl hb | cons => rfl
        rw [this, Bool.false_or]
      have ih := tk_take ha hb r (i + 1) (by omega)
      rw [hd]
      unfold tkP at ih ⊢
      rw [List.takeWhile_cons, hu]
      cases h : ltK ps[i].1 b with
      | true =>
        have h1 := hat.1 h
        rw [if_pos rfl, ih, show lbP ps b - i = (lbP ps b - (i + 1)) + 1 by omega, List.take_succ_cons]
      | false =>
        have h1 : ¬ i < lbP ps b := fun e => by rw [hat.2 e] at h; cases h
        rw [if_neg (by simp), show lbP ps b - i = 0 by omega, List.take_zero]
theorem lb_mono {ps : List Pr} {a b : List Int} (ha : asc ps = true) (h : ltK b a = false) : lbP ps a ≤ lbP ps b := by
  rcases Nat.lt_or_ge (lbP ps b) (lbP ps a) with h1 | h1
  · exfalso
    have hl := lb_le ps a
    have hi : lbP ps b < ps.length := by omega
    have e1 := (lb_at (k := a) ha (List.getElem?_eq_getElem hi)).2 h1
    have e2 : ltK ps[lbP ps b].1 b = false := by
      cases h2 : ltK ps[lbP ps b].1 b with
      | false => rfl
      | true => have := (lb_at (k := b) ha (List.getElem?_eq_getElem hi)).1 h2; omega
    rw [ltK_le e2 e1] at h
    cases h
  · exact h1
theorem btw_parts {ps : List Pr} {a b c : List Int} (ha : asc ps = true) (h1 : ltK b a = false) (h2 : ltK c b = false) (hb : b ≠ []) (hc : c ≠ []) : btw ps a b ++ btw ps b c = btw ps a c := by
  have m1 := lb_mono ha h1
  have m2 := lb_mono ha h2
  have l1 := lb_le ps a
  have l2 := lb_le ps b
  unfold btw
  rw [tk_take ha hb (ps.length - lbP ps a) _ (by omega), tk_take ha hc (ps.length - lbP ps b) _ (by omega), tk_take ha hc (ps.length - lbP ps a) _ (by omega)]
  have e1 : lbP ps c - lbP ps a = (lbP ps b - lbP ps a) + (lbP ps c - lbP ps b) := by omega
  rw [e1, List.take_add, List.drop_drop, show lbP ps a + (lbP ps b - lbP ps a) = lbP ps b by omega]
theorem ltK_nil (k : List Int) : ltK k [] = false := by cases k <;> rfl
theorem btw_all (ps : List Pr) : btw ps [] [] = ps := by
  have h0 : lbP ps [] = 0 := by cases ps with | nil => rfl | cons p l => simp [lbP, ltK_nil]
  unfold btw tkP
  rw [h0, List.drop_zero]
  have : ∀ l : List Pr, l.takeWhile (upP []) = l := by
    intro l
    induction l with
    | nil => rfl
    | cons p l ih => rw [List.takeWhile_cons, if_pos (show upP [] p = true from rfl), ih]
  exact this ps
theorem Ti.fold : ∀ {ps ts : List Pr}, (∀ p ∈ ps, PrOk p) → Ti ts → Ti (ps.foldl (fun t p => layP t (puP p)) ts)
  | [], ts, _, h => h
  | p :: ps, ts, ho, h => Ti.fold (ps := ps) (ts := layP ts (puP p)) (fun q hq => ho q (List.mem_cons_of_mem _ hq)) (h.lay (ho p (List.mem_cons_self ..)))
/-! ### lists of bytes, opened -/
theorem open_by {W : World} {v : Value} {rows : List (List DV)} {cap : Nat} (hA : DA.at W v (.dl rows.flatten rows.length cap)) (hr : ∀ r, r ∈ rows → ShsOk [.i .u8] r) : ∃ l : List Int, DA.at W v (.sl (byV l) l.length cap) ∧ l.length = rows.length ∧ ∀ x ∈ l, 0 ≤ x ∧ x < 256 := by
  obtain ⟨l, h1, h2, h3⟩ := bys_of hr
  refine ⟨l, ?_, h2, h3⟩
  obtain ⟨g1, g2⟩ := hA
  rw [h1, ← h2] at g2
  refine ⟨fun e => ?_, ?_⟩
  · have := g1 e
    rw [h1] at this
    have e2 : l = [] := by
      unfold byD at this
      exact List.map_eq_nil_iff.1 this
    rw [e2]; rfl
  · rw [byV_fl]; exact g2
theorem pfX {a b : Nat} {L : LFun} {T : TFun} : XOkZ (pfV a b L T) Try.prog := XOneZ.ok cmpY_ok rfl
theorem pfT_one : TOneZ Try.prog pfT := orTz_ok (mkT_one kn_gok) (orTz_ok btwT_one pxTs_one)
theorem pf_run {a b : Nat} {L : LFun} (h : LOne Try.prog L) {args : List Value} {hp : Hp} {nx : Nat} {tp tp' : Tape} {v : Value} {ob : List Prop} (e : prjV (runZ (pfV a b L pfT) Try.prog 12 5 args hp nx tp) = .ok (v, tp', ob)) (ho : Alls ob) : ∃ h' nx' d, Tri Try.prog 5 args hp nx (v, h', nx', d) :=
  run_val pfX (T_okV rfl pfT_one) (L_okV rfl h) e ho rfl
theorem gt_str {a b : List Int} (ha : ∀ x ∈ a, 0 ≤ x ∧ x < 256) (hb : ∀ x ∈ b, 0 ≤ x ∧ x < 256) : (!(Op.bytesLess (a.map fun n => UInt8.ofNat n.toNat) (b.map fun n => UInt8.ofNat n.toNat) || strEq (strOfI a) (strOfI b))) = ltK b a := by
  rw [cmp_less a b ha hb, strEq_I ha hb]
  show (!(ltK a b || decide (a = b))) = ltK b a
  cases h1 : ltK a b with
  | true => rw [ltK_asym h1]; rfl
  | false =>
    by_cases h2 : a = b
    · subst h2; rw [ltK_irr]; simp
    · cases h3 : ltK b a with
      | true => simp [h2]
      | false => exact absurd (ltK_tot h1 h3) h2
theorem btw_len (ps : List Pr) (a b : List Int) : (btw ps a b).length ≤ ps.length := by
  unfold btw tkP
  have h1 := (List.takeWhile_sublist (upP b) (l := ps.drop (lbP ps a))).length_le
  rw [List.length_drop] at h1
  omega
theorem sp_of {X : List Pr} (h : X.length ≤ 64) : SpOk (cpD X) (cpD X) X.length := ⟨by rw [prsOf_cp]; exact cpD_prs X, by rw [prsOf_cp]; exact cpD_prs X, by rw [prsOf_cp], by omega⟩
theorem td_cp (X : List Pr) : List.take (X.length * 3) (cpD X) = cpD X := List.take_of_length_le (by rw [cpD_len]; omega)
theorem pos_of {X : List Pr} (h : X.isEmpty = false) : 0 < X.length := by cases X with | nil => cases h | cons => simp
theorem emp_of {X : List Pr} (h : X.isEmpty = true) : X = [] := List.isEmpty_iff.1 h
theorem parts_any {W : World} {v0 v1 v2 v3 : Value} {rows : List (List DV)} {c c1 c2 c3 : Nat} {l1 l2 l3 : List Int} (hA : DA.at W v0 (.dl rows.flatten rows.length c)) (hc : c ≤ 9223372036854775807) (hr : ∀ r, r ∈ rows → ShsOk [.sl [.i .u8], .sl [.i .u8], .b] r)
    (h1 : DA.at W v1 (.sl (byV l1) l1.length c1)) (h2 : DA.at W v2 (.sl (byV l2) l2.length c2)) (h3 : DA.at W v3 (.sl (byV l3) l3.length c3)) (hc1 : c1 ≤ 9223372036854775807) (hc2 : c2 ≤ 9223372036854775807) (hc3 : c3 ≤ 9223372036854775807) (b1 : ∀ x ∈ l1, 0 ≤ x ∧ x < 256) (b2 : ∀ x ∈ l2, 0 ≤ x ∧ x < 256) (b3 : ∀ x ∈ l3, 0 ≤ x ∧ x < 256) :
    Calls Try.prog 5 #[v0, v1, v2, v3] W fun e w' => e = .returned (.bool true) ∧ Ext W w' := by
  refine calls_dp [.dl rows.flatten rows.length c, .sl (byV l1) l1.length c1, .sl (byV l2) l2.length c2, .sl (byV l3) l3.length c3] ?_ (fun σ => rfl) (us := [v0, v1, v2, v3]) ⟨hA, h1, h2, h3, trivial⟩
  show ∃ h' nx' d, Tri Try.prog 5 [.slice (some ⟨0, 0, none⟩) rows.length c, .slice (some ⟨1, 0, none⟩) l1.length c1, .slice (some ⟨2, 0, none⟩) l2.length c2, .slice (some ⟨3, 0, none⟩) l3.length c3] [(0, ⟨.sd rows.flatten, []⟩), (1, ⟨.old, byV l1⟩), (2, ⟨.old, byV l2⟩), (3, ⟨.old, byV l3⟩)] 4 (.bool true, h', nx', d)
  obtain ⟨ps, hP, hn, hO⟩ := prs_of hr
  have hps := prsOf_of hP
  generalize rows.length = n at *
  generalize rows.flatten = ds at *
  have hds : n = 0 → ds = [] := fun e => by
    rw [List.eq_nil_of_length_eq_zero (hn.trans e)] at hP
    exact hP
  have hLp : LpOk ds n := ⟨by rw [hps]; exact hP, by rw [hps]; exact hn⟩
  have y1 := byV_bytI b1
  have y2 := byV_bytI b2
  have y3 := byV_bytI b3
  have i1 := byV_ints l1
  have i2 := byV_ints l2
  have i3 := byV_ints l3
  have w1 := byV_len l1
  have w2 := byV_len l2
  have w3 := byV_len l3
  have t1 : List.take l1.length (byV l1) = byV l1 := List.take_of_length_le (by omega)
  have t2 : List.take l2.length (byV l2) = byV l2 := List.take_of_length_le (by omega)
  have t3 : List.take l3.length (byV l3) = byV l3 := List.take_of_length_le (by omega)
  have m1 : byV l1 = List.map (Value.int .u8) l1 := rfl
  have m2 : byV l2 = List.map (Value.int .u8) l2 := rfl
  have m3 : byV l3 = List.map (Value.int .u8) l3 := rfl
  have g12 := gt_str b1 b2
  have g23 := gt_str b2 b3
  have nn : ∀ x : Nat, ((x : Int) == 0) = decide (x = 0) := fun x => by
    by_cases h : x = 0
    · subst h; rfl
    · have : (x : Int) ≠ 0 := by omega
      simp [h]
  by_cases hL : (decide ((n : Int) > 100) || ps.any big) = true
  · exact pf_run (a := 46) (b := 46) noL_ok (pf_e1 n c c1 l1.length c2 l2.length c3 l3.length ds (byV l1) (byV l2) (byV l3)) ⟨hds, ⟨hLp, by rw [hps]; exact hL⟩, trivial⟩
  have hL0 : (decide ((n : Int) > 100) || (prsOf ds).any big) = false := by rw [hps]; simpa using hL
  have hL1 : n ≤ 100 ∧ ps.any big = false := by
    rw [hps] at hL0
    simp only [Bool.or_eq_false_iff, decide_eq_false_iff_not] at hL0
    exact ⟨by omega, hL0.2⟩
  by_cases c1' : (l1.length : Int) > 300
  · exact pf_run (a := 46) (b := 46) noL_ok (pf_e2 n c c1 l1.length c2 l2.length c3 l3.length ds (byV l1) (byV l2) (byV l3)) ⟨hds, ⟨hLp, hL0⟩, decide_eq_true c1', trivial⟩
  by_cases c2' : (l2.length : Int) > 300
  · exact pf_run (a := 46) (b := 46) noL_ok (pf_e3 n c c1 l1.length c2 l2.length c3 l3.length ds (byV l1) (byV l2) (byV l3)) ⟨hds, ⟨hLp, hL0⟩, decide_eq_false c1', decide_eq_true c2', trivial⟩
  by_cases c3' : (l3.length : Int) > 300
  · exact pf_run (a := 46) (b := 46) noL_ok (pf_e4 n c c1 l1.length c2 l2.length c3 l3.length ds (byV l1) (byV l2) (byV l3)) ⟨hds, ⟨hLp, hL0⟩, decide_eq_false c1', decide_eq_false c2', decide_eq_true c3', trivial⟩
  have d1 := decide_eq_false c1'
  have d2 := decide_eq_false c2'
  have d3 := decide_eq_false c3'
  cases q1 : ltK l2 l1 with
  | true =>
    refine pf_run (a := 46) (b := 46) noL_ok (pf_e5 n c c1 l1.length c2 l2.length c3 l3.length ds (byV l1) (byV l2) (byV l3)) ?_
    simp only [Alls, t1, t2, i1, i2, g12, q1, w1, w2]
    repeat' (with_reducible apply And.intro)
    all_goals first | (with_reducible assumption) | omega | (with_reducible exact trivial) | (with_reducible rfl) | exact m1 | exact m2
  | false =>
  cases q2 : ltK l3 l2 with
  | true =>
    refine pf_run (a := 46) (b := 46) noL_ok (pf_e6 n c c1 l1.length c2 l2.length c3 l3.length ds (byV l1) (byV l2) (byV l3)) ?_
    simp only [Alls, t1, t2, t3, i1, i2, i3, g12, g23, q1, q2, w1, w2, w3]
    repeat' (with_reducible apply And.intro)
    all_goals first | (with_reducible assumption) | omega | (with_reducible exact trivial) | (with_reducible rfl) | exact m1 | exact m2 | exact m3
  | false =>
  by_cases q3 : l2.length = 0
  · refine pf_run (a := 46) (b := 46) noL_ok (pf_e7 n c c1 l1.length c2 l2.length c3 l3.length ds (byV l1) (byV l2) (byV l3)) ?_
    simp only [Alls, t1, t2, t3, i1, i2, i3, g12, g23, q1, q2, w1, w2, w3, nn, decide_eq_true q3]
    repeat' (with_reducible apply And.intro)
    all_goals first | (with_reducible assumption) | omega | (with_reducible exact trivial) | (with_reducible rfl) | exact m1 | exact m2 | exact m3
  have n2 : l2 ≠ [] := fun e => q3 (by rw [e]; rfl)
  have n3 : l3 ≠ [] := fun e => by
    rw [e] at q2
    cases l2 with
    | nil => exact n2 rfl
    | cons x l => rw [ltK_nc] at q2; cases q2
  have hTi : Ti (ptFin ps) := Ti.fold hO Ti.nil
  have hB : PtOk ds (prsOf ds) n c c1 l1.length c2 l2.length c3 l3.length (byV l1) (byV l2) (byV l3) := by
    rw [hps]
    refine ⟨hP, hO, hn, hL1.1, fun p hp => ?_, hc, hc1, hc2, hc3, y1, y2, y3⟩
    have := List.any_eq_false.1 hL1.2 p hp
    simp [big] at this
    omega
  have St : ∀ b, (ptFin ps).isEmpty = b → PtSt ds n c c1 l1.length c2 l2.length c3 l3.length (byV l1) (byV l2) (byV l3) b := fun b e => ⟨hB, by rw [hps]; exact e⟩
  have eC := (btw_parts (a := l1) (b := l2) (c := l3) hTi.a q1 q2 n2 n3).symm
  have eA := btw_all (ptFin ps)
  have lC := btw_len (ptFin ps) l1 l3
  have tm := hTi.m
  have tk := hTi.tk
  have z0 : BytI 0 [] := ⟨rfl, (fun x hx => by cases hx), rfl⟩
  have e0 : intsOf ([] : List Value) = [] := rfl
  have f1 := y1.fl
  have f2 := y2.fl
  have f3 := y3.fl
  have k1 : l1.length = 0 → byV l1 = [] := fun e => List.eq_nil_of_length_eq_zero (by omega)
  have k2 : l2.length = 0 → byV l2 = [] := fun e => List.eq_nil_of_length_eq_zero (by omega)
  have k3 : l3.length = 0 → byV l3 = [] := fun e => List.eq_nil_of_length_eq_zero (by omega)
  have zX : ∀ X : List Pr, X.length = 0 → cpD X = [] := fun X e => by rw [List.eq_nil_of_length_eq_zero e]; rfl
  have cl : (cpD (ptFin ps)).length = (ptFin ps).length * 3 := cpD_len _
  have sA := sp_of tm
  have zA := zX (ptFin ps)
  cases hE : (ptFin ps).isEmpty with
  | true =>
    have sn : SpOk [] [] 0 := sp_of (X := []) (by simp)
    have tn : TbK [] 0 := Ti.nil.tk
    have S1 := St _ hE
    refine pf_run (a := 0) (b := 0) (mkL_ok ptSp_ok) (pf_n n c c1 l1.length c2 l2.length c3 l3.length ds (byV l1) (byV l2) (byV l3)) ?_
    simp only [Alls, t1, t2, t3, i1, i2, i3, g12, g23, q1, q2, w1, w2, w3, nn, decide_eq_false q3]
    repeat' (with_reducible apply And.intro)
    all_goals first | (with_reducible assumption) | omega | (with_reducible exact trivial) | (with_reducible rfl) | exact m1 | exact m2 | exact m3 | rfl
  | false =>
    have S1 := St _ hE
    rw [eC] at lC
    have cA := cpD_len (btw (ptFin ps) l1 l2)
    have cB := cpD_len (btw (ptFin ps) l2 l3)
    have tA := td_cp (btw (ptFin ps) l1 l2)
    have tB := td_cp (btw (ptFin ps) l2 l3)
    have oA : DVones (cpD (btw (ptFin ps) l1 l2)) := cpD_one _
    have oB : DVones (cpD (btw (ptFin ps) l2 l3)) := cpD_one _
    have sC := sp_of (X := btw (ptFin ps) l1 l2 ++ btw (ptFin ps) l2 l3) (by omega)
    have aC := cpD_app (btw (ptFin ps) l1 l2) (btw (ptFin ps) l2 l3)
    have zC := zX (btw (ptFin ps) l1 l2 ++ btw (ptFin ps) l2 l3)
    have zA1 := zX (btw (ptFin ps) l1 l2)
    have zB1 := zX (btw (ptFin ps) l2 l3)
    rw [List.length_append] at lC sC zC
    rw [aC] at sC zC
    have hL2 : (decide ((n : Int) > 100) || ps.any big) = false := by rw [← hps]; exact hL0
    obtain ⟨A, hAe⟩ : ∃ A, btw (ptFin ps) l1 l2 = A := ⟨_, rfl⟩
    obtain ⟨B, hBe⟩ : ∃ B, btw (ptFin ps) l2 l3 = B := ⟨_, rfl⟩
    simp only [hAe, hBe] at lC cA cB tA tB oA oB sC aC zC zA1 zB1 eC
    cases hA1 : A.isEmpty <;> cases hB1 : B.isEmpty
    · have pA := pos_of hA1
      have pB := pos_of hB1
      have eE : (A ++ B).isEmpty = false := by cases A with | nil => cases hA1 | cons => rfl
      refine pf_run (a := 46) (b := 46) (mkL_ok ptSp_ok) (pf_ff n c c1 l1.length c2 l2.length c3 l3.length ds (byV l1) (byV l2) (byV l3)) ?_
      simp only [Alls, t1, t2, t3, i1, i2, i3, g12, g23, q1, q2, w1, w2, w3, nn, decide_eq_false q3, hps, prsOf_cp, e0, eA, eC, hAe, hBe, List.drop_zero, tA, tB, List.length_append, aC, Nat.zero_add]
      repeat' (with_reducible apply And.intro)
      all_goals first | (with_reducible assumption) | omega | (with_reducible exact trivial) | (with_reducible rfl) | exact m1 | exact m2 | exact m3 | rfl | (intro e; exfalso; omega)
    · obtain rfl := emp_of hB1
      have pA := pos_of hA1
      simp only [List.append_nil, List.length_nil, Nat.add_zero] at lC eC
      have sC' := sp_of (X := A) (by omega)
      clear aC sC zC
      refine pf_run (a := 46) (b := 49) (mkL_ok ptSp_ok) (pf_ft n c c1 l1.length c2 l2.length c3 l3.length ds (byV l1) (byV l2) (byV l3)) ?_
      simp only [Alls, t1, t2, t3, i1, i2, i3, g12, g23, q1, q2, w1, w2, w3, nn, decide_eq_false q3, hps, prsOf_cp, e0, eA, eC, hAe, hBe, List.drop_zero, tA, tB, List.length_append, List.append_nil, List.nil_append, Nat.zero_add]
      repeat' (with_reducible apply And.intro)
      all_goals first | (with_reducible assumption) | omega | (with_reducible exact trivial) | (with_reducible rfl) | exact m1 | exact m2 | exact m3 | rfl | (intro e; exfalso; omega)
    · obtain rfl := emp_of hA1
      have pB := pos_of hB1
      simp only [List.nil_append, List.length_nil, Nat.zero_add] at lC eC
      have sC' := sp_of (X := B) (by omega)
      clear aC sC zC
      refine pf_run (a := 0) (b := 46) (mkL_ok ptSp_ok) (pf_tf n c c1 l1.length c2 l2.length c3 l3.length ds (byV l1) (byV l2) (byV l3)) ?_
      simp only [Alls, t1, t2, t3, i1, i2, i3, g12, g23, q1, q2, w1, w2, w3, nn, decide_eq_false q3, hps, prsOf_cp, e0, eA, eC, hAe, hBe, List.drop_zero, tA, tB, List.length_append, List.append_nil, List.nil_append, Nat.zero_add]
      repeat' (with_reducible apply And.intro)
      all_goals first | (with_reducible assumption) | omega | (with_reducible exact trivial) | (with_reducible rfl) | exact m1 | exact m2 | exact m3 | rfl | (intro e; exfalso; omega)
    · obtain rfl := emp_of hA1
      obtain rfl := emp_of hB1
      have sn : SpOk [] [] 0 := sp_of (X := []) (by simp)
      simp only [List.nil_append, List.length_nil, Nat.zero_add] at lC sC zC aC eC
      refine pf_run (a := 0) (b := 0) (mkL_ok ptSp_ok) (pf_tt n c c1 l1.length c2 l2.length c3 l3.length ds (byV l1) (byV l2) (byV l3)) ?_
      simp only [Alls, t1, t2, t3, i1, i2, i3, g12, g23, q1, q2, w1, w2, w3, nn, decide_eq_false q3, hps, prsOf_cp, e0, eA, eC, hAe, hBe, List.drop_zero, tA, tB, List.length_append, aC, Nat.zero_add]
      repeat' (with_reducible apply And.intro)
      all_goals first | (with_reducible assumption) | omega | (with_reducible exact trivial) | (with_reducible rfl) | exact m1 | exact m2 | exact m3 | rfl | (intro e; exfalso; omega)
end Go.Proofs.Ytojakfnljopjbaa
