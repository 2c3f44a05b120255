/-
  Chapter 23: message.Check, the code from its regions 21, 14, 9 and 4 on: what it answers.
-/
import Derived.Test.YtcmcelilollchaaMszC
namespace Go.Proofs.Ytcmcelilollchaa
set_option linter.unusedSimpArgs false
set_option linter.unusedVariables false
set_option linter.unusedSectionVars false
open Go Go.RowKit

theorem tail_val {P : Program} {x : Code} {M N n k : Nat} {l : List (Nat × Value)} {hC : Hp} {v w : Int} (h : TailAt P x M n l hC N (.ret, [(k, .int .i64 v)])) (e : v = w) : TailAt P x M n l hC N (.ret, [(k, .int .i64 w)]) := by subst e; exact h
theorem ck_bd (f : Nat → Int) (a : Sa) {N : Nat} (hN : 3 ≤ N) : bdB (ckH f a) N = true := by
  have h0 : Nat.blt 0 N = true := blt_of (by omega)
  have h1 : Nat.blt 1 N = true := blt_of (by omega)
  have h2 : Nat.blt 2 N = true := blt_of (by omega)
  unfold bdB ckH saH
  cases a.b <;> simp only [cond_true, cond_false, List.map_cons, List.map_nil, ltAll, h0, h1, h2]
theorem ck_back {f : Nat → Int} {a : Sa} {o : Bool} {h : Hp} {nx N : Nat} (hok : CkOk f a h) (h3 : 3 ≤ nx) : RbT (sgf nx N fun n => n) (ckS o) (ckS o) ∧ RbL nx N (fun n => n) h h (ckH f a) ∧ injN nx N (fun n => n) (ckH f a) = true := by
  have keep : ∀ n r, n < nx → lk h n = some r → plainKd r.kd = true → RbRow nx N (fun n => n) h h n r := fun n r hn hl hk => ⟨n, r, by unfold fnN; rw [blt_of hn]; rfl, hl, rfl, hk, .inr ⟨hn, rfl, hl⟩⟩
  refine ⟨⟨rfl, rb_ptr (sgf_old (by omega)), rfl, rb_ptr (sgf_old (by omega)), rfl, rfl, trivial⟩, ⟨keep _ _ (by omega) hok.hh rfl, keep _ _ (by omega) hok.m rfl, ?_⟩, injN_of (fun m hm => ?_) ?_⟩
  · unfold saH
    cases hb : a.b with
    | false => exact trivial
    | true => exact ⟨keep _ _ (by omega) (hok.r hb) rfl, trivial⟩
  · revert hm
    unfold ckH saH
    cases a.b <;> intro hm <;> simp only [cond_true, cond_false, List.map_cons, List.map_nil, List.mem_cons, List.not_mem_nil, or_false] at hm <;> omega
  · unfold ckH saH
    cases a.b <;> rfl
theorem ck_self {f g : Nat → Int} {a : Sa} (e : hdF g = hdF f) (ho : SaOk Byts 1 4096 a) : CkOk g a (ckH f a) := ⟨by rw [e]; rfl, by rw [e]; rfl, fun hb => (by unfold ckH saH; rw [hb]; rfl), ho⟩
theorem ckT_one : TOneZ Try.prog ckT := orTz_ok (mkT_one own_gok) (orTz_ok (mkT_one bodied_gok) msgT_one)
theorem ck21_ok_ : SSOk Try.prog 134 [1, 3, 5] (ckC Try.prog 21) (tlSpecO ckP (fun a => ckS a.2.2) (fun a => ckA a.1 a.2.1) 40 60 (fun a => ckO (k21 a.1 a.2.1 a.2.2))) := by
  have hX : XOkZ (ckV noL) Try.prog := noXz_ok rfl
  have hT : TOkZ (ckV noL) Try.prog := T_okV rfl ckT_one
  have hL : LOkZ (ckV noL) Try.prog := noL_okV rfl
  refine tlSpecO_ok (fun q h nx h3 hN ho => ?_) (by omega)
  obtain ⟨f, a, o⟩ := q
  obtain ⟨hok, _⟩ := ho
  refine ⟨ckH f a, ?_, ck_back hok h3⟩
  have hz := hok.o.z
  have hr := hok.o.r
  have hl := hok.o.l
  have hc := hok.o.c
  have hm := hok.o.m
  clear hok
  obtain ⟨b, n, c, xs⟩ := a
  simp only at hz hr hl hc hm ⊢
  cases o with
  | false =>
    refine tail_val (tail_ofE (fun inr => code_runsT hX hL (runZ_ok hX hT hL mixed 5) mixed (c21_f inr f ⟨b, n, c, xs⟩) ?_) (ck_bd f _ (by omega)) (by omega) fun σ => rfl) rfl
    simp [Alls]
  | true =>
    cases b with
    | false =>
      obtain ⟨rfl, rfl, rfl⟩ := hz rfl
      cases hB : bodB (f 0) [] 0
      · refine tail_val (tail_ofE (fun inr => code_runsT hX hL (runZ_ok hX hT hL mixed 5) mixed (c21_nn inr f) ?_) (ck_bd f _ (by omega)) (by omega) fun σ => rfl) (by simp [k21, hB])
        simp [Alls, hB, Byts.nil]
      · refine tail_val (tail_ofE (fun inr => code_runsT hX hL (runZ_ok hX hT hL mixed 5) mixed (c21_ny inr f) ?_) (ck_bd f _ (by omega)) (by omega) fun σ => rfl) (by simp [k21, hB])
        simp [Alls, hB, Byts.nil]
    | true =>
      have ex : xs.take n = xs := take_len (by omega)
      have f1 := fl_byts hr
      cases hB : bodB (f 0) xs n
      · refine tail_val (tail_ofE (fun inr => code_runsT hX hL (runZ_ok hX hT hL mixed 5) mixed (c21_bn inr f n c xs) ?_) (ck_bd f _ (by omega)) (by omega) fun σ => rfl) (by simp [k21, hB])
        simp only [Alls, ex, avLen, hB, cond_false, Bool.not_false]
        repeat' (first | with_reducible exact trivial | with_reducible apply And.intro)
        all_goals first | with_reducible assumption | omega | with_reducible rfl | (skip)
      · refine tail_val (tail_ofE (fun inr => code_runsT hX hL (runZ_ok hX hT hL mixed 5) mixed (c21_by inr f n c xs) ?_) (ck_bd f _ (by omega)) (by omega) fun σ => rfl) (by simp [k21, hB])
        simp only [Alls, ex, avLen, hB, cond_false, Bool.not_true]
        repeat' (first | with_reducible exact trivial | with_reducible apply And.intro)
        all_goals first | with_reducible assumption | omega | with_reducible rfl | (skip)
theorem ck14_ok_ : SSOk Try.prog 134 [1, 3, 5] (ckC Try.prog 14) (tlSpecO ckP (fun a => ckS a.2.2) (fun a => ckA a.1 a.2.1) 30 60 (fun a => ckO (k21 a.1 a.2.1 (a.2.2 && c14 a.1)))) := by
  have hX : ∀ L, XOkZ (ckV L) Try.prog := fun L => noXz_ok rfl
  have hT : ∀ L, TOkZ (ckV L) Try.prog := fun L => T_okV rfl ckT_one
  have hL : LOkZ (ckV (ck21L Try.prog)) Try.prog := L_okV rfl (mkS_ok ck21_ok_)
  refine tlSpecO_ok (fun q h nx h3 hN ho => ?_) (by omega)
  obtain ⟨f, a, o⟩ := q
  obtain ⟨hok, _⟩ := ho
  refine ⟨ckH f a, ?_, ck_back hok h3⟩
  replace hok := hok.o
  have eU : unSa (saV 0 a) (ckH f a) = a := unSa_eq (ck_self (f := f) rfl hok).r hok.z
  simp only
  cases h2 : (f 0 == 2)
  case true =>
    cases o
    ·
      refine tail_val (tail_ofE (fun inr => code_runsT (hX _) hL (runZ_ok (hX _) (hT _) hL mixed 5) mixed (c14_2f inr f a) ?_) (ck_bd f _ (by omega)) (by omega) fun σ => rfl) ?_
      · repeat' (first | exact alls_nil | refine alls_cons ?_ ?_)
        all_goals first | with_reducible rfl | with_reducible assumption | omega | (rw [eU]; exact ck_self rfl hok) | (simp only [rowsN]; rw [eU]; exact ck_self rfl hok) | assumption | (simp only [cond_true, cond_false]; with_reducible assumption) | rfl
      · first
          | (simp only [k21, Bool.false_and, cond_false]; done)
          | (simp only [k21, c14, Bool.false_and, Bool.and_false, cond_false, cond_true, Bool.true_or, Bool.or_true, Bool.false_or]; done)
          | (change (bif k21 f (unSa (saV 0 a) (ckH f a)) _ then (0 : Int) else 2) = _; rw [eU]; simp only [c14, cond_false, cond_true, Bool.true_or, Bool.or_true, Bool.false_or, Bool.or_false, Bool.true_and, Bool.and_true]; done)
          | (change (bif k21 f (unSa (saV 0 a) (ckH f a)) _ then (0 : Int) else 2) = _; rw [eU]; simp only [c14, cond_false, cond_true, Bool.true_or, Bool.or_true, Bool.false_or, Bool.or_false, Bool.true_and, Bool.and_true]; rfl)
    cases p : decide (f 6 ≤ f 3)
    ·
      refine tail_val (tail_ofE (fun inr => code_runsT (hX _) hL (runZ_ok (hX _) (hT _) hL mixed 5) mixed (c14_2p inr f a) ?_) (ck_bd f _ (by omega)) (by omega) fun σ => rfl) ?_
      · repeat' (first | exact alls_nil | refine alls_cons ?_ ?_)
        all_goals first | with_reducible rfl | with_reducible assumption | omega | (rw [eU]; exact ck_self rfl hok) | (simp only [rowsN]; rw [eU]; exact ck_self rfl hok) | assumption | (simp only [cond_true, cond_false]; with_reducible assumption) | rfl
      · first
          | (simp only [k21, Bool.false_and, cond_false]; done)
          | (simp only [k21, c14, h2, p, Bool.false_and, Bool.and_false, cond_false, cond_true, Bool.true_or, Bool.or_true, Bool.false_or]; done)
          | (change (bif k21 f (unSa (saV 0 a) (ckH f a)) _ then (0 : Int) else 2) = _; rw [eU]; simp only [c14, h2, p, cond_false, cond_true, Bool.true_or, Bool.or_true, Bool.false_or, Bool.or_false, Bool.true_and, Bool.and_true]; done)
          | (change (bif k21 f (unSa (saV 0 a) (ckH f a)) _ then (0 : Int) else 2) = _; rw [eU]; simp only [c14, h2, p, cond_false, cond_true, Bool.true_or, Bool.or_true, Bool.false_or, Bool.or_false, Bool.true_and, Bool.and_true]; rfl)
    ·
      refine tail_val (tail_ofE (fun inr => code_runsT (hX _) hL (runZ_ok (hX _) (hT _) hL mixed 5) mixed (c14_2t inr f a) ?_) (ck_bd f _ (by omega)) (by omega) fun σ => rfl) ?_
      · repeat' (first | exact alls_nil | refine alls_cons ?_ ?_)
        all_goals first | with_reducible rfl | with_reducible assumption | omega | (rw [eU]; exact ck_self rfl hok) | (simp only [rowsN]; rw [eU]; exact ck_self rfl hok) | assumption | (simp only [cond_true, cond_false]; with_reducible assumption) | rfl
      · first
          | (simp only [k21, Bool.false_and, cond_false]; done)
          | (simp only [k21, c14, h2, p, Bool.false_and, Bool.and_false, cond_false, cond_true, Bool.true_or, Bool.or_true, Bool.false_or]; done)
          | (change (bif k21 f (unSa (saV 0 a) (ckH f a)) _ then (0 : Int) else 2) = _; rw [eU]; simp only [c14, h2, p, cond_false, cond_true, Bool.true_or, Bool.or_true, Bool.false_or, Bool.or_false, Bool.true_and, Bool.and_true]; done)
          | (change (bif k21 f (unSa (saV 0 a) (ckH f a)) _ then (0 : Int) else 2) = _; rw [eU]; simp only [c14, h2, p, cond_false, cond_true, Bool.true_or, Bool.or_true, Bool.false_or, Bool.or_false, Bool.true_and, Bool.and_true]; rfl)
  cases h4 : (f 0 == 4)
  case true =>
    cases o
    ·
      refine tail_val (tail_ofE (fun inr => code_runsT (hX _) hL (runZ_ok (hX _) (hT _) hL mixed 5) mixed (c14_4f inr f a) ?_) (ck_bd f _ (by omega)) (by omega) fun σ => rfl) ?_
      · repeat' (first | exact alls_nil | refine alls_cons ?_ ?_)
        all_goals first | with_reducible rfl | with_reducible assumption | omega | (rw [eU]; exact ck_self rfl hok) | (simp only [rowsN]; rw [eU]; exact ck_self rfl hok) | assumption | (simp only [cond_true, cond_false]; with_reducible assumption) | rfl
      · first
          | (simp only [k21, Bool.false_and, cond_false]; done)
          | (simp only [k21, c14, Bool.false_and, Bool.and_false, cond_false, cond_true, Bool.true_or, Bool.or_true, Bool.false_or]; done)
          | (change (bif k21 f (unSa (saV 0 a) (ckH f a)) _ then (0 : Int) else 2) = _; rw [eU]; simp only [c14, cond_false, cond_true, Bool.true_or, Bool.or_true, Bool.false_or, Bool.or_false, Bool.true_and, Bool.and_true]; done)
          | (change (bif k21 f (unSa (saV 0 a) (ckH f a)) _ then (0 : Int) else 2) = _; rw [eU]; simp only [c14, cond_false, cond_true, Bool.true_or, Bool.or_true, Bool.false_or, Bool.or_false, Bool.true_and, Bool.and_true]; rfl)
    cases p : decide (f 6 ≤ f 3)
    ·
      refine tail_val (tail_ofE (fun inr => code_runsT (hX _) hL (runZ_ok (hX _) (hT _) hL mixed 5) mixed (c14_4p inr f a) ?_) (ck_bd f _ (by omega)) (by omega) fun σ => rfl) ?_
      · repeat' (first | exact alls_nil | refine alls_cons ?_ ?_)
        all_goals first | with_reducible rfl | with_reducible assumption | omega | (rw [eU]; exact ck_self rfl hok) | (simp only [rowsN]; rw [eU]; exact ck_self rfl hok) | assumption | (simp only [cond_true, cond_false]; with_reducible assumption) | rfl
      · first
          | (simp only [k21, Bool.false_and, cond_false]; done)
          | (simp only [k21, c14, h2, h4, p, Bool.false_and, Bool.and_false, cond_false, cond_true, Bool.true_or, Bool.or_true, Bool.false_or]; done)
          | (change (bif k21 f (unSa (saV 0 a) (ckH f a)) _ then (0 : Int) else 2) = _; rw [eU]; simp only [c14, h2, h4, p, cond_false, cond_true, Bool.true_or, Bool.or_true, Bool.false_or, Bool.or_false, Bool.true_and, Bool.and_true]; done)
          | (change (bif k21 f (unSa (saV 0 a) (ckH f a)) _ then (0 : Int) else 2) = _; rw [eU]; simp only [c14, h2, h4, p, cond_false, cond_true, Bool.true_or, Bool.or_true, Bool.false_or, Bool.or_false, Bool.true_and, Bool.and_true]; rfl)
    ·
      refine tail_val (tail_ofE (fun inr => code_runsT (hX _) hL (runZ_ok (hX _) (hT _) hL mixed 5) mixed (c14_4t inr f a) ?_) (ck_bd f _ (by omega)) (by omega) fun σ => rfl) ?_
      · repeat' (first | exact alls_nil | refine alls_cons ?_ ?_)
        all_goals first | with_reducible rfl | with_reducible assumption | omega | (rw [eU]; exact ck_self rfl hok) | (simp only [rowsN]; rw [eU]; exact ck_self rfl hok) | assumption | (simp only [cond_true, cond_false]; with_reducible assumption) | rfl
      · first
          | (simp only [k21, Bool.false_and, cond_false]; done)
          | (simp only [k21, c14, h2, h4, p, Bool.false_and, Bool.and_false, cond_false, cond_true, Bool.true_or, Bool.or_true, Bool.false_or]; done)
          | (change (bif k21 f (unSa (saV 0 a) (ckH f a)) _ then (0 : Int) else 2) = _; rw [eU]; simp only [c14, h2, h4, p, cond_false, cond_true, Bool.true_or, Bool.or_true, Bool.false_or, Bool.or_false, Bool.true_and, Bool.and_true]; done)
          | (change (bif k21 f (unSa (saV 0 a) (ckH f a)) _ then (0 : Int) else 2) = _; rw [eU]; simp only [c14, h2, h4, p, cond_false, cond_true, Bool.true_or, Bool.or_true, Bool.false_or, Bool.or_false, Bool.true_and, Bool.and_true]; rfl)
  cases h5 : (f 0 == 5)
  case true =>
    cases o
    ·
      refine tail_val (tail_ofE (fun inr => code_runsT (hX _) hL (runZ_ok (hX _) (hT _) hL mixed 5) mixed (c14_5f inr f a) ?_) (ck_bd f _ (by omega)) (by omega) fun σ => rfl) ?_
      · repeat' (first | exact alls_nil | refine alls_cons ?_ ?_)
        all_goals first | with_reducible rfl | with_reducible assumption | omega | (rw [eU]; exact ck_self rfl hok) | (simp only [rowsN]; rw [eU]; exact ck_self rfl hok) | assumption | (simp only [cond_true, cond_false]; with_reducible assumption) | rfl
      · first
          | (simp only [k21, Bool.false_and, cond_false]; done)
          | (simp only [k21, c14, Bool.false_and, Bool.and_false, cond_false, cond_true, Bool.true_or, Bool.or_true, Bool.false_or]; done)
          | (change (bif k21 f (unSa (saV 0 a) (ckH f a)) _ then (0 : Int) else 2) = _; rw [eU]; simp only [c14, cond_false, cond_true, Bool.true_or, Bool.or_true, Bool.false_or, Bool.or_false, Bool.true_and, Bool.and_true]; done)
          | (change (bif k21 f (unSa (saV 0 a) (ckH f a)) _ then (0 : Int) else 2) = _; rw [eU]; simp only [c14, cond_false, cond_true, Bool.true_or, Bool.or_true, Bool.false_or, Bool.or_false, Bool.true_and, Bool.and_true]; rfl)
    ·
      refine tail_val (tail_ofE (fun inr => code_runsT (hX _) hL (runZ_ok (hX _) (hT _) hL mixed 5) mixed (c14_5t inr f a) ?_) (ck_bd f _ (by omega)) (by omega) fun σ => rfl) ?_
      · repeat' (first | exact alls_nil | refine alls_cons ?_ ?_)
        all_goals first | with_reducible rfl | with_reducible assumption | omega | (rw [eU]; exact ck_self rfl hok) | (simp only [rowsN]; rw [eU]; exact ck_self rfl hok) | assumption | (simp only [cond_true, cond_false]; with_reducible assumption) | rfl
      · first
          | (simp only [k21, Bool.false_and, cond_false]; done)
          | (simp only [k21, c14, h2, h4, h5, Bool.false_and, Bool.and_false, cond_false, cond_true, Bool.true_or, Bool.or_true, Bool.false_or]; done)
          | (change (bif k21 f (unSa (saV 0 a) (ckH f a)) _ then (0 : Int) else 2) = _; rw [eU]; simp only [c14, h2, h4, h5, cond_false, cond_true, Bool.true_or, Bool.or_true, Bool.false_or, Bool.or_false, Bool.true_and, Bool.and_true]; done)
          | (change (bif k21 f (unSa (saV 0 a) (ckH f a)) _ then (0 : Int) else 2) = _; rw [eU]; simp only [c14, h2, h4, h5, cond_false, cond_true, Bool.true_or, Bool.or_true, Bool.false_or, Bool.or_false, Bool.true_and, Bool.and_true]; rfl)
  cases h11 : (f 0 == 11)
  case true =>
    cases o
    ·
      refine tail_val (tail_ofE (fun inr => code_runsT (hX _) hL (runZ_ok (hX _) (hT _) hL mixed 5) mixed (c14_11f inr f a) ?_) (ck_bd f _ (by omega)) (by omega) fun σ => rfl) ?_
      · repeat' (first | exact alls_nil | refine alls_cons ?_ ?_)
        all_goals first | with_reducible rfl | with_reducible assumption | omega | (rw [eU]; exact ck_self rfl hok) | (simp only [rowsN]; rw [eU]; exact ck_self rfl hok) | assumption | (simp only [cond_true, cond_false]; with_reducible assumption) | rfl
      · first
          | (simp only [k21, Bool.false_and, cond_false]; done)
          | (simp only [k21, c14, Bool.false_and, Bool.and_false, cond_false, cond_true, Bool.true_or, Bool.or_true, Bool.false_or]; done)
          | (change (bif k21 f (unSa (saV 0 a) (ckH f a)) _ then (0 : Int) else 2) = _; rw [eU]; simp only [c14, cond_false, cond_true, Bool.true_or, Bool.or_true, Bool.false_or, Bool.or_false, Bool.true_and, Bool.and_true]; done)
          | (change (bif k21 f (unSa (saV 0 a) (ckH f a)) _ then (0 : Int) else 2) = _; rw [eU]; simp only [c14, cond_false, cond_true, Bool.true_or, Bool.or_true, Bool.false_or, Bool.or_false, Bool.true_and, Bool.and_true]; rfl)
    ·
      refine tail_val (tail_ofE (fun inr => code_runsT (hX _) hL (runZ_ok (hX _) (hT _) hL mixed 5) mixed (c14_11t inr f a) ?_) (ck_bd f _ (by omega)) (by omega) fun σ => rfl) ?_
      · repeat' (first | exact alls_nil | refine alls_cons ?_ ?_)
        all_goals first | with_reducible rfl | with_reducible assumption | omega | (rw [eU]; exact ck_self rfl hok) | (simp only [rowsN]; rw [eU]; exact ck_self rfl hok) | assumption | (simp only [cond_true, cond_false]; with_reducible assumption) | rfl
      · first
          | (simp only [k21, Bool.false_and, cond_false]; done)
          | (simp only [k21, c14, h2, h4, h5, h11, Bool.false_and, Bool.and_false, cond_false, cond_true, Bool.true_or, Bool.or_true, Bool.false_or]; done)
          | (change (bif k21 f (unSa (saV 0 a) (ckH f a)) _ then (0 : Int) else 2) = _; rw [eU]; simp only [c14, h2, h4, h5, h11, cond_false, cond_true, Bool.true_or, Bool.or_true, Bool.false_or, Bool.or_false, Bool.true_and, Bool.and_true]; done)
          | (change (bif k21 f (unSa (saV 0 a) (ckH f a)) _ then (0 : Int) else 2) = _; rw [eU]; simp only [c14, h2, h4, h5, h11, cond_false, cond_true, Bool.true_or, Bool.or_true, Bool.false_or, Bool.or_false, Bool.true_and, Bool.and_true]; rfl)
  cases o
  ·
    refine tail_val (tail_ofE (fun inr => code_runsT (hX _) hL (runZ_ok (hX _) (hT _) hL mixed 5) mixed (c14_nof inr f a) ?_) (ck_bd f _ (by omega)) (by omega) fun σ => rfl) ?_
    · repeat' (first | exact alls_nil | refine alls_cons ?_ ?_)
      all_goals first | with_reducible rfl | with_reducible assumption | omega | (rw [eU]; exact ck_self rfl hok) | (simp only [rowsN]; rw [eU]; exact ck_self rfl hok) | assumption | (simp only [cond_true, cond_false]; with_reducible assumption) | rfl
    · first
        | (simp only [k21, Bool.false_and, cond_false]; done)
        | (simp only [k21, c14, Bool.false_and, Bool.and_false, cond_false, cond_true, Bool.true_or, Bool.or_true, Bool.false_or]; done)
        | (change (bif k21 f (unSa (saV 0 a) (ckH f a)) _ then (0 : Int) else 2) = _; rw [eU]; simp only [c14, cond_false, cond_true, Bool.true_or, Bool.or_true, Bool.false_or, Bool.or_false, Bool.true_and, Bool.and_true]; done)
        | (change (bif k21 f (unSa (saV 0 a) (ckH f a)) _ then (0 : Int) else 2) = _; rw [eU]; simp only [c14, cond_false, cond_true, Bool.true_or, Bool.or_true, Bool.false_or, Bool.or_false, Bool.true_and, Bool.and_true]; rfl)
  ·
    refine tail_val (tail_ofE (fun inr => code_runsT (hX _) hL (runZ_ok (hX _) (hT _) hL mixed 5) mixed (c14_not inr f a) ?_) (ck_bd f _ (by omega)) (by omega) fun σ => rfl) ?_
    · repeat' (first | exact alls_nil | refine alls_cons ?_ ?_)
      all_goals first | with_reducible rfl | with_reducible assumption | omega | (rw [eU]; exact ck_self rfl hok) | (simp only [rowsN]; rw [eU]; exact ck_self rfl hok) | assumption | (simp only [cond_true, cond_false]; with_reducible assumption) | rfl
    · first
        | (simp only [k21, Bool.false_and, cond_false]; done)
        | (simp only [k21, c14, h2, h4, h5, h11, Bool.false_and, Bool.and_false, cond_false, cond_true, Bool.true_or, Bool.or_true, Bool.false_or]; done)
        | (change (bif k21 f (unSa (saV 0 a) (ckH f a)) _ then (0 : Int) else 2) = _; rw [eU]; simp only [c14, h2, h4, h5, h11, cond_false, cond_true, Bool.true_or, Bool.or_true, Bool.false_or, Bool.or_false, Bool.true_and, Bool.and_true]; done)
        | (change (bif k21 f (unSa (saV 0 a) (ckH f a)) _ then (0 : Int) else 2) = _; rw [eU]; simp only [c14, h2, h4, h5, h11, cond_false, cond_true, Bool.true_or, Bool.or_true, Bool.false_or, Bool.or_false, Bool.true_and, Bool.and_true]; rfl)
theorem ck9_ok_ : SSOk Try.prog 134 [1, 3, 5] (ckC Try.prog 9) (tlSpecO ckP (fun a => ckS a.2.2) (fun a => ckA a.1 a.2.1) 20 60 (fun a => ckO (k21 a.1 a.2.1 ((a.2.2 && c9 a.1) && c14 a.1)))) := by
  have hX : ∀ L, XOkZ (ckV L) Try.prog := fun L => noXz_ok rfl
  have hT : ∀ L, TOkZ (ckV L) Try.prog := fun L => T_okV rfl ckT_one
  have hL : LOkZ (ckV (ck14L Try.prog)) Try.prog := L_okV rfl (mkS_ok ck14_ok_)
  refine tlSpecO_ok (fun q h nx h3 hN ho => ?_) (by omega)
  obtain ⟨f, a, o⟩ := q
  obtain ⟨hok, _⟩ := ho
  refine ⟨ckH f a, ?_, ck_back hok h3⟩
  replace hok := hok.o
  have eU : unSa (saV 0 a) (ckH f a) = a := unSa_eq (ck_self (f := f) rfl hok).r hok.z
  simp only
  cases h3' : (f 0 == 3)
  case true =>
    cases o
    ·
      refine tail_val (tail_ofE (fun inr => code_runsT (hX _) hL (runZ_ok (hX _) (hT _) hL mixed 5) mixed (c9_3f inr f a) ?_) (ck_bd f _ (by omega)) (by omega) fun σ => rfl) ?_
      · repeat' (first | exact alls_nil | refine alls_cons ?_ ?_)
        all_goals first | with_reducible rfl | with_reducible assumption | omega | (rw [eU]; exact ck_self rfl hok) | (simp only [rowsN]; rw [eU]; exact ck_self rfl hok) | assumption | (simp only [cond_true, cond_false]; with_reducible assumption) | rfl
      · first
          | (simp only [k21, Bool.false_and, cond_false]; done)
          | (simp only [k21, c9, Bool.false_and, Bool.and_false, cond_false, cond_true, Bool.true_or, Bool.or_true, Bool.false_or]; done)
          | (change (bif k21 f (unSa (saV 0 a) (ckH f a)) _ then (0 : Int) else 2) = _; rw [eU]; simp only [c9, cond_false, cond_true, Bool.true_or, Bool.or_true, Bool.false_or, Bool.or_false, Bool.true_and, Bool.and_true]; done)
          | (change (bif k21 f (unSa (saV 0 a) (ckH f a)) _ then (0 : Int) else 2) = _; rw [eU]; simp only [c9, cond_false, cond_true, Bool.true_or, Bool.or_true, Bool.false_or, Bool.or_false, Bool.true_and, Bool.and_true]; rfl)
    cases p : cl9 f
    ·
      refine tail_val (tail_ofE (fun inr => code_runsT (hX _) hL (runZ_ok (hX _) (hT _) hL mixed 5) mixed (c9_3a inr f a) ?_) (ck_bd f _ (by omega)) (by omega) fun σ => rfl) ?_
      · repeat' (first | exact alls_nil | refine alls_cons ?_ ?_)
        all_goals first | with_reducible rfl | with_reducible assumption | omega | (rw [eU]; exact ck_self rfl hok) | (simp only [rowsN]; rw [eU]; exact ck_self rfl hok) | assumption | (simp only [cond_true, cond_false]; with_reducible assumption) | rfl
      · first
          | (simp only [k21, Bool.false_and, cond_false]; done)
          | (simp only [k21, c9, h3', p, Bool.false_and, Bool.and_false, cond_false, cond_true, Bool.true_or, Bool.or_true, Bool.false_or]; done)
          | (change (bif k21 f (unSa (saV 0 a) (ckH f a)) _ then (0 : Int) else 2) = _; rw [eU]; simp only [c9, h3', p, cond_false, cond_true, Bool.true_or, Bool.or_true, Bool.false_or, Bool.or_false, Bool.true_and, Bool.and_true]; done)
          | (change (bif k21 f (unSa (saV 0 a) (ckH f a)) _ then (0 : Int) else 2) = _; rw [eU]; simp only [c9, h3', p, cond_false, cond_true, Bool.true_or, Bool.or_true, Bool.false_or, Bool.or_false, Bool.true_and, Bool.and_true]; rfl)
    cases q : wB (f 12) 1 5
    ·
      refine tail_val (tail_ofE (fun inr => code_runsT (hX _) hL (runZ_ok (hX _) (hT _) hL mixed 5) mixed (c9_3b inr f a) ?_) (ck_bd f _ (by omega)) (by omega) fun σ => rfl) ?_
      · repeat' (first | exact alls_nil | refine alls_cons ?_ ?_)
        all_goals first | with_reducible rfl | with_reducible assumption | omega | (rw [eU]; exact ck_self rfl hok) | (simp only [rowsN]; rw [eU]; exact ck_self rfl hok) | assumption | (simp only [cond_true, cond_false]; with_reducible assumption) | rfl
      · first
          | (simp only [k21, Bool.false_and, cond_false]; done)
          | (simp only [k21, c9, h3', p, q, Bool.false_and, Bool.and_false, cond_false, cond_true, Bool.true_or, Bool.or_true, Bool.false_or]; done)
          | (change (bif k21 f (unSa (saV 0 a) (ckH f a)) _ then (0 : Int) else 2) = _; rw [eU]; simp only [c9, h3', p, q, cond_false, cond_true, Bool.true_or, Bool.or_true, Bool.false_or, Bool.or_false, Bool.true_and, Bool.and_true]; done)
          | (change (bif k21 f (unSa (saV 0 a) (ckH f a)) _ then (0 : Int) else 2) = _; rw [eU]; simp only [c9, h3', p, q, cond_false, cond_true, Bool.true_or, Bool.or_true, Bool.false_or, Bool.or_false, Bool.true_and, Bool.and_true]; rfl)
    ·
      refine tail_val (tail_ofE (fun inr => code_runsT (hX _) hL (runZ_ok (hX _) (hT _) hL mixed 5) mixed (c9_3t inr f a) ?_) (ck_bd f _ (by omega)) (by omega) fun σ => rfl) ?_
      · repeat' (first | exact alls_nil | refine alls_cons ?_ ?_)
        all_goals first | with_reducible rfl | with_reducible assumption | omega | (rw [eU]; exact ck_self rfl hok) | (simp only [rowsN]; rw [eU]; exact ck_self rfl hok) | assumption | (simp only [cond_true, cond_false]; with_reducible assumption) | rfl
      · first
          | (simp only [k21, Bool.false_and, cond_false]; done)
          | (simp only [k21, c9, h3', p, q, Bool.false_and, Bool.and_false, cond_false, cond_true, Bool.true_or, Bool.or_true, Bool.false_or]; done)
          | (change (bif k21 f (unSa (saV 0 a) (ckH f a)) _ then (0 : Int) else 2) = _; rw [eU]; simp only [c9, h3', p, q, cond_false, cond_true, Bool.true_or, Bool.or_true, Bool.false_or, Bool.or_false, Bool.true_and, Bool.and_true]; done)
          | (change (bif k21 f (unSa (saV 0 a) (ckH f a)) _ then (0 : Int) else 2) = _; rw [eU]; simp only [c9, h3', p, q, cond_false, cond_true, Bool.true_or, Bool.or_true, Bool.false_or, Bool.or_false, Bool.true_and, Bool.and_true]; rfl)
  cases h2 : (f 0 == 2)
  case true =>
    cases o
    ·
      refine tail_val (tail_ofE (fun inr => code_runsT (hX _) hL (runZ_ok (hX _) (hT _) hL mixed 5) mixed (c9_2f inr f a) ?_) (ck_bd f _ (by omega)) (by omega) fun σ => rfl) ?_
      · repeat' (first | exact alls_nil | refine alls_cons ?_ ?_)
        all_goals first | with_reducible rfl | with_reducible assumption | omega | (rw [eU]; exact ck_self rfl hok) | (simp only [rowsN]; rw [eU]; exact ck_self rfl hok) | assumption | (simp only [cond_true, cond_false]; with_reducible assumption) | rfl
      · first
          | (simp only [k21, Bool.false_and, cond_false]; done)
          | (simp only [k21, c9, Bool.false_and, Bool.and_false, cond_false, cond_true, Bool.true_or, Bool.or_true, Bool.false_or]; done)
          | (change (bif k21 f (unSa (saV 0 a) (ckH f a)) _ then (0 : Int) else 2) = _; rw [eU]; simp only [c9, cond_false, cond_true, Bool.true_or, Bool.or_true, Bool.false_or, Bool.or_false, Bool.true_and, Bool.and_true]; done)
          | (change (bif k21 f (unSa (saV 0 a) (ckH f a)) _ then (0 : Int) else 2) = _; rw [eU]; simp only [c9, cond_false, cond_true, Bool.true_or, Bool.or_true, Bool.false_or, Bool.or_false, Bool.true_and, Bool.and_true]; rfl)
    cases p : cl9 f
    ·
      refine tail_val (tail_ofE (fun inr => code_runsT (hX _) hL (runZ_ok (hX _) (hT _) hL mixed 5) mixed (c9_2a inr f a) ?_) (ck_bd f _ (by omega)) (by omega) fun σ => rfl) ?_
      · repeat' (first | exact alls_nil | refine alls_cons ?_ ?_)
        all_goals first | with_reducible rfl | with_reducible assumption | omega | (rw [eU]; exact ck_self rfl hok) | (simp only [rowsN]; rw [eU]; exact ck_self rfl hok) | assumption | (simp only [cond_true, cond_false]; with_reducible assumption) | rfl
      · first
          | (simp only [k21, Bool.false_and, cond_false]; done)
          | (simp only [k21, c9, h3', h2, p, Bool.false_and, Bool.and_false, cond_false, cond_true, Bool.true_or, Bool.or_true, Bool.false_or]; done)
          | (change (bif k21 f (unSa (saV 0 a) (ckH f a)) _ then (0 : Int) else 2) = _; rw [eU]; simp only [c9, h3', h2, p, cond_false, cond_true, Bool.true_or, Bool.or_true, Bool.false_or, Bool.or_false, Bool.true_and, Bool.and_true]; done)
          | (change (bif k21 f (unSa (saV 0 a) (ckH f a)) _ then (0 : Int) else 2) = _; rw [eU]; simp only [c9, h3', h2, p, cond_false, cond_true, Bool.true_or, Bool.or_true, Bool.false_or, Bool.or_false, Bool.true_and, Bool.and_true]; rfl)
    cases q : wB (f 12) 1 5
    ·
      refine tail_val (tail_ofE (fun inr => code_runsT (hX _) hL (runZ_ok (hX _) (hT _) hL mixed 5) mixed (c9_2b inr f a) ?_) (ck_bd f _ (by omega)) (by omega) fun σ => rfl) ?_
      · repeat' (first | exact alls_nil | refine alls_cons ?_ ?_)
        all_goals first | with_reducible rfl | with_reducible assumption | omega | (rw [eU]; exact ck_self rfl hok) | (simp only [rowsN]; rw [eU]; exact ck_self rfl hok) | assumption | (simp only [cond_true, cond_false]; with_reducible assumption) | rfl
      · first
          | (simp only [k21, Bool.false_and, cond_false]; done)
          | (simp only [k21, c9, h3', h2, p, q, Bool.false_and, Bool.and_false, cond_false, cond_true, Bool.true_or, Bool.or_true, Bool.false_or]; done)
          | (change (bif k21 f (unSa (saV 0 a) (ckH f a)) _ then (0 : Int) else 2) = _; rw [eU]; simp only [c9, h3', h2, p, q, cond_false, cond_true, Bool.true_or, Bool.or_true, Bool.false_or, Bool.or_false, Bool.true_and, Bool.and_true]; done)
          | (change (bif k21 f (unSa (saV 0 a) (ckH f a)) _ then (0 : Int) else 2) = _; rw [eU]; simp only [c9, h3', h2, p, q, cond_false, cond_true, Bool.true_or, Bool.or_true, Bool.false_or, Bool.or_false, Bool.true_and, Bool.and_true]; rfl)
    ·
      refine tail_val (tail_ofE (fun inr => code_runsT (hX _) hL (runZ_ok (hX _) (hT _) hL mixed 5) mixed (c9_2t inr f a) ?_) (ck_bd f _ (by omega)) (by omega) fun σ => rfl) ?_
      · repeat' (first | exact alls_nil | refine alls_cons ?_ ?_)
        all_goals first | with_reducible rfl | with_reducible assumption | omega | (rw [eU]; exact ck_self rfl hok) | (simp only [rowsN]; rw [eU]; exact ck_self rfl hok) | assumption | (simp only [cond_true, cond_false]; with_reducible assumption) | rfl
      · first
          | (simp only [k21, Bool.false_and, cond_false]; done)
          | (simp only [k21, c9, h3', h2, p, q, Bool.false_and, Bool.and_false, cond_false, cond_true, Bool.true_or, Bool.or_true, Bool.false_or]; done)
          | (change (bif k21 f (unSa (saV 0 a) (ckH f a)) _ then (0 : Int) else 2) = _; rw [eU]; simp only [c9, h3', h2, p, q, cond_false, cond_true, Bool.true_or, Bool.or_true, Bool.false_or, Bool.or_false, Bool.true_and, Bool.and_true]; done)
          | (change (bif k21 f (unSa (saV 0 a) (ckH f a)) _ then (0 : Int) else 2) = _; rw [eU]; simp only [c9, h3', h2, p, q, cond_false, cond_true, Bool.true_or, Bool.or_true, Bool.false_or, Bool.or_false, Bool.true_and, Bool.and_true]; rfl)
  cases h5 : (f 0 == 5)
  case true =>
    cases o
    ·
      refine tail_val (tail_ofE (fun inr => code_runsT (hX _) hL (runZ_ok (hX _) (hT _) hL mixed 5) mixed (c9_5f inr f a) ?_) (ck_bd f _ (by omega)) (by omega) fun σ => rfl) ?_
      · repeat' (first | exact alls_nil | refine alls_cons ?_ ?_)
        all_goals first | with_reducible rfl | with_reducible assumption | omega | (rw [eU]; exact ck_self rfl hok) | (simp only [rowsN]; rw [eU]; exact ck_self rfl hok) | assumption | (simp only [cond_true, cond_false]; with_reducible assumption) | rfl
      · first
          | (simp only [k21, Bool.false_and, cond_false]; done)
          | (simp only [k21, c9, Bool.false_and, Bool.and_false, cond_false, cond_true, Bool.true_or, Bool.or_true, Bool.false_or]; done)
          | (change (bif k21 f (unSa (saV 0 a) (ckH f a)) _ then (0 : Int) else 2) = _; rw [eU]; simp only [c9, cond_false, cond_true, Bool.true_or, Bool.or_true, Bool.false_or, Bool.or_false, Bool.true_and, Bool.and_true]; done)
          | (change (bif k21 f (unSa (saV 0 a) (ckH f a)) _ then (0 : Int) else 2) = _; rw [eU]; simp only [c9, cond_false, cond_true, Bool.true_or, Bool.or_true, Bool.false_or, Bool.or_false, Bool.true_and, Bool.and_true]; rfl)
    cases p : cl9 f
    ·
      refine tail_val (tail_ofE (fun inr => code_runsT (hX _) hL (runZ_ok (hX _) (hT _) hL mixed 5) mixed (c9_5a inr f a) ?_) (ck_bd f _ (by omega)) (by omega) fun σ => rfl) ?_
      · repeat' (first | exact alls_nil | refine alls_cons ?_ ?_)
        all_goals first | with_reducible rfl | with_reducible assumption | omega | (rw [eU]; exact ck_self rfl hok) | (simp only [rowsN]; rw [eU]; exact ck_self rfl hok) | assumption | (simp only [cond_true, cond_false]; with_reducible assumption) | rfl
      · first
          | (simp only [k21, Bool.false_and, cond_false]; done)
          | (simp only [k21, c9, h3', h2, h5, p, Bool.false_and, Bool.and_false, cond_false, cond_true, Bool.true_or, Bool.or_true, Bool.false_or]; done)
          | (change (bif k21 f (unSa (saV 0 a) (ckH f a)) _ then (0 : Int) else 2) = _; rw [eU]; simp only [c9, h3', h2, h5, p, cond_false, cond_true, Bool.true_or, Bool.or_true, Bool.false_or, Bool.or_false, Bool.true_and, Bool.and_true]; done)
          | (change (bif k21 f (unSa (saV 0 a) (ckH f a)) _ then (0 : Int) else 2) = _; rw [eU]; simp only [c9, h3', h2, h5, p, cond_false, cond_true, Bool.true_or, Bool.or_true, Bool.false_or, Bool.or_false, Bool.true_and, Bool.and_true]; rfl)
    cases q : wB (f 12) 1 5
    ·
      refine tail_val (tail_ofE (fun inr => code_runsT (hX _) hL (runZ_ok (hX _) (hT _) hL mixed 5) mixed (c9_5b inr f a) ?_) (ck_bd f _ (by omega)) (by omega) fun σ => rfl) ?_
      · repeat' (first | exact alls_nil | refine alls_cons ?_ ?_)
        all_goals first | with_reducible rfl | with_reducible assumption | omega | (rw [eU]; exact ck_self rfl hok) | (simp only [rowsN]; rw [eU]; exact ck_self rfl hok) | assumption | (simp only [cond_true, cond_false]; with_reducible assumption) | rfl
      · first
          | (simp only [k21, Bool.false_and, cond_false]; done)
          | (simp only [k21, c9, h3', h2, h5, p, q, Bool.false_and, Bool.and_false, cond_false, cond_true, Bool.true_or, Bool.or_true, Bool.false_or]; done)
          | (change (bif k21 f (unSa (saV 0 a) (ckH f a)) _ then (0 : Int) else 2) = _; rw [eU]; simp only [c9, h3', h2, h5, p, q, cond_false, cond_true, Bool.true_or, Bool.or_true, Bool.false_or, Bool.or_false, Bool.true_and, Bool.and_true]; done)
          | (change (bif k21 f (unSa (saV 0 a) (ckH f a)) _ then (0 : Int) else 2) = _; rw [eU]; simp only [c9, h3', h2, h5, p, q, cond_false, cond_true, Bool.true_or, Bool.or_true, Bool.false_or, Bool.or_false, Bool.true_and, Bool.and_true]; rfl)
    ·
      refine tail_val (tail_ofE (fun inr => code_runsT (hX _) hL (runZ_ok (hX _) (hT _) hL mixed 5) mixed (c9_5t inr f a) ?_) (ck_bd f _ (by omega)) (by omega) fun σ => rfl) ?_
      · repeat' (first | exact alls_nil | refine alls_cons ?_ ?_)
        all_goals first | with_reducible rfl | with_reducible assumption | omega | (rw [eU]; exact ck_self rfl hok) | (simp only [rowsN]; rw [eU]; exact ck_self rfl hok) | assumption | (simp only [cond_true, cond_false]; with_reducible assumption) | rfl
      · first
          | (simp only [k21, Bool.false_and, cond_false]; done)
          | (simp only [k21, c9, h3', h2, h5, p, q, Bool.false_and, Bool.and_false, cond_false, cond_true, Bool.true_or, Bool.or_true, Bool.false_or]; done)
          | (change (bif k21 f (unSa (saV 0 a) (ckH f a)) _ then (0 : Int) else 2) = _; rw [eU]; simp only [c9, h3', h2, h5, p, q, cond_false, cond_true, Bool.true_or, Bool.or_true, Bool.false_or, Bool.or_false, Bool.true_and, Bool.and_true]; done)
          | (change (bif k21 f (unSa (saV 0 a) (ckH f a)) _ then (0 : Int) else 2) = _; rw [eU]; simp only [c9, h3', h2, h5, p, q, cond_false, cond_true, Bool.true_or, Bool.or_true, Bool.false_or, Bool.or_false, Bool.true_and, Bool.and_true]; rfl)
  cases o
  ·
    refine tail_val (tail_ofE (fun inr => code_runsT (hX _) hL (runZ_ok (hX _) (hT _) hL mixed 5) mixed (c9_nof inr f a) ?_) (ck_bd f _ (by omega)) (by omega) fun σ => rfl) ?_
    · repeat' (first | exact alls_nil | refine alls_cons ?_ ?_)
      all_goals first | with_reducible rfl | with_reducible assumption | omega | (rw [eU]; exact ck_self rfl hok) | (simp only [rowsN]; rw [eU]; exact ck_self rfl hok) | assumption | (simp only [cond_true, cond_false]; with_reducible assumption) | rfl
    · first
        | (simp only [k21, Bool.false_and, cond_false]; done)
        | (simp only [k21, c9, Bool.false_and, Bool.and_false, cond_false, cond_true, Bool.true_or, Bool.or_true, Bool.false_or]; done)
        | (change (bif k21 f (unSa (saV 0 a) (ckH f a)) _ then (0 : Int) else 2) = _; rw [eU]; simp only [c9, cond_false, cond_true, Bool.true_or, Bool.or_true, Bool.false_or, Bool.or_false, Bool.true_and, Bool.and_true]; done)
        | (change (bif k21 f (unSa (saV 0 a) (ckH f a)) _ then (0 : Int) else 2) = _; rw [eU]; simp only [c9, cond_false, cond_true, Bool.true_or, Bool.or_true, Bool.false_or, Bool.or_false, Bool.true_and, Bool.and_true]; rfl)
  ·
    refine tail_val (tail_ofE (fun inr => code_runsT (hX _) hL (runZ_ok (hX _) (hT _) hL mixed 5) mixed (c9_not inr f a) ?_) (ck_bd f _ (by omega)) (by omega) fun σ => rfl) ?_
    · repeat' (first | exact alls_nil | refine alls_cons ?_ ?_)
      all_goals first | with_reducible rfl | with_reducible assumption | omega | (rw [eU]; exact ck_self rfl hok) | (simp only [rowsN]; rw [eU]; exact ck_self rfl hok) | assumption | (simp only [cond_true, cond_false]; with_reducible assumption) | rfl
    · first
        | (simp only [k21, Bool.false_and, cond_false]; done)
        | (simp only [k21, c9, h3', h2, h5, Bool.false_and, Bool.and_false, cond_false, cond_true, Bool.true_or, Bool.or_true, Bool.false_or]; done)
        | (change (bif k21 f (unSa (saV 0 a) (ckH f a)) _ then (0 : Int) else 2) = _; rw [eU]; simp only [c9, h3', h2, h5, cond_false, cond_true, Bool.true_or, Bool.or_true, Bool.false_or, Bool.or_false, Bool.true_and, Bool.and_true]; done)
        | (change (bif k21 f (unSa (saV 0 a) (ckH f a)) _ then (0 : Int) else 2) = _; rw [eU]; simp only [c9, h3', h2, h5, cond_false, cond_true, Bool.true_or, Bool.or_true, Bool.false_or, Bool.or_false, Bool.true_and, Bool.and_true]; rfl)
theorem ck4_ok_ : SSOk Try.prog 134 [1, 3, 5] (ckC Try.prog 4) (tlSpecO ckP (fun a => ckS a.2.2) (fun a => ckA a.1 a.2.1) 10 60 (fun a => ckO (k21 a.1 a.2.1 ((((a.2.2 && (bf4 a.1).all id)) && c9 a.1) && c14 a.1)))) := by
  have hX : ∀ L, XOkZ (ckV L) Try.prog := fun L => noXz_ok rfl
  have hT : ∀ L, TOkZ (ckV L) Try.prog := fun L => T_okV rfl ckT_one
  have hL : LOkZ (ckV (ck9L Try.prog)) Try.prog := L_okV rfl (mkS_ok ck9_ok_)
  refine tlSpecO_ok (fun q h nx h3 hN ho => ?_) (by omega)
  obtain ⟨f, a, o⟩ := q
  obtain ⟨hok, _⟩ := ho
  refine ⟨ckH f a, ?_, ck_back hok h3⟩
  replace hok := hok.o
  have eU : unSa (saV 0 a) (ckH f a) = a := unSa_eq (ck_self (f := f) rfl hok).r hok.z
  simp only
  cases o
  ·
    refine tail_val (tail_ofE (fun inr => code_runsT (hX _) hL (runZ_ok (hX _) (hT _) hL mixed 5) mixed (c4_0 inr f a) ?_) (ck_bd f _ (by omega)) (by omega) fun σ => rfl) ?_
    · repeat' (first | exact alls_nil | refine alls_cons ?_ ?_)
      all_goals first | with_reducible rfl | with_reducible assumption | omega | (rw [eU]; exact ck_self rfl hok) | (simp only [rowsN]; rw [eU]; exact ck_self rfl hok) | assumption | (simp only [cond_true, cond_false]; with_reducible assumption) | rfl
    · first
        | (simp only [k21, Bool.false_and, cond_false]; done)
        | (simp only [k21, bf4, Bool.false_and, Bool.and_false, cond_false, cond_true, Bool.true_or, Bool.or_true, Bool.false_or]; done)
        | (change (bif k21 f (unSa (saV 0 a) (ckH f a)) _ then (0 : Int) else 2) = _; rw [eU]; simp only [bf4, cond_false, cond_true, Bool.true_or, Bool.or_true, Bool.false_or, Bool.or_false, Bool.true_and, Bool.and_true]; done)
        | (change (bif k21 f (unSa (saV 0 a) (ckH f a)) _ then (0 : Int) else 2) = _; rw [eU]; simp only [bf4, cond_false, cond_true, Bool.true_or, Bool.or_true, Bool.false_or, Bool.or_false, Bool.true_and, Bool.and_true]; rfl)
  cases w3 : wB (f 3) 0 1073741824
  ·
    refine tail_val (tail_ofE (fun inr => code_runsT (hX _) hL (runZ_ok (hX _) (hT _) hL mixed 5) mixed (c4_1 inr f a) ?_) (ck_bd f _ (by omega)) (by omega) fun σ => rfl) ?_
    · repeat' (first | exact alls_nil | refine alls_cons ?_ ?_)
      all_goals first | with_reducible rfl | with_reducible assumption | omega | (rw [eU]; exact ck_self rfl hok) | (simp only [rowsN]; rw [eU]; exact ck_self rfl hok) | assumption | (simp only [cond_true, cond_false]; with_reducible assumption) | rfl
    · first
        | (simp only [k21, Bool.false_and, cond_false]; done)
        | (simp only [k21, bf4, List.all_cons, List.all_nil, id_eq, w3, Bool.false_and, Bool.and_false, cond_false, cond_true, Bool.true_or, Bool.or_true, Bool.false_or]; done)
        | (change (bif k21 f (unSa (saV 0 a) (ckH f a)) _ then (0 : Int) else 2) = _; rw [eU]; simp only [bf4, List.all_cons, List.all_nil, id_eq, w3, cond_false, cond_true, Bool.true_or, Bool.or_true, Bool.false_or, Bool.or_false, Bool.true_and, Bool.and_true]; done)
        | (change (bif k21 f (unSa (saV 0 a) (ckH f a)) _ then (0 : Int) else 2) = _; rw [eU]; simp only [bf4, List.all_cons, List.all_nil, id_eq, w3, cond_false, cond_true, Bool.true_or, Bool.or_true, Bool.false_or, Bool.or_false, Bool.true_and, Bool.and_true]; rfl)
  cases w4 : wB (f 4) 0 1073741824
  ·
    refine tail_val (tail_ofE (fun inr => code_runsT (hX _) hL (runZ_ok (hX _) (hT _) hL mixed 5) mixed (c4_2 inr f a) ?_) (ck_bd f _ (by omega)) (by omega) fun σ => rfl) ?_
    · repeat' (first | exact alls_nil | refine alls_cons ?_ ?_)
      all_goals first | with_reducible rfl | with_reducible assumption | omega | (rw [eU]; exact ck_self rfl hok) | (simp only [rowsN]; rw [eU]; exact ck_self rfl hok) | assumption | (simp only [cond_true, cond_false]; with_reducible assumption) | rfl
    · first
        | (simp only [k21, Bool.false_and, cond_false]; done)
        | (simp only [k21, bf4, List.all_cons, List.all_nil, id_eq, w3, w4, Bool.false_and, Bool.and_false, cond_false, cond_true, Bool.true_or, Bool.or_true, Bool.false_or]; done)
        | (change (bif k21 f (unSa (saV 0 a) (ckH f a)) _ then (0 : Int) else 2) = _; rw [eU]; simp only [bf4, List.all_cons, List.all_nil, id_eq, w3, w4, cond_false, cond_true, Bool.true_or, Bool.or_true, Bool.false_or, Bool.or_false, Bool.true_and, Bool.and_true]; done)
        | (change (bif k21 f (unSa (saV 0 a) (ckH f a)) _ then (0 : Int) else 2) = _; rw [eU]; simp only [bf4, List.all_cons, List.all_nil, id_eq, w3, w4, cond_false, cond_true, Bool.true_or, Bool.or_true, Bool.false_or, Bool.or_false, Bool.true_and, Bool.and_true]; rfl)
  cases w5 : wB (f 5) 0 1073741824
  ·
    refine tail_val (tail_ofE (fun inr => code_runsT (hX _) hL (runZ_ok (hX _) (hT _) hL mixed 5) mixed (c4_3 inr f a) ?_) (ck_bd f _ (by omega)) (by omega) fun σ => rfl) ?_
    · repeat' (first | exact alls_nil | refine alls_cons ?_ ?_)
      all_goals first | with_reducible rfl | with_reducible assumption | omega | (rw [eU]; exact ck_self rfl hok) | (simp only [rowsN]; rw [eU]; exact ck_self rfl hok) | assumption | (simp only [cond_true, cond_false]; with_reducible assumption) | rfl
    · first
        | (simp only [k21, Bool.false_and, cond_false]; done)
        | (simp only [k21, bf4, List.all_cons, List.all_nil, id_eq, w3, w4, w5, Bool.false_and, Bool.and_false, cond_false, cond_true, Bool.true_or, Bool.or_true, Bool.false_or]; done)
        | (change (bif k21 f (unSa (saV 0 a) (ckH f a)) _ then (0 : Int) else 2) = _; rw [eU]; simp only [bf4, List.all_cons, List.all_nil, id_eq, w3, w4, w5, cond_false, cond_true, Bool.true_or, Bool.or_true, Bool.false_or, Bool.or_false, Bool.true_and, Bool.and_true]; done)
        | (change (bif k21 f (unSa (saV 0 a) (ckH f a)) _ then (0 : Int) else 2) = _; rw [eU]; simp only [bf4, List.all_cons, List.all_nil, id_eq, w3, w4, w5, cond_false, cond_true, Bool.true_or, Bool.or_true, Bool.false_or, Bool.or_false, Bool.true_and, Bool.and_true]; rfl)
  cases w6 : wB (f 6) 0 1073741824
  ·
    refine tail_val (tail_ofE (fun inr => code_runsT (hX _) hL (runZ_ok (hX _) (hT _) hL mixed 5) mixed (c4_4 inr f a) ?_) (ck_bd f _ (by omega)) (by omega) fun σ => rfl) ?_
    · repeat' (first | exact alls_nil | refine alls_cons ?_ ?_)
      all_goals first | with_reducible rfl | with_reducible assumption | omega | (rw [eU]; exact ck_self rfl hok) | (simp only [rowsN]; rw [eU]; exact ck_self rfl hok) | assumption | (simp only [cond_true, cond_false]; with_reducible assumption) | rfl
    · first
        | (simp only [k21, Bool.false_and, cond_false]; done)
        | (simp only [k21, bf4, List.all_cons, List.all_nil, id_eq, w3, w4, w5, w6, Bool.false_and, Bool.and_false, cond_false, cond_true, Bool.true_or, Bool.or_true, Bool.false_or]; done)
        | (change (bif k21 f (unSa (saV 0 a) (ckH f a)) _ then (0 : Int) else 2) = _; rw [eU]; simp only [bf4, List.all_cons, List.all_nil, id_eq, w3, w4, w5, w6, cond_false, cond_true, Bool.true_or, Bool.or_true, Bool.false_or, Bool.or_false, Bool.true_and, Bool.and_true]; done)
        | (change (bif k21 f (unSa (saV 0 a) (ckH f a)) _ then (0 : Int) else 2) = _; rw [eU]; simp only [bf4, List.all_cons, List.all_nil, id_eq, w3, w4, w5, w6, cond_false, cond_true, Bool.true_or, Bool.or_true, Bool.false_or, Bool.or_false, Bool.true_and, Bool.and_true]; rfl)
  cases w7 : wB (f 7) 0 1073741824
  ·
    refine tail_val (tail_ofE (fun inr => code_runsT (hX _) hL (runZ_ok (hX _) (hT _) hL mixed 5) mixed (c4_5 inr f a) ?_) (ck_bd f _ (by omega)) (by omega) fun σ => rfl) ?_
    · repeat' (first | exact alls_nil | refine alls_cons ?_ ?_)
      all_goals first | with_reducible rfl | with_reducible assumption | omega | (rw [eU]; exact ck_self rfl hok) | (simp only [rowsN]; rw [eU]; exact ck_self rfl hok) | assumption | (simp only [cond_true, cond_false]; with_reducible assumption) | rfl
    · first
        | (simp only [k21, Bool.false_and, cond_false]; done)
        | (simp only [k21, bf4, List.all_cons, List.all_nil, id_eq, w3, w4, w5, w6, w7, Bool.false_and, Bool.and_false, cond_false, cond_true, Bool.true_or, Bool.or_true, Bool.false_or]; done)
        | (change (bif k21 f (unSa (saV 0 a) (ckH f a)) _ then (0 : Int) else 2) = _; rw [eU]; simp only [bf4, List.all_cons, List.all_nil, id_eq, w3, w4, w5, w6, w7, cond_false, cond_true, Bool.true_or, Bool.or_true, Bool.false_or, Bool.or_false, Bool.true_and, Bool.and_true]; done)
        | (change (bif k21 f (unSa (saV 0 a) (ckH f a)) _ then (0 : Int) else 2) = _; rw [eU]; simp only [bf4, List.all_cons, List.all_nil, id_eq, w3, w4, w5, w6, w7, cond_false, cond_true, Bool.true_or, Bool.or_true, Bool.false_or, Bool.or_false, Bool.true_and, Bool.and_true]; rfl)
  cases w8 : wB (f 8) 0 1073741824
  ·
    refine tail_val (tail_ofE (fun inr => code_runsT (hX _) hL (runZ_ok (hX _) (hT _) hL mixed 5) mixed (c4_6 inr f a) ?_) (ck_bd f _ (by omega)) (by omega) fun σ => rfl) ?_
    · repeat' (first | exact alls_nil | refine alls_cons ?_ ?_)
      all_goals first | with_reducible rfl | with_reducible assumption | omega | (rw [eU]; exact ck_self rfl hok) | (simp only [rowsN]; rw [eU]; exact ck_self rfl hok) | assumption | (simp only [cond_true, cond_false]; with_reducible assumption) | rfl
    · first
        | (simp only [k21, Bool.false_and, cond_false]; done)
        | (simp only [k21, bf4, List.all_cons, List.all_nil, id_eq, w3, w4, w5, w6, w7, w8, Bool.false_and, Bool.and_false, cond_false, cond_true, Bool.true_or, Bool.or_true, Bool.false_or]; done)
        | (change (bif k21 f (unSa (saV 0 a) (ckH f a)) _ then (0 : Int) else 2) = _; rw [eU]; simp only [bf4, List.all_cons, List.all_nil, id_eq, w3, w4, w5, w6, w7, w8, cond_false, cond_true, Bool.true_or, Bool.or_true, Bool.false_or, Bool.or_false, Bool.true_and, Bool.and_true]; done)
        | (change (bif k21 f (unSa (saV 0 a) (ckH f a)) _ then (0 : Int) else 2) = _; rw [eU]; simp only [bf4, List.all_cons, List.all_nil, id_eq, w3, w4, w5, w6, w7, w8, cond_false, cond_true, Bool.true_or, Bool.or_true, Bool.false_or, Bool.or_false, Bool.true_and, Bool.and_true]; rfl)
  cases w11 : wB (f 11) 0 1073741824
  ·
    refine tail_val (tail_ofE (fun inr => code_runsT (hX _) hL (runZ_ok (hX _) (hT _) hL mixed 5) mixed (c4_7 inr f a) ?_) (ck_bd f _ (by omega)) (by omega) fun σ => rfl) ?_
    · repeat' (first | exact alls_nil | refine alls_cons ?_ ?_)
      all_goals first | with_reducible rfl | with_reducible assumption | omega | (rw [eU]; exact ck_self rfl hok) | (simp only [rowsN]; rw [eU]; exact ck_self rfl hok) | assumption | (simp only [cond_true, cond_false]; with_reducible assumption) | rfl
    · first
        | (simp only [k21, Bool.false_and, cond_false]; done)
        | (simp only [k21, bf4, List.all_cons, List.all_nil, id_eq, w3, w4, w5, w6, w7, w8, w11, Bool.false_and, Bool.and_false, cond_false, cond_true, Bool.true_or, Bool.or_true, Bool.false_or]; done)
        | (change (bif k21 f (unSa (saV 0 a) (ckH f a)) _ then (0 : Int) else 2) = _; rw [eU]; simp only [bf4, List.all_cons, List.all_nil, id_eq, w3, w4, w5, w6, w7, w8, w11, cond_false, cond_true, Bool.true_or, Bool.or_true, Bool.false_or, Bool.or_false, Bool.true_and, Bool.and_true]; done)
        | (change (bif k21 f (unSa (saV 0 a) (ckH f a)) _ then (0 : Int) else 2) = _; rw [eU]; simp only [bf4, List.all_cons, List.all_nil, id_eq, w3, w4, w5, w6, w7, w8, w11, cond_false, cond_true, Bool.true_or, Bool.or_true, Bool.false_or, Bool.or_false, Bool.true_and, Bool.and_true]; rfl)
  cases w12 : wB (f 12) 0 1073741824
  ·
    refine tail_val (tail_ofE (fun inr => code_runsT (hX _) hL (runZ_ok (hX _) (hT _) hL mixed 5) mixed (c4_8 inr f a) ?_) (ck_bd f _ (by omega)) (by omega) fun σ => rfl) ?_
    · repeat' (first | exact alls_nil | refine alls_cons ?_ ?_)
      all_goals first | with_reducible rfl | with_reducible assumption | omega | (rw [eU]; exact ck_self rfl hok) | (simp only [rowsN]; rw [eU]; exact ck_self rfl hok) | assumption | (simp only [cond_true, cond_false]; with_reducible assumption) | rfl
    · first
        | (simp only [k21, Bool.false_and, cond_false]; done)
        | (simp only [k21, bf4, List.all_cons, List.all_nil, id_eq, w3, w4, w5, w6, w7, w8, w11, w12, Bool.false_and, Bool.and_false, cond_false, cond_true, Bool.true_or, Bool.or_true, Bool.false_or]; done)
        | (change (bif k21 f (unSa (saV 0 a) (ckH f a)) _ then (0 : Int) else 2) = _; rw [eU]; simp only [bf4, List.all_cons, List.all_nil, id_eq, w3, w4, w5, w6, w7, w8, w11, w12, cond_false, cond_true, Bool.true_or, Bool.or_true, Bool.false_or, Bool.or_false, Bool.true_and, Bool.and_true]; done)
        | (change (bif k21 f (unSa (saV 0 a) (ckH f a)) _ then (0 : Int) else 2) = _; rw [eU]; simp only [bf4, List.all_cons, List.all_nil, id_eq, w3, w4, w5, w6, w7, w8, w11, w12, cond_false, cond_true, Bool.true_or, Bool.or_true, Bool.false_or, Bool.or_false, Bool.true_and, Bool.and_true]; rfl)
  cases w14 : wB (f 14) 0 1073741824
  ·
    refine tail_val (tail_ofE (fun inr => code_runsT (hX _) hL (runZ_ok (hX _) (hT _) hL mixed 5) mixed (c4_9 inr f a) ?_) (ck_bd f _ (by omega)) (by omega) fun σ => rfl) ?_
    · repeat' (first | exact alls_nil | refine alls_cons ?_ ?_)
      all_goals first | with_reducible rfl | with_reducible assumption | omega | (rw [eU]; exact ck_self rfl hok) | (simp only [rowsN]; rw [eU]; exact ck_self rfl hok) | assumption | (simp only [cond_true, cond_false]; with_reducible assumption) | rfl
    · first
        | (simp only [k21, Bool.false_and, cond_false]; done)
        | (simp only [k21, bf4, List.all_cons, List.all_nil, id_eq, w3, w4, w5, w6, w7, w8, w11, w12, w14, Bool.false_and, Bool.and_false, cond_false, cond_true, Bool.true_or, Bool.or_true, Bool.false_or]; done)
        | (change (bif k21 f (unSa (saV 0 a) (ckH f a)) _ then (0 : Int) else 2) = _; rw [eU]; simp only [bf4, List.all_cons, List.all_nil, id_eq, w3, w4, w5, w6, w7, w8, w11, w12, w14, cond_false, cond_true, Bool.true_or, Bool.or_true, Bool.false_or, Bool.or_false, Bool.true_and, Bool.and_true]; done)
        | (change (bif k21 f (unSa (saV 0 a) (ckH f a)) _ then (0 : Int) else 2) = _; rw [eU]; simp only [bf4, List.all_cons, List.all_nil, id_eq, w3, w4, w5, w6, w7, w8, w11, w12, w14, cond_false, cond_true, Bool.true_or, Bool.or_true, Bool.false_or, Bool.or_false, Bool.true_and, Bool.and_true]; rfl)
  ·
    refine tail_val (tail_ofE (fun inr => code_runsT (hX _) hL (runZ_ok (hX _) (hT _) hL mixed 5) mixed (c4_10 inr f a) ?_) (ck_bd f _ (by omega)) (by omega) fun σ => rfl) ?_
    · repeat' (first | exact alls_nil | refine alls_cons ?_ ?_)
      all_goals first | with_reducible rfl | with_reducible assumption | omega | (rw [eU]; exact ck_self rfl hok) | (simp only [rowsN]; rw [eU]; exact ck_self rfl hok) | assumption | (simp only [cond_true, cond_false]; with_reducible assumption) | rfl
    · first
        | (simp only [k21, Bool.false_and, cond_false]; done)
        | (simp only [k21, bf4, List.all_cons, List.all_nil, id_eq, w3, w4, w5, w6, w7, w8, w11, w12, w14, Bool.false_and, Bool.and_false, cond_false, cond_true, Bool.true_or, Bool.or_true, Bool.false_or]; done)
        | (change (bif k21 f (unSa (saV 0 a) (ckH f a)) _ then (0 : Int) else 2) = _; rw [eU]; simp only [bf4, List.all_cons, List.all_nil, id_eq, w3, w4, w5, w6, w7, w8, w11, w12, w14, cond_false, cond_true, Bool.true_or, Bool.or_true, Bool.false_or, Bool.or_false, Bool.true_and, Bool.and_true]; done)
        | (change (bif k21 f (unSa (saV 0 a) (ckH f a)) _ then (0 : Int) else 2) = _; rw [eU]; simp only [bf4, List.all_cons, List.all_nil, id_eq, w3, w4, w5, w6, w7, w8, w11, w12, w14, cond_false, cond_true, Bool.true_or, Bool.or_true, Bool.false_or, Bool.or_false, Bool.true_and, Bool.and_true]; rfl)
end Go.Proofs.Ytcmcelilollchaa
