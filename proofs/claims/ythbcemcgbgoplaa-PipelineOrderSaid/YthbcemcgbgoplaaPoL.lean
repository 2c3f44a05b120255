/-
  Chapter 26: the statement PipelineOrder: the law's notes, any number of them (written by wip/tools/gen_pol.py).
-/
import Derived.Test.YthbcemcgbgoplaaPoK
namespace Go.Proofs.Ythbcemcgbgoplaa
set_option linter.unusedSimpArgs false
set_option linter.unusedVariables false
set_option linter.unusedSectionVars false
open Go Go.RowKit
structure NsOk (ns : List Value) (c : Nat) : Prop where
  ints : Ints .i64 ns
  len : ns.length = c * 2
  rng : ∀ j, j < c * 2 → -9223372036854775808 ≤ intAt ns j ∧ intAt ns j ≤ 9223372036854775807
theorem NsOk.at {ns : List Value} {c j : Nat} (h : NsOk ns c) (hj : j < c * 2) : ns[j]? = some (.int .i64 (intAt ns j)) := h.ints.get (by rw [h.len]; exact hj)
theorem wr_eq {F b : Int} {j : Nat} (hF : 1 ≤ F ∧ F ≤ 1073741824) (hb : -9223372036854775808 ≤ b ∧ b ≤ 9223372036854775807) (h : IntKind.wrap .i64 (F + b) = F + (j : Int)) : b = (j : Int) := by
  by_cases c : F + b ≤ 9223372036854775807
  · rw [rg_wrap (by simp only [rg]; omega)] at h
    omega
  · have e : IntKind.wrap .i64 (F + b) = F + b - 18446744073709551616 := by
      rw [IntKind.wrap_i64]
      omega
    omega
theorem wr_in {F b : Int} (hF : 1 ≤ F ∧ F ≤ 1073741824) (hb : 0 ≤ b ∧ b ≤ 1000) : IntKind.wrap .i64 (F + b) = F + b := rg_wrap (by simp only [rg]; omega)
theorem sr_nat (a q : Nat) : srI (a : Int) (q : Int) = ((a / 2 ^ q : Nat) : Int) := rfl
theorem sl_nat (q : Nat) : slI 1 (q : Int) = ((2 ^ q : Nat) : Int) := by
  show ((1 * 2 ^ q : Nat) : Int) = _
  rw [Nat.one_mul]
theorem pow7 {q : Nat} (h : q < 7) : 2 ^ q ≤ 64 ∧ 1 ≤ 2 ^ q := by
  rcases (by omega : q = 0 ∨ q = 1 ∨ q = 2 ∨ q = 3 ∨ q = 4 ∨ q = 5 ∨ q = 6) with rfl | rfl | rfl | rfl | rfl | rfl | rfl <;> decide
theorem has_bit (a q : Nat) : (mdI (srI (a : Int) (q : Int)) 2 == 0) = !(hasN a q) := by
  rw [sr_nat, mdI_eq]
  unfold hasN
  by_cases h : a / 2 ^ q % 2 = 1
  · rw [decide_eq_true h]
    have : (((a / 2 ^ q : Nat) : Int) % 2) = 1 := by omega
    rw [this]; rfl
  · rw [decide_eq_false h]
    have : (((a / 2 ^ q : Nat) : Int) % 2) = 0 := by omega
    rw [this]; rfl
theorem with_new {a q : Nat} (h : hasN a q = false) : withN a q = a + 2 ^ q := by
  unfold withN
  unfold hasN at h
  rw [h]; rfl
section
variable {F : Int} {N me m c d : Nat} {ns : List Value} {inr : Bool}
theorem p3L_ok {n f : Int} {m c d a a' i : Nat} {C C2 H ns : List Value} {C' : List Value} {o : Int} {k : Nat} : LOkZ (lwV C' o k (p3L Try.prog (spP3 Try.prog n f m c d a a' i C C2 H ns))) Try.prog := L_okV rfl (mkL_ok (spP3_ok n f m c d a a' i C C2 H ns))
/-- What is told behind a note: more is left; nothing is left. -/
def TailM (P : Program) (n f : Int) (m c d a i a' : Nat) (C C2 H ns : List Value) : Prop :=
  (Fl C ∧ Fl H ∧ Fl ns ∧ m ≤ 16 ∧ d ≤ 9223372036854775807 ∧ Lp3 P n f m c d a a' i C C2 H ns) ∧ PoQ C2 ∧ decide ((a' : Int) < (m : Int)) = true ∧ ((a' : Int) == (m : Int)) = false ∧ HdY C2 (m - a') ∧ rg .i64 ((m : Int) - (a' : Int)) ∧ (((m - a' : Nat) : Int) != (m : Int) - (a' : Int)) = false ∧ rg .i64 ((i + 1 : Nat) : Int)
def TailE (P : Program) (n f : Int) (m c d a i a' : Nat) (C C2 H ns : List Value) : Prop :=
  (Fl C ∧ Fl H ∧ Fl ns ∧ m ≤ 16 ∧ d ≤ 9223372036854775807 ∧ Lp3 P n f m c d a a' i C C2 H ns) ∧ PoE C2 ∧ decide ((a' : Int) < (m : Int)) = false ∧ ((a' : Int) == (m : Int)) = true ∧ HdN C2 ∧ rg .i64 ((m : Int) - (a' : Int)) ∧ (0 != (m : Int) - (a' : Int)) = false ∧ rg .i64 ((i + 1 : Nat) : Int)
theorem tail_of (hm : m ≤ 16) (hd : d ≤ 9223372036854775807) (hns : Fl ns) {i a : Nat} (hi : i ≤ 100) (ham : a ≤ m) {C : List Value} {S : Nat → Nat} (hI : PlI C a (m - a) F S N me) :
    ∃ C2 a', a' ≤ m ∧ PlI C2 a' (m - a') F S N me ∧ (TailM Try.prog (N : Int) F m c d a i a' C C2 (hsL S m) ns ∨ TailE Try.prog (N : Int) F m c d a i a' C C2 (hsL S m) ns) := by
  obtain ⟨C2, a', g0, g1, g2, g3⟩ := p3_all (c := c) hm hd hns (i := i) (m - a) a C S (by omega) hI
  refine ⟨C2, a', g0, g1, ?_⟩
  have r1 : rg .i64 ((m : Int) - (a' : Int)) := by simp only [rg]; omega
  by_cases h : a' < m
  · refine .inl ⟨⟨hI.fl, hs_fl _ _, hns, hm, hd, fun inr h0 => g3 inr h0⟩, ⟨a', m - a' - 1, F, S, N, me, by rw [show m - a' - 1 + 1 = m - a' by omega]; exact g1, g2 h⟩, decide_eq_true (by omega), beq_eq_false_iff_ne.2 (by omega), ⟨by omega, a', F, S, N, me, g1⟩, r1, ?_, rgn (by omega)⟩
    have : ((m - a' : Nat) : Int) = (m : Int) - (a' : Int) := by omega
    rw [this]
    simp only [bne_self_eq_false]
  · obtain rfl : a' = m := by omega
    rw [Nat.sub_self] at g1
    refine .inr ⟨⟨hI.fl, hs_fl _ _, hns, hm, hd, fun inr h0 => g3 inr h0⟩, ⟨a', F, S, N, me, g1⟩, decide_eq_false (by omega), beq_iff_eq.2 rfl, ⟨a', F, S, N, me, g1⟩, r1, ?_, rgn (by omega)⟩
    rw [Int.sub_self]
    rfl
theorem okN_view {C : List Value} {a k : Nat} {S : Nat → Nat} (hI : PlI C a k F S N me) (r op : Int) : OkN C r op 1 :=
  ⟨a, k, F, S, N, me, hI, fun _ _ j _ _ hM => by have := hM.2.1; cases this⟩
theorem p2_all (hm : m ≤ 16) (hc : c ≤ 60) (hcd : c ≤ d ∧ d ≤ 9223372036854775807) (hns : NsOk ns c) (h0 : Hp) : ∀ (rem i a : Nat) (C : List Value) (S : Nat → Nat), i + rem = c → a ≤ m → PlI C a (m - a) F S N me → (∀ j, j < m → S j < 128) →
    LRuns inr Try.prog (pB2 Try.prog) 40 200 h0 213 (p2S (N : Int) F m c d a i) (pH C (hsL S m) ns) 40 (.exit 2, [(11, .bool true)], [])
  | 0, i, a, C, S, hr, ham, hI, hS => by
      obtain rfl : i = c := by omega
      exact LRuns.exit (code_runs (lwV_X _ _ _ _) (lwV_L _ _ _) (runZ_ok (lwV_X _ _ _ _) (lwV_T _ _ _ _) (lwV_L _ _ _) mixed 9) mixed ((nt_z inr (N : Int) F m i d a i C (hsL S m) ns)) ⟨decide_eq_false (by omega), trivial⟩) (by intro e; cases e) rfl (by omega) (by omega) (fun n => n) (l2 := [(11, .bool true)]) (h2 := []) ⟨rfl, rfl, trivial⟩ trivial rfl
  | rem + 1, i, a, C, S, hr, ham, hI, hS => by
      have hfr := hI.fr
      have hnn := hI.nn
      have x1 := hns.at (j := i * 2 + 1) (by omega)
      have x0 := hns.at (j := i * 2 + 0) (by omega)
      have y1 := hns.rng (i * 2 + 1) (by omega)
      have y0 := hns.rng (i * 2 + 0) (by omega)
      have flh : ∀ S, Fl (hsL S m) := fun S => hs_fl S m
      obtain ⟨b, hb⟩ : ∃ b, b = intAt ns (i * 2 + 1) := ⟨_, rfl⟩
      obtain ⟨r, hr0⟩ : ∃ r, r = intAt ns (i * 2 + 0) := ⟨_, rfl⟩
      have ne : (b < (a : Int) ∨ (m : Int) ≤ b ∨ r < 0 ∨ (N : Int) ≤ r) → OkN C r (IntKind.wrap .i64 (F + b)) 2 := fun hh => ⟨a, m - a, F, S, N, me, hI, fun r0 r1 j j0 j1 hM => by
        have := wr_eq hfr (by rw [hb]; exact y1) hM.1
        omega⟩
      have vw := okN_view (F := F) (N := N) (me := me) hI r (IntKind.wrap .i64 (F + b))
      rw [hb, hr0] at ne vw
      have ic : (i : Int) < (c : Int) := by omega
      have ib : 0 ≤ (i : Int) ∧ (i : Int) < (c : Int) := by omega
      by_cases c1 : intAt ns (i * 2 + 1) < (a : Int)
      · obtain ⟨C2, a', g0, g1, g2⟩ := tail_of (c := c) hm hcd.2 hns.ints.fl (i := i) (by omega) ham hI
        have nx := p2_all hm hc hcd hns h0 rem (i + 1) a' C2 S (by omega) g0 g1 hS
        rcases g2 with ⟨t1, t2, t3, t4, t5, t6, t7, t8⟩ | ⟨t1, t2, t3, t4, t5, t6, t7, t8⟩
        · refine LRuns.step (code_runs (lwV_X _ _ _ _) p3L_ok (runZ_ok (lwV_X _ _ _ _) (lwV_T _ _ _ _) p3L_ok mixed 9) mixed (nt_Am inr (N : Int) F m c d a i a' C (hsL S m) ns [] C2 [] (m - a')) ⟨decide_eq_true ic, ib, x1, ib, x0, decide_eq_false (by omega), ne (.inl c1), vw, rfl, rfl, rfl, rfl, t1, t2, t3, t4, t5, t6, t7, t8, trivial⟩) rfl (by omega) (by omega) (fun n => n) ?_ ?_ rfl nx
          · exact ⟨rfl, rfl, rfl, rfl, rfl, rfl, rfl, rb_slc rfl (by unfold capBig; omega), rfl, rfl, rfl, rb_ptr rfl, rfl, rb_slc rfl (by unfold capBig; omega), rfl, rfl, rfl, rfl, trivial⟩
          · exact ⟨rb_row rfl rfl rfl rfl g1.fl, rb_row rfl rfl rfl rfl (flh _), rb_old (by omega) rfl hns.ints.fl, trivial⟩
        · refine LRuns.step (code_runs (lwV_X _ _ _ _) p3L_ok (runZ_ok (lwV_X _ _ _ _) (lwV_T _ _ _ _) p3L_ok mixed 9) mixed (nt_Ae inr (N : Int) F m c d a i a' C (hsL S m) ns [] C2 [] 0) ⟨decide_eq_true ic, ib, x1, ib, x0, decide_eq_false (by omega), ne (.inl c1), vw, rfl, rfl, rfl, rfl, t1, t2, t3, t4, t5, t6, t7, t8, trivial⟩) rfl (by omega) (by omega) (fun n => n) ?_ ?_ rfl nx
          · exact ⟨rfl, rfl, rfl, rfl, rfl, rfl, rfl, rb_slc rfl (by unfold capBig; omega), rfl, rfl, rfl, rb_ptr rfl, rfl, rb_slc rfl (by unfold capBig; omega), rfl, rfl, rfl, rfl, trivial⟩
          · exact ⟨rb_row rfl rfl rfl rfl g1.fl, rb_row rfl rfl rfl rfl (flh _), rb_old (by omega) rfl hns.ints.fl, trivial⟩
      by_cases c2 : (m : Int) ≤ intAt ns (i * 2 + 1)
      · obtain ⟨C2, a', g0, g1, g2⟩ := tail_of (c := c) hm hcd.2 hns.ints.fl (i := i) (by omega) ham hI
        have nx := p2_all hm hc hcd hns h0 rem (i + 1) a' C2 S (by omega) g0 g1 hS
        rcases g2 with ⟨t1, t2, t3, t4, t5, t6, t7, t8⟩ | ⟨t1, t2, t3, t4, t5, t6, t7, t8⟩
        · refine LRuns.step (code_runs (lwV_X _ _ _ _) p3L_ok (runZ_ok (lwV_X _ _ _ _) (lwV_T _ _ _ _) p3L_ok mixed 9) mixed (nt_Bm inr (N : Int) F m c d a i a' C (hsL S m) ns [] C2 [] (m - a')) ⟨decide_eq_true ic, ib, x1, ib, x0, decide_eq_true (by omega), decide_eq_false (by omega), ne (.inr (.inl c2)), vw, rfl, rfl, rfl, rfl, t1, t2, t3, t4, t5, t6, t7, t8, trivial⟩) rfl (by omega) (by omega) (fun n => n) ?_ ?_ rfl nx
          · exact ⟨rfl, rfl, rfl, rfl, rfl, rfl, rfl, rb_slc rfl (by unfold capBig; omega), rfl, rfl, rfl, rb_ptr rfl, rfl, rb_slc rfl (by unfold capBig; omega), rfl, rfl, rfl, rfl, trivial⟩
          · exact ⟨rb_row rfl rfl rfl rfl g1.fl, rb_row rfl rfl rfl rfl (flh _), rb_old (by omega) rfl hns.ints.fl, trivial⟩
        · refine LRuns.step (code_runs (lwV_X _ _ _ _) p3L_ok (runZ_ok (lwV_X _ _ _ _) (lwV_T _ _ _ _) p3L_ok mixed 9) mixed (nt_Be inr (N : Int) F m c d a i a' C (hsL S m) ns [] C2 [] 0) ⟨decide_eq_true ic, ib, x1, ib, x0, decide_eq_true (by omega), decide_eq_false (by omega), ne (.inr (.inl c2)), vw, rfl, rfl, rfl, rfl, t1, t2, t3, t4, t5, t6, t7, t8, trivial⟩) rfl (by omega) (by omega) (fun n => n) ?_ ?_ rfl nx
          · exact ⟨rfl, rfl, rfl, rfl, rfl, rfl, rfl, rb_slc rfl (by unfold capBig; omega), rfl, rfl, rfl, rb_ptr rfl, rfl, rb_slc rfl (by unfold capBig; omega), rfl, rfl, rfl, rfl, trivial⟩
          · exact ⟨rb_row rfl rfl rfl rfl g1.fl, rb_row rfl rfl rfl rfl (flh _), rb_old (by omega) rfl hns.ints.fl, trivial⟩
      by_cases c3 : intAt ns (i * 2 + 0) < 0
      · obtain ⟨C2, a', g0, g1, g2⟩ := tail_of (c := c) hm hcd.2 hns.ints.fl (i := i) (by omega) ham hI
        have nx := p2_all hm hc hcd hns h0 rem (i + 1) a' C2 S (by omega) g0 g1 hS
        rcases g2 with ⟨t1, t2, t3, t4, t5, t6, t7, t8⟩ | ⟨t1, t2, t3, t4, t5, t6, t7, t8⟩
        · refine LRuns.step (code_runs (lwV_X _ _ _ _) p3L_ok (runZ_ok (lwV_X _ _ _ _) (lwV_T _ _ _ _) p3L_ok mixed 9) mixed (nt_Dm inr (N : Int) F m c d a i a' C (hsL S m) ns [] C2 [] (m - a')) ⟨decide_eq_true ic, ib, x1, ib, x0, decide_eq_true (by omega), decide_eq_true (by omega), decide_eq_false (by omega), ne (.inr (.inr (.inl c3))), vw, rfl, rfl, rfl, rfl, t1, t2, t3, t4, t5, t6, t7, t8, trivial⟩) rfl (by omega) (by omega) (fun n => n) ?_ ?_ rfl nx
          · exact ⟨rfl, rfl, rfl, rfl, rfl, rfl, rfl, rb_slc rfl (by unfold capBig; omega), rfl, rfl, rfl, rb_ptr rfl, rfl, rb_slc rfl (by unfold capBig; omega), rfl, rfl, rfl, rfl, trivial⟩
          · exact ⟨rb_row rfl rfl rfl rfl g1.fl, rb_row rfl rfl rfl rfl (flh _), rb_old (by omega) rfl hns.ints.fl, trivial⟩
        · refine LRuns.step (code_runs (lwV_X _ _ _ _) p3L_ok (runZ_ok (lwV_X _ _ _ _) (lwV_T _ _ _ _) p3L_ok mixed 9) mixed (nt_De inr (N : Int) F m c d a i a' C (hsL S m) ns [] C2 [] 0) ⟨decide_eq_true ic, ib, x1, ib, x0, decide_eq_true (by omega), decide_eq_true (by omega), decide_eq_false (by omega), ne (.inr (.inr (.inl c3))), vw, rfl, rfl, rfl, rfl, t1, t2, t3, t4, t5, t6, t7, t8, trivial⟩) rfl (by omega) (by omega) (fun n => n) ?_ ?_ rfl nx
          · exact ⟨rfl, rfl, rfl, rfl, rfl, rfl, rfl, rb_slc rfl (by unfold capBig; omega), rfl, rfl, rfl, rb_ptr rfl, rfl, rb_slc rfl (by unfold capBig; omega), rfl, rfl, rfl, rfl, trivial⟩
          · exact ⟨rb_row rfl rfl rfl rfl g1.fl, rb_row rfl rfl rfl rfl (flh _), rb_old (by omega) rfl hns.ints.fl, trivial⟩
      by_cases c4 : (N : Int) ≤ intAt ns (i * 2 + 0)
      · obtain ⟨C2, a', g0, g1, g2⟩ := tail_of (c := c) hm hcd.2 hns.ints.fl (i := i) (by omega) ham hI
        have nx := p2_all hm hc hcd hns h0 rem (i + 1) a' C2 S (by omega) g0 g1 hS
        rcases g2 with ⟨t1, t2, t3, t4, t5, t6, t7, t8⟩ | ⟨t1, t2, t3, t4, t5, t6, t7, t8⟩
        · refine LRuns.step (code_runs (lwV_X _ _ _ _) p3L_ok (runZ_ok (lwV_X _ _ _ _) (lwV_T _ _ _ _) p3L_ok mixed 9) mixed (nt_Em inr (N : Int) F m c d a i a' C (hsL S m) ns [] C2 [] (m - a')) ⟨decide_eq_true ic, ib, x1, ib, x0, decide_eq_true (by omega), decide_eq_true (by omega), decide_eq_true (by omega), decide_eq_false (by omega), ne (.inr (.inr (.inr c4))), vw, rfl, rfl, rfl, rfl, t1, t2, t3, t4, t5, t6, t7, t8, trivial⟩) rfl (by omega) (by omega) (fun n => n) ?_ ?_ rfl nx
          · exact ⟨rfl, rfl, rfl, rfl, rfl, rfl, rfl, rb_slc rfl (by unfold capBig; omega), rfl, rfl, rfl, rb_ptr rfl, rfl, rb_slc rfl (by unfold capBig; omega), rfl, rfl, rfl, rfl, trivial⟩
          · exact ⟨rb_row rfl rfl rfl rfl g1.fl, rb_row rfl rfl rfl rfl (flh _), rb_old (by omega) rfl hns.ints.fl, trivial⟩
        · refine LRuns.step (code_runs (lwV_X _ _ _ _) p3L_ok (runZ_ok (lwV_X _ _ _ _) (lwV_T _ _ _ _) p3L_ok mixed 9) mixed (nt_Ee inr (N : Int) F m c d a i a' C (hsL S m) ns [] C2 [] 0) ⟨decide_eq_true ic, ib, x1, ib, x0, decide_eq_true (by omega), decide_eq_true (by omega), decide_eq_true (by omega), decide_eq_false (by omega), ne (.inr (.inr (.inr c4))), vw, rfl, rfl, rfl, rfl, t1, t2, t3, t4, t5, t6, t7, t8, trivial⟩) rfl (by omega) (by omega) (fun n => n) ?_ ?_ rfl nx
          · exact ⟨rfl, rfl, rfl, rfl, rfl, rfl, rfl, rb_slc rfl (by unfold capBig; omega), rfl, rfl, rfl, rb_ptr rfl, rfl, rb_slc rfl (by unfold capBig; omega), rfl, rfl, rfl, rfl, trivial⟩
          · exact ⟨rb_row rfl rfl rfl rfl g1.fl, rb_row rfl rfl rfl rfl (flh _), rb_old (by omega) rfl hns.ints.fl, trivial⟩
      clear ne
      obtain ⟨j, hj⟩ : ∃ j : Nat, intAt ns (i * 2 + 1) = (j : Int) := ⟨(intAt ns (i * 2 + 1)).toNat, by omega⟩
      obtain ⟨q, hq⟩ : ∃ q : Nat, intAt ns (i * 2 + 0) = (q : Int) := ⟨(intAt ns (i * 2 + 0)).toNat, by omega⟩
      have j0 : a ≤ j := by omega
      have j1 : j < m := by omega
      have q7 : q < 7 := by omega
      have s7 := hS j j1
      have jn : Int.toNat (intAt ns (i * 2 + 1)) = j := by rw [hj]; rfl
      have qn : Int.toNat (intAt ns (i * 2 + 0)) = q := by rw [hq]; rfl
      have hg := hs_get S (m := m) (j := j) j1
      have hv : intAt (hsL S m) (Int.toNat (intAt ns (i * 2 + 1))) = ((S j : Nat) : Int) := by rw [jn]; exact int_at hg
      have w1 : IntKind.wrap .i64 (F + intAt ns (i * 2 + 1)) = F + (j : Int) := by rw [hj]; exact wr_in hfr (by omega)
      have sq : S j / 2 ^ q < 128 := Nat.lt_of_le_of_lt (Nat.div_le_self _ _) s7
      have o1 : 0 ≤ intAt ns (i * 2 + 1) ∧ intAt ns (i * 2 + 1) < (m : Int) := by omega
      have o2 : (hsL S m)[Int.toNat (intAt ns (i * 2 + 1))]? = some (.int .i64 (intAt (hsL S m) (Int.toNat (intAt ns (i * 2 + 1))))) := by rw [hv, jn]; exact hg
      have o3 : 0 ≤ intAt ns (i * 2 + 0) ∧ intAt ns (i * 2 + 0) ≤ 64 := by omega
      have o4 : IntKind.wrap .i64 ((BitVec.toNat (BitVec.ofInt 64 (srI (intAt (hsL S m) (Int.toNat (intAt ns (i * 2 + 1)))) (intAt ns (i * 2 + 0))) &&& BitVec.ofInt 64 1) : Nat) : Int) = mdI (srI (intAt (hsL S m) (Int.toNat (intAt ns (i * 2 + 1)))) (intAt ns (i * 2 + 0))) 2 := by
        rw [hv, hq, sr_nat]
        exact and1 _ sq
      have o5 : (mdI (srI (intAt (hsL S m) (Int.toNat (intAt ns (i * 2 + 1)))) (intAt ns (i * 2 + 0))) 2 == 0) = !(hasN (S j) q) := by rw [hv, hq]; exact has_bit _ _
      cases hh : hasN (S j) q with
      | true =>
        rw [hh] at o5
        have ne : OkN C (intAt ns (i * 2 + 0)) (IntKind.wrap .i64 (F + intAt ns (i * 2 + 1))) 2 := ⟨a, m - a, F, S, N, me, hI, fun r0 r1 j' _ _ hM => by
          have e := hM.1
          rw [w1] at e
          obtain rfl : j = j' := by omega
          have := hM.2.2
          rw [qn, hh] at this
          cases this⟩
        obtain ⟨C2, a', g0, g1, g2⟩ := tail_of (c := c) hm hcd.2 hns.ints.fl (i := i) (by omega) ham hI
        have nx := p2_all hm hc hcd hns h0 rem (i + 1) a' C2 S (by omega) g0 g1 hS
        rcases g2 with ⟨t1, t2, t3, t4, t5, t6, t7, t8⟩ | ⟨t1, t2, t3, t4, t5, t6, t7, t8⟩
        · refine LRuns.step (code_runs (lwV_X _ _ _ _) p3L_ok (runZ_ok (lwV_X _ _ _ _) (lwV_T _ _ _ _) p3L_ok mixed 9) mixed (nt_Gm inr (N : Int) F m c d a i a' C (hsL S m) ns [] C2 [] (m - a')) ⟨decide_eq_true ic, ib, x1, ib, x0, decide_eq_true (by omega), decide_eq_true (by omega), decide_eq_true (by omega), decide_eq_true (by omega), o1, o2, o3, o4, o5, ne, vw, rfl, rfl, rfl, rfl, t1, t2, t3, t4, t5, t6, t7, t8, trivial⟩) rfl (by omega) (by omega) (fun n => n) ?_ ?_ rfl nx
          · exact ⟨rfl, rfl, rfl, rfl, rfl, rfl, rfl, rb_slc rfl (by unfold capBig; omega), rfl, rfl, rfl, rb_ptr rfl, rfl, rb_slc rfl (by unfold capBig; omega), rfl, rfl, rfl, rfl, trivial⟩
          · exact ⟨rb_row rfl rfl rfl rfl g1.fl, rb_row rfl rfl rfl rfl (flh _), rb_old (by omega) rfl hns.ints.fl, trivial⟩
        · refine LRuns.step (code_runs (lwV_X _ _ _ _) p3L_ok (runZ_ok (lwV_X _ _ _ _) (lwV_T _ _ _ _) p3L_ok mixed 9) mixed (nt_Ge inr (N : Int) F m c d a i a' C (hsL S m) ns [] C2 [] 0) ⟨decide_eq_true ic, ib, x1, ib, x0, decide_eq_true (by omega), decide_eq_true (by omega), decide_eq_true (by omega), decide_eq_true (by omega), o1, o2, o3, o4, o5, ne, vw, rfl, rfl, rfl, rfl, t1, t2, t3, t4, t5, t6, t7, t8, trivial⟩) rfl (by omega) (by omega) (fun n => n) ?_ ?_ rfl nx
          · exact ⟨rfl, rfl, rfl, rfl, rfl, rfl, rfl, rb_slc rfl (by unfold capBig; omega), rfl, rfl, rfl, rb_ptr rfl, rfl, rb_slc rfl (by unfold capBig; omega), rfl, rfl, rfl, rfl, trivial⟩
          · exact ⟨rb_row rfl rfl rfl rfl g1.fl, rb_row rfl rfl rfl rfl (flh _), rb_old (by omega) rfl hns.ints.fl, trivial⟩
      | false =>
        rw [hh] at o5
        have lw : withN (S j) q < 128 := wi_lt s7 q7
        obtain ⟨p1, p2⟩ := pow7 q7
        have sl : slI 1 (intAt ns (i * 2 + 0)) = ((2 ^ q : Nat) : Int) := by rw [hq]; exact sl_nat q
        have ad : adI (intAt (hsL S m) (Int.toNat (intAt ns (i * 2 + 1)))) (slI 1 (intAt ns (i * 2 + 0))) = ((withN (S j) q : Nat) : Int) := by
          rw [hv, sl, adI_eq, with_new hh]
          omega
        have hok := hI.ok (i := j - a) (s := withN (S j) q) (by omega) lw
        rw [show a + (j - a) = j by omega] at hok
        have hS' : ∀ j', j' < m → upN S j (withN (S j) q) j' < 128 := fun j' h' => by unfold upN; split; exact lw; exact hS j' h'
        obtain ⟨C', hC'⟩ : ∃ C', C' = splice C (j * 18 + 17) [.int .u8 ((withN (S j) q : Nat) : Int)] := ⟨_, rfl⟩
        rw [← hC'] at hok
        have ye : OkY C (intAt ns (i * 2 + 0)) (IntKind.wrap .i64 (F + intAt ns (i * 2 + 1))) 2 C' := ⟨a, m - a, F, S, N, me, j, hI, by omega, by omega, j0, by omega, ⟨w1, rfl, by rw [qn]; exact hh⟩, by rw [qn]; exact hC'⟩
        have vw2 := okN_view (F := F) (N := N) (me := me) hok (intAt ns (i * 2 + 0)) (IntKind.wrap .i64 (F + intAt ns (i * 2 + 1)))
        have hp : [(5, (⟨.shut, C'⟩ : Rw)), (6, ⟨.shut, splice (hsL S m) (Int.toNat (intAt ns (i * 2 + 1))) [.int .i64 (adI (intAt (hsL S m) (Int.toNat (intAt ns (i * 2 + 1)))) (slI 1 (intAt ns (i * 2 + 0))))]⟩), (4, ⟨.old, ns⟩)] = pH C' (hsL (upN S j (withN (S j) q)) m) ns := by
          rw [ad, jn, hs_upd S j1]
          rfl
        have ln : Int.toNat (intAt ns (i * 2 + 1)) + 1 ≤ List.length (hsL S m) := by rw [jn, hs_len]; omega
        have r2 : rg .i64 (slI 1 (intAt ns (i * 2 + 0))) := by rw [sl]; exact rgn (by omega)
        have r3 : rg .i64 (adI (intAt (hsL S m) (Int.toNat (intAt ns (i * 2 + 1)))) (slI 1 (intAt ns (i * 2 + 0)))) := by rw [ad]; exact rgn (by omega)
        obtain ⟨C2, a', g0, g1, g2⟩ := tail_of (c := c) hm hcd.2 hns.ints.fl (i := i) (by omega) ham hok
        have nx := p2_all hm hc hcd hns h0 rem (i + 1) a' C2 (upN S j (withN (S j) q)) (by omega) g0 g1 hS'
        rcases g2 with ⟨t1, t2, t3, t4, t5, t6, t7, t8⟩ | ⟨t1, t2, t3, t4, t5, t6, t7, t8⟩
        · refine LRuns.step (code_runs (lwV_X _ _ _ _) p3L_ok (runZ_ok (lwV_X _ _ _ _) (lwV_T _ _ _ _) p3L_ok mixed 9) mixed (nt_Fm inr (N : Int) F m c d a i a' C (hsL S m) ns C' C2 (hsL (upN S j (withN (S j) q)) m) (m - a')) ⟨decide_eq_true ic, ib, x1, ib, x0, decide_eq_true (by omega), decide_eq_true (by omega), decide_eq_true (by omega), decide_eq_true (by omega), o1, o2, o3, o4, o5, ye, vw2, o1, o2, ⟨o3.1, o3.2, r2⟩, r3, o1, ln, rfl, rfl, hp, rfl, t1, t2, t3, t4, t5, t6, t7, t8, trivial⟩) rfl (by omega) (by omega) (fun n => n) ?_ ?_ rfl nx
          · exact ⟨rfl, rfl, rfl, rfl, rfl, rfl, rfl, rb_slc rfl (by unfold capBig; omega), rfl, rfl, rfl, rb_ptr rfl, rfl, rb_slc rfl (by unfold capBig; omega), rfl, rfl, rfl, rfl, trivial⟩
          · exact ⟨rb_row rfl rfl rfl rfl g1.fl, rb_row rfl rfl rfl rfl (flh _), rb_old (by omega) rfl hns.ints.fl, trivial⟩
        · refine LRuns.step (code_runs (lwV_X _ _ _ _) p3L_ok (runZ_ok (lwV_X _ _ _ _) (lwV_T _ _ _ _) p3L_ok mixed 9) mixed (nt_Fe inr (N : Int) F m c d a i a' C (hsL S m) ns C' C2 (hsL (upN S j (withN (S j) q)) m) 0) ⟨decide_eq_true ic, ib, x1, ib, x0, decide_eq_true (by omega), decide_eq_true (by omega), decide_eq_true (by omega), decide_eq_true (by omega), o1, o2, o3, o4, o5, ye, vw2, o1, o2, ⟨o3.1, o3.2, r2⟩, r3, o1, ln, rfl, rfl, hp, rfl, t1, t2, t3, t4, t5, t6, t7, t8, trivial⟩) rfl (by omega) (by omega) (fun n => n) ?_ ?_ rfl nx
          · exact ⟨rfl, rfl, rfl, rfl, rfl, rfl, rfl, rb_slc rfl (by unfold capBig; omega), rfl, rfl, rfl, rb_ptr rfl, rfl, rb_slc rfl (by unfold capBig; omega), rfl, rfl, rfl, rfl, trivial⟩
          · exact ⟨rb_row rfl rfl rfl rfl g1.fl, rb_row rfl rfl rfl rfl (flh _), rb_old (by omega) rfl hns.ints.fl, trivial⟩
end
end Go.Proofs.Ythbcemcgbgoplaa
