/-
  Chapter 14: Cut: the rounds of its iterator, as a law.
-/
import Derived.Test.YtmoflcoijmmpjaaCtC
namespace Go.Proofs.Ytmoflcoijmmpjaa
set_option linter.unusedSimpArgs false
set_option linter.unusedVariables false
set_option linter.unusedSectionVars false
open Go Go.RowKit
/-- A part of a list. -/
def ptP (ps : List Pr) (M j : Nat) : List Pr := (ps.drop (j * M)).take M
def ptD (l : List Pr) : DV := .sl l.length none (cpD l)
/-- The parts ahead of the j-th one. -/
def osD (ps : List Pr) (M : Nat) : Nat → List DV
  | 0 => []
  | j + 1 => osD ps M j ++ [ptD (ptP ps M j)]
theorem osD_len (ps : List Pr) (M : Nat) : ∀ j, (osD ps M j).length = j
  | 0 => rfl
  | j + 1 => by simp [osD, osD_len ps M j]
theorem ct_e {n i M : Nat} (hi : i < n) (hM : 0 < M) : ∃ e, 0 < e ∧ i + e ≤ n ∧ e ≤ M ∧ (e = M ∨ i + e = n) ∧ (if ((n - i : Nat) : Int) < (M : Int) then ((n - i : Nat) : Int) else (M : Int)) = (e : Int) := by
  by_cases h : ((n - i : Nat) : Int) < (M : Int)
  · exact ⟨n - i, by omega, by omega, by omega, .inr (by omega), by rw [if_pos h]⟩
  · exact ⟨M, hM, by omega, Nat.le_refl _, .inl rfl, by rw [if_neg h]⟩
theorem lo_e {i e : Nat} (he : 0 < e) : loO (some (.int .i64 (i : Int))) 0 i (i + e) 3 = i * 3 := by
  unfold loO slO
  simp only
  have : Nat.beq (i + e) i = false := nbeq_ne (by omega)
  have h2 : Nat.beq (i + e - i) 0 = false := nbeq_ne (by omega)
  first | (rw [this]; simp) | (rw [h2]; simp) | (simp; omega)
structure CtOk (ds : List DV) (ps : List Pr) (n c M : Nat) : Prop where
  P : Prs ds ps
  O : ∀ p ∈ ps, PrOk p
  l : ps.length = n
  m : n ≤ 300
  B : ∀ p ∈ ps, p.1.length ≤ 200 ∧ p.2.1.length ≤ 200
  hc : c ≤ 9223372036854775807
  nc : n ≤ c
  M1 : 0 < M
  M2 : M ≤ 64
/-- How many parts there are. -/
def finJ (n M : Nat) : Nat → Nat → Nat
  | 0, j => j
  | r + 1, j => bif decide (j * M < n) then finJ n M r (j + 1) else j
def ctH (P : Program) (ps : List Pr) (n c M : Nat) (ds : List DV) : Nat → Hp
  | 0 => ctG P n c M ds nlV
  | j + 1 => (80, ⟨.dp 1 zSl (osD ps M (j + 1)), []⟩) :: ctG P n c M ds (ouV (j + 1))
theorem ct_exit {inr : Bool} {h0 : Hp} {ds : List DV} {ps : List Pr} {n c M : Nat} (hB : CtOk ds ps n c M) (j : Nat) (hj : n ≤ j * M) :
    LRuns inr Try.prog (bodyIn Try.prog 44 1) 7 400 h0 31 (ctS (j * M)) (ctH Try.prog ps n c M ds j) 81 (.exit 0, [], ctH Try.prog ps n c M ds j) := by
  have hcc : c < capBig := by have := hB.hc; unfold capBig; omega
  cases j with
  | zero =>
    refine LRuns.exit (code_runsP ctX (L_okV rfl cdLo_one) (runZ_ok ctX ctT (L_okV rfl cdLo_one) mixed 12) mixed (ct_ne inr n c (0 * M) M ds []) ?_) (by intro e; cases e) rfl (by omega) (by omega) (fun n => n) ?_ ?_ rfl
    · simp only [Alls, decide_eq_false_iff_not]
      exact ⟨by omega, trivial⟩
    · trivial
    ·
      exact ⟨rb_rec (m := 6) rfl rfl (ctTm_ren (rb_slc rfl hcc) rfl rfl), rb_rec (m := 5) rfl rfl trivial, sh1_row (m := 4) rfl rfl rfl, sh1_row (m := 3) rfl rfl (rb_slc rfl hcc), sh1_row (m := 2) rfl rfl rfl, sd_row (m := 0) rfl rfl, trivial⟩
  | succ j =>
    refine LRuns.exit (code_runsP ctX (L_okV rfl cdLo_one) (runZ_ok ctX ctT (L_okV rfl cdLo_one) mixed 12) mixed (ct_nz inr n c ((j + 1) * M) (j + 1) M ds (osD ps M (j + 1))) ?_) (by intro e; cases e) rfl (by omega) (by omega) (fun n => n) ?_ ?_ rfl
    · simp only [Alls, decide_eq_false_iff_not]
      exact ⟨by omega, trivial⟩
    · trivial
    ·
      exact ⟨dp_row (m := 80) rfl rfl, rb_rec (m := 6) rfl rfl (ctTm_ren (rb_slc rfl hcc) rfl rfl), rb_rec (m := 5) rfl rfl trivial, sh1_row (m := 4) rfl rfl rfl, sh1_row (m := 3) rfl rfl (rb_slc rfl hcc), sh1_row (m := 2) rfl rfl (rb_slg rfl rfl), sd_row (m := 0) rfl rfl, trivial⟩
theorem row_e1 {Y X : List DV} (h : Y = X) : some (Rw.mk (.dp 1 zSl Y) []) = some (Rw.mk (.dp 1 zSl X) []) := by rw [h]
theorem ct_loop {inr : Bool} {h0 : Hp} {ds : List DV} {ps : List Pr} {n c M : Nat} (hB : CtOk ds ps n c M) : ∀ (r j : Nat), n ≤ j * M + r →
    LRuns inr Try.prog (bodyIn Try.prog 44 1) 7 400 h0 31 (ctS (j * M)) (ctH Try.prog ps n c M ds j) 81 (.exit 0, [], ctH Try.prog ps n c M ds (finJ n M r j))
  | 0, j, hr => ct_exit hB j (by omega)
  | r + 1, j, hr => by
      by_cases hlt : j * M < n
      · have hcc : c < capBig := by have := hB.hc; unfold capBig; omega
        have hM1 := hB.M1
        have hM2 := hB.M2
        have hm := hB.m
        have hc9 := hB.hc
        have hnc := hB.nc
        have sm : (j + 1) * M = j * M + M := Nat.succ_mul j M
        have eF : finJ n M (r + 1) j = finJ n M r (j + 1) := by rw [finJ, decide_eq_true hlt]; rfl
        rw [eF]
        have nx := ct_loop (inr := inr) (h0 := h0) hB r (j + 1) (by omega)
        obtain ⟨e, hp0, hp1, hp2, hp3, he⟩ := ct_e hlt hM1
        have hA : adI ((j * M : Nat) : Int) (e : Int) = ((j * M + e : Nat) : Int) := rfl
        have hA2 : adI ((j * M : Nat) : Int) (M : Int) = ((j * M + M : Nat) : Int) := rfl
        have hI : some (Value.int .i64 (((j + 1) * M : Nat) : Int)) = some (Value.int .i64 (adI ((j * M : Nat) : Int) (M : Int))) := by rw [sm]; rfl
        have hps := prsOf_of hB.P
        have d3 : j * M * 3 / 3 = j * M := by omega
        have hC : CdSt ds n c (j * M * 3) e := ⟨⟨by rw [hps]; exact hB.P, by rw [hps]; exact hB.O, by rw [hps]; exact hB.l, hm, by rw [hps]; exact hB.B, hc9, by rw [d3]; exact hp1⟩, by rw [d3], hp0⟩
        have hX : cdX ds (j * M * 3) e = cpD (ptP ps M j) := by
          unfold cdX ptP
          rw [hps, d3]
          congr 1
          rcases hp3 with rfl | h3
          · rfl
          · rw [List.take_of_length_le (by rw [List.length_drop, hB.l]; omega), List.take_of_length_le (by rw [List.length_drop, hB.l]; omega)]
        have hL : (ptP ps M j).length = e := by
          unfold ptP
          rw [List.length_take, List.length_drop, hB.l]
          omega
        have hj9 : j < 1000 := by
          rcases Nat.lt_or_ge j 1000 with h | h
          · exact h
          · have := Nat.mul_le_mul h hM1
            omega
        have hol := osD_len ps M j
        cases j with
        | zero =>
          refine LRuns.step (code_runsP ctX (L_okV rfl cdLo_one) (runZ_ok ctX ctT (L_okV rfl cdLo_one) mixed 12) mixed (ct_nf inr n c (0 * M) M ds []) ?_) rfl (by omega) (by omega) (fun _ => 203) ?_ ?_ rfl nx
          ·
            simp only [Alls, rg, decide_eq_true_eq, he, hA, hA2, Int.toNat_natCast, lo_e hp0, sbN_eq, Nat.add_sub_cancel_left]
            repeat' (with_reducible apply And.intro)
            all_goals first | (with_reducible assumption) | omega | (with_reducible exact trivial) | (with_reducible rfl) | rfl | (intro e; exfalso; omega) | skip
          · exact ⟨rfl, rfl, rfl, rb_ptr rfl, rfl, rb_ptr rfl, rfl, hI, trivial⟩
          · refine ⟨dp_row (m := 203) rfl (row_e1 ?_), rb_rec (m := 6) rfl rfl (ctTm_ren (rb_slc rfl hcc) rfl rfl), rb_rec (m := 5) rfl rfl trivial, sh1_row (m := 4) rfl rfl rfl, sh1_row (m := 3) rfl rfl (rb_slc rfl hcc), sh1_row (m := 2) rfl rfl (rb_slg rfl rfl), sd_row (m := 0) rfl rfl, trivial⟩
            simp only [he, hA, Int.toNat_natCast, lo_e hp0, sbN_eq, Nat.add_sub_cancel_left, hX, osD, ptD, hL, List.nil_append]
        | succ j =>
          refine LRuns.step (code_runsP ctX (L_okV rfl cdLo_one) (runZ_ok ctX ctT (L_okV rfl cdLo_one) mixed 12) mixed (ct_nm inr n c ((j + 1) * M) (j + 1) M ds (osD ps M (j + 1))) ?_) rfl (by omega) (by omega) (fun _ => 203) ?_ ?_ rfl nx
          ·
            simp only [Alls, rg, decide_eq_true_eq, he, hA, hA2, Int.toNat_natCast, lo_e hp0, sbN_eq, Nat.add_sub_cancel_left]
            repeat' (with_reducible apply And.intro)
            all_goals first | (with_reducible assumption) | omega | (with_reducible exact trivial) | (with_reducible rfl) | rfl | (intro e; exfalso; omega) | skip
          · exact ⟨rfl, rfl, rfl, rb_ptr rfl, rfl, rb_ptr rfl, rfl, hI, trivial⟩
          · refine ⟨dp_row (m := 203) rfl (row_e1 ?_), rb_rec (m := 6) rfl rfl (ctTm_ren (rb_slc rfl hcc) rfl rfl), rb_rec (m := 5) rfl rfl trivial, sh1_row (m := 4) rfl rfl rfl, sh1_row (m := 3) rfl rfl (rb_slc rfl hcc), sh1_row (m := 2) rfl rfl (rb_slg rfl rfl), sd_row (m := 0) rfl rfl, trivial⟩
            rw [show osD ps M (j + 1 + 1) = osD ps M (j + 1) ++ [ptD (ptP ps M (j + 1))] from rfl]
            simp only [he, hA, Int.toNat_natCast, lo_e hp0, sbN_eq, Nat.add_sub_cancel_left, hX, ptD, hL]
      · have eF : finJ n M (r + 1) j = j := by rw [finJ, decide_eq_false hlt]; rfl
        rw [eF]
        exact ct_exit hB j (by omega)
end Go.Proofs.Ytmoflcoijmmpjaa
