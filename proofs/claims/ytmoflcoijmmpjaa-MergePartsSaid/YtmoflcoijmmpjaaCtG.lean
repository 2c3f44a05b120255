/-
  Chapter 14: the statement MergeParts: its loop.
-/
import Derived.Test.YtmoflcoijmmpjaaCtF
namespace Go.Proofs.Ytmoflcoijmmpjaa
set_option linter.unusedSimpArgs false
set_option linter.unusedVariables false
set_option linter.unusedSectionVars false
open Go Go.RowKit
theorem mvX {L : LFun} {T : TFun} : XOkZ (mvV L T) Try.prog := XOneZ.ok cmpY_ok rfl
theorem mvT {L : LFun} : TOkZ (mvV L noTz) Try.prog := noTz_okV rfl
theorem mvL0 {T : TFun} : LOkZ (mvV noL T) Try.prog := noL_okV rfl
theorem ob22 (ds : List DV) (o nx : Nat) : ShOb Try.prog 27 true true ds o nx = Alls [DSl ds (o + 0) (dLen ds (o + 0)) none (dSub ds (o + 0))] := by kernel_rfl
structure OsAt (os : List DV) (i : Nat) (l : List Pr) : Prop where
  n : dLen os i = l.length
  s : dSub os i = cpD l
  o : ∀ nx, ShOb Try.prog 27 true true os i nx
theorem os_at {os : List DV} {i : Nat} {l : List Pr} (h : os[i]? = some (ptD l)) : OsAt os i l := by
  have h1 : dLen os i = l.length := by unfold dLen; rw [h]; rfl
  have h2 : dSub os i = cpD l := by unfold dSub; rw [h]; rfl
  refine ⟨h1, h2, fun nx => ?_⟩
  rw [ob22]
  simp only [Nat.add_zero]
  rw [h1, h2]
  exact ⟨⟨none, h, .inl rfl⟩, trivial⟩
structure MvOk (ds : List DV) (ps : List Pr) (n c M J : Nat) : Prop where
  C : CtOk ds ps n c M
  lt : ∀ t, t < J → t * M < n
  ge : n ≤ J * M
def mvHp (n c J : Nat) (ps : List Pr) (M : Nat) (os ds : List DV) : Nat → Hp
  | 0 => mvH n c M J os ds
  | i + 1 => (420, ⟨.dp 3 zPr (cpD (ps.take ((i + 1) * M))), []⟩) :: mvH n c M J os ds
def mvAl (ps : List Pr) (M : Nat) : Nat → Value
  | 0 => nlV
  | i + 1 => alV (ps.take ((i + 1) * M)).length
theorem mv_loop {inr : Bool} {h0 : Hp} {ds : List DV} {ps : List Pr} {n c M J : Nat} (hB : MvOk ds ps n c M J) : ∀ (r i : Nat), i + r = J → 0 < J →
    LRuns inr Try.prog (bodyIn Try.prog 8 9) 400 500 h0 74 (mvS n c M J i (mvAl ps M i)) (mvHp n c J ps M (osD ps M J) ds i) 421
      (.exit 0, [(0, .slice (some ⟨0, 0, none⟩) n c), (5, .bool true), (8, alV n)], (420, ⟨.dp 3 zPr (cpD ps), []⟩) :: mvH n c M J (osD ps M J) ds)
  | 0, i, hr, hJ => by
      have hcc : c < capBig := by have := hB.C.hc; unfold capBig; omega
      obtain rfl : i = J := by omega
      obtain ⟨i, rfl⟩ : ∃ k, i = k + 1 := ⟨i - 1, by omega⟩
      have hl := hB.C.l
      have hA : ps.take ((i + 1) * M) = ps := parts_all (by rw [hl]; exact hB.ge)
      simp only [mvAl, mvHp, hA, hl]
      refine LRuns.exit (code_runsP mvX mvL0 (runZ_ok mvX mvT mvL0 mixed 12) mixed (mv_end inr n c M (i + 1) (i + 1) n (osD ps M (i + 1)) ds (cpD ps)) ?_) (by intro e; cases e) rfl (by omega) (by omega) (fun n => n) ?_ ?_ rfl
      · simp only [Alls, decide_eq_false_iff_not]
        exact ⟨by omega, trivial⟩
      · exact ⟨rfl, rb_slc rfl hcc, rfl, rfl, rfl, rb_slg rfl rfl, trivial⟩
      · exact ⟨dp_row (m := 420) rfl rfl, dp_row (m := 80) rfl rfl, sh1_row (m := 4) rfl rfl rfl, sh1_row (m := 3) rfl rfl (rb_slc rfl hcc), sh1_row (m := 2) rfl rfl (rb_slg rfl rfl), sd_row (m := 0) rfl rfl, trivial⟩
  | r + 1, i, hr, hJ => by
      have hcc : c < capBig := by have := hB.C.hc; unfold capBig; omega
      have hM1 := hB.C.M1
      have hM2 := hB.C.M2
      have hl := hB.C.l
      have hm := hB.C.m
      have nx := mv_loop (inr := inr) (h0 := h0) hB r (i + 1) (by omega) hJ
      have A := os_at (osD_at ps M J i (by omega))
      have A1 := A.n
      have A2 := A.s
      have o1 := A.o 421
      have o2 := A.o 422
      have hil := hB.lt i (by omega)
      obtain ⟨q1, q2, q3⟩ := part_len (ps := ps) (M := M) (t := i) (by rw [hl]; exact hil) hM1
      have cpx : cpD (ps.take (i * M)) ++ cpD (ptP ps M i) = cpD (ps.take ((i + 1) * M)) := by rw [← parts_take, cpD_app]
      have lnx : (ps.take (i * M)).length + (ptP ps M i).length = (ps.take ((i + 1) * M)).length := by rw [← parts_take, List.length_append]
      have cl := cpD_len (ptP ps M i)
      have cl2 := cpD_len (ps.take (i * M))
      have tkp : List.take ((ptP ps M i).length * 3) (cpD (ptP ps M i)) = cpD (ptP ps M i) := List.take_of_length_le (by omega)
      have dv : DVones (cpD (ptP ps M i)) := cpD_one _
      have hJ9 : J < 1000 := by
        have := hB.lt (J - 1) (by omega)
        rcases Nat.lt_or_ge J 1000 with h | h
        · exact h
        · have := Nat.mul_le_mul (show 999 ≤ J - 1 by omega) hM1
          omega
      have lt2 : (ps.take (i * M)).length ≤ 300 := by rw [List.length_take]; omega
      by_cases hla : i + 1 < J
      · have hil2 := hB.lt (i + 1) hla
        have q4 := q3 (by rw [hl]; omega)
        cases i with
        | zero =>
          have e0 : ps.take (0 * M) = [] := by simp
          rw [e0, List.length_nil, Nat.zero_add] at lnx
          rw [e0, show cpD [] = [] from rfl, List.nil_append] at cpx
          have tkc := tkp
          rw [cpx] at tkc
          refine LRuns.step (code_runsP mvX mvL0 (runZ_ok mvX mvT mvL0 mixed 12) mixed (mv_nf inr n c M J 0 (osD ps M J) ds []) ?_) rfl (by omega) (by omega) (fun _ => 424) ?_ ?_ rfl nx
          ·
            simp only [Alls, rg, decide_eq_true_eq, decide_eq_false_iff_not, Nat.add_zero, Nat.zero_add, A1, A2, List.drop_zero, tkp]
            repeat' (with_reducible apply And.intro)
            all_goals first | (with_reducible assumption) | omega | (with_reducible exact trivial) | (with_reducible rfl) | rfl | skip
          · refine ⟨rfl, rb_slc rfl hcc, rfl, rfl, rfl, rfl, rfl, rb_slg rfl rfl, rfl, ?_, rfl, rfl, trivial⟩
            simp only [Nat.add_zero, A1, lnx]
            exact rb_slg rfl rfl
          · refine ⟨dp_row (m := 424) rfl (row_eq ?_), dp_row (m := 80) rfl rfl, sh1_row (m := 4) rfl rfl rfl, sh1_row (m := 3) rfl rfl (rb_slc rfl hcc), sh1_row (m := 2) rfl rfl (rb_slg rfl rfl), sd_row (m := 0) rfl rfl, trivial⟩
            simp only [Nat.add_zero, A1, A2, List.drop_zero, tkp, cpx, tkc]
        | succ i =>
          have tkc := tkp
          refine LRuns.step (code_runsP mvX mvL0 (runZ_ok mvX mvT mvL0 mixed 12) mixed (mv_rf inr n c M J (i + 1) (ps.take ((i + 1) * M)).length (osD ps M J) ds (cpD (ps.take ((i + 1) * M)))) ?_) rfl (by omega) (by omega) (fun _ => 424) ?_ ?_ rfl nx
          ·
            simp only [Alls, rg, decide_eq_true_eq, decide_eq_false_iff_not, Nat.add_zero, Nat.zero_add, A1, A2, List.drop_zero, tkp]
            repeat' (with_reducible apply And.intro)
            all_goals first | (with_reducible assumption) | omega | (with_reducible exact trivial) | (with_reducible rfl) | rfl | skip
          · refine ⟨rfl, rb_slc rfl hcc, rfl, rfl, rfl, rfl, rfl, rb_slg rfl rfl, rfl, ?_, rfl, rfl, trivial⟩
            simp only [Nat.add_zero, A1, lnx]
            exact rb_slg rfl rfl
          · refine ⟨dp_row (m := 424) rfl (row_eq ?_), dp_row (m := 80) rfl rfl, sh1_row (m := 4) rfl rfl rfl, sh1_row (m := 3) rfl rfl (rb_slc rfl hcc), sh1_row (m := 2) rfl rfl (rb_slg rfl rfl), sd_row (m := 0) rfl rfl, trivial⟩
            simp only [Nat.add_zero, A1, A2, List.drop_zero, tkp, cpx, tkc]
      · cases i with
        | zero =>
          have e0 : ps.take (0 * M) = [] := by simp
          rw [e0, List.length_nil, Nat.zero_add] at lnx
          rw [e0, show cpD [] = [] from rfl, List.nil_append] at cpx
          have tkc := tkp
          rw [cpx] at tkc
          refine LRuns.step (code_runsP mvX mvL0 (runZ_ok mvX mvT mvL0 mixed 12) mixed (mv_nl inr n c M J 0 (osD ps M J) ds []) ?_) rfl (by omega) (by omega) (fun _ => 424) ?_ ?_ rfl nx
          ·
            simp only [Alls, rg, decide_eq_true_eq, decide_eq_false_iff_not, Nat.add_zero, Nat.zero_add, A1, A2, List.drop_zero, tkp]
            repeat' (with_reducible apply And.intro)
            all_goals first | (with_reducible assumption) | omega | (with_reducible exact trivial) | (with_reducible rfl) | rfl | skip
          · refine ⟨rfl, rb_slc rfl hcc, rfl, rfl, rfl, rfl, rfl, rb_slg rfl rfl, rfl, ?_, rfl, rfl, trivial⟩
            simp only [Nat.add_zero, A1, lnx]
            exact rb_slg rfl rfl
          · refine ⟨dp_row (m := 424) rfl (row_eq ?_), dp_row (m := 80) rfl rfl, sh1_row (m := 4) rfl rfl rfl, sh1_row (m := 3) rfl rfl (rb_slc rfl hcc), sh1_row (m := 2) rfl rfl (rb_slg rfl rfl), sd_row (m := 0) rfl rfl, trivial⟩
            simp only [Nat.add_zero, A1, A2, List.drop_zero, tkp, cpx, tkc]
        | succ i =>
          have tkc := tkp
          refine LRuns.step (code_runsP mvX mvL0 (runZ_ok mvX mvT mvL0 mixed 12) mixed (mv_rl inr n c M J (i + 1) (ps.take ((i + 1) * M)).length (osD ps M J) ds (cpD (ps.take ((i + 1) * M)))) ?_) rfl (by omega) (by omega) (fun _ => 424) ?_ ?_ rfl nx
          ·
            simp only [Alls, rg, decide_eq_true_eq, decide_eq_false_iff_not, Nat.add_zero, Nat.zero_add, A1, A2, List.drop_zero, tkp]
            repeat' (with_reducible apply And.intro)
            all_goals first | (with_reducible assumption) | omega | (with_reducible exact trivial) | (with_reducible rfl) | rfl | skip
          · refine ⟨rfl, rb_slc rfl hcc, rfl, rfl, rfl, rfl, rfl, rb_slg rfl rfl, rfl, ?_, rfl, rfl, trivial⟩
            simp only [Nat.add_zero, A1, lnx]
            exact rb_slg rfl rfl
          · refine ⟨dp_row (m := 424) rfl (row_eq ?_), dp_row (m := 80) rfl rfl, sh1_row (m := 4) rfl rfl rfl, sh1_row (m := 3) rfl rfl (rb_slc rfl hcc), sh1_row (m := 2) rfl rfl (rb_slg rfl rfl), sd_row (m := 0) rfl rfl, trivial⟩
            simp only [Nat.add_zero, A1, A2, List.drop_zero, tkp, cpx, tkc]
end Go.Proofs.Ytmoflcoijmmpjaa
