/-
  Chapter 12: the statement MemtableChecks: its loops.
-/
import Derived.Test.YtojakfnljopjbaaMdB
namespace Go.Proofs.Ytojakfnljopjbaa
set_option linter.unusedSimpArgs false
set_option linter.unusedVariables false
set_option linter.unusedSectionVars false
open Go Go.RowKit

theorem mdX : XOkZ (mdV noL noTz) Try.prog := XOneZ.ok cmpY_ok rfl
theorem mdT : TOkZ (mdV noL noTz) Try.prog := noTz_okV rfl
theorem mdL : LOkZ (mdV noL noTz) Try.prog := noL_okV rfl
theorem sd_row {lo N : Nat} {ρ : Nat → Nat} {h0 h1 : Hp} {n m : Nat} {ds : List DV} (hn : fnN lo N ρ n = some m) (hl : lk h1 m = some ⟨.sd ds, []⟩) : RbRow lo N ρ h0 h1 n ⟨.sd ds, []⟩ := rb_rec hn hl trivial
theorem dp_row {lo N : Nat} {ρ : Nat → Nat} {h0 h1 : Hp} {n m sz : Nat} {z : List Value} {ds : List DV} (hn : fnN lo N ρ n = some m) (hl : lk h1 m = some ⟨.dp sz z ds, []⟩) : RbRow lo N ρ h0 h1 n ⟨.dp sz z ds, []⟩ := rb_rec hn hl trivial
/-- A pair with more than is gone through. -/
def big (p : Pr) : Bool := decide (200 < p.1.length) || decide (200 < p.2.1.length)
theorem lp_loop {inr : Bool} {h0 : Hp} {ds : List DV} {ps : List Pr} {n c : Nat} (hP : Prs ds ps) (hn : ps.length = n) (hn9 : n ≤ 100) (hc : c ≤ 9223372036854775807) : ∀ (r i : Nat), i + r = n →
    LRuns inr Try.prog (bodyIn Try.prog 9 4) 1 20 h0 32 [(0, sdV n c), (5, iV i)] [(0, ⟨.sd ds, []⟩)] 2
      (bif (ps.drop i).any big then (.ret, [(4, .bool true)], [(0, ⟨.sd ds, []⟩)]) else (.exit 0, [], [(0, ⟨.sd ds, []⟩)]))
  | 0, i, hr => by
      rw [List.drop_of_length_le (by omega)]
      refine LRuns.exit (code_runsP mdX mdL (runZ_ok mdX mdT mdL mixed 9) mixed (md_lp_end inr n c i ds []) ?_) (by intro e; cases e) rfl (by omega) (by omega) (fun n => n) ?_ ?_ rfl
      · simp only [Alls, decide_eq_false_iff_not]
        exact ⟨by omega, trivial⟩
      · trivial
      · exact ⟨sd_row rfl rfl, trivial⟩
  | r + 1, i, hr => by
      have hcc : c < capBig := by unfold capBig; omega
      have hi : i < ps.length := by omega
      have F := hP.facts (List.getElem?_eq_getElem hi)
      obtain ⟨p, hp⟩ : ∃ p, ps[i] = p := ⟨_, rfl⟩
      rw [hp] at F
      have hd : ps.drop i = p :: ps.drop (i + 1) := by rw [List.drop_eq_getElem_cons hi, hp]
      have f0 := F.l0
      have f1 := F.l1
      have o1 := F.o27 2
      have o2 := F.o27' 3
      rw [hd, List.any_cons]
      by_cases h1 : 200 < p.1.length
      · have e : big p = true := by simp [big, h1]
        rw [e, Bool.true_or]
        refine LRuns.exit (code_runsP mdX mdL (runZ_ok mdX mdT mdL mixed 9) mixed (md_lp_a inr n c i ds []) ?_) (by intro e; cases e) rfl (by omega) (by omega) (fun n => n) ?_ ?_ rfl
        ·
          simp only [Alls, rg, decide_eq_true_eq, decide_eq_false_iff_not, Nat.add_zero]
          repeat' (with_reducible apply And.intro)
          all_goals first | omega | (with_reducible assumption) | (with_reducible exact trivial) | (skip)
        · exact ⟨rfl, rfl, trivial⟩
        · exact ⟨sd_row rfl rfl, trivial⟩
      by_cases h2 : 200 < p.2.1.length
      · have e : big p = true := by simp [big, h2]
        rw [e, Bool.true_or]
        refine LRuns.exit (code_runsP mdX mdL (runZ_ok mdX mdT mdL mixed 9) mixed (md_lp_b inr n c i ds []) ?_) (by intro e; cases e) rfl (by omega) (by omega) (fun n => n) ?_ ?_ rfl
        ·
          simp only [Alls, rg, decide_eq_true_eq, decide_eq_false_iff_not, Nat.add_zero]
          repeat' (with_reducible apply And.intro)
          all_goals first | omega | (with_reducible assumption) | (with_reducible exact trivial) | (skip)
        · exact ⟨rfl, rfl, trivial⟩
        · exact ⟨sd_row rfl rfl, trivial⟩
      · have e : big p = false := by simp [big, h1, h2]
        rw [e, Bool.false_or]
        refine LRuns.step (code_runsP mdX mdL (runZ_ok mdX mdT mdL mixed 9) mixed (md_lp_go inr n c i ds []) ?_) rfl (by omega) (by omega) (fun n => n) ?_ ?_ rfl (lp_loop hP hn hn9 hc r (i + 1) (by omega))
        ·
          simp only [Alls, rg, decide_eq_true_eq, decide_eq_false_iff_not, Nat.add_zero]
          repeat' (with_reducible apply And.intro)
          all_goals first | omega | (with_reducible assumption) | (with_reducible exact trivial) | (skip)
        · exact ⟨rfl, rb_slc rfl hcc, rfl, rfl, trivial⟩
        · exact ⟨sd_row rfl rfl, trivial⟩
end Go.Proofs.Ytojakfnljopjbaa
