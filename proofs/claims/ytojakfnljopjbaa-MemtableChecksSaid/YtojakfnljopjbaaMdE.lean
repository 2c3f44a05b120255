/-
  Chapter 12: the statement MemtableChecks: SamePairs; both Sorted.
-/
import Derived.Test.YtojakfnljopjbaaMdD
namespace Go.Proofs.Ytojakfnljopjbaa
set_option linter.unusedSimpArgs false
set_option linter.unusedVariables false
set_option linter.unusedSectionVars false
open Go Go.RowKit
theorem strEq_self (s : ByteArray) : strEq s s = true := by unfold strEq; exact beq_self_eq_true _
theorem sp_loop {inr : Bool} {h0 : Hp} {ds es : List DV} {ps : List Pr} {n c : Nat} (hP : Prs ds ps) (hE : Prs es ps) (hn : ps.length = n) (hn9 : n ≤ 100) (hc : c ≤ 9223372036854775807) : ∀ (r i : Nat), i + r = n →
    LRuns inr Try.prog (bodyIn Try.prog 15 4) 160 180 h0 27 [(0, dpV n), (1, sdV n c), (5, iV i)] (mdH ds es) 161 (.exit 0, [], mdH ds es)
  | 0, i, hr => by
      refine LRuns.exit (code_runsP mdX mdL (runZ_ok mdX mdT mdL mixed 9) mixed (md_sp_end inr n c i ds es) ?_) (by intro e; cases e) rfl (by omega) (by omega) (fun n => n) ?_ ?_ rfl
      · simp only [Alls, decide_eq_false_iff_not]
        exact ⟨by omega, trivial⟩
      · trivial
      · exact ⟨sd_row rfl rfl, dp_row (m := 80) rfl rfl, trivial⟩
  | r + 1, i, hr => by
      have hcc : c < capBig := by unfold capBig; omega
      have hi : i < ps.length := by omega
      have F := hP.facts (List.getElem?_eq_getElem hi)
      have G := hE.facts (List.getElem?_eq_getElem hi)
      obtain ⟨p, hp⟩ : ∃ p, ps[i] = p := ⟨_, rfl⟩
      rw [hp] at F G
      have f0 := F.l0
      have f1 := F.l1
      have v0 := F.v0
      have v1 := F.v1
      have f0' := G.l0
      have f1' := G.l1
      have v0' := G.v0
      have v1' := G.v1
      have g1 := F.g
      have g2 := G.g
      have o1 := G.o29 161
      have o2 := F.o29 163
      have hl0 := byV_len p.1
      have hl1 := byV_len p.2.1
      have t0 : List.take p.1.length (byV p.1) = byV p.1 := List.take_of_length_le (by omega)
      have t1 : List.take p.2.1.length (byV p.2.1) = byV p.2.1 := List.take_of_length_le (by omega)
      have i0 := byV_ints p.1
      have i1 := byV_ints p.2.1
      refine LRuns.step (code_runsP mdX mdL (runZ_ok mdX mdT mdL mixed 9) mixed (md_sp_go inr n c i ds es) ?_) rfl (by omega) (by omega) (fun n => n) ?_ ?_ rfl (sp_loop hP hE hn hn9 hc r (i + 1) (by omega))
      · simp only [Alls, rg, decide_eq_true_eq, decide_eq_false_iff_not, Nat.add_zero, f0, f1, v0, v1, f0', f1', v0', v1', t0, t1, i0, i1, g1, g2, strEq_self, beq_self_eq_true]
        repeat' (with_reducible apply And.intro)
        all_goals first | omega | (with_reducible assumption) | (with_reducible exact trivial) | (with_reducible rfl) | exact rfl | skip
      · exact ⟨rfl, rb_slg rfl rfl, rfl, rb_slc rfl hcc, rfl, rfl, trivial⟩
      · exact ⟨sd_row rfl rfl, dp_row (m := 80) rfl rfl, trivial⟩
end Go.Proofs.Ytojakfnljopjbaa
