/-
  Chapter 12: the statement MemtableChecks: both Sorted.
-/
import Derived.Test.YtojakfnljopjbaaMdF
namespace Go.Proofs.Ytojakfnljopjbaa
set_option linter.unusedSimpArgs false
set_option linter.unusedVariables false
set_option linter.unusedSectionVars false
open Go Go.RowKit
/-- Keys rise. -/
def asc : List Pr → Bool
  | p :: q :: l => !decide (cmpI p.1 q.1 ≥ 0) && asc (q :: l)
  | _ => true
theorem so_loop {inr : Bool} {h0 : Hp} {ds es : List DV} {ps : List Pr} {n c : Nat} (hP : Prs es ps) (hO : ∀ p ∈ ps, PrOk p) (hn : ps.length = n) (hn9 : n ≤ 100) (hc : c ≤ 9223372036854775807) : ∀ (r i : Nat), i + 1 + r = n →
    LRuns inr Try.prog (bodyIn Try.prog 13 2) 120 140 h0 23 [(0, dpV n), (3, iV (i + 1))] (mdH ds es) 121 (bif asc (ps.drop i) then (.exit 0, [], mdH ds es) else (.ret, [(2, .bool false)], mdH ds es))
  | 0, i, hr => by
      have hi : i < ps.length := by omega
      have e : asc (ps.drop i) = true := by rw [List.drop_eq_getElem_cons hi, List.drop_of_length_le (by omega)]; rfl
      rw [e]
      refine LRuns.exit (code_runsP mdX mdL (runZ_ok mdX mdT mdL mixed 9) mixed (md_so_end inr n c i ds es) ?_) (by intro e; cases e) rfl (by omega) (by omega) (fun n => n) ?_ ?_ rfl
      · simp only [Alls, decide_eq_false_iff_not]
        exact ⟨by omega, trivial⟩
      · trivial
      · exact ⟨sd_row rfl rfl, dp_row (m := 80) rfl rfl, trivial⟩
  | r + 1, i, hr => by
      have hcc : c < capBig := by unfold capBig; omega
      have hi : i < ps.length := by omega
      have hi2 : i + 1 < ps.length := by omega
      have F := hP.facts (List.getElem?_eq_getElem hi)
      have G := hP.facts (List.getElem?_eq_getElem hi2)
      obtain ⟨p, hp⟩ : ∃ p, ps[i] = p := ⟨_, rfl⟩
      obtain ⟨q, hq⟩ : ∃ q, ps[i + 1] = q := ⟨_, rfl⟩
      rw [hp] at F
      rw [hq] at G
      have bp := (hO p (by rw [← hp]; exact List.getElem_mem hi)).1
      have bq := (hO q (by rw [← hq]; exact List.getElem_mem hi2)).1
      have hd : ps.drop i = p :: q :: ps.drop (i + 1 + 1) := by rw [List.drop_eq_getElem_cons hi, List.drop_eq_getElem_cons hi2, hp, hq]
      have hd2 : ps.drop (i + 1) = q :: ps.drop (i + 1 + 1) := by rw [List.drop_eq_getElem_cons hi2, hq]
      have ea : asc (ps.drop i) = (!decide (cmpI p.1 q.1 ≥ 0) && asc (ps.drop (i + 1))) := by rw [hd, hd2]; rfl
      have en : Int.toNat (((i + 1 : Nat) : Int) - 1) = i := by omega
      have f0 := F.l0
      have v0 := F.v0
      have f0' := G.l0
      have v0' := G.v0
      have o1 := F.o27 121
      have o2 := G.o27 122
      have y1 := byV_bytI bp
      have y2 := byV_bytI bq
      have hl0 := byV_len p.1
      have hl1 := byV_len q.1
      have t0 : List.take p.1.length (byV p.1) = byV p.1 := List.take_of_length_le (by omega)
      have t1 : List.take q.1.length (byV q.1) = byV q.1 := List.take_of_length_le (by omega)
      have i0 := byV_ints p.1
      have i1 := byV_ints q.1
      have cl := cmp_less p.1 q.1 bp bq
      rw [ea]
      by_cases hk : cmpI p.1 q.1 ≥ 0
      · rw [decide_eq_true hk] at cl ⊢
        refine LRuns.exit (code_runsP mdX mdL (runZ_ok mdX mdT mdL mixed 9) mixed (md_so_no inr n c i ds es) ?_) (by intro e; cases e) rfl (by omega) (by omega) (fun n => n) ?_ ?_ rfl
        · simp only [Alls, rg, decide_eq_true_eq, decide_eq_false_iff_not, Nat.add_zero, en, f0, v0, f0', v0', t0, t1, i0, i1, cl]
          repeat' (with_reducible apply And.intro)
          all_goals first | omega | (with_reducible assumption) | (with_reducible exact trivial) | exact rfl | skip
        · exact ⟨rfl, rfl, trivial⟩
        · exact ⟨sd_row rfl rfl, dp_row (m := 80) rfl rfl, trivial⟩
      · rw [decide_eq_false hk] at cl ⊢
        refine LRuns.step (code_runsP mdX mdL (runZ_ok mdX mdT mdL mixed 9) mixed (md_so_go inr n c i ds es) ?_) rfl (by omega) (by omega) (fun n => n) ?_ ?_ rfl (so_loop hP hO hn hn9 hc r (i + 1) (by omega))
        · simp only [Alls, rg, decide_eq_true_eq, decide_eq_false_iff_not, Nat.add_zero, en, f0, v0, f0', v0', t0, t1, i0, i1, cl]
          repeat' (with_reducible apply And.intro)
          all_goals first | omega | (with_reducible assumption) | (with_reducible exact trivial) | exact rfl | skip
        · exact ⟨rfl, rb_slg rfl rfl, rfl, rfl, trivial⟩
        · exact ⟨sd_row rfl rfl, dp_row (m := 80) rfl rfl, trivial⟩
theorem sr_loop {inr : Bool} {h0 : Hp} {ds es : List DV} {ps : List Pr} {n c : Nat} (hP : Prs ds ps) (hO : ∀ p ∈ ps, PrOk p) (hn : ps.length = n) (hn9 : n ≤ 100) (hc : c ≤ 9223372036854775807) : ∀ (r i : Nat), i + 1 + r = n →
    LRuns inr Try.prog (bodyIn Try.prog 14 2) 140 160 h0 23 [(0, sdV n c), (3, iV (i + 1))] (mdH ds es) 141 (bif asc (ps.drop i) then (.exit 0, [], mdH ds es) else (.ret, [(2, .bool false)], mdH ds es))
  | 0, i, hr => by
      have hi : i < ps.length := by omega
      have e : asc (ps.drop i) = true := by rw [List.drop_eq_getElem_cons hi, List.drop_of_length_le (by omega)]; rfl
      rw [e]
      refine LRuns.exit (code_runsP mdX mdL (runZ_ok mdX mdT mdL mixed 9) mixed (md_sr_end inr n c i ds es) ?_) (by intro e; cases e) rfl (by omega) (by omega) (fun n => n) ?_ ?_ rfl
      · simp only [Alls, decide_eq_false_iff_not]
        exact ⟨by omega, trivial⟩
      · trivial
      · exact ⟨sd_row rfl rfl, dp_row (m := 80) rfl rfl, trivial⟩
  | r + 1, i, hr => by
      have hcc : c < capBig := by unfold capBig; omega
      have hi : i < ps.length := by omega
      have hi2 : i + 1 < ps.length := by omega
      have F := hP.facts (List.getElem?_eq_getElem hi)
      have G := hP.facts (List.getElem?_eq_getElem hi2)
      obtain ⟨p, hp⟩ : ∃ p, ps[i] = p := ⟨_, rfl⟩
      obtain ⟨q, hq⟩ : ∃ q, ps[i + 1] = q := ⟨_, rfl⟩
      rw [hp] at F
      rw [hq] at G
      have bp := (hO p (by rw [← hp]; exact List.getElem_mem hi)).1
      have bq := (hO q (by rw [← hq]; exact List.getElem_mem hi2)).1
      have hd : ps.drop i = p :: q :: ps.drop (i + 1 + 1) := by rw [List.drop_eq_getElem_cons hi, List.drop_eq_getElem_cons hi2, hp, hq]
      have hd2 : ps.drop (i + 1) = q :: ps.drop (i + 1 + 1) := by rw [List.drop_eq_getElem_cons hi2, hq]
      have ea : asc (ps.drop i) = (!decide (cmpI p.1 q.1 ≥ 0) && asc (ps.drop (i + 1))) := by rw [hd, hd2]; rfl
      have en : Int.toNat (((i + 1 : Nat) : Int) - 1) = i := by omega
      have f0 := F.l0
      have v0 := F.v0
      have f0' := G.l0
      have v0' := G.v0
      have o1 := F.o27 141
      have o2 := G.o27 142
      have y1 := byV_bytI bp
      have y2 := byV_bytI bq
      have hl0 := byV_len p.1
      have hl1 := byV_len q.1
      have t0 : List.take p.1.length (byV p.1) = byV p.1 := List.take_of_length_le (by omega)
      have t1 : List.take q.1.length (byV q.1) = byV q.1 := List.take_of_length_le (by omega)
      have i0 := byV_ints p.1
      have i1 := byV_ints q.1
      have cl := cmp_less p.1 q.1 bp bq
      rw [ea]
      by_cases hk : cmpI p.1 q.1 ≥ 0
      · rw [decide_eq_true hk] at cl ⊢
        refine LRuns.exit (code_runsP mdX mdL (runZ_ok mdX mdT mdL mixed 9) mixed (md_sr_no inr n c i ds es) ?_) (by intro e; cases e) rfl (by omega) (by omega) (fun n => n) ?_ ?_ rfl
        · simp only [Alls, rg, decide_eq_true_eq, decide_eq_false_iff_not, Nat.add_zero, en, f0, v0, f0', v0', t0, t1, i0, i1, cl]
          repeat' (with_reducible apply And.intro)
          all_goals first | omega | (with_reducible assumption) | (with_reducible exact trivial) | exact rfl | skip
        · exact ⟨rfl, rfl, trivial⟩
        · exact ⟨sd_row rfl rfl, dp_row (m := 80) rfl rfl, trivial⟩
      · rw [decide_eq_false hk] at cl ⊢
        refine LRuns.step (code_runsP mdX mdL (runZ_ok mdX mdT mdL mixed 9) mixed (md_sr_go inr n c i ds es) ?_) rfl (by omega) (by omega) (fun n => n) ?_ ?_ rfl (sr_loop hP hO hn hn9 hc r (i + 1) (by omega))
        · simp only [Alls, rg, decide_eq_true_eq, decide_eq_false_iff_not, Nat.add_zero, en, f0, v0, f0', v0', t0, t1, i0, i1, cl]
          repeat' (with_reducible apply And.intro)
          all_goals first | omega | (with_reducible assumption) | (with_reducible exact trivial) | exact rfl | skip
        · exact ⟨rfl, rb_slc rfl hcc, rfl, rfl, trivial⟩
        · exact ⟨sd_row rfl rfl, dp_row (m := 80) rfl rfl, trivial⟩
end Go.Proofs.Ytojakfnljopjbaa
