/-
  Chapter 01: a text's number: the loops of the program's function and of the document's.
-/
import Derived.Test.YtpiapipmhlpmjaaU128TF
namespace Go.Proofs.Ytpiapipmhlpmjaa
set_option linter.unusedSimpArgs false
set_option linter.unusedVariables false
set_option linter.unusedSectionVars false
open Go Go.RowKit

theorem bsOf_is (s : ByteArray) : bsOf s = (s.data.toList.map fun b => ((b.toNat : Nat) : Int)).map (Value.int .u8) := by unfold bsOf; rw [List.map_map]; rfl
theorem bsOf_fl (s : ByteArray) : Fl (bsOf s) := by rw [bsOf_is]; exact Fl.ints _ _
theorem bsOf_at {s : ByteArray} {i : Nat} (h : i < s.data.toList.length) : (bsOf s)[i]? = some (.int .u8 (chAt s i : Int)) ∧ intAt (bsOf s) i = (chAt s i : Int) ∧ chAt s i < 256 := by
  have e : (bsOf s)[i]? = some (.int .u8 (chAt s i : Int)) := by
    unfold bsOf chAt
    rw [List.getElem?_map, List.getElem?_eq_getElem h]
    rfl
  refine ⟨e, by unfold intAt; rw [e], ?_⟩
  unfold chAt
  rw [List.getElem?_eq_getElem h]
  exact UInt8.toNat_lt _
theorem wf_t (h l d : Int) : wf64 (tH h l d) ∧ wf64 (tL h l d) := by unfold wf64 tH tL; omega
/-- What a text comes to, digit by digit: none, if there is another sign. -/
def prsI (s : ByteArray) : Nat → Nat → Int → Int → Bool → Option (Int × Int × Bool)
  | 0, _, h, l, o => some (h, l, o)
  | k + 1, i, h, l, o => if (chAt s i : Int) < 48 ∨ 57 < (chAt s i : Int) then none else prsI s k (i + 1) (tH h l ((chAt s i : Int) - 48)) (tL h l ((chAt s i : Int) - 48)) (o || tO h l ((chAt s i : Int) - 48))
theorem pnV_X (L : LFun) : XOkZ (pnV L) Try.prog := noXz_ok rfl
theorem pnV_T (L : LFun) : TOkZ (pnV L) Try.prog := T_okV rfl (mkT_one tn_gok)
theorem pi_good {inr : Bool} {h0 : Hp} {s : ByteArray} {n : Nat} (hn : n = s.data.toList.length) (h39 : n ≤ 39) {H L : Int} {O : Bool} : ∀ (k i : Nat) (h l : Int) (o : Bool), i + k = n → wf64 h → wf64 l → prsI s k i h l o = some (H, L, O) →
    LRuns inr Try.prog (piB Try.prog) 4 4 h0 56 (piS n i o) (piH (bsOf s) h l) 4 (.exit 0, [(2, .pointer (some ⟨1, 0, none⟩)), (4, .pointer (some ⟨2, 0, none⟩)), (5, .bool O)], [(2, hlR H L), (1, hlR 0 0)])
  | 0, i, h, l, o, hk, w1, w2, hp => by
      simp only [prsI, Option.some.injEq, Prod.mk.injEq] at hp
      obtain ⟨rfl, rfl, rfl⟩ := hp
      have ht : decide ((i : Int) < (n : Int)) = false := by simp only [decide_eq_false_iff_not]; omega
      cases o
      · exact LRuns.exit (code_runs (pnV_X noL) (noL_okV rfl) (runZ_ok (pnV_X noL) (pnV_T noL) (noL_okV rfl) mixed 5) mixed (pi_dno inr (bsOf s) n i h l) ⟨ht, trivial⟩) (by intro e; cases e) rfl (by omega) (by omega) (fun n => n) ⟨rfl, rb_ptr rfl, rfl, rb_ptr rfl, rfl, rfl, trivial⟩ ⟨rb_row (m := 2) rfl rfl rfl rfl (Fl.of rfl), rb_row (m := 1) rfl rfl rfl rfl (Fl.of rfl), trivial⟩ rfl
      · exact LRuns.exit (code_runs (pnV_X noL) (noL_okV rfl) (runZ_ok (pnV_X noL) (pnV_T noL) (noL_okV rfl) mixed 5) mixed (pi_don inr (bsOf s) n i h l) ⟨ht, trivial⟩) (by intro e; cases e) rfl (by omega) (by omega) (fun n => n) ⟨rfl, rb_ptr rfl, rfl, rb_ptr rfl, rfl, rfl, trivial⟩ ⟨rb_row (m := 2) rfl rfl rfl rfl (Fl.of rfl), rb_row (m := 1) rfl rfl rfl rfl (Fl.of rfl), trivial⟩ rfl
  | k + 1, i, h, l, o, hk, w1, w2, hp => by
      obtain ⟨e1, e2, e3⟩ := bsOf_at (s := s) (i := i) (by omega)
      by_cases hd : (chAt s i : Int) < 48 ∨ 57 < (chAt s i : Int)
      · rw [prsI, if_pos hd] at hp; cases hp
      rw [prsI, if_neg hd] at hp
      obtain ⟨v1, v2⟩ := wf_t h l ((chAt s i : Int) - 48)
      rw [← e2] at hp v1 v2
      cases o with
      | true =>
        have nx := pi_good (inr := inr) (h0 := h0) hn h39 k (i + 1) _ _ _ (by omega) v1 v2 hp
        rw [Bool.true_or] at nx
        refine LRuns.step (code_runs (pnV_X noL) (noL_okV rfl) (runZ_ok (pnV_X noL) (pnV_T noL) (noL_okV rfl) mixed 5) mixed (pi_on inr (bsOf s) n i h l) ?_) rfl (by omega) (by omega) (fun n => n) ?_ ?_ rfl nx
        ·
          repeat' (first | exact alls_nil | refine alls_cons ?_ ?_)
          all_goals (try simp only [e2])
          all_goals first | with_reducible assumption | with_reducible rfl | omega | (simp only [decide_eq_true_eq, decide_eq_false_iff_not]; omega) | (simp only [rg]; omega)
        · exact ⟨rfl, rb_ptr rfl, rfl, rb_ptr rfl, rfl, rfl, rfl, rb_slg rfl rfl, rfl, rfl, rfl, rfl, trivial⟩
        · exact ⟨rb_row (m := 3) rfl rfl rfl rfl (bsOf_fl s), rb_row (m := 2) rfl rfl rfl rfl (Fl.of rfl), rb_row (m := 1) rfl rfl rfl rfl (Fl.of rfl), trivial⟩
      | false =>
        have nx := pi_good (inr := inr) (h0 := h0) hn h39 k (i + 1) _ _ _ (by omega) v1 v2 hp
        rw [Bool.false_or] at nx
        cases ho : tO h l (intAt (bsOf s) i - 48) with
        | true =>
          rw [ho] at nx
          rw [e2] at ho
          refine LRuns.step (code_runs (pnV_X noL) (noL_okV rfl) (runZ_ok (pnV_X noL) (pnV_T noL) (noL_okV rfl) mixed 5) mixed (pi_ov inr (bsOf s) n i h l) ?_) rfl (by omega) (by omega) (fun n => n) ?_ ?_ rfl nx
          ·
            repeat' (first | exact alls_nil | refine alls_cons ?_ ?_)
            all_goals (try simp only [e2])
            all_goals first | with_reducible assumption | with_reducible rfl | omega | (simp only [decide_eq_true_eq, decide_eq_false_iff_not]; omega) | (simp only [rg]; omega)
          · exact ⟨rfl, rb_ptr rfl, rfl, rb_ptr rfl, rfl, rfl, rfl, rb_slg rfl rfl, rfl, rfl, rfl, rfl, trivial⟩
          · exact ⟨rb_row (m := 3) rfl rfl rfl rfl (bsOf_fl s), rb_row (m := 2) rfl rfl rfl rfl (Fl.of rfl), rb_row (m := 1) rfl rfl rfl rfl (Fl.of rfl), trivial⟩
        | false =>
          rw [ho] at nx
          rw [e2] at ho
          refine LRuns.step (code_runs (pnV_X noL) (noL_okV rfl) (runZ_ok (pnV_X noL) (pnV_T noL) (noL_okV rfl) mixed 5) mixed (pi_no inr (bsOf s) n i h l) ?_) rfl (by omega) (by omega) (fun n => n) ?_ ?_ rfl nx
          ·
            repeat' (first | exact alls_nil | refine alls_cons ?_ ?_)
            all_goals (try simp only [e2])
            all_goals first | with_reducible assumption | with_reducible rfl | omega | (simp only [decide_eq_true_eq, decide_eq_false_iff_not]; omega) | (simp only [rg]; omega)
          · exact ⟨rfl, rb_ptr rfl, rfl, rb_ptr rfl, rfl, rfl, rfl, rb_slg rfl rfl, rfl, rfl, rfl, rfl, trivial⟩
          · exact ⟨rb_row (m := 3) rfl rfl rfl rfl (bsOf_fl s), rb_row (m := 2) rfl rfl rfl rfl (Fl.of rfl), rb_row (m := 1) rfl rfl rfl rfl (Fl.of rfl), trivial⟩
theorem pi_bad {inr : Bool} {h0 : Hp} {s : ByteArray} {n : Nat} (hn : n = s.data.toList.length) (h39 : n ≤ 39) : ∀ (k i : Nat) (h l : Int) (o : Bool), i + k = n → wf64 h → wf64 l → prsI s k i h l o = none →
    LRuns inr Try.prog (piB Try.prog) 4 4 h0 56 (piS n i o) (piH (bsOf s) h l) 4 (.ret, [(2, .pointer (some ⟨1, 0, none⟩)), (3, .int .i64 4)], [(1, hlR 0 0)])
  | 0, i, h, l, o, hk, w1, w2, hp => by simp only [prsI] at hp; cases hp
  | k + 1, i, h, l, o, hk, w1, w2, hp => by
      obtain ⟨e1, e2, e3⟩ := bsOf_at (s := s) (i := i) (by omega)
      by_cases hd : (chAt s i : Int) < 48 ∨ 57 < (chAt s i : Int)
      · by_cases h48 : (chAt s i : Int) < 48
        · cases o
          · refine LRuns.exit (code_runs (pnV_X noL) (noL_okV rfl) (runZ_ok (pnV_X noL) (pnV_T noL) (noL_okV rfl) mixed 5) mixed (pi_lo inr (bsOf s) n i h l) ?_) (by intro e; cases e) rfl (by omega) (by omega) (fun n => n) ⟨rfl, rb_ptr rfl, rfl, rfl, trivial⟩ ⟨rb_row (m := 1) rfl rfl rfl rfl (Fl.of rfl), trivial⟩ rfl
            repeat' (first | exact alls_nil | refine alls_cons ?_ ?_)
            all_goals (try simp only [e2])
            all_goals first | with_reducible assumption | with_reducible rfl | omega | (simp only [decide_eq_true_eq, decide_eq_false_iff_not]; omega) | (simp only [rg]; omega)
          · refine LRuns.exit (code_runs (pnV_X noL) (noL_okV rfl) (runZ_ok (pnV_X noL) (pnV_T noL) (noL_okV rfl) mixed 5) mixed (pi_olo inr (bsOf s) n i h l) ?_) (by intro e; cases e) rfl (by omega) (by omega) (fun n => n) ⟨rfl, rb_ptr rfl, rfl, rfl, trivial⟩ ⟨rb_row (m := 1) rfl rfl rfl rfl (Fl.of rfl), trivial⟩ rfl
            repeat' (first | exact alls_nil | refine alls_cons ?_ ?_)
            all_goals (try simp only [e2])
            all_goals first | with_reducible assumption | with_reducible rfl | omega | (simp only [decide_eq_true_eq, decide_eq_false_iff_not]; omega) | (simp only [rg]; omega)
        · have h57 : 57 < (chAt s i : Int) := by omega
          cases o
          · refine LRuns.exit (code_runs (pnV_X noL) (noL_okV rfl) (runZ_ok (pnV_X noL) (pnV_T noL) (noL_okV rfl) mixed 5) mixed (pi_hi inr (bsOf s) n i h l) ?_) (by intro e; cases e) rfl (by omega) (by omega) (fun n => n) ⟨rfl, rb_ptr rfl, rfl, rfl, trivial⟩ ⟨rb_row (m := 1) rfl rfl rfl rfl (Fl.of rfl), trivial⟩ rfl
            repeat' (first | exact alls_nil | refine alls_cons ?_ ?_)
            all_goals (try simp only [e2])
            all_goals first | with_reducible assumption | with_reducible rfl | omega | (simp only [decide_eq_true_eq, decide_eq_false_iff_not]; omega) | (simp only [rg]; omega)
          · refine LRuns.exit (code_runs (pnV_X noL) (noL_okV rfl) (runZ_ok (pnV_X noL) (pnV_T noL) (noL_okV rfl) mixed 5) mixed (pi_ohi inr (bsOf s) n i h l) ?_) (by intro e; cases e) rfl (by omega) (by omega) (fun n => n) ⟨rfl, rb_ptr rfl, rfl, rfl, trivial⟩ ⟨rb_row (m := 1) rfl rfl rfl rfl (Fl.of rfl), trivial⟩ rfl
            repeat' (first | exact alls_nil | refine alls_cons ?_ ?_)
            all_goals (try simp only [e2])
            all_goals first | with_reducible assumption | with_reducible rfl | omega | (simp only [decide_eq_true_eq, decide_eq_false_iff_not]; omega) | (simp only [rg]; omega)
      rw [prsI, if_neg hd] at hp
      obtain ⟨v1, v2⟩ := wf_t h l ((chAt s i : Int) - 48)
      rw [← e2] at hp v1 v2
      cases o with
      | true =>
        have nx := pi_bad (inr := inr) (h0 := h0) hn h39 k (i + 1) _ _ _ (by omega) v1 v2 hp
        rw [Bool.true_or] at nx
        refine LRuns.step (code_runs (pnV_X noL) (noL_okV rfl) (runZ_ok (pnV_X noL) (pnV_T noL) (noL_okV rfl) mixed 5) mixed (pi_on inr (bsOf s) n i h l) ?_) rfl (by omega) (by omega) (fun n => n) ?_ ?_ rfl nx
        ·
          repeat' (first | exact alls_nil | refine alls_cons ?_ ?_)
          all_goals (try simp only [e2])
          all_goals first | with_reducible assumption | with_reducible rfl | omega | (simp only [decide_eq_true_eq, decide_eq_false_iff_not]; omega) | (simp only [rg]; omega)
        · exact ⟨rfl, rb_ptr rfl, rfl, rb_ptr rfl, rfl, rfl, rfl, rb_slg rfl rfl, rfl, rfl, rfl, rfl, trivial⟩
        · exact ⟨rb_row (m := 3) rfl rfl rfl rfl (bsOf_fl s), rb_row (m := 2) rfl rfl rfl rfl (Fl.of rfl), rb_row (m := 1) rfl rfl rfl rfl (Fl.of rfl), trivial⟩
      | false =>
        have nx := pi_bad (inr := inr) (h0 := h0) hn h39 k (i + 1) _ _ _ (by omega) v1 v2 hp
        rw [Bool.false_or] at nx
        cases ho : tO h l (intAt (bsOf s) i - 48) with
        | true =>
          rw [ho] at nx
          rw [e2] at ho
          refine LRuns.step (code_runs (pnV_X noL) (noL_okV rfl) (runZ_ok (pnV_X noL) (pnV_T noL) (noL_okV rfl) mixed 5) mixed (pi_ov inr (bsOf s) n i h l) ?_) rfl (by omega) (by omega) (fun n => n) ?_ ?_ rfl nx
          ·
            repeat' (first | exact alls_nil | refine alls_cons ?_ ?_)
            all_goals (try simp only [e2])
            all_goals first | with_reducible assumption | with_reducible rfl | omega | (simp only [decide_eq_true_eq, decide_eq_false_iff_not]; omega) | (simp only [rg]; omega)
          · exact ⟨rfl, rb_ptr rfl, rfl, rb_ptr rfl, rfl, rfl, rfl, rb_slg rfl rfl, rfl, rfl, rfl, rfl, trivial⟩
          · exact ⟨rb_row (m := 3) rfl rfl rfl rfl (bsOf_fl s), rb_row (m := 2) rfl rfl rfl rfl (Fl.of rfl), rb_row (m := 1) rfl rfl rfl rfl (Fl.of rfl), trivial⟩
        | false =>
          rw [ho] at nx
          rw [e2] at ho
          refine LRuns.step (code_runs (pnV_X noL) (noL_okV rfl) (runZ_ok (pnV_X noL) (pnV_T noL) (noL_okV rfl) mixed 5) mixed (pi_no inr (bsOf s) n i h l) ?_) rfl (by omega) (by omega) (fun n => n) ?_ ?_ rfl nx
          ·
            repeat' (first | exact alls_nil | refine alls_cons ?_ ?_)
            all_goals (try simp only [e2])
            all_goals first | with_reducible assumption | with_reducible rfl | omega | (simp only [decide_eq_true_eq, decide_eq_false_iff_not]; omega) | (simp only [rg]; omega)
          · exact ⟨rfl, rb_ptr rfl, rfl, rb_ptr rfl, rfl, rfl, rfl, rb_slg rfl rfl, rfl, rfl, rfl, rfl, trivial⟩
          · exact ⟨rb_row (m := 3) rfl rfl rfl rfl (bsOf_fl s), rb_row (m := 2) rfl rfl rfl rfl (Fl.of rfl), rb_row (m := 1) rfl rfl rfl rfl (Fl.of rfl), trivial⟩
end Go.Proofs.Ytpiapipmhlpmjaa
