/-
  Chapter 30: the statement NetworkOrder: what is left is taken in order.
-/
import Derived.Test.YtcahhoemlmbnaaaNetD
namespace Go.Proofs.Ytcahhoemlmbnaaa
set_option linter.unusedSimpArgs false
set_option linter.unusedVariables false
set_option linter.unusedSectionVars false
open Go Go.RowKit
theorem li_all {inr : Bool} {h0 : Hp} {l : List Int} {k : Int} (hl : l.length ≤ 40) (h1 : 0 < l.length) :
    LRuns inr Try.prog (liB Try.prog) 200 300 h0 24 (liS (.slice none 0 0) 80 l.length 0) [(2, mpR), (3, netR (lsV 80 l.length) k), (80, lsR (pks l))] 200
      (.exit 0, [(3, lsV 200 l.length)], [(2, mpR), (3, netR (lsV 80 l.length) k), (80, lsR (pks l)), (200, lsR (pks l))]) := by
  have nx := li_loop (inr := inr) (h0 := h0) (k := k) hl (l.length - 1) 1 (by omega) (by omega)
  refine LRuns.stepTo (N' := 201) (code_runs (netV_X _) netV_L (runZ_ok (netV_X _) (netV_T _) netV_L mixed 9) mixed (li_first inr l.length (pks l) k) ?_) rfl (by omega) (by omega) (by omega) (by omega) (fun _ => 204) ?_ ?_ rfl nx
  · simp only [Alls, rg, decide_eq_true_eq, decide_eq_false_iff_not]
    repeat' apply And.intro
    all_goals first | omega | (with_reducible assumption) | (with_reducible exact trivial) | (with_reducible rfl) | (exact ldl_take h1)
  · exact ⟨rfl, rb_slg rfl rfl, rfl, rb_slg rfl rfl, rfl, rfl, rfl, rfl, trivial⟩
  · refine ⟨mp_row rfl rfl, net_row rfl rfl rfl (rb_slg rfl rfl), ls_row (m := 80) rfl rfl rfl (pks_fl _), ls_row (m := 204) rfl rfl (D := ldl (pks l) (0 * 19)) ?_ (pks_fl _), trivial⟩
    rw [ldl_pks h1, show l.take 1 = [l.getD 0 0] by cases l with | nil => simp at h1 | cons x l => rfl]
    simp [pks]
theorem li_none {inr : Bool} {h0 : Hp} {l : List Int} {k : Int} (h1 : l.length = 0) :
    LRuns inr Try.prog (liB Try.prog) 200 300 h0 24 (liS (.slice none 0 0) 80 l.length 0) [(2, mpR), (3, netR (lsV 80 l.length) k), (80, lsR (pks l))] 200
      (.exit 0, [(3, .slice none 0 0)], [(2, mpR), (3, netR (lsV 80 l.length) k), (80, lsR (pks l))]) := by
  refine LRuns.exit (code_runs (netV_X _) netV_L (runZ_ok (netV_X _) (netV_T _) netV_L mixed 9) mixed (li_end0 inr l.length (pks l) k) ?_) (by intro e; cases e) rfl (by omega) (by omega) (fun n => n) ?_ ?_ rfl
  · simp only [Alls, decide_eq_false_iff_not]
    exact ⟨by omega, trivial⟩
  · exact ⟨rfl, rfl, trivial⟩
  · exact ⟨mp_row rfl rfl, net_row rfl rfl rfl (rb_slg rfl rfl), ls_row (m := 80) rfl rfl rfl (pks_fl _), trivial⟩

/-! ### lists that rise -/
def Rise (l : List Int) : Prop := l.Pairwise (· < ·)
theorem Rise.lt {l : List Int} (h : Rise l) {a b : Nat} (hab : a < b) (hb : b < l.length) : l.getD a 0 < l.getD b 0 := by
  have := (List.pairwise_iff_getElem.1 h) a b (by omega) hb hab
  simpa [show a < l.length by omega, hb] using this
theorem Rise.del {l : List Int} (h : Rise l) (j : Nat) : Rise (l.take j ++ l.drop (j + 1)) := by
  rw [← List.eraseIdx_eq_take_drop_succ]
  exact List.Pairwise.sublist (List.eraseIdx_sublist ..) h
theorem ups_rise (n : Nat) : Rise (ups n) := by
  unfold Rise ups
  rw [List.pairwise_map]
  refine List.Pairwise.imp ?_ List.pairwise_lt_range
  intro a b h
  omega
theorem drp_rise (ts : List Value) : ∀ (r i : Nat) (l : List Int) (k : Nat), Rise l → Rise (drp ts r i l k).1 ∧ (drp ts r i l k).1.length ≤ l.length
  | 0, i, l, k, h => ⟨h, Nat.le_refl _⟩
  | r + 1, i, l, k, h => by
      simp only [drp]
      split
      · have := drp_rise ts r (i + 1) _ (k + 1) (h.del (intAt ts i).toNat)
        refine ⟨this.1, Nat.le_trans this.2 ?_⟩
        rw [List.length_append, List.length_take, List.length_drop]; omega
      · exact drp_rise ts r (i + 1) l k h
theorem cnt_none {l : List Int} (h : Rise l) {i : Nat} : ∀ (r j : Nat), j + r = l.length → i < j → cnt (pks l) (l.getD i 0) r j = 0
  | 0, j, _, _ => rfl
  | r + 1, j, hr, hi => by
      simp only [cnt]
      rw [pks_int (by omega), cnt_none h r (j + 1) (by omega) (by omega), if_neg (by have := h.lt hi (by omega); omega)]
theorem cnt_some {l : List Int} (h : Rise l) {i : Nat} (hi : i < l.length) : ∀ (r j : Nat), j + r = l.length → j ≤ i → cnt (pks l) (l.getD i 0) r j = 1
  | 0, j, hr, hj => by omega
  | r + 1, j, hr, hj => by
      simp only [cnt]
      rw [pks_int (by omega)]
      rcases Nat.eq_or_lt_of_le hj with rfl | hlt
      · rw [cnt_none h r (j + 1) (by omega) (by omega), if_pos rfl]
      · rw [cnt_some h hi r (j + 1) (by omega) (by omega), if_neg (by have := h.lt hlt hi; omega)]
theorem pks_op0 {l : List Int} (h : 0 < l.length) : (pks l)[7]? = some (.int .i64 (intAt (pks l) 7)) ∧ intAt (pks l) 7 = l.getD 0 0 := by
  have h1 : (pks l)[7]? = some (.int .i64 (l.getD 0 0)) := by
    have := pks_op (l := l) (i := 0) h
    simpa using this
  have h2 : intAt (pks l) 7 = l.getD 0 0 := by unfold intAt; rw [h1]
  exact ⟨by rw [h2]; exact h1, h2⟩
theorem drop_getD (l : List Int) (i : Nat) : (l.drop i).getD 0 0 = l.getD i 0 := by simp [List.getD_eq_getElem?_getD]
theorem drop_del (l : List Int) (i : Nat) : delP (pks (l.drop i)) 0 = pks (l.drop (i + 1)) := by
  rw [pks_del']
  simp
theorem l4_loop {inr : Bool} {h0 : Hp} {O : List Int} {k : Int} (hO : O.length ≤ 40) (hR : Rise O) : ∀ (r i : Nat), i + r = O.length → 0 < i →
    LRuns inr Try.prog (l4B Try.prog) 300 400 h0 127 (l4S O.length i) (l4H r O.length (pks (O.drop i)) (pks O) k) 301
      (.exit 4, [(5, .bool true), (6, .pointer (some ⟨3, 0, none⟩)), (10, lsV 200 O.length)], l4H 0 O.length [] (pks O) k)
  | 0, i, hr, hi => by
      have e : O.drop i = [] := List.drop_of_length_le (by omega)
      rw [e]
      refine LRuns.exit (code_runs (netV_X _) netV_L (runZ_ok (netV_X _) (netV_T _) netV_L mixed 9) mixed (l4_end inr 0 O.length i [] (pks O) k) ?_) (by intro e; cases e) rfl (by omega) (by omega) (fun n => n) ?_ ?_ rfl
      · simp only [Alls, decide_eq_false_iff_not]
        exact ⟨by omega, trivial⟩
      · exact ⟨rfl, rfl, rfl, rb_ptr rfl, rfl, rb_slg rfl rfl, trivial⟩
      · exact ⟨mp_row rfl rfl, net_row rfl rfl rfl (rb_slg rfl rfl), ls_row (m := 200) rfl rfl rfl (pks_fl _), ls_row (m := 300) rfl rfl rfl (Fl.of rfl), trivial⟩
  | r + 1, i, hr, hi => by
      have hiO : i < O.length := by omega
      have nx := l4_loop (inr := inr) (h0 := h0) (k := k) hO hR r (i + 1) (by omega) (by omega)
      have hdl : (O.drop i).length = r + 1 := by rw [List.length_drop]; omega
      obtain ⟨c1, c2⟩ := pks_op0 (l := O.drop i) (by omega)
      rw [drop_getD] at c2
      have hp : Int.toNat ((i : Int) - 1) = i - 1 := by omega
      have e1 := pks_op hiO
      have e2 := pks_int hiO
      have e3 := pks_op (l := O) (i := i - 1) (by omega)
      have e4 := pks_int (l := O) (i := i - 1) (by omega)
      have ht : List.take (O.length * 19) (pks O) = pks O := List.take_of_length_le (by rw [pks_len]; exact Nat.le_refl _)
      have hct := cnt_some hR hiO O.length 0 (by omega) (by omega)
      have hlt := hR.lt (a := i - 1) (b := i) (by omega) hiO
      refine LRuns.step (code_runs (netV_X _) netV_L (runZ_ok (netV_X _) (netV_T _) netV_L mixed 9) mixed (l4_more inr (r + 1) O.length i (pks (O.drop i)) (pks O) k) ?_) rfl (by omega) (by omega) (fun _ => 304) ?_ ?_ rfl nx
      · have hpl := pks_len O
        have hpd : (pks (O.drop i)).length = (r + 1) * 19 := by rw [pks_len, hdl]
        have hpf := pks_fl O
        have hpf2 := pks_fl (O.drop i)
        have hp1 := pks_one (O.drop i)
        have hpk : PkOk (pks O) O.length := ⟨O, rfl, rfl, by omega⟩
        simp only [hp, ht, e1, e2, e3, e4, hct, Alls, rg, decide_eq_true_eq, decide_eq_false_iff_not, bne_eq_false_iff_eq]
        repeat' apply And.intro
        all_goals first | omega | (with_reducible assumption) | (with_reducible exact trivial) | (with_reducible rfl) | (first | exact (ldl_take (l := O.drop i) (i := 0) (by omega) : _) | rfl)
      · exact ⟨rfl, rfl, rfl, rb_ptr rfl, rfl, rb_slg rfl rfl, rfl, rfl, trivial⟩
      · exact ⟨mp_row rfl rfl, net_row rfl rfl rfl (rb_slg rfl rfl), ls_row (m := 200) rfl rfl rfl (pks_fl _), ls_row (m := 304) rfl rfl (drop_del O i) (pks_fl _), trivial⟩
theorem l4_all {inr : Bool} {h0 : Hp} {O : List Int} {k : Int} (hO : O.length ≤ 40) (hR : Rise O) (h1 : 0 < O.length) :
    LRuns inr Try.prog (l4B Try.prog) 300 400 h0 127 (l4S O.length 0) (l4H O.length O.length (pks O) (pks O) k) 301
      (.exit 4, [(5, .bool true), (6, .pointer (some ⟨3, 0, none⟩)), (10, lsV 200 O.length)], l4H 0 O.length [] (pks O) k) := by
  have nx := l4_loop (inr := inr) (h0 := h0) (k := k) hO hR (O.length - 1) 1 (by omega) (by omega)
  obtain ⟨c1, c2⟩ := pks_op0 h1
  have ht : List.take (O.length * 19) (pks O) = pks O := List.take_of_length_le (by rw [pks_len]; exact Nat.le_refl _)
  have hct := cnt_some hR h1 O.length 0 (by omega) (by omega)
  have hct2 : cnt (pks O) (intAt (pks O) 7) O.length 0 = 1 := by rw [c2]; exact hct
  refine LRuns.step (code_runs (netV_X _) netV_L (runZ_ok (netV_X _) (netV_T _) netV_L mixed 9) mixed (l4_first inr O.length O.length (pks O) (pks O) k) ?_) rfl (by omega) (by omega) (fun _ => 304) ?_ ?_ rfl nx
  · have hpl := pks_len O
    have hpf := pks_fl O
    have hp1 := pks_one O
    have hpk : PkOk (pks O) O.length := ⟨O, rfl, rfl, by omega⟩
    simp only [ht, hct2, Alls, rg, decide_eq_true_eq, decide_eq_false_iff_not, bne_eq_false_iff_eq]
    repeat' apply And.intro
    all_goals first | omega | (with_reducible assumption) | (with_reducible exact trivial) | (with_reducible rfl) | (first | exact (ldl_take (l := O) (i := 0) h1 : _) | rfl)
  · exact ⟨rfl, rfl, rfl, rb_ptr rfl, rfl, rb_slg rfl rfl, rfl, rfl, trivial⟩
  · exact ⟨mp_row rfl rfl, net_row rfl rfl rfl (rb_slg rfl rfl), ls_row (m := 200) rfl rfl rfl (pks_fl _), ls_row (m := 304) rfl rfl (drop_del O 0) (pks_fl _), trivial⟩
end Go.Proofs.Ytcahhoemlmbnaaa
