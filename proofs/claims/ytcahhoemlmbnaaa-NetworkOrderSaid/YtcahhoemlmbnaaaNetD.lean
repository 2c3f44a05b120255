/-
  Chapter 30: the statement NetworkOrder: packets are dropped; all are told.
-/
import Derived.Test.YtcahhoemlmbnaaaNetC
namespace Go.Proofs.Ytcahhoemlmbnaaa
set_option linter.unusedSimpArgs false
set_option linter.unusedVariables false
set_option linter.unusedSectionVars false
open Go Go.RowKit
theorem ints_at {k : IntKind} : ∀ {l : List Int} {i : Nat}, i < l.length → (l.map (Value.int k))[i]? = some (.int k (intAt (l.map (Value.int k)) i)) := fun {l i} h => by
  have e : (l.map (Value.int k))[i]? = some (.int k l[i]) := by simp [h]
  have e2 : intAt (l.map (Value.int k)) i = l[i] := by unfold intAt; rw [e]
  rw [e2, e]
theorem Ints.cell {k : IntKind} {ts : List Value} (h : Ints k ts) {i : Nat} (hi : i < ts.length) : ts[i]? = some (.int k (intAt ts i)) := by
  have h' : ts = (intsOf ts).map (Value.int k) := h
  have hl : (intsOf ts).length = ts.length := by simp [intsOf]
  have := ints_at (k := k) (l := intsOf ts) (i := i) (by omega)
  rw [← h'] at this
  exact this
theorem pks_del' (l : List Int) (x : Int) : delP (pks l) x = pks (l.take x.toNat ++ l.drop (x.toNat + 1)) := by
  unfold delP
  rw [pks_take, pks_drop, pks_app]
theorem del_len {l : List Int} {j : Nat} (h : j < l.length) : (l.take j ++ l.drop (j + 1)).length = l.length - 1 := by
  rw [List.length_append, List.length_take, List.length_drop]; omega
/-- What is left, and how many are lost. -/
def drp (ts : List Value) : Nat → Nat → List Int → Nat → List Int × Nat
  | 0, _, l, k => (l, k)
  | r + 1, i, l, k => if 0 ≤ intAt ts i ∧ intAt ts i < (l.length : Int) then drp ts r (i + 1) (l.take (intAt ts i).toNat ++ l.drop ((intAt ts i).toNat + 1)) (k + 1) else drp ts r (i + 1) l k
theorem l2_loop {inr : Bool} {h0 : Hp} {ts : List Value} {n c : Nat} (hT : Ints .i64 ts) (hlen : ts.length = n) (hc : c ≤ 9223372036854775807) (hn : n ≤ 40) : ∀ (r i : Nat) (l : List Int) (k : Nat), i + r = n → l.length ≤ 40 → k ≤ i →
    LRuns inr Try.prog (l2B Try.prog) 80 200 h0 127 (l2S n c i) [(2, mpR), (3, netR (lsV 80 l.length) (k : Int)), (80, lsR (pks l)), (1, ⟨.old, ts⟩)] 81
      (.exit 2, [(5, .bool true), (6, .pointer (some ⟨3, 0, none⟩))], [(2, mpR), (3, netR (lsV 80 (drp ts r i l k).1.length) ((drp ts r i l k).2 : Int)), (80, lsR (pks (drp ts r i l k).1)), (1, ⟨.old, ts⟩)])
  | 0, i, l, k, hr, hl, hk => by
      have hF : Fl ts := hT.fl
      refine LRuns.exit (code_runs (netV_X _) netV_L (runZ_ok (netV_X _) (netV_T _) netV_L mixed 9) mixed (l2_end inr i l.length n c k (pks l) ts) ?_) (by intro e; cases e) rfl (by omega) (by omega) (fun n => n) ?_ ?_ rfl
      · simp only [Alls, decide_eq_false_iff_not]
        exact ⟨by omega, trivial⟩
      · exact ⟨rfl, rfl, rfl, rb_ptr rfl, trivial⟩
      · exact ⟨mp_row rfl rfl, net_row rfl rfl rfl (rb_slg rfl rfl), ls_row (m := 80) rfl rfl rfl (pks_fl _), rb_old (by omega) rfl hF, trivial⟩
  | r + 1, i, l, k, hr, hl, hk => by
      have hF : Fl ts := hT.fl
      have hcell := hT.cell (i := i) (by omega)
      by_cases hx : 0 ≤ intAt ts i ∧ intAt ts i < (l.length : Int)
      · have hj : (intAt ts i).toNat < l.length := by omega
        have hdl := del_len hj
        have nx := l2_loop (inr := inr) (h0 := h0) hT hlen hc hn r (i + 1) (l.take (intAt ts i).toNat ++ l.drop ((intAt ts i).toNat + 1)) (k + 1) (by omega) (by omega) (by omega)
        have e : drp ts (r + 1) i l k = drp ts r (i + 1) (l.take (intAt ts i).toNat ++ l.drop ((intAt ts i).toNat + 1)) (k + 1) := by simp only [drp, if_pos hx]
        rw [e]
        refine LRuns.step (code_runs (netV_X _) netV_L (runZ_ok (netV_X _) (netV_T _) netV_L mixed 9) mixed (l2_in inr i l.length n c k (pks l) ts) ?_) rfl (by omega) (by omega) (fun _ => 84) ?_ ?_ rfl nx
        · have hpl := pks_len l
          have hpf := pks_fl l
          have hp1 := pks_one l
          simp only [Alls, rg, decide_eq_true_eq, decide_eq_false_iff_not, adI_eq]
          repeat' apply And.intro
          all_goals first | omega | (with_reducible assumption) | (with_reducible exact trivial) | (with_reducible rfl) | (exact ldl_take hj)
        · exact ⟨rfl, rb_slc rfl (by unfold capBig; omega), rfl, rfl, rfl, rb_ptr rfl, rfl, rfl, trivial⟩
        · exact ⟨mp_row rfl rfl, net_row rfl rfl rfl (by rw [hdl]; exact rb_slg rfl rfl), ls_row (m := 84) rfl rfl (pks_del' l _) (pks_fl _), rb_old (by omega) rfl hF, trivial⟩
      · have nx := l2_loop (inr := inr) (h0 := h0) hT hlen hc hn r (i + 1) l k (by omega) hl (by omega)
        have e : drp ts (r + 1) i l k = drp ts r (i + 1) l k := by simp only [drp, if_neg hx]
        rw [e]
        by_cases hneg : intAt ts i < 0
        · refine LRuns.step (code_runs (netV_X _) netV_L (runZ_ok (netV_X _) (netV_T _) netV_L mixed 9) mixed (l2_neg inr i l.length n c k (pks l) ts) ?_) rfl (by omega) (by omega) (fun n => n) ?_ ?_ rfl nx
          · simp only [Alls, rg, decide_eq_true_eq, decide_eq_false_iff_not]
            repeat' apply And.intro
            all_goals first | omega | (with_reducible assumption) | (with_reducible exact trivial) | (with_reducible rfl) | (skip)
          · exact ⟨rfl, rb_slc rfl (by unfold capBig; omega), rfl, rfl, rfl, rb_ptr rfl, rfl, rfl, trivial⟩
          · exact ⟨mp_row rfl rfl, net_row rfl rfl rfl (rb_slg rfl rfl), ls_row (m := 80) rfl rfl rfl (pks_fl _), rb_old (by omega) rfl hF, trivial⟩
        · refine LRuns.step (code_runs (netV_X _) netV_L (runZ_ok (netV_X _) (netV_T _) netV_L mixed 9) mixed (l2_hi inr i l.length n c k (pks l) ts) ?_) rfl (by omega) (by omega) (fun n => n) ?_ ?_ rfl nx
          · simp only [Alls, rg, decide_eq_true_eq, decide_eq_false_iff_not]
            repeat' apply And.intro
            all_goals first | omega | (with_reducible assumption) | (with_reducible exact trivial) | (with_reducible rfl) | (skip)
          · exact ⟨rfl, rb_slc rfl (by unfold capBig; omega), rfl, rfl, rfl, rb_ptr rfl, rfl, rfl, trivial⟩
          · exact ⟨mp_row rfl rfl, net_row rfl rfl rfl (rb_slg rfl rfl), ls_row (m := 80) rfl rfl rfl (pks_fl _), rb_old (by omega) rfl hF, trivial⟩
theorem l2n_loop {inr : Bool} {h0 : Hp} {ts : List Value} {n c : Nat} (hT : Ints .i64 ts) (hlen : ts.length = n) (hc : c ≤ 9223372036854775807) (hn : n ≤ 40) : ∀ (r i : Nat), i + r = n →
    LRuns inr Try.prog (l2B Try.prog) 4 200 h0 127 (l2S n c i) [(2, mpR), (3, netR (.slice none 0 0) 0), (1, ⟨.old, ts⟩)] 4
      (.exit 2, [(5, .bool true), (6, .pointer (some ⟨3, 0, none⟩))], [(2, mpR), (3, netR (.slice none 0 0) 0), (1, ⟨.old, ts⟩)])
  | 0, i, hr => by
      have hF : Fl ts := hT.fl
      refine LRuns.exit (code_runs (netV_X _) netV_L (runZ_ok (netV_X _) (netV_T _) netV_L mixed 9) mixed (l2n_end inr i n c ts) ?_) (by intro e; cases e) rfl (by omega) (by omega) (fun n => n) ?_ ?_ rfl
      · simp only [Alls, decide_eq_false_iff_not]
        exact ⟨by omega, trivial⟩
      · exact ⟨rfl, rfl, rfl, rb_ptr rfl, trivial⟩
      · exact ⟨mp_row rfl rfl, net_row rfl rfl rfl rfl, rb_old (by omega) rfl hF, trivial⟩
  | r + 1, i, hr => by
      have hF : Fl ts := hT.fl
      have hcell := hT.cell (i := i) (by omega)
      have nx := l2n_loop (inr := inr) (h0 := h0) hT hlen hc hn r (i + 1) (by omega)
      by_cases hneg : intAt ts i < 0
      · refine LRuns.step (code_runs (netV_X _) netV_L (runZ_ok (netV_X _) (netV_T _) netV_L mixed 9) mixed (l2n_neg inr i n c ts) ?_) rfl (by omega) (by omega) (fun n => n) ?_ ?_ rfl nx
        · simp only [Alls, rg, decide_eq_true_eq, decide_eq_false_iff_not]
          repeat' apply And.intro
          all_goals first | omega | (with_reducible assumption) | (with_reducible exact trivial) | (with_reducible rfl) | (skip)
        · exact ⟨rfl, rb_slc rfl (by unfold capBig; omega), rfl, rfl, rfl, rb_ptr rfl, rfl, rfl, trivial⟩
        · exact ⟨mp_row rfl rfl, net_row rfl rfl rfl rfl, rb_old (by omega) rfl hF, trivial⟩
      · refine LRuns.step (code_runs (netV_X _) netV_L (runZ_ok (netV_X _) (netV_T _) netV_L mixed 9) mixed (l2n_hi inr i n c ts) ?_) rfl (by omega) (by omega) (fun n => n) ?_ ?_ rfl nx
        · simp only [Alls, rg, decide_eq_true_eq, decide_eq_false_iff_not]
          repeat' apply And.intro
          all_goals first | omega | (with_reducible assumption) | (with_reducible exact trivial) | (with_reducible rfl) | (skip)
        · exact ⟨rfl, rb_slc rfl (by unfold capBig; omega), rfl, rfl, rfl, rb_ptr rfl, rfl, rfl, trivial⟩
        · exact ⟨mp_row rfl rfl, net_row rfl rfl rfl rfl, rb_old (by omega) rfl hF, trivial⟩
/-! ### all packets are told -/
theorem li_loop {inr : Bool} {h0 : Hp} {l : List Int} {k : Int} (hl : l.length ≤ 40) : ∀ (r i : Nat), i + r = l.length → 0 < i →
    LRuns inr Try.prog (liB Try.prog) 200 300 h0 24 (liS (lsV 200 i) 80 l.length i) [(2, mpR), (3, netR (lsV 80 l.length) k), (80, lsR (pks l)), (200, lsR (pks (l.take i)))] 201
      (.exit 0, [(3, lsV 200 l.length)], [(2, mpR), (3, netR (lsV 80 l.length) k), (80, lsR (pks l)), (200, lsR (pks l))])
  | 0, i, hr, hi => by
      obtain rfl : i = l.length := by omega
      rw [List.take_length]
      refine LRuns.exit (code_runs (netV_X _) netV_L (runZ_ok (netV_X _) (netV_T _) netV_L mixed 9) mixed (li_end inr l.length l.length l.length (pks l) (pks l) k) ?_) (by intro e; cases e) rfl (by omega) (by omega) (fun n => n) ?_ ?_ rfl
      · simp only [Alls, decide_eq_false_iff_not]
        exact ⟨by omega, trivial⟩
      · exact ⟨rfl, rb_slg rfl rfl, trivial⟩
      · exact ⟨mp_row rfl rfl, net_row rfl rfl rfl (rb_slg rfl rfl), ls_row (m := 80) rfl rfl rfl (pks_fl _), ls_row (m := 200) rfl rfl rfl (pks_fl _), trivial⟩
  | r + 1, i, hr, hi => by
      have hil : i < l.length := by omega
      have nx := li_loop (inr := inr) (h0 := h0) (k := k) hl r (i + 1) (by omega) (by omega)
      refine LRuns.step (code_runs (netV_X _) netV_L (runZ_ok (netV_X _) (netV_T _) netV_L mixed 9) mixed (li_more inr l.length i i (pks l) (pks (l.take i)) k) ?_) rfl (by omega) (by omega) (fun _ => 205) ?_ ?_ rfl nx
      · have hpl := pks_len (l.take i)
        rw [List.length_take, Nat.min_eq_left (by omega)] at hpl
        simp only [Alls, rg, decide_eq_true_eq, decide_eq_false_iff_not]
        repeat' apply And.intro
        all_goals first | omega | (with_reducible assumption) | (with_reducible exact trivial) | (with_reducible rfl) | (first | exact ldl_take hil | exact (ldl_pks hil ▸ pk_one _ : all1 (ldl (pks l) (i * 19)) = true))
      · exact ⟨rfl, rb_slg rfl rfl, rfl, rb_slg rfl rfl, rfl, rfl, rfl, rfl, trivial⟩
      · refine ⟨mp_row rfl rfl, net_row rfl rfl rfl (rb_slg rfl rfl), ls_row (m := 80) rfl rfl rfl (pks_fl _), ls_row (m := 205) rfl rfl (D := pks (l.take i) ++ ldl (pks l) (i * 19)) ?_ (pks_fl _), trivial⟩
        rw [ldl_pks hil, List.take_add_one, pks_app]
        simp [pks, hil]
end Go.Proofs.Ytcahhoemlmbnaaa
