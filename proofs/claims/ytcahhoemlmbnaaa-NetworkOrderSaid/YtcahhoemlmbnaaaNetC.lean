/-
  Chapter 30: the statement NetworkOrder: its loops.
-/
import Derived.Test.YtcahhoemlmbnaaaNetB
namespace Go.Proofs.Ytcahhoemlmbnaaa
set_option linter.unusedSimpArgs false
set_option linter.unusedVariables false
set_option linter.unusedSectionVars false
open Go Go.RowKit

theorem netV_X (L : LFun) : XOkZ (netV L) Try.prog := noXz_ok rfl
theorem netV_T (L : LFun) : TOkZ (netV L) Try.prog := T_okV rfl netT_one
theorem netV_L : LOkZ (netV noL) Try.prog := noL_okV rfl
/-- Packets as they are loaded, cell by cell. -/
def ldl (C : List Value) (o : Nat) : List Value := [.int .i64 (intAt C o), .int .i64 (intAt C (o + 1)), .int .i64 (intAt C (o + 1 + 1)), .int .i64 (intAt C (o + 1 + 1 + 1)), .int .i64 (intAt C (o + 1 + 1 + 1 + 1)), .int .i64 (intAt C (o + 1 + 1 + 1 + 1 + 1)), .int .i64 (intAt C (o + 1 + 1 + 1 + 1 + 1 + 1)), .int .i64 (intAt C (o + 1 + 1 + 1 + 1 + 1 + 1 + 1)), .int .i64 (intAt C (o + 1 + 1 + 1 + 1 + 1 + 1 + 1 + 1)), .int .i64 (intAt C (o + 1 + 1 + 1 + 1 + 1 + 1 + 1 + 1 + 1)), .int .i64 (intAt C (o + 1 + 1 + 1 + 1 + 1 + 1 + 1 + 1 + 1 + 1)), .int .u64 (intAt C (o + 1 + 1 + 1 + 1 + 1 + 1 + 1 + 1 + 1 + 1 + 1)), .int .u64 (intAt C (o + 1 + 1 + 1 + 1 + 1 + 1 + 1 + 1 + 1 + 1 + 1 + 1)), .int .i64 (intAt C (o + 1 + 1 + 1 + 1 + 1 + 1 + 1 + 1 + 1 + 1 + 1 + 1 + 1)), .int .i64 (intAt C (o + 1 + 1 + 1 + 1 + 1 + 1 + 1 + 1 + 1 + 1 + 1 + 1 + 1 + 1)), .int .u64 (intAt C (o + 1 + 1 + 1 + 1 + 1 + 1 + 1 + 1 + 1 + 1 + 1 + 1 + 1 + 1 + 1)), .int .i64 (intAt C (o + 1 + 1 + 1 + 1 + 1 + 1 + 1 + 1 + 1 + 1 + 1 + 1 + 1 + 1 + 1 + 1)), .int .i64 (intAt C (o + 1 + 1 + 1 + 1 + 1 + 1 + 1 + 1 + 1 + 1 + 1 + 1 + 1 + 1 + 1 + 1 + 1)), .slice none 0 0]
theorem ldl_pks {l : List Int} {i : Nat} (hi : i < l.length) : ldl (pks l) (i * 19) = pk (l.getD i 0) := by
  have h : ∀ j, j < 19 → intAt (pks l) (i * 19 + j) = intAt (pk (l.getD i 0)) j := fun j hj => by unfold intAt; rw [pks_at hi hj]
  have h0 : intAt (pks l) (i * 19) = intAt (pk (l.getD i 0)) 0 := h 0 (by omega)
  unfold ldl
  simp only [Nat.add_assoc, Nat.reduceAdd]
  rw [h0, h 1 (by omega), h 2 (by omega), h 3 (by omega), h 4 (by omega), h 5 (by omega), h 6 (by omega), h 7 (by omega), h 8 (by omega), h 9 (by omega), h 10 (by omega), h 11 (by omega), h 12 (by omega), h 13 (by omega), h 14 (by omega), h 15 (by omega), h 16 (by omega), h 17 (by omega)]
  rfl
theorem ldl_take {l : List Int} {i : Nat} (hi : i < l.length) : List.take 19 (List.drop (i * 19) (pks l)) = ldl (pks l) (i * 19) := (pks_row hi).trans (ldl_pks hi).symm
theorem net_rb {f : Sg} {l l' : Value} {k : Int} (h : renV f l = some l') (h2 : renV f (.map (some 2)) = some (.map (some 2))) : renL f (netR l k).cs = some (netR l' k).cs := renL_mk rfl (renL_mk h (renL_mk h2 (renL_mk rfl rfl)))
theorem mp_ren {lo N : Nat} {ρ : Nat → Nat} (h : fnN lo N ρ 2 = some 2) : renV (sgf lo N ρ) (.map (some 2)) = some (.map (some 2)) := by
  simp only [renV, sgf, h]
theorem mp_row {lo N : Nat} {ρ : Nat → Nat} {h0 h1 : Hp} (h : fnN lo N ρ 2 = some 2) (hl : lk h1 2 = some mpR) : RbRow lo N ρ h0 h1 2 mpR := ⟨2, _, h, hl, rfl, rfl, .inl rfl⟩
theorem net_row {lo N : Nat} {ρ : Nat → Nat} {h0 h1 : Hp} {l l' : Value} {k : Int} (h3 : fnN lo N ρ 3 = some 3) (h : fnN lo N ρ 2 = some 2) (hl : lk h1 3 = some (netR l' k)) (hv : renV (sgf lo N ρ) l = some l') : RbRow lo N ρ h0 h1 3 (netR l k) := ⟨3, _, h3, hl, rfl, rfl, .inl (net_rb hv (mp_ren h))⟩
theorem ls_row {lo N : Nat} {ρ : Nat → Nat} {h0 h1 : Hp} {n m : Nat} {C D : List Value} (hn : fnN lo N ρ n = some m) (hl : lk h1 m = some (lsR D)) (e : D = C) (hx : Fl C) : RbRow lo N ρ h0 h1 n (lsR C) := rb_row hn hl rfl e hx
/-- 1, 2, .. -/
def ups (n : Nat) : List Int := (List.range n).map fun (j : Nat) => (j : Int) + 1
theorem ups_len (n : Nat) : (ups n).length = n := by simp [ups]
theorem ups_succ (n : Nat) : ups (n + 1) = ups n ++ [((n + 1 : Nat) : Int)] := by simp [ups, List.range_succ]
theorem ups_row (n : Nat) : pks (ups n) ++ pk ((n + 1 : Nat) : Int) = pks (ups (n + 1)) := by rw [ups_succ, pks_app]; simp [pks]
theorem l1n_loop {inr : Bool} {h0 : Hp} {A : Nat} (hA : A ≤ 40) (q : Nat) (HH : True) : ∀ (r i : Nat), i + r = A → 0 < i →
    LRuns inr Try.prog (l1B Try.prog) 4 80 h0 127 (l1S (A : Int) (.slice none 0 0) i) ((2, mpR) :: (3, netR (lsV 4 i) 0) :: (4, lsR (pks (ups i))) :: []) 5
      (.exit 0, [(1, (.slice none 0 0)), (5, .bool true), (6, .pointer (some ⟨3, 0, none⟩))], (2, mpR) :: (3, netR (lsV 4 A) 0) :: (4, lsR (pks (ups A))) :: [])
  | 0, i, hr, hi => by
      obtain rfl : i = A := by omega
      refine LRuns.exit (code_runs (netV_X _) netV_L (runZ_ok (netV_X _) (netV_T _) netV_L mixed 9) mixed (l1n_end inr (i : Int) i i (pks (ups i)) q) ?_) (by intro e; cases e) rfl (by omega) (by omega) (fun n => n) ?_ ?_ rfl
      · simp only [Alls, decide_eq_false_iff_not]
        exact ⟨by omega, trivial⟩
      · exact ⟨rfl, rfl, rfl, rfl, rfl, rb_ptr rfl, trivial⟩
      · exact ⟨mp_row rfl rfl, net_row rfl rfl rfl (rb_slg rfl rfl), ls_row (m := 4) rfl rfl rfl (pks_fl _), trivial⟩
  | r + 1, i, hr, hi => by
      have nx := l1n_loop (inr := inr) (h0 := h0) hA q HH r (i + 1) (by omega) (by omega)
      refine LRuns.step (code_runs (netV_X _) netV_L (runZ_ok (netV_X _) (netV_T _) netV_L mixed 9) mixed (l1n_more inr (A : Int) i i (pks (ups i)) q) ?_) rfl (by omega) (by omega) (fun _ => 12) ?_ ?_ rfl nx
      · have hl : (pks (ups i)).length = i * 19 := by rw [pks_len, ups_len]
        simp only [Alls, rg, decide_eq_true_eq, decide_eq_false_iff_not, hl]
        repeat' apply And.intro
        all_goals first | omega | (with_reducible assumption) | (with_reducible exact trivial) | (with_reducible rfl) | (skip)
      · exact ⟨rfl, rfl, rfl, rfl, rfl, rfl, rfl, rb_ptr rfl, rfl, rfl, trivial⟩
      · exact ⟨mp_row rfl rfl, net_row rfl rfl rfl (rb_slg rfl rfl), ls_row (m := 12) rfl rfl (ups_row i) (pks_fl _), trivial⟩
theorem l1n_all {inr : Bool} {h0 : Hp} {A : Nat} (hA : A ≤ 40) (h1 : 0 < A) (q : Nat) (HH : True) :
    LRuns inr Try.prog (l1B Try.prog) 4 80 h0 127 (l1S (A : Int) (.slice none 0 0) 0) ((2, mpR) :: (3, netR (.slice none 0 0) 0) :: []) 4
      (.exit 0, [(1, (.slice none 0 0)), (5, .bool true), (6, .pointer (some ⟨3, 0, none⟩))], (2, mpR) :: (3, netR (lsV 4 A) 0) :: (4, lsR (pks (ups A))) :: []) := by
  have nx := l1n_loop (inr := inr) (h0 := h0) hA q HH (A - 1) 1 (by omega) (by omega)
  refine LRuns.stepTo (N' := 5) (code_runs (netV_X _) netV_L (runZ_ok (netV_X _) (netV_T _) netV_L mixed 9) mixed (l1n_first inr (A : Int) q) ?_) rfl (by omega) (by omega) (by omega) (by omega) (fun _ => 11) ?_ ?_ rfl nx
  · simp only [Alls, rg, decide_eq_true_eq, decide_eq_false_iff_not]
    repeat' apply And.intro
    all_goals first | omega | (with_reducible assumption) | (with_reducible exact trivial) | (with_reducible rfl) | (skip)
  · exact ⟨rfl, rfl, rfl, rfl, rfl, rfl, rfl, rb_ptr rfl, rfl, rfl, trivial⟩
  · exact ⟨mp_row rfl rfl, net_row rfl rfl rfl (rb_slg rfl rfl), ls_row (m := 11) rfl rfl rfl (pks_fl _), trivial⟩
theorem l1s_loop {inr : Bool} {h0 : Hp} {A : Nat} (hA : A ≤ 40) (ts : List Value) (n c : Nat) (HH : Fl ts ∧ c ≤ 9223372036854775807) : ∀ (r i : Nat), i + r = A → 0 < i →
    LRuns inr Try.prog (l1B Try.prog) 4 80 h0 127 (l1S (A : Int) (tkV n c) i) ((2, mpR) :: (3, netR (lsV 4 i) 0) :: (4, lsR (pks (ups i))) :: [(1, ⟨.old, ts⟩)]) 5
      (.exit 0, [(1, (tkV n c)), (5, .bool true), (6, .pointer (some ⟨3, 0, none⟩))], (2, mpR) :: (3, netR (lsV 4 A) 0) :: (4, lsR (pks (ups A))) :: [(1, ⟨.old, ts⟩)])
  | 0, i, hr, hi => by
      obtain rfl : i = A := by omega
      refine LRuns.exit (code_runs (netV_X _) netV_L (runZ_ok (netV_X _) (netV_T _) netV_L mixed 9) mixed (l1s_end inr (i : Int) i i (pks (ups i)) ts n c) ?_) (by intro e; cases e) rfl (by omega) (by omega) (fun n => n) ?_ ?_ rfl
      · simp only [Alls, decide_eq_false_iff_not]
        exact ⟨by omega, trivial⟩
      · exact ⟨rfl, rb_slc rfl (by unfold capBig; omega), rfl, rfl, rfl, rb_ptr rfl, trivial⟩
      · exact ⟨mp_row rfl rfl, net_row rfl rfl rfl (rb_slg rfl rfl), ls_row (m := 4) rfl rfl rfl (pks_fl _), ⟨rb_old (by omega) rfl HH.1, trivial⟩⟩
  | r + 1, i, hr, hi => by
      have nx := l1s_loop (inr := inr) (h0 := h0) hA ts n c HH r (i + 1) (by omega) (by omega)
      refine LRuns.step (code_runs (netV_X _) netV_L (runZ_ok (netV_X _) (netV_T _) netV_L mixed 9) mixed (l1s_more inr (A : Int) i i (pks (ups i)) ts n c) ?_) rfl (by omega) (by omega) (fun _ => 12) ?_ ?_ rfl nx
      · have hl : (pks (ups i)).length = i * 19 := by rw [pks_len, ups_len]
        simp only [Alls, rg, decide_eq_true_eq, decide_eq_false_iff_not, hl]
        repeat' apply And.intro
        all_goals first | omega | (with_reducible assumption) | (with_reducible exact trivial) | (with_reducible rfl) | (skip)
      · exact ⟨rfl, rfl, rfl, rb_slc rfl (by unfold capBig; omega), rfl, rfl, rfl, rb_ptr rfl, rfl, rfl, trivial⟩
      · exact ⟨mp_row rfl rfl, net_row rfl rfl rfl (rb_slg rfl rfl), ls_row (m := 12) rfl rfl (ups_row i) (pks_fl _), ⟨rb_old (by omega) rfl HH.1, trivial⟩⟩
theorem l1s_all {inr : Bool} {h0 : Hp} {A : Nat} (hA : A ≤ 40) (h1 : 0 < A) (ts : List Value) (n c : Nat) (HH : Fl ts ∧ c ≤ 9223372036854775807) :
    LRuns inr Try.prog (l1B Try.prog) 4 80 h0 127 (l1S (A : Int) (tkV n c) 0) ((2, mpR) :: (3, netR (.slice none 0 0) 0) :: [(1, ⟨.old, ts⟩)]) 4
      (.exit 0, [(1, (tkV n c)), (5, .bool true), (6, .pointer (some ⟨3, 0, none⟩))], (2, mpR) :: (3, netR (lsV 4 A) 0) :: (4, lsR (pks (ups A))) :: [(1, ⟨.old, ts⟩)]) := by
  have nx := l1s_loop (inr := inr) (h0 := h0) hA ts n c HH (A - 1) 1 (by omega) (by omega)
  refine LRuns.stepTo (N' := 5) (code_runs (netV_X _) netV_L (runZ_ok (netV_X _) (netV_T _) netV_L mixed 9) mixed (l1s_first inr (A : Int) ts n c) ?_) rfl (by omega) (by omega) (by omega) (by omega) (fun _ => 11) ?_ ?_ rfl nx
  · simp only [Alls, rg, decide_eq_true_eq, decide_eq_false_iff_not]
    repeat' apply And.intro
    all_goals first | omega | (with_reducible assumption) | (with_reducible exact trivial) | (with_reducible rfl) | (skip)
  · exact ⟨rfl, rfl, rfl, rb_slc rfl (by unfold capBig; omega), rfl, rfl, rfl, rb_ptr rfl, rfl, rfl, trivial⟩
  · exact ⟨mp_row rfl rfl, net_row rfl rfl rfl (rb_slg rfl rfl), ls_row (m := 11) rfl rfl rfl (pks_fl _), ⟨rb_old (by omega) rfl HH.1, trivial⟩⟩
end Go.Proofs.Ytcahhoemlmbnaaa
