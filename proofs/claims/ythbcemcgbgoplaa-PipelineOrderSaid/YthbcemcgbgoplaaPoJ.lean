/-
  Chapter 26: the statement PipelineOrder: the law's pushes and pops, any number of them (written by wip/tools/gen_poj.py).
-/
import Derived.Test.YthbcemcgbgoplaaPoI
namespace Go.Proofs.Ythbcemcgbgoplaa
set_option linter.unusedSimpArgs false
set_option linter.unusedVariables false
set_option linter.unusedSectionVars false
open Go Go.RowKit
theorem lwV_X (C' : List Value) (o : Int) (k : Nat) (L : LFun) : XOkZ (lwV C' o k L) Try.prog := noXz_ok rfl
theorem lwT_one (C' : List Value) (o : Int) (k : Nat) : TOneZ Try.prog (lwT C' o k) := orTz_ok (mkT_one aw_gok) (orTz_ok (mkT_one nw_gok) (orTz_ok (puT_one C') (orTz_ok (okT_one C') (orTz_ok (popT_one C' o) (orTz_ok (hdT_one k) (mkT_one en_gok))))))
theorem lwV_T (C' : List Value) (o : Int) (k : Nat) (L : LFun) : TOkZ (lwV C' o k L) Try.prog := T_okV rfl (lwT_one C' o k)
theorem lwV_L (C' : List Value) (o : Int) (k : Nat) : LOkZ (lwV C' o k noL) Try.prog := noL_okV rfl
/-! ### the sets, as the law has them -/
def hsL (S : Nat → Nat) (m : Nat) : List Value := (List.range m).map fun j => Value.int .i64 ((S j : Nat) : Int)
theorem hs_len (S : Nat → Nat) (m : Nat) : (hsL S m).length = m := by simp [hsL]
theorem hs_get (S : Nat → Nat) {m j : Nat} (h : j < m) : (hsL S m)[j]? = some (.int .i64 ((S j : Nat) : Int)) := by
  unfold hsL
  rw [List.getElem?_map, List.getElem?_range h]
  rfl
theorem hs_fl (S : Nat → Nat) (m : Nat) : Fl (hsL S m) := fun σ => by
  unfold hsL
  exact renL_id _ (fun _ => rfl) _
theorem hs_upd (S : Nat → Nat) {m j : Nat} (h : j < m) (s : Nat) : splice (hsL S m) j [.int .i64 (s : Int)] = hsL (upN S j s) m := by
  have hb : j + [Value.int .i64 (s : Int)].length ≤ (hsL S m).length := by rw [hs_len, len1]; omega
  apply List.ext_getElem?
  intro q
  by_cases hq : q < m
  · rw [hs_get _ hq]
    unfold upN
    by_cases e : q = j
    · subst e
      rw [spl_in hb (Nat.le_refl _) (by rw [len1]; omega), Nat.sub_self, if_pos rfl]
      rfl
    · rw [spl_out hb (by rw [len1]; omega), hs_get _ hq, if_neg e]
  · rw [List.getElem?_eq_none (by rw [splice_length, hs_len]; omega), List.getElem?_eq_none (by rw [hs_len]; omega)]
theorem one_shl : ∀ q : Nat, q < 7 → slI 1 (q : Int) = ((withN 0 q : Nat) : Int) ∧ rg .i64 (slI 1 (q : Int)) := by
  intro q hq
  rcases (by omega : q = 0 ∨ q = 1 ∨ q = 2 ∨ q = 3 ∨ q = 4 ∨ q = 5 ∨ q = 6) with rfl | rfl | rfl | rfl | rfl | rfl | rfl <;> exact ⟨by decide, by simp only [rg]; decide⟩
section
variable {F : Int} {N me m c d : Nat} {ns : List Value}
theorem p1_n (hm : m ≤ 16) (hF : 1 ≤ F ∧ F ≤ 1073741824) (hN : N = 3 ∨ N = 5 ∨ N = 7) (hme : me < N) : ∀ (rem i : Nat) (C : List Value) (S : Nat → Nat), i + rem = m → PlI C 0 i F S N me → (∀ j, j < m → S j < 128) →
    ∃ C' S', PlI C' 0 m F S' N me ∧ (∀ j, j < m → S' j < 128) ∧ ∀ inr h0, LRuns inr Try.prog (pB1 Try.prog) 7 40 h0 213 (p1S (N : Int) (me : Int) F m (.slice none 0 0) i) [(6, ⟨.shut, hsL S m⟩), (5, ⟨.shut, C⟩)] 7 (.exit 0, p1X (N : Int) F m (.slice none 0 0), [(6, ⟨.shut, hsL S' m⟩), (5, ⟨.shut, C'⟩)])
  | 0, i, C, S, hr, hI, hS => by
      obtain rfl : i = m := by omega
      refine ⟨C, S, hI, hS, fun inr h0 => ?_⟩
      refine LRuns.exit (code_runs (lwV_X _ _ _ _) (lwV_L _ _ _) (runZ_ok (lwV_X _ _ _ _) (lwV_T _ _ _ _) (lwV_L _ _ _) mixed 9) mixed (p1_ne inr (N : Int) (me : Int) F i i C (hsL S i) [] 0 0) ⟨decide_eq_false (by omega), trivial⟩) (by intro e; cases e) rfl (by omega) (by omega) (fun n => n) ?_ ?_ rfl
      · exact ⟨rfl, rfl, rfl, rfl, rfl, rfl, rfl, rfl, rfl, rfl, rfl, rb_ptr rfl, rfl, rb_slc rfl (by unfold capBig; omega), trivial⟩
      · exact ⟨rb_row rfl rfl rfl rfl (hs_fl _ _), rb_row rfl rfl rfl rfl hI.fl, trivial⟩
  | rem + 1, i, C, S, hr, hI, hS => by
      have hw : withN 0 me < 128 := wi_lt (by omega) (by omega)
      obtain ⟨s1, s2⟩ := one_shl me (by omega)
      have hp := hI.push (by omega) hw
      have hS' : ∀ j, j < m → upN S i (withN 0 me) j < 128 := fun j hj => by unfold upN; split; exact hw; exact hS j hj
      obtain ⟨C', S', g1, g2, g3⟩ := p1_n hm hF hN hme rem (i + 1) (puC C i F (withN 0 me)) (upN S i (withN 0 me)) (by omega) hp hS'
      refine ⟨C', S', g1, g2, fun inr h0 => ?_⟩
      refine LRuns.step (code_runs (lwV_X _ _ _ _) (lwV_L _ _ _) (runZ_ok (lwV_X _ _ _ _) (lwV_T _ _ _ _) (lwV_L _ _ _) mixed 9) mixed (p1_nr inr (N : Int) (me : Int) F m i C (hsL S m) (puC C i F (withN 0 me)) 0 0) ⟨decide_eq_true (by omega), by rw [adI_eq]; simp only [rg]; omega, by rw [adI_eq]; simp only [rg]; omega, ⟨i, F, S, N, me, hI, by omega, by rw [adI_eq]; rfl, rfl⟩, ⟨by omega, by omega, s2⟩, ⟨by omega, by omega⟩, by rw [hs_len]; omega, rgn (by omega), trivial⟩) rfl (by omega) (by omega) (fun n => n) ?_ ?_ rfl (g3 inr h0)
      · exact ⟨rfl, rfl, rfl, rfl, rfl, rfl, rfl, rfl, rfl, rfl, rfl, rfl, rfl, rb_ptr rfl, rfl, rb_slc rfl (by unfold capBig; omega), rfl, rfl, trivial⟩
      · exact ⟨rb_row rfl rfl rfl (by rw [s1]; exact hs_upd S (by omega) _) (hs_fl _ _), rb_row rfl rfl rfl rfl hp.fl, trivial⟩
theorem p1_s (hm : m ≤ 16) (hF : 1 ≤ F ∧ F ≤ 1073741824) (hN : N = 3 ∨ N = 5 ∨ N = 7) (hme : me < N) (hd : d ≤ 9223372036854775807) (hns : Fl ns) : ∀ (rem i : Nat) (C : List Value) (S : Nat → Nat), i + rem = m → PlI C 0 i F S N me → (∀ j, j < m → S j < 128) →
    ∃ C' S', PlI C' 0 m F S' N me ∧ (∀ j, j < m → S' j < 128) ∧ ∀ inr h0, LRuns inr Try.prog (pB1 Try.prog) 7 40 h0 213 (p1S (N : Int) (me : Int) F m (tV c d) i) [(6, ⟨.shut, hsL S m⟩), (5, ⟨.shut, C⟩), (4, ⟨.old, ns⟩)] 7 (.exit 0, p1X (N : Int) F m (tV c d), [(6, ⟨.shut, hsL S' m⟩), (5, ⟨.shut, C'⟩), (4, ⟨.old, ns⟩)])
  | 0, i, C, S, hr, hI, hS => by
      obtain rfl : i = m := by omega
      refine ⟨C, S, hI, hS, fun inr h0 => ?_⟩
      refine LRuns.exit (code_runs (lwV_X _ _ _ _) (lwV_L _ _ _) (runZ_ok (lwV_X _ _ _ _) (lwV_T _ _ _ _) (lwV_L _ _ _) mixed 9) mixed (p1_se inr (N : Int) (me : Int) F i i C (hsL S i) ns c d [] 0 0) ⟨decide_eq_false (by omega), trivial⟩) (by intro e; cases e) rfl (by omega) (by omega) (fun n => n) ?_ ?_ rfl
      · exact ⟨rfl, rfl, rfl, rfl, rfl, rfl, rfl, rb_slc rfl (by unfold capBig; omega), rfl, rfl, rfl, rb_ptr rfl, rfl, rb_slc rfl (by unfold capBig; omega), trivial⟩
      · exact ⟨rb_row rfl rfl rfl rfl (hs_fl _ _), rb_row rfl rfl rfl rfl hI.fl, rb_old (by omega) rfl hns, trivial⟩
  | rem + 1, i, C, S, hr, hI, hS => by
      have hw : withN 0 me < 128 := wi_lt (by omega) (by omega)
      obtain ⟨s1, s2⟩ := one_shl me (by omega)
      have hp := hI.push (by omega) hw
      have hS' : ∀ j, j < m → upN S i (withN 0 me) j < 128 := fun j hj => by unfold upN; split; exact hw; exact hS j hj
      obtain ⟨C', S', g1, g2, g3⟩ := p1_s hm hF hN hme hd hns rem (i + 1) (puC C i F (withN 0 me)) (upN S i (withN 0 me)) (by omega) hp hS'
      refine ⟨C', S', g1, g2, fun inr h0 => ?_⟩
      refine LRuns.step (code_runs (lwV_X _ _ _ _) (lwV_L _ _ _) (runZ_ok (lwV_X _ _ _ _) (lwV_T _ _ _ _) (lwV_L _ _ _) mixed 9) mixed (p1_sr inr (N : Int) (me : Int) F m i C (hsL S m) ns c d (puC C i F (withN 0 me)) 0 0) ⟨decide_eq_true (by omega), by rw [adI_eq]; simp only [rg]; omega, by rw [adI_eq]; simp only [rg]; omega, ⟨i, F, S, N, me, hI, by omega, by rw [adI_eq]; rfl, rfl⟩, ⟨by omega, by omega, s2⟩, ⟨by omega, by omega⟩, by rw [hs_len]; omega, rgn (by omega), trivial⟩) rfl (by omega) (by omega) (fun n => n) ?_ ?_ rfl (g3 inr h0)
      · exact ⟨rfl, rfl, rfl, rfl, rfl, rfl, rfl, rfl, rfl, rb_slc rfl (by unfold capBig; omega), rfl, rfl, rfl, rb_ptr rfl, rfl, rb_slc rfl (by unfold capBig; omega), rfl, rfl, trivial⟩
      · exact ⟨rb_row rfl rfl rfl (by rw [s1]; exact hs_upd S (by omega) _) (hs_fl _ _), rb_row rfl rfl rfl rfl hp.fl, rb_old (by omega) rfl hns, trivial⟩
theorem p3_all (hm : m ≤ 16) (hd : d ≤ 9223372036854775807) (hns : Fl ns) {i : Nat} : ∀ (rem a : Nat) (C : List Value) (S : Nat → Nat), a + rem = m → PlI C a rem F S N me →
    ∃ C' a', a' ≤ m ∧ PlI C' a' (m - a') F S N me ∧ (a' < m → fullN (S a') N = false) ∧ ∀ inr h0, LRuns inr Try.prog (pB3 Try.prog) 42 100 h0 213 (p2S (N : Int) F m c d a i) [(5, ⟨.shut, C⟩), (6, ⟨.shut, hsL S m⟩), (4, ⟨.old, ns⟩)] 42 (.exit 4, p2S (N : Int) F m c d a' i, [(5, ⟨.shut, C'⟩), (6, ⟨.shut, hsL S m⟩), (4, ⟨.old, ns⟩)])
  | 0, a, C, S, hr, hI => by
      obtain rfl : a = m := by omega
      refine ⟨C, a, Nat.le_refl a, by rw [Nat.sub_self]; exact hI, fun h => absurd h (Nat.lt_irrefl _), fun inr h0 => ?_⟩
      refine LRuns.exit (code_runs (lwV_X _ _ _ _) (lwV_L _ _ _) (runZ_ok (lwV_X _ _ _ _) (lwV_T _ _ _ _) (lwV_L _ _ _) mixed 9) mixed (p3_e1 inr (N : Int) F a c d a i C (hsL S a) ns [] 0 0) ⟨decide_eq_false (by omega), trivial⟩) (by intro e; cases e) rfl (by omega) (by omega) (fun n => n) ?_ ?_ rfl
      · exact ⟨rfl, rfl, rfl, rfl, rfl, rfl, rfl, rb_slc rfl (by unfold capBig; omega), rfl, rfl, rfl, rb_ptr rfl, rfl, rb_slc rfl (by unfold capBig; omega), rfl, rfl, rfl, rfl, trivial⟩
      · exact ⟨rb_row rfl rfl rfl rfl hI.fl, rb_row rfl rfl rfl rfl (hs_fl _ _), rb_old (by omega) rfl hns, trivial⟩
  | rem + 1, a, C, S, hr, hI => by
      have hs := hI.st a (Nat.le_refl a) (by omega)
      have hg := hs_get S (m := m) (j := a) (by omega)
      have hfr := hI.fr
      cases hf : fullN (S a) N with
      | false =>
        refine ⟨C, a, by omega, by rw [show m - a = rem + 1 by omega]; exact hI, fun _ => hf, fun inr h0 => ?_⟩
        refine LRuns.exit (code_runs (lwV_X _ _ _ _) (lwV_L _ _ _) (runZ_ok (lwV_X _ _ _ _) (lwV_T _ _ _ _) (lwV_L _ _ _) mixed 9) mixed (p3_e2 inr (N : Int) F m c d a i C (hsL S m) ns [] 0 0) ⟨decide_eq_true (by omega), ⟨by omega, by omega⟩, by rw [int_at hg]; exact hg, ⟨S a, N, int_at hg, rfl, hs, hI.nn, hf.symm⟩, trivial⟩) (by intro e; cases e) rfl (by omega) (by omega) (fun n => n) ?_ ?_ rfl
        · exact ⟨rfl, rfl, rfl, rfl, rfl, rfl, rfl, rb_slc rfl (by unfold capBig; omega), rfl, rfl, rfl, rb_ptr rfl, rfl, rb_slc rfl (by unfold capBig; omega), rfl, rfl, rfl, rfl, trivial⟩
        · exact ⟨rb_row rfl rfl rfl rfl hI.fl, rb_row rfl rfl rfl rfl (hs_fl _ _), rb_old (by omega) rfl hns, trivial⟩
      | true =>
        have hp := hI.pop
        obtain ⟨C', a', g0, g1, g2, g3⟩ := p3_all hm hd hns rem (a + 1) (poC C a rem) S (by omega) hp
        refine ⟨C', a', g0, g1, g2, fun inr h0 => ?_⟩
        refine LRuns.step (code_runs (lwV_X _ _ _ _) (lwV_L _ _ _) (runZ_ok (lwV_X _ _ _ _) (lwV_T _ _ _ _) (lwV_L _ _ _) mixed 9) mixed (p3_r inr (N : Int) F m c d a i C (hsL S m) ns (poC C a rem) (F + (a : Int)) 0) ⟨decide_eq_true (by omega), ⟨by omega, by omega⟩, by rw [int_at hg]; exact hg, ⟨S a, N, int_at hg, rfl, hs, hI.nn, hf.symm⟩, ⟨a, rem, F, S, N, me, hI, hf, rfl, rfl⟩, by rw [adI_eq]; simp only [rg]; omega, by rw [adI_eq]; simp only [bne_self_eq_false], rgn (by omega), trivial⟩) rfl (by omega) (by omega) (fun n => n) ?_ ?_ rfl (g3 inr h0)
        · exact ⟨rfl, rfl, rfl, rfl, rfl, rfl, rfl, rb_slc rfl (by unfold capBig; omega), rfl, rfl, rfl, rb_ptr rfl, rfl, rb_slc rfl (by unfold capBig; omega), rfl, rfl, rfl, rfl, trivial⟩
        · exact ⟨rb_row rfl rfl rfl rfl hp.fl, rb_row rfl rfl rfl rfl (hs_fl _ _), rb_old (by omega) rfl hns, trivial⟩
end
end Go.Proofs.Ythbcemcgbgoplaa
