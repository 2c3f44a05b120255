/-
  Chapter 14: Cut: its iterator as a spec.
-/
import Derived.Test.YtmoflcoijmmpjaaCtP
namespace Go.Proofs.Ytmoflcoijmmpjaa
set_option linter.unusedSimpArgs false
set_option linter.unusedVariables false
set_option linter.unusedSectionVars false
open Go Go.RowKit
structure CtSt (ds : List DV) (n c M : Nat) (b : Bool) : Prop where
  B : CtOk ds (prsOf ds) n c M
  z : decide (n = 0) = b
structure CtA where
  n : Nat
  c : Nat
  M : Nat
  ds : List DV
def ctPk (live : List (Nat × Value)) (h : Hp) : Option CtA := match lk h 0, lk h 3, lk h 4 with
  | some ⟨.sd ds, _⟩, some ⟨_, [.slice _ n c]⟩, some ⟨_, [.int _ m]⟩ => some ⟨n, c, m.toNat, ds⟩
  | _, _, _ => none
/-- How many parts. -/
def nPt (n M : Nat) : Nat := finJ n M n 0
def ctOut (P : Program) (ds : List DV) (n c M : Nat) (b : Bool) : Hp := bif b then ctG P n c M ds nlV else (80, ⟨.dp 1 zSl (osD (prsOf ds) M (nPt n M)), []⟩) :: ctG P n c M ds (ouV (nPt n M))
def ctSp (P : Program) : LSpec := lspec ctPk (fun a => (ctS 0, ctG P a.n a.c a.M a.ds nlV, 7)) (fun a tp => match tp with
  | b :: tp' => some ((.exit 0, [], ctOut P a.ds a.n a.c a.M b, 400, [2]), tp', [CtSt a.ds a.n a.c a.M b])
  | [] => none)
def ctLo (P : Program) : LFun := mkL 44 1 31 [0, 1, 2, 4] (bodyIn P 44 1) (ctSp P)
theorem ctH_pos (P : Program) (ps : List Pr) (n c M : Nat) (ds : List DV) : ∀ J, 0 < J → ctH P ps n c M ds J = (80, ⟨.dp 1 zSl (osD ps M J), []⟩) :: ctG P n c M ds (ouV J)
  | 0, h => by omega
  | J + 1, _ => rfl
theorem ctSp_ok : LSOk Try.prog 31 [0, 1, 2, 4] (bodyIn Try.prog 44 1) (ctSp Try.prog) := by
  refine lspec_ok fun a tp xt l2 h2 nx2 d tp' ob hs ho inr ts hn hg => ?_
  obtain ⟨n, c, M, ds⟩ := a
  simp only at hs hg
  split at hs
  case h_2 => cases hs
  rename_i b _
  simp only [Option.some.injEq, Prod.mk.injEq] at hs
  obtain ⟨⟨rfl, rfl, rfl, rfl, rfl⟩, rfl, rfl⟩ := hs
  obtain ⟨⟨hB, hz⟩, _⟩ := ho
  (try simp only at hB hz)
  have hcc : c < capBig := by have := hB.hc; unfold capBig; omega
  have key := ct_loop (inr := inr) (h0 := ctG Try.prog n c M ds nlV) hB n 0 (by omega)
  rw [Nat.zero_mul] at key
  have eH : ctH Try.prog (prsOf ds) n c M ds (finJ n M n 0) = ctOut Try.prog ds n c M b := by
    cases b with
    | true =>
      obtain rfl : n = 0 := of_decide_eq_true hz
      rfl
    | false =>
      have hne : n ≠ 0 := of_decide_eq_false hz
      have := finJ_ge n M hB.M1 n 0 (by omega)
      exact ctH_pos _ _ _ _ _ _ _ (by
        rcases Nat.eq_zero_or_pos (finJ n M n 0) with h | h
        · rw [h, Nat.zero_mul] at this; omega
        · exact h)
  rw [eH] at key
  refine LRuns.enter (N := 81) (l2 := ctS 0) (h2 := ctG Try.prog n c M ds nlV) hn hg (by decide) (by omega) (fun n => n) ?_ ?_ rfl key ?_
  · exact ⟨rfl, rfl, rfl, rb_ptr rfl, rfl, rb_ptr rfl, rfl, rfl, trivial⟩
  ·
    exact ⟨rb_rec (m := 6) rfl rfl (ctTm_ren (rb_slc rfl hcc) rfl rfl), rb_rec (m := 5) rfl rfl trivial, sh1_row (m := 4) rfl rfl rfl, sh1_row (m := 3) rfl rfl (rb_slc rfl hcc), sh1_row (m := 2) rfl rfl rfl, sd_row (m := 0) rfl rfl, trivial⟩
  · refine tidy_of (by decide) (fun m hm hd => ?_) (by cases b <;> rfl)
    have h4 : m ≠ 2 := fun e => hd (by simp [e])
    cases b with
    | true => rfl
    | false =>
      have hm2 : m < 7 := hm
      show lk ((80, _) :: _) m = _
      rw [lk_cons, if_neg (by omega)]
      simp only [ctG, lk_cons, if_neg (Ne.symm h4)]
theorem ctLo_one : LOne Try.prog (ctLo Try.prog) := mkL_ok ctSp_ok
end Go.Proofs.Ytmoflcoijmmpjaa
