/-
  Chapter 14: the statement MergeParts: its loop as a spec; the law's runs (DRAFT).
-/
import Derived.Test.YtmoflcoijmmpjaaCtG
import Derived.Test.YtmoflcoijmmpjaaMergeKnownV
namespace Go.Proofs.Ytmoflcoijmmpjaa
set_option linter.unusedSimpArgs false
set_option linter.unusedVariables false
set_option linter.unusedSectionVars false
open Go Go.RowKit
structure MvSt (ds os : List DV) (n c M J : Nat) : Prop where
  B : MvOk ds (prsOf ds) n c M J
  o : os = osD (prsOf ds) M J
  J : 0 < J
structure MvA where
  n : Nat
  c : Nat
  M : Nat
  J : Nat
  ds : List DV
  os : List DV
def mvPk (live : List (Nat × Value)) (h : Hp) : Option MvA := match live, lk h 0, lk h 80 with
  | (_, .slice _ n c) :: (_, .int _ m) :: _ :: (_, .slice _ J _) :: _, some ⟨.sd ds, _⟩, some ⟨.dp _ _ os, _⟩ => some ⟨n, c, m.toNat, J, ds, os⟩
  | _, _, _ => none
def mvSp : LSpec := lspec mvPk (fun a => (mvS a.n a.c a.M a.J 0 nlV, mvH a.n a.c a.M a.J a.os a.ds, 400)) (fun a tp => some ((.exit 0, [(0, .slice (some ⟨0, 0, none⟩) a.n a.c), (5, .bool true), (8, alV a.n)], (420, ⟨.dp 3 zPr (cpD (prsOf a.ds)), []⟩) :: mvH a.n a.c a.M a.J a.os a.ds, 500, []), tp, [MvSt a.ds a.os a.n a.c a.M a.J]))
theorem kn_gok : GOk Try.prog 5 [] gTrueY := gTrueY_ok known_any
theorem mvSp_ok : LSOk Try.prog 74 [0, 1, 5, 6, 8, 9] (bodyIn Try.prog 8 9) mvSp := by
  refine lspec_ok fun a tp xt l2 h2 nx2 d tp' ob hs ho inr ts hn hg => ?_
  obtain ⟨n, c, M, J, ds, os⟩ := a
  simp only [Option.some.injEq, Prod.mk.injEq] at hs
  obtain ⟨⟨rfl, rfl, rfl, rfl, rfl⟩, rfl, rfl⟩ := hs
  obtain ⟨⟨hB, ho, hJ⟩, _⟩ := ho
  (try simp only at hB ho hJ hg)
  have hcc : c < capBig := by have := hB.C.hc; unfold capBig; omega
  have key := mv_loop (inr := inr) (h0 := mvH n c M J os ds) hB J 0 (by omega) hJ
  rw [← ho] at key
  refine LRuns.enter (N := 421) (l2 := mvS n c M J 0 nlV) (h2 := mvH n c M J os ds) hn hg (by decide) (by omega) (fun n => n) ?_ ?_ rfl key ?_
  · exact ⟨rfl, rb_slc rfl hcc, rfl, rfl, rfl, rfl, rfl, rb_slg rfl rfl, rfl, rfl, rfl, rfl, trivial⟩
  · exact ⟨dp_row (m := 80) rfl rfl, sh1_row (m := 4) rfl rfl rfl, sh1_row (m := 3) rfl rfl (rb_slc rfl hcc), sh1_row (m := 2) rfl rfl (rb_slg rfl rfl), sd_row (m := 0) rfl rfl, trivial⟩
  · refine tidy_of (by decide) (fun m hm hd => ?_) rfl
    have hm2 : m < 400 := hm
    show lk ((420, _) :: _) m = _
    rw [lk_cons, if_neg (by omega)]
end Go.Proofs.Ytmoflcoijmmpjaa
