/-
  Chapter 02: the statement RecordBack, its obligations (n).
-/
import Derived.Test.YtgpgdkpfeoaidaaRecUq
import Derived.Test.YtgpgdkpfeoaidaaRecX
namespace Go.Proofs.Ytgpgdkpfeoaidaa
set_option linter.unusedSimpArgs false
set_option linter.unusedVariables false
set_option linter.unusedSectionVars false
open Go Go.RowKit

set_option maxHeartbeats 1000000 in
theorem rk_nnn_t {ls ms xs : List Value} {n c m d b g : Nat} (L : RecsU ls n c) (M : RecsU ms m d) (X : XkF xs b g) (hl : n = 0) (hm : m = 0) (hb : b = 0) : RunsTrue Try.prog 7 [.slice none 0 0, .slice none 0 0, .slice none 0 0] [] 3 := by
  subst hl
  obtain rfl : ls = [] := List.length_eq_zero_iff.1 (by have := L.r.l; omega)
  subst hm
  obtain rfl : ms = [] := List.length_eq_zero_iff.1 (by have := M.r.l; omega)
  subst hb
  obtain rfl : xs = [] := List.length_eq_zero_iff.1 X.l
  have rL := L.r
  have fL := rL.f
  have lL := rL.l
  have tL : ([] : List Value).take (0 * 19) = [] := take_len lL
  have cL := L.c
  have aL : ArgV (.slice (some ⟨0, 0, none⟩) 0 c) := ArgV.sl (by omega) cL.2
  have bL : ArgV (.slice (some ⟨1, 0, none⟩) 0 c) := ArgV.sl (by omega) cL.2
  have rM := M.r
  have fM := rM.f
  have lM := rM.l
  have tM : ([] : List Value).take (0 * 19) = [] := take_len lM
  have cM := M.c
  have aM : ArgV (.slice (some ⟨0, 0, none⟩) 0 d) := ArgV.sl (by omega) cM.2
  have bM : ArgV (.slice (some ⟨1, 0, none⟩) 0 d) := ArgV.sl (by omega) cM.2
  have fX := fl_byts X.y
  have tX : ([] : List Value).take 0 = [] := take_len X.l
  have lX : 0 ≤ ([] : List Value).length := by have := X.l; omega
  have cX := X.c
  have aX : ArgV (.slice (some ⟨2, 0, none⟩) 0 g) := ArgV.sl (by omega) cX.2
  have sX := sam_of X.y
  have nX := ArgV.nil
  have r0 := recs_nil
  have f0 : Fl [] := Fl.of rfl
  have qB1 := bkE.b
  have tB := bkE.t
  have qC1 := bkE.b
  have tC := bkE.t
  refine run_val (rkV_X _ _ _ _ _ _ _ _ _ _ _ _) (rkV_T _ _ _ _ _ _ _ _ _ _ _ _) (rkV_L _ _ _ _ _ _ _ _ _ _ _ _) (rk_nnn [] [] 0 0 (fun _ => 0)) ?_ rfl
  repeat' (first | exact alls_nil | refine alls_cons ?_ ?_)
  all_goals (try simp only [avLen, Nat.zero_add, Nat.zero_mul, List.nil_append, tL, tM, tX, tB, tC])
  all_goals first | with_reducible assumption | with_reducible rfl | omega | exact RestB.z | (apply RestB.a; assumption) | (apply RestB.b; assumption) | (apply RestB.c <;> assumption) | (simp only [decide_eq_false_iff_not, decide_eq_true_eq, bne_iff_ne, ne_eq]; omega) | rfl
set_option maxHeartbeats 1000000 in
theorem rk_nnz_t {ls ms xs : List Value} {n c m d b g : Nat} (L : RecsU ls n c) (M : RecsU ms m d) (X : XkF xs b g) (hl : n = 0) (hm : m = 0) (hb : b ≠ 128 ∧ b ≤ 1024) : RunsTrue Try.prog 7 [.slice none 0 0, .slice none 0 0, .slice (some ⟨2, 0, none⟩) b g] [(2, ⟨.old, xs⟩)] 3 := by
  subst hl
  obtain rfl : ls = [] := List.length_eq_zero_iff.1 (by have := L.r.l; omega)
  subst hm
  obtain rfl : ms = [] := List.length_eq_zero_iff.1 (by have := M.r.l; omega)
  have rL := L.r
  have fL := rL.f
  have lL := rL.l
  have tL : ([] : List Value).take (0 * 19) = [] := take_len lL
  have cL := L.c
  have aL : ArgV (.slice (some ⟨0, 0, none⟩) 0 c) := ArgV.sl (by omega) cL.2
  have bL : ArgV (.slice (some ⟨1, 0, none⟩) 0 c) := ArgV.sl (by omega) cL.2
  have rM := M.r
  have fM := rM.f
  have lM := rM.l
  have tM : ([] : List Value).take (0 * 19) = [] := take_len lM
  have cM := M.c
  have aM : ArgV (.slice (some ⟨0, 0, none⟩) 0 d) := ArgV.sl (by omega) cM.2
  have bM : ArgV (.slice (some ⟨1, 0, none⟩) 0 d) := ArgV.sl (by omega) cM.2
  have fX := fl_byts X.y
  have tX : (xs : List Value).take b = xs := take_len X.l
  have lX : b ≤ (xs : List Value).length := by have := X.l; omega
  have cX := X.c
  have aX : ArgV (.slice (some ⟨2, 0, none⟩) b g) := ArgV.sl (by omega) cX.2
  have sX := sam_of X.y
  have nX := ArgV.nil
  have r0 := recs_nil
  have f0 : Fl [] := Fl.of rfl
  have qB1 := bkE.b
  have tB := bkE.t
  have qC1 := bkE.b
  have tC := bkE.t
  refine run_val (rkV_X _ _ _ _ _ _ _ _ _ _ _ _) (rkV_T _ _ _ _ _ _ _ _ _ _ _ _) (rkV_L _ _ _ _ _ _ _ _ _ _ _ _) (rk_nnz [] [] xs 0 0 b g (fun _ => 0)) ?_ rfl
  repeat' (first | exact alls_nil | refine alls_cons ?_ ?_)
  all_goals (try simp only [avLen, Nat.zero_add, Nat.zero_mul, List.nil_append, tL, tM, tX, tB, tC])
  all_goals first | with_reducible assumption | with_reducible rfl | omega | exact RestB.z | (apply RestB.a; assumption) | (apply RestB.b; assumption) | (apply RestB.c <;> assumption) | (simp only [decide_eq_false_iff_not, decide_eq_true_eq, bne_iff_ne, ne_eq]; omega) | rfl
set_option maxHeartbeats 1000000 in
theorem rk_nnk_t {ls ms xs : List Value} {n c m d b g : Nat} (L : RecsU ls n c) (M : RecsU ms m d) (X : XkF xs b g) (hl : n = 0) (hm : m = 0) (hb : b = 128) : RunsTrue Try.prog 7 [.slice none 0 0, .slice none 0 0, .slice (some ⟨2, 0, none⟩) 128 g] [(2, ⟨.old, xs⟩)] 3 := by
  subst hl
  obtain rfl : ls = [] := List.length_eq_zero_iff.1 (by have := L.r.l; omega)
  subst hm
  obtain rfl : ms = [] := List.length_eq_zero_iff.1 (by have := M.r.l; omega)
  subst hb
  have rL := L.r
  have fL := rL.f
  have lL := rL.l
  have tL : ([] : List Value).take (0 * 19) = [] := take_len lL
  have cL := L.c
  have aL : ArgV (.slice (some ⟨0, 0, none⟩) 0 c) := ArgV.sl (by omega) cL.2
  have bL : ArgV (.slice (some ⟨1, 0, none⟩) 0 c) := ArgV.sl (by omega) cL.2
  have rM := M.r
  have fM := rM.f
  have lM := rM.l
  have tM : ([] : List Value).take (0 * 19) = [] := take_len lM
  have cM := M.c
  have aM : ArgV (.slice (some ⟨0, 0, none⟩) 0 d) := ArgV.sl (by omega) cM.2
  have bM : ArgV (.slice (some ⟨1, 0, none⟩) 0 d) := ArgV.sl (by omega) cM.2
  have fX := fl_byts X.y
  have tX : (xs : List Value).take 128 = xs := take_len X.l
  have lX : 128 ≤ (xs : List Value).length := by have := X.l; omega
  have cX := X.c
  have aX : ArgV (.slice (some ⟨2, 0, none⟩) 128 g) := ArgV.sl (by omega) cX.2
  have sX := sam_of X.y
  have nX := ArgV.nil
  have r0 := recs_nil
  have f0 : Fl [] := Fl.of rfl
  have qB1 := bkE.b
  have tB := bkE.t
  have qC1 := bkE.b
  have tC := bkE.t
  obtain ⟨G, qG⟩ := rkG X.y X.l
  have qG1 := qG.g
  have qG2 := qG.i
  have qG3 := qG.w
  refine run_val (rkV_X _ _ _ _ _ _ _ _ _ _ _ _) (rkV_T _ _ _ _ _ _ _ _ _ _ _ _) (rkV_L _ _ _ _ _ _ _ _ _ _ _ _) (rk_nnk [] [] xs 0 0 g G) ?_ rfl
  repeat' (first | exact alls_nil | refine alls_cons ?_ ?_)
  all_goals (try simp only [avLen, Nat.zero_add, Nat.zero_mul, List.nil_append, tL, tM, tX, tB, tC])
  all_goals first | with_reducible assumption | with_reducible rfl | omega | exact RestB.z | (apply RestB.a; assumption) | (apply RestB.b; assumption) | (apply RestB.c <;> assumption) | (simp only [decide_eq_false_iff_not, decide_eq_true_eq, bne_iff_ne, ne_eq]; omega) | rfl
set_option maxHeartbeats 1000000 in
theorem rk_nen_t {ls ms xs : List Value} {n c m d b g : Nat} (L : RecsU ls n c) (M : RecsU ms m d) (X : XkF xs b g) (hl : n = 0) (hm : m = 0) (hb : b = 0) : RunsTrue Try.prog 7 [.slice none 0 0, .slice (some ⟨1, 0, none⟩) 0 d, .slice none 0 0] [(1, ⟨.old, ms⟩)] 3 := by
  subst hl
  obtain rfl : ls = [] := List.length_eq_zero_iff.1 (by have := L.r.l; omega)
  subst hm
  obtain rfl : ms = [] := List.length_eq_zero_iff.1 (by have := M.r.l; omega)
  subst hb
  obtain rfl : xs = [] := List.length_eq_zero_iff.1 X.l
  have rL := L.r
  have fL := rL.f
  have lL := rL.l
  have tL : ([] : List Value).take (0 * 19) = [] := take_len lL
  have cL := L.c
  have aL : ArgV (.slice (some ⟨0, 0, none⟩) 0 c) := ArgV.sl (by omega) cL.2
  have bL : ArgV (.slice (some ⟨1, 0, none⟩) 0 c) := ArgV.sl (by omega) cL.2
  have rM := M.r
  have fM := rM.f
  have lM := rM.l
  have tM : ([] : List Value).take (0 * 19) = [] := take_len lM
  have cM := M.c
  have aM : ArgV (.slice (some ⟨0, 0, none⟩) 0 d) := ArgV.sl (by omega) cM.2
  have bM : ArgV (.slice (some ⟨1, 0, none⟩) 0 d) := ArgV.sl (by omega) cM.2
  have fX := fl_byts X.y
  have tX : ([] : List Value).take 0 = [] := take_len X.l
  have lX : 0 ≤ ([] : List Value).length := by have := X.l; omega
  have cX := X.c
  have aX : ArgV (.slice (some ⟨2, 0, none⟩) 0 g) := ArgV.sl (by omega) cX.2
  have sX := sam_of X.y
  have nX := ArgV.nil
  have r0 := recs_nil
  have f0 : Fl [] := Fl.of rfl
  have qB1 := bkE.b
  have tB := bkE.t
  have qC1 := bkE.b
  have tC := bkE.t
  refine run_val (rkV_X _ _ _ _ _ _ _ _ _ _ _ _) (rkV_T _ _ _ _ _ _ _ _ _ _ _ _) (rkV_L _ _ _ _ _ _ _ _ _ _ _ _) (rk_nen [] [] [] 0 0 d (fun _ => 0)) ?_ rfl
  repeat' (first | exact alls_nil | refine alls_cons ?_ ?_)
  all_goals (try simp only [avLen, Nat.zero_add, Nat.zero_mul, List.nil_append, tL, tM, tX, tB, tC])
  all_goals first | with_reducible assumption | with_reducible rfl | omega | exact RestB.z | (apply RestB.a; assumption) | (apply RestB.b; assumption) | (apply RestB.c <;> assumption) | (simp only [decide_eq_false_iff_not, decide_eq_true_eq, bne_iff_ne, ne_eq]; omega) | rfl
set_option maxHeartbeats 1000000 in
theorem rk_nez_t {ls ms xs : List Value} {n c m d b g : Nat} (L : RecsU ls n c) (M : RecsU ms m d) (X : XkF xs b g) (hl : n = 0) (hm : m = 0) (hb : b ≠ 128 ∧ b ≤ 1024) : RunsTrue Try.prog 7 [.slice none 0 0, .slice (some ⟨1, 0, none⟩) 0 d, .slice (some ⟨2, 0, none⟩) b g] [(1, ⟨.old, ms⟩), (2, ⟨.old, xs⟩)] 3 := by
  subst hl
  obtain rfl : ls = [] := List.length_eq_zero_iff.1 (by have := L.r.l; omega)
  subst hm
  obtain rfl : ms = [] := List.length_eq_zero_iff.1 (by have := M.r.l; omega)
  have rL := L.r
  have fL := rL.f
  have lL := rL.l
  have tL : ([] : List Value).take (0 * 19) = [] := take_len lL
  have cL := L.c
  have aL : ArgV (.slice (some ⟨0, 0, none⟩) 0 c) := ArgV.sl (by omega) cL.2
  have bL : ArgV (.slice (some ⟨1, 0, none⟩) 0 c) := ArgV.sl (by omega) cL.2
  have rM := M.r
  have fM := rM.f
  have lM := rM.l
  have tM : ([] : List Value).take (0 * 19) = [] := take_len lM
  have cM := M.c
  have aM : ArgV (.slice (some ⟨0, 0, none⟩) 0 d) := ArgV.sl (by omega) cM.2
  have bM : ArgV (.slice (some ⟨1, 0, none⟩) 0 d) := ArgV.sl (by omega) cM.2
  have fX := fl_byts X.y
  have tX : (xs : List Value).take b = xs := take_len X.l
  have lX : b ≤ (xs : List Value).length := by have := X.l; omega
  have cX := X.c
  have aX : ArgV (.slice (some ⟨2, 0, none⟩) b g) := ArgV.sl (by omega) cX.2
  have sX := sam_of X.y
  have nX := ArgV.nil
  have r0 := recs_nil
  have f0 : Fl [] := Fl.of rfl
  have qB1 := bkE.b
  have tB := bkE.t
  have qC1 := bkE.b
  have tC := bkE.t
  refine run_val (rkV_X _ _ _ _ _ _ _ _ _ _ _ _) (rkV_T _ _ _ _ _ _ _ _ _ _ _ _) (rkV_L _ _ _ _ _ _ _ _ _ _ _ _) (rk_nez [] [] [] xs 0 0 d b g (fun _ => 0)) ?_ rfl
  repeat' (first | exact alls_nil | refine alls_cons ?_ ?_)
  all_goals (try simp only [avLen, Nat.zero_add, Nat.zero_mul, List.nil_append, tL, tM, tX, tB, tC])
  all_goals first | with_reducible assumption | with_reducible rfl | omega | exact RestB.z | (apply RestB.a; assumption) | (apply RestB.b; assumption) | (apply RestB.c <;> assumption) | (simp only [decide_eq_false_iff_not, decide_eq_true_eq, bne_iff_ne, ne_eq]; omega) | rfl
set_option maxHeartbeats 1000000 in
theorem rk_nek_t {ls ms xs : List Value} {n c m d b g : Nat} (L : RecsU ls n c) (M : RecsU ms m d) (X : XkF xs b g) (hl : n = 0) (hm : m = 0) (hb : b = 128) : RunsTrue Try.prog 7 [.slice none 0 0, .slice (some ⟨1, 0, none⟩) 0 d, .slice (some ⟨2, 0, none⟩) 128 g] [(1, ⟨.old, ms⟩), (2, ⟨.old, xs⟩)] 3 := by
  subst hl
  obtain rfl : ls = [] := List.length_eq_zero_iff.1 (by have := L.r.l; omega)
  subst hm
  obtain rfl : ms = [] := List.length_eq_zero_iff.1 (by have := M.r.l; omega)
  subst hb
  have rL := L.r
  have fL := rL.f
  have lL := rL.l
  have tL : ([] : List Value).take (0 * 19) = [] := take_len lL
  have cL := L.c
  have aL : ArgV (.slice (some ⟨0, 0, none⟩) 0 c) := ArgV.sl (by omega) cL.2
  have bL : ArgV (.slice (some ⟨1, 0, none⟩) 0 c) := ArgV.sl (by omega) cL.2
  have rM := M.r
  have fM := rM.f
  have lM := rM.l
  have tM : ([] : List Value).take (0 * 19) = [] := take_len lM
  have cM := M.c
  have aM : ArgV (.slice (some ⟨0, 0, none⟩) 0 d) := ArgV.sl (by omega) cM.2
  have bM : ArgV (.slice (some ⟨1, 0, none⟩) 0 d) := ArgV.sl (by omega) cM.2
  have fX := fl_byts X.y
  have tX : (xs : List Value).take 128 = xs := take_len X.l
  have lX : 128 ≤ (xs : List Value).length := by have := X.l; omega
  have cX := X.c
  have aX : ArgV (.slice (some ⟨2, 0, none⟩) 128 g) := ArgV.sl (by omega) cX.2
  have sX := sam_of X.y
  have nX := ArgV.nil
  have r0 := recs_nil
  have f0 : Fl [] := Fl.of rfl
  have qB1 := bkE.b
  have tB := bkE.t
  have qC1 := bkE.b
  have tC := bkE.t
  obtain ⟨G, qG⟩ := rkG X.y X.l
  have qG1 := qG.g
  have qG2 := qG.i
  have qG3 := qG.w
  refine run_val (rkV_X _ _ _ _ _ _ _ _ _ _ _ _) (rkV_T _ _ _ _ _ _ _ _ _ _ _ _) (rkV_L _ _ _ _ _ _ _ _ _ _ _ _) (rk_nek [] [] [] xs 0 0 d g G) ?_ rfl
  repeat' (first | exact alls_nil | refine alls_cons ?_ ?_)
  all_goals (try simp only [avLen, Nat.zero_add, Nat.zero_mul, List.nil_append, tL, tM, tX, tB, tC])
  all_goals first | with_reducible assumption | with_reducible rfl | omega | exact RestB.z | (apply RestB.a; assumption) | (apply RestB.b; assumption) | (apply RestB.c <;> assumption) | (simp only [decide_eq_false_iff_not, decide_eq_true_eq, bne_iff_ne, ne_eq]; omega) | rfl
set_option maxHeartbeats 1000000 in
theorem rk_non_t {ls ms xs : List Value} {n c m d b g : Nat} (L : RecsU ls n c) (M : RecsU ms m d) (X : XkF xs b g) (hl : n = 0) (hm : 0 < m ∧ m ≤ 8) (hb : b = 0) : RunsTrue Try.prog 7 [.slice none 0 0, .slice (some ⟨1, 0, none⟩) m d, .slice none 0 0] [(1, ⟨.old, ms⟩)] 3 := by
  subst hl
  obtain rfl : ls = [] := List.length_eq_zero_iff.1 (by have := L.r.l; omega)
  subst hb
  obtain rfl : xs = [] := List.length_eq_zero_iff.1 X.l
  have rL := L.r
  have fL := rL.f
  have lL := rL.l
  have tL : ([] : List Value).take (0 * 19) = [] := take_len lL
  have cL := L.c
  have aL : ArgV (.slice (some ⟨0, 0, none⟩) 0 c) := ArgV.sl (by omega) cL.2
  have bL : ArgV (.slice (some ⟨1, 0, none⟩) 0 c) := ArgV.sl (by omega) cL.2
  have rM := M.r
  have fM := rM.f
  have lM := rM.l
  have tM : (ms : List Value).take (m * 19) = ms := take_len lM
  have cM := M.c
  have aM : ArgV (.slice (some ⟨0, 0, none⟩) m d) := ArgV.sl (by omega) cM.2
  have bM : ArgV (.slice (some ⟨1, 0, none⟩) m d) := ArgV.sl (by omega) cM.2
  have fX := fl_byts X.y
  have tX : ([] : List Value).take 0 = [] := take_len X.l
  have lX : 0 ≤ ([] : List Value).length := by have := X.l; omega
  have cX := X.c
  have aX : ArgV (.slice (some ⟨2, 0, none⟩) 0 g) := ArgV.sl (by omega) cX.2
  have sX := sam_of X.y
  have nX := ArgV.nil
  have r0 := recs_nil
  have f0 : Fl [] := Fl.of rfl
  have qB1 := bkE.b
  have tB := bkE.t
  obtain ⟨C, M1, qC⟩ := bkO M hm
  have qC1 := qC.b
  have qC2 := qC.r
  have qC3 := qC.s
  have qC4 := qC.l
  have tC := qC.t
  have qC5 := qC.f
  refine run_val (rkV_X _ _ _ _ _ _ _ _ _ _ _ _) (rkV_T _ _ _ _ _ _ _ _ _ _ _ _) (rkV_L _ _ _ _ _ _ _ _ _ _ _ _) (rk_non [] C ms 0 M1 m d (fun _ => 0)) ?_ rfl
  repeat' (first | exact alls_nil | refine alls_cons ?_ ?_)
  all_goals (try simp only [avLen, Nat.zero_add, Nat.zero_mul, List.nil_append, tL, tM, tX, tB, tC])
  all_goals first | with_reducible assumption | with_reducible rfl | omega | exact RestB.z | (apply RestB.a; assumption) | (apply RestB.b; assumption) | (apply RestB.c <;> assumption) | (simp only [decide_eq_false_iff_not, decide_eq_true_eq, bne_iff_ne, ne_eq]; omega) | rfl
set_option maxHeartbeats 1000000 in
theorem rk_noz_t {ls ms xs : List Value} {n c m d b g : Nat} (L : RecsU ls n c) (M : RecsU ms m d) (X : XkF xs b g) (hl : n = 0) (hm : 0 < m ∧ m ≤ 8) (hb : b ≠ 128 ∧ b ≤ 1024) : RunsTrue Try.prog 7 [.slice none 0 0, .slice (some ⟨1, 0, none⟩) m d, .slice (some ⟨2, 0, none⟩) b g] [(1, ⟨.old, ms⟩), (2, ⟨.old, xs⟩)] 3 := by
  subst hl
  obtain rfl : ls = [] := List.length_eq_zero_iff.1 (by have := L.r.l; omega)
  have rL := L.r
  have fL := rL.f
  have lL := rL.l
  have tL : ([] : List Value).take (0 * 19) = [] := take_len lL
  have cL := L.c
  have aL : ArgV (.slice (some ⟨0, 0, none⟩) 0 c) := ArgV.sl (by omega) cL.2
  have bL : ArgV (.slice (some ⟨1, 0, none⟩) 0 c) := ArgV.sl (by omega) cL.2
  have rM := M.r
  have fM := rM.f
  have lM := rM.l
  have tM : (ms : List Value).take (m * 19) = ms := take_len lM
  have cM := M.c
  have aM : ArgV (.slice (some ⟨0, 0, none⟩) m d) := ArgV.sl (by omega) cM.2
  have bM : ArgV (.slice (some ⟨1, 0, none⟩) m d) := ArgV.sl (by omega) cM.2
  have fX := fl_byts X.y
  have tX : (xs : List Value).take b = xs := take_len X.l
  have lX : b ≤ (xs : List Value).length := by have := X.l; omega
  have cX := X.c
  have aX : ArgV (.slice (some ⟨2, 0, none⟩) b g) := ArgV.sl (by omega) cX.2
  have sX := sam_of X.y
  have nX := ArgV.nil
  have r0 := recs_nil
  have f0 : Fl [] := Fl.of rfl
  have qB1 := bkE.b
  have tB := bkE.t
  obtain ⟨C, M1, qC⟩ := bkO M hm
  have qC1 := qC.b
  have qC2 := qC.r
  have qC3 := qC.s
  have qC4 := qC.l
  have tC := qC.t
  have qC5 := qC.f
  refine run_val (rkV_X _ _ _ _ _ _ _ _ _ _ _ _) (rkV_T _ _ _ _ _ _ _ _ _ _ _ _) (rkV_L _ _ _ _ _ _ _ _ _ _ _ _) (rk_noz [] C ms xs 0 M1 m d b g (fun _ => 0)) ?_ rfl
  repeat' (first | exact alls_nil | refine alls_cons ?_ ?_)
  all_goals (try simp only [avLen, Nat.zero_add, Nat.zero_mul, List.nil_append, tL, tM, tX, tB, tC])
  all_goals first | with_reducible assumption | with_reducible rfl | omega | exact RestB.z | (apply RestB.a; assumption) | (apply RestB.b; assumption) | (apply RestB.c <;> assumption) | (simp only [decide_eq_false_iff_not, decide_eq_true_eq, bne_iff_ne, ne_eq]; omega) | rfl
set_option maxHeartbeats 1000000 in
theorem rk_nok_t {ls ms xs : List Value} {n c m d b g : Nat} (L : RecsU ls n c) (M : RecsU ms m d) (X : XkF xs b g) (hl : n = 0) (hm : 0 < m ∧ m ≤ 8) (hb : b = 128) : RunsTrue Try.prog 7 [.slice none 0 0, .slice (some ⟨1, 0, none⟩) m d, .slice (some ⟨2, 0, none⟩) 128 g] [(1, ⟨.old, ms⟩), (2, ⟨.old, xs⟩)] 3 := by
  subst hl
  obtain rfl : ls = [] := List.length_eq_zero_iff.1 (by have := L.r.l; omega)
  subst hb
  have rL := L.r
  have fL := rL.f
  have lL := rL.l
  have tL : ([] : List Value).take (0 * 19) = [] := take_len lL
  have cL := L.c
  have aL : ArgV (.slice (some ⟨0, 0, none⟩) 0 c) := ArgV.sl (by omega) cL.2
  have bL : ArgV (.slice (some ⟨1, 0, none⟩) 0 c) := ArgV.sl (by omega) cL.2
  have rM := M.r
  have fM := rM.f
  have lM := rM.l
  have tM : (ms : List Value).take (m * 19) = ms := take_len lM
  have cM := M.c
  have aM : ArgV (.slice (some ⟨0, 0, none⟩) m d) := ArgV.sl (by omega) cM.2
  have bM : ArgV (.slice (some ⟨1, 0, none⟩) m d) := ArgV.sl (by omega) cM.2
  have fX := fl_byts X.y
  have tX : (xs : List Value).take 128 = xs := take_len X.l
  have lX : 128 ≤ (xs : List Value).length := by have := X.l; omega
  have cX := X.c
  have aX : ArgV (.slice (some ⟨2, 0, none⟩) 128 g) := ArgV.sl (by omega) cX.2
  have sX := sam_of X.y
  have nX := ArgV.nil
  have r0 := recs_nil
  have f0 : Fl [] := Fl.of rfl
  have qB1 := bkE.b
  have tB := bkE.t
  obtain ⟨C, M1, qC⟩ := bkO M hm
  have qC1 := qC.b
  have qC2 := qC.r
  have qC3 := qC.s
  have qC4 := qC.l
  have tC := qC.t
  have qC5 := qC.f
  obtain ⟨G, qG⟩ := rkG X.y X.l
  have qG1 := qG.g
  have qG2 := qG.i
  have qG3 := qG.w
  refine run_val (rkV_X _ _ _ _ _ _ _ _ _ _ _ _) (rkV_T _ _ _ _ _ _ _ _ _ _ _ _) (rkV_L _ _ _ _ _ _ _ _ _ _ _ _) (rk_nok [] C ms xs 0 M1 m d g G) ?_ rfl
  repeat' (first | exact alls_nil | refine alls_cons ?_ ?_)
  all_goals (try simp only [avLen, Nat.zero_add, Nat.zero_mul, List.nil_append, tL, tM, tX, tB, tC])
  all_goals first | with_reducible assumption | with_reducible rfl | omega | exact RestB.z | (apply RestB.a; assumption) | (apply RestB.b; assumption) | (apply RestB.c <;> assumption) | (simp only [decide_eq_false_iff_not, decide_eq_true_eq, bne_iff_ne, ne_eq]; omega) | rfl
set_option maxHeartbeats 1000000 in
theorem rk_nxn_t {ls ms xs : List Value} {n c m d b g : Nat} (L : RecsU ls n c) (M : RecsU ms m d) (X : XkF xs b g) (hl : n = 0) (hm : 8 < m ∧ m ≤ 20) (hb : b = 0) : RunsTrue Try.prog 7 [.slice none 0 0, .slice (some ⟨1, 0, none⟩) m d, .slice none 0 0] [(1, ⟨.old, ms⟩)] 3 := by
  subst hl
  obtain rfl : ls = [] := List.length_eq_zero_iff.1 (by have := L.r.l; omega)
  subst hb
  obtain rfl : xs = [] := List.length_eq_zero_iff.1 X.l
  have rL := L.r
  have fL := rL.f
  have lL := rL.l
  have tL : ([] : List Value).take (0 * 19) = [] := take_len lL
  have cL := L.c
  have aL : ArgV (.slice (some ⟨0, 0, none⟩) 0 c) := ArgV.sl (by omega) cL.2
  have bL : ArgV (.slice (some ⟨1, 0, none⟩) 0 c) := ArgV.sl (by omega) cL.2
  have rM := M.r
  have fM := rM.f
  have lM := rM.l
  have tM : (ms : List Value).take (m * 19) = ms := take_len lM
  have cM := M.c
  have aM : ArgV (.slice (some ⟨0, 0, none⟩) m d) := ArgV.sl (by omega) cM.2
  have bM : ArgV (.slice (some ⟨1, 0, none⟩) m d) := ArgV.sl (by omega) cM.2
  have fX := fl_byts X.y
  have tX : ([] : List Value).take 0 = [] := take_len X.l
  have lX : 0 ≤ ([] : List Value).length := by have := X.l; omega
  have cX := X.c
  have aX : ArgV (.slice (some ⟨2, 0, none⟩) 0 g) := ArgV.sl (by omega) cX.2
  have sX := sam_of X.y
  have nX := ArgV.nil
  have r0 := recs_nil
  have f0 : Fl [] := Fl.of rfl
  have qB1 := bkE.b
  have tB := bkE.t
  have qC1 := bkE.b
  have tC := bkE.t
  refine run_val (rkV_X _ _ _ _ _ _ _ _ _ _ _ _) (rkV_T _ _ _ _ _ _ _ _ _ _ _ _) (rkV_L _ _ _ _ _ _ _ _ _ _ _ _) (rk_nxn [] [] ms 0 0 m d (fun _ => 0)) ?_ rfl
  repeat' (first | exact alls_nil | refine alls_cons ?_ ?_)
  all_goals (try simp only [avLen, Nat.zero_add, Nat.zero_mul, List.nil_append, tL, tM, tX, tB, tC])
  all_goals first | with_reducible assumption | with_reducible rfl | omega | exact RestB.z | (apply RestB.a; assumption) | (apply RestB.b; assumption) | (apply RestB.c <;> assumption) | (simp only [decide_eq_false_iff_not, decide_eq_true_eq, bne_iff_ne, ne_eq]; omega) | rfl
set_option maxHeartbeats 1000000 in
theorem rk_nxz_t {ls ms xs : List Value} {n c m d b g : Nat} (L : RecsU ls n c) (M : RecsU ms m d) (X : XkF xs b g) (hl : n = 0) (hm : 8 < m ∧ m ≤ 20) (hb : b ≠ 128 ∧ b ≤ 1024) : RunsTrue Try.prog 7 [.slice none 0 0, .slice (some ⟨1, 0, none⟩) m d, .slice (some ⟨2, 0, none⟩) b g] [(1, ⟨.old, ms⟩), (2, ⟨.old, xs⟩)] 3 := by
  subst hl
  obtain rfl : ls = [] := List.length_eq_zero_iff.1 (by have := L.r.l; omega)
  have rL := L.r
  have fL := rL.f
  have lL := rL.l
  have tL : ([] : List Value).take (0 * 19) = [] := take_len lL
  have cL := L.c
  have aL : ArgV (.slice (some ⟨0, 0, none⟩) 0 c) := ArgV.sl (by omega) cL.2
  have bL : ArgV (.slice (some ⟨1, 0, none⟩) 0 c) := ArgV.sl (by omega) cL.2
  have rM := M.r
  have fM := rM.f
  have lM := rM.l
  have tM : (ms : List Value).take (m * 19) = ms := take_len lM
  have cM := M.c
  have aM : ArgV (.slice (some ⟨0, 0, none⟩) m d) := ArgV.sl (by omega) cM.2
  have bM : ArgV (.slice (some ⟨1, 0, none⟩) m d) := ArgV.sl (by omega) cM.2
  have fX := fl_byts X.y
  have tX : (xs : List Value).take b = xs := take_len X.l
  have lX : b ≤ (xs : List Value).length := by have := X.l; omega
  have cX := X.c
  have aX : ArgV (.slice (some ⟨2, 0, none⟩) b g) := ArgV.sl (by omega) cX.2
  have sX := sam_of X.y
  have nX := ArgV.nil
  have r0 := recs_nil
  have f0 : Fl [] := Fl.of rfl
  have qB1 := bkE.b
  have tB := bkE.t
  have qC1 := bkE.b
  have tC := bkE.t
  refine run_val (rkV_X _ _ _ _ _ _ _ _ _ _ _ _) (rkV_T _ _ _ _ _ _ _ _ _ _ _ _) (rkV_L _ _ _ _ _ _ _ _ _ _ _ _) (rk_nxz [] [] ms xs 0 0 m d b g (fun _ => 0)) ?_ rfl
  repeat' (first | exact alls_nil | refine alls_cons ?_ ?_)
  all_goals (try simp only [avLen, Nat.zero_add, Nat.zero_mul, List.nil_append, tL, tM, tX, tB, tC])
  all_goals first | with_reducible assumption | with_reducible rfl | omega | exact RestB.z | (apply RestB.a; assumption) | (apply RestB.b; assumption) | (apply RestB.c <;> assumption) | (simp only [decide_eq_false_iff_not, decide_eq_true_eq, bne_iff_ne, ne_eq]; omega) | rfl
set_option maxHeartbeats 1000000 in
theorem rk_nxk_t {ls ms xs : List Value} {n c m d b g : Nat} (L : RecsU ls n c) (M : RecsU ms m d) (X : XkF xs b g) (hl : n = 0) (hm : 8 < m ∧ m ≤ 20) (hb : b = 128) : RunsTrue Try.prog 7 [.slice none 0 0, .slice (some ⟨1, 0, none⟩) m d, .slice (some ⟨2, 0, none⟩) 128 g] [(1, ⟨.old, ms⟩), (2, ⟨.old, xs⟩)] 3 := by
  subst hl
  obtain rfl : ls = [] := List.length_eq_zero_iff.1 (by have := L.r.l; omega)
  subst hb
  have rL := L.r
  have fL := rL.f
  have lL := rL.l
  have tL : ([] : List Value).take (0 * 19) = [] := take_len lL
  have cL := L.c
  have aL : ArgV (.slice (some ⟨0, 0, none⟩) 0 c) := ArgV.sl (by omega) cL.2
  have bL : ArgV (.slice (some ⟨1, 0, none⟩) 0 c) := ArgV.sl (by omega) cL.2
  have rM := M.r
  have fM := rM.f
  have lM := rM.l
  have tM : (ms : List Value).take (m * 19) = ms := take_len lM
  have cM := M.c
  have aM : ArgV (.slice (some ⟨0, 0, none⟩) m d) := ArgV.sl (by omega) cM.2
  have bM : ArgV (.slice (some ⟨1, 0, none⟩) m d) := ArgV.sl (by omega) cM.2
  have fX := fl_byts X.y
  have tX : (xs : List Value).take 128 = xs := take_len X.l
  have lX : 128 ≤ (xs : List Value).length := by have := X.l; omega
  have cX := X.c
  have aX : ArgV (.slice (some ⟨2, 0, none⟩) 128 g) := ArgV.sl (by omega) cX.2
  have sX := sam_of X.y
  have nX := ArgV.nil
  have r0 := recs_nil
  have f0 : Fl [] := Fl.of rfl
  have qB1 := bkE.b
  have tB := bkE.t
  have qC1 := bkE.b
  have tC := bkE.t
  obtain ⟨G, qG⟩ := rkG X.y X.l
  have qG1 := qG.g
  have qG2 := qG.i
  have qG3 := qG.w
  refine run_val (rkV_X _ _ _ _ _ _ _ _ _ _ _ _) (rkV_T _ _ _ _ _ _ _ _ _ _ _ _) (rkV_L _ _ _ _ _ _ _ _ _ _ _ _) (rk_nxk [] [] ms xs 0 0 m d g G) ?_ rfl
  repeat' (first | exact alls_nil | refine alls_cons ?_ ?_)
  all_goals (try simp only [avLen, Nat.zero_add, Nat.zero_mul, List.nil_append, tL, tM, tX, tB, tC])
  all_goals first | with_reducible assumption | with_reducible rfl | omega | exact RestB.z | (apply RestB.a; assumption) | (apply RestB.b; assumption) | (apply RestB.c <;> assumption) | (simp only [decide_eq_false_iff_not, decide_eq_true_eq, bne_iff_ne, ne_eq]; omega) | rfl
end Go.Proofs.Ytgpgdkpfeoaidaa
/-
  Chapter 02: the statement RecordBack, its obligations (e).
-/
namespace Go.Proofs.Ytgpgdkpfeoaidaa
set_option linter.unusedSimpArgs false
set_option linter.unusedVariables false
set_option linter.unusedSectionVars false
open Go Go.RowKit

set_option maxHeartbeats 1000000 in
theorem rk_enn_t {ls ms xs : List Value} {n c m d b g : Nat} (L : RecsU ls n c) (M : RecsU ms m d) (X : XkF xs b g) (hl : n = 0) (hm : m = 0) (hb : b = 0) : RunsTrue Try.prog 7 [.slice (some ⟨0, 0, none⟩) 0 c, .slice none 0 0, .slice none 0 0] [(0, ⟨.old, ls⟩)] 3 := by
  subst hl
  obtain rfl : ls = [] := List.length_eq_zero_iff.1 (by have := L.r.l; omega)
  subst hm
  obtain rfl : ms = [] := List.length_eq_zero_iff.1 (by have := M.r.l; omega)
  subst hb
  obtain rfl : xs = [] := List.length_eq_zero_iff.1 X.l
  have rL := L.r
  have fL := rL.f
  have lL := rL.l
  have tL : ([] : List Value).take (0 * 19) = [] := take_len lL
  have cL := L.c
  have aL : ArgV (.slice (some ⟨0, 0, none⟩) 0 c) := ArgV.sl (by omega) cL.2
  have bL : ArgV (.slice (some ⟨1, 0, none⟩) 0 c) := ArgV.sl (by omega) cL.2
  have rM := M.r
  have fM := rM.f
  have lM := rM.l
  have tM : ([] : List Value).take (0 * 19) = [] := take_len lM
  have cM := M.c
  have aM : ArgV (.slice (some ⟨0, 0, none⟩) 0 d) := ArgV.sl (by omega) cM.2
  have bM : ArgV (.slice (some ⟨1, 0, none⟩) 0 d) := ArgV.sl (by omega) cM.2
  have fX := fl_byts X.y
  have tX : ([] : List Value).take 0 = [] := take_len X.l
  have lX : 0 ≤ ([] : List Value).length := by have := X.l; omega
  have cX := X.c
  have aX : ArgV (.slice (some ⟨2, 0, none⟩) 0 g) := ArgV.sl (by omega) cX.2
  have sX := sam_of X.y
  have nX := ArgV.nil
  have r0 := recs_nil
  have f0 : Fl [] := Fl.of rfl
  have qB1 := bkE.b
  have tB := bkE.t
  have qC1 := bkE.b
  have tC := bkE.t
  refine run_val (rkV_X _ _ _ _ _ _ _ _ _ _ _ _) (rkV_T _ _ _ _ _ _ _ _ _ _ _ _) (rkV_L _ _ _ _ _ _ _ _ _ _ _ _) (rk_enn [] [] [] 0 0 c (fun _ => 0)) ?_ rfl
  repeat' (first | exact alls_nil | refine alls_cons ?_ ?_)
  all_goals (try simp only [avLen, Nat.zero_add, Nat.zero_mul, List.nil_append, tL, tM, tX, tB, tC])
  all_goals first | with_reducible assumption | with_reducible rfl | omega | exact RestB.z | (apply RestB.a; assumption) | (apply RestB.b; assumption) | (apply RestB.c <;> assumption) | (simp only [decide_eq_false_iff_not, decide_eq_true_eq, bne_iff_ne, ne_eq]; omega) | rfl
set_option maxHeartbeats 1000000 in
theorem rk_enz_t {ls ms xs : List Value} {n c m d b g : Nat} (L : RecsU ls n c) (M : RecsU ms m d) (X : XkF xs b g) (hl : n = 0) (hm : m = 0) (hb : b ≠ 128 ∧ b ≤ 1024) : RunsTrue Try.prog 7 [.slice (some ⟨0, 0, none⟩) 0 c, .slice none 0 0, .slice (some ⟨2, 0, none⟩) b g] [(0, ⟨.old, ls⟩), (2, ⟨.old, xs⟩)] 3 := by
  subst hl
  obtain rfl : ls = [] := List.length_eq_zero_iff.1 (by have := L.r.l; omega)
  subst hm
  obtain rfl : ms = [] := List.length_eq_zero_iff.1 (by have := M.r.l; omega)
  have rL := L.r
  have fL := rL.f
  have lL := rL.l
  have tL : ([] : List Value).take (0 * 19) = [] := take_len lL
  have cL := L.c
  have aL : ArgV (.slice (some ⟨0, 0, none⟩) 0 c) := ArgV.sl (by omega) cL.2
  have bL : ArgV (.slice (some ⟨1, 0, none⟩) 0 c) := ArgV.sl (by omega) cL.2
  have rM := M.r
  have fM := rM.f
  have lM := rM.l
  have tM : ([] : List Value).take (0 * 19) = [] := take_len lM
  have cM := M.c
  have aM : ArgV (.slice (some ⟨0, 0, none⟩) 0 d) := ArgV.sl (by omega) cM.2
  have bM : ArgV (.slice (some ⟨1, 0, none⟩) 0 d) := ArgV.sl (by omega) cM.2
  have fX := fl_byts X.y
  have tX : (xs : List Value).take b = xs := take_len X.l
  have lX : b ≤ (xs : List Value).length := by have := X.l; omega
  have cX := X.c
  have aX : ArgV (.slice (some ⟨2, 0, none⟩) b g) := ArgV.sl (by omega) cX.2
  have sX := sam_of X.y
  have nX := ArgV.nil
  have r0 := recs_nil
  have f0 : Fl [] := Fl.of rfl
  have qB1 := bkE.b
  have tB := bkE.t
  have qC1 := bkE.b
  have tC := bkE.t
  refine run_val (rkV_X _ _ _ _ _ _ _ _ _ _ _ _) (rkV_T _ _ _ _ _ _ _ _ _ _ _ _) (rkV_L _ _ _ _ _ _ _ _ _ _ _ _) (rk_enz [] [] [] xs 0 0 c b g (fun _ => 0)) ?_ rfl
  repeat' (first | exact alls_nil | refine alls_cons ?_ ?_)
  all_goals (try simp only [avLen, Nat.zero_add, Nat.zero_mul, List.nil_append, tL, tM, tX, tB, tC])
  all_goals first | with_reducible assumption | with_reducible rfl | omega | exact RestB.z | (apply RestB.a; assumption) | (apply RestB.b; assumption) | (apply RestB.c <;> assumption) | (simp only [decide_eq_false_iff_not, decide_eq_true_eq, bne_iff_ne, ne_eq]; omega) | rfl
set_option maxHeartbeats 1000000 in
theorem rk_enk_t {ls ms xs : List Value} {n c m d b g : Nat} (L : RecsU ls n c) (M : RecsU ms m d) (X : XkF xs b g) (hl : n = 0) (hm : m = 0) (hb : b = 128) : RunsTrue Try.prog 7 [.slice (some ⟨0, 0, none⟩) 0 c, .slice none 0 0, .slice (some ⟨2, 0, none⟩) 128 g] [(0, ⟨.old, ls⟩), (2, ⟨.old, xs⟩)] 3 := by
  subst hl
  obtain rfl : ls = [] := List.length_eq_zero_iff.1 (by have := L.r.l; omega)
  subst hm
  obtain rfl : ms = [] := List.length_eq_zero_iff.1 (by have := M.r.l; omega)
  subst hb
  have rL := L.r
  have fL := rL.f
  have lL := rL.l
  have tL : ([] : List Value).take (0 * 19) = [] := take_len lL
  have cL := L.c
  have aL : ArgV (.slice (some ⟨0, 0, none⟩) 0 c) := ArgV.sl (by omega) cL.2
  have bL : ArgV (.slice (some ⟨1, 0, none⟩) 0 c) := ArgV.sl (by omega) cL.2
  have rM := M.r
  have fM := rM.f
  have lM := rM.l
  have tM : ([] : List Value).take (0 * 19) = [] := take_len lM
  have cM := M.c
  have aM : ArgV (.slice (some ⟨0, 0, none⟩) 0 d) := ArgV.sl (by omega) cM.2
  have bM : ArgV (.slice (some ⟨1, 0, none⟩) 0 d) := ArgV.sl (by omega) cM.2
  have fX := fl_byts X.y
  have tX : (xs : List Value).take 128 = xs := take_len X.l
  have lX : 128 ≤ (xs : List Value).length := by have := X.l; omega
  have cX := X.c
  have aX : ArgV (.slice (some ⟨2, 0, none⟩) 128 g) := ArgV.sl (by omega) cX.2
  have sX := sam_of X.y
  have nX := ArgV.nil
  have r0 := recs_nil
  have f0 : Fl [] := Fl.of rfl
  have qB1 := bkE.b
  have tB := bkE.t
  have qC1 := bkE.b
  have tC := bkE.t
  obtain ⟨G, qG⟩ := rkG X.y X.l
  have qG1 := qG.g
  have qG2 := qG.i
  have qG3 := qG.w
  refine run_val (rkV_X _ _ _ _ _ _ _ _ _ _ _ _) (rkV_T _ _ _ _ _ _ _ _ _ _ _ _) (rkV_L _ _ _ _ _ _ _ _ _ _ _ _) (rk_enk [] [] [] xs 0 0 c g G) ?_ rfl
  repeat' (first | exact alls_nil | refine alls_cons ?_ ?_)
  all_goals (try simp only [avLen, Nat.zero_add, Nat.zero_mul, List.nil_append, tL, tM, tX, tB, tC])
  all_goals first | with_reducible assumption | with_reducible rfl | omega | exact RestB.z | (apply RestB.a; assumption) | (apply RestB.b; assumption) | (apply RestB.c <;> assumption) | (simp only [decide_eq_false_iff_not, decide_eq_true_eq, bne_iff_ne, ne_eq]; omega) | rfl
set_option maxHeartbeats 1000000 in
theorem rk_een_t {ls ms xs : List Value} {n c m d b g : Nat} (L : RecsU ls n c) (M : RecsU ms m d) (X : XkF xs b g) (hl : n = 0) (hm : m = 0) (hb : b = 0) : RunsTrue Try.prog 7 [.slice (some ⟨0, 0, none⟩) 0 c, .slice (some ⟨1, 0, none⟩) 0 d, .slice none 0 0] [(0, ⟨.old, ls⟩), (1, ⟨.old, ms⟩)] 3 := by
  subst hl
  obtain rfl : ls = [] := List.length_eq_zero_iff.1 (by have := L.r.l; omega)
  subst hm
  obtain rfl : ms = [] := List.length_eq_zero_iff.1 (by have := M.r.l; omega)
  subst hb
  obtain rfl : xs = [] := List.length_eq_zero_iff.1 X.l
  have rL := L.r
  have fL := rL.f
  have lL := rL.l
  have tL : ([] : List Value).take (0 * 19) = [] := take_len lL
  have cL := L.c
  have aL : ArgV (.slice (some ⟨0, 0, none⟩) 0 c) := ArgV.sl (by omega) cL.2
  have bL : ArgV (.slice (some ⟨1, 0, none⟩) 0 c) := ArgV.sl (by omega) cL.2
  have rM := M.r
  have fM := rM.f
  have lM := rM.l
  have tM : ([] : List Value).take (0 * 19) = [] := take_len lM
  have cM := M.c
  have aM : ArgV (.slice (some ⟨0, 0, none⟩) 0 d) := ArgV.sl (by omega) cM.2
  have bM : ArgV (.slice (some ⟨1, 0, none⟩) 0 d) := ArgV.sl (by omega) cM.2
  have fX := fl_byts X.y
  have tX : ([] : List Value).take 0 = [] := take_len X.l
  have lX : 0 ≤ ([] : List Value).length := by have := X.l; omega
  have cX := X.c
  have aX : ArgV (.slice (some ⟨2, 0, none⟩) 0 g) := ArgV.sl (by omega) cX.2
  have sX := sam_of X.y
  have nX := ArgV.nil
  have r0 := recs_nil
  have f0 : Fl [] := Fl.of rfl
  have qB1 := bkE.b
  have tB := bkE.t
  have qC1 := bkE.b
  have tC := bkE.t
  refine run_val (rkV_X _ _ _ _ _ _ _ _ _ _ _ _) (rkV_T _ _ _ _ _ _ _ _ _ _ _ _) (rkV_L _ _ _ _ _ _ _ _ _ _ _ _) (rk_een [] [] [] [] 0 0 c d (fun _ => 0)) ?_ rfl
  repeat' (first | exact alls_nil | refine alls_cons ?_ ?_)
  all_goals (try simp only [avLen, Nat.zero_add, Nat.zero_mul, List.nil_append, tL, tM, tX, tB, tC])
  all_goals first | with_reducible assumption | with_reducible rfl | omega | exact RestB.z | (apply RestB.a; assumption) | (apply RestB.b; assumption) | (apply RestB.c <;> assumption) | (simp only [decide_eq_false_iff_not, decide_eq_true_eq, bne_iff_ne, ne_eq]; omega) | rfl
set_option maxHeartbeats 1000000 in
theorem rk_eez_t {ls ms xs : List Value} {n c m d b g : Nat} (L : RecsU ls n c) (M : RecsU ms m d) (X : XkF xs b g) (hl : n = 0) (hm : m = 0) (hb : b ≠ 128 ∧ b ≤ 1024) : RunsTrue Try.prog 7 [.slice (some ⟨0, 0, none⟩) 0 c, .slice (some ⟨1, 0, none⟩) 0 d, .slice (some ⟨2, 0, none⟩) b g] [(0, ⟨.old, ls⟩), (1, ⟨.old, ms⟩), (2, ⟨.old, xs⟩)] 3 := by
  subst hl
  obtain rfl : ls = [] := List.length_eq_zero_iff.1 (by have := L.r.l; omega)
  subst hm
  obtain rfl : ms = [] := List.length_eq_zero_iff.1 (by have := M.r.l; omega)
  have rL := L.r
  have fL := rL.f
  have lL := rL.l
  have tL : ([] : List Value).take (0 * 19) = [] := take_len lL
  have cL := L.c
  have aL : ArgV (.slice (some ⟨0, 0, none⟩) 0 c) := ArgV.sl (by omega) cL.2
  have bL : ArgV (.slice (some ⟨1, 0, none⟩) 0 c) := ArgV.sl (by omega) cL.2
  have rM := M.r
  have fM := rM.f
  have lM := rM.l
  have tM : ([] : List Value).take (0 * 19) = [] := take_len lM
  have cM := M.c
  have aM : ArgV (.slice (some ⟨0, 0, none⟩) 0 d) := ArgV.sl (by omega) cM.2
  have bM : ArgV (.slice (some ⟨1, 0, none⟩) 0 d) := ArgV.sl (by omega) cM.2
  have fX := fl_byts X.y
  have tX : (xs : List Value).take b = xs := take_len X.l
  have lX : b ≤ (xs : List Value).length := by have := X.l; omega
  have cX := X.c
  have aX : ArgV (.slice (some ⟨2, 0, none⟩) b g) := ArgV.sl (by omega) cX.2
  have sX := sam_of X.y
  have nX := ArgV.nil
  have r0 := recs_nil
  have f0 : Fl [] := Fl.of rfl
  have qB1 := bkE.b
  have tB := bkE.t
  have qC1 := bkE.b
  have tC := bkE.t
  refine run_val (rkV_X _ _ _ _ _ _ _ _ _ _ _ _) (rkV_T _ _ _ _ _ _ _ _ _ _ _ _) (rkV_L _ _ _ _ _ _ _ _ _ _ _ _) (rk_eez [] [] [] [] xs 0 0 c d b g (fun _ => 0)) ?_ rfl
  repeat' (first | exact alls_nil | refine alls_cons ?_ ?_)
  all_goals (try simp only [avLen, Nat.zero_add, Nat.zero_mul, List.nil_append, tL, tM, tX, tB, tC])
  all_goals first | with_reducible assumption | with_reducible rfl | omega | exact RestB.z | (apply RestB.a; assumption) | (apply RestB.b; assumption) | (apply RestB.c <;> assumption) | (simp only [decide_eq_false_iff_not, decide_eq_true_eq, bne_iff_ne, ne_eq]; omega) | rfl
set_option maxHeartbeats 1000000 in
theorem rk_eek_t {ls ms xs : List Value} {n c m d b g : Nat} (L : RecsU ls n c) (M : RecsU ms m d) (X : XkF xs b g) (hl : n = 0) (hm : m = 0) (hb : b = 128) : RunsTrue Try.prog 7 [.slice (some ⟨0, 0, none⟩) 0 c, .slice (some ⟨1, 0, none⟩) 0 d, .slice (some ⟨2, 0, none⟩) 128 g] [(0, ⟨.old, ls⟩), (1, ⟨.old, ms⟩), (2, ⟨.old, xs⟩)] 3 := by
  subst hl
  obtain rfl : ls = [] := List.length_eq_zero_iff.1 (by have := L.r.l; omega)
  subst hm
  obtain rfl : ms = [] := List.length_eq_zero_iff.1 (by have := M.r.l; omega)
  subst hb
  have rL := L.r
  have fL := rL.f
  have lL := rL.l
  have tL : ([] : List Value).take (0 * 19) = [] := take_len lL
  have cL := L.c
  have aL : ArgV (.slice (some ⟨0, 0, none⟩) 0 c) := ArgV.sl (by omega) cL.2
  have bL : ArgV (.slice (some ⟨1, 0, none⟩) 0 c) := ArgV.sl (by omega) cL.2
  have rM := M.r
  have fM := rM.f
  have lM := rM.l
  have tM : ([] : List Value).take (0 * 19) = [] := take_len lM
  have cM := M.c
  have aM : ArgV (.slice (some ⟨0, 0, none⟩) 0 d) := ArgV.sl (by omega) cM.2
  have bM : ArgV (.slice (some ⟨1, 0, none⟩) 0 d) := ArgV.sl (by omega) cM.2
  have fX := fl_byts X.y
  have tX : (xs : List Value).take 128 = xs := take_len X.l
  have lX : 128 ≤ (xs : List Value).length := by have := X.l; omega
  have cX := X.c
  have aX : ArgV (.slice (some ⟨2, 0, none⟩) 128 g) := ArgV.sl (by omega) cX.2
  have sX := sam_of X.y
  have nX := ArgV.nil
  have r0 := recs_nil
  have f0 : Fl [] := Fl.of rfl
  have qB1 := bkE.b
  have tB := bkE.t
  have qC1 := bkE.b
  have tC := bkE.t
  obtain ⟨G, qG⟩ := rkG X.y X.l
  have qG1 := qG.g
  have qG2 := qG.i
  have qG3 := qG.w
  refine run_val (rkV_X _ _ _ _ _ _ _ _ _ _ _ _) (rkV_T _ _ _ _ _ _ _ _ _ _ _ _) (rkV_L _ _ _ _ _ _ _ _ _ _ _ _) (rk_eek [] [] [] [] xs 0 0 c d g G) ?_ rfl
  repeat' (first | exact alls_nil | refine alls_cons ?_ ?_)
  all_goals (try simp only [avLen, Nat.zero_add, Nat.zero_mul, List.nil_append, tL, tM, tX, tB, tC])
  all_goals first | with_reducible assumption | with_reducible rfl | omega | exact RestB.z | (apply RestB.a; assumption) | (apply RestB.b; assumption) | (apply RestB.c <;> assumption) | (simp only [decide_eq_false_iff_not, decide_eq_true_eq, bne_iff_ne, ne_eq]; omega) | rfl
set_option maxHeartbeats 1000000 in
theorem rk_eon_t {ls ms xs : List Value} {n c m d b g : Nat} (L : RecsU ls n c) (M : RecsU ms m d) (X : XkF xs b g) (hl : n = 0) (hm : 0 < m ∧ m ≤ 8) (hb : b = 0) : RunsTrue Try.prog 7 [.slice (some ⟨0, 0, none⟩) 0 c, .slice (some ⟨1, 0, none⟩) m d, .slice none 0 0] [(0, ⟨.old, ls⟩), (1, ⟨.old, ms⟩)] 3 := by
  subst hl
  obtain rfl : ls = [] := List.length_eq_zero_iff.1 (by have := L.r.l; omega)
  subst hb
  obtain rfl : xs = [] := List.length_eq_zero_iff.1 X.l
  have rL := L.r
  have fL := rL.f
  have lL := rL.l
  have tL : ([] : List Value).take (0 * 19) = [] := take_len lL
  have cL := L.c
  have aL : ArgV (.slice (some ⟨0, 0, none⟩) 0 c) := ArgV.sl (by omega) cL.2
  have bL : ArgV (.slice (some ⟨1, 0, none⟩) 0 c) := ArgV.sl (by omega) cL.2
  have rM := M.r
  have fM := rM.f
  have lM := rM.l
  have tM : (ms : List Value).take (m * 19) = ms := take_len lM
  have cM := M.c
  have aM : ArgV (.slice (some ⟨0, 0, none⟩) m d) := ArgV.sl (by omega) cM.2
  have bM : ArgV (.slice (some ⟨1, 0, none⟩) m d) := ArgV.sl (by omega) cM.2
  have fX := fl_byts X.y
  have tX : ([] : List Value).take 0 = [] := take_len X.l
  have lX : 0 ≤ ([] : List Value).length := by have := X.l; omega
  have cX := X.c
  have aX : ArgV (.slice (some ⟨2, 0, none⟩) 0 g) := ArgV.sl (by omega) cX.2
  have sX := sam_of X.y
  have nX := ArgV.nil
  have r0 := recs_nil
  have f0 : Fl [] := Fl.of rfl
  have qB1 := bkE.b
  have tB := bkE.t
  obtain ⟨C, M1, qC⟩ := bkO M hm
  have qC1 := qC.b
  have qC2 := qC.r
  have qC3 := qC.s
  have qC4 := qC.l
  have tC := qC.t
  have qC5 := qC.f
  refine run_val (rkV_X _ _ _ _ _ _ _ _ _ _ _ _) (rkV_T _ _ _ _ _ _ _ _ _ _ _ _) (rkV_L _ _ _ _ _ _ _ _ _ _ _ _) (rk_eon [] C [] ms 0 M1 c m d (fun _ => 0)) ?_ rfl
  repeat' (first | exact alls_nil | refine alls_cons ?_ ?_)
  all_goals (try simp only [avLen, Nat.zero_add, Nat.zero_mul, List.nil_append, tL, tM, tX, tB, tC])
  all_goals first | with_reducible assumption | with_reducible rfl | omega | exact RestB.z | (apply RestB.a; assumption) | (apply RestB.b; assumption) | (apply RestB.c <;> assumption) | (simp only [decide_eq_false_iff_not, decide_eq_true_eq, bne_iff_ne, ne_eq]; omega) | rfl
set_option maxHeartbeats 1000000 in
theorem rk_eoz_t {ls ms xs : List Value} {n c m d b g : Nat} (L : RecsU ls n c) (M : RecsU ms m d) (X : XkF xs b g) (hl : n = 0) (hm : 0 < m ∧ m ≤ 8) (hb : b ≠ 128 ∧ b ≤ 1024) : RunsTrue Try.prog 7 [.slice (some ⟨0, 0, none⟩) 0 c, .slice (some ⟨1, 0, none⟩) m d, .slice (some ⟨2, 0, none⟩) b g] [(0, ⟨.old, ls⟩), (1, ⟨.old, ms⟩), (2, ⟨.old, xs⟩)] 3 := by
  subst hl
  obtain rfl : ls = [] := List.length_eq_zero_iff.1 (by have := L.r.l; omega)
  have rL := L.r
  have fL := rL.f
  have lL := rL.l
  have tL : ([] : List Value).take (0 * 19) = [] := take_len lL
  have cL := L.c
  have aL : ArgV (.slice (some ⟨0, 0, none⟩) 0 c) := ArgV.sl (by omega) cL.2
  have bL : ArgV (.slice (some ⟨1, 0, none⟩) 0 c) := ArgV.sl (by omega) cL.2
  have rM := M.r
  have fM := rM.f
  have lM := rM.l
  have tM : (ms : List Value).take (m * 19) = ms := take_len lM
  have cM := M.c
  have aM : ArgV (.slice (some ⟨0, 0, none⟩) m d) := ArgV.sl (by omega) cM.2
  have bM : ArgV (.slice (some ⟨1, 0, none⟩) m d) := ArgV.sl (by omega) cM.2
  have fX := fl_byts X.y
  have tX : (xs : List Value).take b = xs := take_len X.l
  have lX : b ≤ (xs : List Value).length := by have := X.l; omega
  have cX := X.c
  have aX : ArgV (.slice (some ⟨2, 0, none⟩) b g) := ArgV.sl (by omega) cX.2
  have sX := sam_of X.y
  have nX := ArgV.nil
  have r0 := recs_nil
  have f0 : Fl [] := Fl.of rfl
  have qB1 := bkE.b
  have tB := bkE.t
  obtain ⟨C, M1, qC⟩ := bkO M hm
  have qC1 := qC.b
  have qC2 := qC.r
  have qC3 := qC.s
  have qC4 := qC.l
  have tC := qC.t
  have qC5 := qC.f
  refine run_val (rkV_X _ _ _ _ _ _ _ _ _ _ _ _) (rkV_T _ _ _ _ _ _ _ _ _ _ _ _) (rkV_L _ _ _ _ _ _ _ _ _ _ _ _) (rk_eoz [] C [] ms xs 0 M1 c m d b g (fun _ => 0)) ?_ rfl
  repeat' (first | exact alls_nil | refine alls_cons ?_ ?_)
  all_goals (try simp only [avLen, Nat.zero_add, Nat.zero_mul, List.nil_append, tL, tM, tX, tB, tC])
  all_goals first | with_reducible assumption | with_reducible rfl | omega | exact RestB.z | (apply RestB.a; assumption) | (apply RestB.b; assumption) | (apply RestB.c <;> assumption) | (simp only [decide_eq_false_iff_not, decide_eq_true_eq, bne_iff_ne, ne_eq]; omega) | rfl
set_option maxHeartbeats 1000000 in
theorem rk_eok_t {ls ms xs : List Value} {n c m d b g : Nat} (L : RecsU ls n c) (M : RecsU ms m d) (X : XkF xs b g) (hl : n = 0) (hm : 0 < m ∧ m ≤ 8) (hb : b = 128) : RunsTrue Try.prog 7 [.slice (some ⟨0, 0, none⟩) 0 c, .slice (some ⟨1, 0, none⟩) m d, .slice (some ⟨2, 0, none⟩) 128 g] [(0, ⟨.old, ls⟩), (1, ⟨.old, ms⟩), (2, ⟨.old, xs⟩)] 3 := by
  subst hl
  obtain rfl : ls = [] := List.length_eq_zero_iff.1 (by have := L.r.l; omega)
  subst hb
  have rL := L.r
  have fL := rL.f
  have lL := rL.l
  have tL : ([] : List Value).take (0 * 19) = [] := take_len lL
  have cL := L.c
  have aL : ArgV (.slice (some ⟨0, 0, none⟩) 0 c) := ArgV.sl (by omega) cL.2
  have bL : ArgV (.slice (some ⟨1, 0, none⟩) 0 c) := ArgV.sl (by omega) cL.2
  have rM := M.r
  have fM := rM.f
  have lM := rM.l
  have tM : (ms : List Value).take (m * 19) = ms := take_len lM
  have cM := M.c
  have aM : ArgV (.slice (some ⟨0, 0, none⟩) m d) := ArgV.sl (by omega) cM.2
  have bM : ArgV (.slice (some ⟨1, 0, none⟩) m d) := ArgV.sl (by omega) cM.2
  have fX := fl_byts X.y
  have tX : (xs : List Value).take 128 = xs := take_len X.l
  have lX : 128 ≤ (xs : List Value).length := by have := X.l; omega
  have cX := X.c
  have aX : ArgV (.slice (some ⟨2, 0, none⟩) 128 g) := ArgV.sl (by omega) cX.2
  have sX := sam_of X.y
  have nX := ArgV.nil
  have r0 := recs_nil
  have f0 : Fl [] := Fl.of rfl
  have qB1 := bkE.b
  have tB := bkE.t
  obtain ⟨C, M1, qC⟩ := bkO M hm
  have qC1 := qC.b
  have qC2 := qC.r
  have qC3 := qC.s
  have qC4 := qC.l
  have tC := qC.t
  have qC5 := qC.f
  obtain ⟨G, qG⟩ := rkG X.y X.l
  have qG1 := qG.g
  have qG2 := qG.i
  have qG3 := qG.w
  refine run_val (rkV_X _ _ _ _ _ _ _ _ _ _ _ _) (rkV_T _ _ _ _ _ _ _ _ _ _ _ _) (rkV_L _ _ _ _ _ _ _ _ _ _ _ _) (rk_eok [] C [] ms xs 0 M1 c m d g G) ?_ rfl
  repeat' (first | exact alls_nil | refine alls_cons ?_ ?_)
  all_goals (try simp only [avLen, Nat.zero_add, Nat.zero_mul, List.nil_append, tL, tM, tX, tB, tC])
  all_goals first | with_reducible assumption | with_reducible rfl | omega | exact RestB.z | (apply RestB.a; assumption) | (apply RestB.b; assumption) | (apply RestB.c <;> assumption) | (simp only [decide_eq_false_iff_not, decide_eq_true_eq, bne_iff_ne, ne_eq]; omega) | rfl
set_option maxHeartbeats 1000000 in
theorem rk_exn_t {ls ms xs : List Value} {n c m d b g : Nat} (L : RecsU ls n c) (M : RecsU ms m d) (X : XkF xs b g) (hl : n = 0) (hm : 8 < m ∧ m ≤ 20) (hb : b = 0) : RunsTrue Try.prog 7 [.slice (some ⟨0, 0, none⟩) 0 c, .slice (some ⟨1, 0, none⟩) m d, .slice none 0 0] [(0, ⟨.old, ls⟩), (1, ⟨.old, ms⟩)] 3 := by
  subst hl
  obtain rfl : ls = [] := List.length_eq_zero_iff.1 (by have := L.r.l; omega)
  subst hb
  obtain rfl : xs = [] := List.length_eq_zero_iff.1 X.l
  have rL := L.r
  have fL := rL.f
  have lL := rL.l
  have tL : ([] : List Value).take (0 * 19) = [] := take_len lL
  have cL := L.c
  have aL : ArgV (.slice (some ⟨0, 0, none⟩) 0 c) := ArgV.sl (by omega) cL.2
  have bL : ArgV (.slice (some ⟨1, 0, none⟩) 0 c) := ArgV.sl (by omega) cL.2
  have rM := M.r
  have fM := rM.f
  have lM := rM.l
  have tM : (ms : List Value).take (m * 19) = ms := take_len lM
  have cM := M.c
  have aM : ArgV (.slice (some ⟨0, 0, none⟩) m d) := ArgV.sl (by omega) cM.2
  have bM : ArgV (.slice (some ⟨1, 0, none⟩) m d) := ArgV.sl (by omega) cM.2
  have fX := fl_byts X.y
  have tX : ([] : List Value).take 0 = [] := take_len X.l
  have lX : 0 ≤ ([] : List Value).length := by have := X.l; omega
  have cX := X.c
  have aX : ArgV (.slice (some ⟨2, 0, none⟩) 0 g) := ArgV.sl (by omega) cX.2
  have sX := sam_of X.y
  have nX := ArgV.nil
  have r0 := recs_nil
  have f0 : Fl [] := Fl.of rfl
  have qB1 := bkE.b
  have tB := bkE.t
  have qC1 := bkE.b
  have tC := bkE.t
  refine run_val (rkV_X _ _ _ _ _ _ _ _ _ _ _ _) (rkV_T _ _ _ _ _ _ _ _ _ _ _ _) (rkV_L _ _ _ _ _ _ _ _ _ _ _ _) (rk_exn [] [] [] ms 0 0 c m d (fun _ => 0)) ?_ rfl
  repeat' (first | exact alls_nil | refine alls_cons ?_ ?_)
  all_goals (try simp only [avLen, Nat.zero_add, Nat.zero_mul, List.nil_append, tL, tM, tX, tB, tC])
  all_goals first | with_reducible assumption | with_reducible rfl | omega | exact RestB.z | (apply RestB.a; assumption) | (apply RestB.b; assumption) | (apply RestB.c <;> assumption) | (simp only [decide_eq_false_iff_not, decide_eq_true_eq, bne_iff_ne, ne_eq]; omega) | rfl
set_option maxHeartbeats 1000000 in
theorem rk_exz_t {ls ms xs : List Value} {n c m d b g : Nat} (L : RecsU ls n c) (M : RecsU ms m d) (X : XkF xs b g) (hl : n = 0) (hm : 8 < m ∧ m ≤ 20) (hb : b ≠ 128 ∧ b ≤ 1024) : RunsTrue Try.prog 7 [.slice (some ⟨0, 0, none⟩) 0 c, .slice (some ⟨1, 0, none⟩) m d, .slice (some ⟨2, 0, none⟩) b g] [(0, ⟨.old, ls⟩), (1, ⟨.old, ms⟩), (2, ⟨.old, xs⟩)] 3 := by
  subst hl
  obtain rfl : ls = [] := List.length_eq_zero_iff.1 (by have := L.r.l; omega)
  have rL := L.r
  have fL := rL.f
  have lL := rL.l
  have tL : ([] : List Value).take (0 * 19) = [] := take_len lL
  have cL := L.c
  have aL : ArgV (.slice (some ⟨0, 0, none⟩) 0 c) := ArgV.sl (by omega) cL.2
  have bL : ArgV (.slice (some ⟨1, 0, none⟩) 0 c) := ArgV.sl (by omega) cL.2
  have rM := M.r
  have fM := rM.f
  have lM := rM.l
  have tM : (ms : List Value).take (m * 19) = ms := take_len lM
  have cM := M.c
  have aM : ArgV (.slice (some ⟨0, 0, none⟩) m d) := ArgV.sl (by omega) cM.2
  have bM : ArgV (.slice (some ⟨1, 0, none⟩) m d) := ArgV.sl (by omega) cM.2
  have fX := fl_byts X.y
  have tX : (xs : List Value).take b = xs := take_len X.l
  have lX : b ≤ (xs : List Value).length := by have := X.l; omega
  have cX := X.c
  have aX : ArgV (.slice (some ⟨2, 0, none⟩) b g) := ArgV.sl (by omega) cX.2
  have sX := sam_of X.y
  have nX := ArgV.nil
  have r0 := recs_nil
  have f0 : Fl [] := Fl.of rfl
  have qB1 := bkE.b
  have tB := bkE.t
  have qC1 := bkE.b
  have tC := bkE.t
  refine run_val (rkV_X _ _ _ _ _ _ _ _ _ _ _ _) (rkV_T _ _ _ _ _ _ _ _ _ _ _ _) (rkV_L _ _ _ _ _ _ _ _ _ _ _ _) (rk_exz [] [] [] ms xs 0 0 c m d b g (fun _ => 0)) ?_ rfl
  repeat' (first | exact alls_nil | refine alls_cons ?_ ?_)
  all_goals (try simp only [avLen, Nat.zero_add, Nat.zero_mul, List.nil_append, tL, tM, tX, tB, tC])
  all_goals first | with_reducible assumption | with_reducible rfl | omega | exact RestB.z | (apply RestB.a; assumption) | (apply RestB.b; assumption) | (apply RestB.c <;> assumption) | (simp only [decide_eq_false_iff_not, decide_eq_true_eq, bne_iff_ne, ne_eq]; omega) | rfl
set_option maxHeartbeats 1000000 in
theorem rk_exk_t {ls ms xs : List Value} {n c m d b g : Nat} (L : RecsU ls n c) (M : RecsU ms m d) (X : XkF xs b g) (hl : n = 0) (hm : 8 < m ∧ m ≤ 20) (hb : b = 128) : RunsTrue Try.prog 7 [.slice (some ⟨0, 0, none⟩) 0 c, .slice (some ⟨1, 0, none⟩) m d, .slice (some ⟨2, 0, none⟩) 128 g] [(0, ⟨.old, ls⟩), (1, ⟨.old, ms⟩), (2, ⟨.old, xs⟩)] 3 := by
  subst hl
  obtain rfl : ls = [] := List.length_eq_zero_iff.1 (by have := L.r.l; omega)
  subst hb
  have rL := L.r
  have fL := rL.f
  have lL := rL.l
  have tL : ([] : List Value).take (0 * 19) = [] := take_len lL
  have cL := L.c
  have aL : ArgV (.slice (some ⟨0, 0, none⟩) 0 c) := ArgV.sl (by omega) cL.2
  have bL : ArgV (.slice (some ⟨1, 0, none⟩) 0 c) := ArgV.sl (by omega) cL.2
  have rM := M.r
  have fM := rM.f
  have lM := rM.l
  have tM : (ms : List Value).take (m * 19) = ms := take_len lM
  have cM := M.c
  have aM : ArgV (.slice (some ⟨0, 0, none⟩) m d) := ArgV.sl (by omega) cM.2
  have bM : ArgV (.slice (some ⟨1, 0, none⟩) m d) := ArgV.sl (by omega) cM.2
  have fX := fl_byts X.y
  have tX : (xs : List Value).take 128 = xs := take_len X.l
  have lX : 128 ≤ (xs : List Value).length := by have := X.l; omega
  have cX := X.c
  have aX : ArgV (.slice (some ⟨2, 0, none⟩) 128 g) := ArgV.sl (by omega) cX.2
  have sX := sam_of X.y
  have nX := ArgV.nil
  have r0 := recs_nil
  have f0 : Fl [] := Fl.of rfl
  have qB1 := bkE.b
  have tB := bkE.t
  have qC1 := bkE.b
  have tC := bkE.t
  obtain ⟨G, qG⟩ := rkG X.y X.l
  have qG1 := qG.g
  have qG2 := qG.i
  have qG3 := qG.w
  refine run_val (rkV_X _ _ _ _ _ _ _ _ _ _ _ _) (rkV_T _ _ _ _ _ _ _ _ _ _ _ _) (rkV_L _ _ _ _ _ _ _ _ _ _ _ _) (rk_exk [] [] [] ms xs 0 0 c m d g G) ?_ rfl
  repeat' (first | exact alls_nil | refine alls_cons ?_ ?_)
  all_goals (try simp only [avLen, Nat.zero_add, Nat.zero_mul, List.nil_append, tL, tM, tX, tB, tC])
  all_goals first | with_reducible assumption | with_reducible rfl | omega | exact RestB.z | (apply RestB.a; assumption) | (apply RestB.b; assumption) | (apply RestB.c <;> assumption) | (simp only [decide_eq_false_iff_not, decide_eq_true_eq, bne_iff_ne, ne_eq]; omega) | rfl
end Go.Proofs.Ytgpgdkpfeoaidaa
/-
  Chapter 02: the statement RecordBack, its obligations (o).
-/
namespace Go.Proofs.Ytgpgdkpfeoaidaa
set_option linter.unusedSimpArgs false
set_option linter.unusedVariables false
set_option linter.unusedSectionVars false
open Go Go.RowKit

set_option maxHeartbeats 1000000 in
theorem rk_onn_t {ls ms xs : List Value} {n c m d b g : Nat} (L : RecsU ls n c) (M : RecsU ms m d) (X : XkF xs b g) (hl : 0 < n ∧ n ≤ 8) (hm : m = 0) (hb : b = 0) : RunsTrue Try.prog 7 [.slice (some ⟨0, 0, none⟩) n c, .slice none 0 0, .slice none 0 0] [(0, ⟨.old, ls⟩)] 3 := by
  subst hm
  obtain rfl : ms = [] := List.length_eq_zero_iff.1 (by have := M.r.l; omega)
  subst hb
  obtain rfl : xs = [] := List.length_eq_zero_iff.1 X.l
  have rL := L.r
  have fL := rL.f
  have lL := rL.l
  have tL : (ls : List Value).take (n * 19) = ls := take_len lL
  have cL := L.c
  have aL : ArgV (.slice (some ⟨0, 0, none⟩) n c) := ArgV.sl (by omega) cL.2
  have bL : ArgV (.slice (some ⟨1, 0, none⟩) n c) := ArgV.sl (by omega) cL.2
  have rM := M.r
  have fM := rM.f
  have lM := rM.l
  have tM : ([] : List Value).take (0 * 19) = [] := take_len lM
  have cM := M.c
  have aM : ArgV (.slice (some ⟨0, 0, none⟩) 0 d) := ArgV.sl (by omega) cM.2
  have bM : ArgV (.slice (some ⟨1, 0, none⟩) 0 d) := ArgV.sl (by omega) cM.2
  have fX := fl_byts X.y
  have tX : ([] : List Value).take 0 = [] := take_len X.l
  have lX : 0 ≤ ([] : List Value).length := by have := X.l; omega
  have cX := X.c
  have aX : ArgV (.slice (some ⟨2, 0, none⟩) 0 g) := ArgV.sl (by omega) cX.2
  have sX := sam_of X.y
  have nX := ArgV.nil
  have r0 := recs_nil
  have f0 : Fl [] := Fl.of rfl
  obtain ⟨B, N, qB⟩ := bkO L hl
  have qB1 := qB.b
  have qB2 := qB.r
  have qB3 := qB.s
  have qB4 := qB.l
  have tB := qB.t
  have qB5 := qB.f
  have qC1 := bkE.b
  have tC := bkE.t
  refine run_val (rkV_X _ _ _ _ _ _ _ _ _ _ _ _) (rkV_T _ _ _ _ _ _ _ _ _ _ _ _) (rkV_L _ _ _ _ _ _ _ _ _ _ _ _) (rk_onn B [] ls N 0 n c (fun _ => 0)) ?_ rfl
  repeat' (first | exact alls_nil | refine alls_cons ?_ ?_)
  all_goals (try simp only [avLen, Nat.zero_add, Nat.zero_mul, List.nil_append, tL, tM, tX, tB, tC])
  all_goals first | with_reducible assumption | with_reducible rfl | omega | exact RestB.z | (apply RestB.a; assumption) | (apply RestB.b; assumption) | (apply RestB.c <;> assumption) | (simp only [decide_eq_false_iff_not, decide_eq_true_eq, bne_iff_ne, ne_eq]; omega) | rfl
set_option maxHeartbeats 1000000 in
theorem rk_onz_t {ls ms xs : List Value} {n c m d b g : Nat} (L : RecsU ls n c) (M : RecsU ms m d) (X : XkF xs b g) (hl : 0 < n ∧ n ≤ 8) (hm : m = 0) (hb : b ≠ 128 ∧ b ≤ 1024) : RunsTrue Try.prog 7 [.slice (some ⟨0, 0, none⟩) n c, .slice none 0 0, .slice (some ⟨2, 0, none⟩) b g] [(0, ⟨.old, ls⟩), (2, ⟨.old, xs⟩)] 3 := by
  subst hm
  obtain rfl : ms = [] := List.length_eq_zero_iff.1 (by have := M.r.l; omega)
  have rL := L.r
  have fL := rL.f
  have lL := rL.l
  have tL : (ls : List Value).take (n * 19) = ls := take_len lL
  have cL := L.c
  have aL : ArgV (.slice (some ⟨0, 0, none⟩) n c) := ArgV.sl (by omega) cL.2
  have bL : ArgV (.slice (some ⟨1, 0, none⟩) n c) := ArgV.sl (by omega) cL.2
  have rM := M.r
  have fM := rM.f
  have lM := rM.l
  have tM : ([] : List Value).take (0 * 19) = [] := take_len lM
  have cM := M.c
  have aM : ArgV (.slice (some ⟨0, 0, none⟩) 0 d) := ArgV.sl (by omega) cM.2
  have bM : ArgV (.slice (some ⟨1, 0, none⟩) 0 d) := ArgV.sl (by omega) cM.2
  have fX := fl_byts X.y
  have tX : (xs : List Value).take b = xs := take_len X.l
  have lX : b ≤ (xs : List Value).length := by have := X.l; omega
  have cX := X.c
  have aX : ArgV (.slice (some ⟨2, 0, none⟩) b g) := ArgV.sl (by omega) cX.2
  have sX := sam_of X.y
  have nX := ArgV.nil
  have r0 := recs_nil
  have f0 : Fl [] := Fl.of rfl
  obtain ⟨B, N, qB⟩ := bkO L hl
  have qB1 := qB.b
  have qB2 := qB.r
  have qB3 := qB.s
  have qB4 := qB.l
  have tB := qB.t
  have qB5 := qB.f
  have qC1 := bkE.b
  have tC := bkE.t
  refine run_val (rkV_X _ _ _ _ _ _ _ _ _ _ _ _) (rkV_T _ _ _ _ _ _ _ _ _ _ _ _) (rkV_L _ _ _ _ _ _ _ _ _ _ _ _) (rk_onz B [] ls xs N 0 n c b g (fun _ => 0)) ?_ rfl
  repeat' (first | exact alls_nil | refine alls_cons ?_ ?_)
  all_goals (try simp only [avLen, Nat.zero_add, Nat.zero_mul, List.nil_append, tL, tM, tX, tB, tC])
  all_goals first | with_reducible assumption | with_reducible rfl | omega | exact RestB.z | (apply RestB.a; assumption) | (apply RestB.b; assumption) | (apply RestB.c <;> assumption) | (simp only [decide_eq_false_iff_not, decide_eq_true_eq, bne_iff_ne, ne_eq]; omega) | rfl
set_option maxHeartbeats 1000000 in
theorem rk_onk_t {ls ms xs : List Value} {n c m d b g : Nat} (L : RecsU ls n c) (M : RecsU ms m d) (X : XkF xs b g) (hl : 0 < n ∧ n ≤ 8) (hm : m = 0) (hb : b = 128) : RunsTrue Try.prog 7 [.slice (some ⟨0, 0, none⟩) n c, .slice none 0 0, .slice (some ⟨2, 0, none⟩) 128 g] [(0, ⟨.old, ls⟩), (2, ⟨.old, xs⟩)] 3 := by
  subst hm
  obtain rfl : ms = [] := List.length_eq_zero_iff.1 (by have := M.r.l; omega)
  subst hb
  have rL := L.r
  have fL := rL.f
  have lL := rL.l
  have tL : (ls : List Value).take (n * 19) = ls := take_len lL
  have cL := L.c
  have aL : ArgV (.slice (some ⟨0, 0, none⟩) n c) := ArgV.sl (by omega) cL.2
  have bL : ArgV (.slice (some ⟨1, 0, none⟩) n c) := ArgV.sl (by omega) cL.2
  have rM := M.r
  have fM := rM.f
  have lM := rM.l
  have tM : ([] : List Value).take (0 * 19) = [] := take_len lM
  have cM := M.c
  have aM : ArgV (.slice (some ⟨0, 0, none⟩) 0 d) := ArgV.sl (by omega) cM.2
  have bM : ArgV (.slice (some ⟨1, 0, none⟩) 0 d) := ArgV.sl (by omega) cM.2
  have fX := fl_byts X.y
  have tX : (xs : List Value).take 128 = xs := take_len X.l
  have lX : 128 ≤ (xs : List Value).length := by have := X.l; omega
  have cX := X.c
  have aX : ArgV (.slice (some ⟨2, 0, none⟩) 128 g) := ArgV.sl (by omega) cX.2
  have sX := sam_of X.y
  have nX := ArgV.nil
  have r0 := recs_nil
  have f0 : Fl [] := Fl.of rfl
  obtain ⟨B, N, qB⟩ := bkO L hl
  have qB1 := qB.b
  have qB2 := qB.r
  have qB3 := qB.s
  have qB4 := qB.l
  have tB := qB.t
  have qB5 := qB.f
  have qC1 := bkE.b
  have tC := bkE.t
  obtain ⟨G, qG⟩ := rkG X.y X.l
  have qG1 := qG.g
  have qG2 := qG.i
  have qG3 := qG.w
  refine run_val (rkV_X _ _ _ _ _ _ _ _ _ _ _ _) (rkV_T _ _ _ _ _ _ _ _ _ _ _ _) (rkV_L _ _ _ _ _ _ _ _ _ _ _ _) (rk_onk B [] ls xs N 0 n c g G) ?_ rfl
  repeat' (first | exact alls_nil | refine alls_cons ?_ ?_)
  all_goals (try simp only [avLen, Nat.zero_add, Nat.zero_mul, List.nil_append, tL, tM, tX, tB, tC])
  all_goals first | with_reducible assumption | with_reducible rfl | omega | exact RestB.z | (apply RestB.a; assumption) | (apply RestB.b; assumption) | (apply RestB.c <;> assumption) | (simp only [decide_eq_false_iff_not, decide_eq_true_eq, bne_iff_ne, ne_eq]; omega) | rfl
set_option maxHeartbeats 1000000 in
theorem rk_oen_t {ls ms xs : List Value} {n c m d b g : Nat} (L : RecsU ls n c) (M : RecsU ms m d) (X : XkF xs b g) (hl : 0 < n ∧ n ≤ 8) (hm : m = 0) (hb : b = 0) : RunsTrue Try.prog 7 [.slice (some ⟨0, 0, none⟩) n c, .slice (some ⟨1, 0, none⟩) 0 d, .slice none 0 0] [(0, ⟨.old, ls⟩), (1, ⟨.old, ms⟩)] 3 := by
  subst hm
  obtain rfl : ms = [] := List.length_eq_zero_iff.1 (by have := M.r.l; omega)
  subst hb
  obtain rfl : xs = [] := List.length_eq_zero_iff.1 X.l
  have rL := L.r
  have fL := rL.f
  have lL := rL.l
  have tL : (ls : List Value).take (n * 19) = ls := take_len lL
  have cL := L.c
  have aL : ArgV (.slice (some ⟨0, 0, none⟩) n c) := ArgV.sl (by omega) cL.2
  have bL : ArgV (.slice (some ⟨1, 0, none⟩) n c) := ArgV.sl (by omega) cL.2
  have rM := M.r
  have fM := rM.f
  have lM := rM.l
  have tM : ([] : List Value).take (0 * 19) = [] := take_len lM
  have cM := M.c
  have aM : ArgV (.slice (some ⟨0, 0, none⟩) 0 d) := ArgV.sl (by omega) cM.2
  have bM : ArgV (.slice (some ⟨1, 0, none⟩) 0 d) := ArgV.sl (by omega) cM.2
  have fX := fl_byts X.y
  have tX : ([] : List Value).take 0 = [] := take_len X.l
  have lX : 0 ≤ ([] : List Value).length := by have := X.l; omega
  have cX := X.c
  have aX : ArgV (.slice (some ⟨2, 0, none⟩) 0 g) := ArgV.sl (by omega) cX.2
  have sX := sam_of X.y
  have nX := ArgV.nil
  have r0 := recs_nil
  have f0 : Fl [] := Fl.of rfl
  obtain ⟨B, N, qB⟩ := bkO L hl
  have qB1 := qB.b
  have qB2 := qB.r
  have qB3 := qB.s
  have qB4 := qB.l
  have tB := qB.t
  have qB5 := qB.f
  have qC1 := bkE.b
  have tC := bkE.t
  refine run_val (rkV_X _ _ _ _ _ _ _ _ _ _ _ _) (rkV_T _ _ _ _ _ _ _ _ _ _ _ _) (rkV_L _ _ _ _ _ _ _ _ _ _ _ _) (rk_oen B [] ls [] N 0 n c d (fun _ => 0)) ?_ rfl
  repeat' (first | exact alls_nil | refine alls_cons ?_ ?_)
  all_goals (try simp only [avLen, Nat.zero_add, Nat.zero_mul, List.nil_append, tL, tM, tX, tB, tC])
  all_goals first | with_reducible assumption | with_reducible rfl | omega | exact RestB.z | (apply RestB.a; assumption) | (apply RestB.b; assumption) | (apply RestB.c <;> assumption) | (simp only [decide_eq_false_iff_not, decide_eq_true_eq, bne_iff_ne, ne_eq]; omega) | rfl
set_option maxHeartbeats 1000000 in
theorem rk_oez_t {ls ms xs : List Value} {n c m d b g : Nat} (L : RecsU ls n c) (M : RecsU ms m d) (X : XkF xs b g) (hl : 0 < n ∧ n ≤ 8) (hm : m = 0) (hb : b ≠ 128 ∧ b ≤ 1024) : RunsTrue Try.prog 7 [.slice (some ⟨0, 0, none⟩) n c, .slice (some ⟨1, 0, none⟩) 0 d, .slice (some ⟨2, 0, none⟩) b g] [(0, ⟨.old, ls⟩), (1, ⟨.old, ms⟩), (2, ⟨.old, xs⟩)] 3 := by
  subst hm
  obtain rfl : ms = [] := List.length_eq_zero_iff.1 (by have := M.r.l; omega)
  have rL := L.r
  have fL := rL.f
  have lL := rL.l
  have tL : (ls : List Value).take (n * 19) = ls := take_len lL
  have cL := L.c
  have aL : ArgV (.slice (some ⟨0, 0, none⟩) n c) := ArgV.sl (by omega) cL.2
  have bL : ArgV (.slice (some ⟨1, 0, none⟩) n c) := ArgV.sl (by omega) cL.2
  have rM := M.r
  have fM := rM.f
  have lM := rM.l
  have tM : ([] : List Value).take (0 * 19) = [] := take_len lM
  have cM := M.c
  have aM : ArgV (.slice (some ⟨0, 0, none⟩) 0 d) := ArgV.sl (by omega) cM.2
  have bM : ArgV (.slice (some ⟨1, 0, none⟩) 0 d) := ArgV.sl (by omega) cM.2
  have fX := fl_byts X.y
  have tX : (xs : List Value).take b = xs := take_len X.l
  have lX : b ≤ (xs : List Value).length := by have := X.l; omega
  have cX := X.c
  have aX : ArgV (.slice (some ⟨2, 0, none⟩) b g) := ArgV.sl (by omega) cX.2
  have sX := sam_of X.y
  have nX := ArgV.nil
  have r0 := recs_nil
  have f0 : Fl [] := Fl.of rfl
  obtain ⟨B, N, qB⟩ := bkO L hl
  have qB1 := qB.b
  have qB2 := qB.r
  have qB3 := qB.s
  have qB4 := qB.l
  have tB := qB.t
  have qB5 := qB.f
  have qC1 := bkE.b
  have tC := bkE.t
  refine run_val (rkV_X _ _ _ _ _ _ _ _ _ _ _ _) (rkV_T _ _ _ _ _ _ _ _ _ _ _ _) (rkV_L _ _ _ _ _ _ _ _ _ _ _ _) (rk_oez B [] ls [] xs N 0 n c d b g (fun _ => 0)) ?_ rfl
  repeat' (first | exact alls_nil | refine alls_cons ?_ ?_)
  all_goals (try simp only [avLen, Nat.zero_add, Nat.zero_mul, List.nil_append, tL, tM, tX, tB, tC])
  all_goals first | with_reducible assumption | with_reducible rfl | omega | exact RestB.z | (apply RestB.a; assumption) | (apply RestB.b; assumption) | (apply RestB.c <;> assumption) | (simp only [decide_eq_false_iff_not, decide_eq_true_eq, bne_iff_ne, ne_eq]; omega) | rfl
set_option maxHeartbeats 1000000 in
theorem rk_oek_t {ls ms xs : List Value} {n c m d b g : Nat} (L : RecsU ls n c) (M : RecsU ms m d) (X : XkF xs b g) (hl : 0 < n ∧ n ≤ 8) (hm : m = 0) (hb : b = 128) : RunsTrue Try.prog 7 [.slice (some ⟨0, 0, none⟩) n c, .slice (some ⟨1, 0, none⟩) 0 d, .slice (some ⟨2, 0, none⟩) 128 g] [(0, ⟨.old, ls⟩), (1, ⟨.old, ms⟩), (2, ⟨.old, xs⟩)] 3 := by
  subst hm
  obtain rfl : ms = [] := List.length_eq_zero_iff.1 (by have := M.r.l; omega)
  subst hb
  have rL := L.r
  have fL := rL.f
  have lL := rL.l
  have tL : (ls : List Value).take (n * 19) = ls := take_len lL
  have cL := L.c
  have aL : ArgV (.slice (some ⟨0, 0, none⟩) n c) := ArgV.sl (by omega) cL.2
  have bL : ArgV (.slice (some ⟨1, 0, none⟩) n c) := ArgV.sl (by omega) cL.2
  have rM := M.r
  have fM := rM.f
  have lM := rM.l
  have tM : ([] : List Value).take (0 * 19) = [] := take_len lM
  have cM := M.c
  have aM : ArgV (.slice (some ⟨0, 0, none⟩) 0 d) := ArgV.sl (by omega) cM.2
  have bM : ArgV (.slice (some ⟨1, 0, none⟩) 0 d) := ArgV.sl (by omega) cM.2
  have fX := fl_byts X.y
  have tX : (xs : List Value).take 128 = xs := take_len X.l
  have lX : 128 ≤ (xs : List Value).length := by have := X.l; omega
  have cX := X.c
  have aX : ArgV (.slice (some ⟨2, 0, none⟩) 128 g) := ArgV.sl (by omega) cX.2
  have sX := sam_of X.y
  have nX := ArgV.nil
  have r0 := recs_nil
  have f0 : Fl [] := Fl.of rfl
  obtain ⟨B, N, qB⟩ := bkO L hl
  have qB1 := qB.b
  have qB2 := qB.r
  have qB3 := qB.s
  have qB4 := qB.l
  have tB := qB.t
  have qB5 := qB.f
  have qC1 := bkE.b
  have tC := bkE.t
  obtain ⟨G, qG⟩ := rkG X.y X.l
  have qG1 := qG.g
  have qG2 := qG.i
  have qG3 := qG.w
  refine run_val (rkV_X _ _ _ _ _ _ _ _ _ _ _ _) (rkV_T _ _ _ _ _ _ _ _ _ _ _ _) (rkV_L _ _ _ _ _ _ _ _ _ _ _ _) (rk_oek B [] ls [] xs N 0 n c d g G) ?_ rfl
  repeat' (first | exact alls_nil | refine alls_cons ?_ ?_)
  all_goals (try simp only [avLen, Nat.zero_add, Nat.zero_mul, List.nil_append, tL, tM, tX, tB, tC])
  all_goals first | with_reducible assumption | with_reducible rfl | omega | exact RestB.z | (apply RestB.a; assumption) | (apply RestB.b; assumption) | (apply RestB.c <;> assumption) | (simp only [decide_eq_false_iff_not, decide_eq_true_eq, bne_iff_ne, ne_eq]; omega) | rfl
set_option maxHeartbeats 1000000 in
theorem rk_oon_t {ls ms xs : List Value} {n c m d b g : Nat} (L : RecsU ls n c) (M : RecsU ms m d) (X : XkF xs b g) (hl : 0 < n ∧ n ≤ 8) (hm : 0 < m ∧ m ≤ 8) (hb : b = 0) : RunsTrue Try.prog 7 [.slice (some ⟨0, 0, none⟩) n c, .slice (some ⟨1, 0, none⟩) m d, .slice none 0 0] [(0, ⟨.old, ls⟩), (1, ⟨.old, ms⟩)] 3 := by
  subst hb
  obtain rfl : xs = [] := List.length_eq_zero_iff.1 X.l
  have rL := L.r
  have fL := rL.f
  have lL := rL.l
  have tL : (ls : List Value).take (n * 19) = ls := take_len lL
  have cL := L.c
  have aL : ArgV (.slice (some ⟨0, 0, none⟩) n c) := ArgV.sl (by omega) cL.2
  have bL : ArgV (.slice (some ⟨1, 0, none⟩) n c) := ArgV.sl (by omega) cL.2
  have rM := M.r
  have fM := rM.f
  have lM := rM.l
  have tM : (ms : List Value).take (m * 19) = ms := take_len lM
  have cM := M.c
  have aM : ArgV (.slice (some ⟨0, 0, none⟩) m d) := ArgV.sl (by omega) cM.2
  have bM : ArgV (.slice (some ⟨1, 0, none⟩) m d) := ArgV.sl (by omega) cM.2
  have fX := fl_byts X.y
  have tX : ([] : List Value).take 0 = [] := take_len X.l
  have lX : 0 ≤ ([] : List Value).length := by have := X.l; omega
  have cX := X.c
  have aX : ArgV (.slice (some ⟨2, 0, none⟩) 0 g) := ArgV.sl (by omega) cX.2
  have sX := sam_of X.y
  have nX := ArgV.nil
  have r0 := recs_nil
  have f0 : Fl [] := Fl.of rfl
  obtain ⟨B, N, qB⟩ := bkO L hl
  have qB1 := qB.b
  have qB2 := qB.r
  have qB3 := qB.s
  have qB4 := qB.l
  have tB := qB.t
  have qB5 := qB.f
  obtain ⟨C, M1, qC⟩ := bkO M hm
  have qC1 := qC.b
  have qC2 := qC.r
  have qC3 := qC.s
  have qC4 := qC.l
  have tC := qC.t
  have qC5 := qC.f
  refine run_val (rkV_X _ _ _ _ _ _ _ _ _ _ _ _) (rkV_T _ _ _ _ _ _ _ _ _ _ _ _) (rkV_L _ _ _ _ _ _ _ _ _ _ _ _) (rk_oon B C ls ms N M1 n c m d (fun _ => 0)) ?_ rfl
  repeat' (first | exact alls_nil | refine alls_cons ?_ ?_)
  all_goals (try simp only [avLen, Nat.zero_add, Nat.zero_mul, List.nil_append, tL, tM, tX, tB, tC])
  all_goals first | with_reducible assumption | with_reducible rfl | omega | exact RestB.z | (apply RestB.a; assumption) | (apply RestB.b; assumption) | (apply RestB.c <;> assumption) | (simp only [decide_eq_false_iff_not, decide_eq_true_eq, bne_iff_ne, ne_eq]; omega) | rfl
set_option maxHeartbeats 1000000 in
theorem rk_ooz_t {ls ms xs : List Value} {n c m d b g : Nat} (L : RecsU ls n c) (M : RecsU ms m d) (X : XkF xs b g) (hl : 0 < n ∧ n ≤ 8) (hm : 0 < m ∧ m ≤ 8) (hb : b ≠ 128 ∧ b ≤ 1024) : RunsTrue Try.prog 7 [.slice (some ⟨0, 0, none⟩) n c, .slice (some ⟨1, 0, none⟩) m d, .slice (some ⟨2, 0, none⟩) b g] [(0, ⟨.old, ls⟩), (1, ⟨.old, ms⟩), (2, ⟨.old, xs⟩)] 3 := by
  have rL := L.r
  have fL := rL.f
  have lL := rL.l
  have tL : (ls : List Value).take (n * 19) = ls := take_len lL
  have cL := L.c
  have aL : ArgV (.slice (some ⟨0, 0, none⟩) n c) := ArgV.sl (by omega) cL.2
  have bL : ArgV (.slice (some ⟨1, 0, none⟩) n c) := ArgV.sl (by omega) cL.2
  have rM := M.r
  have fM := rM.f
  have lM := rM.l
  have tM : (ms : List Value).take (m * 19) = ms := take_len lM
  have cM := M.c
  have aM : ArgV (.slice (some ⟨0, 0, none⟩) m d) := ArgV.sl (by omega) cM.2
  have bM : ArgV (.slice (some ⟨1, 0, none⟩) m d) := ArgV.sl (by omega) cM.2
  have fX := fl_byts X.y
  have tX : (xs : List Value).take b = xs := take_len X.l
  have lX : b ≤ (xs : List Value).length := by have := X.l; omega
  have cX := X.c
  have aX : ArgV (.slice (some ⟨2, 0, none⟩) b g) := ArgV.sl (by omega) cX.2
  have sX := sam_of X.y
  have nX := ArgV.nil
  have r0 := recs_nil
  have f0 : Fl [] := Fl.of rfl
  obtain ⟨B, N, qB⟩ := bkO L hl
  have qB1 := qB.b
  have qB2 := qB.r
  have qB3 := qB.s
  have qB4 := qB.l
  have tB := qB.t
  have qB5 := qB.f
  obtain ⟨C, M1, qC⟩ := bkO M hm
  have qC1 := qC.b
  have qC2 := qC.r
  have qC3 := qC.s
  have qC4 := qC.l
  have tC := qC.t
  have qC5 := qC.f
  refine run_val (rkV_X _ _ _ _ _ _ _ _ _ _ _ _) (rkV_T _ _ _ _ _ _ _ _ _ _ _ _) (rkV_L _ _ _ _ _ _ _ _ _ _ _ _) (rk_ooz B C ls ms xs N M1 n c m d b g (fun _ => 0)) ?_ rfl
  repeat' (first | exact alls_nil | refine alls_cons ?_ ?_)
  all_goals (try simp only [avLen, Nat.zero_add, Nat.zero_mul, List.nil_append, tL, tM, tX, tB, tC])
  all_goals first | with_reducible assumption | with_reducible rfl | omega | exact RestB.z | (apply RestB.a; assumption) | (apply RestB.b; assumption) | (apply RestB.c <;> assumption) | (simp only [decide_eq_false_iff_not, decide_eq_true_eq, bne_iff_ne, ne_eq]; omega) | rfl
set_option maxHeartbeats 1000000 in
theorem rk_ook_t {ls ms xs : List Value} {n c m d b g : Nat} (L : RecsU ls n c) (M : RecsU ms m d) (X : XkF xs b g) (hl : 0 < n ∧ n ≤ 8) (hm : 0 < m ∧ m ≤ 8) (hb : b = 128) : RunsTrue Try.prog 7 [.slice (some ⟨0, 0, none⟩) n c, .slice (some ⟨1, 0, none⟩) m d, .slice (some ⟨2, 0, none⟩) 128 g] [(0, ⟨.old, ls⟩), (1, ⟨.old, ms⟩), (2, ⟨.old, xs⟩)] 3 := by
  subst hb
  have rL := L.r
  have fL := rL.f
  have lL := rL.l
  have tL : (ls : List Value).take (n * 19) = ls := take_len lL
  have cL := L.c
  have aL : ArgV (.slice (some ⟨0, 0, none⟩) n c) := ArgV.sl (by omega) cL.2
  have bL : ArgV (.slice (some ⟨1, 0, none⟩) n c) := ArgV.sl (by omega) cL.2
  have rM := M.r
  have fM := rM.f
  have lM := rM.l
  have tM : (ms : List Value).take (m * 19) = ms := take_len lM
  have cM := M.c
  have aM : ArgV (.slice (some ⟨0, 0, none⟩) m d) := ArgV.sl (by omega) cM.2
  have bM : ArgV (.slice (some ⟨1, 0, none⟩) m d) := ArgV.sl (by omega) cM.2
  have fX := fl_byts X.y
  have tX : (xs : List Value).take 128 = xs := take_len X.l
  have lX : 128 ≤ (xs : List Value).length := by have := X.l; omega
  have cX := X.c
  have aX : ArgV (.slice (some ⟨2, 0, none⟩) 128 g) := ArgV.sl (by omega) cX.2
  have sX := sam_of X.y
  have nX := ArgV.nil
  have r0 := recs_nil
  have f0 : Fl [] := Fl.of rfl
  obtain ⟨B, N, qB⟩ := bkO L hl
  have qB1 := qB.b
  have qB2 := qB.r
  have qB3 := qB.s
  have qB4 := qB.l
  have tB := qB.t
  have qB5 := qB.f
  obtain ⟨C, M1, qC⟩ := bkO M hm
  have qC1 := qC.b
  have qC2 := qC.r
  have qC3 := qC.s
  have qC4 := qC.l
  have tC := qC.t
  have qC5 := qC.f
  obtain ⟨G, qG⟩ := rkG X.y X.l
  have qG1 := qG.g
  have qG2 := qG.i
  have qG3 := qG.w
  refine run_val (rkV_X _ _ _ _ _ _ _ _ _ _ _ _) (rkV_T _ _ _ _ _ _ _ _ _ _ _ _) (rkV_L _ _ _ _ _ _ _ _ _ _ _ _) (rk_ook B C ls ms xs N M1 n c m d g G) ?_ rfl
  repeat' (first | exact alls_nil | refine alls_cons ?_ ?_)
  all_goals (try simp only [avLen, Nat.zero_add, Nat.zero_mul, List.nil_append, tL, tM, tX, tB, tC])
  all_goals first | with_reducible assumption | with_reducible rfl | omega | exact RestB.z | (apply RestB.a; assumption) | (apply RestB.b; assumption) | (apply RestB.c <;> assumption) | (simp only [decide_eq_false_iff_not, decide_eq_true_eq, bne_iff_ne, ne_eq]; omega) | rfl
set_option maxHeartbeats 1000000 in
theorem rk_oxn_t {ls ms xs : List Value} {n c m d b g : Nat} (L : RecsU ls n c) (M : RecsU ms m d) (X : XkF xs b g) (hl : 0 < n ∧ n ≤ 8) (hm : 8 < m ∧ m ≤ 20) (hb : b = 0) : RunsTrue Try.prog 7 [.slice (some ⟨0, 0, none⟩) n c, .slice (some ⟨1, 0, none⟩) m d, .slice none 0 0] [(0, ⟨.old, ls⟩), (1, ⟨.old, ms⟩)] 3 := by
  subst hb
  obtain rfl : xs = [] := List.length_eq_zero_iff.1 X.l
  have rL := L.r
  have fL := rL.f
  have lL := rL.l
  have tL : (ls : List Value).take (n * 19) = ls := take_len lL
  have cL := L.c
  have aL : ArgV (.slice (some ⟨0, 0, none⟩) n c) := ArgV.sl (by omega) cL.2
  have bL : ArgV (.slice (some ⟨1, 0, none⟩) n c) := ArgV.sl (by omega) cL.2
  have rM := M.r
  have fM := rM.f
  have lM := rM.l
  have tM : (ms : List Value).take (m * 19) = ms := take_len lM
  have cM := M.c
  have aM : ArgV (.slice (some ⟨0, 0, none⟩) m d) := ArgV.sl (by omega) cM.2
  have bM : ArgV (.slice (some ⟨1, 0, none⟩) m d) := ArgV.sl (by omega) cM.2
  have fX := fl_byts X.y
  have tX : ([] : List Value).take 0 = [] := take_len X.l
  have lX : 0 ≤ ([] : List Value).length := by have := X.l; omega
  have cX := X.c
  have aX : ArgV (.slice (some ⟨2, 0, none⟩) 0 g) := ArgV.sl (by omega) cX.2
  have sX := sam_of X.y
  have nX := ArgV.nil
  have r0 := recs_nil
  have f0 : Fl [] := Fl.of rfl
  obtain ⟨B, N, qB⟩ := bkO L hl
  have qB1 := qB.b
  have qB2 := qB.r
  have qB3 := qB.s
  have qB4 := qB.l
  have tB := qB.t
  have qB5 := qB.f
  have qC1 := bkE.b
  have tC := bkE.t
  refine run_val (rkV_X _ _ _ _ _ _ _ _ _ _ _ _) (rkV_T _ _ _ _ _ _ _ _ _ _ _ _) (rkV_L _ _ _ _ _ _ _ _ _ _ _ _) (rk_oxn B [] ls ms N 0 n c m d (fun _ => 0)) ?_ rfl
  repeat' (first | exact alls_nil | refine alls_cons ?_ ?_)
  all_goals (try simp only [avLen, Nat.zero_add, Nat.zero_mul, List.nil_append, tL, tM, tX, tB, tC])
  all_goals first | with_reducible assumption | with_reducible rfl | omega | exact RestB.z | (apply RestB.a; assumption) | (apply RestB.b; assumption) | (apply RestB.c <;> assumption) | (simp only [decide_eq_false_iff_not, decide_eq_true_eq, bne_iff_ne, ne_eq]; omega) | rfl
set_option maxHeartbeats 1000000 in
theorem rk_oxz_t {ls ms xs : List Value} {n c m d b g : Nat} (L : RecsU ls n c) (M : RecsU ms m d) (X : XkF xs b g) (hl : 0 < n ∧ n ≤ 8) (hm : 8 < m ∧ m ≤ 20) (hb : b ≠ 128 ∧ b ≤ 1024) : RunsTrue Try.prog 7 [.slice (some ⟨0, 0, none⟩) n c, .slice (some ⟨1, 0, none⟩) m d, .slice (some ⟨2, 0, none⟩) b g] [(0, ⟨.old, ls⟩), (1, ⟨.old, ms⟩), (2, ⟨.old, xs⟩)] 3 := by
  have rL := L.r
  have fL := rL.f
  have lL := rL.l
  have tL : (ls : List Value).take (n * 19) = ls := take_len lL
  have cL := L.c
  have aL : ArgV (.slice (some ⟨0, 0, none⟩) n c) := ArgV.sl (by omega) cL.2
  have bL : ArgV (.slice (some ⟨1, 0, none⟩) n c) := ArgV.sl (by omega) cL.2
  have rM := M.r
  have fM := rM.f
  have lM := rM.l
  have tM : (ms : List Value).take (m * 19) = ms := take_len lM
  have cM := M.c
  have aM : ArgV (.slice (some ⟨0, 0, none⟩) m d) := ArgV.sl (by omega) cM.2
  have bM : ArgV (.slice (some ⟨1, 0, none⟩) m d) := ArgV.sl (by omega) cM.2
  have fX := fl_byts X.y
  have tX : (xs : List Value).take b = xs := take_len X.l
  have lX : b ≤ (xs : List Value).length := by have := X.l; omega
  have cX := X.c
  have aX : ArgV (.slice (some ⟨2, 0, none⟩) b g) := ArgV.sl (by omega) cX.2
  have sX := sam_of X.y
  have nX := ArgV.nil
  have r0 := recs_nil
  have f0 : Fl [] := Fl.of rfl
  obtain ⟨B, N, qB⟩ := bkO L hl
  have qB1 := qB.b
  have qB2 := qB.r
  have qB3 := qB.s
  have qB4 := qB.l
  have tB := qB.t
  have qB5 := qB.f
  have qC1 := bkE.b
  have tC := bkE.t
  refine run_val (rkV_X _ _ _ _ _ _ _ _ _ _ _ _) (rkV_T _ _ _ _ _ _ _ _ _ _ _ _) (rkV_L _ _ _ _ _ _ _ _ _ _ _ _) (rk_oxz B [] ls ms xs N 0 n c m d b g (fun _ => 0)) ?_ rfl
  repeat' (first | exact alls_nil | refine alls_cons ?_ ?_)
  all_goals (try simp only [avLen, Nat.zero_add, Nat.zero_mul, List.nil_append, tL, tM, tX, tB, tC])
  all_goals first | with_reducible assumption | with_reducible rfl | omega | exact RestB.z | (apply RestB.a; assumption) | (apply RestB.b; assumption) | (apply RestB.c <;> assumption) | (simp only [decide_eq_false_iff_not, decide_eq_true_eq, bne_iff_ne, ne_eq]; omega) | rfl
set_option maxHeartbeats 1000000 in
theorem rk_oxk_t {ls ms xs : List Value} {n c m d b g : Nat} (L : RecsU ls n c) (M : RecsU ms m d) (X : XkF xs b g) (hl : 0 < n ∧ n ≤ 8) (hm : 8 < m ∧ m ≤ 20) (hb : b = 128) : RunsTrue Try.prog 7 [.slice (some ⟨0, 0, none⟩) n c, .slice (some ⟨1, 0, none⟩) m d, .slice (some ⟨2, 0, none⟩) 128 g] [(0, ⟨.old, ls⟩), (1, ⟨.old, ms⟩), (2, ⟨.old, xs⟩)] 3 := by
  subst hb
  have rL := L.r
  have fL := rL.f
  have lL := rL.l
  have tL : (ls : List Value).take (n * 19) = ls := take_len lL
  have cL := L.c
  have aL : ArgV (.slice (some ⟨0, 0, none⟩) n c) := ArgV.sl (by omega) cL.2
  have bL : ArgV (.slice (some ⟨1, 0, none⟩) n c) := ArgV.sl (by omega) cL.2
  have rM := M.r
  have fM := rM.f
  have lM := rM.l
  have tM : (ms : List Value).take (m * 19) = ms := take_len lM
  have cM := M.c
  have aM : ArgV (.slice (some ⟨0, 0, none⟩) m d) := ArgV.sl (by omega) cM.2
  have bM : ArgV (.slice (some ⟨1, 0, none⟩) m d) := ArgV.sl (by omega) cM.2
  have fX := fl_byts X.y
  have tX : (xs : List Value).take 128 = xs := take_len X.l
  have lX : 128 ≤ (xs : List Value).length := by have := X.l; omega
  have cX := X.c
  have aX : ArgV (.slice (some ⟨2, 0, none⟩) 128 g) := ArgV.sl (by omega) cX.2
  have sX := sam_of X.y
  have nX := ArgV.nil
  have r0 := recs_nil
  have f0 : Fl [] := Fl.of rfl
  obtain ⟨B, N, qB⟩ := bkO L hl
  have qB1 := qB.b
  have qB2 := qB.r
  have qB3 := qB.s
  have qB4 := qB.l
  have tB := qB.t
  have qB5 := qB.f
  have qC1 := bkE.b
  have tC := bkE.t
  obtain ⟨G, qG⟩ := rkG X.y X.l
  have qG1 := qG.g
  have qG2 := qG.i
  have qG3 := qG.w
  refine run_val (rkV_X _ _ _ _ _ _ _ _ _ _ _ _) (rkV_T _ _ _ _ _ _ _ _ _ _ _ _) (rkV_L _ _ _ _ _ _ _ _ _ _ _ _) (rk_oxk B [] ls ms xs N 0 n c m d g G) ?_ rfl
  repeat' (first | exact alls_nil | refine alls_cons ?_ ?_)
  all_goals (try simp only [avLen, Nat.zero_add, Nat.zero_mul, List.nil_append, tL, tM, tX, tB, tC])
  all_goals first | with_reducible assumption | with_reducible rfl | omega | exact RestB.z | (apply RestB.a; assumption) | (apply RestB.b; assumption) | (apply RestB.c <;> assumption) | (simp only [decide_eq_false_iff_not, decide_eq_true_eq, bne_iff_ne, ne_eq]; omega) | rfl
end Go.Proofs.Ytgpgdkpfeoaidaa
/-
  Chapter 02: the statement RecordBack, its obligations (x).
-/
namespace Go.Proofs.Ytgpgdkpfeoaidaa
set_option linter.unusedSimpArgs false
set_option linter.unusedVariables false
set_option linter.unusedSectionVars false
open Go Go.RowKit

set_option maxHeartbeats 1000000 in
theorem rk_xnn_t {ls ms xs : List Value} {n c m d b g : Nat} (L : RecsU ls n c) (M : RecsU ms m d) (X : XkF xs b g) (hl : 8 < n ∧ n ≤ 20) (hm : m = 0) (hb : b = 0) : RunsTrue Try.prog 7 [.slice (some ⟨0, 0, none⟩) n c, .slice none 0 0, .slice none 0 0] [(0, ⟨.old, ls⟩)] 3 := by
  subst hm
  obtain rfl : ms = [] := List.length_eq_zero_iff.1 (by have := M.r.l; omega)
  subst hb
  obtain rfl : xs = [] := List.length_eq_zero_iff.1 X.l
  have rL := L.r
  have fL := rL.f
  have lL := rL.l
  have tL : (ls : List Value).take (n * 19) = ls := take_len lL
  have cL := L.c
  have aL : ArgV (.slice (some ⟨0, 0, none⟩) n c) := ArgV.sl (by omega) cL.2
  have bL : ArgV (.slice (some ⟨1, 0, none⟩) n c) := ArgV.sl (by omega) cL.2
  have rM := M.r
  have fM := rM.f
  have lM := rM.l
  have tM : ([] : List Value).take (0 * 19) = [] := take_len lM
  have cM := M.c
  have aM : ArgV (.slice (some ⟨0, 0, none⟩) 0 d) := ArgV.sl (by omega) cM.2
  have bM : ArgV (.slice (some ⟨1, 0, none⟩) 0 d) := ArgV.sl (by omega) cM.2
  have fX := fl_byts X.y
  have tX : ([] : List Value).take 0 = [] := take_len X.l
  have lX : 0 ≤ ([] : List Value).length := by have := X.l; omega
  have cX := X.c
  have aX : ArgV (.slice (some ⟨2, 0, none⟩) 0 g) := ArgV.sl (by omega) cX.2
  have sX := sam_of X.y
  have nX := ArgV.nil
  have r0 := recs_nil
  have f0 : Fl [] := Fl.of rfl
  have qB1 := bkE.b
  have tB := bkE.t
  have qC1 := bkE.b
  have tC := bkE.t
  refine run_val (rkV_X _ _ _ _ _ _ _ _ _ _ _ _) (rkV_T _ _ _ _ _ _ _ _ _ _ _ _) (rkV_L _ _ _ _ _ _ _ _ _ _ _ _) (rk_xnn [] [] ls 0 0 n c (fun _ => 0)) ?_ rfl
  repeat' (first | exact alls_nil | refine alls_cons ?_ ?_)
  all_goals (try simp only [avLen, Nat.zero_add, Nat.zero_mul, List.nil_append, tL, tM, tX, tB, tC])
  all_goals first | with_reducible assumption | with_reducible rfl | omega | exact RestB.z | (apply RestB.a; assumption) | (apply RestB.b; assumption) | (apply RestB.c <;> assumption) | (simp only [decide_eq_false_iff_not, decide_eq_true_eq, bne_iff_ne, ne_eq]; omega) | rfl
set_option maxHeartbeats 1000000 in
theorem rk_xnz_t {ls ms xs : List Value} {n c m d b g : Nat} (L : RecsU ls n c) (M : RecsU ms m d) (X : XkF xs b g) (hl : 8 < n ∧ n ≤ 20) (hm : m = 0) (hb : b ≠ 128 ∧ b ≤ 1024) : RunsTrue Try.prog 7 [.slice (some ⟨0, 0, none⟩) n c, .slice none 0 0, .slice (some ⟨2, 0, none⟩) b g] [(0, ⟨.old, ls⟩), (2, ⟨.old, xs⟩)] 3 := by
  subst hm
  obtain rfl : ms = [] := List.length_eq_zero_iff.1 (by have := M.r.l; omega)
  have rL := L.r
  have fL := rL.f
  have lL := rL.l
  have tL : (ls : List Value).take (n * 19) = ls := take_len lL
  have cL := L.c
  have aL : ArgV (.slice (some ⟨0, 0, none⟩) n c) := ArgV.sl (by omega) cL.2
  have bL : ArgV (.slice (some ⟨1, 0, none⟩) n c) := ArgV.sl (by omega) cL.2
  have rM := M.r
  have fM := rM.f
  have lM := rM.l
  have tM : ([] : List Value).take (0 * 19) = [] := take_len lM
  have cM := M.c
  have aM : ArgV (.slice (some ⟨0, 0, none⟩) 0 d) := ArgV.sl (by omega) cM.2
  have bM : ArgV (.slice (some ⟨1, 0, none⟩) 0 d) := ArgV.sl (by omega) cM.2
  have fX := fl_byts X.y
  have tX : (xs : List Value).take b = xs := take_len X.l
  have lX : b ≤ (xs : List Value).length := by have := X.l; omega
  have cX := X.c
  have aX : ArgV (.slice (some ⟨2, 0, none⟩) b g) := ArgV.sl (by omega) cX.2
  have sX := sam_of X.y
  have nX := ArgV.nil
  have r0 := recs_nil
  have f0 : Fl [] := Fl.of rfl
  have qB1 := bkE.b
  have tB := bkE.t
  have qC1 := bkE.b
  have tC := bkE.t
  refine run_val (rkV_X _ _ _ _ _ _ _ _ _ _ _ _) (rkV_T _ _ _ _ _ _ _ _ _ _ _ _) (rkV_L _ _ _ _ _ _ _ _ _ _ _ _) (rk_xnz [] [] ls xs 0 0 n c b g (fun _ => 0)) ?_ rfl
  repeat' (first | exact alls_nil | refine alls_cons ?_ ?_)
  all_goals (try simp only [avLen, Nat.zero_add, Nat.zero_mul, List.nil_append, tL, tM, tX, tB, tC])
  all_goals first | with_reducible assumption | with_reducible rfl | omega | exact RestB.z | (apply RestB.a; assumption) | (apply RestB.b; assumption) | (apply RestB.c <;> assumption) | (simp only [decide_eq_false_iff_not, decide_eq_true_eq, bne_iff_ne, ne_eq]; omega) | rfl
set_option maxHeartbeats 1000000 in
theorem rk_xnk_t {ls ms xs : List Value} {n c m d b g : Nat} (L : RecsU ls n c) (M : RecsU ms m d) (X : XkF xs b g) (hl : 8 < n ∧ n ≤ 20) (hm : m = 0) (hb : b = 128) : RunsTrue Try.prog 7 [.slice (some ⟨0, 0, none⟩) n c, .slice none 0 0, .slice (some ⟨2, 0, none⟩) 128 g] [(0, ⟨.old, ls⟩), (2, ⟨.old, xs⟩)] 3 := by
  subst hm
  obtain rfl : ms = [] := List.length_eq_zero_iff.1 (by have := M.r.l; omega)
  subst hb
  have rL := L.r
  have fL := rL.f
  have lL := rL.l
  have tL : (ls : List Value).take (n * 19) = ls := take_len lL
  have cL := L.c
  have aL : ArgV (.slice (some ⟨0, 0, none⟩) n c) := ArgV.sl (by omega) cL.2
  have bL : ArgV (.slice (some ⟨1, 0, none⟩) n c) := ArgV.sl (by omega) cL.2
  have rM := M.r
  have fM := rM.f
  have lM := rM.l
  have tM : ([] : List Value).take (0 * 19) = [] := take_len lM
  have cM := M.c
  have aM : ArgV (.slice (some ⟨0, 0, none⟩) 0 d) := ArgV.sl (by omega) cM.2
  have bM : ArgV (.slice (some ⟨1, 0, none⟩) 0 d) := ArgV.sl (by omega) cM.2
  have fX := fl_byts X.y
  have tX : (xs : List Value).take 128 = xs := take_len X.l
  have lX : 128 ≤ (xs : List Value).length := by have := X.l; omega
  have cX := X.c
  have aX : ArgV (.slice (some ⟨2, 0, none⟩) 128 g) := ArgV.sl (by omega) cX.2
  have sX := sam_of X.y
  have nX := ArgV.nil
  have r0 := recs_nil
  have f0 : Fl [] := Fl.of rfl
  have qB1 := bkE.b
  have tB := bkE.t
  have qC1 := bkE.b
  have tC := bkE.t
  obtain ⟨G, qG⟩ := rkG X.y X.l
  have qG1 := qG.g
  have qG2 := qG.i
  have qG3 := qG.w
  refine run_val (rkV_X _ _ _ _ _ _ _ _ _ _ _ _) (rkV_T _ _ _ _ _ _ _ _ _ _ _ _) (rkV_L _ _ _ _ _ _ _ _ _ _ _ _) (rk_xnk [] [] ls xs 0 0 n c g G) ?_ rfl
  repeat' (first | exact alls_nil | refine alls_cons ?_ ?_)
  all_goals (try simp only [avLen, Nat.zero_add, Nat.zero_mul, List.nil_append, tL, tM, tX, tB, tC])
  all_goals first | with_reducible assumption | with_reducible rfl | omega | exact RestB.z | (apply RestB.a; assumption) | (apply RestB.b; assumption) | (apply RestB.c <;> assumption) | (simp only [decide_eq_false_iff_not, decide_eq_true_eq, bne_iff_ne, ne_eq]; omega) | rfl
set_option maxHeartbeats 1000000 in
theorem rk_xen_t {ls ms xs : List Value} {n c m d b g : Nat} (L : RecsU ls n c) (M : RecsU ms m d) (X : XkF xs b g) (hl : 8 < n ∧ n ≤ 20) (hm : m = 0) (hb : b = 0) : RunsTrue Try.prog 7 [.slice (some ⟨0, 0, none⟩) n c, .slice (some ⟨1, 0, none⟩) 0 d, .slice none 0 0] [(0, ⟨.old, ls⟩), (1, ⟨.old, ms⟩)] 3 := by
  subst hm
  obtain rfl : ms = [] := List.length_eq_zero_iff.1 (by have := M.r.l; omega)
  subst hb
  obtain rfl : xs = [] := List.length_eq_zero_iff.1 X.l
  have rL := L.r
  have fL := rL.f
  have lL := rL.l
  have tL : (ls : List Value).take (n * 19) = ls := take_len lL
  have cL := L.c
  have aL : ArgV (.slice (some ⟨0, 0, none⟩) n c) := ArgV.sl (by omega) cL.2
  have bL : ArgV (.slice (some ⟨1, 0, none⟩) n c) := ArgV.sl (by omega) cL.2
  have rM := M.r
  have fM := rM.f
  have lM := rM.l
  have tM : ([] : List Value).take (0 * 19) = [] := take_len lM
  have cM := M.c
  have aM : ArgV (.slice (some ⟨0, 0, none⟩) 0 d) := ArgV.sl (by omega) cM.2
  have bM : ArgV (.slice (some ⟨1, 0, none⟩) 0 d) := ArgV.sl (by omega) cM.2
  have fX := fl_byts X.y
  have tX : ([] : List Value).take 0 = [] := take_len X.l
  have lX : 0 ≤ ([] : List Value).length := by have := X.l; omega
  have cX := X.c
  have aX : ArgV (.slice (some ⟨2, 0, none⟩) 0 g) := ArgV.sl (by omega) cX.2
  have sX := sam_of X.y
  have nX := ArgV.nil
  have r0 := recs_nil
  have f0 : Fl [] := Fl.of rfl
  have qB1 := bkE.b
  have tB := bkE.t
  have qC1 := bkE.b
  have tC := bkE.t
  refine run_val (rkV_X _ _ _ _ _ _ _ _ _ _ _ _) (rkV_T _ _ _ _ _ _ _ _ _ _ _ _) (rkV_L _ _ _ _ _ _ _ _ _ _ _ _) (rk_xen [] [] ls [] 0 0 n c d (fun _ => 0)) ?_ rfl
  repeat' (first | exact alls_nil | refine alls_cons ?_ ?_)
  all_goals (try simp only [avLen, Nat.zero_add, Nat.zero_mul, List.nil_append, tL, tM, tX, tB, tC])
  all_goals first | with_reducible assumption | with_reducible rfl | omega | exact RestB.z | (apply RestB.a; assumption) | (apply RestB.b; assumption) | (apply RestB.c <;> assumption) | (simp only [decide_eq_false_iff_not, decide_eq_true_eq, bne_iff_ne, ne_eq]; omega) | rfl
set_option maxHeartbeats 1000000 in
theorem rk_xez_t {ls ms xs : List Value} {n c m d b g : Nat} (L : RecsU ls n c) (M : RecsU ms m d) (X : XkF xs b g) (hl : 8 < n ∧ n ≤ 20) (hm : m = 0) (hb : b ≠ 128 ∧ b ≤ 1024) : RunsTrue Try.prog 7 [.slice (some ⟨0, 0, none⟩) n c, .slice (some ⟨1, 0, none⟩) 0 d, .slice (some ⟨2, 0, none⟩) b g] [(0, ⟨.old, ls⟩), (1, ⟨.old, ms⟩), (2, ⟨.old, xs⟩)] 3 := by
  subst hm
  obtain rfl : ms = [] := List.length_eq_zero_iff.1 (by have := M.r.l; omega)
  have rL := L.r
  have fL := rL.f
  have lL := rL.l
  have tL : (ls : List Value).take (n * 19) = ls := take_len lL
  have cL := L.c
  have aL : ArgV (.slice (some ⟨0, 0, none⟩) n c) := ArgV.sl (by omega) cL.2
  have bL : ArgV (.slice (some ⟨1, 0, none⟩) n c) := ArgV.sl (by omega) cL.2
  have rM := M.r
  have fM := rM.f
  have lM := rM.l
  have tM : ([] : List Value).take (0 * 19) = [] := take_len lM
  have cM := M.c
  have aM : ArgV (.slice (some ⟨0, 0, none⟩) 0 d) := ArgV.sl (by omega) cM.2
  have bM : ArgV (.slice (some ⟨1, 0, none⟩) 0 d) := ArgV.sl (by omega) cM.2
  have fX := fl_byts X.y
  have tX : (xs : List Value).take b = xs := take_len X.l
  have lX : b ≤ (xs : List Value).length := by have := X.l; omega
  have cX := X.c
  have aX : ArgV (.slice (some ⟨2, 0, none⟩) b g) := ArgV.sl (by omega) cX.2
  have sX := sam_of X.y
  have nX := ArgV.nil
  have r0 := recs_nil
  have f0 : Fl [] := Fl.of rfl
  have qB1 := bkE.b
  have tB := bkE.t
  have qC1 := bkE.b
  have tC := bkE.t
  refine run_val (rkV_X _ _ _ _ _ _ _ _ _ _ _ _) (rkV_T _ _ _ _ _ _ _ _ _ _ _ _) (rkV_L _ _ _ _ _ _ _ _ _ _ _ _) (rk_xez [] [] ls [] xs 0 0 n c d b g (fun _ => 0)) ?_ rfl
  repeat' (first | exact alls_nil | refine alls_cons ?_ ?_)
  all_goals (try simp only [avLen, Nat.zero_add, Nat.zero_mul, List.nil_append, tL, tM, tX, tB, tC])
  all_goals first | with_reducible assumption | with_reducible rfl | omega | exact RestB.z | (apply RestB.a; assumption) | (apply RestB.b; assumption) | (apply RestB.c <;> assumption) | (simp only [decide_eq_false_iff_not, decide_eq_true_eq, bne_iff_ne, ne_eq]; omega) | rfl
set_option maxHeartbeats 1000000 in
theorem rk_xek_t {ls ms xs : List Value} {n c m d b g : Nat} (L : RecsU ls n c) (M : RecsU ms m d) (X : XkF xs b g) (hl : 8 < n ∧ n ≤ 20) (hm : m = 0) (hb : b = 128) : RunsTrue Try.prog 7 [.slice (some ⟨0, 0, none⟩) n c, .slice (some ⟨1, 0, none⟩) 0 d, .slice (some ⟨2, 0, none⟩) 128 g] [(0, ⟨.old, ls⟩), (1, ⟨.old, ms⟩), (2, ⟨.old, xs⟩)] 3 := by
  subst hm
  obtain rfl : ms = [] := List.length_eq_zero_iff.1 (by have := M.r.l; omega)
  subst hb
  have rL := L.r
  have fL := rL.f
  have lL := rL.l
  have tL : (ls : List Value).take (n * 19) = ls := take_len lL
  have cL := L.c
  have aL : ArgV (.slice (some ⟨0, 0, none⟩) n c) := ArgV.sl (by omega) cL.2
  have bL : ArgV (.slice (some ⟨1, 0, none⟩) n c) := ArgV.sl (by omega) cL.2
  have rM := M.r
  have fM := rM.f
  have lM := rM.l
  have tM : ([] : List Value).take (0 * 19) = [] := take_len lM
  have cM := M.c
  have aM : ArgV (.slice (some ⟨0, 0, none⟩) 0 d) := ArgV.sl (by omega) cM.2
  have bM : ArgV (.slice (some ⟨1, 0, none⟩) 0 d) := ArgV.sl (by omega) cM.2
  have fX := fl_byts X.y
  have tX : (xs : List Value).take 128 = xs := take_len X.l
  have lX : 128 ≤ (xs : List Value).length := by have := X.l; omega
  have cX := X.c
  have aX : ArgV (.slice (some ⟨2, 0, none⟩) 128 g) := ArgV.sl (by omega) cX.2
  have sX := sam_of X.y
  have nX := ArgV.nil
  have r0 := recs_nil
  have f0 : Fl [] := Fl.of rfl
  have qB1 := bkE.b
  have tB := bkE.t
  have qC1 := bkE.b
  have tC := bkE.t
  obtain ⟨G, qG⟩ := rkG X.y X.l
  have qG1 := qG.g
  have qG2 := qG.i
  have qG3 := qG.w
  refine run_val (rkV_X _ _ _ _ _ _ _ _ _ _ _ _) (rkV_T _ _ _ _ _ _ _ _ _ _ _ _) (rkV_L _ _ _ _ _ _ _ _ _ _ _ _) (rk_xek [] [] ls [] xs 0 0 n c d g G) ?_ rfl
  repeat' (first | exact alls_nil | refine alls_cons ?_ ?_)
  all_goals (try simp only [avLen, Nat.zero_add, Nat.zero_mul, List.nil_append, tL, tM, tX, tB, tC])
  all_goals first | with_reducible assumption | with_reducible rfl | omega | exact RestB.z | (apply RestB.a; assumption) | (apply RestB.b; assumption) | (apply RestB.c <;> assumption) | (simp only [decide_eq_false_iff_not, decide_eq_true_eq, bne_iff_ne, ne_eq]; omega) | rfl
set_option maxHeartbeats 1000000 in
theorem rk_xon_t {ls ms xs : List Value} {n c m d b g : Nat} (L : RecsU ls n c) (M : RecsU ms m d) (X : XkF xs b g) (hl : 8 < n ∧ n ≤ 20) (hm : 0 < m ∧ m ≤ 8) (hb : b = 0) : RunsTrue Try.prog 7 [.slice (some ⟨0, 0, none⟩) n c, .slice (some ⟨1, 0, none⟩) m d, .slice none 0 0] [(0, ⟨.old, ls⟩), (1, ⟨.old, ms⟩)] 3 := by
  subst hb
  obtain rfl : xs = [] := List.length_eq_zero_iff.1 X.l
  have rL := L.r
  have fL := rL.f
  have lL := rL.l
  have tL : (ls : List Value).take (n * 19) = ls := take_len lL
  have cL := L.c
  have aL : ArgV (.slice (some ⟨0, 0, none⟩) n c) := ArgV.sl (by omega) cL.2
  have bL : ArgV (.slice (some ⟨1, 0, none⟩) n c) := ArgV.sl (by omega) cL.2
  have rM := M.r
  have fM := rM.f
  have lM := rM.l
  have tM : (ms : List Value).take (m * 19) = ms := take_len lM
  have cM := M.c
  have aM : ArgV (.slice (some ⟨0, 0, none⟩) m d) := ArgV.sl (by omega) cM.2
  have bM : ArgV (.slice (some ⟨1, 0, none⟩) m d) := ArgV.sl (by omega) cM.2
  have fX := fl_byts X.y
  have tX : ([] : List Value).take 0 = [] := take_len X.l
  have lX : 0 ≤ ([] : List Value).length := by have := X.l; omega
  have cX := X.c
  have aX : ArgV (.slice (some ⟨2, 0, none⟩) 0 g) := ArgV.sl (by omega) cX.2
  have sX := sam_of X.y
  have nX := ArgV.nil
  have r0 := recs_nil
  have f0 : Fl [] := Fl.of rfl
  have qB1 := bkE.b
  have tB := bkE.t
  obtain ⟨C, M1, qC⟩ := bkO M hm
  have qC1 := qC.b
  have qC2 := qC.r
  have qC3 := qC.s
  have qC4 := qC.l
  have tC := qC.t
  have qC5 := qC.f
  refine run_val (rkV_X _ _ _ _ _ _ _ _ _ _ _ _) (rkV_T _ _ _ _ _ _ _ _ _ _ _ _) (rkV_L _ _ _ _ _ _ _ _ _ _ _ _) (rk_xon [] C ls ms 0 M1 n c m d (fun _ => 0)) ?_ rfl
  repeat' (first | exact alls_nil | refine alls_cons ?_ ?_)
  all_goals (try simp only [avLen, Nat.zero_add, Nat.zero_mul, List.nil_append, tL, tM, tX, tB, tC])
  all_goals first | with_reducible assumption | with_reducible rfl | omega | exact RestB.z | (apply RestB.a; assumption) | (apply RestB.b; assumption) | (apply RestB.c <;> assumption) | (simp only [decide_eq_false_iff_not, decide_eq_true_eq, bne_iff_ne, ne_eq]; omega) | rfl
set_option maxHeartbeats 1000000 in
theorem rk_xoz_t {ls ms xs : List Value} {n c m d b g : Nat} (L : RecsU ls n c) (M : RecsU ms m d) (X : XkF xs b g) (hl : 8 < n ∧ n ≤ 20) (hm : 0 < m ∧ m ≤ 8) (hb : b ≠ 128 ∧ b ≤ 1024) : RunsTrue Try.prog 7 [.slice (some ⟨0, 0, none⟩) n c, .slice (some ⟨1, 0, none⟩) m d, .slice (some ⟨2, 0, none⟩) b g] [(0, ⟨.old, ls⟩), (1, ⟨.old, ms⟩), (2, ⟨.old, xs⟩)] 3 := by
  have rL := L.r
  have fL := rL.f
  have lL := rL.l
  have tL : (ls : List Value).take (n * 19) = ls := take_len lL
  have cL := L.c
  have aL : ArgV (.slice (some ⟨0, 0, none⟩) n c) := ArgV.sl (by omega) cL.2
  have bL : ArgV (.slice (some ⟨1, 0, none⟩) n c) := ArgV.sl (by omega) cL.2
  have rM := M.r
  have fM := rM.f
  have lM := rM.l
  have tM : (ms : List Value).take (m * 19) = ms := take_len lM
  have cM := M.c
  have aM : ArgV (.slice (some ⟨0, 0, none⟩) m d) := ArgV.sl (by omega) cM.2
  have bM : ArgV (.slice (some ⟨1, 0, none⟩) m d) := ArgV.sl (by omega) cM.2
  have fX := fl_byts X.y
  have tX : (xs : List Value).take b = xs := take_len X.l
  have lX : b ≤ (xs : List Value).length := by have := X.l; omega
  have cX := X.c
  have aX : ArgV (.slice (some ⟨2, 0, none⟩) b g) := ArgV.sl (by omega) cX.2
  have sX := sam_of X.y
  have nX := ArgV.nil
  have r0 := recs_nil
  have f0 : Fl [] := Fl.of rfl
  have qB1 := bkE.b
  have tB := bkE.t
  obtain ⟨C, M1, qC⟩ := bkO M hm
  have qC1 := qC.b
  have qC2 := qC.r
  have qC3 := qC.s
  have qC4 := qC.l
  have tC := qC.t
  have qC5 := qC.f
  refine run_val (rkV_X _ _ _ _ _ _ _ _ _ _ _ _) (rkV_T _ _ _ _ _ _ _ _ _ _ _ _) (rkV_L _ _ _ _ _ _ _ _ _ _ _ _) (rk_xoz [] C ls ms xs 0 M1 n c m d b g (fun _ => 0)) ?_ rfl
  repeat' (first | exact alls_nil | refine alls_cons ?_ ?_)
  all_goals (try simp only [avLen, Nat.zero_add, Nat.zero_mul, List.nil_append, tL, tM, tX, tB, tC])
  all_goals first | with_reducible assumption | with_reducible rfl | omega | exact RestB.z | (apply RestB.a; assumption) | (apply RestB.b; assumption) | (apply RestB.c <;> assumption) | (simp only [decide_eq_false_iff_not, decide_eq_true_eq, bne_iff_ne, ne_eq]; omega) | rfl
set_option maxHeartbeats 1000000 in
theorem rk_xok_t {ls ms xs : List Value} {n c m d b g : Nat} (L : RecsU ls n c) (M : RecsU ms m d) (X : XkF xs b g) (hl : 8 < n ∧ n ≤ 20) (hm : 0 < m ∧ m ≤ 8) (hb : b = 128) : RunsTrue Try.prog 7 [.slice (some ⟨0, 0, none⟩) n c, .slice (some ⟨1, 0, none⟩) m d, .slice (some ⟨2, 0, none⟩) 128 g] [(0, ⟨.old, ls⟩), (1, ⟨.old, ms⟩), (2, ⟨.old, xs⟩)] 3 := by
  subst hb
  have rL := L.r
  have fL := rL.f
  have lL := rL.l
  have tL : (ls : List Value).take (n * 19) = ls := take_len lL
  have cL := L.c
  have aL : ArgV (.slice (some ⟨0, 0, none⟩) n c) := ArgV.sl (by omega) cL.2
  have bL : ArgV (.slice (some ⟨1, 0, none⟩) n c) := ArgV.sl (by omega) cL.2
  have rM := M.r
  have fM := rM.f
  have lM := rM.l
  have tM : (ms : List Value).take (m * 19) = ms := take_len lM
  have cM := M.c
  have aM : ArgV (.slice (some ⟨0, 0, none⟩) m d) := ArgV.sl (by omega) cM.2
  have bM : ArgV (.slice (some ⟨1, 0, none⟩) m d) := ArgV.sl (by omega) cM.2
  have fX := fl_byts X.y
  have tX : (xs : List Value).take 128 = xs := take_len X.l
  have lX : 128 ≤ (xs : List Value).length := by have := X.l; omega
  have cX := X.c
  have aX : ArgV (.slice (some ⟨2, 0, none⟩) 128 g) := ArgV.sl (by omega) cX.2
  have sX := sam_of X.y
  have nX := ArgV.nil
  have r0 := recs_nil
  have f0 : Fl [] := Fl.of rfl
  have qB1 := bkE.b
  have tB := bkE.t
  obtain ⟨C, M1, qC⟩ := bkO M hm
  have qC1 := qC.b
  have qC2 := qC.r
  have qC3 := qC.s
  have qC4 := qC.l
  have tC := qC.t
  have qC5 := qC.f
  obtain ⟨G, qG⟩ := rkG X.y X.l
  have qG1 := qG.g
  have qG2 := qG.i
  have qG3 := qG.w
  refine run_val (rkV_X _ _ _ _ _ _ _ _ _ _ _ _) (rkV_T _ _ _ _ _ _ _ _ _ _ _ _) (rkV_L _ _ _ _ _ _ _ _ _ _ _ _) (rk_xok [] C ls ms xs 0 M1 n c m d g G) ?_ rfl
  repeat' (first | exact alls_nil | refine alls_cons ?_ ?_)
  all_goals (try simp only [avLen, Nat.zero_add, Nat.zero_mul, List.nil_append, tL, tM, tX, tB, tC])
  all_goals first | with_reducible assumption | with_reducible rfl | omega | exact RestB.z | (apply RestB.a; assumption) | (apply RestB.b; assumption) | (apply RestB.c <;> assumption) | (simp only [decide_eq_false_iff_not, decide_eq_true_eq, bne_iff_ne, ne_eq]; omega) | rfl
set_option maxHeartbeats 1000000 in
theorem rk_xxn_t {ls ms xs : List Value} {n c m d b g : Nat} (L : RecsU ls n c) (M : RecsU ms m d) (X : XkF xs b g) (hl : 8 < n ∧ n ≤ 20) (hm : 8 < m ∧ m ≤ 20) (hb : b = 0) : RunsTrue Try.prog 7 [.slice (some ⟨0, 0, none⟩) n c, .slice (some ⟨1, 0, none⟩) m d, .slice none 0 0] [(0, ⟨.old, ls⟩), (1, ⟨.old, ms⟩)] 3 := by
  subst hb
  obtain rfl : xs = [] := List.length_eq_zero_iff.1 X.l
  have rL := L.r
  have fL := rL.f
  have lL := rL.l
  have tL : (ls : List Value).take (n * 19) = ls := take_len lL
  have cL := L.c
  have aL : ArgV (.slice (some ⟨0, 0, none⟩) n c) := ArgV.sl (by omega) cL.2
  have bL : ArgV (.slice (some ⟨1, 0, none⟩) n c) := ArgV.sl (by omega) cL.2
  have rM := M.r
  have fM := rM.f
  have lM := rM.l
  have tM : (ms : List Value).take (m * 19) = ms := take_len lM
  have cM := M.c
  have aM : ArgV (.slice (some ⟨0, 0, none⟩) m d) := ArgV.sl (by omega) cM.2
  have bM : ArgV (.slice (some ⟨1, 0, none⟩) m d) := ArgV.sl (by omega) cM.2
  have fX := fl_byts X.y
  have tX : ([] : List Value).take 0 = [] := take_len X.l
  have lX : 0 ≤ ([] : List Value).length := by have := X.l; omega
  have cX := X.c
  have aX : ArgV (.slice (some ⟨2, 0, none⟩) 0 g) := ArgV.sl (by omega) cX.2
  have sX := sam_of X.y
  have nX := ArgV.nil
  have r0 := recs_nil
  have f0 : Fl [] := Fl.of rfl
  have qB1 := bkE.b
  have tB := bkE.t
  have qC1 := bkE.b
  have tC := bkE.t
  refine run_val (rkV_X _ _ _ _ _ _ _ _ _ _ _ _) (rkV_T _ _ _ _ _ _ _ _ _ _ _ _) (rkV_L _ _ _ _ _ _ _ _ _ _ _ _) (rk_xxn [] [] ls ms 0 0 n c m d (fun _ => 0)) ?_ rfl
  repeat' (first | exact alls_nil | refine alls_cons ?_ ?_)
  all_goals (try simp only [avLen, Nat.zero_add, Nat.zero_mul, List.nil_append, tL, tM, tX, tB, tC])
  all_goals first | with_reducible assumption | with_reducible rfl | omega | exact RestB.z | (apply RestB.a; assumption) | (apply RestB.b; assumption) | (apply RestB.c <;> assumption) | (simp only [decide_eq_false_iff_not, decide_eq_true_eq, bne_iff_ne, ne_eq]; omega) | rfl
set_option maxHeartbeats 1000000 in
theorem rk_xxz_t {ls ms xs : List Value} {n c m d b g : Nat} (L : RecsU ls n c) (M : RecsU ms m d) (X : XkF xs b g) (hl : 8 < n ∧ n ≤ 20) (hm : 8 < m ∧ m ≤ 20) (hb : b ≠ 128 ∧ b ≤ 1024) : RunsTrue Try.prog 7 [.slice (some ⟨0, 0, none⟩) n c, .slice (some ⟨1, 0, none⟩) m d, .slice (some ⟨2, 0, none⟩) b g] [(0, ⟨.old, ls⟩), (1, ⟨.old, ms⟩), (2, ⟨.old, xs⟩)] 3 := by
  have rL := L.r
  have fL := rL.f
  have lL := rL.l
  have tL : (ls : List Value).take (n * 19) = ls := take_len lL
  have cL := L.c
  have aL : ArgV (.slice (some ⟨0, 0, none⟩) n c) := ArgV.sl (by omega) cL.2
  have bL : ArgV (.slice (some ⟨1, 0, none⟩) n c) := ArgV.sl (by omega) cL.2
  have rM := M.r
  have fM := rM.f
  have lM := rM.l
  have tM : (ms : List Value).take (m * 19) = ms := take_len lM
  have cM := M.c
  have aM : ArgV (.slice (some ⟨0, 0, none⟩) m d) := ArgV.sl (by omega) cM.2
  have bM : ArgV (.slice (some ⟨1, 0, none⟩) m d) := ArgV.sl (by omega) cM.2
  have fX := fl_byts X.y
  have tX : (xs : List Value).take b = xs := take_len X.l
  have lX : b ≤ (xs : List Value).length := by have := X.l; omega
  have cX := X.c
  have aX : ArgV (.slice (some ⟨2, 0, none⟩) b g) := ArgV.sl (by omega) cX.2
  have sX := sam_of X.y
  have nX := ArgV.nil
  have r0 := recs_nil
  have f0 : Fl [] := Fl.of rfl
  have qB1 := bkE.b
  have tB := bkE.t
  have qC1 := bkE.b
  have tC := bkE.t
  refine run_val (rkV_X _ _ _ _ _ _ _ _ _ _ _ _) (rkV_T _ _ _ _ _ _ _ _ _ _ _ _) (rkV_L _ _ _ _ _ _ _ _ _ _ _ _) (rk_xxz [] [] ls ms xs 0 0 n c m d b g (fun _ => 0)) ?_ rfl
  repeat' (first | exact alls_nil | refine alls_cons ?_ ?_)
  all_goals (try simp only [avLen, Nat.zero_add, Nat.zero_mul, List.nil_append, tL, tM, tX, tB, tC])
  all_goals first | with_reducible assumption | with_reducible rfl | omega | exact RestB.z | (apply RestB.a; assumption) | (apply RestB.b; assumption) | (apply RestB.c <;> assumption) | (simp only [decide_eq_false_iff_not, decide_eq_true_eq, bne_iff_ne, ne_eq]; omega) | rfl
set_option maxHeartbeats 1000000 in
theorem rk_xxk_t {ls ms xs : List Value} {n c m d b g : Nat} (L : RecsU ls n c) (M : RecsU ms m d) (X : XkF xs b g) (hl : 8 < n ∧ n ≤ 20) (hm : 8 < m ∧ m ≤ 20) (hb : b = 128) : RunsTrue Try.prog 7 [.slice (some ⟨0, 0, none⟩) n c, .slice (some ⟨1, 0, none⟩) m d, .slice (some ⟨2, 0, none⟩) 128 g] [(0, ⟨.old, ls⟩), (1, ⟨.old, ms⟩), (2, ⟨.old, xs⟩)] 3 := by
  subst hb
  have rL := L.r
  have fL := rL.f
  have lL := rL.l
  have tL : (ls : List Value).take (n * 19) = ls := take_len lL
  have cL := L.c
  have aL : ArgV (.slice (some ⟨0, 0, none⟩) n c) := ArgV.sl (by omega) cL.2
  have bL : ArgV (.slice (some ⟨1, 0, none⟩) n c) := ArgV.sl (by omega) cL.2
  have rM := M.r
  have fM := rM.f
  have lM := rM.l
  have tM : (ms : List Value).take (m * 19) = ms := take_len lM
  have cM := M.c
  have aM : ArgV (.slice (some ⟨0, 0, none⟩) m d) := ArgV.sl (by omega) cM.2
  have bM : ArgV (.slice (some ⟨1, 0, none⟩) m d) := ArgV.sl (by omega) cM.2
  have fX := fl_byts X.y
  have tX : (xs : List Value).take 128 = xs := take_len X.l
  have lX : 128 ≤ (xs : List Value).length := by have := X.l; omega
  have cX := X.c
  have aX : ArgV (.slice (some ⟨2, 0, none⟩) 128 g) := ArgV.sl (by omega) cX.2
  have sX := sam_of X.y
  have nX := ArgV.nil
  have r0 := recs_nil
  have f0 : Fl [] := Fl.of rfl
  have qB1 := bkE.b
  have tB := bkE.t
  have qC1 := bkE.b
  have tC := bkE.t
  obtain ⟨G, qG⟩ := rkG X.y X.l
  have qG1 := qG.g
  have qG2 := qG.i
  have qG3 := qG.w
  refine run_val (rkV_X _ _ _ _ _ _ _ _ _ _ _ _) (rkV_T _ _ _ _ _ _ _ _ _ _ _ _) (rkV_L _ _ _ _ _ _ _ _ _ _ _ _) (rk_xxk [] [] ls ms xs 0 0 n c m d g G) ?_ rfl
  repeat' (first | exact alls_nil | refine alls_cons ?_ ?_)
  all_goals (try simp only [avLen, Nat.zero_add, Nat.zero_mul, List.nil_append, tL, tM, tX, tB, tC])
  all_goals first | with_reducible assumption | with_reducible rfl | omega | exact RestB.z | (apply RestB.a; assumption) | (apply RestB.b; assumption) | (apply RestB.c <;> assumption) | (simp only [decide_eq_false_iff_not, decide_eq_true_eq, bne_iff_ne, ne_eq]; omega) | rfl
end Go.Proofs.Ytgpgdkpfeoaidaa
