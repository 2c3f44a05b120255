/-
  Chapter 02: the statement RecordBatches, its obligations (o).
-/
import Derived.Test.YtgpgdkpfeoaidaaRecKo
import Derived.Test.YtgpgdkpfeoaidaaRecM
namespace Go.Proofs.Ytgpgdkpfeoaidaa
set_option linter.unusedSimpArgs false
set_option linter.unusedVariables false
set_option linter.unusedSectionVars false
open Go Go.RowKit

set_option maxHeartbeats 1000000 in
theorem bt_onn_t {t : Bt} {ls ms xs : List Value} {n c m d b g : Nat} (F : BtF t ls n ms m xs b) (L : LsF ls n c) (M : LsF ms m d) (X : XsF xs b g) (hl : 0 < n ∧ n ≤ 8) (hm : m = 0) (hb : b = 0) : RunsTrue Try.prog 6 [.slice (some ⟨0, 0, none⟩) n c, .slice none 0 0, .slice none 0 0] [(0, ⟨.old, ls⟩)] 3 := by
  subst hm
  obtain rfl : ms = [] := List.length_eq_zero_iff.1 (by have := M.r.l; omega)
  subst hb
  obtain rfl : xs = [] := List.length_eq_zero_iff.1 X.l
  have G := btG F L M X
  have ⟨eJ, eK, tJ, tK, tX, tB, tC, tB2, tC2, tO, tL, tM⟩ := btW G
  cases G
  have hBB := F.bl (by omega)
  have ⟨pBB, cBB, cDB⟩ := bt_pos hBB F.yB F.mB (by omega)
  have hBC := F.bm (by omega)
  have ⟨pBC, sZC, sYC⟩ := bt_zero hBC F.yC F.lC
  have hR := F.rn (by unfold rdNo at *; omega)
  refine run_val (btV_X _ _ _) (btV_T _ _ _) (btV_L _ _ _) (bt_onn t ls n c) ?_ rfl
  repeat' (first | exact alls_nil | refine alls_cons ?_ ?_)
  all_goals (try simp only [avLen, Nat.zero_add, List.nil_append, eJ, eK, tJ, tK, tX, tB, tC, tB2, tC2, tO, tL, tM])
  all_goals first | with_reducible assumption | with_reducible rfl | omega | with_reducible exact beq_self_eq_true _ | (simp only [decide_eq_false_iff_not, decide_eq_true_eq]; omega)
set_option maxHeartbeats 1000000 in
theorem bt_onz_t {t : Bt} {ls ms xs : List Value} {n c m d b g : Nat} (F : BtF t ls n ms m xs b) (L : LsF ls n c) (M : LsF ms m d) (X : XsF xs b g) (hl : 0 < n ∧ n ≤ 8) (hm : m = 0) (hb : rdNo b) (h3 : b ≤ 3000) : RunsTrue Try.prog 6 [.slice (some ⟨0, 0, none⟩) n c, .slice none 0 0, .slice (some ⟨2, 0, none⟩) b g] [(0, ⟨.old, ls⟩), (2, ⟨.old, xs⟩)] 3 := by
  subst hm
  obtain rfl : ms = [] := List.length_eq_zero_iff.1 (by have := M.r.l; omega)
  have G := btG F L M X
  have ⟨eJ, eK, tJ, tK, tX, tB, tC, tB2, tC2, tO, tL, tM⟩ := btW G
  cases G
  have hBB := F.bl (by omega)
  have ⟨pBB, cBB, cDB⟩ := bt_pos hBB F.yB F.mB (by omega)
  have hBC := F.bm (by omega)
  have ⟨pBC, sZC, sYC⟩ := bt_zero hBC F.yC F.lC
  have hR := F.rn hb
  refine run_val (btV_X _ _ _) (btV_T _ _ _) (btV_L _ _ _) (bt_onz t ls xs n c b g) ?_ rfl
  repeat' (first | exact alls_nil | refine alls_cons ?_ ?_)
  all_goals (try simp only [avLen, Nat.zero_add, List.nil_append, eJ, eK, tJ, tK, tX, tB, tC, tB2, tC2, tO, tL, tM])
  all_goals first | with_reducible assumption | with_reducible rfl | omega | with_reducible exact beq_self_eq_true _ | (simp only [decide_eq_false_iff_not, decide_eq_true_eq]; omega)
set_option maxHeartbeats 1000000 in
theorem bt_onk_t {t : Bt} {ls ms xs : List Value} {n c m d b g : Nat} (F : BtF t ls n ms m xs b) (L : LsF ls n c) (M : LsF ms m d) (X : XsF xs b g) (hl : 0 < n ∧ n ≤ 8) (hm : m = 0) (hb : ¬ rdNo b) (h3 : b ≤ 3000) : RunsTrue Try.prog 6 [.slice (some ⟨0, 0, none⟩) n c, .slice none 0 0, .slice (some ⟨2, 0, none⟩) b g] [(0, ⟨.old, ls⟩), (2, ⟨.old, xs⟩)] 3 := by
  subst hm
  obtain rfl : ms = [] := List.length_eq_zero_iff.1 (by have := M.r.l; omega)
  have G := btG F L M X
  have ⟨eJ, eK, tJ, tK, tX, tB, tC, tB2, tC2, tO, tL, tM⟩ := btW G
  cases G
  have hBB := F.bl (by omega)
  have ⟨pBB, cBB, cDB⟩ := bt_pos hBB F.yB F.mB (by omega)
  have hBC := F.bm (by omega)
  have ⟨pBC, sZC, sYC⟩ := bt_zero hBC F.yC F.lC
  have hR := F.rs hb
  refine run_val (btV_X _ _ _) (btV_T _ _ _) (btV_L _ _ _) (bt_onk t ls xs n c b g) ?_ rfl
  repeat' (first | exact alls_nil | refine alls_cons ?_ ?_)
  all_goals (try simp only [avLen, Nat.zero_add, List.nil_append, eJ, eK, tJ, tK, tX, tB, tC, tB2, tC2, tO, tL, tM])
  all_goals first | with_reducible assumption | with_reducible rfl | omega | with_reducible exact beq_self_eq_true _ | (simp only [decide_eq_false_iff_not, decide_eq_true_eq]; omega)
set_option maxHeartbeats 1000000 in
theorem bt_oen_t {t : Bt} {ls ms xs : List Value} {n c m d b g : Nat} (F : BtF t ls n ms m xs b) (L : LsF ls n c) (M : LsF ms m d) (X : XsF xs b g) (hl : 0 < n ∧ n ≤ 8) (hm : m = 0) (hb : b = 0) : RunsTrue Try.prog 6 [.slice (some ⟨0, 0, none⟩) n c, .slice (some ⟨1, 0, none⟩) 0 d, .slice none 0 0] [(0, ⟨.old, ls⟩), (1, ⟨.old, ms⟩)] 3 := by
  subst hm
  obtain rfl : ms = [] := List.length_eq_zero_iff.1 (by have := M.r.l; omega)
  subst hb
  obtain rfl : xs = [] := List.length_eq_zero_iff.1 X.l
  have G := btG F L M X
  have ⟨eJ, eK, tJ, tK, tX, tB, tC, tB2, tC2, tO, tL, tM⟩ := btW G
  cases G
  have hBB := F.bl (by omega)
  have ⟨pBB, cBB, cDB⟩ := bt_pos hBB F.yB F.mB (by omega)
  have hBC := F.bm (by omega)
  have ⟨pBC, sZC, sYC⟩ := bt_zero hBC F.yC F.lC
  have hR := F.rn (by unfold rdNo at *; omega)
  refine run_val (btV_X _ _ _) (btV_T _ _ _) (btV_L _ _ _) (bt_oen t ls [] n c d) ?_ rfl
  repeat' (first | exact alls_nil | refine alls_cons ?_ ?_)
  all_goals (try simp only [avLen, Nat.zero_add, List.nil_append, eJ, eK, tJ, tK, tX, tB, tC, tB2, tC2, tO, tL, tM])
  all_goals first | with_reducible assumption | with_reducible rfl | omega | with_reducible exact beq_self_eq_true _ | (simp only [decide_eq_false_iff_not, decide_eq_true_eq]; omega)
set_option maxHeartbeats 1000000 in
theorem bt_oez_t {t : Bt} {ls ms xs : List Value} {n c m d b g : Nat} (F : BtF t ls n ms m xs b) (L : LsF ls n c) (M : LsF ms m d) (X : XsF xs b g) (hl : 0 < n ∧ n ≤ 8) (hm : m = 0) (hb : rdNo b) (h3 : b ≤ 3000) : RunsTrue Try.prog 6 [.slice (some ⟨0, 0, none⟩) n c, .slice (some ⟨1, 0, none⟩) 0 d, .slice (some ⟨2, 0, none⟩) b g] [(0, ⟨.old, ls⟩), (1, ⟨.old, ms⟩), (2, ⟨.old, xs⟩)] 3 := by
  subst hm
  obtain rfl : ms = [] := List.length_eq_zero_iff.1 (by have := M.r.l; omega)
  have G := btG F L M X
  have ⟨eJ, eK, tJ, tK, tX, tB, tC, tB2, tC2, tO, tL, tM⟩ := btW G
  cases G
  have hBB := F.bl (by omega)
  have ⟨pBB, cBB, cDB⟩ := bt_pos hBB F.yB F.mB (by omega)
  have hBC := F.bm (by omega)
  have ⟨pBC, sZC, sYC⟩ := bt_zero hBC F.yC F.lC
  have hR := F.rn hb
  refine run_val (btV_X _ _ _) (btV_T _ _ _) (btV_L _ _ _) (bt_oez t ls [] xs n c d b g) ?_ rfl
  repeat' (first | exact alls_nil | refine alls_cons ?_ ?_)
  all_goals (try simp only [avLen, Nat.zero_add, List.nil_append, eJ, eK, tJ, tK, tX, tB, tC, tB2, tC2, tO, tL, tM])
  all_goals first | with_reducible assumption | with_reducible rfl | omega | with_reducible exact beq_self_eq_true _ | (simp only [decide_eq_false_iff_not, decide_eq_true_eq]; omega)
set_option maxHeartbeats 1000000 in
theorem bt_oek_t {t : Bt} {ls ms xs : List Value} {n c m d b g : Nat} (F : BtF t ls n ms m xs b) (L : LsF ls n c) (M : LsF ms m d) (X : XsF xs b g) (hl : 0 < n ∧ n ≤ 8) (hm : m = 0) (hb : ¬ rdNo b) (h3 : b ≤ 3000) : RunsTrue Try.prog 6 [.slice (some ⟨0, 0, none⟩) n c, .slice (some ⟨1, 0, none⟩) 0 d, .slice (some ⟨2, 0, none⟩) b g] [(0, ⟨.old, ls⟩), (1, ⟨.old, ms⟩), (2, ⟨.old, xs⟩)] 3 := by
  subst hm
  obtain rfl : ms = [] := List.length_eq_zero_iff.1 (by have := M.r.l; omega)
  have G := btG F L M X
  have ⟨eJ, eK, tJ, tK, tX, tB, tC, tB2, tC2, tO, tL, tM⟩ := btW G
  cases G
  have hBB := F.bl (by omega)
  have ⟨pBB, cBB, cDB⟩ := bt_pos hBB F.yB F.mB (by omega)
  have hBC := F.bm (by omega)
  have ⟨pBC, sZC, sYC⟩ := bt_zero hBC F.yC F.lC
  have hR := F.rs hb
  refine run_val (btV_X _ _ _) (btV_T _ _ _) (btV_L _ _ _) (bt_oek t ls [] xs n c d b g) ?_ rfl
  repeat' (first | exact alls_nil | refine alls_cons ?_ ?_)
  all_goals (try simp only [avLen, Nat.zero_add, List.nil_append, eJ, eK, tJ, tK, tX, tB, tC, tB2, tC2, tO, tL, tM])
  all_goals first | with_reducible assumption | with_reducible rfl | omega | with_reducible exact beq_self_eq_true _ | (simp only [decide_eq_false_iff_not, decide_eq_true_eq]; omega)
set_option maxHeartbeats 1000000 in
theorem bt_oon_t {t : Bt} {ls ms xs : List Value} {n c m d b g : Nat} (F : BtF t ls n ms m xs b) (L : LsF ls n c) (M : LsF ms m d) (X : XsF xs b g) (hl : 0 < n ∧ n ≤ 8) (hm : 0 < m ∧ m ≤ 8) (hb : b = 0) : RunsTrue Try.prog 6 [.slice (some ⟨0, 0, none⟩) n c, .slice (some ⟨1, 0, none⟩) m d, .slice none 0 0] [(0, ⟨.old, ls⟩), (1, ⟨.old, ms⟩)] 3 := by
  subst hb
  obtain rfl : xs = [] := List.length_eq_zero_iff.1 X.l
  have G := btG F L M X
  have ⟨eJ, eK, tJ, tK, tX, tB, tC, tB2, tC2, tO, tL, tM⟩ := btW G
  cases G
  have hBB := F.bl (by omega)
  have ⟨pBB, cBB, cDB⟩ := bt_pos hBB F.yB F.mB (by omega)
  have hBC := F.bm (by omega)
  have ⟨pBC, cBC, cDC⟩ := bt_pos hBC F.yC F.mC (by omega)
  have hR := F.rn (by unfold rdNo at *; omega)
  refine run_val (btV_X _ _ _) (btV_T _ _ _) (btV_L _ _ _) (bt_oon t ls ms n c m d) ?_ rfl
  repeat' (first | exact alls_nil | refine alls_cons ?_ ?_)
  all_goals (try simp only [avLen, Nat.zero_add, List.nil_append, eJ, eK, tJ, tK, tX, tB, tC, tB2, tC2, tO, tL, tM])
  all_goals first | with_reducible assumption | with_reducible rfl | omega | with_reducible exact beq_self_eq_true _ | (simp only [decide_eq_false_iff_not, decide_eq_true_eq]; omega)
set_option maxHeartbeats 1000000 in
theorem bt_ooz_t {t : Bt} {ls ms xs : List Value} {n c m d b g : Nat} (F : BtF t ls n ms m xs b) (L : LsF ls n c) (M : LsF ms m d) (X : XsF xs b g) (hl : 0 < n ∧ n ≤ 8) (hm : 0 < m ∧ m ≤ 8) (hb : rdNo b) (h3 : b ≤ 3000) : RunsTrue Try.prog 6 [.slice (some ⟨0, 0, none⟩) n c, .slice (some ⟨1, 0, none⟩) m d, .slice (some ⟨2, 0, none⟩) b g] [(0, ⟨.old, ls⟩), (1, ⟨.old, ms⟩), (2, ⟨.old, xs⟩)] 3 := by
  have G := btG F L M X
  have ⟨eJ, eK, tJ, tK, tX, tB, tC, tB2, tC2, tO, tL, tM⟩ := btW G
  cases G
  have hBB := F.bl (by omega)
  have ⟨pBB, cBB, cDB⟩ := bt_pos hBB F.yB F.mB (by omega)
  have hBC := F.bm (by omega)
  have ⟨pBC, cBC, cDC⟩ := bt_pos hBC F.yC F.mC (by omega)
  have hR := F.rn hb
  refine run_val (btV_X _ _ _) (btV_T _ _ _) (btV_L _ _ _) (bt_ooz t ls ms xs n c m d b g) ?_ rfl
  repeat' (first | exact alls_nil | refine alls_cons ?_ ?_)
  all_goals (try simp only [avLen, Nat.zero_add, List.nil_append, eJ, eK, tJ, tK, tX, tB, tC, tB2, tC2, tO, tL, tM])
  all_goals first | with_reducible assumption | with_reducible rfl | omega | with_reducible exact beq_self_eq_true _ | (simp only [decide_eq_false_iff_not, decide_eq_true_eq]; omega)
set_option maxHeartbeats 1000000 in
theorem bt_ook_t {t : Bt} {ls ms xs : List Value} {n c m d b g : Nat} (F : BtF t ls n ms m xs b) (L : LsF ls n c) (M : LsF ms m d) (X : XsF xs b g) (hl : 0 < n ∧ n ≤ 8) (hm : 0 < m ∧ m ≤ 8) (hb : ¬ rdNo b) (h3 : b ≤ 3000) : RunsTrue Try.prog 6 [.slice (some ⟨0, 0, none⟩) n c, .slice (some ⟨1, 0, none⟩) m d, .slice (some ⟨2, 0, none⟩) b g] [(0, ⟨.old, ls⟩), (1, ⟨.old, ms⟩), (2, ⟨.old, xs⟩)] 3 := by
  have G := btG F L M X
  have ⟨eJ, eK, tJ, tK, tX, tB, tC, tB2, tC2, tO, tL, tM⟩ := btW G
  cases G
  have hBB := F.bl (by omega)
  have ⟨pBB, cBB, cDB⟩ := bt_pos hBB F.yB F.mB (by omega)
  have hBC := F.bm (by omega)
  have ⟨pBC, cBC, cDC⟩ := bt_pos hBC F.yC F.mC (by omega)
  have hR := F.rs hb
  refine run_val (btV_X _ _ _) (btV_T _ _ _) (btV_L _ _ _) (bt_ook t ls ms xs n c m d b g) ?_ rfl
  repeat' (first | exact alls_nil | refine alls_cons ?_ ?_)
  all_goals (try simp only [avLen, Nat.zero_add, List.nil_append, eJ, eK, tJ, tK, tX, tB, tC, tB2, tC2, tO, tL, tM])
  all_goals first | with_reducible assumption | with_reducible rfl | omega | with_reducible exact beq_self_eq_true _ | (simp only [decide_eq_false_iff_not, decide_eq_true_eq]; omega)
set_option maxHeartbeats 1000000 in
theorem bt_oxn_t {t : Bt} {ls ms xs : List Value} {n c m d b g : Nat} (F : BtF t ls n ms m xs b) (L : LsF ls n c) (M : LsF ms m d) (X : XsF xs b g) (hl : 0 < n ∧ n ≤ 8) (hm : 8 < m ∧ m ≤ 20) (hb : b = 0) : RunsTrue Try.prog 6 [.slice (some ⟨0, 0, none⟩) n c, .slice (some ⟨1, 0, none⟩) m d, .slice none 0 0] [(0, ⟨.old, ls⟩), (1, ⟨.old, ms⟩)] 3 := by
  subst hb
  obtain rfl : xs = [] := List.length_eq_zero_iff.1 X.l
  have G := btG F L M X
  have ⟨eJ, eK, tJ, tK, tX, tB, tC, tB2, tC2, tO, tL, tM⟩ := btW G
  cases G
  have hBB := F.bl (by omega)
  have ⟨pBB, cBB, cDB⟩ := bt_pos hBB F.yB F.mB (by omega)
  have hR := F.rn (by unfold rdNo at *; omega)
  refine run_val (btV_X _ _ _) (btV_T _ _ _) (btV_L _ _ _) (bt_oxn t ls ms n c m d) ?_ rfl
  repeat' (first | exact alls_nil | refine alls_cons ?_ ?_)
  all_goals (try simp only [avLen, Nat.zero_add, List.nil_append, eJ, eK, tJ, tK, tX, tB, tC, tB2, tC2, tO, tL, tM])
  all_goals first | with_reducible assumption | with_reducible rfl | omega | with_reducible exact beq_self_eq_true _ | (simp only [decide_eq_false_iff_not, decide_eq_true_eq]; omega)
set_option maxHeartbeats 1000000 in
theorem bt_oxz_t {t : Bt} {ls ms xs : List Value} {n c m d b g : Nat} (F : BtF t ls n ms m xs b) (L : LsF ls n c) (M : LsF ms m d) (X : XsF xs b g) (hl : 0 < n ∧ n ≤ 8) (hm : 8 < m ∧ m ≤ 20) (hb : rdNo b) (h3 : b ≤ 3000) : RunsTrue Try.prog 6 [.slice (some ⟨0, 0, none⟩) n c, .slice (some ⟨1, 0, none⟩) m d, .slice (some ⟨2, 0, none⟩) b g] [(0, ⟨.old, ls⟩), (1, ⟨.old, ms⟩), (2, ⟨.old, xs⟩)] 3 := by
  have G := btG F L M X
  have ⟨eJ, eK, tJ, tK, tX, tB, tC, tB2, tC2, tO, tL, tM⟩ := btW G
  cases G
  have hBB := F.bl (by omega)
  have ⟨pBB, cBB, cDB⟩ := bt_pos hBB F.yB F.mB (by omega)
  have hR := F.rn hb
  refine run_val (btV_X _ _ _) (btV_T _ _ _) (btV_L _ _ _) (bt_oxz t ls ms xs n c m d b g) ?_ rfl
  repeat' (first | exact alls_nil | refine alls_cons ?_ ?_)
  all_goals (try simp only [avLen, Nat.zero_add, List.nil_append, eJ, eK, tJ, tK, tX, tB, tC, tB2, tC2, tO, tL, tM])
  all_goals first | with_reducible assumption | with_reducible rfl | omega | with_reducible exact beq_self_eq_true _ | (simp only [decide_eq_false_iff_not, decide_eq_true_eq]; omega)
set_option maxHeartbeats 1000000 in
theorem bt_oxk_t {t : Bt} {ls ms xs : List Value} {n c m d b g : Nat} (F : BtF t ls n ms m xs b) (L : LsF ls n c) (M : LsF ms m d) (X : XsF xs b g) (hl : 0 < n ∧ n ≤ 8) (hm : 8 < m ∧ m ≤ 20) (hb : ¬ rdNo b) (h3 : b ≤ 3000) : RunsTrue Try.prog 6 [.slice (some ⟨0, 0, none⟩) n c, .slice (some ⟨1, 0, none⟩) m d, .slice (some ⟨2, 0, none⟩) b g] [(0, ⟨.old, ls⟩), (1, ⟨.old, ms⟩), (2, ⟨.old, xs⟩)] 3 := by
  have G := btG F L M X
  have ⟨eJ, eK, tJ, tK, tX, tB, tC, tB2, tC2, tO, tL, tM⟩ := btW G
  cases G
  have hBB := F.bl (by omega)
  have ⟨pBB, cBB, cDB⟩ := bt_pos hBB F.yB F.mB (by omega)
  have hR := F.rs hb
  refine run_val (btV_X _ _ _) (btV_T _ _ _) (btV_L _ _ _) (bt_oxk t ls ms xs n c m d b g) ?_ rfl
  repeat' (first | exact alls_nil | refine alls_cons ?_ ?_)
  all_goals (try simp only [avLen, Nat.zero_add, List.nil_append, eJ, eK, tJ, tK, tX, tB, tC, tB2, tC2, tO, tL, tM])
  all_goals first | with_reducible assumption | with_reducible rfl | omega | with_reducible exact beq_self_eq_true _ | (simp only [decide_eq_false_iff_not, decide_eq_true_eq]; omega)
end Go.Proofs.Ytgpgdkpfeoaidaa
