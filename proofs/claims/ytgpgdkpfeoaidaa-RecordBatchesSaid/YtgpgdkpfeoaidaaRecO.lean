/-
  Chapter 02: the statement RecordBatches, at any lists of records and any bytes.
-/
import Derived.Test.YtgpgdkpfeoaidaaRecNn
import Derived.Test.YtgpgdkpfeoaidaaRecNe
import Derived.Test.YtgpgdkpfeoaidaaRecNo
import Derived.Test.YtgpgdkpfeoaidaaRecNx
namespace Go.Proofs.Ytgpgdkpfeoaidaa
set_option linter.unusedSimpArgs false
set_option linter.unusedVariables false
set_option linter.unusedSectionVars false
open Go Go.RowKit

/-- Bytes that come in. -/
structure XaOk (a : Sa) : Prop where
  y : Byts a.xs
  l : a.xs.length = a.n
  c : a.n ≤ a.c ∧ a.c ≤ 9223372036854775807
  z : a.b = false → a.n = 0 ∧ a.c = 0 ∧ a.xs = []
theorem XaOk.nil : XaOk ⟨false, 0, 0, []⟩ := ⟨Byts.nil, rfl, ⟨Nat.le_refl 0, Nat.zero_le _⟩, fun _ => ⟨rfl, rfl, rfl⟩⟩
def BtR (a0 a1 a2 : Sa) : Prop := RunsTrue Try.prog 6 [saV 0 a0, saV 1 a1, saV 2 a2] (saH 0 a0 (saH 1 a1 (saH 2 a2 []))) 3
theorem bt_all {a0 a1 a2 : Sa} (h0 : BaOk a0) (h1 : BaOk a1) (h2 : XaOk a2) : BtR a0 a1 a2 := by
  obtain ⟨b0, n, c, ls⟩ := a0
  obtain ⟨b1, m, d, ms⟩ := a1
  obtain ⟨b2, b, g, xs⟩ := a2
  have z0 := h0.z
  have z1 := h1.z
  have z2 := h2.z
  have L : LsF ls n c := ⟨h0.r, h0.o, h0.c⟩
  have M : LsF ms m d := ⟨h1.r, h1.o, h1.c⟩
  have X : XsF xs b g := ⟨h2.y, h2.l, h2.c⟩
  (try simp only at z0 z1 z2)
  have t0 : Bt := ⟨[], 0, [], 0, [], 0, 0, [], 0, 0⟩
  by_cases hn : n ≤ 20
  case neg =>
    cases b0 with
    | false => have := z0 rfl; omega
    | true =>
      cases b1 <;> cases b2
      ·
        refine run_val (btV_X _ _ _) (btV_T _ _ _) (btV_L _ _ _) (bt_L_onn t0 ls n c) ?_ rfl
        repeat' (first | exact alls_nil | refine alls_cons ?_ ?_)
        all_goals first | with_reducible rfl | (simp only [decide_eq_false_iff_not, decide_eq_true_eq]; omega)
      ·
        refine run_val (btV_X _ _ _) (btV_T _ _ _) (btV_L _ _ _) (bt_L_ono t0 ls xs n c b g) ?_ rfl
        repeat' (first | exact alls_nil | refine alls_cons ?_ ?_)
        all_goals first | with_reducible rfl | (simp only [decide_eq_false_iff_not, decide_eq_true_eq]; omega)
      ·
        refine run_val (btV_X _ _ _) (btV_T _ _ _) (btV_L _ _ _) (bt_L_oon t0 ls ms n c m d) ?_ rfl
        repeat' (first | exact alls_nil | refine alls_cons ?_ ?_)
        all_goals first | with_reducible rfl | (simp only [decide_eq_false_iff_not, decide_eq_true_eq]; omega)
      ·
        refine run_val (btV_X _ _ _) (btV_T _ _ _) (btV_L _ _ _) (bt_L_ooo t0 ls ms xs n c m d b g) ?_ rfl
        repeat' (first | exact alls_nil | refine alls_cons ?_ ?_)
        all_goals first | with_reducible rfl | (simp only [decide_eq_false_iff_not, decide_eq_true_eq]; omega)
  by_cases hm : m ≤ 20
  case neg =>
    cases b1 with
    | false => have := z1 rfl; omega
    | true =>
      cases b0 <;> cases b2
      ·
        refine run_val (btV_X _ _ _) (btV_T _ _ _) (btV_L _ _ _) (bt_M_non t0 ms m d) ?_ rfl
        repeat' (first | exact alls_nil | refine alls_cons ?_ ?_)
        all_goals first | with_reducible rfl | (simp only [decide_eq_false_iff_not, decide_eq_true_eq]; omega)
      ·
        refine run_val (btV_X _ _ _) (btV_T _ _ _) (btV_L _ _ _) (bt_M_noo t0 ms xs m d b g) ?_ rfl
        repeat' (first | exact alls_nil | refine alls_cons ?_ ?_)
        all_goals first | with_reducible rfl | (simp only [decide_eq_false_iff_not, decide_eq_true_eq]; omega)
      ·
        refine run_val (btV_X _ _ _) (btV_T _ _ _) (btV_L _ _ _) (bt_M_oon t0 ls ms n c m d) ?_ rfl
        repeat' (first | exact alls_nil | refine alls_cons ?_ ?_)
        all_goals first | with_reducible rfl | (simp only [decide_eq_false_iff_not, decide_eq_true_eq]; omega)
      ·
        refine run_val (btV_X _ _ _) (btV_T _ _ _) (btV_L _ _ _) (bt_M_ooo t0 ls ms xs n c m d b g) ?_ rfl
        repeat' (first | exact alls_nil | refine alls_cons ?_ ?_)
        all_goals first | with_reducible rfl | (simp only [decide_eq_false_iff_not, decide_eq_true_eq]; omega)
  by_cases hb : b ≤ 3000
  case neg =>
    cases b2 with
    | false => have := z2 rfl; omega
    | true =>
      cases b0 <;> cases b1
      ·
        refine run_val (btV_X _ _ _) (btV_T _ _ _) (btV_L _ _ _) (bt_B_nno t0 xs b g) ?_ rfl
        repeat' (first | exact alls_nil | refine alls_cons ?_ ?_)
        all_goals first | with_reducible rfl | (simp only [decide_eq_false_iff_not, decide_eq_true_eq]; omega)
      ·
        refine run_val (btV_X _ _ _) (btV_T _ _ _) (btV_L _ _ _) (bt_B_noo t0 ms xs m d b g) ?_ rfl
        repeat' (first | exact alls_nil | refine alls_cons ?_ ?_)
        all_goals first | with_reducible rfl | (simp only [decide_eq_false_iff_not, decide_eq_true_eq]; omega)
      ·
        refine run_val (btV_X _ _ _) (btV_T _ _ _) (btV_L _ _ _) (bt_B_ono t0 ls xs n c b g) ?_ rfl
        repeat' (first | exact alls_nil | refine alls_cons ?_ ?_)
        all_goals first | with_reducible rfl | (simp only [decide_eq_false_iff_not, decide_eq_true_eq]; omega)
      ·
        refine run_val (btV_X _ _ _) (btV_T _ _ _) (btV_L _ _ _) (bt_B_ooo t0 ls ms xs n c m d b g) ?_ rfl
        repeat' (first | exact alls_nil | refine alls_cons ?_ ?_)
        all_goals first | with_reducible rfl | (simp only [decide_eq_false_iff_not, decide_eq_true_eq]; omega)
  obtain ⟨t, F⟩ := bt_ex (b := b) L.r M.r X.y X.l hb
  have kl : (b0 = false ∧ n = 0) ∨ (b0 = true ∧ n = 0) ∨ (b0 = true ∧ 0 < n ∧ n ≤ 8) ∨ (b0 = true ∧ 8 < n ∧ n ≤ 20) := by
    cases b0 with
    | false => exact .inl ⟨rfl, (z0 rfl).1⟩
    | true =>
      by_cases k1 : n = 0
      · exact .inr (.inl ⟨rfl, k1⟩)
      · by_cases k2 : n ≤ 8
        · exact .inr (.inr (.inl ⟨rfl, by omega, k2⟩))
        · exact .inr (.inr (.inr ⟨rfl, by omega, hn⟩))
  have km : (b1 = false ∧ m = 0) ∨ (b1 = true ∧ m = 0) ∨ (b1 = true ∧ 0 < m ∧ m ≤ 8) ∨ (b1 = true ∧ 8 < m ∧ m ≤ 20) := by
    cases b1 with
    | false => exact .inl ⟨rfl, (z1 rfl).1⟩
    | true =>
      by_cases k1 : m = 0
      · exact .inr (.inl ⟨rfl, k1⟩)
      · by_cases k2 : m ≤ 8
        · exact .inr (.inr (.inl ⟨rfl, by omega, k2⟩))
        · exact .inr (.inr (.inr ⟨rfl, by omega, hm⟩))
  have kb : (b2 = false ∧ b = 0) ∨ (b2 = true ∧ rdNo b) ∨ (b2 = true ∧ ¬ rdNo b) := by
    cases b2 with
    | false => exact .inl ⟨rfl, (z2 rfl).1⟩
    | true =>
      by_cases k1 : rdNo b
      · exact .inr (.inl ⟨rfl, k1⟩)
      · exact .inr (.inr ⟨rfl, k1⟩)
  clear z0 z1 z2 h0 h1 h2
  rcases kl with ⟨rfl, hl⟩ | ⟨rfl, hl⟩ | ⟨rfl, hl⟩ | ⟨rfl, hl⟩
  · rcases km with ⟨rfl, hk⟩ | ⟨rfl, hk⟩ | ⟨rfl, hk⟩ | ⟨rfl, hk⟩
    · rcases kb with ⟨rfl, hr⟩ | ⟨rfl, hr⟩ | ⟨rfl, hr⟩
      · exact bt_nnn_t F L M X hl hk hr
      · exact bt_nnz_t F L M X hl hk hr hb
      · exact bt_nnk_t F L M X hl hk hr hb
    · rcases kb with ⟨rfl, hr⟩ | ⟨rfl, hr⟩ | ⟨rfl, hr⟩
      · subst hk; exact bt_nen_t F L M X hl rfl hr
      · subst hk; exact bt_nez_t F L M X hl rfl hr hb
      · subst hk; exact bt_nek_t F L M X hl rfl hr hb
    · rcases kb with ⟨rfl, hr⟩ | ⟨rfl, hr⟩ | ⟨rfl, hr⟩
      · exact bt_non_t F L M X hl hk hr
      · exact bt_noz_t F L M X hl hk hr hb
      · exact bt_nok_t F L M X hl hk hr hb
    · rcases kb with ⟨rfl, hr⟩ | ⟨rfl, hr⟩ | ⟨rfl, hr⟩
      · exact bt_nxn_t F L M X hl hk hr
      · exact bt_nxz_t F L M X hl hk hr hb
      · exact bt_nxk_t F L M X hl hk hr hb
  · rcases km with ⟨rfl, hk⟩ | ⟨rfl, hk⟩ | ⟨rfl, hk⟩ | ⟨rfl, hk⟩
    · rcases kb with ⟨rfl, hr⟩ | ⟨rfl, hr⟩ | ⟨rfl, hr⟩
      · subst hl; exact bt_enn_t F L M X rfl hk hr
      · subst hl; exact bt_enz_t F L M X rfl hk hr hb
      · subst hl; exact bt_enk_t F L M X rfl hk hr hb
    · rcases kb with ⟨rfl, hr⟩ | ⟨rfl, hr⟩ | ⟨rfl, hr⟩
      · subst hl; subst hk; exact bt_een_t F L M X rfl rfl hr
      · subst hl; subst hk; exact bt_eez_t F L M X rfl rfl hr hb
      · subst hl; subst hk; exact bt_eek_t F L M X rfl rfl hr hb
    · rcases kb with ⟨rfl, hr⟩ | ⟨rfl, hr⟩ | ⟨rfl, hr⟩
      · subst hl; exact bt_eon_t F L M X rfl hk hr
      · subst hl; exact bt_eoz_t F L M X rfl hk hr hb
      · subst hl; exact bt_eok_t F L M X rfl hk hr hb
    · rcases kb with ⟨rfl, hr⟩ | ⟨rfl, hr⟩ | ⟨rfl, hr⟩
      · subst hl; exact bt_exn_t F L M X rfl hk hr
      · subst hl; exact bt_exz_t F L M X rfl hk hr hb
      · subst hl; exact bt_exk_t F L M X rfl hk hr hb
  · rcases km with ⟨rfl, hk⟩ | ⟨rfl, hk⟩ | ⟨rfl, hk⟩ | ⟨rfl, hk⟩
    · rcases kb with ⟨rfl, hr⟩ | ⟨rfl, hr⟩ | ⟨rfl, hr⟩
      · exact bt_onn_t F L M X hl hk hr
      · exact bt_onz_t F L M X hl hk hr hb
      · exact bt_onk_t F L M X hl hk hr hb
    · rcases kb with ⟨rfl, hr⟩ | ⟨rfl, hr⟩ | ⟨rfl, hr⟩
      · subst hk; exact bt_oen_t F L M X hl rfl hr
      · subst hk; exact bt_oez_t F L M X hl rfl hr hb
      · subst hk; exact bt_oek_t F L M X hl rfl hr hb
    · rcases kb with ⟨rfl, hr⟩ | ⟨rfl, hr⟩ | ⟨rfl, hr⟩
      · exact bt_oon_t F L M X hl hk hr
      · exact bt_ooz_t F L M X hl hk hr hb
      · exact bt_ook_t F L M X hl hk hr hb
    · rcases kb with ⟨rfl, hr⟩ | ⟨rfl, hr⟩ | ⟨rfl, hr⟩
      · exact bt_oxn_t F L M X hl hk hr
      · exact bt_oxz_t F L M X hl hk hr hb
      · exact bt_oxk_t F L M X hl hk hr hb
  · rcases km with ⟨rfl, hk⟩ | ⟨rfl, hk⟩ | ⟨rfl, hk⟩ | ⟨rfl, hk⟩
    · rcases kb with ⟨rfl, hr⟩ | ⟨rfl, hr⟩ | ⟨rfl, hr⟩
      · exact bt_xnn_t F L M X hl hk hr
      · exact bt_xnz_t F L M X hl hk hr hb
      · exact bt_xnk_t F L M X hl hk hr hb
    · rcases kb with ⟨rfl, hr⟩ | ⟨rfl, hr⟩ | ⟨rfl, hr⟩
      · subst hk; exact bt_xen_t F L M X hl rfl hr
      · subst hk; exact bt_xez_t F L M X hl rfl hr hb
      · subst hk; exact bt_xek_t F L M X hl rfl hr hb
    · rcases kb with ⟨rfl, hr⟩ | ⟨rfl, hr⟩ | ⟨rfl, hr⟩
      · exact bt_xon_t F L M X hl hk hr
      · exact bt_xoz_t F L M X hl hk hr hb
      · exact bt_xok_t F L M X hl hk hr hb
    · rcases kb with ⟨rfl, hr⟩ | ⟨rfl, hr⟩ | ⟨rfl, hr⟩
      · exact bt_xxn_t F L M X hl hk hr
      · exact bt_xxz_t F L M X hl hk hr hb
      · exact bt_xxk_t F L M X hl hk hr hb
theorem batches_any {W : World} {v0 v1 v2 : Value} {a0 a1 a2 : Av} {q0 q1 q2 : Option (Addr × Nat)} {z0 z1 z2 : List (List Int)} (h0 : (a0 = .fl (.slice none 0 0) ∧ z0 = []) ∨ a0 = .sl (z0.map (cellsK recKs)).flatten z0.length) (h1 : (a1 = .fl (.slice none 0 0) ∧ z1 = []) ∨ a1 = .sl (z1.map (cellsK recKs)).flatten z1.length) (h2 : (a2 = .fl (.slice none 0 0) ∧ z2 = []) ∨ a2 = .sl (z2.map (cellsK [.u8])).flatten z2.length)
    (A0 : AvAt a0 v0 q0) (A1 : AvAt a1 v1 q1) (A2 : AvAt a2 v2 q2) (L0 : Lies W a0 q0) (L1 : Lies W a1 q1) (L2 : Lies W a2 q2) (w0 : ∀ zs ∈ z0, AllWf recKs zs) (w1 : ∀ zs ∈ z1, AllWf recKs zs) (w2 : ∀ zs ∈ z2, AllWf [.u8] zs) :
    Calls Try.prog 6 #[v0, v1, v2] W fun e w' => e = .returned (.bool true) ∧ Ext W w' := by
  have b2 := flat_Byts w2
  have l2 : ((z2.map (cellsK [.u8])).flatten).length = z2.length := by rw [flat_len w2]; simp
  refine calls_sl (avs := [a0, a1, a2]) (vs := [v0, v1, v2]) (ps := [q0, q1, q2]) ⟨A0, A1, A2, trivial⟩ ⟨L0, L1, L2, trivial⟩ (fun σ => rfl) fun cs hcs => ?_
  obtain ⟨c, d, e, rfl⟩ := caps3 hcs
  rcases h0 with ⟨rfl, rfl⟩ | rfl <;> rcases h1 with ⟨rfl, rfl⟩ | rfl <;> rcases h2 with ⟨rfl, rfl⟩ | rfl
  · exact bt_all (a0 := ⟨false, 0, 0, []⟩) (a1 := ⟨false, 0, 0, []⟩) (a2 := ⟨false, 0, 0, []⟩) BaOk.nil BaOk.nil XaOk.nil
  · exact bt_all (a0 := ⟨false, 0, 0, []⟩) (a1 := ⟨false, 0, 0, []⟩) (a2 := ⟨true, _, e, _⟩) BaOk.nil BaOk.nil ⟨b2, l2, hcs.1, fun h => by cases h⟩
  · exact bt_all (a0 := ⟨false, 0, 0, []⟩) (a1 := ⟨true, _, d, _⟩) (a2 := ⟨false, 0, 0, []⟩) BaOk.nil (BaOk.of w1 hcs.1) XaOk.nil
  · exact bt_all (a0 := ⟨false, 0, 0, []⟩) (a1 := ⟨true, _, d, _⟩) (a2 := ⟨true, _, e, _⟩) BaOk.nil (BaOk.of w1 hcs.1) ⟨b2, l2, hcs.2.1, fun h => by cases h⟩
  · exact bt_all (a0 := ⟨true, _, c, _⟩) (a1 := ⟨false, 0, 0, []⟩) (a2 := ⟨false, 0, 0, []⟩) (BaOk.of w0 hcs.1) BaOk.nil XaOk.nil
  · exact bt_all (a0 := ⟨true, _, c, _⟩) (a1 := ⟨false, 0, 0, []⟩) (a2 := ⟨true, _, e, _⟩) (BaOk.of w0 hcs.1) BaOk.nil ⟨b2, l2, hcs.2.1, fun h => by cases h⟩
  · exact bt_all (a0 := ⟨true, _, c, _⟩) (a1 := ⟨true, _, d, _⟩) (a2 := ⟨false, 0, 0, []⟩) (BaOk.of w0 hcs.1) (BaOk.of w1 hcs.2.1) XaOk.nil
  · exact bt_all (a0 := ⟨true, _, c, _⟩) (a1 := ⟨true, _, d, _⟩) (a2 := ⟨true, _, e, _⟩) (BaOk.of w0 hcs.1) (BaOk.of w1 hcs.2.1) ⟨b2, l2, hcs.2.2.1, fun h => by cases h⟩
end Go.Proofs.Ytgpgdkpfeoaidaa
