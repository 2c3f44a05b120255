/-
  Chapter 02: the statement RecordBack, at any lists of records and any bytes.
-/
import Derived.Test.YtgpgdkpfeoaidaaRecVq
import Derived.Test.YtgpgdkpfeoaidaaRecVq
import Derived.Test.YtgpgdkpfeoaidaaRecVq
import Derived.Test.YtgpgdkpfeoaidaaRecVq
namespace Go.Proofs.Ytgpgdkpfeoaidaa
set_option linter.unusedSimpArgs false
set_option linter.unusedVariables false
set_option linter.unusedSectionVars false
open Go Go.RowKit

structure LaOk (a : Sa) : Prop where
  r : RecsU a.xs a.n a.c
  z : a.b = false → a.n = 0 ∧ a.c = 0 ∧ a.xs = []
structure XbOk (a : Sa) : Prop where
  y : Byts a.xs
  l : a.xs.length = a.n
  c : a.n ≤ a.c ∧ a.c ≤ 9223372036854775807
  z : a.b = false → a.n = 0 ∧ a.c = 0 ∧ a.xs = []
theorem XbOk.nil : XbOk ⟨false, 0, 0, []⟩ := ⟨Byts.nil, rfl, ⟨Nat.le_refl 0, Nat.zero_le _⟩, fun _ => ⟨rfl, rfl, rfl⟩⟩
theorem LaOk.nil : LaOk ⟨false, 0, 0, []⟩ := ⟨⟨recs_nil, fun i h => absurd h (Nat.not_lt_zero i), ⟨Nat.le_refl 0, Nat.zero_le _⟩⟩, fun _ => ⟨rfl, rfl, rfl⟩⟩
theorem LaOk.of {z : List (List Int)} (h : ∀ zs ∈ z, AllWf recKs zs) {c : Nat} (hc : z.length ≤ c ∧ c ≤ 9223372036854775807) : LaOk ⟨true, z.length, c, (z.map (cellsK recKs)).flatten⟩ := ⟨⟨flat_recs h, flat_recU h, hc⟩, fun e => by cases e⟩
def RkR (a0 a1 a2 : Sa) : Prop := RunsTrue Try.prog 7 [saV 0 a0, saV 1 a1, saV 2 a2] (saH 0 a0 (saH 1 a1 (saH 2 a2 []))) 3
theorem rk_all {a0 a1 a2 : Sa} (h0 : LaOk a0) (h1 : LaOk a1) (h2 : XbOk a2) : RkR a0 a1 a2 := by
  obtain ⟨b0, n, c, ls⟩ := a0
  obtain ⟨b1, m, d, ms⟩ := a1
  obtain ⟨b2, b, g, xs⟩ := a2
  have z0 := h0.z
  have z1 := h1.z
  have z2 := h2.z
  have L : RecsU ls n c := h0.r
  have M : RecsU ms m d := h1.r
  have X : XkF xs b g := ⟨h2.y, h2.l, h2.c⟩
  (try simp only at z0 z1 z2)
  by_cases hn : n ≤ 20
  case neg =>
    cases b0 with
    | false => have := z0 rfl; omega
    | true =>
      cases b1 <;> cases b2
      ·
        refine run_val (rkV_X _ _ _ _ _ _ _ _ _ _ _ _) (rkV_T _ _ _ _ _ _ _ _ _ _ _ _) (rkV_L _ _ _ _ _ _ _ _ _ _ _ _) (rk_L_onn ls n c) ?_ rfl
        repeat' (first | exact alls_nil | refine alls_cons ?_ ?_)
        all_goals first | with_reducible rfl | (simp only [decide_eq_false_iff_not, decide_eq_true_eq]; omega)
      ·
        refine run_val (rkV_X _ _ _ _ _ _ _ _ _ _ _ _) (rkV_T _ _ _ _ _ _ _ _ _ _ _ _) (rkV_L _ _ _ _ _ _ _ _ _ _ _ _) (rk_L_ono ls xs n c b g) ?_ rfl
        repeat' (first | exact alls_nil | refine alls_cons ?_ ?_)
        all_goals first | with_reducible rfl | (simp only [decide_eq_false_iff_not, decide_eq_true_eq]; omega)
      ·
        refine run_val (rkV_X _ _ _ _ _ _ _ _ _ _ _ _) (rkV_T _ _ _ _ _ _ _ _ _ _ _ _) (rkV_L _ _ _ _ _ _ _ _ _ _ _ _) (rk_L_oon ls ms n c m d) ?_ rfl
        repeat' (first | exact alls_nil | refine alls_cons ?_ ?_)
        all_goals first | with_reducible rfl | (simp only [decide_eq_false_iff_not, decide_eq_true_eq]; omega)
      ·
        refine run_val (rkV_X _ _ _ _ _ _ _ _ _ _ _ _) (rkV_T _ _ _ _ _ _ _ _ _ _ _ _) (rkV_L _ _ _ _ _ _ _ _ _ _ _ _) (rk_L_ooo ls ms xs n c m d b g) ?_ rfl
        repeat' (first | exact alls_nil | refine alls_cons ?_ ?_)
        all_goals first | with_reducible rfl | (simp only [decide_eq_false_iff_not, decide_eq_true_eq]; omega)
  by_cases hm : m ≤ 20
  case neg =>
    cases b1 with
    | false => have := z1 rfl; omega
    | true =>
      cases b0 <;> cases b2
      ·
        refine run_val (rkV_X _ _ _ _ _ _ _ _ _ _ _ _) (rkV_T _ _ _ _ _ _ _ _ _ _ _ _) (rkV_L _ _ _ _ _ _ _ _ _ _ _ _) (rk_M_non ms m d) ?_ rfl
        repeat' (first | exact alls_nil | refine alls_cons ?_ ?_)
        all_goals first | with_reducible rfl | (simp only [decide_eq_false_iff_not, decide_eq_true_eq]; omega)
      ·
        refine run_val (rkV_X _ _ _ _ _ _ _ _ _ _ _ _) (rkV_T _ _ _ _ _ _ _ _ _ _ _ _) (rkV_L _ _ _ _ _ _ _ _ _ _ _ _) (rk_M_noo ms xs m d b g) ?_ rfl
        repeat' (first | exact alls_nil | refine alls_cons ?_ ?_)
        all_goals first | with_reducible rfl | (simp only [decide_eq_false_iff_not, decide_eq_true_eq]; omega)
      ·
        refine run_val (rkV_X _ _ _ _ _ _ _ _ _ _ _ _) (rkV_T _ _ _ _ _ _ _ _ _ _ _ _) (rkV_L _ _ _ _ _ _ _ _ _ _ _ _) (rk_M_oon ls ms n c m d) ?_ rfl
        repeat' (first | exact alls_nil | refine alls_cons ?_ ?_)
        all_goals first | with_reducible rfl | (simp only [decide_eq_false_iff_not, decide_eq_true_eq]; omega)
      ·
        refine run_val (rkV_X _ _ _ _ _ _ _ _ _ _ _ _) (rkV_T _ _ _ _ _ _ _ _ _ _ _ _) (rkV_L _ _ _ _ _ _ _ _ _ _ _ _) (rk_M_ooo ls ms xs n c m d b g) ?_ rfl
        repeat' (first | exact alls_nil | refine alls_cons ?_ ?_)
        all_goals first | with_reducible rfl | (simp only [decide_eq_false_iff_not, decide_eq_true_eq]; omega)
  by_cases hb : b ≤ 1024
  case neg =>
    cases b2 with
    | false => have := z2 rfl; omega
    | true =>
      cases b0 <;> cases b1
      ·
        refine run_val (rkV_X _ _ _ _ _ _ _ _ _ _ _ _) (rkV_T _ _ _ _ _ _ _ _ _ _ _ _) (rkV_L _ _ _ _ _ _ _ _ _ _ _ _) (rk_B_nno xs b g) ?_ rfl
        repeat' (first | exact alls_nil | refine alls_cons ?_ ?_)
        all_goals first | with_reducible rfl | (simp only [decide_eq_false_iff_not, decide_eq_true_eq]; omega)
      ·
        refine run_val (rkV_X _ _ _ _ _ _ _ _ _ _ _ _) (rkV_T _ _ _ _ _ _ _ _ _ _ _ _) (rkV_L _ _ _ _ _ _ _ _ _ _ _ _) (rk_B_noo ms xs m d b g) ?_ rfl
        repeat' (first | exact alls_nil | refine alls_cons ?_ ?_)
        all_goals first | with_reducible rfl | (simp only [decide_eq_false_iff_not, decide_eq_true_eq]; omega)
      ·
        refine run_val (rkV_X _ _ _ _ _ _ _ _ _ _ _ _) (rkV_T _ _ _ _ _ _ _ _ _ _ _ _) (rkV_L _ _ _ _ _ _ _ _ _ _ _ _) (rk_B_ono ls xs n c b g) ?_ rfl
        repeat' (first | exact alls_nil | refine alls_cons ?_ ?_)
        all_goals first | with_reducible rfl | (simp only [decide_eq_false_iff_not, decide_eq_true_eq]; omega)
      ·
        refine run_val (rkV_X _ _ _ _ _ _ _ _ _ _ _ _) (rkV_T _ _ _ _ _ _ _ _ _ _ _ _) (rkV_L _ _ _ _ _ _ _ _ _ _ _ _) (rk_B_ooo ls ms xs n c m d b g) ?_ rfl
        repeat' (first | exact alls_nil | refine alls_cons ?_ ?_)
        all_goals first | with_reducible rfl | (simp only [decide_eq_false_iff_not, decide_eq_true_eq]; omega)
  have kl : (b0 = false ∧ n = 0) ∨ (b0 = true ∧ n = 0) ∨ (b0 = true ∧ 0 < n ∧ n ≤ 8) ∨ (b0 = true ∧ 8 < n ∧ n ≤ 20) := by
    cases b0 with
    | false => exact .inl ⟨rfl, (z0 rfl).1⟩
    | true =>
      by_cases k1 : n = 0
      · exact .inr (.inl ⟨rfl, k1⟩)
      · by_cases k2 : n ≤ 8
        · exact .inr (.inr (.inl ⟨rfl, by omega, k2⟩))
        · exact .inr (.inr (.inr ⟨rfl, by omega, hn⟩))
  have km : (b1 = false ∧ m = 0) ∨ (b1 = true ∧ m = 0) ∨ (b1 = true ∧ 0 < m ∧ m ≤ 8) ∨ (b1 = true ∧ 8 < m ∧ m ≤ 20) := by
    cases b1 with
    | false => exact .inl ⟨rfl, (z1 rfl).1⟩
    | true =>
      by_cases k1 : m = 0
      · exact .inr (.inl ⟨rfl, k1⟩)
      · by_cases k2 : m ≤ 8
        · exact .inr (.inr (.inl ⟨rfl, by omega, k2⟩))
        · exact .inr (.inr (.inr ⟨rfl, by omega, hm⟩))
  have kb : (b2 = false ∧ b = 0) ∨ (b2 = true ∧ b ≠ 128 ∧ b ≤ 1024) ∨ (b2 = true ∧ b = 128) := by
    cases b2 with
    | false => exact .inl ⟨rfl, (z2 rfl).1⟩
    | true =>
      by_cases k1 : b = 128
      · exact .inr (.inr ⟨rfl, k1⟩)
      · exact .inr (.inl ⟨rfl, k1, hb⟩)
  clear z0 z1 z2 h0 h1 h2
  rcases kl with ⟨rfl, hl⟩ | ⟨rfl, hl⟩ | ⟨rfl, hl⟩ | ⟨rfl, hl⟩
  · rcases km with ⟨rfl, hk⟩ | ⟨rfl, hk⟩ | ⟨rfl, hk⟩ | ⟨rfl, hk⟩
    · rcases kb with ⟨rfl, hr⟩ | ⟨rfl, hr⟩ | ⟨rfl, hr⟩
      · exact rk_nnn_t L M X hl hk hr
      · exact rk_nnz_t L M X hl hk hr
      · subst hr; exact rk_nnk_t L M X hl hk rfl
    · rcases kb with ⟨rfl, hr⟩ | ⟨rfl, hr⟩ | ⟨rfl, hr⟩
      · subst hk; exact rk_nen_t L M X hl rfl hr
      · subst hk; exact rk_nez_t L M X hl rfl hr
      · subst hk; subst hr; exact rk_nek_t L M X hl rfl rfl
    · rcases kb with ⟨rfl, hr⟩ | ⟨rfl, hr⟩ | ⟨rfl, hr⟩
      · exact rk_non_t L M X hl hk hr
      · exact rk_noz_t L M X hl hk hr
      · subst hr; exact rk_nok_t L M X hl hk rfl
    · rcases kb with ⟨rfl, hr⟩ | ⟨rfl, hr⟩ | ⟨rfl, hr⟩
      · exact rk_nxn_t L M X hl hk hr
      · exact rk_nxz_t L M X hl hk hr
      · subst hr; exact rk_nxk_t L M X hl hk rfl
  · rcases km with ⟨rfl, hk⟩ | ⟨rfl, hk⟩ | ⟨rfl, hk⟩ | ⟨rfl, hk⟩
    · rcases kb with ⟨rfl, hr⟩ | ⟨rfl, hr⟩ | ⟨rfl, hr⟩
      · subst hl; exact rk_enn_t L M X rfl hk hr
      · subst hl; exact rk_enz_t L M X rfl hk hr
      · subst hl; subst hr; exact rk_enk_t L M X rfl hk rfl
    · rcases kb with ⟨rfl, hr⟩ | ⟨rfl, hr⟩ | ⟨rfl, hr⟩
      · subst hl; subst hk; exact rk_een_t L M X rfl rfl hr
      · subst hl; subst hk; exact rk_eez_t L M X rfl rfl hr
      · subst hl; subst hk; subst hr; exact rk_eek_t L M X rfl rfl rfl
    · rcases kb with ⟨rfl, hr⟩ | ⟨rfl, hr⟩ | ⟨rfl, hr⟩
      · subst hl; exact rk_eon_t L M X rfl hk hr
      · subst hl; exact rk_eoz_t L M X rfl hk hr
      · subst hl; subst hr; exact rk_eok_t L M X rfl hk rfl
    · rcases kb with ⟨rfl, hr⟩ | ⟨rfl, hr⟩ | ⟨rfl, hr⟩
      · subst hl; exact rk_exn_t L M X rfl hk hr
      · subst hl; exact rk_exz_t L M X rfl hk hr
      · subst hl; subst hr; exact rk_exk_t L M X rfl hk rfl
  · rcases km with ⟨rfl, hk⟩ | ⟨rfl, hk⟩ | ⟨rfl, hk⟩ | ⟨rfl, hk⟩
    · rcases kb with ⟨rfl, hr⟩ | ⟨rfl, hr⟩ | ⟨rfl, hr⟩
      · exact rk_onn_t L M X hl hk hr
      · exact rk_onz_t L M X hl hk hr
      · subst hr; exact rk_onk_t L M X hl hk rfl
    · rcases kb with ⟨rfl, hr⟩ | ⟨rfl, hr⟩ | ⟨rfl, hr⟩
      · subst hk; exact rk_oen_t L M X hl rfl hr
      · subst hk; exact rk_oez_t L M X hl rfl hr
      · subst hk; subst hr; exact rk_oek_t L M X hl rfl rfl
    · rcases kb with ⟨rfl, hr⟩ | ⟨rfl, hr⟩ | ⟨rfl, hr⟩
      · exact rk_oon_t L M X hl hk hr
      · exact rk_ooz_t L M X hl hk hr
      · subst hr; exact rk_ook_t L M X hl hk rfl
    · rcases kb with ⟨rfl, hr⟩ | ⟨rfl, hr⟩ | ⟨rfl, hr⟩
      · exact rk_oxn_t L M X hl hk hr
      · exact rk_oxz_t L M X hl hk hr
      · subst hr; exact rk_oxk_t L M X hl hk rfl
  · rcases km with ⟨rfl, hk⟩ | ⟨rfl, hk⟩ | ⟨rfl, hk⟩ | ⟨rfl, hk⟩
    · rcases kb with ⟨rfl, hr⟩ | ⟨rfl, hr⟩ | ⟨rfl, hr⟩
      · exact rk_xnn_t L M X hl hk hr
      · exact rk_xnz_t L M X hl hk hr
      · subst hr; exact rk_xnk_t L M X hl hk rfl
    · rcases kb with ⟨rfl, hr⟩ | ⟨rfl, hr⟩ | ⟨rfl, hr⟩
      · subst hk; exact rk_xen_t L M X hl rfl hr
      · subst hk; exact rk_xez_t L M X hl rfl hr
      · subst hk; subst hr; exact rk_xek_t L M X hl rfl rfl
    · rcases kb with ⟨rfl, hr⟩ | ⟨rfl, hr⟩ | ⟨rfl, hr⟩
      · exact rk_xon_t L M X hl hk hr
      · exact rk_xoz_t L M X hl hk hr
      · subst hr; exact rk_xok_t L M X hl hk rfl
    · rcases kb with ⟨rfl, hr⟩ | ⟨rfl, hr⟩ | ⟨rfl, hr⟩
      · exact rk_xxn_t L M X hl hk hr
      · exact rk_xxz_t L M X hl hk hr
      · subst hr; exact rk_xxk_t L M X hl hk rfl
theorem back_any {W : World} {v0 v1 v2 : Value} {a0 a1 a2 : Av} {q0 q1 q2 : Option (Addr × Nat)} {z0 z1 z2 : List (List Int)} (h0 : (a0 = .fl (.slice none 0 0) ∧ z0 = []) ∨ a0 = .sl (z0.map (cellsK recKs)).flatten z0.length) (h1 : (a1 = .fl (.slice none 0 0) ∧ z1 = []) ∨ a1 = .sl (z1.map (cellsK recKs)).flatten z1.length) (h2 : (a2 = .fl (.slice none 0 0) ∧ z2 = []) ∨ a2 = .sl (z2.map (cellsK [.u8])).flatten z2.length)
    (A0 : AvAt a0 v0 q0) (A1 : AvAt a1 v1 q1) (A2 : AvAt a2 v2 q2) (L0 : Lies W a0 q0) (L1 : Lies W a1 q1) (L2 : Lies W a2 q2) (w0 : ∀ zs ∈ z0, AllWf recKs zs) (w1 : ∀ zs ∈ z1, AllWf recKs zs) (w2 : ∀ zs ∈ z2, AllWf [.u8] zs) :
    Calls Try.prog 7 #[v0, v1, v2] W fun e w' => e = .returned (.bool true) ∧ Ext W w' := by
  have b2 := flat_Byts w2
  have l2 : ((z2.map (cellsK [.u8])).flatten).length = z2.length := by rw [flat_len w2]; simp
  refine calls_sl (avs := [a0, a1, a2]) (vs := [v0, v1, v2]) (ps := [q0, q1, q2]) ⟨A0, A1, A2, trivial⟩ ⟨L0, L1, L2, trivial⟩ (fun σ => rfl) fun cs hcs => ?_
  obtain ⟨c, d, e, rfl⟩ := caps3 hcs
  rcases h0 with ⟨rfl, rfl⟩ | rfl <;> rcases h1 with ⟨rfl, rfl⟩ | rfl <;> rcases h2 with ⟨rfl, rfl⟩ | rfl
  · exact rk_all (a0 := ⟨false, 0, 0, []⟩) (a1 := ⟨false, 0, 0, []⟩) (a2 := ⟨false, 0, 0, []⟩) LaOk.nil LaOk.nil XbOk.nil
  · exact rk_all (a0 := ⟨false, 0, 0, []⟩) (a1 := ⟨false, 0, 0, []⟩) (a2 := ⟨true, _, e, _⟩) LaOk.nil LaOk.nil ⟨b2, l2, hcs.1, fun h => by cases h⟩
  · exact rk_all (a0 := ⟨false, 0, 0, []⟩) (a1 := ⟨true, _, d, _⟩) (a2 := ⟨false, 0, 0, []⟩) LaOk.nil (LaOk.of w1 hcs.1) XbOk.nil
  · exact rk_all (a0 := ⟨false, 0, 0, []⟩) (a1 := ⟨true, _, d, _⟩) (a2 := ⟨true, _, e, _⟩) LaOk.nil (LaOk.of w1 hcs.1) ⟨b2, l2, hcs.2.1, fun h => by cases h⟩
  · exact rk_all (a0 := ⟨true, _, c, _⟩) (a1 := ⟨false, 0, 0, []⟩) (a2 := ⟨false, 0, 0, []⟩) (LaOk.of w0 hcs.1) LaOk.nil XbOk.nil
  · exact rk_all (a0 := ⟨true, _, c, _⟩) (a1 := ⟨false, 0, 0, []⟩) (a2 := ⟨true, _, e, _⟩) (LaOk.of w0 hcs.1) LaOk.nil ⟨b2, l2, hcs.2.1, fun h => by cases h⟩
  · exact rk_all (a0 := ⟨true, _, c, _⟩) (a1 := ⟨true, _, d, _⟩) (a2 := ⟨false, 0, 0, []⟩) (LaOk.of w0 hcs.1) (LaOk.of w1 hcs.2.1) XbOk.nil
  · exact rk_all (a0 := ⟨true, _, c, _⟩) (a1 := ⟨true, _, d, _⟩) (a2 := ⟨true, _, e, _⟩) (LaOk.of w0 hcs.1) (LaOk.of w1 hcs.2.1) ⟨b2, l2, hcs.2.2.1, fun h => by cases h⟩
end Go.Proofs.Ytgpgdkpfeoaidaa
