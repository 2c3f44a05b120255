/-
  Chapter 22: the statement SessionOnce, at any client, any requests, any reply.
-/
import Derived.Test.YtdcakhahagbedaaSesD
import Derived.Test.YtdcakhahagbedaaKitT
import Derived.Test.YtdcakhahagbedaaOpenSl
namespace Go.Proofs.Ytdcakhahagbedaa
set_option linter.unusedSimpArgs false
set_option linter.unusedVariables false
set_option linter.unusedSectionVars false
open Go Go.RowKit

theorem soL_ok {s : LSpec} (h : LSOk Try.prog 162 [1, 2, 3, 7, 8, 12, 13] (soB Try.prog) s) : LOne Try.prog (soL Try.prog s) := mkL_ok h
theorem soW_X (m1 m2 : Nat) (L : LFun) : XOkZ (soV m1 m2 L) Try.prog := noXz_ok rfl
theorem soW_T (m1 m2 : Nat) (L : LFun) : TOkZ (soV m1 m2 L) Try.prog := T_okV rfl soT_one
/-- Requests that come in, at most 40 or not. -/
structure RqOk (a : Sa) : Prop where
  i : Ints .i64 a.xs
  l : a.xs.length = a.n
  w : ∀ j, j < a.n → -9223372036854775808 ≤ intAt a.xs j ∧ intAt a.xs j ≤ 9223372036854775807
  c : a.n ≤ a.c ∧ a.c ≤ 9223372036854775807
  z : a.b = false → a.n = 0
structure RyOk (a : Sa) : Prop where
  y : Byts a.xs
  l : a.xs.length = a.n
  c : a.n ≤ a.c ∧ a.c ≤ 9223372036854775807
  z : a.b = false → a.n = 0
def SoR (a b : Int) (a1 a2 : Sa) : Prop := RunsTrue Try.prog 3 [.agg ⟨[.int .u64 a, .int .u64 b]⟩, saV 1 a1, saV 2 a2] (saH 1 a1 (saH 2 a2 [])) 3
set_option maxHeartbeats 4000000 in
theorem so_all {a b : Int} {a1 a2 : Sa} (h1 : RqOk a1) (h2 : RyOk a2) : SoR a b a1 a2 := by
  obtain ⟨b1, n, c, rs⟩ := a1
  obtain ⟨b2, m, d, xs⟩ := a2
  have z1 := h1.z
  have z2 := h2.z
  have i1 := h1.i
  have l1 := h1.l
  have w1 := h1.w
  have c1 := h1.c
  have y2 := h2.y
  have l2 := h2.l
  have c2 := h2.c
  (try simp only at z1 z2 i1 l1 w1 c1 y2 l2 c2)
  clear h1 h2
  by_cases hz : (a == 0 && (b == 0 && true)) = true
  · cases b1 <;> cases b2
    ·
      refine run_val (soW_X _ _ _) (soW_T _ _ _) (noL_okV rfl) (so_znn a b) ?_ rfl
      repeat' (first | exact alls_nil | refine alls_cons ?_ ?_)
      all_goals first | with_reducible assumption | with_reducible rfl | omega | (simp only [decide_eq_false_iff_not, decide_eq_true_eq]; omega) | rfl
    ·
      refine run_val (soW_X _ _ _) (soW_T _ _ _) (noL_okV rfl) (so_zno a b xs m d) ?_ rfl
      repeat' (first | exact alls_nil | refine alls_cons ?_ ?_)
      all_goals first | with_reducible assumption | with_reducible rfl | omega | (simp only [decide_eq_false_iff_not, decide_eq_true_eq]; omega) | rfl
    ·
      refine run_val (soW_X _ _ _) (soW_T _ _ _) (noL_okV rfl) (so_zon a b rs n c) ?_ rfl
      repeat' (first | exact alls_nil | refine alls_cons ?_ ?_)
      all_goals first | with_reducible assumption | with_reducible rfl | omega | (simp only [decide_eq_false_iff_not, decide_eq_true_eq]; omega) | rfl
    ·
      refine run_val (soW_X _ _ _) (soW_T _ _ _) (noL_okV rfl) (so_zoo a b rs xs n c m d) ?_ rfl
      repeat' (first | exact alls_nil | refine alls_cons ?_ ?_)
      all_goals first | with_reducible assumption | with_reducible rfl | omega | (simp only [decide_eq_false_iff_not, decide_eq_true_eq]; omega) | rfl
  have hz : (a == 0 && (b == 0 && true)) = false := by simpa using hz
  by_cases hn : n ≤ 40
  case neg =>
    cases b1 with
    | false => have := z1 rfl; omega
    | true =>
      cases b2
      ·
        refine run_val (soW_X _ _ _) (soW_T _ _ _) (noL_okV rfl) (so_ron a b rs n c) ?_ rfl
        repeat' (first | exact alls_nil | refine alls_cons ?_ ?_)
        all_goals first | with_reducible assumption | with_reducible rfl | omega | (simp only [decide_eq_false_iff_not, decide_eq_true_eq]; omega) | rfl
      ·
        refine run_val (soW_X _ _ _) (soW_T _ _ _) (noL_okV rfl) (so_roo a b rs xs n c m d) ?_ rfl
        repeat' (first | exact alls_nil | refine alls_cons ?_ ?_)
        all_goals first | with_reducible assumption | with_reducible rfl | omega | (simp only [decide_eq_false_iff_not, decide_eq_true_eq]; omega) | rfl
  by_cases hm : m ≤ 1024
  case neg =>
    cases b2 with
    | false => have := z2 rfl; omega
    | true =>
      cases b1
      ·
        refine run_val (soW_X _ _ _) (soW_T _ _ _) (noL_okV rfl) (so_bno a b xs m d) ?_ rfl
        repeat' (first | exact alls_nil | refine alls_cons ?_ ?_)
        all_goals first | with_reducible assumption | with_reducible rfl | omega | (simp only [decide_eq_false_iff_not, decide_eq_true_eq]; omega) | rfl
      ·
        refine run_val (soW_X _ _ _) (soW_T _ _ _) (noL_okV rfl) (so_boo a b rs xs n c m d) ?_ rfl
        repeat' (first | exact alls_nil | refine alls_cons ?_ ?_)
        all_goals first | with_reducible assumption | with_reducible rfl | omega | (simp only [decide_eq_false_iff_not, decide_eq_true_eq]; omega) | rfl
  have F : SoF rs n c := ⟨i1, l1, w1, c1, hn⟩
  have X : SoX xs m d := ⟨y2, l2, c2, hm⟩
  have ax : all1 (xs.take m) = true := by rw [take_len l2]; exact Ints.all1 (k := .u8) y2.1
  have fx : Fl ([] ++ xs.take m) := by rw [List.nil_append, take_len l2]; exact fl_byts y2
  cases b2 with
  | false =>
    cases b1
    ·
      refine run_val (soW_X _ _ _) (soW_T _ _ _) (noL_okV rfl) (so_nn a b) ?_ rfl
      repeat' (first | exact alls_nil | refine alls_cons ?_ ?_)
      all_goals first | with_reducible assumption | with_reducible rfl | omega | (simp only [decide_eq_false_iff_not, decide_eq_true_eq]; omega) | rfl
    ·
      refine run_val (soW_X _ _ _) (soW_T _ _ _) (L_okV rfl (soL_ok (soN_ok a b rs))) (so_sn a b rs n c) ?_ rfl
      repeat' (first | exact alls_nil | refine alls_cons ?_ ?_)
      all_goals first | with_reducible assumption | with_reducible rfl | omega | (simp only [decide_eq_false_iff_not, decide_eq_true_eq]; omega) | rfl
  | true =>
    by_cases h0 : m = 0
    · subst h0
      cases b1
      ·
        refine run_val (soW_X _ _ _) (soW_T _ _ _) (noL_okV rfl) (so_ne a b xs d) ?_ rfl
        repeat' (first | exact alls_nil | refine alls_cons ?_ ?_)
        all_goals first | with_reducible assumption | with_reducible rfl | omega | (simp only [decide_eq_false_iff_not, decide_eq_true_eq]; omega) | rfl
      ·
        refine run_val (soW_X _ _ _) (soW_T _ _ _) (L_okV rfl (soL_ok (soE_ok a b rs xs 0 d))) (so_se a b rs xs n c d) ?_ rfl
        repeat' (first | exact alls_nil | refine alls_cons ?_ ?_)
        all_goals first | with_reducible assumption | with_reducible rfl | omega | (simp only [decide_eq_false_iff_not, decide_eq_true_eq]; omega) | rfl
    · cases b1
      ·
        refine run_val (soW_X _ _ _) (soW_T _ _ _) (noL_okV rfl) (so_no a b xs m d) ?_ rfl
        repeat' (first | exact alls_nil | refine alls_cons ?_ ?_)
        all_goals first | with_reducible assumption | with_reducible rfl | omega | (simp only [decide_eq_false_iff_not, decide_eq_true_eq]; omega) | rfl
      ·
        refine run_val (soW_X _ _ _) (soW_T _ _ _) (L_okV rfl (soL_ok (soO_ok a b rs xs m d (0 + m) ([] ++ List.take m xs)))) (so_so a b rs xs n c m d) ?_ rfl
        repeat' (first | exact alls_nil | refine alls_cons ?_ ?_)
        all_goals first | with_reducible assumption | with_reducible rfl | omega | (simp only [decide_eq_false_iff_not, decide_eq_true_eq]; omega) | rfl
theorem flat_rng {zss : List (List Int)} (h : ∀ zs ∈ zss, AllWf [.i64] zs) : ∀ j, j < zss.length → -9223372036854775808 ≤ intAt ((zss.map (cellsK [.i64])).flatten) j ∧ intAt ((zss.map (cellsK [.i64])).flatten) j ≤ 9223372036854775807 := by
  obtain ⟨l, e, hw⟩ := flat_rep (m := 1) (k := .i64) h
  have hl : ((zss.map (cellsK [.i64])).flatten).length = zss.length * 1 := flat_len h
  intro j hj
  rw [show [IntKind.i64] = List.replicate 1 .i64 from rfl] at hl ⊢
  rw [e, List.length_map] at hl
  rw [e]
  have hj2 : j < l.length := by omega
  have := hw _ (List.getElem_mem hj2)
  simp [Lit.wf, IntKind.min, IntKind.max, IntKind.signed, IntKind.bits] at this
  unfold intAt
  rw [List.getElem?_map, List.getElem?_eq_getElem hj2]
  simp only [Option.map_some]
  omega
theorem RqOk.nil : RqOk ⟨false, 0, 0, []⟩ := ⟨rfl, rfl, fun j h => absurd h (Nat.not_lt_zero j), ⟨Nat.le_refl 0, Nat.zero_le _⟩, fun _ => rfl⟩
theorem RyOk.nil : RyOk ⟨false, 0, 0, []⟩ := ⟨Byts.nil, rfl, ⟨Nat.le_refl 0, Nat.zero_le _⟩, fun _ => rfl⟩
theorem once_any {W : World} {a b : Int} {v1 v2 : Value} {a1 a2 : Av} {q1 q2 : Option (Addr × Nat)} {z1 z2 : List (List Int)} (h1 : (a1 = .fl (.slice none 0 0) ∧ z1 = []) ∨ a1 = .sl (z1.map (cellsK [.i64])).flatten z1.length) (h2 : (a2 = .fl (.slice none 0 0) ∧ z2 = []) ∨ a2 = .sl (z2.map (cellsK [.u8])).flatten z2.length)
    (A1 : AvAt a1 v1 q1) (A2 : AvAt a2 v2 q2) (L1 : Lies W a1 q1) (L2 : Lies W a2 q2) (w1 : ∀ zs ∈ z1, AllWf [.i64] zs) (w2 : ∀ zs ∈ z2, AllWf [.u8] zs) :
    Calls Try.prog 3 #[.agg #[.int .u64 a, .int .u64 b], v1, v2] W fun e w' => e = .returned (.bool true) ∧ Ext W w' := by
  have b2 := flat_Byts w2
  have l2 : ((z2.map (cellsK [.u8])).flatten).length = z2.length := by rw [flat_len w2]; simp
  have b1 : Ints .i64 (z1.map (cellsK [.i64])).flatten := flat_Ints (m := 1) w1
  have l1 : ((z1.map (cellsK [.i64])).flatten).length = z1.length := by rw [flat_len w1]; simp
  have r1 := flat_rng w1
  refine calls_sl (avs := [.fl (.agg ⟨[.int .u64 a, .int .u64 b]⟩), a1, a2]) (vs := [.agg ⟨[.int .u64 a, .int .u64 b]⟩, v1, v2]) (ps := [none, q1, q2]) ⟨⟨rfl, fun σ => rfl, rfl⟩, A1, A2, trivial⟩ ⟨(fun ad c e => by cases e), L1, L2, trivial⟩ (fun σ => rfl) fun cs hcs => ?_
  obtain ⟨c, d, e, rfl⟩ := caps3 hcs
  rcases h1 with ⟨rfl, rfl⟩ | rfl <;> rcases h2 with ⟨rfl, rfl⟩ | rfl
  · exact so_all (a := a) (b := b) (a1 := ⟨false, 0, 0, []⟩) (a2 := ⟨false, 0, 0, []⟩) RqOk.nil RyOk.nil
  · exact so_all (a := a) (b := b) (a1 := ⟨false, 0, 0, []⟩) (a2 := ⟨true, _, e, _⟩) RqOk.nil ⟨b2, l2, hcs.1, fun h => by cases h⟩
  · exact so_all (a := a) (b := b) (a1 := ⟨true, _, d, _⟩) (a2 := ⟨false, 0, 0, []⟩) ⟨b1, l1, r1, hcs.1, fun h => by cases h⟩ RyOk.nil
  · exact so_all (a := a) (b := b) (a1 := ⟨true, _, d, _⟩) (a2 := ⟨true, _, e, _⟩) ⟨b1, l1, r1, hcs.1, fun h => by cases h⟩ ⟨b2, l2, hcs.2.1, fun h => by cases h⟩
end Go.Proofs.Ytdcakhahagbedaa
