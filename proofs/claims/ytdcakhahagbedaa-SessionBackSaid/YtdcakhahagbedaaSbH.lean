/-
  Chapter 22: Read's rounds that go on; the loop (written by wip/tools/gen_sbh.py).
-/
import Derived.Test.YtdcakhahagbedaaSbG
namespace Go.Proofs.Ytdcakhahagbedaa
set_option linter.unusedSimpArgs false
set_option linter.unusedVariables false
set_option linter.unusedSectionVars false
open Go Go.RowKit

/-- What is known of a session. -/
structure SeF (e : Se) (a b : Int) : Prop where
  w : w6 e.x ∧ w6 e.y
  lt : nm2 e.x e.y ≤ nm2 a b
  R : Byts e.R
  l : e.R.length = e.n
  n : e.n ≤ 1024
def seN (N : RN) : Se := ⟨N.x, N.y, N.q, N.o, N.s, N.n, N.R⟩
theorem rb_rd {f : Sg} {O L C : Nat} {B : Bool} (h0 : f.b 0 = some (0, 0)) (hC : C < capBig) : renL f [.slice (some ⟨0, O, none⟩) L C, .bool B] = some [.slice (some ⟨0, O, none⟩) L C, .bool B] := by
  exact renL_mk (rb_slc h0 hC) rfl
theorem rb_se {f : Sg} {e : Se} {r m : Nat} (hb : f.b r = some (m, 0)) (hc : f.c r = some (capBig + m)) : renL f (seV e r) = some (seV e m) := by
  exact renL_mk rfl (renL_mk rfl (renL_mk rfl (renL_mk rfl (renL_mk rfl (renL_mk (rb_slg hb hc) rfl)))))
theorem rb_z {f : Sg} : renL f zSe = some zSe := by simp only [zSe, renL, renV]
theorem rb_n {f : Sg} {n : Int} : renL f [.int .i64 n, .bool true] = some [.int .i64 n, .bool true] := by simp only [renL, renV]
def tabL : List Se → List Value
  | [] => tab0
  | [a] => tab1 a
  | [a, b] => tab2 a b
  | [a, b, c] => tab3 a b c
  | [a, b, c, d] => tab4 a b c d
  | _ => []
def rowsL : List Se → Hp
  | [] => []
  | [a] => [(4, seR a)]
  | [a, b] => [(4, seR a), (5, seR b)]
  | [a, b, c] => [(4, seR a), (5, seR b), (6, seR c)]
  | [a, b, c, d] => [(4, seR a), (5, seR b), (6, seR c), (7, seR d)]
  | _ => []
theorem op_rg {n : Int} (h : opB n = true) : 1 ≤ n ∧ n ≤ 1073741824 := by
  unfold opB at h
  exact of_decide_eq_true h
set_option maxHeartbeats 4000000 in
theorem sb_step0 {inr : Bool} {h0 : Hp} {xs : List Value} {s : RS} {N : RN} {k a b : Int} {o : LO} (F : RnF xs s N) (wab : w6 a ∧ w6 b) (hi : (0 : Int) < k) (hb : rbad s 16 = false) (T : TsOk N a b)
    (nx : LRuns inr Try.prog (sbB Try.prog) 4 60 h0 96 (sbS k 1) (sbH xs (tab1 (seN N)) (rnx N.g3 N.z.toNat) N.x N.y [(4, seR (seN N))]) 8 o) :
    LRuns inr Try.prog (sbB Try.prog) 4 60 h0 96 (sbS k 0) (sbH xs (tab0) s a b []) 8 o := by
  have hc := F.i.c
  have hio := F.i.o
  have hw := F.w
  have hw4 : w6 N.x ∧ w6 N.y ∧ w6 a ∧ w6 b := ⟨hw.1, hw.2, wab.1, wab.2⟩
  have hi2 := decide_eq_true hi
  obtain ⟨hB, hL⟩ := rbad_f hb
  have ef := rnx_f hb (.int .i64 16)
  have F0 := F.f
  rw [← ef] at F0
  obtain ⟨ex, ey⟩ := F.gd hb
  have t16 : tkD (loO none s.O 0 16 1) 16 xs = (xs.drop s.O).take 16 := tkD_eq _ _ _
  have y16 : Byts (tkD (loO none s.O 0 16 1) 16 xs) := by rw [t16]; exact (F.i.y.drop _).take _
  have l16 : Fl (tkD (loO none s.O 0 16 1) 16 xs) := fl_byts y16
  have e16 : Byts (tkD (loO none s.O 0 16 1) 16 xs) ∧ 16 = 16 ∧ N.x = r8 (List.drop 8 (tkD (loO none s.O 0 16 1) 16 xs)) ∧ N.y = r8 (tkD (loO none s.O 0 16 1) 16 xs) := ⟨y16, rfl, by rw [t16]; exact ex, by rw [t16]; exact ey⟩
  have a16 : adN (loO none s.O 0 16 1) 16 ≤ xs.length := by rw [adN_eq]; show s.O + 16 ≤ _; omega
  have d16 : decide ((16 : Int) > (s.L : Int)) = false := by simp only [decide_eq_false_iff_not]; omega
  obtain ⟨t1, t2, t3, t4, t5, t6⟩ := T
  have u1 : decide (N.z > 1024) = false := by simp only [decide_eq_false_iff_not]; omega
  have u2 := cmp_gt t2
  have u3 : decide (N.q > 1073741824) = false := by simp only [decide_eq_false_iff_not]; omega
  have u6 : decide (N.s > N.o) = false := by simp only [decide_eq_false_iff_not]; omega
  obtain ⟨yR, lR, nR⟩ := F.R t1
  have z0 := (nb_rg F.f3).1
  have i3 : RI xs N.g3 := by rw [F.f3.t]; exact F.f3.i.nx 4
  have o3 := i3.o
  have c3 := i3.c
  cases h3 : rbad N.g3 N.z.toNat
  · obtain ⟨b3, l3⟩ := rbad_f h3
    have ef3 := rnx_f h3 (.int .i64 N.z)
    rw [← sbN_eq, ← sbN_eq] at ef3
    rw [← ef3] at nx
    have hC : sbN N.g3.C N.z.toNat < capBig := by rw [sbN_eq]; unfold capBig; omega
    obtain ⟨eR, eN⟩ := F.Rg h3
    have tR : tkD (loO none N.g3.O 0 N.z.toNat 1) N.z.toNat xs = (xs.drop N.g3.O).take N.z.toNat := tkD_eq _ _ _
    have xR : Byts N.R ∧ N.n ≤ 140737488355328 ∧ N.R = tkD (loO none N.g3.O 0 N.z.toNat 1) N.z.toNat xs ∧ N.n = N.z.toNat := ⟨yR, by omega, by rw [tR]; exact eR, eN⟩
    have fR : Fl (tkD (loO none N.g3.O 0 N.z.toNat 1) N.z.toNat xs) := by rw [tR, ← eR]; exact fl_byts yR
    have aR : adN (loO none N.g3.O 0 N.z.toNat 1) N.z.toNat ≤ xs.length := by rw [adN_eq]; show N.g3.O + _ ≤ _; omega
    have dR : decide (N.z > (N.g3.L : Int)) = false := by simp only [decide_eq_false_iff_not]; omega
    refine LRuns.step (code_runs (sbV_X _) (sbV_L _) (runZ_ok (sbV_X _) (sbV_T _) (sbV_L _) mixed 9) mixed (sbo_0 inr xs s N k a b) ?_) rfl (by omega) (by omega) (fun n => if n = 4 then 9 else n) ?_ ?_ rfl nx
    ·
      repeat' (first | exact alls_nil | refine alls_cons ?_ ?_)
      all_goals first | with_reducible assumption | with_reducible rfl | exact F.f1 | exact F.f2 | exact F.f3 | omega | (simp only [decide_eq_true_eq, decide_eq_false_iff_not, rg, adN_eq, sbN_eq]; omega)
    · exact ⟨rfl, rb_ptr rfl, rfl, rb_ptr rfl, rfl, rfl, rfl, rb_ptr rfl, rfl, rfl, rfl, rfl, trivial⟩
    · exact ⟨rb_row (m := 3) rfl rfl rfl rfl (Fl.of rfl), ⟨2, _, rfl, rfl, rfl, rfl, .inl (renL_app (renL_app (renL_app (renL_app (rb_se (e := seN N) (r := 4) (m := 9) rfl rfl) (rb_z)) (rb_z)) (rb_z)) rb_n)⟩, ⟨1, _, rfl, rfl, rfl, rfl, .inl (rb_rd rfl hC)⟩, rb_old (by omega) rfl (fl_byts F.i.y), rb_row (m := 9) rfl rfl rfl rfl (fl_byts yR), trivial⟩
  · have er := rnx_t h3
    rw [er] at nx
    have hC : N.g3.C < capBig := by unfold capBig; omega
    obtain ⟨eR, eN⟩ := F.Rb h3
    have m0 : 0 ≤ m16 N.z ∧ m16 N.z ≤ 16 := by unfold m16; split <;> omega
    have xR : Byts N.R ∧ N.n ≤ 140737488355328 ∧ N.R = (zrep [.int .u8 0] (m16 N.z).toNat).take (m16 N.z).toNat ∧ N.n = (m16 N.z).toNat := ⟨yR, by omega, eR, eN⟩
    have fR : Fl ((zrep [.int .u8 0] (m16 N.z).toNat).take (m16 N.z).toNat) := by rw [← eR]; exact fl_byts yR
    have aR : (m16 N.z).toNat ≤ (zrep [Value.int .u8 0] (m16 N.z).toNat).length := by rw [zrep1, List.length_replicate]; exact Nat.le_refl _
    have q1 : 0 ≤ m16 N.z ∧ m16 N.z ≤ m16 N.z ∧ 1 * m16 N.z ≤ 281474976710656 ∧ m16 N.z ≤ 9223372036854775807 := by omega
    have q2 : (m16 N.z).toNat ≤ (m16 N.z).toNat ∧ (m16 N.z).toNat ≤ 9223372036854775807 := by omega
    rcases rbad_t h3 with hb3 | ⟨hb3, hl3⟩
    · refine LRuns.step (code_runs (sbV_X _) (sbV_L _) (runZ_ok (sbV_X _) (sbV_T _) (sbV_L _) mixed 9) mixed (sbb_0 inr xs s N k a b) ?_) rfl (by omega) (by omega) (fun n => if n = 4 then 10 else n) ?_ ?_ rfl nx
      ·
        repeat' (first | exact alls_nil | refine alls_cons ?_ ?_)
        all_goals first | with_reducible assumption | with_reducible rfl | exact F.f1 | exact F.f2 | exact F.f3 | exact q1 | exact q2 | exact aR | exact fR | exact xR | omega | (simp only [decide_eq_true_eq, decide_eq_false_iff_not, rg, adN_eq, sbN_eq]; omega)
      · exact ⟨rfl, rb_ptr rfl, rfl, rb_ptr rfl, rfl, rfl, rfl, rb_ptr rfl, rfl, rfl, rfl, rfl, trivial⟩
      · exact ⟨rb_row (m := 3) rfl rfl rfl rfl (Fl.of rfl), ⟨2, _, rfl, rfl, rfl, rfl, .inl (renL_app (renL_app (renL_app (renL_app (rb_se (e := seN N) (r := 4) (m := 10) rfl rfl) (rb_z)) (rb_z)) (rb_z)) rb_n)⟩, ⟨1, _, rfl, rfl, rfl, rfl, .inl (rb_rd rfl hC)⟩, rb_old (by omega) rfl (fl_byts F.i.y), rb_row (m := 10) rfl rfl rfl rfl (fl_byts yR), trivial⟩
    · have dR : decide (N.z > (N.g3.L : Int)) = true := by simp only [decide_eq_true_eq]; omega
      refine LRuns.step (code_runs (sbV_X _) (sbV_L _) (runZ_ok (sbV_X _) (sbV_T _) (sbV_L _) mixed 9) mixed (sbl_0 inr xs s N k a b) ?_) rfl (by omega) (by omega) (fun n => if n = 4 then 10 else n) ?_ ?_ rfl nx
      ·
        repeat' (first | exact alls_nil | refine alls_cons ?_ ?_)
        all_goals first | with_reducible assumption | with_reducible rfl | exact F.f1 | exact F.f2 | exact F.f3 | exact q1 | exact q2 | exact aR | exact fR | exact xR | omega | (simp only [decide_eq_true_eq, decide_eq_false_iff_not, rg, adN_eq, sbN_eq]; omega)
      · exact ⟨rfl, rb_ptr rfl, rfl, rb_ptr rfl, rfl, rfl, rfl, rb_ptr rfl, rfl, rfl, rfl, rfl, trivial⟩
      · exact ⟨rb_row (m := 3) rfl rfl rfl rfl (Fl.of rfl), ⟨2, _, rfl, rfl, rfl, rfl, .inl (renL_app (renL_app (renL_app (renL_app (rb_se (e := seN N) (r := 4) (m := 10) rfl rfl) (rb_z)) (rb_z)) (rb_z)) rb_n)⟩, ⟨1, _, rfl, rfl, rfl, rfl, .inl (rb_rd rfl hC)⟩, rb_old (by omega) rfl (fl_byts F.i.y), rb_row (m := 10) rfl rfl rfl rfl (fl_byts yR), trivial⟩
set_option maxHeartbeats 4000000 in
theorem sb_step1 {inr : Bool} {h0 : Hp} {xs : List Value} {s : RS} {N : RN} {k a b : Int} {e0 : Se} {o : LO} (F : RnF xs s N) (wab : w6 a ∧ w6 b) (hi : (1 : Int) < k) (hb : rbad s 16 = false) (T : TsOk N a b) (S0 : SeF e0 a b)
    (nx : LRuns inr Try.prog (sbB Try.prog) 4 60 h0 96 (sbS k 2) (sbH xs (tab2 e0 (seN N)) (rnx N.g3 N.z.toNat) N.x N.y [(4, seR e0), (5, seR (seN N))]) 8 o) :
    LRuns inr Try.prog (sbB Try.prog) 4 60 h0 96 (sbS k 1) (sbH xs (tab1 e0) s a b [(4, seR e0)]) 8 o := by
  have hc := F.i.c
  have hio := F.i.o
  have hw := F.w
  have hw4 : w6 N.x ∧ w6 N.y ∧ w6 a ∧ w6 b := ⟨hw.1, hw.2, wab.1, wab.2⟩
  have hi2 := decide_eq_true hi
  obtain ⟨hB, hL⟩ := rbad_f hb
  have ef := rnx_f hb (.int .i64 16)
  have F0 := F.f
  rw [← ef] at F0
  obtain ⟨ex, ey⟩ := F.gd hb
  have t16 : tkD (loO none s.O 0 16 1) 16 xs = (xs.drop s.O).take 16 := tkD_eq _ _ _
  have y16 : Byts (tkD (loO none s.O 0 16 1) 16 xs) := by rw [t16]; exact (F.i.y.drop _).take _
  have l16 : Fl (tkD (loO none s.O 0 16 1) 16 xs) := fl_byts y16
  have e16 : Byts (tkD (loO none s.O 0 16 1) 16 xs) ∧ 16 = 16 ∧ N.x = r8 (List.drop 8 (tkD (loO none s.O 0 16 1) 16 xs)) ∧ N.y = r8 (tkD (loO none s.O 0 16 1) 16 xs) := ⟨y16, rfl, by rw [t16]; exact ex, by rw [t16]; exact ey⟩
  have a16 : adN (loO none s.O 0 16 1) 16 ≤ xs.length := by rw [adN_eq]; show s.O + 16 ≤ _; omega
  have d16 : decide ((16 : Int) > (s.L : Int)) = false := by simp only [decide_eq_false_iff_not]; omega
  obtain ⟨t1, t2, t3, t4, t5, t6⟩ := T
  have u1 : decide (N.z > 1024) = false := by simp only [decide_eq_false_iff_not]; omega
  have u2 := cmp_gt t2
  have u3 : decide (N.q > 1073741824) = false := by simp only [decide_eq_false_iff_not]; omega
  have u6 : decide (N.s > N.o) = false := by simp only [decide_eq_false_iff_not]; omega
  obtain ⟨yR, lR, nR⟩ := F.R t1
  have z0 := (nb_rg F.f3).1
  have i3 : RI xs N.g3 := by rw [F.f3.t]; exact F.f3.i.nx 4
  have o3 := i3.o
  have c3 := i3.c
  have k0 : w6 e0.x ∧ w6 e0.y ∧ w6 N.x ∧ w6 N.y := ⟨S0.w.1, S0.w.2, hw.1, hw.2⟩
  have v0 := cmp_lt (show nm2 e0.x e0.y < nm2 N.x N.y by have := S0.lt; omega)
  cases h3 : rbad N.g3 N.z.toNat
  · obtain ⟨b3, l3⟩ := rbad_f h3
    have ef3 := rnx_f h3 (.int .i64 N.z)
    rw [← sbN_eq, ← sbN_eq] at ef3
    rw [← ef3] at nx
    have hC : sbN N.g3.C N.z.toNat < capBig := by rw [sbN_eq]; unfold capBig; omega
    obtain ⟨eR, eN⟩ := F.Rg h3
    have tR : tkD (loO none N.g3.O 0 N.z.toNat 1) N.z.toNat xs = (xs.drop N.g3.O).take N.z.toNat := tkD_eq _ _ _
    have xR : Byts N.R ∧ N.n ≤ 140737488355328 ∧ N.R = tkD (loO none N.g3.O 0 N.z.toNat 1) N.z.toNat xs ∧ N.n = N.z.toNat := ⟨yR, by omega, by rw [tR]; exact eR, eN⟩
    have fR : Fl (tkD (loO none N.g3.O 0 N.z.toNat 1) N.z.toNat xs) := by rw [tR, ← eR]; exact fl_byts yR
    have aR : adN (loO none N.g3.O 0 N.z.toNat 1) N.z.toNat ≤ xs.length := by rw [adN_eq]; show N.g3.O + _ ≤ _; omega
    have dR : decide (N.z > (N.g3.L : Int)) = false := by simp only [decide_eq_false_iff_not]; omega
    refine LRuns.step (code_runs (sbV_X _) (sbV_L _) (runZ_ok (sbV_X _) (sbV_T _) (sbV_L _) mixed 9) mixed (sbo_1 inr xs s N k a b e0) ?_) rfl (by omega) (by omega) (fun n => if n = 5 then 9 else n) ?_ ?_ rfl nx
    ·
      repeat' (first | exact alls_nil | refine alls_cons ?_ ?_)
      all_goals first | with_reducible assumption | with_reducible rfl | exact F.f1 | exact F.f2 | exact F.f3 | omega | (simp only [decide_eq_true_eq, decide_eq_false_iff_not, rg, adN_eq, sbN_eq]; omega)
    · exact ⟨rfl, rb_ptr rfl, rfl, rb_ptr rfl, rfl, rfl, rfl, rb_ptr rfl, rfl, rfl, rfl, rfl, trivial⟩
    · exact ⟨rb_row (m := 3) rfl rfl rfl rfl (Fl.of rfl), ⟨2, _, rfl, rfl, rfl, rfl, .inl (renL_app (renL_app (renL_app (renL_app (rb_se (r := 4) (m := 4) rfl rfl) (rb_se (e := seN N) (r := 5) (m := 9) rfl rfl)) (rb_z)) (rb_z)) rb_n)⟩, ⟨1, _, rfl, rfl, rfl, rfl, .inl (rb_rd rfl hC)⟩, rb_old (by omega) rfl (fl_byts F.i.y), rb_row (m := 4) rfl rfl rfl rfl (fl_byts S0.R), rb_row (m := 9) rfl rfl rfl rfl (fl_byts yR), trivial⟩
  · have er := rnx_t h3
    rw [er] at nx
    have hC : N.g3.C < capBig := by unfold capBig; omega
    obtain ⟨eR, eN⟩ := F.Rb h3
    have m0 : 0 ≤ m16 N.z ∧ m16 N.z ≤ 16 := by unfold m16; split <;> omega
    have xR : Byts N.R ∧ N.n ≤ 140737488355328 ∧ N.R = (zrep [.int .u8 0] (m16 N.z).toNat).take (m16 N.z).toNat ∧ N.n = (m16 N.z).toNat := ⟨yR, by omega, eR, eN⟩
    have fR : Fl ((zrep [.int .u8 0] (m16 N.z).toNat).take (m16 N.z).toNat) := by rw [← eR]; exact fl_byts yR
    have aR : (m16 N.z).toNat ≤ (zrep [Value.int .u8 0] (m16 N.z).toNat).length := by rw [zrep1, List.length_replicate]; exact Nat.le_refl _
    have q1 : 0 ≤ m16 N.z ∧ m16 N.z ≤ m16 N.z ∧ 1 * m16 N.z ≤ 281474976710656 ∧ m16 N.z ≤ 9223372036854775807 := by omega
    have q2 : (m16 N.z).toNat ≤ (m16 N.z).toNat ∧ (m16 N.z).toNat ≤ 9223372036854775807 := by omega
    rcases rbad_t h3 with hb3 | ⟨hb3, hl3⟩
    · refine LRuns.step (code_runs (sbV_X _) (sbV_L _) (runZ_ok (sbV_X _) (sbV_T _) (sbV_L _) mixed 9) mixed (sbb_1 inr xs s N k a b e0) ?_) rfl (by omega) (by omega) (fun n => if n = 5 then 10 else n) ?_ ?_ rfl nx
      ·
        repeat' (first | exact alls_nil | refine alls_cons ?_ ?_)
        all_goals first | with_reducible assumption | with_reducible rfl | exact F.f1 | exact F.f2 | exact F.f3 | exact q1 | exact q2 | exact aR | exact fR | exact xR | omega | (simp only [decide_eq_true_eq, decide_eq_false_iff_not, rg, adN_eq, sbN_eq]; omega)
      · exact ⟨rfl, rb_ptr rfl, rfl, rb_ptr rfl, rfl, rfl, rfl, rb_ptr rfl, rfl, rfl, rfl, rfl, trivial⟩
      · exact ⟨rb_row (m := 3) rfl rfl rfl rfl (Fl.of rfl), ⟨2, _, rfl, rfl, rfl, rfl, .inl (renL_app (renL_app (renL_app (renL_app (rb_se (r := 4) (m := 4) rfl rfl) (rb_se (e := seN N) (r := 5) (m := 10) rfl rfl)) (rb_z)) (rb_z)) rb_n)⟩, ⟨1, _, rfl, rfl, rfl, rfl, .inl (rb_rd rfl hC)⟩, rb_old (by omega) rfl (fl_byts F.i.y), rb_row (m := 4) rfl rfl rfl rfl (fl_byts S0.R), rb_row (m := 10) rfl rfl rfl rfl (fl_byts yR), trivial⟩
    · have dR : decide (N.z > (N.g3.L : Int)) = true := by simp only [decide_eq_true_eq]; omega
      refine LRuns.step (code_runs (sbV_X _) (sbV_L _) (runZ_ok (sbV_X _) (sbV_T _) (sbV_L _) mixed 9) mixed (sbl_1 inr xs s N k a b e0) ?_) rfl (by omega) (by omega) (fun n => if n = 5 then 10 else n) ?_ ?_ rfl nx
      ·
        repeat' (first | exact alls_nil | refine alls_cons ?_ ?_)
        all_goals first | with_reducible assumption | with_reducible rfl | exact F.f1 | exact F.f2 | exact F.f3 | exact q1 | exact q2 | exact aR | exact fR | exact xR | omega | (simp only [decide_eq_true_eq, decide_eq_false_iff_not, rg, adN_eq, sbN_eq]; omega)
      · exact ⟨rfl, rb_ptr rfl, rfl, rb_ptr rfl, rfl, rfl, rfl, rb_ptr rfl, rfl, rfl, rfl, rfl, trivial⟩
      · exact ⟨rb_row (m := 3) rfl rfl rfl rfl (Fl.of rfl), ⟨2, _, rfl, rfl, rfl, rfl, .inl (renL_app (renL_app (renL_app (renL_app (rb_se (r := 4) (m := 4) rfl rfl) (rb_se (e := seN N) (r := 5) (m := 10) rfl rfl)) (rb_z)) (rb_z)) rb_n)⟩, ⟨1, _, rfl, rfl, rfl, rfl, .inl (rb_rd rfl hC)⟩, rb_old (by omega) rfl (fl_byts F.i.y), rb_row (m := 4) rfl rfl rfl rfl (fl_byts S0.R), rb_row (m := 10) rfl rfl rfl rfl (fl_byts yR), trivial⟩
set_option maxHeartbeats 4000000 in
theorem sb_step2 {inr : Bool} {h0 : Hp} {xs : List Value} {s : RS} {N : RN} {k a b : Int} {e0 e1 : Se} {o : LO} (F : RnF xs s N) (wab : w6 a ∧ w6 b) (hi : (2 : Int) < k) (hb : rbad s 16 = false) (T : TsOk N a b) (S0 : SeF e0 a b) (S1 : SeF e1 a b)
    (nx : LRuns inr Try.prog (sbB Try.prog) 4 60 h0 96 (sbS k 3) (sbH xs (tab3 e0 e1 (seN N)) (rnx N.g3 N.z.toNat) N.x N.y [(4, seR e0), (5, seR e1), (6, seR (seN N))]) 8 o) :
    LRuns inr Try.prog (sbB Try.prog) 4 60 h0 96 (sbS k 2) (sbH xs (tab2 e0 e1) s a b [(4, seR e0), (5, seR e1)]) 8 o := by
  have hc := F.i.c
  have hio := F.i.o
  have hw := F.w
  have hw4 : w6 N.x ∧ w6 N.y ∧ w6 a ∧ w6 b := ⟨hw.1, hw.2, wab.1, wab.2⟩
  have hi2 := decide_eq_true hi
  obtain ⟨hB, hL⟩ := rbad_f hb
  have ef := rnx_f hb (.int .i64 16)
  have F0 := F.f
  rw [← ef] at F0
  obtain ⟨ex, ey⟩ := F.gd hb
  have t16 : tkD (loO none s.O 0 16 1) 16 xs = (xs.drop s.O).take 16 := tkD_eq _ _ _
  have y16 : Byts (tkD (loO none s.O 0 16 1) 16 xs) := by rw [t16]; exact (F.i.y.drop _).take _
  have l16 : Fl (tkD (loO none s.O 0 16 1) 16 xs) := fl_byts y16
  have e16 : Byts (tkD (loO none s.O 0 16 1) 16 xs) ∧ 16 = 16 ∧ N.x = r8 (List.drop 8 (tkD (loO none s.O 0 16 1) 16 xs)) ∧ N.y = r8 (tkD (loO none s.O 0 16 1) 16 xs) := ⟨y16, rfl, by rw [t16]; exact ex, by rw [t16]; exact ey⟩
  have a16 : adN (loO none s.O 0 16 1) 16 ≤ xs.length := by rw [adN_eq]; show s.O + 16 ≤ _; omega
  have d16 : decide ((16 : Int) > (s.L : Int)) = false := by simp only [decide_eq_false_iff_not]; omega
  obtain ⟨t1, t2, t3, t4, t5, t6⟩ := T
  have u1 : decide (N.z > 1024) = false := by simp only [decide_eq_false_iff_not]; omega
  have u2 := cmp_gt t2
  have u3 : decide (N.q > 1073741824) = false := by simp only [decide_eq_false_iff_not]; omega
  have u6 : decide (N.s > N.o) = false := by simp only [decide_eq_false_iff_not]; omega
  obtain ⟨yR, lR, nR⟩ := F.R t1
  have z0 := (nb_rg F.f3).1
  have i3 : RI xs N.g3 := by rw [F.f3.t]; exact F.f3.i.nx 4
  have o3 := i3.o
  have c3 := i3.c
  have k0 : w6 e0.x ∧ w6 e0.y ∧ w6 N.x ∧ w6 N.y := ⟨S0.w.1, S0.w.2, hw.1, hw.2⟩
  have v0 := cmp_lt (show nm2 e0.x e0.y < nm2 N.x N.y by have := S0.lt; omega)
  have k1 : w6 e1.x ∧ w6 e1.y ∧ w6 N.x ∧ w6 N.y := ⟨S1.w.1, S1.w.2, hw.1, hw.2⟩
  have v1 := cmp_lt (show nm2 e1.x e1.y < nm2 N.x N.y by have := S1.lt; omega)
  cases h3 : rbad N.g3 N.z.toNat
  · obtain ⟨b3, l3⟩ := rbad_f h3
    have ef3 := rnx_f h3 (.int .i64 N.z)
    rw [← sbN_eq, ← sbN_eq] at ef3
    rw [← ef3] at nx
    have hC : sbN N.g3.C N.z.toNat < capBig := by rw [sbN_eq]; unfold capBig; omega
    obtain ⟨eR, eN⟩ := F.Rg h3
    have tR : tkD (loO none N.g3.O 0 N.z.toNat 1) N.z.toNat xs = (xs.drop N.g3.O).take N.z.toNat := tkD_eq _ _ _
    have xR : Byts N.R ∧ N.n ≤ 140737488355328 ∧ N.R = tkD (loO none N.g3.O 0 N.z.toNat 1) N.z.toNat xs ∧ N.n = N.z.toNat := ⟨yR, by omega, by rw [tR]; exact eR, eN⟩
    have fR : Fl (tkD (loO none N.g3.O 0 N.z.toNat 1) N.z.toNat xs) := by rw [tR, ← eR]; exact fl_byts yR
    have aR : adN (loO none N.g3.O 0 N.z.toNat 1) N.z.toNat ≤ xs.length := by rw [adN_eq]; show N.g3.O + _ ≤ _; omega
    have dR : decide (N.z > (N.g3.L : Int)) = false := by simp only [decide_eq_false_iff_not]; omega
    refine LRuns.step (code_runs (sbV_X _) (sbV_L _) (runZ_ok (sbV_X _) (sbV_T _) (sbV_L _) mixed 9) mixed (sbo_2 inr xs s N k a b e0 e1) ?_) rfl (by omega) (by omega) (fun n => if n = 6 then 9 else n) ?_ ?_ rfl nx
    ·
      repeat' (first | exact alls_nil | refine alls_cons ?_ ?_)
      all_goals first | with_reducible assumption | with_reducible rfl | exact F.f1 | exact F.f2 | exact F.f3 | omega | (simp only [decide_eq_true_eq, decide_eq_false_iff_not, rg, adN_eq, sbN_eq]; omega)
    · exact ⟨rfl, rb_ptr rfl, rfl, rb_ptr rfl, rfl, rfl, rfl, rb_ptr rfl, rfl, rfl, rfl, rfl, trivial⟩
    · exact ⟨rb_row (m := 3) rfl rfl rfl rfl (Fl.of rfl), ⟨2, _, rfl, rfl, rfl, rfl, .inl (renL_app (renL_app (renL_app (renL_app (rb_se (r := 4) (m := 4) rfl rfl) (rb_se (r := 5) (m := 5) rfl rfl)) (rb_se (e := seN N) (r := 6) (m := 9) rfl rfl)) (rb_z)) rb_n)⟩, ⟨1, _, rfl, rfl, rfl, rfl, .inl (rb_rd rfl hC)⟩, rb_old (by omega) rfl (fl_byts F.i.y), rb_row (m := 4) rfl rfl rfl rfl (fl_byts S0.R), rb_row (m := 5) rfl rfl rfl rfl (fl_byts S1.R), rb_row (m := 9) rfl rfl rfl rfl (fl_byts yR), trivial⟩
  · have er := rnx_t h3
    rw [er] at nx
    have hC : N.g3.C < capBig := by unfold capBig; omega
    obtain ⟨eR, eN⟩ := F.Rb h3
    have m0 : 0 ≤ m16 N.z ∧ m16 N.z ≤ 16 := by unfold m16; split <;> omega
    have xR : Byts N.R ∧ N.n ≤ 140737488355328 ∧ N.R = (zrep [.int .u8 0] (m16 N.z).toNat).take (m16 N.z).toNat ∧ N.n = (m16 N.z).toNat := ⟨yR, by omega, eR, eN⟩
    have fR : Fl ((zrep [.int .u8 0] (m16 N.z).toNat).take (m16 N.z).toNat) := by rw [← eR]; exact fl_byts yR
    have aR : (m16 N.z).toNat ≤ (zrep [Value.int .u8 0] (m16 N.z).toNat).length := by rw [zrep1, List.length_replicate]; exact Nat.le_refl _
    have q1 : 0 ≤ m16 N.z ∧ m16 N.z ≤ m16 N.z ∧ 1 * m16 N.z ≤ 281474976710656 ∧ m16 N.z ≤ 9223372036854775807 := by omega
    have q2 : (m16 N.z).toNat ≤ (m16 N.z).toNat ∧ (m16 N.z).toNat ≤ 9223372036854775807 := by omega
    rcases rbad_t h3 with hb3 | ⟨hb3, hl3⟩
    · refine LRuns.step (code_runs (sbV_X _) (sbV_L _) (runZ_ok (sbV_X _) (sbV_T _) (sbV_L _) mixed 9) mixed (sbb_2 inr xs s N k a b e0 e1) ?_) rfl (by omega) (by omega) (fun n => if n = 6 then 10 else n) ?_ ?_ rfl nx
      ·
        repeat' (first | exact alls_nil | refine alls_cons ?_ ?_)
        all_goals first | with_reducible assumption | with_reducible rfl | exact F.f1 | exact F.f2 | exact F.f3 | exact q1 | exact q2 | exact aR | exact fR | exact xR | omega | (simp only [decide_eq_true_eq, decide_eq_false_iff_not, rg, adN_eq, sbN_eq]; omega)
      · exact ⟨rfl, rb_ptr rfl, rfl, rb_ptr rfl, rfl, rfl, rfl, rb_ptr rfl, rfl, rfl, rfl, rfl, trivial⟩
      · exact ⟨rb_row (m := 3) rfl rfl rfl rfl (Fl.of rfl), ⟨2, _, rfl, rfl, rfl, rfl, .inl (renL_app (renL_app (renL_app (renL_app (rb_se (r := 4) (m := 4) rfl rfl) (rb_se (r := 5) (m := 5) rfl rfl)) (rb_se (e := seN N) (r := 6) (m := 10) rfl rfl)) (rb_z)) rb_n)⟩, ⟨1, _, rfl, rfl, rfl, rfl, .inl (rb_rd rfl hC)⟩, rb_old (by omega) rfl (fl_byts F.i.y), rb_row (m := 4) rfl rfl rfl rfl (fl_byts S0.R), rb_row (m := 5) rfl rfl rfl rfl (fl_byts S1.R), rb_row (m := 10) rfl rfl rfl rfl (fl_byts yR), trivial⟩
    · have dR : decide (N.z > (N.g3.L : Int)) = true := by simp only [decide_eq_true_eq]; omega
      refine LRuns.step (code_runs (sbV_X _) (sbV_L _) (runZ_ok (sbV_X _) (sbV_T _) (sbV_L _) mixed 9) mixed (sbl_2 inr xs s N k a b e0 e1) ?_) rfl (by omega) (by omega) (fun n => if n = 6 then 10 else n) ?_ ?_ rfl nx
      ·
        repeat' (first | exact alls_nil | refine alls_cons ?_ ?_)
        all_goals first | with_reducible assumption | with_reducible rfl | exact F.f1 | exact F.f2 | exact F.f3 | exact q1 | exact q2 | exact aR | exact fR | exact xR | omega | (simp only [decide_eq_true_eq, decide_eq_false_iff_not, rg, adN_eq, sbN_eq]; omega)
      · exact ⟨rfl, rb_ptr rfl, rfl, rb_ptr rfl, rfl, rfl, rfl, rb_ptr rfl, rfl, rfl, rfl, rfl, trivial⟩
      · exact ⟨rb_row (m := 3) rfl rfl rfl rfl (Fl.of rfl), ⟨2, _, rfl, rfl, rfl, rfl, .inl (renL_app (renL_app (renL_app (renL_app (rb_se (r := 4) (m := 4) rfl rfl) (rb_se (r := 5) (m := 5) rfl rfl)) (rb_se (e := seN N) (r := 6) (m := 10) rfl rfl)) (rb_z)) rb_n)⟩, ⟨1, _, rfl, rfl, rfl, rfl, .inl (rb_rd rfl hC)⟩, rb_old (by omega) rfl (fl_byts F.i.y), rb_row (m := 4) rfl rfl rfl rfl (fl_byts S0.R), rb_row (m := 5) rfl rfl rfl rfl (fl_byts S1.R), rb_row (m := 10) rfl rfl rfl rfl (fl_byts yR), trivial⟩
set_option maxHeartbeats 4000000 in
theorem sb_step3 {inr : Bool} {h0 : Hp} {xs : List Value} {s : RS} {N : RN} {k a b : Int} {e0 e1 e2 : Se} {o : LO} (F : RnF xs s N) (wab : w6 a ∧ w6 b) (hi : (3 : Int) < k) (hb : rbad s 16 = false) (T : TsOk N a b) (S0 : SeF e0 a b) (S1 : SeF e1 a b) (S2 : SeF e2 a b)
    (nx : LRuns inr Try.prog (sbB Try.prog) 4 60 h0 96 (sbS k 4) (sbH xs (tab4 e0 e1 e2 (seN N)) (rnx N.g3 N.z.toNat) N.x N.y [(4, seR e0), (5, seR e1), (6, seR e2), (7, seR (seN N))]) 8 o) :
    LRuns inr Try.prog (sbB Try.prog) 4 60 h0 96 (sbS k 3) (sbH xs (tab3 e0 e1 e2) s a b [(4, seR e0), (5, seR e1), (6, seR e2)]) 8 o := by
  have hc := F.i.c
  have hio := F.i.o
  have hw := F.w
  have hw4 : w6 N.x ∧ w6 N.y ∧ w6 a ∧ w6 b := ⟨hw.1, hw.2, wab.1, wab.2⟩
  have hi2 := decide_eq_true hi
  obtain ⟨hB, hL⟩ := rbad_f hb
  have ef := rnx_f hb (.int .i64 16)
  have F0 := F.f
  rw [← ef] at F0
  obtain ⟨ex, ey⟩ := F.gd hb
  have t16 : tkD (loO none s.O 0 16 1) 16 xs = (xs.drop s.O).take 16 := tkD_eq _ _ _
  have y16 : Byts (tkD (loO none s.O 0 16 1) 16 xs) := by rw [t16]; exact (F.i.y.drop _).take _
  have l16 : Fl (tkD (loO none s.O 0 16 1) 16 xs) := fl_byts y16
  have e16 : Byts (tkD (loO none s.O 0 16 1) 16 xs) ∧ 16 = 16 ∧ N.x = r8 (List.drop 8 (tkD (loO none s.O 0 16 1) 16 xs)) ∧ N.y = r8 (tkD (loO none s.O 0 16 1) 16 xs) := ⟨y16, rfl, by rw [t16]; exact ex, by rw [t16]; exact ey⟩
  have a16 : adN (loO none s.O 0 16 1) 16 ≤ xs.length := by rw [adN_eq]; show s.O + 16 ≤ _; omega
  have d16 : decide ((16 : Int) > (s.L : Int)) = false := by simp only [decide_eq_false_iff_not]; omega
  obtain ⟨t1, t2, t3, t4, t5, t6⟩ := T
  have u1 : decide (N.z > 1024) = false := by simp only [decide_eq_false_iff_not]; omega
  have u2 := cmp_gt t2
  have u3 : decide (N.q > 1073741824) = false := by simp only [decide_eq_false_iff_not]; omega
  have u6 : decide (N.s > N.o) = false := by simp only [decide_eq_false_iff_not]; omega
  obtain ⟨yR, lR, nR⟩ := F.R t1
  have z0 := (nb_rg F.f3).1
  have i3 : RI xs N.g3 := by rw [F.f3.t]; exact F.f3.i.nx 4
  have o3 := i3.o
  have c3 := i3.c
  have k0 : w6 e0.x ∧ w6 e0.y ∧ w6 N.x ∧ w6 N.y := ⟨S0.w.1, S0.w.2, hw.1, hw.2⟩
  have v0 := cmp_lt (show nm2 e0.x e0.y < nm2 N.x N.y by have := S0.lt; omega)
  have k1 : w6 e1.x ∧ w6 e1.y ∧ w6 N.x ∧ w6 N.y := ⟨S1.w.1, S1.w.2, hw.1, hw.2⟩
  have v1 := cmp_lt (show nm2 e1.x e1.y < nm2 N.x N.y by have := S1.lt; omega)
  have k2 : w6 e2.x ∧ w6 e2.y ∧ w6 N.x ∧ w6 N.y := ⟨S2.w.1, S2.w.2, hw.1, hw.2⟩
  have v2 := cmp_lt (show nm2 e2.x e2.y < nm2 N.x N.y by have := S2.lt; omega)
  cases h3 : rbad N.g3 N.z.toNat
  · obtain ⟨b3, l3⟩ := rbad_f h3
    have ef3 := rnx_f h3 (.int .i64 N.z)
    rw [← sbN_eq, ← sbN_eq] at ef3
    rw [← ef3] at nx
    have hC : sbN N.g3.C N.z.toNat < capBig := by rw [sbN_eq]; unfold capBig; omega
    obtain ⟨eR, eN⟩ := F.Rg h3
    have tR : tkD (loO none N.g3.O 0 N.z.toNat 1) N.z.toNat xs = (xs.drop N.g3.O).take N.z.toNat := tkD_eq _ _ _
    have xR : Byts N.R ∧ N.n ≤ 140737488355328 ∧ N.R = tkD (loO none N.g3.O 0 N.z.toNat 1) N.z.toNat xs ∧ N.n = N.z.toNat := ⟨yR, by omega, by rw [tR]; exact eR, eN⟩
    have fR : Fl (tkD (loO none N.g3.O 0 N.z.toNat 1) N.z.toNat xs) := by rw [tR, ← eR]; exact fl_byts yR
    have aR : adN (loO none N.g3.O 0 N.z.toNat 1) N.z.toNat ≤ xs.length := by rw [adN_eq]; show N.g3.O + _ ≤ _; omega
    have dR : decide (N.z > (N.g3.L : Int)) = false := by simp only [decide_eq_false_iff_not]; omega
    refine LRuns.step (code_runs (sbV_X _) (sbV_L _) (runZ_ok (sbV_X _) (sbV_T _) (sbV_L _) mixed 9) mixed (sbo_3 inr xs s N k a b e0 e1 e2) ?_) rfl (by omega) (by omega) (fun n => if n = 7 then 9 else n) ?_ ?_ rfl nx
    ·
      repeat' (first | exact alls_nil | refine alls_cons ?_ ?_)
      all_goals first | with_reducible assumption | with_reducible rfl | exact F.f1 | exact F.f2 | exact F.f3 | omega | (simp only [decide_eq_true_eq, decide_eq_false_iff_not, rg, adN_eq, sbN_eq]; omega)
    · exact ⟨rfl, rb_ptr rfl, rfl, rb_ptr rfl, rfl, rfl, rfl, rb_ptr rfl, rfl, rfl, rfl, rfl, trivial⟩
    · exact ⟨rb_row (m := 3) rfl rfl rfl rfl (Fl.of rfl), ⟨2, _, rfl, rfl, rfl, rfl, .inl (renL_app (renL_app (renL_app (renL_app (rb_se (r := 4) (m := 4) rfl rfl) (rb_se (r := 5) (m := 5) rfl rfl)) (rb_se (r := 6) (m := 6) rfl rfl)) (rb_se (e := seN N) (r := 7) (m := 9) rfl rfl)) rb_n)⟩, ⟨1, _, rfl, rfl, rfl, rfl, .inl (rb_rd rfl hC)⟩, rb_old (by omega) rfl (fl_byts F.i.y), rb_row (m := 4) rfl rfl rfl rfl (fl_byts S0.R), rb_row (m := 5) rfl rfl rfl rfl (fl_byts S1.R), rb_row (m := 6) rfl rfl rfl rfl (fl_byts S2.R), rb_row (m := 9) rfl rfl rfl rfl (fl_byts yR), trivial⟩
  · have er := rnx_t h3
    rw [er] at nx
    have hC : N.g3.C < capBig := by unfold capBig; omega
    obtain ⟨eR, eN⟩ := F.Rb h3
    have m0 : 0 ≤ m16 N.z ∧ m16 N.z ≤ 16 := by unfold m16; split <;> omega
    have xR : Byts N.R ∧ N.n ≤ 140737488355328 ∧ N.R = (zrep [.int .u8 0] (m16 N.z).toNat).take (m16 N.z).toNat ∧ N.n = (m16 N.z).toNat := ⟨yR, by omega, eR, eN⟩
    have fR : Fl ((zrep [.int .u8 0] (m16 N.z).toNat).take (m16 N.z).toNat) := by rw [← eR]; exact fl_byts yR
    have aR : (m16 N.z).toNat ≤ (zrep [Value.int .u8 0] (m16 N.z).toNat).length := by rw [zrep1, List.length_replicate]; exact Nat.le_refl _
    have q1 : 0 ≤ m16 N.z ∧ m16 N.z ≤ m16 N.z ∧ 1 * m16 N.z ≤ 281474976710656 ∧ m16 N.z ≤ 9223372036854775807 := by omega
    have q2 : (m16 N.z).toNat ≤ (m16 N.z).toNat ∧ (m16 N.z).toNat ≤ 9223372036854775807 := by omega
    rcases rbad_t h3 with hb3 | ⟨hb3, hl3⟩
    · refine LRuns.step (code_runs (sbV_X _) (sbV_L _) (runZ_ok (sbV_X _) (sbV_T _) (sbV_L _) mixed 9) mixed (sbb_3 inr xs s N k a b e0 e1 e2) ?_) rfl (by omega) (by omega) (fun n => if n = 7 then 10 else n) ?_ ?_ rfl nx
      ·
        repeat' (first | exact alls_nil | refine alls_cons ?_ ?_)
        all_goals first | with_reducible assumption | with_reducible rfl | exact F.f1 | exact F.f2 | exact F.f3 | exact q1 | exact q2 | exact aR | exact fR | exact xR | omega | (simp only [decide_eq_true_eq, decide_eq_false_iff_not, rg, adN_eq, sbN_eq]; omega)
      · exact ⟨rfl, rb_ptr rfl, rfl, rb_ptr rfl, rfl, rfl, rfl, rb_ptr rfl, rfl, rfl, rfl, rfl, trivial⟩
      · exact ⟨rb_row (m := 3) rfl rfl rfl rfl (Fl.of rfl), ⟨2, _, rfl, rfl, rfl, rfl, .inl (renL_app (renL_app (renL_app (renL_app (rb_se (r := 4) (m := 4) rfl rfl) (rb_se (r := 5) (m := 5) rfl rfl)) (rb_se (r := 6) (m := 6) rfl rfl)) (rb_se (e := seN N) (r := 7) (m := 10) rfl rfl)) rb_n)⟩, ⟨1, _, rfl, rfl, rfl, rfl, .inl (rb_rd rfl hC)⟩, rb_old (by omega) rfl (fl_byts F.i.y), rb_row (m := 4) rfl rfl rfl rfl (fl_byts S0.R), rb_row (m := 5) rfl rfl rfl rfl (fl_byts S1.R), rb_row (m := 6) rfl rfl rfl rfl (fl_byts S2.R), rb_row (m := 10) rfl rfl rfl rfl (fl_byts yR), trivial⟩
    · have dR : decide (N.z > (N.g3.L : Int)) = true := by simp only [decide_eq_true_eq]; omega
      refine LRuns.step (code_runs (sbV_X _) (sbV_L _) (runZ_ok (sbV_X _) (sbV_T _) (sbV_L _) mixed 9) mixed (sbl_3 inr xs s N k a b e0 e1 e2) ?_) rfl (by omega) (by omega) (fun n => if n = 7 then 10 else n) ?_ ?_ rfl nx
      ·
        repeat' (first | exact alls_nil | refine alls_cons ?_ ?_)
        all_goals first | with_reducible assumption | with_reducible rfl | exact F.f1 | exact F.f2 | exact F.f3 | exact q1 | exact q2 | exact aR | exact fR | exact xR | omega | (simp only [decide_eq_true_eq, decide_eq_false_iff_not, rg, adN_eq, sbN_eq]; omega)
      · exact ⟨rfl, rb_ptr rfl, rfl, rb_ptr rfl, rfl, rfl, rfl, rb_ptr rfl, rfl, rfl, rfl, rfl, trivial⟩
      · exact ⟨rb_row (m := 3) rfl rfl rfl rfl (Fl.of rfl), ⟨2, _, rfl, rfl, rfl, rfl, .inl (renL_app (renL_app (renL_app (renL_app (rb_se (r := 4) (m := 4) rfl rfl) (rb_se (r := 5) (m := 5) rfl rfl)) (rb_se (r := 6) (m := 6) rfl rfl)) (rb_se (e := seN N) (r := 7) (m := 10) rfl rfl)) rb_n)⟩, ⟨1, _, rfl, rfl, rfl, rfl, .inl (rb_rd rfl hC)⟩, rb_old (by omega) rfl (fl_byts F.i.y), rb_row (m := 4) rfl rfl rfl rfl (fl_byts S0.R), rb_row (m := 5) rfl rfl rfl rfl (fl_byts S1.R), rb_row (m := 6) rfl rfl rfl rfl (fl_byts S2.R), rb_row (m := 10) rfl rfl rfl rfl (fl_byts yR), trivial⟩

/-! ### the loop -/
theorem bd_rows : ∀ es : List Se, es.length ≤ 4 → bdB (rowsL es) 8 = true
  | [], _ => rfl
  | [_], _ => rfl
  | [_, _], _ => rfl
  | [_, _, _], _ => rfl
  | [_, _, _, _], _ => rfl
  | _ :: _ :: _ :: _ :: _ :: _, h => by simp at h
/-- What the rounds come to: nothing, or sessions and a reader. -/
inductive Rd (xs : List Value) : Nat → RS → Int → Int → List Se → Option (List Se × RS) → Prop
  | done {s : RS} {a b : Int} {es : List Se} : Rd xs 0 s a b es (some (es, s))
  | bad {r : Nat} {s : RS} {a b : Int} {es : List Se} : ¬ (rbad s 16 = false ∧ TsOk (rnN xs s) a b) → Rd xs (r + 1) s a b es none
  | next {r : Nat} {s : RS} {a b : Int} {es : List Se} {o : Option (List Se × RS)} : rbad s 16 = false → TsOk (rnN xs s) a b → Rd xs r (rnx (rnN xs s).g3 (rnN xs s).z.toNat) (rnN xs s).x (rnN xs s).y (es ++ [seN (rnN xs s)]) o → Rd xs (r + 1) s a b es o
theorem Rd.ex (xs : List Value) : ∀ (r : Nat) (s : RS) (a b : Int) (es : List Se), ∃ o, Rd xs r s a b es o
  | 0, s, a, b, es => ⟨_, .done⟩
  | r + 1, s, a, b, es => by
      by_cases h : rbad s 16 = false ∧ TsOk (rnN xs s) a b
      · obtain ⟨o, ho⟩ := Rd.ex xs r (rnx (rnN xs s).g3 (rnN xs s).z.toNat) (rnN xs s).x (rnN xs s).y (es ++ [seN (rnN xs s)])
        exact ⟨o, .next h.1 h.2 ho⟩
      · exact ⟨none, .bad h⟩
theorem SeF.up {e : Se} {a b c d : Int} (h : SeF e a b) (hlt : nm2 a b ≤ nm2 c d) : SeF e c d := ⟨h.w, Int.le_trans h.lt hlt, h.R, h.l, h.n⟩
theorem seN_F {xs : List Value} {s : RS} {N : RN} {a b : Int} (F : RnF xs s N) (T : TsOk N a b) : SeF (seN N) N.x N.y := by
  obtain ⟨h1, h2, h3⟩ := F.R T.z
  exact ⟨F.w, Int.le_refl _, h1, h2, h3⟩
theorem sb_step {inr : Bool} {h0 : Hp} {xs : List Value} {s : RS} {N : RN} {k a b : Int} {o : LO} (F : RnF xs s N) (wab : w6 a ∧ w6 b) (hb : rbad s 16 = false) (T : TsOk N a b) : ∀ es : List Se, es.length ≤ 3 → (es.length : Int) < k → (∀ e ∈ es, SeF e a b) →
    LRuns inr Try.prog (sbB Try.prog) 4 60 h0 96 (sbS k (es.length + 1)) (sbH xs (tabL (es ++ [seN N])) (rnx N.g3 N.z.toNat) N.x N.y (rowsL (es ++ [seN N]))) 8 o →
    LRuns inr Try.prog (sbB Try.prog) 4 60 h0 96 (sbS k es.length) (sbH xs (tabL es) s a b (rowsL es)) 8 o
  | [], _, hi, S, nx => sb_step0 F wab hi hb T nx
  | [e0], _, hi, S, nx => sb_step1 F wab hi hb T (S e0 (by simp)) nx
  | [e0, e1], _, hi, S, nx => sb_step2 F wab hi hb T (S e0 (by simp)) (S e1 (by simp)) nx
  | [e0, e1, e2], _, hi, S, nx => sb_step3 F wab hi hb T (S e0 (by simp)) (S e1 (by simp)) (S e2 (by simp)) nx
  | _ :: _ :: _ :: _ :: _, h, _, _, _ => by simp at h
theorem sb_fail {inr : Bool} {h0 : Hp} {xs : List Value} {k : Nat} : ∀ (r : Nat) (s : RS) (a b : Int) (es : List Se), Rd xs r s a b es none → es.length + r = k → k ≤ 4 → RI xs s → w6 a ∧ w6 b → (∀ e ∈ es, SeF e a b) →
    LRuns inr Try.prog (sbB Try.prog) 4 60 h0 96 (sbS (k : Int) es.length) (sbH xs (tabL es) s a b (rowsL es)) 8 (.ret, [(2, .pointer none), (3, .int .i64 4)], [])
  | 0, s, a, b, es, h, _, _, _, _, _ => by cases h
  | r + 1, s, a, b, es, h, hk, h4, hi, wab, S => by
      have F := rnN_F hi
      cases h with
      | bad hn =>
        refine LRuns.less (fun n r hl => ?_) (sb_bad (xs := xs) (tb := tabL es) (s := s) (i := es.length) F wab (by omega) hn)
        simp only [sbH] at hl ⊢
        rw [lk_cons] at hl ⊢
        split
        · rename_i e; rw [if_pos e] at hl; exact hl
        · rename_i e; rw [if_neg e] at hl
          rw [lk_cons] at hl ⊢
          split
          · rename_i e; rw [if_pos e] at hl; exact hl
          · rename_i e; rw [if_neg e] at hl
            rw [lk_cons] at hl ⊢
            split
            · rename_i e; rw [if_pos e] at hl; exact hl
            · rename_i e; rw [if_neg e] at hl
              rw [lk_cons] at hl ⊢
              split
              · rename_i e; rw [if_pos e] at hl; exact hl
              · rename_i e; rw [if_neg e] at hl; cases hl
      | next hb T hr =>
        have i3 : RI xs (rnN xs s).g3 := by rw [F.f3.t]; exact F.f3.i.nx 4
        have lt := T.c
        refine sb_step F wab hb T es (by omega) (by omega) S ?_
        have ih := sb_fail (inr := inr) (h0 := h0) (k := k) r _ _ _ _ hr (by simp; omega) h4 (i3.nx _) F.w (fun e he => by
          rcases List.mem_append.1 he with h | h
          · exact (S e h).up (Int.le_of_lt lt)
          · rw [List.mem_singleton.1 h]; exact seN_F F T)
        rw [List.length_append] at ih
        exact ih
/-- The loop's exit. -/
def sbO (xs : List Value) (es : List Se) (s : RS) : LO := (.exit 0, [(4, .pointer (some ⟨1, 0, none⟩)), (5, .pointer (some ⟨2, 0, none⟩))], (2, ⟨.shut, tabL es⟩) :: (1, rdR s.O s.L s.C s.B) :: (0, ⟨.old, xs⟩) :: rowsL es)
def N0 : RN := ⟨0, 0, ⟨0, 0, 0, true⟩, 0, ⟨0, 0, 0, true⟩, 0, ⟨0, 0, 0, true⟩, 0, ⟨0, 0, 0, true⟩, 0, [], 0⟩
theorem sb_exit {inr : Bool} {h0 : Hp} {xs : List Value} {s : RS} {k a b : Int} {i : Nat} (hi : RI xs s) (hk : k ≤ (i : Int)) : ∀ es : List Se, es.length ≤ 4 → (∀ e ∈ es, Byts e.R) →
    LRuns inr Try.prog (sbB Try.prog) 4 60 h0 96 (sbS k i) (sbH xs (tabL es) s a b (rowsL es)) 8 (sbO xs es s)
  | [], _, S => by
      have hd : decide ((i : Int) < k) = false := by simp only [decide_eq_false_iff_not]; omega
      have hC : s.C < capBig := by have := hi.c; unfold capBig; omega
      refine LRuns.exit (code_runs (sbV_X _) (sbV_L _) (runZ_ok (sbV_X _) (sbV_T _) (sbV_L _) mixed 9) mixed (sbf_x inr N0 (sbH xs (tabL []) s a b (rowsL [])) k i) (alls_cons hd alls_nil)) (by intro e; cases e) rfl (by omega) (by omega) (fun n => n) ⟨rfl, rb_ptr rfl, rfl, rb_ptr rfl, trivial⟩ ⟨⟨2, _, rfl, rfl, rfl, rfl, .inl (renL_app (renL_app (renL_app (renL_app (rb_z) (rb_z)) (rb_z)) (rb_z)) rb_n)⟩, ⟨1, _, rfl, rfl, rfl, rfl, .inl (rb_rd rfl hC)⟩, rb_old (by omega) rfl (fl_byts hi.y), trivial⟩ rfl
  | [e0], _, S => by
      have hd : decide ((i : Int) < k) = false := by simp only [decide_eq_false_iff_not]; omega
      have hC : s.C < capBig := by have := hi.c; unfold capBig; omega
      refine LRuns.exit (code_runs (sbV_X _) (sbV_L _) (runZ_ok (sbV_X _) (sbV_T _) (sbV_L _) mixed 9) mixed (sbf_x inr N0 (sbH xs (tabL [e0]) s a b (rowsL [e0])) k i) (alls_cons hd alls_nil)) (by intro e; cases e) rfl (by omega) (by omega) (fun n => n) ⟨rfl, rb_ptr rfl, rfl, rb_ptr rfl, trivial⟩ ⟨⟨2, _, rfl, rfl, rfl, rfl, .inl (renL_app (renL_app (renL_app (renL_app (rb_se (r := 4) (m := 4) rfl rfl) (rb_z)) (rb_z)) (rb_z)) rb_n)⟩, ⟨1, _, rfl, rfl, rfl, rfl, .inl (rb_rd rfl hC)⟩, rb_old (by omega) rfl (fl_byts hi.y), rb_row (m := 4) rfl rfl rfl rfl (fl_byts (S e0 (by simp))), trivial⟩ rfl
  | [e0, e1], _, S => by
      have hd : decide ((i : Int) < k) = false := by simp only [decide_eq_false_iff_not]; omega
      have hC : s.C < capBig := by have := hi.c; unfold capBig; omega
      refine LRuns.exit (code_runs (sbV_X _) (sbV_L _) (runZ_ok (sbV_X _) (sbV_T _) (sbV_L _) mixed 9) mixed (sbf_x inr N0 (sbH xs (tabL [e0, e1]) s a b (rowsL [e0, e1])) k i) (alls_cons hd alls_nil)) (by intro e; cases e) rfl (by omega) (by omega) (fun n => n) ⟨rfl, rb_ptr rfl, rfl, rb_ptr rfl, trivial⟩ ⟨⟨2, _, rfl, rfl, rfl, rfl, .inl (renL_app (renL_app (renL_app (renL_app (rb_se (r := 4) (m := 4) rfl rfl) (rb_se (r := 5) (m := 5) rfl rfl)) (rb_z)) (rb_z)) rb_n)⟩, ⟨1, _, rfl, rfl, rfl, rfl, .inl (rb_rd rfl hC)⟩, rb_old (by omega) rfl (fl_byts hi.y), rb_row (m := 4) rfl rfl rfl rfl (fl_byts (S e0 (by simp))), rb_row (m := 5) rfl rfl rfl rfl (fl_byts (S e1 (by simp))), trivial⟩ rfl
  | [e0, e1, e2], _, S => by
      have hd : decide ((i : Int) < k) = false := by simp only [decide_eq_false_iff_not]; omega
      have hC : s.C < capBig := by have := hi.c; unfold capBig; omega
      refine LRuns.exit (code_runs (sbV_X _) (sbV_L _) (runZ_ok (sbV_X _) (sbV_T _) (sbV_L _) mixed 9) mixed (sbf_x inr N0 (sbH xs (tabL [e0, e1, e2]) s a b (rowsL [e0, e1, e2])) k i) (alls_cons hd alls_nil)) (by intro e; cases e) rfl (by omega) (by omega) (fun n => n) ⟨rfl, rb_ptr rfl, rfl, rb_ptr rfl, trivial⟩ ⟨⟨2, _, rfl, rfl, rfl, rfl, .inl (renL_app (renL_app (renL_app (renL_app (rb_se (r := 4) (m := 4) rfl rfl) (rb_se (r := 5) (m := 5) rfl rfl)) (rb_se (r := 6) (m := 6) rfl rfl)) (rb_z)) rb_n)⟩, ⟨1, _, rfl, rfl, rfl, rfl, .inl (rb_rd rfl hC)⟩, rb_old (by omega) rfl (fl_byts hi.y), rb_row (m := 4) rfl rfl rfl rfl (fl_byts (S e0 (by simp))), rb_row (m := 5) rfl rfl rfl rfl (fl_byts (S e1 (by simp))), rb_row (m := 6) rfl rfl rfl rfl (fl_byts (S e2 (by simp))), trivial⟩ rfl
  | [e0, e1, e2, e3], _, S => by
      have hd : decide ((i : Int) < k) = false := by simp only [decide_eq_false_iff_not]; omega
      have hC : s.C < capBig := by have := hi.c; unfold capBig; omega
      refine LRuns.exit (code_runs (sbV_X _) (sbV_L _) (runZ_ok (sbV_X _) (sbV_T _) (sbV_L _) mixed 9) mixed (sbf_x inr N0 (sbH xs (tabL [e0, e1, e2, e3]) s a b (rowsL [e0, e1, e2, e3])) k i) (alls_cons hd alls_nil)) (by intro e; cases e) rfl (by omega) (by omega) (fun n => n) ⟨rfl, rb_ptr rfl, rfl, rb_ptr rfl, trivial⟩ ⟨⟨2, _, rfl, rfl, rfl, rfl, .inl (renL_app (renL_app (renL_app (renL_app (rb_se (r := 4) (m := 4) rfl rfl) (rb_se (r := 5) (m := 5) rfl rfl)) (rb_se (r := 6) (m := 6) rfl rfl)) (rb_se (r := 7) (m := 7) rfl rfl)) rb_n)⟩, ⟨1, _, rfl, rfl, rfl, rfl, .inl (rb_rd rfl hC)⟩, rb_old (by omega) rfl (fl_byts hi.y), rb_row (m := 4) rfl rfl rfl rfl (fl_byts (S e0 (by simp))), rb_row (m := 5) rfl rfl rfl rfl (fl_byts (S e1 (by simp))), rb_row (m := 6) rfl rfl rfl rfl (fl_byts (S e2 (by simp))), rb_row (m := 7) rfl rfl rfl rfl (fl_byts (S e3 (by simp))), trivial⟩ rfl
  | _ :: _ :: _ :: _ :: _ :: _, h, _ => by simp at h
theorem sb_done {inr : Bool} {h0 : Hp} {xs : List Value} {k : Nat} : ∀ (r : Nat) (s : RS) (a b : Int) (es es' : List Se) (s' : RS), Rd xs r s a b es (some (es', s')) → es.length + r = k → k ≤ 4 → RI xs s → w6 a ∧ w6 b → (∀ e ∈ es, SeF e a b) →
    LRuns inr Try.prog (sbB Try.prog) 4 60 h0 96 (sbS (k : Int) es.length) (sbH xs (tabL es) s a b (rowsL es)) 8 (sbO xs es' s')
  | 0, s, a, b, es, es', s', h, hk, h4, hi, wab, S => by
      cases h
      exact sb_exit hi (by omega) es (by omega) fun e he => (S e he).R
  | r + 1, s, a, b, es, es', s', h, hk, h4, hi, wab, S => by
      have F := rnN_F hi
      cases h with
      | next hb T hr =>
        have i3 : RI xs (rnN xs s).g3 := by rw [F.f3.t]; exact F.f3.i.nx 4
        have lt := T.c
        refine sb_step F wab hb T es (by omega) (by omega) S ?_
        have ih := sb_done (inr := inr) (h0 := h0) (k := k) r _ _ _ _ es' s' hr (by simp; omega) h4 (i3.nx _) F.w (fun e he => by
          rcases List.mem_append.1 he with h | h
          · exact (S e h).up (Int.le_of_lt lt)
          · rw [List.mem_singleton.1 h]; exact seN_F F T)
        rw [List.length_append] at ih
        exact ih
end Go.Proofs.Ytdcakhahagbedaa
