/-
  Chapter 22: Read's rounds: laws.
-/
import Derived.Test.YtdcakhahagbedaaSbE
namespace Go.Proofs.Ytdcakhahagbedaa
set_option linter.unusedSimpArgs false
set_option linter.unusedVariables false
set_option linter.unusedSectionVars false
open Go Go.RowKit

theorem LRuns.less {inr : Bool} {P : Program} {x : Code} {lo M N n : Nat} {h0 h h2 : Hp} {l : List (Nat × Value)} {o : LO} (hs : ∀ n r, lk h2 n = some r → lk h n = some r) (H : LRuns inr P x lo M h0 n l h2 N o) : LRuns inr P x lo M h0 n l h N o :=
  fun W σ0 w0 σ w a hR0 hf S ht => H W σ0 w0 σ w a hR0 hf (S.less hs) ht
theorem Byts.zeros (n : Nat) : Byts (List.replicate n (.int .u8 0)) := by
  have e : List.replicate n (Value.int .u8 0) = (List.replicate n (0 : Int)).map (Value.int .u8) := by rw [List.map_replicate]
  rw [e]
  refine Byts.of fun x hx => ?_
  rw [(List.mem_replicate.1 hx).2]
  omega
theorem RI.nx {xs : List Value} {s : RS} (h : RI xs s) (n : Nat) : RI xs (rnx s n) := by
  have h1 := h.o
  have h2 := h.c
  unfold rnx
  split
  · exact ⟨h.y, h.o, h.c⟩
  · rename_i hb
    have hn : n ≤ s.L := by
      simp only [rbad, Bool.or_eq_true, decide_eq_true_eq, not_or] at hb
      omega
    refine ⟨h.y, ?_, ⟨by simp only; omega, by simp only; omega⟩⟩
    simp only
    split <;> omega
theorem loO_at (v : Value) (o n c : Nat) : loO (some v) o n c 1 = if c = n then o else o + n := by
  show slO o n c 1 = _
  unfold slO
  by_cases h : c = n
  · rw [if_pos h, h, Nat.beq_refl]; rfl
  · rw [if_neg h, nbeq_ne h, Nat.mul_one]; rfl
theorem rbad_f {s : RS} {n : Nat} (h : rbad s n = false) : s.B = false ∧ n ≤ s.L := by
  simp only [rbad, Bool.or_eq_false_iff, decide_eq_false_iff_not] at h
  exact ⟨h.1, by omega⟩
theorem rbad_t {s : RS} {n : Nat} (h : rbad s n = true) : s.B = true ∨ (s.B = false ∧ s.L < n) := by
  simp only [rbad, Bool.or_eq_true, decide_eq_true_eq] at h
  cases hb : s.B
  · exact .inr ⟨rfl, by rcases h with e | e; rw [hb] at e; cases e; exact e⟩
  · exact .inl rfl
theorem rnx_f {s : RS} {n : Nat} (h : rbad s n = false) (v : Value) : (⟨loO (some v) s.O n s.C 1, s.L - n, s.C - n, s.B⟩ : RS) = rnx s n := by
  unfold rnx
  rw [if_neg (by rw [h]; exact Bool.false_ne_true), loO_at, (rbad_f h).1]
theorem rnx_t {s : RS} {n : Nat} (h : rbad s n = true) : rnx s n = { s with B := true } := by unfold rnx; rw [if_pos h]
theorem rbad_B {s : RS} (h : s.B = true) (n : Nat) : rbad s n = true := by unfold rbad; rw [h]; rfl
theorem nb_B {xs : List Value} {s t : RS} {v : Int} (F : NbF xs s t v) (h : s.B = true) : t.B = true ∧ v = 0 := by
  have e := rbad_B h 4
  refine ⟨by rw [F.t, rnx_t e], ?_⟩
  rw [F.v]; unfold rnv; rw [if_pos e]
theorem n4_rg {xs : List Value} (h : Byts xs) {o : Nat} (ho : o + 4 ≤ xs.length) : 0 ≤ n4 (xs.drop o) ∧ n4 (xs.drop o) < 4294967296 := by
  obtain ⟨_, l0, u0⟩ := h.get (i := o) (by omega)
  obtain ⟨_, l1, u1⟩ := h.get (i := o + 1) (by omega)
  obtain ⟨_, l2, u2⟩ := h.get (i := o + 2) (by omega)
  obtain ⟨_, l3, u3⟩ := h.get (i := o + 3) (by omega)
  unfold n4
  simp only [intAt_drop, Nat.add_zero]
  omega
theorem nb_rg {xs : List Value} {s t : RS} {v : Int} (F : NbF xs s t v) : 0 ≤ v ∧ v < 4294967296 := by
  have h := F.i.o
  rw [F.v]
  unfold rnv
  split
  · omega
  · rename_i hb
    have := rbad_f (Bool.eq_false_iff.2 hb)
    exact n4_rg F.i.y (by omega)
theorem r8_rg {xs : List Value} (h : Byts xs) {o : Nat} (ho : o + 8 ≤ xs.length) : w6 (r8 (xs.drop o)) := by
  obtain ⟨_, l0, u0⟩ := h.get (i := o) (by omega)
  obtain ⟨_, l1, u1⟩ := h.get (i := o + 1) (by omega)
  obtain ⟨_, l2, u2⟩ := h.get (i := o + 2) (by omega)
  obtain ⟨_, l3, u3⟩ := h.get (i := o + 3) (by omega)
  obtain ⟨_, l4, u4⟩ := h.get (i := o + 4) (by omega)
  obtain ⟨_, l5, u5⟩ := h.get (i := o + 5) (by omega)
  obtain ⟨_, l6, u6⟩ := h.get (i := o + 6) (by omega)
  obtain ⟨_, l7, u7⟩ := h.get (i := o + 7) (by omega)
  unfold r8 w6
  simp only [intAt_drop, Nat.add_zero]
  omega
def m16 (z : Int) : Int := if 16 < z then 16 else z
def z16 : List Value := [.int .u8 0, .int .u8 0, .int .u8 0, .int .u8 0, .int .u8 0, .int .u8 0, .int .u8 0, .int .u8 0, .int .u8 0, .int .u8 0, .int .u8 0, .int .u8 0, .int .u8 0, .int .u8 0, .int .u8 0, .int .u8 0]
/-- What a round reads. -/
structure RnF (xs : List Value) (s : RS) (N : RN) : Prop where
  i : RI xs s
  bd : rbad s 16 = true → N.x = 0 ∧ N.y = 0
  gd : rbad s 16 = false → N.x = r8 (((xs.drop s.O).take 16).drop 8) ∧ N.y = r8 ((xs.drop s.O).take 16)
  f : NbF xs (rnx s 16) N.g N.q
  f1 : NbF xs N.g N.g1 N.o
  f2 : NbF xs N.g1 N.g2 N.s
  f3 : NbF xs N.g2 N.g3 N.z
  Rg : rbad N.g3 N.z.toNat = false → N.R = (xs.drop N.g3.O).take N.z.toNat ∧ N.n = N.z.toNat
  Rb : rbad N.g3 N.z.toNat = true → N.R = (zrep [.int .u8 0] (m16 N.z).toNat).take (m16 N.z).toNat ∧ N.n = (m16 N.z).toNat
def rnN (xs : List Value) (s : RS) : RN :=
  ⟨if rbad s 16 then 0 else r8 (((xs.drop s.O).take 16).drop 8), if rbad s 16 then 0 else r8 ((xs.drop s.O).take 16), rnx (rnx s 16) 4, rnv xs (rnx s 16),
   rnx (rnx (rnx s 16) 4) 4, rnv xs (rnx (rnx s 16) 4), rnx (rnx (rnx (rnx s 16) 4) 4) 4, rnv xs (rnx (rnx (rnx s 16) 4) 4), rnx (rnx (rnx (rnx (rnx s 16) 4) 4) 4) 4, rnv xs (rnx (rnx (rnx (rnx s 16) 4) 4) 4),
   if rbad (rnx (rnx (rnx (rnx (rnx s 16) 4) 4) 4) 4) (rnv xs (rnx (rnx (rnx (rnx s 16) 4) 4) 4)).toNat then (zrep [.int .u8 0] (m16 (rnv xs (rnx (rnx (rnx (rnx s 16) 4) 4) 4))).toNat).take (m16 (rnv xs (rnx (rnx (rnx (rnx s 16) 4) 4) 4))).toNat else (xs.drop (rnx (rnx (rnx (rnx (rnx s 16) 4) 4) 4) 4).O).take (rnv xs (rnx (rnx (rnx (rnx s 16) 4) 4) 4)).toNat,
   if rbad (rnx (rnx (rnx (rnx (rnx s 16) 4) 4) 4) 4) (rnv xs (rnx (rnx (rnx (rnx s 16) 4) 4) 4)).toNat then (m16 (rnv xs (rnx (rnx (rnx (rnx s 16) 4) 4) 4))).toNat else (rnv xs (rnx (rnx (rnx (rnx s 16) 4) 4) 4)).toNat⟩
theorem rnN_F {xs : List Value} {s : RS} (h : RI xs s) : RnF xs s (rnN xs s) where
  i := h
  bd e := ⟨if_pos e, if_pos e⟩
  gd e := ⟨if_neg (by rw [e]; exact Bool.false_ne_true), if_neg (by rw [e]; exact Bool.false_ne_true)⟩
  f := ⟨h.nx 16, rfl, rfl⟩
  f1 := ⟨(h.nx 16).nx 4, rfl, rfl⟩
  f2 := ⟨((h.nx 16).nx 4).nx 4, rfl, rfl⟩
  f3 := ⟨(((h.nx 16).nx 4).nx 4).nx 4, rfl, rfl⟩
  Rg e := ⟨if_neg (by simp only [rnN] at e; rw [e]; exact Bool.false_ne_true), if_neg (by simp only [rnN] at e; rw [e]; exact Bool.false_ne_true)⟩
  Rb e := ⟨if_pos e, if_pos e⟩
theorem RnF.w {xs : List Value} {s : RS} {N : RN} (F : RnF xs s N) : w6 N.x ∧ w6 N.y := by
  cases hb : rbad s 16
  · obtain ⟨e1, e2⟩ := F.gd hb
    have h1 := F.i.o
    have h2 := (rbad_f hb).2
    have hl : ((xs.drop s.O).take 16).length = 16 := by simp only [List.length_take, List.length_drop]; omega
    have hy := (F.i.y.drop s.O).take 16
    rw [e1, e2]
    exact ⟨r8_rg hy (by omega), by simpa using r8_rg hy (o := 0) (by omega)⟩
  · obtain ⟨e1, e2⟩ := F.bd hb
    rw [e1, e2]
    unfold w6
    omega
theorem RnF.R {xs : List Value} {s : RS} {N : RN} (F : RnF xs s N) (hz : N.z ≤ 1024) : Byts N.R ∧ N.R.length = N.n ∧ N.n ≤ 1024 := by
  have z0 := (nb_rg F.f3).1
  cases hb : rbad N.g3 N.z.toNat
  · obtain ⟨e1, e2⟩ := F.Rg hb
    have hi : RI xs N.g3 := by rw [F.f3.t]; exact F.f3.i.nx 4
    have h1 := hi.o
    have h2 := (rbad_f hb).2
    rw [e1, e2]
    refine ⟨(F.i.y.drop _).take _, ?_, by omega⟩
    simp only [List.length_take, List.length_drop]; omega
  · obtain ⟨e1, e2⟩ := F.Rb hb
    rw [e1, e2]
    have : m16 N.z ≤ 16 := by unfold m16; split <;> omega
    refine ⟨Byts.take ?_ _, ?_, by omega⟩
    · rw [zrep1]; exact Byts.zeros _
    · rw [zrep1]; simp
/-- The tests of a round. -/
structure TsOk (N : RN) (a b : Int) : Prop where
  z : N.z ≤ 1024
  c : nm2 a b < nm2 N.x N.y
  q : N.q ≤ 1073741824
  o : opB N.o = true
  s : opB N.s = true
  m : N.s ≤ N.o
theorem cmp_le {a b c d : Int} (h : nm2 a b ≤ nm2 c d) : decide (cmpN a b c d ≤ 0) = true := by
  simp only [decide_eq_true_eq]; unfold cmpN; split
  · omega
  · split <;> omega
theorem cmp_gt {a b c d : Int} (h : nm2 c d < nm2 a b) : decide (cmpN a b c d ≤ 0) = false := by
  simp only [decide_eq_false_iff_not]; unfold cmpN; rw [if_neg (by omega), if_neg (by omega)]; omega
theorem cmp_lt {a b c d : Int} (h : nm2 a b < nm2 c d) : decide (cmpN a b c d < 0) = true := by
  simp only [decide_eq_true_eq]; unfold cmpN; rw [if_pos h]; omega
theorem nm2_0 {a b : Int} (ha : w6 a) (hb : w6 b) : nm2 0 0 ≤ nm2 a b := by unfold nm2; unfold w6 at *; omega
theorem sbV_X (N : RN) : XOkZ (sbV N noL) Try.prog := noXz_ok rfl
theorem sbV_T (N : RN) : TOkZ (sbV N noL) Try.prog := T_okV rfl (sbT_one N)
theorem sbV_L (N : RN) : LOkZ (sbV N noL) Try.prog := noL_okV rfl
set_option maxHeartbeats 4000000 in
/-- A round that hands back the error. -/
theorem sb_bad {inr : Bool} {h0 : Hp} {xs tb : List Value} {s : RS} {N : RN} {k a b : Int} {i : Nat} (F : RnF xs s N) (wab : w6 a ∧ w6 b) (hi : (i : Int) < k) (hn : ¬ (rbad s 16 = false ∧ TsOk N a b)) :
    LRuns inr Try.prog (sbB Try.prog) 4 60 h0 96 (sbS k i) (sbH xs tb s a b []) 8 (.ret, [(2, .pointer none), (3, .int .i64 4)], []) := by
  have hc := F.i.c
  have hio := F.i.o
  have hw := F.w
  have hw4 : w6 N.x ∧ w6 N.y ∧ w6 a ∧ w6 b := ⟨hw.1, hw.2, wab.1, wab.2⟩
  have hi2 : decide ((i : Int) < k) = true := decide_eq_true hi
  cases hb : rbad s 16
  · obtain ⟨hB, hL⟩ := rbad_f hb
    have ef := rnx_f hb (.int .i64 16)
    have F0 := F.f
    rw [← ef] at F0
    obtain ⟨ex, ey⟩ := F.gd hb
    have t16 : tkD (loO none s.O 0 16 1) 16 xs = (xs.drop s.O).take 16 := tkD_eq _ _ _
    have y16 : Byts (tkD (loO none s.O 0 16 1) 16 xs) := by rw [t16]; exact (F.i.y.drop _).take _
    have l16 : Fl (tkD (loO none s.O 0 16 1) 16 xs) := fl_byts y16
    have e16 : Byts (tkD (loO none s.O 0 16 1) 16 xs) ∧ 16 = 16 ∧ N.x = r8 (List.drop 8 (tkD (loO none s.O 0 16 1) 16 xs)) ∧ N.y = r8 (tkD (loO none s.O 0 16 1) 16 xs) := ⟨y16, rfl, by rw [t16]; exact ex, by rw [t16]; exact ey⟩
    have a16 : adN (loO none s.O 0 16 1) 16 ≤ xs.length := by rw [adN_eq]; show s.O + 16 ≤ _; omega
    have d16 : decide ((16 : Int) > (s.L : Int)) = false := by simp only [decide_eq_false_iff_not]; omega
    by_cases t1 : N.z ≤ 1024
    · have u1 : decide (N.z > 1024) = false := by simp only [decide_eq_false_iff_not]; omega
      by_cases t2 : nm2 a b < nm2 N.x N.y
      · have u2 := cmp_gt t2
        by_cases t3 : N.q ≤ 1073741824
        · have u3 : decide (N.q > 1073741824) = false := by simp only [decide_eq_false_iff_not]; omega
          cases t4 : opB N.o
          · refine LRuns.exit (code_runs (sbV_X _) (sbV_L _) (runZ_ok (sbV_X _) (sbV_T _) (sbV_L _) mixed 9) mixed (sbf_4 inr xs tb s N k a b i) ?_) (by intro e; cases e) rfl (by omega) (by omega) (fun n => n) ⟨rfl, rfl, rfl, rfl, trivial⟩ trivial rfl
            repeat' (first | exact alls_nil | refine alls_cons ?_ ?_)
            all_goals first | with_reducible assumption | with_reducible rfl | exact F.f1 | exact F.f2 | exact F.f3 | omega | (simp only [decide_eq_true_eq, decide_eq_false_iff_not, rg, adN_eq, sbN_eq]; omega) | (simp only [adN_eq]; show _ + 16 ≤ _; omega)
          · cases t5 : opB N.s
            · refine LRuns.exit (code_runs (sbV_X _) (sbV_L _) (runZ_ok (sbV_X _) (sbV_T _) (sbV_L _) mixed 9) mixed (sbf_5 inr xs tb s N k a b i) ?_) (by intro e; cases e) rfl (by omega) (by omega) (fun n => n) ⟨rfl, rfl, rfl, rfl, trivial⟩ trivial rfl
              repeat' (first | exact alls_nil | refine alls_cons ?_ ?_)
              all_goals first | with_reducible assumption | with_reducible rfl | exact F.f1 | exact F.f2 | exact F.f3 | omega | (simp only [decide_eq_true_eq, decide_eq_false_iff_not, rg, adN_eq, sbN_eq]; omega) | (simp only [adN_eq]; show _ + 16 ≤ _; omega)
            · have t6 : ¬ N.s ≤ N.o := fun e => hn ⟨hb, t1, t2, t3, t4, t5, e⟩
              have u6 : decide (N.s > N.o) = true := by simp only [decide_eq_true_eq]; omega
              refine LRuns.exit (code_runs (sbV_X _) (sbV_L _) (runZ_ok (sbV_X _) (sbV_T _) (sbV_L _) mixed 9) mixed (sbf_6 inr xs tb s N k a b i) ?_) (by intro e; cases e) rfl (by omega) (by omega) (fun n => n) ⟨rfl, rfl, rfl, rfl, trivial⟩ trivial rfl
              repeat' (first | exact alls_nil | refine alls_cons ?_ ?_)
              all_goals first | with_reducible assumption | with_reducible rfl | exact F.f1 | exact F.f2 | exact F.f3 | omega | (simp only [decide_eq_true_eq, decide_eq_false_iff_not, rg, adN_eq, sbN_eq]; omega) | (simp only [adN_eq]; show _ + 16 ≤ _; omega)
        · have u3 : decide (N.q > 1073741824) = true := by simp only [decide_eq_true_eq]; omega
          refine LRuns.exit (code_runs (sbV_X _) (sbV_L _) (runZ_ok (sbV_X _) (sbV_T _) (sbV_L _) mixed 9) mixed (sbf_3 inr xs tb s N k a b i) ?_) (by intro e; cases e) rfl (by omega) (by omega) (fun n => n) ⟨rfl, rfl, rfl, rfl, trivial⟩ trivial rfl
          repeat' (first | exact alls_nil | refine alls_cons ?_ ?_)
          all_goals first | with_reducible assumption | with_reducible rfl | exact F.f1 | exact F.f2 | exact F.f3 | omega | (simp only [decide_eq_true_eq, decide_eq_false_iff_not, rg, adN_eq, sbN_eq]; omega) | (simp only [adN_eq]; show _ + 16 ≤ _; omega)
      · have u2 := cmp_le (show nm2 N.x N.y ≤ nm2 a b by omega)
        refine LRuns.exit (code_runs (sbV_X _) (sbV_L _) (runZ_ok (sbV_X _) (sbV_T _) (sbV_L _) mixed 9) mixed (sbf_2 inr xs tb s N k a b i) ?_) (by intro e; cases e) rfl (by omega) (by omega) (fun n => n) ⟨rfl, rfl, rfl, rfl, trivial⟩ trivial rfl
        repeat' (first | exact alls_nil | refine alls_cons ?_ ?_)
        all_goals first | with_reducible assumption | with_reducible rfl | exact F.f1 | exact F.f2 | exact F.f3 | omega | (simp only [decide_eq_true_eq, decide_eq_false_iff_not, rg, adN_eq, sbN_eq]; omega) | (simp only [adN_eq]; show _ + 16 ≤ _; omega)
    · have u1 : decide (N.z > 1024) = true := by simp only [decide_eq_true_eq]; omega
      refine LRuns.exit (code_runs (sbV_X _) (sbV_L _) (runZ_ok (sbV_X _) (sbV_T _) (sbV_L _) mixed 9) mixed (sbf_1 inr xs tb s N k a b i) ?_) (by intro e; cases e) rfl (by omega) (by omega) (fun n => n) ⟨rfl, rfl, rfl, rfl, trivial⟩ trivial rfl
      repeat' (first | exact alls_nil | refine alls_cons ?_ ?_)
      all_goals first | with_reducible assumption | with_reducible rfl | exact F.f1 | exact F.f2 | exact F.f3 | omega | (simp only [decide_eq_true_eq, decide_eq_false_iff_not, rg, adN_eq, sbN_eq]; omega) | (simp only [adN_eq]; show _ + 16 ≤ _; omega)
  · obtain ⟨ex, ey⟩ := F.bd hb
    have et := rnx_t hb
    have F0 := F.f
    rw [et] at F0
    obtain ⟨b0, _⟩ := nb_B F0 rfl
    obtain ⟨b1, _⟩ := nb_B F.f1 b0
    obtain ⟨b2, _⟩ := nb_B F.f2 b1
    obtain ⟨b3, ez⟩ := nb_B F.f3 b2
    have u1 : decide (N.z > 1024) = false := by simp only [decide_eq_false_iff_not]; omega
    have u2 : decide (cmpN N.x N.y a b ≤ 0) = true := cmp_le (by rw [ex, ey]; exact nm2_0 wab.1 wab.2)
    have y16 : Byts z16 := Byts.zeros 16
    have l16 : Fl z16 := fl_byts y16
    have e16 : Byts z16 ∧ 16 = 16 ∧ N.x = r8 (List.drop 8 z16) ∧ N.y = r8 z16 := ⟨y16, rfl, ex, ey⟩
    have F0' : NbF xs ⟨s.O, s.L, s.C, true⟩ N.g N.q := F0
    rcases rbad_t hb with hB | ⟨hB, hL⟩
    · refine LRuns.exit (code_runs (sbV_X _) (sbV_L _) (runZ_ok (sbV_X _) (sbV_T _) (sbV_L _) mixed 9) mixed (sbf_b inr xs tb s N k a b i) ?_) (by intro e; cases e) rfl (by omega) (by omega) (fun n => n) ⟨rfl, rfl, rfl, rfl, trivial⟩ trivial rfl
      repeat' (first | exact alls_nil | refine alls_cons ?_ ?_)
      all_goals first | with_reducible assumption | exact y16 | exact l16 | exact e16 | exact F0' | exact F.f1 | exact F.f2 | exact F.f3 | omega | (simp only [decide_eq_true_eq, decide_eq_false_iff_not, rg]; omega) | rfl
    · have d16 : decide ((16 : Int) > (s.L : Int)) = true := by simp only [decide_eq_true_eq]; omega
      refine LRuns.exit (code_runs (sbV_X _) (sbV_L _) (runZ_ok (sbV_X _) (sbV_T _) (sbV_L _) mixed 9) mixed (sbf_l inr xs tb s N k a b i) ?_) (by intro e; cases e) rfl (by omega) (by omega) (fun n => n) ⟨rfl, rfl, rfl, rfl, trivial⟩ trivial rfl
      repeat' (first | exact alls_nil | refine alls_cons ?_ ?_)
      all_goals first | with_reducible assumption | exact y16 | exact l16 | exact e16 | exact F0' | exact F.f1 | exact F.f2 | exact F.f3 | omega | (simp only [decide_eq_true_eq, decide_eq_false_iff_not, rg]; omega) | rfl
end Go.Proofs.Ytdcakhahagbedaa
