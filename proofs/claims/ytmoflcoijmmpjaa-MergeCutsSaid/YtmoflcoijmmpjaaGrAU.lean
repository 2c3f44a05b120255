/-
  Chapter 14: Cut: its iterator's rounds, as a law.
-/
import Derived.Test.YtmoflcoijmmpjaaGrAT
import Derived.Test.YtmoflcoijmmpjaaGrAR
import Derived.BigFrame
namespace Go.Proofs.Ytmoflcoijmmpjaa
set_option linter.unusedSimpArgs false
set_option linter.unusedVariables false
set_option linter.unusedSectionVars false
open Go Go.RowKit
def ptP (ps : List Pr) (M j : Nat) : List Pr := (ps.drop (j * M)).take M
def ckL (ps : List Pr) (M : Nat) : Nat → List (List Pr)
 | 0 => []
 | j + 1 => ckL ps M j ++ [ptP ps M j]
theorem ckL_len (ps : List Pr) (M : Nat) : ∀ j, (ckL ps M j).length = j
 | 0 => rfl
 | j + 1 => by simp [ckL, ckL_len ps M j]
theorem ckL_mem {ps : List Pr} {M : Nat} {l : List Pr} : ∀ {j : Nat}, l ∈ ckL ps M j → ∃ i, i < j ∧ l = ptP ps M i
 | 0, h => by cases h
 | j + 1, h => by
   rcases List.mem_append.1 h with h | h
   ·obtain ⟨i, h1, h2⟩ := ckL_mem h
    exact ⟨i, by omega, h2⟩
   ·exact ⟨j, by omega, List.mem_singleton.1 h⟩
theorem ct_e {n i M : Nat} (hi : i < n) (hM : 0 < M) : ∃ e, 0 < e ∧ i + e ≤ n ∧ e ≤ M ∧ (e = M ∨ i + e = n) ∧ (if ((n - i : Nat) : Int) < (M : Int) then ((n - i : Nat) : Int) else (M : Int)) = (e : Int) := by
 by_cases h : ((n - i : Nat) : Int) < (M : Int)
 ·exact ⟨n - i, by omega, by omega, by omega, .inr (by omega), by rw [if_pos h]⟩
 ·exact ⟨M, hM, by omega, Nat.le_refl _, .inl rfl, by rw [if_neg h]⟩
structure ChOk (ds : List DV) (ps : List Pr) (n M : Nat) : Prop where
 e : ds = cpD ps
 L : FdL ps
 l : ps.length = n
 m : n ≤ 300
 M1 : 0 < M
 M2 : M ≤ 64
def finJ (n M : Nat) : Nat → Nat → Nat
 | 0, j => j
 | r + 1, j => bif decide (j * M < n) then finJ n M r (j + 1) else j
theorem finJ_ge (n M : Nat) (hM : 0 < M) : ∀ (r j : Nat), n ≤ j * M + r → n ≤ finJ n M r j * M
 | 0, j, h => by rw [finJ]; omega
 | r + 1, j, h => by
   rw [finJ]
   by_cases hlt : j * M < n
   ·rw [decide_eq_true hlt]
    have sm : (j + 1) * M = j * M + M := Nat.succ_mul j M
    exact finJ_ge n M hM r (j + 1) (by omega)
   ·rw [decide_eq_false hlt]
    simp only [cond_false]
    omega
def boJ (ps : List Pr) (M : Nat) : Nat → Option (Nat × List DV)
 | 0 => none
 | j + 1 => some (j + 1, llD (ckL ps M (j + 1)))
theorem chL {L : LFun} {T : TFun} (hL : LOne Try.prog L) : LOkZ (cuV L T) Try.prog := L_okV rfl hL
theorem ch_exit {inr : Bool} {h0 : Hp} {ds : List DV} {ps : List Pr} {n M : Nat} (j : Nat) (hj : n ≤ j * M) :
  LRuns inr Try.prog (bodyIn Try.prog 44 1) 9 400 h0 31 (chS (j * M)) (chG Try.prog n M ds (boJ ps M j)) 81 (.exit 0, [], chG Try.prog n M ds (boJ ps M j)) := by
 cases j with
 | zero =>
  refine LRuns.exit (code_runsP cuXk (chL cuLo_one) (runZ_ok cuXk cuT0 (chL cuLo_one) mixed 12) mixed (ch_ne inr n (0 * M) M ds []) ?_) (by intro e; cases e) rfl (by omega) (by omega) (fun n => n) ?_ ?_ rfl
  ·simp only [Alls, decide_eq_false_iff_not]
   exact ⟨by omega, trivial⟩
  ·trivial
  ·
   exact ⟨rb_rec (m := 8) rfl rfl (cuTm_ren (rb_slg rfl rfl) rfl rfl), rb_rec (m := 7) rfl rfl trivial, sh1_row (m := 6) rfl rfl rfl, sh1_row (m := 5) rfl rfl (rb_slg rfl rfl), sh1_row (m := 4) rfl rfl rfl, sw_row (m := 0) rfl rfl, trivial⟩
 | succ j =>
  refine LRuns.exit (code_runsP cuXk (chL cuLo_one) (runZ_ok cuXk cuT0 (chL cuLo_one) mixed 12) mixed (ch_nz inr n ((j + 1) * M) (j + 1) M ds (llD (ckL ps M (j + 1)))) ?_) (by intro e; cases e) rfl (by omega) (by omega) (fun n => n) ?_ ?_ rfl
  ·simp only [Alls, decide_eq_false_iff_not]
   exact ⟨by omega, trivial⟩
  ·trivial
  ·
   exact ⟨dx_row (m := 80) rfl rfl, rb_rec (m := 8) rfl rfl (cuTm_ren (rb_slg rfl rfl) rfl rfl), rb_rec (m := 7) rfl rfl trivial, sh1_row (m := 6) rfl rfl rfl, sh1_row (m := 5) rfl rfl (rb_slg rfl rfl), sh1_row (m := 4) rfl rfl (rb_slg rfl rfl), sw_row (m := 0) rfl rfl, trivial⟩
theorem ch_loop {inr : Bool} {h0 : Hp} {ds : List DV} {ps : List Pr} {n M : Nat} (hB : ChOk ds ps n M) : ∀ (r j : Nat), n ≤ j * M + r →
  LRuns inr Try.prog (bodyIn Try.prog 44 1) 9 400 h0 31 (chS (j * M)) (chG Try.prog n M ds (boJ ps M j)) 81 (.exit 0, [], chG Try.prog n M ds (boJ ps M (finJ n M r j)))
 | 0, j, hr => ch_exit j (by omega)
 | r + 1, j, hr => by
   by_cases hlt : j * M < n
   ·have hM1 := hB.M1
    have hM2 := hB.M2
    have hm := hB.m
    have sm : (j + 1) * M = j * M + M := Nat.succ_mul j M
    have eF : finJ n M (r + 1) j = finJ n M r (j + 1) := by rw [finJ, decide_eq_true hlt]; rfl
    rw [eF]
    have nx := ch_loop (inr := inr) (h0 := h0) hB r (j + 1) (by omega)
    obtain ⟨e, hp0, hp1, hp2, hp3, he⟩ := ct_e hlt hM1
    have hA : adI ((j * M : Nat) : Int) (e : Int) = ((j * M + e : Nat) : Int) := rfl
    have hA2 : adI ((j * M : Nat) : Int) (M : Int) = ((j * M + M : Nat) : Int) := rfl
    have hI : some (Value.int .i64 (((j + 1) * M : Nat) : Int)) = some (Value.int .i64 (adI ((j * M : Nat) : Int) (M : Int))) := by rw [sm]; rfl
    have hL : (ptP ps M j).length = e := by
     unfold ptP
     rw [List.length_take, List.length_drop, hB.l]
     omega
    have hX : List.take (e * 3) (List.drop (j * M * 3) ds) = cpD (ptP ps M j) := by
     rw [hB.e, cpD_drop, cpD_take]
     unfold ptP
     congr 1
     rcases hp3 with rfl | h3
     ·rfl
     ·rw [List.take_of_length_le (by rw [List.length_drop, hB.l]; omega), List.take_of_length_le (by rw [List.length_drop, hB.l]; omega)]
    have hmem : ∀ p ∈ ptP ps M j, p ∈ ps := fun p hp => List.mem_of_mem_drop (List.mem_of_mem_take hp)
    have hC : CuSt (cpD (ptP ps M j)) e := ⟨by rw [prsOf_cp], by rw [prsOf_cp]; exact ⟨fun p hp => hB.L.O p (hmem p hp), fun p hp => hB.L.z p (hmem p hp), by omega⟩, by rw [prsOf_cp]; exact hL, hp0⟩
    have hj9 : j < 1000 := by
     rcases Nat.lt_or_ge j 1000 with h | h
     ·exact h
     ·have := Nat.mul_le_mul h hM1
      omega
    have hol : (llD (ckL ps M j)).length = j := by rw [llD_len, ckL_len]
    cases j with
    | zero =>
     refine LRuns.step (code_runsP cuXk (chL cuLo_one) (runZ_ok cuXk cuT0 (chL cuLo_one) mixed 12) mixed (ch_nf inr n (0 * M) M ds []) ?_) rfl (by omega) (by omega) (fun n => bif Nat.beq n 80 then 202 else n) ?_ ?_ rfl nx
     ·
      simp only [Alls, rg, decide_eq_true_eq, sbN_eq, he, hA, hA2, Int.toNat_natCast, Nat.add_sub_cancel_left, hX]
      repeat' (with_reducible apply And.intro)
      all_goals first | (with_reducible assumption) | omega | (with_reducible exact trivial) | (with_reducible rfl) | rfl | skip
     ·exact ⟨rfl, rfl, rfl, rb_ptr rfl, rfl, rb_ptr rfl, rfl, hI, trivial⟩
     ·refine ⟨dx_row (m := 202) rfl (dx_eq ?_), rb_rec (m := 8) rfl rfl (cuTm_ren (rb_slg rfl rfl) rfl rfl), rb_rec (m := 7) rfl rfl trivial, sh1_row (m := 6) rfl rfl rfl, sh1_row (m := 5) rfl rfl (rb_slg rfl rfl), sh1_row (m := 4) rfl rfl (rb_slg rfl rfl), sw_row (m := 0) rfl rfl, trivial⟩
      simp only [sbN_eq, he, hA, Int.toNat_natCast, Nat.add_sub_cancel_left, hX, ckL, llD, List.nil_append, List.map_cons, List.map_nil, hL]
    | succ j =>
     refine LRuns.step (code_runsP cuXk (chL cuLo_one) (runZ_ok cuXk cuT0 (chL cuLo_one) mixed 12) mixed (ch_nm inr n ((j + 1) * M) (j + 1) M ds (llD (ckL ps M (j + 1)))) ?_) rfl (by omega) (by omega) (fun n => bif Nat.beq n 80 then 202 else n) ?_ ?_ rfl nx
     ·
      simp only [Alls, rg, decide_eq_true_eq, sbN_eq, he, hA, hA2, Int.toNat_natCast, Nat.add_sub_cancel_left, hX]
      repeat' (with_reducible apply And.intro)
      all_goals first | (with_reducible assumption) | omega | (with_reducible exact trivial) | (with_reducible rfl) | rfl | skip
     ·exact ⟨rfl, rfl, rfl, rb_ptr rfl, rfl, rb_ptr rfl, rfl, hI, trivial⟩
     ·refine ⟨dx_row (m := 202) rfl (dx_eq ?_), rb_rec (m := 8) rfl rfl (cuTm_ren (rb_slg rfl rfl) rfl rfl), rb_rec (m := 7) rfl rfl trivial, sh1_row (m := 6) rfl rfl rfl, sh1_row (m := 5) rfl rfl (rb_slg rfl rfl), sh1_row (m := 4) rfl rfl (rb_slg rfl rfl), sw_row (m := 0) rfl rfl, trivial⟩
      rw [show ckL ps M (j + 1 + 1) = ckL ps M (j + 1) ++ [ptP ps M (j + 1)] from rfl, llD_snoc]
      simp only [sbN_eq, he, hA, Int.toNat_natCast, Nat.add_sub_cancel_left, hX, hL]
   ·have eF : finJ n M (r + 1) j = j := by rw [finJ, decide_eq_false hlt]; rfl
    rw [eF]
    exact ch_exit j (by omega)
structure ChSt (ds : List DV) (n M : Nat) (b : Bool) : Prop where
 B : ChOk ds (prsOf ds) n M
 z : decide (n = 0) = b
structure ChAr where
 n : Nat
 M : Nat
 ds : List DV
def chPk (live : List (Nat × Value)) (h : Hp) : Option ChAr := match lk h 0, lk h 5, lk h 6 with
 | some ⟨.sw ds, _⟩, some ⟨_, [.slice _ n _]⟩, some ⟨_, [.int _ m]⟩ => some ⟨n, m.toNat, ds⟩
 | _, _, _ => none
def nPt (n M : Nat) : Nat := finJ n M n 0
def ptL (ps : List Pr) (M : Nat) : List (List Pr) := ckL ps M (nPt ps.length M)
def chOut (P : Program) (ds : List DV) (n M : Nat) : Bool → Hp
 | true => chG P n M ds none
 | false => chG P n M ds (some (nPt n M, llD (ckL (prsOf ds) M (nPt n M))))
def chSp (P : Program) : LSpec := lspec chPk (fun a => (chS 0, chG P a.n a.M a.ds none, 9)) (fun a tp => match tp with
 | true :: tp' => some ((.exit 0, [], chOut P a.ds a.n a.M true, 400, [4]), tp', [ChSt a.ds a.n a.M true])
 | false :: tp' => some ((.exit 0, [], chOut P a.ds a.n a.M false, 400, [4]), tp', [ChSt a.ds a.n a.M false])
 | [] => none)
def chLo (P : Program) : LFun := mkL 44 1 31 [0, 1, 2, 4] (bodyIn P 44 1) (chSp P)
theorem boJ_pos (ps : List Pr) (M : Nat) : ∀ J, 0 < J → boJ ps M J = some (J, llD (ckL ps M J))
 | 0, h => by omega
 | J + 1, _ => rfl
theorem nPt_pos {n M : Nat} (h : n ≠ 0) (hM : 0 < M) : 0 < nPt n M := by
 have := finJ_ge n M hM n 0 (by omega)
 rcases Nat.eq_zero_or_pos (nPt n M) with h2 | h2
 ·unfold nPt at h2
  rw [h2, Nat.zero_mul] at this
  omega
 ·exact h2
theorem chSp_ok : LSOk Try.prog 31 [0, 1, 2, 4] (bodyIn Try.prog 44 1) (chSp Try.prog) := by
 refine lspec_ok fun a tp xt l2 h2 nx2 d tp' ob hs ho inr ts hn hg => ?_
 obtain ⟨n, M, ds⟩ := a
 simp only at hs hg
 obtain ⟨b, rfl, rfl, rfl, rfl, rfl, hB, hz⟩ : ∃ b, xt = .exit 0 ∧ l2 = [] ∧ h2 = chOut Try.prog ds n M b ∧ nx2 = 400 ∧ d = [4] ∧ ChOk ds (prsOf ds) n M ∧ decide (n = 0) = b := by
  split at hs
  ·simp only [oI, pI] at hs
   obtain ⟨⟨rfl, rfl, rfl, rfl, rfl⟩, rfl, rfl⟩ := hs
   exact ⟨true, rfl, rfl, rfl, rfl, rfl, ho.1.B, ho.1.z⟩
  ·simp only [oI, pI] at hs
   obtain ⟨⟨rfl, rfl, rfl, rfl, rfl⟩, rfl, rfl⟩ := hs
   exact ⟨false, rfl, rfl, rfl, rfl, rfl, ho.1.B, ho.1.z⟩
  ·cases hs
 have key := ch_loop (inr := inr) (h0 := chG Try.prog n M ds none) hB n 0 (by omega)
 rw [Nat.zero_mul] at key
 have eH : chG Try.prog n M ds (boJ (prsOf ds) M (finJ n M n 0)) = chOut Try.prog ds n M b := by
  cases b with
  | true =>
   obtain rfl : n = 0 := of_decide_eq_true hz
   rfl
  | false =>
   have hne : n ≠ 0 := of_decide_eq_false hz
   have := nPt_pos hne hB.M1
   unfold nPt at this
   rw [boJ_pos _ _ _ this]
   rfl
 rw [eH] at key
 refine LRuns.enter (N := 81) (l2 := chS 0) (h2 := chG Try.prog n M ds none) hn hg (by decide) (by omega) (fun n => n) ?_ ?_ rfl key ?_
 ·exact ⟨rfl, rfl, rfl, rb_ptr rfl, rfl, rb_ptr rfl, rfl, rfl, trivial⟩
 ·
  exact ⟨rb_rec (m := 8) rfl rfl (cuTm_ren (rb_slg rfl rfl) rfl rfl), rb_rec (m := 7) rfl rfl trivial, sh1_row (m := 6) rfl rfl rfl, sh1_row (m := 5) rfl rfl (rb_slg rfl rfl), sh1_row (m := 4) rfl rfl rfl, sw_row (m := 0) rfl rfl, trivial⟩
 ·refine tidy_of (by decide) (fun m hm hd => ?_) (by cases b <;> rfl)
  have h4 : m ≠ 4 := fun e => hd (by simp [e])
  cases b with
  | true => rfl
  | false =>
   have hm2 : m < 9 := hm
   show lk ((80, _) :: _) m = _
   rw [lk_cons, if_neg (by omega)]
   simp only [chG, cuT, lk_cons, if_neg (Ne.symm h4)]
theorem chLo_one : LOne Try.prog (chLo Try.prog) := mkL_ok chSp_ok
theorem cx_lo (n : Nat) (m : Int) (ds : List DV) : prjV (runZ (cuV (chLo Try.prog) noTz) Try.prog 12 24 [llA n, .int .i64 m] [(0, ⟨.sw ds, []⟩)] 4 [true]) =
 Res.ok (Value.tuple (Array.mk [Value.slice none 0 0, Value.int IntKind.i64 (2 : Int)]), [], [decide (m < (1 : Int)) = true]) := by kernel_rfl
theorem cx_hi (n : Nat) (m : Int) (ds : List DV) : prjV (runZ (cuV (chLo Try.prog) noTz) Try.prog 12 24 [llA n, .int .i64 m] [(0, ⟨.sw ds, []⟩)] 4 [false, true]) =
 Res.ok (Value.tuple (Array.mk [Value.slice none 0 0, Value.int IntKind.i64 (2 : Int)]), [], [decide (m < (1 : Int)) = false, decide (m > (64 : Int)) = true]) := by kernel_rfl
theorem cx_nil (n : Nat) (m : Int) (ds : List DV) : prjV (runZ (cuV (chLo Try.prog) noTz) Try.prog 12 24 [llA n, .int .i64 m] [(0, ⟨.sw ds, []⟩)] 4 [false, false, false, true]) =
 Res.ok (Value.tuple (Array.mk [Value.slice none 0 0, Value.int IntKind.i64 (0 : Int)]), [], [decide (m < (1 : Int)) = false, decide (m > (64 : Int)) = false, decide (m < (1 : Int)) = false, bodyIn Try.prog (44 : FuncId) 1 = bodyIn Try.prog (44 : FuncId) 1, [(0, Value.func (Fn.yield 8) (Array.mk []) (Array.mk [])), (1, Value.pointer (some (Addr.mk 5 0 none))), (2, Value.pointer (some (Addr.mk 6 0 none))), (4, Value.int IntKind.i64 (0 : Int))] = chS 0, [(8, Rw.mk (Kd.round LoopState.ready none [Value.slice (some (Addr.mk 0 0 none)) n 18446744073709551616, Value.int IntKind.i64 m, Value.tuple #[], Value.tuple #[], Value.slice none 0 0, Value.int IntKind.i64 (0 : Int), Value.pointer (some (Addr.mk 4 0 none)), Value.tuple #[], Value.tuple #[], Value.tuple #[], Value.tuple #[], Value.int IntKind.i64 m, Value.bool false, Value.bool false, Value.int IntKind.i64 m, Value.bool false, Value.bool
 false, Value.slice (some (Addr.mk 0 0 none)) n 18446744073709551616, Value.int IntKind.i64 m, Value.func (Fn.func 44) (Array.mk []) (Array.mk [Value.pointer (some (Addr.mk 5 0 none)), Value.pointer (some (Addr.mk 6 0 none))]), Value.tuple #[], Value.tuple #[], Value.tuple #[], Value.tuple #[], Value.tuple #[], Value.tuple #[], Value.tuple #[], Value.tuple #[], Value.tuple #[], Value.tuple #[], Value.tuple #[], Value.tuple #[], Value.tuple #[], Value.tuple #[], Value.tuple #[], Value.tuple #[], Value.tuple #[], Value.tuple #[]] #[20] (rfAs Try.prog 24) (rfBd Try.prog 24)) []), (7, Rw.mk Kd.marks []), (6, Rw.mk Kd.shut [Value.int IntKind.i64 m]), (5, Rw.mk Kd.shut [Value.slice (some (Addr.mk 0 0 none)) n 18446744073709551616]), (4, Rw.mk Kd.shut [Value.slice none 0 0]), (0, Rw.mk (Kd.sw ds) [])] = chG Try.prog n (↑(Int.toNat m) : Int) ds none, 9 = 9, ChSt ds n (Int.toNat m)
 true]) := by kernel_rfl
theorem cx_row (n : Nat) (m : Int) (ds : List DV) : runZ (cuV (chLo Try.prog) noTz) Try.prog 12 24 [llA n, .int .i64 m] [(0, ⟨.sw ds, []⟩)] 4 [false, false, false, false] =
 Res.ok ((Value.tuple (Array.mk [Value.slice (some (Addr.mk 80 0 none)) (nPt n (Int.toNat m)) (capBig + 80), Value.int IntKind.i64 (0 : Int)]), [(80, Rw.mk (Kd.dx 2 1 [Value.slice none 0 0] (llD (ckL (prsOf ds) (Int.toNat m) (nPt n (Int.toNat m))))) []), (6, Rw.mk Kd.shut [Value.int IntKind.i64 (↑(Int.toNat m) : Int)]), (5, Rw.mk Kd.shut [Value.slice (some (Addr.mk 0 0 none)) n 18446744073709551616]), (4, Rw.mk Kd.shut [Value.slice (some (Addr.mk 80 0 none)) (nPt n (Int.toNat m)) (capBig + 80)]), (0, Rw.mk (Kd.sw ds) [])], 400, []), [], [decide (m < (1 : Int)) = false, decide (m > (64 : Int)) = false, decide (m < (1 : Int)) = false, bodyIn Try.prog (44 : FuncId) 1 = bodyIn Try.prog (44 : FuncId) 1, [(0, Value.func (Fn.yield 8) (Array.mk []) (Array.mk [])), (1, Value.pointer (some (Addr.mk 5 0 none))), (2, Value.pointer (some (Addr.mk 6 0 none))), (4, Value.int IntKind.i64 (0 : Int))] =
 chS 0, [(8, Rw.mk (Kd.round LoopState.ready none [Value.slice (some (Addr.mk 0 0 none)) n 18446744073709551616, Value.int IntKind.i64 m, Value.tuple #[], Value.tuple #[], Value.slice none 0 0, Value.int IntKind.i64 (0 : Int), Value.pointer (some (Addr.mk 4 0 none)), Value.tuple #[], Value.tuple #[], Value.tuple #[], Value.tuple #[], Value.int IntKind.i64 m, Value.bool false, Value.bool false, Value.int IntKind.i64 m, Value.bool false, Value.bool false, Value.slice (some (Addr.mk 0 0 none)) n 18446744073709551616, Value.int IntKind.i64 m, Value.func (Fn.func 44) (Array.mk []) (Array.mk [Value.pointer (some (Addr.mk 5 0 none)), Value.pointer (some (Addr.mk 6 0 none))]), Value.tuple #[], Value.tuple #[], Value.tuple #[], Value.tuple #[], Value.tuple #[], Value.tuple #[], Value.tuple #[], Value.tuple #[], Value.tuple #[], Value.tuple #[], Value.tuple #[], Value.tuple #[], Value.tuple #[],
 Value.tuple #[], Value.tuple #[], Value.tuple #[], Value.tuple #[], Value.tuple #[]] #[20] (rfAs Try.prog 24) (rfBd Try.prog 24)) []), (7, Rw.mk Kd.marks []), (6, Rw.mk Kd.shut [Value.int IntKind.i64 m]), (5, Rw.mk Kd.shut [Value.slice (some (Addr.mk 0 0 none)) n 18446744073709551616]), (4, Rw.mk Kd.shut [Value.slice none 0 0]), (0, Rw.mk (Kd.sw ds) [])] = chG Try.prog n (↑(Int.toNat m) : Int) ds none, 9 = 9, ChSt ds n (Int.toNat m)
 false]) := by kernel_rfl
structure CuOk (ds : List DV) (n : Nat) (m : Int) : Prop where
 B : ChOk ds (prsOf ds) n m.toNat
 m0 : 1 ≤ m ∧ m ≤ 64
def gCt (L : List (List Pr)) : GSpecD := fun aL tp => match aL, tp with
 | [.dl ds n, .fl (.int .i64 m)], true :: tp' => some (⟨fun _ => tupM nlV 2, []⟩, tp', [m < 1 ∨ 64 < m])
 | [.dl ds n, .fl (.int .i64 m)], false :: true :: tp' => some (⟨fun _ => tupM nlV 0, []⟩, tp', [CuOk ds n m, n = 0])
 | [.dl ds n, .fl (.int .i64 m)], false :: false :: tp' => some (⟨fun nx => tupM (.slice (some ⟨nx, 0, none⟩) L.length (capBig + nx)) 0, [⟨.dx 2 1 zLs (llD L), []⟩]⟩, tp', [CuOk ds n m, n ≠ 0, ptL (prsOf ds) m.toNat = L])
 | _, _ => none
theorem cut_gok (L : List (List Pr)) : GOkD Try.prog 24 (gCt L) := by
 intro aL tp gr tp' ob hG ho cs hc
 have fin : ∀ {n : Nat} {m : Int} {ds : List DV} {v : Value}, (∃ h' nx' d, Tri Try.prog 24 [llA n, .int .i64 m] [(0, ⟨.sw ds, []⟩)] 4 (v, h', nx', d)) → (∀ σ, renV σ v = some v) → ∃ v0 h0' nx0' d0 g, Tri Try.prog 24 (dvV [.dl ds n, .fl (.int .i64 m)] cs 0) (dvH [.dl ds n, .fl (.int .i64 m)] cs 0) (2 * 2) (v0, h0', nx0', d0) ∧ GrD ⟨fun _ => v, []⟩ v0 h0' g := fun ⟨h', nx', d, T⟩ hv => ⟨_, h', nx', d, fun n => n, T, GrD.flat hv⟩
 have hL : LOkZ (cuV (chLo Try.prog) noTz) Try.prog := L_okV rfl chLo_one
 unfold gCt at hG
 split at hG
 ·rename_i ds n m tp2
  simp only [oI, pI] at hG
  obtain ⟨rfl, rfl, rfl⟩ := hG
  obtain ⟨h, _⟩ := ho
  by_cases h1 : m < 1
  ·exact fin (run_val cuXk cuT0 hL (cx_lo n m ds) ⟨decide_eq_true h1, trivial⟩ rfl) fun σ => rfl
  ·exact fin (run_val cuXk cuT0 hL (cx_hi n m ds) ⟨decide_eq_false h1, decide_eq_true (by omega), trivial⟩ rfl) fun σ => rfl
 ·rename_i ds n m tp2
  simp only [oI, pI] at hG
  obtain ⟨rfl, rfl, rfl⟩ := hG
  obtain ⟨h, h0, _⟩ := ho
  have h1 := h.m0
  obtain ⟨M, hM⟩ : ∃ M : Nat, m = (M : Int) := ⟨m.toNat, by omega⟩
  have hB := h.B
  subst hM
  exact fin (run_val cuXk cuT0 hL (cx_nil n M ds) ⟨decide_eq_false (by omega), decide_eq_false (by omega), decide_eq_false (by omega), rfl, rfl, rfl, rfl, ⟨hB, decide_eq_true h0⟩, trivial⟩ rfl) fun σ => rfl
 ·rename_i ds n m tp2
  simp only [oI, pI] at hG
  obtain ⟨rfl, rfl, rfl⟩ := hG
  obtain ⟨h, h0, hW, _⟩ := ho
  have h1 := h.m0
  obtain ⟨M, hM⟩ : ∃ M : Nat, m = (M : Int) := ⟨m.toNat, by omega⟩
  have hB := h.B
  subst hM
  have T := run_tri cuXk cuT0 hL (cx_row n M ds) ⟨decide_eq_false (by omega), decide_eq_false (by omega), decide_eq_false (by omega), rfl, rfl, rfl, rfl, ⟨hB, decide_eq_false h0⟩, trivial⟩ rfl
  have e1 : ckL (prsOf ds) (Int.toNat (M : Int)) (nPt n (Int.toNat (M : Int))) = L := by rw [← hW, ← hB.l]; rfl
  have e2 : nPt n (Int.toNat (M : Int)) = L.length := by rw [← e1, ckL_len]
  rw [e1, e2] at T
  refine ⟨_, _, _, _, fun _ => 80, T, ⟨fun nx => f2s_tupM (by simp) rfl _ _, fun j r hj => ?_, fun i j hi hj _ => by simp at hi hj; omega⟩⟩
  match j, hj with
  | 0, hj => cases hj; exact ⟨fun τ => rfl, rfl, rfl⟩
 ·cases hG
def Sl2 (u : Value) (L : Blocks) : Prop := (∃ a c, u = .slice a 0 c ∧ L = []) ∨ ∃ b n c cs L', u = .slice (some ⟨b, 0, none⟩) n c ∧ L = (b, cs) :: L' ∧ n ≤ 9223372036854775807 ∧ Elts n cs L'
def Parts : List Value → Blocks → Prop
 | [], L => L = []
 | u :: us, L => ∃ L1 L2, L = L1 ++ L2 ∧ Sl2 u L1 ∧ Parts us L2
theorem over_part {W w0 : World} {G : List Nat} {w : World} {u : Value} {L0 L1 L2 : Blocks} (hu : Sl2 u L1) (hX : Xs W w0 G w (L0 ++ (L1 ++ L2))) :
  Calls Try.prog 19 #[u] w fun e w' => e = .returned (.tuple #[]) ∧ Xs W w0 G w' (L0 ++ L2) := by
 rcases hu with ⟨a, c, rfl, rfl⟩ | ⟨b, n, c, cs, L', rfl, rfl, hn, hE⟩
 ·exact (overP0 a c w).mono fun e w' ⟨h1, h2⟩ => ⟨h1, by simpa using hX.ext h2⟩
 ·exact overPF hX hn hE
def PartDs : List DV → Prop
 | [] => True
 | .sl len _ ds :: r => (ds.length = len * 3 ∧ PairDs ds) ∧ PartDs r
 | _ => False
theorem Sep.split {R : Value → List Nat → Prop} : ∀ {us vs : List Value} {E : List Nat}, Sep R (us ++ vs) E → ∃ E1 E2, E = E1 ++ E2 ∧ Sep R us E1 ∧ Sep R vs E2
 | [], vs, E, h => ⟨[], E, rfl, rfl, h⟩
 | u :: us, vs, E, h => by
   obtain ⟨E1, E2, rfl, h1, h2⟩ := h
   obtain ⟨E3, E4, rfl, h3, h4⟩ := Sep.split h2
   exact ⟨E1 ++ E3, E4, (List.append_assoc _ _ _).symm, ⟨E1, E3, rfl, h1, h3⟩, h4⟩
theorem Elts.app {rest : List Value} : ∀ (n : Nat) {us : List Value} {L : Blocks}, Elts n us L → Elts n (us ++ rest) L
 | 0, us, L, h => h
 | n + 1, us, L, h => by
   obtain ⟨u, v, g, us', L1, L2, L3, rfl, rfl, a1, a2, a3⟩ := h
   exact ⟨u, v, g, us' ++ rest, L1, L2, L3, rfl, rfl, a1, a2, Elts.app n a3⟩
theorem drs_drv {V w : World} (hV : V.heap.size = 0) {F : List Nat} {b : Nat} {cs : List Value} {t : TypeId} (hb : w.heap[b]? = some (.cells cs.toArray t (0, 0))) : ∀ (ds : List DV) (s : Nat), DRs V w F b s ds → ∃ us vs, cs.drop s = us ++ vs ∧ DRv V w F ds us
 | [], s, _ => ⟨[], cs.drop s, rfl, rfl⟩
 | d :: ds, s, h => by
   simp only [DRs] at h
   obtain ⟨⟨v, h1, h2⟩, h3⟩ := h
   obtain ⟨us, vs, e, h4⟩ := drs_drv hV hb ds (s + 1) h3
   rcases h1 with ⟨h1, _⟩ | ⟨_, h1⟩
   ·omega
   ·rw [cell_of_row w b s _ t _ hb] at h1
    have hv : cs[s]? = some v := by simpa using h1
    obtain ⟨hlt, rfl⟩ := List.getElem?_eq_some_iff.1 hv
    refine ⟨cs[s] :: us, vs, ?_, cs[s], us, rfl, h2, h4⟩
    rw [List.drop_eq_getElem_cons hlt, e]
    rfl
theorem cx_sl2 {V w : World} (hV : V.heap.size = 0) {u : Value} {E F : List Nat} {len : Nat} {cap : Option Nat} {ds : List DV} (hc : CX w 2 u E) (hr : DR V w F (.sl len cap ds) u) (hl : ds.length = len * 3) (hp : PairDs ds) : ∃ L : Blocks, Sl2 u L ∧ (∀ q, q ∈ L.map (·.1) → q ∈ E) ∧ (E.Nodup → (L.map (·.1)).Nodup) ∧ ∀ p ∈ L, Row w p.1 p.2 := by
 have nn : ∀ {a c}, u = .slice a 0 c → ∃ L : Blocks, Sl2 u L ∧ (∀ q, q ∈ L.map (·.1) → q ∈ E) ∧ (E.Nodup → (L.map (·.1)).Nodup) ∧ ∀ p ∈ L, Row w p.1 p.2 := fun {a c} e => ⟨[], .inl ⟨a, c, e, rfl⟩, fun q hq => (by cases hq), fun _ => List.nodup_nil, fun p hp => (by cases hp)⟩
 rw [DR] at hr
 rcases hr with ⟨_, _, _, a, hu⟩ | ⟨b, s, c, hu, h0, hd⟩
 ·exact nn hu
 rcases hc with ⟨rfl, hc⟩ | ⟨rfl, a, hu2⟩ | ⟨b2, l, c2, size, t, cs, E', hu2, h1, h2, h3, h4, h5, rfl, h6⟩
 ·have := hc sg0
  rw [hu] at this
  simp [renV, slR, adR, sg0] at this
 ·exact nn hu2
 ·rw [hu] at hu2
  simp only [Value.slice.injEq, oI, Addr.mk.injEq, and_true] at hu2
  obtain ⟨⟨rfl, rfl⟩, rfl, rfl⟩ := hu2
  rcases hd with rfl | hd
  ·have : len = 0 := by simp at hl; omega
   subst this
   exact nn hu
  ·obtain ⟨us, vs, e, hd2⟩ := drs_drv hV h3 ds 0 hd
   rw [List.drop_zero] at e
   subst e
   obtain ⟨E1, E2, rfl, s1, _⟩ := Sep.split h6
   obtain ⟨L, l1, l2, l3, l4⟩ := cx_elts len hl hp s1 hd2
   refine ⟨(b, us ++ vs) :: L, .inr ⟨b, len, c, us ++ vs, L, hu, rfl, by unfold maxLen at h2; omega, Elts.app len l1⟩, fun q hq => ?_, fun hn => ?_, fun p hp => ?_⟩
   ·rw [List.map_cons, List.mem_cons] at hq
    rcases hq with rfl | hq
    ·exact List.mem_cons_self ..
    ·exact List.mem_cons_of_mem _ (List.mem_append_left _ (l2 q hq))
   ·rw [List.nodup_cons] at hn
    rw [List.map_cons]
    exact List.nodup_cons.2 ⟨fun hq => hn.1 (List.mem_append_left _ (l2 _ hq)), l3 (List.nodup_append.1 hn.2).1⟩
   ·rcases List.mem_cons.1 hp with rfl | hp
    ·exact ⟨t, h3⟩
    ·exact l4 p hp
theorem cx_parts {V w : World} (hV : V.heap.size = 0) {F : List Nat} : ∀ {ds : List DV} {us : List Value} {E : List Nat}, PartDs ds → Sep (CX w 2) us E → DRv V w F ds us → us.length = ds.length ∧ ∃ L : Blocks, Parts us L ∧ (∀ q, q ∈ L.map (·.1) → q ∈ E) ∧ (E.Nodup → (L.map (·.1)).Nodup) ∧ ∀ p ∈ L, Row w p.1 p.2
 | [], us, E, _, _, hd => by
   obtain rfl : us = [] := hd
   exact ⟨rfl, [], rfl, fun q hq => (by cases hq), fun _ => List.nodup_nil, fun p hp => (by cases hp)⟩
 | .sl len cap ds :: r, us, E, hp, hs, hd => by
   obtain ⟨u, us1, rfl, r1, hd⟩ := hd
   obtain ⟨E1, E2, rfl, s1, hs⟩ := hs
   obtain ⟨e1, L2, b1, b2, b3, b4⟩ := cx_parts hV hp.2 hs hd
   obtain ⟨L1, a1, a2, a3, a4⟩ := cx_sl2 hV s1 r1 hp.1.1 hp.1.2
   refine ⟨by simp [e1], L1 ++ L2, ⟨L1, L2, rfl, a1, b1⟩, fun q hq => ?_, fun hn => ?_, fun p hp => ?_⟩
   ·rw [List.map_append, List.mem_append] at hq
    rcases hq with hq | hq
    ·exact List.mem_append_left _ (a2 q hq)
    ·exact List.mem_append_right _ (b2 q hq)
   ·rw [List.map_append]
    obtain ⟨n1, n2, n3⟩ := List.nodup_append.1 hn
    exact List.nodup_append.2 ⟨a3 n1, b3 n2, fun q hq q' hq' => n3 q (a2 q hq) q' (b2 q' hq')⟩
   ·rcases List.mem_append.1 hp with hp | hp
    ·exact a4 p hp
    ·exact b4 p hp
def ncOp (P : Program) (k : Nat) : Oper := (ncOps (ncO P)).getD k ⟨none, .move (.tmp 0), 0, "", #[], none⟩
theorem nc_list : ncOps (ncO Try.prog) = [ncOp Try.prog 0, ncOp Try.prog 1, ncOp Try.prog 2, ncOp Try.prog 3, ncOp Try.prog 4] := by kernel_rfl
theorem nc_o0 : (ncOp Try.prog 0).op = .move (.tmp 6) ∧ (ncOp Try.prog 0).dst = some 48 ∧ (ncOp Try.prog 0).guard = none := ⟨by kernel_rfl, by kernel_rfl, by kernel_rfl⟩
theorem nc_o1 : (ncOp Try.prog 1).op = .move (.tmp 10) ∧ (ncOp Try.prog 1).dst = some 49 ∧ (ncOp Try.prog 1).guard = none := ⟨by kernel_rfl, by kernel_rfl, by kernel_rfl⟩
theorem nc_o2 : (ncOp Try.prog 2).op = .indexAddr 22 (.tmp 48) (.tmp 49) ∧ (ncOp Try.prog 2).dst = some 50 ∧ (ncOp Try.prog 2).guard = none := ⟨by kernel_rfl, by kernel_rfl, by kernel_rfl⟩
theorem nc_o3 : (ncOp Try.prog 3).op = .load 27 (.tmp 50) ∧ (ncOp Try.prog 3).dst = some 51 ∧ (ncOp Try.prog 3).guard = none := ⟨by kernel_rfl, by kernel_rfl, by kernel_rfl⟩
theorem nc_o4 : (ncOp Try.prog 4).op = .call { callee := .value (.func 19), args := #[.tmp 51], argTypes := #[27] } ∧ (ncOp Try.prog 4).dst = some 52 ∧ (ncOp Try.prog 4).guard = none := ⟨by kernel_rfl, by kernel_rfl, by kernel_rfl⟩
structure PutIs (a a' : Act) (d : Nat) (v : Value) : Prop where
 size : a'.tmps.size = a.tmps.size
 at_ : a'.tmps.getD d undef = v
 same : ∀ k, k ≠ d → a'.tmps.getD k undef = a.tmps.getD k undef
 defers : a'.defers = a.defers
theorem put_is {a : Act} {d : Nat} {v : Value} (h : d < a.tmps.size) : PutIs a (a.put (some d) v) d v := by
 refine ⟨by simp [Act.put], ?_, fun k hk => ?_, rfl⟩
 ·simp [Act.put, Array.getD_eq_getD_getElem?, h]
 ·simp only [Act.put, Array.getD_eq_getD_getElem?]
  rw [Array.getElem?_setIfInBounds_ne (Ne.symm hk)]
theorem idx_run {P : Program} {t e : TypeId} (hu : P.underlying t = some (.slice e)) {ie : TypeInfo} (hie : P.info? e = some ie) (hs : ie.size = 1) {b n c i : Nat} (hi : i < n) (w : World) : (Instr.indexAt t (.slice (some ⟨b, 0, none⟩) n c) (.int .i64 (i : Int))).run P w = .ok (.pointer (some ⟨b, i, none⟩)) w := by
 have h2 : (i : Int) < (n : Int) := by omega
 simp [Instr.indexAt, run_underlying hu, asIntOf, h2, sizeOf, typeInfo, hie, addr_add, hs]
 intro h; omega
section
variable {F : Fence} {m : Nat} {P : Program} {ops : Array Oper} {Q : Exit → Act → World → Prop} {rest : List Oper} {o : Oper} {a : Act} {w : World}
theorem l_step (hF : Wide F) {d : Nat} (hd : o.dst = some d) (hg : o.guard = none) (hn : notDefer o = true) (h : ∀ K : Act → World → Prop, (∀ v w', wpListIn F m P ops Q rest (a.put (some d) v) w' → K (a.put o.dst v) w') → o.wp P a w K Q) : wpListIn F m P ops Q (o :: rest) a w :=
 wpListIn_plain hg fun K hK => opIn hF hn (h K fun v w' hq => hK _ _ (by rw [hd]; exact hq))
end
theorem nd_of {o : Oper} {p : Op} (h : o.op = p) (hp : notDefer ⟨none, p, 0, "", #[], none⟩ = true) : notDefer o = true := by
 unfold notDefer at hp ⊢
 rw [h]
 exact hp
theorem nc_region {F : Fence} (hF : Wide F) {m : Nat} {W w0 w : World} {G : List Nat} {b n cc i : Nat} {cs : List Value} {u : Value} {L1 L2 : Blocks} {a : Act} {Q : Exit → Act → World → Prop} (hs : a.tmps.size = 59) (h6 : a.tmps.getD 6 undef = .slice (some ⟨b, 0, none⟩) n cc) (h10 : a.tmps.getD 10 undef = iV i) (hi : i < n) (hX : Xs W w0 G w ((b, cs) :: (L1 ++ L2))) (hu : cs[i]? = some u) (hS : Sl2 u L1)
  (hQ : ∀ a' w', Xs W w0 G w' ((b, cs) :: L2) → a'.tmps.size = 59 → (∀ k, k < 48 → a'.tmps.getD k undef = a.tmps.getD k undef) → a'.defers = a.defers → Q .normal a' w') : (ncO Try.prog).wpIn F m Try.prog Q a w := by
 obtain ⟨id, e⟩ := nc_over
 rw [e]
 refine wpIn_region_list ?_
 show wpListIn F m Try.prog _ Q (ncOps (ncO Try.prog)) a w
 rw [nc_list]
 generalize ([ncOp Try.prog 0, ncOp Try.prog 1, ncOp Try.prog 2, ncOp Try.prog 3, ncOp Try.prog 4] : List Oper).toArray = ops
 obtain ⟨p0, d0, g0⟩ := nc_o0
 obtain ⟨p1, d1, g1⟩ := nc_o1
 obtain ⟨p2, d2, g2⟩ := nc_o2
 obtain ⟨p3, d3, g3⟩ := nc_o3
 obtain ⟨p4, d4, g4⟩ := nc_o4
 generalize ncOp Try.prog 0 = o0 at *
 generalize ncOp Try.prog 1 = o1 at *
 generalize ncOp Try.prog 2 = o2 at *
 generalize ncOp Try.prog 3 = o3 at *
 generalize ncOp Try.prog 4 = o4 at *
 refine l_step hF d0 g0 (nd_of p0 rfl) fun K hK => BigFrame.wp_move _ p0 (hK _ _ ?_)
 have P0 := put_is (a := a) (d := 48) (v := a.eval (.tmp 6)) (by omega)
 generalize a.put (some 48) (a.eval (.tmp 6)) = a1 at *
 have s1 : a1.tmps.size = 59 := P0.size.trans hs
 refine l_step hF d1 g1 (nd_of p1 rfl) fun K hK => BigFrame.wp_move _ p1 (hK _ _ ?_)
 have P1 := put_is (a := a1) (d := 49) (v := a1.eval (.tmp 10)) (by omega)
 generalize a1.put (some 49) (a1.eval (.tmp 10)) = a2 at *
 have s2 : a2.tmps.size = 59 := P1.size.trans s1
 have e48 : a2.eval (.tmp 48) = .slice (some ⟨b, 0, none⟩) n cc := (P1.same 48 (by decide)).trans (P0.at_.trans h6)
 have e49 : a2.eval (.tmp 49) = .int .i64 (i : Int) := P1.at_.trans ((P0.same 10 (by decide)).trans h10)
 refine l_step hF d2 g2 (nd_of p2 rfl) fun K hK => ?_
 unfold Oper.wp execOp
 rw [p2]
 simp only [e48, e49, Sem.run_bind, idx_run (t := 22) (e := 27) (P := Try.prog) (ie := (Try.prog.info? 27).getD default) (by kernel_rfl) (by kernel_rfl) (by kernel_rfl) hi, Result.andThen_ok, Sem.run_pure, Oper.upon_value]
 refine hK _ _ ?_
 have P2 := put_is (a := a2) (d := 50) (v := .pointer (some ⟨b, i, none⟩)) (by omega)
 generalize a2.put (some 50) (.pointer (some ⟨b, i, none⟩)) = a3 at *
 have s3 : a3.tmps.size = 59 := P2.size.trans s2
 refine l_step hF d3 g3 (nd_of p3 rfl) fun K hK => s_load1 0 hX.st _ _ p3 b i P2.at_ cs rfl u hu (by kernel_rfl) (hK _ _ ?_)
 have P3 := put_is (a := a3) (d := 51) (v := u) (by omega)
 generalize a3.put (some 51) u = a4 at *
 have s4 : a4.tmps.size = 59 := P3.size.trans s3
 refine l_step hF d4 g4 (nd_of p4 rfl) fun K hK => ?_
 unfold Oper.wp
 rw [run_call p4 (args := #[u]) (by simp only [List.map_toArray, List.map_cons, List.map_nil]; rw [show a4.eval (.tmp 51) = u from P3.at_]) (by kernel_rfl) w, Oper.upon_enter]
 refine (over_part (L0 := [(b, cs)]) hS hX).mono ?_
 rintro e w' ⟨rfl, hX'⟩
 refine hK _ _ ?_
 have P4 := put_is (a := a4) (d := 52) (v := .tuple #[]) (by omega)
 generalize a4.put (some 52) (.tuple #[]) = a5 at *
 refine wpListIn_nil (hQ a5 w' hX' (P4.size.trans s4) (fun k hk => ?_) ?_)
 ·exact (P4.same k (by omega)).trans ((P3.same k (by omega)).trans ((P2.same k (by omega)).trans ((P1.same k (by omega)).trans (P0.same k (by omega)))))
 ·exact P4.defers.trans (P3.defers.trans (P2.defers.trans (P1.defers.trans P0.defers)))
theorem Stp.back {W : World} {lo : Nat} {σ σ' : Sg} {h h' : Hp} {w w' : World} (S : Stp W lo lo σ h w σ' h' w') : σ'.le σ := by
 have hb : ∀ n, σ'.b n = σ.b n ∧ σ'.c n = σ.c n := fun n => S.only n (by omega)
 refine ⟨fun n p e => by rw [← (hb n).1]; exact e, fun n k e => by rw [← (hb n).2]; exact e, fun n p e => ?_⟩
 obtain ⟨h1, h2, h3, h4⟩ := S.le.2.2 n p (by rw [← (hb n).1]; exact e)
 exact ⟨h1.symm, h2.symm, h3.symm, h4.symm⟩
theorem Xs.still {W w0 : World} {G : List Nat} {w w' : World} {L : Blocks} (h : Xs W w0 G w L) (hx : Ext W w') (hz : w.heap.size ≤ w'.heap.size) (hb : ∀ k, k < w.heap.size → w'.heap[k]? = w.heap[k]?) : Xs W w0 G w' L :=
 ⟨⟨hx, fun p hp => by
   obtain ⟨a1, a2⟩ := h.st.2.1 p hp
   have hlt := a2.lt
   obtain ⟨t, a2⟩ := a2
   exact ⟨a1, t, by rw [hb _ hlt]; exact a2⟩, h.st.2.2⟩, Nat.le_trans h.sz hz, fun k h1 h2 => (hb k (Nat.lt_of_lt_of_le h1 h.sz)).trans (h.fr k h1 h2), h.g⟩
theorem rl_nil {W : World} {σ : Sg} {w : World} (hx : Ext W w) (hw : σ.w = true) : Rl W σ [] w :=
 ⟨⟨hx, fun n r e => by simp [lk] at e, fun n m r s p q e => by simp [lk] at e⟩, hw, ⟨fun n r e => by simp [lk] at e, fun n r k e => by simp [lk] at e, fun n r k e => by simp [lk] at e⟩⟩
theorem bd_nil (nx : Nat) : Bd [] nx := fun n hn => rfl
theorem ncX : XOkZ ncV Try.prog := noXz_ok rfl
theorem ncTz : TOkZ ncV Try.prog := noTz_okV rfl
theorem ncLz : LOkZ ncV Try.prog := noL_okV rfl
theorem RTL.back {σ τ : Sg} {n : Nat} {l : List (Nat × Value)} {t : Array Value} (h : RTL σ n l t) (hl : σ.le τ) : RTL τ n l t := ⟨h.n, h.b, fun k v hm => renV_le hl _ _ (h.s k v hm)⟩
theorem still_of {W w0 : World} {G : List Nat} {σ σ' : Sg} {w w' : World} {L : Blocks} {lo hi : Nat} (h : Xs W w0 G w L) (S : Stp W lo hi σ [] w σ' [] w') : Xs W w0 G w' L :=
 h.still S.rl.ext S.size fun k hk => S.fr k hk (fun n r p e => by simp [lk] at e) fun n r e => by simp [lk] at e
theorem nc_rounds {inr : Bool} {W w0 : World} {G : List Nat} {σ : Sg} {u v : Value} {nm c n b cc : Nat} {us rest : List Value} (hw : σ.w = true) (hn : us.length = n) (hn9 : n ≤ 9223372036854775807) (h6 : renV σ (.slice (some ⟨nm, 0, none⟩) n c) = some (.slice (some ⟨b, 0, none⟩) n cc)) : ∀ (r i : Nat), i + r = n → ∀ (w : World) (a : Act) (L : Blocks), Xs W w0 G w ((b, us ++ rest) :: L) → Parts (us.drop i) L → RTL σ 59 (ncS u v nm c n i) a.tmps → ∀ ds, a.defers = ds → ∀ (F : Fence) (m : Nat), Wide F → (inr = false → F.round = none) → ∀ Q : Exit → Act → World → Prop,
  (∀ w' a' L', Xs W w0 G w' L' → RTL σ 59 [(0, u), (5, v)] a'.tmps → a'.defers = ds → Q (.exit 0) a' w') → Code.againIn F m Try.prog (ncB Try.prog) Q a w
 | 0, i, hr, w, a, L, hX, hP, ht, ds, hd, F, m, hF, hrd, Q, hQ => by
   refine again_of ?_
   rw [nc_shape]
   refine wpIn_seq ?_
   have R := code_runsP ncX ncLz (runZ_ok ncX ncTz ncLz mixed 9) mixed (nc_x inr u v nm c n i) ⟨decide_eq_false (by omega), trivial⟩
   refine R.2 (bd_nil _) W σ w a (rl_nil hX.st.1 hw) (fun k h1 h2 => absurd h2 (Nat.not_lt.mpr h1)) ht.rt ds hd F m hF hrd _ ?_
   intro σ' w' a' es S hT hes hde
   simp only [dfR, oI] at hes
   subst hes
   exact hQ w' a' _ (still_of hX S) (hT.back S.back) hde
 | r + 1, i, hr, w, a, L, hX, hP, ht, ds, hd, F, m, hF, hrd, Q, hQ => by
   have hi : i < us.length := by omega
   rw [List.drop_eq_getElem_cons hi] at hP
   obtain ⟨L1, L2, rfl, hS, hP⟩ := hP
   refine again_of ?_
   rw [nc_shape]
   refine wpIn_seq ?_
   have R := code_runsP ncX ncLz (runZ_ok ncX ncTz ncLz mixed 9) mixed (nc_go inr u v nm c n i) ⟨decide_eq_true (by omega), trivial⟩
   refine R.2 (bd_nil _) W σ w a (rl_nil hX.st.1 hw) (fun k h1 h2 => absurd h2 (Nat.not_lt.mpr h1)) ht.rt ds hd F m hF hrd _ ?_
   intro σ1 w1 a1 es S hT hes hde
   simp only [dfR, oI] at hes
   subst hes
   have hT1 : RTL σ 59 (ncS u v nm c n i) a1.tmps := hT.back S.back
   have hX1 := still_of hX S
   clear hT S hX ht hd
   show (Code.seq _ _).wpIn _ _ _ _ _ _
   refine wpIn_seq (wpIn_block ?_)
   have q6 := (hT1.s 6 _ (by simp [ncS])).symm.trans h6
   have q10 := hT1.s 10 (iV i) (by simp [ncS])
   refine nc_region hF hT1.n.symm (Option.some.inj q6) (by simpa [iV, renV] using q10.symm) (by omega) hX1 (by rw [List.getElem?_append_left hi, List.getElem?_eq_getElem hi]) hS ?_
   intro a2 w2 hX2 h59 hk hde2
   have hT2 : RTL σ 59 (ncS u v nm c n i) a2.tmps := ⟨h59.symm, by omega, fun k x hm => by
    have hk48 : k < 48 := by
     simp only [ncS, List.mem_cons, pI, List.not_mem_nil, or_false] at hm
     omega
    rw [hk k hk48]
    exact hT1.s k x hm⟩
   show (ncN Try.prog).wpIn _ _ _ _ _ _
   have R2 := code_runsP ncX ncLz (runZ_ok ncX ncTz ncLz mixed 9) mixed (nc_nx inr u v nm c n i) ⟨by simp only [rg]; omega, trivial⟩
   refine R2.2 (bd_nil _) W σ w2 a2 (rl_nil hX2.st.1 hw) (fun k h1 h2 => absurd h2 (Nat.not_lt.mpr h1)) hT2.rt ds (by rw [hde2, hde]; rfl) F m hF hrd _ ?_
   intro σ3 w3 a3 es S3 hT3 hes hde3
   simp only [dfR, oI] at hes
   subst hes
   exact nc_rounds hw hn hn9 h6 r (i + 1) (by omega) w3 a3 L2 (still_of hX2 S3) hP (hT3.back S3.back) ds hde3 F m hF hrd Q hQ
def rcTab : FuncId → List Nat := fun f => bif Nat.beq f 25 then [9, 12, 17] else []
def rcSy : FuncId → Nat → Option Nat := lsSy 25 [(17, 0), (20, 0), (26, 0), (30, 59), (32, 51)]
def rcV (L : LFun) : Tv := ⟨noTz, noXz, L, rcTab, rcSy, fun _ => [], fun _ => 0⟩
def rcI (L : List (List Pr)) (t : Hp) : Hp := match L with | [] => t | _ => (200, ⟨.dw 1 zLs (llD L), []⟩) :: t
def rcS (n i : Nat) (m : Int) (out : Value) : List (Nat × Value) := [(0, llA n), (1, .int .i64 m), (6, out), (7, iV i)]
theorem rc_n_go (inr : Bool) (n i k : Nat) (m : Int) (ds os : List DV) : prjP [0, 1, 6, 7] 300 (codeZ (rcV noL) Try.prog (runZ (rcV noL) Try.prog 9) 25 inr 100000 (bodyIn Try.prog 25 5) (SL 34 (rcS n i m nlV)) ([] ++ [(0, ⟨.sw ds, []⟩)]) 300 [true]) =
 Res.ok ((Xt.normal, 34, [(0, Value.slice (some (Addr.mk 0 0 none)) n 18446744073709551616), (1, Value.int IntKind.i64 m), (6, Value.slice (some (Addr.mk 303 0 none)) 1 (capBig + 303)), (7, Value.int IntKind.i64 (adI (↑i : Int) m))], [(303, Rw.mk (Kd.dw 1 [Value.slice none 0 0] [DV.sl (sbN (Int.toNat (if (↑n : Int) < adI (↑i : Int) m then (↑n : Int) else adI (↑i : Int) m)) i) none (List.take (sbN (Int.toNat (if (↑n : Int) < adI (↑i : Int) m then (↑n : Int) else adI (↑i : Int) m)) i * 3) (List.drop (i * 3) ds))]) []), (300, Rw.mk (Kd.sw (List.take (sbN (Int.toNat (if (↑n : Int) < adI (↑i : Int) m then (↑n : Int) else adI (↑i : Int) m)) i * 3) (List.drop (i * 3) ds))) []), (0, Rw.mk (Kd.sw ds) [])], 304, [], []), [], [decide ((↑i : Int) < (↑n : Int)) = true, rg IntKind.i64 (adI (↑i : Int) m), 18446744073709551616 = 18446744073709551616 ∧ (0 : Int) ≤ (↑i : Int) ∧ ((↑i : Int) < if (↑n : Int)
 < adI (↑i : Int) m then (↑n : Int) else adI (↑i : Int) m) ∧ (if (↑n : Int) < adI (↑i : Int) m then (↑n : Int) else adI (↑i : Int) m) ≤ (↑n : Int), True, 24 ≤ 140737488355328, sbN (Int.toNat (if (↑n : Int) < adI (↑i : Int) m then (↑n : Int) else adI (↑i : Int) m)) (Int.toNat (↑i : Int)) = 0 → List.take (sbN (Int.toNat (if (↑n : Int) < adI (↑i : Int) m then (↑n : Int) else adI (↑i : Int) m)) i * 3) (List.drop (i * 3) ds) = [], 1 ≤ 1, true = true, rg IntKind.i64 (adI (↑i : Int)
 m)]) := by kernel_rfl
theorem rc_r_go (inr : Bool) (n i k : Nat) (m : Int) (ds os : List DV) : prjP [0, 1, 6, 7] 300 (codeZ (rcV noL) Try.prog (runZ (rcV noL) Try.prog 9) 25 inr 100000 (bodyIn Try.prog 25 5) (SL 34 (rcS n i m (ouA k))) ((200, ⟨.dw 1 zLs os, []⟩) :: [(0, ⟨.sw ds, []⟩)]) 300 [true]) =
 Res.ok ((Xt.normal, 34, [(0, Value.slice (some (Addr.mk 0 0 none)) n 18446744073709551616), (1, Value.int IntKind.i64 m), (6, Value.slice (some (Addr.mk 303 0 none)) (k + 1) (capBig + 303)), (7, Value.int IntKind.i64 (adI (↑i : Int) m))], [(303, Rw.mk (Kd.dw 1 [Value.slice none 0 0] (os ++ [DV.sl (sbN (Int.toNat (if (↑n : Int) < adI (↑i : Int) m then (↑n : Int) else adI (↑i : Int) m)) i) none (List.take (sbN (Int.toNat (if (↑n : Int) < adI (↑i : Int) m then (↑n : Int) else adI (↑i : Int) m)) i * 3) (List.drop (i * 3) ds))])) []), (300, Rw.mk (Kd.sw (List.take (sbN (Int.toNat (if (↑n : Int) < adI (↑i : Int) m then (↑n : Int) else adI (↑i : Int) m)) i * 3) (List.drop (i * 3) ds))) []), (0, Rw.mk (Kd.sw ds) [])], 304, [200], []), [], [decide ((↑i : Int) < (↑n : Int)) = true, rg IntKind.i64 (adI (↑i : Int) m), 18446744073709551616 = 18446744073709551616 ∧ (0 : Int) ≤ (↑i : Int) ∧ ((↑i : Int)
 < if (↑n : Int) < adI (↑i : Int) m then (↑n : Int) else adI (↑i : Int) m) ∧ (if (↑n : Int) < adI (↑i : Int) m then (↑n : Int) else adI (↑i : Int) m) ≤ (↑n : Int), True, capBig + 200 = capBig + 200 ∧ List.length os = k * 1, (k + 1) * 24 ≤ 140737488355328 ∧ k + 1 ≤ 9223372036854775807, sbN (Int.toNat (if (↑n : Int) < adI (↑i : Int) m then (↑n : Int) else adI (↑i : Int) m)) (Int.toNat (↑i : Int)) = 0 → List.take (sbN (Int.toNat (if (↑n : Int) < adI (↑i : Int) m then (↑n : Int) else adI (↑i : Int) m)) i * 3) (List.drop (i * 3) ds) = [], 1 ≤ 1, true = true, rg IntKind.i64 (adI (↑i : Int)
 m)]) := by kernel_rfl
theorem rc_n_x (inr : Bool) (n i k : Nat) (m : Int) (ds os : List DV) : prjP [6] 300 (codeZ (rcV noL) Try.prog (runZ (rcV noL) Try.prog 9) 25 inr 100000 (bodyIn Try.prog 25 5) (SL 34 (rcS n i m nlV)) ([] ++ [(0, ⟨.sw ds, []⟩)]) 300 [false]) =
 Res.ok ((Xt.exit 0, 34, [(6, Value.slice none 0 0)], [(0, Rw.mk (Kd.sw ds) [])], 300, [], []), [], [decide ((↑i : Int) < (↑n : Int)) = false]) := by kernel_rfl
theorem rc_r_x (inr : Bool) (n i k : Nat) (m : Int) (ds os : List DV) : prjP [6] 300 (codeZ (rcV noL) Try.prog (runZ (rcV noL) Try.prog 9) 25 inr 100000 (bodyIn Try.prog 25 5) (SL 34 (rcS n i m (ouA k))) ((200, ⟨.dw 1 zLs os, []⟩) :: [(0, ⟨.sw ds, []⟩)]) 300 [false]) =
 Res.ok ((Xt.exit 0, 34, [(6, Value.slice (some (Addr.mk 200 0 none)) k (capBig + 200))], [(200, Rw.mk (Kd.dw 1 [Value.slice none 0 0] os) []), (0, Rw.mk (Kd.sw ds) [])], 300, [], []), [], [decide ((↑i : Int) < (↑n : Int)) = false]) := by kernel_rfl
def rcO (L : List (List Pr)) : Value := match L with | [] => nlV | _ => ouA L.length
theorem rcO_ne {L : List (List Pr)} (h : L ≠ []) : rcO L = ouA L.length := by cases L with | nil => exact absurd rfl h | cons x l => rfl
theorem rcI_ne {L : List (List Pr)} (h : L ≠ []) (t : Hp) : rcI L t = (200, ⟨.dw 1 zLs (llD L), []⟩) :: t := by cases L with | nil => exact absurd rfl h | cons x l => rfl
theorem ckL_ne (ps : List Pr) (M j : Nat) : ckL ps M (j + 1) ≠ [] := by simp [ckL]
theorem dq_row {lo N : Nat} {ρ : Nat → Nat} {h0 h1 : Hp} {n m sz : Nat} {z : List Value} {ds : List DV} (hn : fnN lo N ρ n = some m) (hl : lk h1 m = some ⟨.dw sz z ds, []⟩) : RbRow lo N ρ h0 h1 n ⟨.dw sz z ds, []⟩ := rb_rec hn hl trivial
theorem dq_eq {sz : Nat} {z : List Value} {Y X : List DV} (h : Y = X) : some (Rw.mk (.dw sz z Y) []) = some (Rw.mk (.dw sz z X) []) := by rw [h]
theorem rcX {L : LFun} : XOkZ (rcV L) Try.prog := noXz_ok rfl
theorem rcT {L : LFun} : TOkZ (rcV L) Try.prog := noTz_okV rfl
theorem rcL0 : LOkZ (rcV noL) Try.prog := noL_okV rfl
theorem rc_exit {inr : Bool} {h0 : Hp} {ds : List DV} {ps : List Pr} {n M : Nat} (j : Nat) (hj : n ≤ j * M) :
  LRuns inr Try.prog (bodyIn Try.prog 25 5) 4 400 h0 34 (rcS n (j * M) M (rcO (ckL ps M j))) (rcI (ckL ps M j) [(0, ⟨.sw ds, []⟩)]) 300 (.exit 0, [(6, rcO (ckL ps M j))], rcI (ckL ps M j) [(0, ⟨.sw ds, []⟩)]) := by
 cases j with
 | zero =>
  refine LRuns.exit (code_runsP rcX rcL0 (runZ_ok rcX rcT rcL0 mixed 9) mixed (rc_n_x inr n (0 * M) 0 M ds []) ?_) (by intro e; cases e) rfl (by omega) (by omega) (fun n => n) ?_ ?_ rfl
  ·simp only [Alls, decide_eq_false_iff_not]
   exact ⟨by omega, trivial⟩
  ·exact ⟨rfl, rfl, trivial⟩
  ·exact ⟨sw_row (m := 0) rfl rfl, trivial⟩
 | succ j =>
  rw [rcO_ne (ckL_ne ps M j), rcI_ne (ckL_ne ps M j), ckL_len]
  refine LRuns.exit (code_runsP rcX rcL0 (runZ_ok rcX rcT rcL0 mixed 9) mixed (rc_r_x inr n ((j + 1) * M) (j + 1) M ds (llD (ckL ps M (j + 1)))) ?_) (by intro e; cases e) rfl (by omega) (by omega) (fun n => n) ?_ ?_ rfl
  ·simp only [Alls, decide_eq_false_iff_not]
   exact ⟨by omega, trivial⟩
  ·exact ⟨rfl, rb_slg rfl rfl, trivial⟩
  ·exact ⟨dq_row (m := 200) rfl rfl, sw_row (m := 0) rfl rfl, trivial⟩
theorem rc_loop {inr : Bool} {h0 : Hp} {ds : List DV} {ps : List Pr} {n M : Nat} (hB : ChOk ds ps n M) : ∀ (r j : Nat), n ≤ j * M + r →
  LRuns inr Try.prog (bodyIn Try.prog 25 5) 4 400 h0 34 (rcS n (j * M) M (rcO (ckL ps M j))) (rcI (ckL ps M j) [(0, ⟨.sw ds, []⟩)]) 300 (.exit 0, [(6, rcO (ckL ps M (finJ n M r j)))], rcI (ckL ps M (finJ n M r j)) [(0, ⟨.sw ds, []⟩)])
 | 0, j, hr => rc_exit j (by omega)
 | r + 1, j, hr => by
   by_cases hlt : j * M < n
   ·have hM1 := hB.M1
    have hM2 := hB.M2
    have hm := hB.m
    have sm : (j + 1) * M = j * M + M := Nat.succ_mul j M
    have eF : finJ n M (r + 1) j = finJ n M r (j + 1) := by rw [finJ, decide_eq_true hlt]; rfl
    rw [eF]
    have nx := rc_loop (inr := inr) (h0 := h0) hB r (j + 1) (by omega)
    rw [rcO_ne (ckL_ne ps M j), rcI_ne (ckL_ne ps M j), ckL_len] at nx
    obtain ⟨e, hp0, hp1, hp2, hp3, he0⟩ := ct_e hlt hM1
    have hA2 : adI ((j * M : Nat) : Int) (M : Int) = ((j * M + M : Nat) : Int) := rfl
    have he : (if (n : Int) < ((j * M + M : Nat) : Int) then (n : Int) else ((j * M + M : Nat) : Int)) = ((j * M + e : Nat) : Int) := by
     rcases hp3 with h3 | h3
     ·subst h3
      split <;> omega
     ·split <;> omega
    have hI : some (Value.int .i64 (((j + 1) * M : Nat) : Int)) = some (Value.int .i64 (adI ((j * M : Nat) : Int) (M : Int))) := by rw [sm]; rfl
    have hL : (ptP ps M j).length = e := by
     unfold ptP
     rw [List.length_take, List.length_drop, hB.l]
     omega
    have hX : List.take (e * 3) (List.drop (j * M * 3) ds) = cpD (ptP ps M j) := by
     rw [hB.e, cpD_drop, cpD_take]
     unfold ptP
     congr 1
     rcases hp3 with rfl | h3
     ·rfl
     ·rw [List.take_of_length_le (by rw [List.length_drop, hB.l]; omega), List.take_of_length_le (by rw [List.length_drop, hB.l]; omega)]
    have hj9 : j < 1000 := by
     rcases Nat.lt_or_ge j 1000 with h | h
     ·exact h
     ·have := Nat.mul_le_mul h hM1
      omega
    have hol : (llD (ckL ps M j)).length = j := by rw [llD_len, ckL_len]
    cases j with
    | zero =>
     refine LRuns.step (code_runsP rcX rcL0 (runZ_ok rcX rcT rcL0 mixed 9) mixed (rc_n_go inr n (0 * M) 0 M ds []) ?_) rfl (by omega) (by omega) (fun n => bif Nat.beq n 200 then 303 else n) ?_ ?_ rfl nx
     ·
      simp only [Alls, rg, decide_eq_true_eq, sbN_eq, he, hA2, Int.toNat_natCast, Nat.add_sub_cancel_left, hX]
      repeat' (with_reducible apply And.intro)
      all_goals first | (with_reducible assumption) | omega | (with_reducible exact trivial) | (with_reducible rfl) | rfl | (intro e0; omega) | skip
     ·exact ⟨rfl, rb_slg rfl rfl, rfl, rfl, rfl, rb_slg rfl rfl, rfl, hI, trivial⟩
     ·refine ⟨dq_row (m := 303) rfl (dq_eq ?_), sw_row (m := 0) rfl rfl, trivial⟩
      simp only [sbN_eq, he, hA2, Int.toNat_natCast, Nat.add_sub_cancel_left, hX, ckL, llD, List.nil_append, List.map_cons, List.map_nil, hL]
    | succ j =>
     rw [rcO_ne (ckL_ne ps M j), rcI_ne (ckL_ne ps M j), ckL_len]
     refine LRuns.step (code_runsP rcX rcL0 (runZ_ok rcX rcT rcL0 mixed 9) mixed (rc_r_go inr n ((j + 1) * M) (j + 1) M ds (llD (ckL ps M (j + 1)))) ?_) rfl (by omega) (by omega) (fun n => bif Nat.beq n 200 then 303 else n) ?_ ?_ rfl nx
     ·
      simp only [Alls, rg, decide_eq_true_eq, sbN_eq, he, hA2, Int.toNat_natCast, Nat.add_sub_cancel_left, hX]
      repeat' (with_reducible apply And.intro)
      all_goals first | (with_reducible assumption) | omega | (with_reducible exact trivial) | (with_reducible rfl) | rfl | (intro e0; omega) | skip
     ·exact ⟨rfl, rb_slg rfl rfl, rfl, rfl, rfl, rb_slg rfl rfl, rfl, hI, trivial⟩
     ·refine ⟨dq_row (m := 303) rfl (dq_eq ?_), sw_row (m := 0) rfl rfl, trivial⟩
      rw [show ckL ps M (j + 1 + 1) = ckL ps M (j + 1) ++ [ptP ps M (j + 1)] from rfl, llD_snoc]
      simp only [sbN_eq, he, hA2, Int.toNat_natCast, Nat.add_sub_cancel_left, hX, hL]
   ·have eF : finJ n M (r + 1) j = j := by rw [finJ, decide_eq_false hlt]; rfl
    rw [eF]
    exact rc_exit j (by omega)
end Go.Proofs.Ytmoflcoijmmpjaa
