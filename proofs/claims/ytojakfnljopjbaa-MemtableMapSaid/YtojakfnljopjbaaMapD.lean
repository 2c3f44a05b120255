/-
  Chapter 12: the statement MemtableMap: its second loop.
-/
import Derived.Test.YtojakfnljopjbaaMapC
namespace Go.Proofs.Ytojakfnljopjbaa
set_option linter.unusedSimpArgs false
set_option linter.unusedVariables false
set_option linter.unusedSectionVars false
open Go Go.RowKit
theorem mqX {L : LFun} {T : TFun} : XOkZ (mqV L T) Try.prog := XOneZ.ok cmpY_ok rfl
theorem mqT {L : LFun} : TOkZ (mqV L getT) Try.prog := T_okV rfl getT_one
theorem mqL0 {T : TFun} : LOkZ (mqV noL T) Try.prog := noL_okV rfl
def mqHp (o : Option Pr) (k : Nat) (es ls ds : List DV) (k1 : List Value) : Hp := match o with
  | none => mqN k es ls ds k1
  | some q => mqY q k es ls ds k1
def mqE (m1 c1 x : Nat) (b : Bool) : List (Nat × Value) := [(1, .slice (some ⟨1, 0, none⟩) m1 c1), (5, .bool true), (6, .pointer (some ⟨2, 0, none⟩)), (7, laV x), (11, .pointer (some ⟨200, 0, none⟩)), (12, .bool b)]
theorem sh3_row {lo N : Nat} {ρ : Nat → Nat} {h0 h1 : Hp} {n m : Nat} {v v1 u u1 : Value} {b : Bool} (hn : fnN lo N ρ n = some m) (hl : lk h1 m = some ⟨.shut, [v1, u1, .bool b]⟩) (hv : renV (sgf lo N ρ) v = some v1) (hu : renV (sgf lo N ρ) u = some u1) : RbRow lo N ρ h0 h1 n ⟨.shut, [v, u, .bool b]⟩ := ⟨m, _, hn, hl, rfl, rfl, .inl (renL_mk hv (renL_mk hu (renL_mk rfl rfl)))⟩
theorem ol_eq {Y X : List Value} (h : Y = X) : some (Rw.mk .old Y) = some (Rw.mk .old X) := by rw [h]
theorem sh_eq {a b a' b' : Value} {x x' : Bool} (h1 : a = a') (h2 : b = b') (h3 : x = x') : some (Rw.mk .shut [a, b, .bool x]) = some (Rw.mk .shut [a', b', .bool x']) := by rw [h1, h2, h3]
theorem mq_loop {inr : Bool} {h0 : Hp} {ds : List DV} {ps : List Pr} {n c c1 m1 : Nat} {k1 : List Value} {ts ls : List Pr} (hB : MpOk ds ps n c c1 m1 k1) (hM : Mi (ts, ls)) (hx : ls.length ≤ 100) : ∀ (r i : Nat) (o : Option Pr), i + r = ls.length → (∀ q, o = some q → PrOk q) →
    LRuns inr Try.prog (bodyIn Try.prog 8 19) 201 400 h0 128 (mqS m1 c1 i ls.length o.isSome) (mqHp o ts.length (cpD ts) (cpD ls) ds k1) 300
      (.exit 2, mqE m1 c1 ls.length ((ls.drop i).foldl (stepL (intsOf k1)) o).isSome, mqHp ((ls.drop i).foldl (stepL (intsOf k1)) o) ts.length (cpD ts) (cpD ls) ds k1)
  | 0, i, o, hr, ho => by
      have h1c : c1 < capBig := by have := hB.c1; unfold capBig; omega
      rw [List.drop_of_length_le (by omega), List.foldl_nil]
      cases o with
      | none =>
        refine LRuns.exit (code_runsP mqX mqL0 (runZ_ok mqX mqT mqL0 mixed 12) mixed (mq_nend inr m1 c1 i ts.length ls.length (cpD ts) (cpD ls) ds k1) ?_) (by intro e; cases e) rfl (by omega) (by omega) (fun n => n) ?_ ?_ rfl
        · simp only [Alls, decide_eq_false_iff_not]
          exact ⟨by omega, trivial⟩
        ·
          exact ⟨rfl, rb_slc rfl h1c, rfl, rfl, rfl, rb_ptr rfl, rfl, rb_slg rfl rfl, rfl, rb_ptr rfl, rfl, rfl, trivial⟩
        ·
          exact ⟨sh3_row (m := 200) rfl rfl rfl rfl, dp_row (m := 80) rfl rfl, dp_row (m := 81) rfl rfl, sh2_row (m := 2) rfl rfl (rb_slg rfl rfl), sd_row (m := 0) rfl rfl, ol_row (m := 1) rfl rfl hB.K1.fl, trivial⟩
      | some q =>
        refine LRuns.exit (code_runsP mqX mqL0 (runZ_ok mqX mqT mqL0 mixed 12) mixed (mq_yend inr m1 c1 i ts.length ls.length q (cpD ts) (cpD ls) ds k1) ?_) (by intro e; cases e) rfl (by omega) (by omega) (fun n => n) ?_ ?_ rfl
        · simp only [Alls, decide_eq_false_iff_not]
          exact ⟨by omega, trivial⟩
        ·
          exact ⟨rfl, rb_slc rfl h1c, rfl, rfl, rfl, rb_ptr rfl, rfl, rb_slg rfl rfl, rfl, rb_ptr rfl, rfl, rfl, trivial⟩
        ·
          exact ⟨ol_row (m := 201) rfl rfl (byV_ren q.1), ol_row (m := 202) rfl rfl (byV_ren q.2.1), sh3_row (m := 200) rfl rfl (rb_slg rfl rfl) (rb_slg rfl rfl), dp_row (m := 80) rfl rfl, dp_row (m := 81) rfl rfl, sh2_row (m := 2) rfl rfl (rb_slg rfl rfl), sd_row (m := 0) rfl rfl, ol_row (m := 1) rfl rfl hB.K1.fl, trivial⟩
  | r + 1, i, o, hr, ho => by
      have h1c : c1 < capBig := by have := hB.c1; unfold capBig; omega
      have hi : i < ls.length := by omega
      have F := (cpD_prs ls).facts (List.getElem?_eq_getElem hi)
      obtain ⟨p, hp⟩ : ∃ p, ls[i] = p := ⟨_, rfl⟩
      have hmem : p ∈ ls := by rw [← hp]; exact List.getElem_mem hi
      rw [hp] at F
      have hpo := hM.o p hmem
      have hd : ls.drop i = p :: ls.drop (i + 1) := by rw [List.drop_eq_getElem_cons hi, hp]
      rw [hd, List.foldl_cons]
      have ho2 : ∀ q, stepL (intsOf k1) o p = some q → PrOk q := fun q hq => by
        unfold stepL at hq
        cases hk : decide (p.1 = intsOf k1) with
        | true => rw [hk] at hq; cases hq; exact hpo
        | false => rw [hk] at hq; exact ho q hq
      have nx := mq_loop (inr := inr) (h0 := h0) hB hM hx r (i + 1) (stepL (intsOf k1) o p) (by omega) ho2
      have f0 := F.l0
      have f1 := F.l1
      have v0 := F.v0
      have v1 := F.v1
      have g0 := F.g
      have o0 := F.o27 300
      have o1 := F.o27 301
      have o2 := F.o29 301
      have o3 := F.o27 303
      have y1 := byV_bytI hpo.1
      have i0 := byV_ints p.1
      have hl0 := byV_len p.1
      have t0 : List.take p.1.length (byV p.1) = byV p.1 := List.take_of_length_le (by omega)
      have hk1 : k1.length = m1 := hB.K1.2.2
      have tk : List.take m1 k1 = k1 := List.take_of_length_le (by omega)
      have ek : k1 = List.map (Value.int .u8) (intsOf k1) := hB.K1.1
      have r0 := byV_ren p.1
      have z0 : p.1.length = 0 → byV p.1 = [] := fun e => List.eq_nil_of_length_eq_zero (by omega)
      have sE : strEq (strOfI p.1) (strOfI (intsOf k1)) = decide (p.1 = intsOf k1) := strEq_I hpo.1 hB.K1.2.1
      have m0 : byV p.1 = List.map (Value.int .u8) p.1 := rfl
      have pT := prsOf_cp ts
      have cpl := cpD_len ts
      have hT : Ti ts := hM.T
      have tb := hT.tk
      have hh : hitP ts p.1 = true := hM.hit hmem
      have eA : dVals (cpD ls) (i * 3) = byV p.1 := v0
      cases hk : decide (p.1 = intsOf k1) with
      | false =>
        have e : stepL (intsOf k1) o p = o := by unfold stepL; rw [hk]; rfl
        rw [e] at nx ⊢
        cases o with
        | none =>
          refine LRuns.step (code_runsP mqX mqL0 (runZ_ok mqX mqT mqL0 mixed 12) mixed (mq_nn inr m1 c1 i ts.length ls.length (cpD ts) (cpD ls) ds k1) ?_) rfl (by omega) (by omega) (fun n => n) ?_ ?_ rfl nx
          ·
            simp only [Alls, rg, decide_eq_true_eq, decide_eq_false_iff_not, Nat.add_zero, f0, f1, v0, v1, g0, t0, tk, i0, sE, pT, hk]
            repeat' (with_reducible apply And.intro)
            all_goals first | omega | (with_reducible assumption) | (with_reducible exact trivial) | (with_reducible rfl) | exact fun e => z0 (f0.symm.trans e) | exact rfl | skip
          ·
            exact ⟨rfl, rb_slc rfl h1c, rfl, rfl, rfl, rb_ptr rfl, rfl, rb_slg rfl rfl, rfl, rb_ptr rfl, rfl, rfl, rfl, rfl, trivial⟩
          ·
            exact ⟨sh3_row (m := 200) rfl rfl rfl rfl, dp_row (m := 80) rfl rfl, dp_row (m := 81) rfl rfl, sh2_row (m := 2) rfl rfl (rb_slg rfl rfl), sd_row (m := 0) rfl rfl, ol_row (m := 1) rfl rfl hB.K1.fl, trivial⟩
        | some q =>
          refine LRuns.step (code_runsP mqX mqL0 (runZ_ok mqX mqT mqL0 mixed 12) mixed (mq_yn inr m1 c1 i ts.length ls.length q (cpD ts) (cpD ls) ds k1) ?_) rfl (by omega) (by omega) (fun n => n) ?_ ?_ rfl nx
          ·
            simp only [Alls, rg, decide_eq_true_eq, decide_eq_false_iff_not, Nat.add_zero, f0, f1, v0, v1, g0, t0, tk, i0, sE, pT, hk]
            repeat' (with_reducible apply And.intro)
            all_goals first | omega | (with_reducible assumption) | (with_reducible exact trivial) | (with_reducible rfl) | exact fun e => z0 (f0.symm.trans e) | exact rfl | skip
          ·
            exact ⟨rfl, rb_slc rfl h1c, rfl, rfl, rfl, rb_ptr rfl, rfl, rb_slg rfl rfl, rfl, rb_ptr rfl, rfl, rfl, rfl, rfl, trivial⟩
          ·
            exact ⟨ol_row (m := 201) rfl rfl (byV_ren q.1), ol_row (m := 202) rfl rfl (byV_ren q.2.1), sh3_row (m := 200) rfl rfl (rb_slg rfl rfl) (rb_slg rfl rfl), dp_row (m := 80) rfl rfl, dp_row (m := 81) rfl rfl, sh2_row (m := 2) rfl rfl (rb_slg rfl rfl), sd_row (m := 0) rfl rfl, ol_row (m := 1) rfl rfl hB.K1.fl, trivial⟩
      | true =>
        have e : stepL (intsOf k1) o p = some p := by unfold stepL; rw [hk]; rfl
        rw [e] at nx ⊢
        cases o with
        | none =>
          refine LRuns.step (code_runs mqX mqL0 (runZ_ok mqX mqT mqL0 mixed 12) mixed (mq_ny inr m1 c1 i ts.length ls.length (cpD ts) (cpD ls) ds k1) ?_) rfl (by omega) (by omega) (fun n => n + 100) ?_ ?_ rfl nx
          ·
            simp only [Alls, rg, decide_eq_true_eq, decide_eq_false_iff_not, Nat.add_zero, f0, f1, v0, v1, g0, t0, tk, i0, sE, pT, hk]
            repeat' (with_reducible apply And.intro)
            all_goals first | omega | (with_reducible assumption) | (with_reducible exact trivial) | (with_reducible rfl) | exact fun e => z0 (f0.symm.trans e) | exact rfl | skip
          ·
            exact ⟨rfl, rb_slc rfl h1c, rfl, rfl, rfl, rb_ptr rfl, rfl, rb_slg rfl rfl, rfl, rb_ptr rfl, rfl, rfl, rfl, rfl, trivial⟩
          ·
            exact ⟨ol_row (m := 301) rfl (ol_eq v0) (byV_ren p.1), ol_row (m := 302) rfl (ol_eq v1) (byV_ren p.2.1), sh3_row (m := 200) rfl (sh_eq (by rw [show dLen (cpD ls) (i * 3 + 0) = p.1.length from f0]) (by rw [f1]) g0) (rb_slg rfl rfl) (rb_slg rfl rfl), dp_row (m := 80) rfl rfl, dp_row (m := 81) rfl rfl, sh2_row (m := 2) rfl rfl (rb_slg rfl rfl), sd_row (m := 0) rfl rfl, ol_row (m := 1) rfl rfl hB.K1.fl, trivial⟩
        | some q =>
          refine LRuns.step (code_runs mqX mqL0 (runZ_ok mqX mqT mqL0 mixed 12) mixed (mq_yy inr m1 c1 i ts.length ls.length q (cpD ts) (cpD ls) ds k1) ?_) rfl (by omega) (by omega) (fun n => n + 100) ?_ ?_ rfl nx
          ·
            simp only [Alls, rg, decide_eq_true_eq, decide_eq_false_iff_not, Nat.add_zero, f0, f1, v0, v1, g0, t0, tk, i0, sE, pT, hk]
            repeat' (with_reducible apply And.intro)
            all_goals first | omega | (with_reducible assumption) | (with_reducible exact trivial) | (with_reducible rfl) | exact fun e => z0 (f0.symm.trans e) | exact rfl | skip
          ·
            exact ⟨rfl, rb_slc rfl h1c, rfl, rfl, rfl, rb_ptr rfl, rfl, rb_slg rfl rfl, rfl, rb_ptr rfl, rfl, rfl, rfl, rfl, trivial⟩
          ·
            exact ⟨ol_row (m := 301) rfl (ol_eq v0) (byV_ren p.1), ol_row (m := 302) rfl (ol_eq v1) (byV_ren p.2.1), sh3_row (m := 200) rfl (sh_eq (by rw [show dLen (cpD ls) (i * 3 + 0) = p.1.length from f0]) (by rw [f1]) g0) (rb_slg rfl rfl) (rb_slg rfl rfl), dp_row (m := 80) rfl rfl, dp_row (m := 81) rfl rfl, sh2_row (m := 2) rfl rfl (rb_slg rfl rfl), sd_row (m := 0) rfl rfl, ol_row (m := 1) rfl rfl hB.K1.fl, trivial⟩
end Go.Proofs.Ytojakfnljopjbaa
