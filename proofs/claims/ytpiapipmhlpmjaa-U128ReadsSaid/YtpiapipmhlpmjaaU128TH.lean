/-
  Chapter 01: a text's number: the document's loop.
-/
import Derived.Test.YtpiapipmhlpmjaaU128TG
namespace Go.Proofs.Ytpiapipmhlpmjaa
set_option linter.unusedSimpArgs false
set_option linter.unusedVariables false
set_option linter.unusedSectionVars false
open Go Go.RowKit

/-- Nine times more, and a digit: the outcomes one behind the other. -/
def rK (h l d : Int) : Nat → Int × Int × Bool
  | 0 => (h, l, false)
  | k + 1 => addV (rK h l d k).1 (rK h l d k).2.1 (bif Nat.blt k 9 then h else 0) (bif Nat.blt k 9 then l else d)
theorem addV_wf {h l a b : Int} (w1 : wf64 h) (w2 : wf64 l) (w3 : wf64 a) (w4 : wf64 b) : wf64 (addV h l a b).1 ∧ wf64 (addV h l a b).2.1 := by
  obtain ⟨p1, p2⟩ := w1
  obtain ⟨p3, p4⟩ := w2
  obtain ⟨p5, p6⟩ := w3
  obtain ⟨p7, p8⟩ := w4
  unfold addV
  split
  · rename_i hs
    unfold top128 nm at hs
    unfold wf64 nm
    constructor
    · show 0 ≤ (_ : Int) / _ ∧ (_ : Int) / _ < _
      omega
    · show 0 ≤ (_ : Int) % _ ∧ (_ : Int) % _ < _
      omega
  · exact ⟨⟨by decide, by decide⟩, by decide, by decide⟩
theorem rK_wf {h l d : Int} (w1 : wf64 h) (w2 : wf64 l) (w3 : 0 ≤ d ∧ d < 10) : ∀ k, wf64 (rK h l d k).1 ∧ wf64 (rK h l d k).2.1
  | 0 => ⟨w1, w2⟩
  | k + 1 => by
      obtain ⟨a, b⟩ := rK_wf w1 w2 w3 k
      have wd : wf64 d := ⟨w3.1, by have := w3.2; omega⟩
      have w0 : wf64 0 := ⟨by decide, by decide⟩
      unfold rK
      cases Nat.blt k 9
      · exact addV_wf a b w0 wd
      · exact addV_wf a b w1 w2
theorem AddIs.val {h l a b H L : Int} {O : Bool} (A : AddIs h l a b H L O) : (O = false ∧ nm H L = nm h l + nm a b ∧ nm h l + nm a b < 340282366920938463463374607431768211456) ∨ (O = true ∧ 340282366920938463463374607431768211456 ≤ nm h l + nm a b) := by
  obtain ⟨⟨⟨p1, p2⟩, ⟨p3, p4⟩, ⟨p5, p6⟩, p7, p8⟩, e⟩ := A
  unfold addV at e
  split at e
  · rename_i hs
    simp only [Prod.mk.injEq] at e
    obtain ⟨rfl, rfl, rfl⟩ := e
    refine .inl ⟨rfl, ?_, hs⟩
    show (nm h l + nm a b) / 18446744073709551616 * 18446744073709551616 + (nm h l + nm a b) % 18446744073709551616 = _
    omega
  · rename_i hs
    simp only [Prod.mk.injEq] at e
    obtain ⟨rfl, rfl, rfl⟩ := e
    unfold top128 at hs
    exact .inr ⟨rfl, by omega⟩
/-- Ten additions. -/
structure RkIs (h l d : Int) (hs ls : Nat → Int) (os : Nat → Bool) : Prop where
  a1 : AddIs h l h l (hs 1) (ls 1) (os 1)
  a2 : AddIs (hs 1) (ls 1) h l (hs 2) (ls 2) (os 2)
  a3 : AddIs (hs 2) (ls 2) h l (hs 3) (ls 3) (os 3)
  a4 : AddIs (hs 3) (ls 3) h l (hs 4) (ls 4) (os 4)
  a5 : AddIs (hs 4) (ls 4) h l (hs 5) (ls 5) (os 5)
  a6 : AddIs (hs 5) (ls 5) h l (hs 6) (ls 6) (os 6)
  a7 : AddIs (hs 6) (ls 6) h l (hs 7) (ls 7) (os 7)
  a8 : AddIs (hs 7) (ls 7) h l (hs 8) (ls 8) (os 8)
  a9 : AddIs (hs 8) (ls 8) h l (hs 9) (ls 9) (os 9)
  a10 : AddIs (hs 9) (ls 9) 0 d (hs 10) (ls 10) (os 10)
  w : wf64 (hs 10) ∧ wf64 (ls 10)
theorem rkIs {h l d : Int} (w1 : wf64 h) (w2 : wf64 l) (w3 : 0 ≤ d ∧ d < 10) : RkIs h l d (fun k => (rK h l d k).1) (fun k => (rK h l d k).2.1) (fun k => (rK h l d k).2.2) := by
  have wd : wf64 d := ⟨w3.1, by have := w3.2; omega⟩
  have w0 : wf64 0 := ⟨by decide, by decide⟩
  have W := rK_wf w1 w2 w3
  exact ⟨⟨⟨(W 0).1, (W 0).2, w1, w2⟩, rfl⟩, ⟨⟨(W 1).1, (W 1).2, w1, w2⟩, rfl⟩, ⟨⟨(W 2).1, (W 2).2, w1, w2⟩, rfl⟩, ⟨⟨(W 3).1, (W 3).2, w1, w2⟩, rfl⟩, ⟨⟨(W 4).1, (W 4).2, w1, w2⟩, rfl⟩, ⟨⟨(W 5).1, (W 5).2, w1, w2⟩, rfl⟩, ⟨⟨(W 6).1, (W 6).2, w1, w2⟩, rfl⟩, ⟨⟨(W 7).1, (W 7).2, w1, w2⟩, rfl⟩, ⟨⟨(W 8).1, (W 8).2, w1, w2⟩, rfl⟩, ⟨⟨(W 9).1, (W 9).2, w0, wd⟩, rfl⟩, W 10⟩
def rkO (os : Nat → Bool) : Bool := os 1 || os 2 || os 3 || os 4 || os 5 || os 6 || os 7 || os 8 || os 9 || os 10
theorem RkIs.law {h l d : Int} {hs ls : Nat → Int} {os : Nat → Bool} (R : RkIs h l d hs ls os) (w1 : wf64 h) (w2 : wf64 l) (w3 : 0 ≤ d ∧ d < 10) : rkO os = tO h l d ∧ (rkO os = false → hs 10 = tH h l d ∧ ls 10 = tL h l d) := by
  obtain ⟨p1, p2⟩ := w1
  obtain ⟨p3, p4⟩ := w2
  obtain ⟨⟨q1, q2⟩, q3, q4⟩ := R.w
  have ev : nm h l = h * 18446744073709551616 + l := rfl
  have ed : nm 0 d = d := by unfold nm; omega
  have e10 : nm (hs 10) (ls 10) = hs 10 * 18446744073709551616 + ls 10 := rfl
  have A1 := R.a1.val
  have A2 := R.a2.val
  have A3 := R.a3.val
  have A4 := R.a4.val
  have A5 := R.a5.val
  have A6 := R.a6.val
  have A7 := R.a7.val
  have A8 := R.a8.val
  have A9 := R.a9.val
  have A10 := R.a10.val
  rw [ed] at A10
  have hT : tO h l d = decide (340282366920938463463374607431768211456 ≤ 10 * nm h l + d) := rfl
  have hH : tH h l d = (10 * nm h l + d) / 18446744073709551616 % 18446744073709551616 := rfl
  have hL : tL h l d = (10 * nm h l + d) % 18446744073709551616 := rfl
  clear R
  generalize nm h l = v at *
  generalize e1 : nm (hs 1) (ls 1) = v1 at *
  generalize e2 : nm (hs 2) (ls 2) = v2 at *
  generalize e3 : nm (hs 3) (ls 3) = v3 at *
  generalize e4 : nm (hs 4) (ls 4) = v4 at *
  generalize e5 : nm (hs 5) (ls 5) = v5 at *
  generalize e6 : nm (hs 6) (ls 6) = v6 at *
  generalize e7 : nm (hs 7) (ls 7) = v7 at *
  generalize e8 : nm (hs 8) (ls 8) = v8 at *
  generalize e9 : nm (hs 9) (ls 9) = v9 at *
  generalize e10' : nm (hs 10) (ls 10) = v10 at *
  rw [hT, hH, hL]
  unfold rkO
  rcases A1 with ⟨o1, r1, s1⟩ | ⟨o1, s1⟩
  case inr =>
    have g : (os 1 || os 2 || os 3 || os 4 || os 5 || os 6 || os 7 || os 8 || os 9 || os 10) = true := by simp only [o1, Bool.true_or, Bool.or_true, Bool.false_or]
    rw [g]
    exact ⟨(decide_eq_true (by omega)).symm, fun h => by cases h⟩
  rcases A2 with ⟨o2, r2, s2⟩ | ⟨o2, s2⟩
  case inr =>
    have g : (os 1 || os 2 || os 3 || os 4 || os 5 || os 6 || os 7 || os 8 || os 9 || os 10) = true := by simp only [o1, o2, Bool.true_or, Bool.or_true, Bool.false_or]
    rw [g]
    exact ⟨(decide_eq_true (by omega)).symm, fun h => by cases h⟩
  rcases A3 with ⟨o3, r3, s3⟩ | ⟨o3, s3⟩
  case inr =>
    have g : (os 1 || os 2 || os 3 || os 4 || os 5 || os 6 || os 7 || os 8 || os 9 || os 10) = true := by simp only [o1, o2, o3, Bool.true_or, Bool.or_true, Bool.false_or]
    rw [g]
    exact ⟨(decide_eq_true (by omega)).symm, fun h => by cases h⟩
  rcases A4 with ⟨o4, r4, s4⟩ | ⟨o4, s4⟩
  case inr =>
    have g : (os 1 || os 2 || os 3 || os 4 || os 5 || os 6 || os 7 || os 8 || os 9 || os 10) = true := by simp only [o1, o2, o3, o4, Bool.true_or, Bool.or_true, Bool.false_or]
    rw [g]
    exact ⟨(decide_eq_true (by omega)).symm, fun h => by cases h⟩
  rcases A5 with ⟨o5, r5, s5⟩ | ⟨o5, s5⟩
  case inr =>
    have g : (os 1 || os 2 || os 3 || os 4 || os 5 || os 6 || os 7 || os 8 || os 9 || os 10) = true := by simp only [o1, o2, o3, o4, o5, Bool.true_or, Bool.or_true, Bool.false_or]
    rw [g]
    exact ⟨(decide_eq_true (by omega)).symm, fun h => by cases h⟩
  rcases A6 with ⟨o6, r6, s6⟩ | ⟨o6, s6⟩
  case inr =>
    have g : (os 1 || os 2 || os 3 || os 4 || os 5 || os 6 || os 7 || os 8 || os 9 || os 10) = true := by simp only [o1, o2, o3, o4, o5, o6, Bool.true_or, Bool.or_true, Bool.false_or]
    rw [g]
    exact ⟨(decide_eq_true (by omega)).symm, fun h => by cases h⟩
  rcases A7 with ⟨o7, r7, s7⟩ | ⟨o7, s7⟩
  case inr =>
    have g : (os 1 || os 2 || os 3 || os 4 || os 5 || os 6 || os 7 || os 8 || os 9 || os 10) = true := by simp only [o1, o2, o3, o4, o5, o6, o7, Bool.true_or, Bool.or_true, Bool.false_or]
    rw [g]
    exact ⟨(decide_eq_true (by omega)).symm, fun h => by cases h⟩
  rcases A8 with ⟨o8, r8, s8⟩ | ⟨o8, s8⟩
  case inr =>
    have g : (os 1 || os 2 || os 3 || os 4 || os 5 || os 6 || os 7 || os 8 || os 9 || os 10) = true := by simp only [o1, o2, o3, o4, o5, o6, o7, o8, Bool.true_or, Bool.or_true, Bool.false_or]
    rw [g]
    exact ⟨(decide_eq_true (by omega)).symm, fun h => by cases h⟩
  rcases A9 with ⟨o9, r9, s9⟩ | ⟨o9, s9⟩
  case inr =>
    have g : (os 1 || os 2 || os 3 || os 4 || os 5 || os 6 || os 7 || os 8 || os 9 || os 10) = true := by simp only [o1, o2, o3, o4, o5, o6, o7, o8, o9, Bool.true_or, Bool.or_true, Bool.false_or]
    rw [g]
    exact ⟨(decide_eq_true (by omega)).symm, fun h => by cases h⟩
  rcases A10 with ⟨o10, r10, s10⟩ | ⟨o10, s10⟩
  case inr =>
    have g : (os 1 || os 2 || os 3 || os 4 || os 5 || os 6 || os 7 || os 8 || os 9 || os 10) = true := by simp only [o1, o2, o3, o4, o5, o6, o7, o8, o9, o10, Bool.true_or, Bool.or_true, Bool.false_or]
    rw [g]
    exact ⟨(decide_eq_true (by omega)).symm, fun h => by cases h⟩
  have g : (os 1 || os 2 || os 3 || os 4 || os 5 || os 6 || os 7 || os 8 || os 9 || os 10) = false := by simp only [o1, o2, o3, o4, o5, o6, o7, o8, o9, o10, Bool.or_self]
  rw [g]
  refine ⟨(decide_eq_false (by omega)).symm, fun _ => ?_⟩
  omega
def prsR (s : ByteArray) : Nat → Nat → Int → Int → Bool → Option (Int × Int × Bool)
  | 0, _, h, l, o => some (h, l, o)
  | k + 1, i, h, l, o => if (chAt s i : Int) < 48 ∨ 57 < (chAt s i : Int) then none else prsR s k (i + 1) (rK h l ((chAt s i : Int) - 48) 10).1 (rK h l ((chAt s i : Int) - 48) 10).2.1 (o || rkO fun k => (rK h l ((chAt s i : Int) - 48) k).2.2)
theorem prV_X (hs ls : Nat → Int) (os : Nat → Bool) (L : LFun) : XOkZ (prV hs ls os L) Try.prog := noXz_ok rfl
theorem prV_T (hs ls : Nat → Int) (os : Nat → Bool) (L : LFun) : TOkZ (prV hs ls os L) Try.prog := T_okV rfl (mkT_one (gAddK_ok ad_r_gok hs ls os))
set_option maxHeartbeats 4000000 in
theorem pr_good {inr : Bool} {h0 : Hp} {s : ByteArray} {n : Nat} (hn : n = s.data.toList.length) (h39 : n ≤ 39) {H L : Int} {O : Bool} : ∀ (k i : Nat) (h l : Int) (o : Bool), i + k = n → wf64 h → wf64 l → prsR s k i h l o = some (H, L, O) →
    LRuns inr Try.prog (prB Try.prog) 3 20 h0 82 (prS s i o) (prH h l) 3 (.exit 0, [(2, .pointer (some ⟨1, 0, none⟩)), (4, .pointer (some ⟨2, 0, none⟩)), (5, .bool O)], [(2, hlR H L), (1, hlR 0 0)])
  | 0, i, h, l, o, hk, w1, w2, hp => by
      simp only [prsR, Option.some.injEq, Prod.mk.injEq] at hp
      obtain ⟨rfl, rfl, rfl⟩ := hp
      have ht : decide ((i : Int) < (s.data.toList.length : Int)) = false := by simp only [decide_eq_false_iff_not]; omega
      have hs : Nat → Int := fun _ => 0
      have ls : Nat → Int := fun _ => 0
      have os : Nat → Bool := fun _ => false
      cases o
      · exact LRuns.exit (code_runs (prV_X _ _ _ noL) (noL_okV rfl) (runZ_ok (prV_X _ _ _ noL) (prV_T _ _ _ noL) (noL_okV rfl) mixed 5) mixed (pr_dno inr s hs ls os i h l) ⟨ht, trivial⟩) (by intro e; cases e) rfl (by omega) (by omega) (fun n => n) ⟨rfl, rb_ptr rfl, rfl, rb_ptr rfl, rfl, rfl, trivial⟩ ⟨rb_row (m := 2) rfl rfl rfl rfl (Fl.of rfl), rb_row (m := 1) rfl rfl rfl rfl (Fl.of rfl), trivial⟩ rfl
      · exact LRuns.exit (code_runs (prV_X _ _ _ noL) (noL_okV rfl) (runZ_ok (prV_X _ _ _ noL) (prV_T _ _ _ noL) (noL_okV rfl) mixed 5) mixed (pr_don inr s hs ls os i h l) ⟨ht, trivial⟩) (by intro e; cases e) rfl (by omega) (by omega) (fun n => n) ⟨rfl, rb_ptr rfl, rfl, rb_ptr rfl, rfl, rfl, trivial⟩ ⟨rb_row (m := 2) rfl rfl rfl rfl (Fl.of rfl), rb_row (m := 1) rfl rfl rfl rfl (Fl.of rfl), trivial⟩ rfl
  | k + 1, i, h, l, o, hk, w1, w2, hp => by
      have e3 : chAt s i < 256 := (bsOf_at (s := s) (i := i) (by omega)).2.2
      have hi : 0 ≤ (i : Int) ∧ i < s.data.toList.length := by omega
      by_cases hd : (chAt s i : Int) < 48 ∨ 57 < (chAt s i : Int)
      · rw [prsR, if_pos hd] at hp; cases hp
      rw [prsR, if_neg hd] at hp
      have hc : 0 ≤ (chAt s i : Int) - 48 ∧ (chAt s i : Int) - 48 < 10 := by omega
      have R := rkIs w1 w2 hc
      obtain ⟨hs, eh⟩ : ∃ f, f = fun k => (rK h l ((chAt s i : Int) - 48) k).1 := ⟨_, rfl⟩
      obtain ⟨ls, el⟩ : ∃ f, f = fun k => (rK h l ((chAt s i : Int) - 48) k).2.1 := ⟨_, rfl⟩
      obtain ⟨os, eo⟩ : ∃ f, f = fun k => (rK h l ((chAt s i : Int) - 48) k).2.2 := ⟨_, rfl⟩
      rw [← eh, ← el, ← eo] at R
      rw [← eo] at hp
      have eh10 : (rK h l ((chAt s i : Int) - 48) 10).1 = hs 10 := by rw [eh]
      have el10 : (rK h l ((chAt s i : Int) - 48) 10).2.1 = ls 10 := by rw [el]
      rw [eh10, el10] at hp
      clear eh el eo eh10 el10
      obtain ⟨a1, a2, a3, a4, a5, a6, a7, a8, a9, a10, v1, v2⟩ := R
      have nx := pr_good (inr := inr) (h0 := h0) hn h39 k (i + 1) _ _ _ (by omega) v1 v2 hp
      cases o with
      | true =>
        rw [Bool.true_or] at nx
        refine LRuns.step (code_runs (prV_X _ _ _ noL) (noL_okV rfl) (runZ_ok (prV_X _ _ _ noL) (prV_T _ _ _ noL) (noL_okV rfl) mixed 5) mixed (pr_on inr s hs ls os i h l) ?_) rfl (by omega) (by omega) (fun n => n) ?_ ?_ rfl nx
        ·
          repeat' (first | exact alls_nil | refine alls_cons ?_ ?_)
          all_goals first | with_reducible assumption | with_reducible rfl | omega | (simp only [decide_eq_true_eq, decide_eq_false_iff_not]; omega) | (simp only [rg]; omega)
        · exact ⟨rfl, rfl, rfl, rb_ptr rfl, rfl, rb_ptr rfl, rfl, rfl, rfl, rfl, trivial⟩
        · exact ⟨rb_row (m := 2) rfl rfl rfl rfl (Fl.of rfl), rb_row (m := 1) rfl rfl rfl rfl (Fl.of rfl), trivial⟩
      | false =>
        rw [Bool.false_or] at nx
        unfold rkO at nx
        cases o1 : os 1 with
        | true =>
          simp only [o1, Bool.false_or, Bool.true_or] at nx
          refine LRuns.step (code_runs (prV_X _ _ _ noL) (noL_okV rfl) (runZ_ok (prV_X _ _ _ noL) (prV_T _ _ _ noL) (noL_okV rfl) mixed 5) mixed (pr_j1 inr s hs ls os i h l) ?_) rfl (by omega) (by omega) (fun n => n) ?_ ?_ rfl nx
          ·
            repeat' (first | exact alls_nil | refine alls_cons ?_ ?_)
            all_goals first | with_reducible assumption | with_reducible rfl | omega | (simp only [decide_eq_true_eq, decide_eq_false_iff_not]; omega) | (simp only [rg]; omega)
          · exact ⟨rfl, rfl, rfl, rb_ptr rfl, rfl, rb_ptr rfl, rfl, rfl, rfl, rfl, trivial⟩
          · exact ⟨rb_row (m := 2) rfl rfl rfl rfl (Fl.of rfl), rb_row (m := 1) rfl rfl rfl rfl (Fl.of rfl), trivial⟩
        | false =>
          cases o2 : os 2 with
          | true =>
            simp only [o1, o2, Bool.false_or, Bool.true_or] at nx
            refine LRuns.step (code_runs (prV_X _ _ _ noL) (noL_okV rfl) (runZ_ok (prV_X _ _ _ noL) (prV_T _ _ _ noL) (noL_okV rfl) mixed 5) mixed (pr_j2 inr s hs ls os i h l) ?_) rfl (by omega) (by omega) (fun n => n) ?_ ?_ rfl nx
            ·
              repeat' (first | exact alls_nil | refine alls_cons ?_ ?_)
              all_goals first | with_reducible assumption | with_reducible rfl | omega | (simp only [decide_eq_true_eq, decide_eq_false_iff_not]; omega) | (simp only [rg]; omega)
            · exact ⟨rfl, rfl, rfl, rb_ptr rfl, rfl, rb_ptr rfl, rfl, rfl, rfl, rfl, trivial⟩
            · exact ⟨rb_row (m := 2) rfl rfl rfl rfl (Fl.of rfl), rb_row (m := 1) rfl rfl rfl rfl (Fl.of rfl), trivial⟩
          | false =>
            cases o3 : os 3 with
            | true =>
              simp only [o1, o2, o3, Bool.false_or, Bool.true_or] at nx
              refine LRuns.step (code_runs (prV_X _ _ _ noL) (noL_okV rfl) (runZ_ok (prV_X _ _ _ noL) (prV_T _ _ _ noL) (noL_okV rfl) mixed 5) mixed (pr_j3 inr s hs ls os i h l) ?_) rfl (by omega) (by omega) (fun n => n) ?_ ?_ rfl nx
              ·
                repeat' (first | exact alls_nil | refine alls_cons ?_ ?_)
                all_goals first | with_reducible assumption | with_reducible rfl | omega | (simp only [decide_eq_true_eq, decide_eq_false_iff_not]; omega) | (simp only [rg]; omega)
              · exact ⟨rfl, rfl, rfl, rb_ptr rfl, rfl, rb_ptr rfl, rfl, rfl, rfl, rfl, trivial⟩
              · exact ⟨rb_row (m := 2) rfl rfl rfl rfl (Fl.of rfl), rb_row (m := 1) rfl rfl rfl rfl (Fl.of rfl), trivial⟩
            | false =>
              cases o4 : os 4 with
              | true =>
                simp only [o1, o2, o3, o4, Bool.false_or, Bool.true_or] at nx
                refine LRuns.step (code_runs (prV_X _ _ _ noL) (noL_okV rfl) (runZ_ok (prV_X _ _ _ noL) (prV_T _ _ _ noL) (noL_okV rfl) mixed 5) mixed (pr_j4 inr s hs ls os i h l) ?_) rfl (by omega) (by omega) (fun n => n) ?_ ?_ rfl nx
                ·
                  repeat' (first | exact alls_nil | refine alls_cons ?_ ?_)
                  all_goals first | with_reducible assumption | with_reducible rfl | omega | (simp only [decide_eq_true_eq, decide_eq_false_iff_not]; omega) | (simp only [rg]; omega)
                · exact ⟨rfl, rfl, rfl, rb_ptr rfl, rfl, rb_ptr rfl, rfl, rfl, rfl, rfl, trivial⟩
                · exact ⟨rb_row (m := 2) rfl rfl rfl rfl (Fl.of rfl), rb_row (m := 1) rfl rfl rfl rfl (Fl.of rfl), trivial⟩
              | false =>
                cases o5 : os 5 with
                | true =>
                  simp only [o1, o2, o3, o4, o5, Bool.false_or, Bool.true_or] at nx
                  refine LRuns.step (code_runs (prV_X _ _ _ noL) (noL_okV rfl) (runZ_ok (prV_X _ _ _ noL) (prV_T _ _ _ noL) (noL_okV rfl) mixed 5) mixed (pr_j5 inr s hs ls os i h l) ?_) rfl (by omega) (by omega) (fun n => n) ?_ ?_ rfl nx
                  ·
                    repeat' (first | exact alls_nil | refine alls_cons ?_ ?_)
                    all_goals first | with_reducible assumption | with_reducible rfl | omega | (simp only [decide_eq_true_eq, decide_eq_false_iff_not]; omega) | (simp only [rg]; omega)
                  · exact ⟨rfl, rfl, rfl, rb_ptr rfl, rfl, rb_ptr rfl, rfl, rfl, rfl, rfl, trivial⟩
                  · exact ⟨rb_row (m := 2) rfl rfl rfl rfl (Fl.of rfl), rb_row (m := 1) rfl rfl rfl rfl (Fl.of rfl), trivial⟩
                | false =>
                  cases o6 : os 6 with
                  | true =>
                    simp only [o1, o2, o3, o4, o5, o6, Bool.false_or, Bool.true_or] at nx
                    refine LRuns.step (code_runs (prV_X _ _ _ noL) (noL_okV rfl) (runZ_ok (prV_X _ _ _ noL) (prV_T _ _ _ noL) (noL_okV rfl) mixed 5) mixed (pr_j6 inr s hs ls os i h l) ?_) rfl (by omega) (by omega) (fun n => n) ?_ ?_ rfl nx
                    ·
                      repeat' (first | exact alls_nil | refine alls_cons ?_ ?_)
                      all_goals first | with_reducible assumption | with_reducible rfl | omega | (simp only [decide_eq_true_eq, decide_eq_false_iff_not]; omega) | (simp only [rg]; omega)
                    · exact ⟨rfl, rfl, rfl, rb_ptr rfl, rfl, rb_ptr rfl, rfl, rfl, rfl, rfl, trivial⟩
                    · exact ⟨rb_row (m := 2) rfl rfl rfl rfl (Fl.of rfl), rb_row (m := 1) rfl rfl rfl rfl (Fl.of rfl), trivial⟩
                  | false =>
                    cases o7 : os 7 with
                    | true =>
                      simp only [o1, o2, o3, o4, o5, o6, o7, Bool.false_or, Bool.true_or] at nx
                      refine LRuns.step (code_runs (prV_X _ _ _ noL) (noL_okV rfl) (runZ_ok (prV_X _ _ _ noL) (prV_T _ _ _ noL) (noL_okV rfl) mixed 5) mixed (pr_j7 inr s hs ls os i h l) ?_) rfl (by omega) (by omega) (fun n => n) ?_ ?_ rfl nx
                      ·
                        repeat' (first | exact alls_nil | refine alls_cons ?_ ?_)
                        all_goals first | with_reducible assumption | with_reducible rfl | omega | (simp only [decide_eq_true_eq, decide_eq_false_iff_not]; omega) | (simp only [rg]; omega)
                      · exact ⟨rfl, rfl, rfl, rb_ptr rfl, rfl, rb_ptr rfl, rfl, rfl, rfl, rfl, trivial⟩
                      · exact ⟨rb_row (m := 2) rfl rfl rfl rfl (Fl.of rfl), rb_row (m := 1) rfl rfl rfl rfl (Fl.of rfl), trivial⟩
                    | false =>
                      cases o8 : os 8 with
                      | true =>
                        simp only [o1, o2, o3, o4, o5, o6, o7, o8, Bool.false_or, Bool.true_or] at nx
                        refine LRuns.step (code_runs (prV_X _ _ _ noL) (noL_okV rfl) (runZ_ok (prV_X _ _ _ noL) (prV_T _ _ _ noL) (noL_okV rfl) mixed 5) mixed (pr_j8 inr s hs ls os i h l) ?_) rfl (by omega) (by omega) (fun n => n) ?_ ?_ rfl nx
                        ·
                          repeat' (first | exact alls_nil | refine alls_cons ?_ ?_)
                          all_goals first | with_reducible assumption | with_reducible rfl | omega | (simp only [decide_eq_true_eq, decide_eq_false_iff_not]; omega) | (simp only [rg]; omega)
                        · exact ⟨rfl, rfl, rfl, rb_ptr rfl, rfl, rb_ptr rfl, rfl, rfl, rfl, rfl, trivial⟩
                        · exact ⟨rb_row (m := 2) rfl rfl rfl rfl (Fl.of rfl), rb_row (m := 1) rfl rfl rfl rfl (Fl.of rfl), trivial⟩
                      | false =>
                        cases o9 : os 9 with
                        | true =>
                          simp only [o1, o2, o3, o4, o5, o6, o7, o8, o9, Bool.false_or, Bool.true_or] at nx
                          refine LRuns.step (code_runs (prV_X _ _ _ noL) (noL_okV rfl) (runZ_ok (prV_X _ _ _ noL) (prV_T _ _ _ noL) (noL_okV rfl) mixed 5) mixed (pr_j9 inr s hs ls os i h l) ?_) rfl (by omega) (by omega) (fun n => n) ?_ ?_ rfl nx
                          ·
                            repeat' (first | exact alls_nil | refine alls_cons ?_ ?_)
                            all_goals first | with_reducible assumption | with_reducible rfl | omega | (simp only [decide_eq_true_eq, decide_eq_false_iff_not]; omega) | (simp only [rg]; omega)
                          · exact ⟨rfl, rfl, rfl, rb_ptr rfl, rfl, rb_ptr rfl, rfl, rfl, rfl, rfl, trivial⟩
                          · exact ⟨rb_row (m := 2) rfl rfl rfl rfl (Fl.of rfl), rb_row (m := 1) rfl rfl rfl rfl (Fl.of rfl), trivial⟩
                        | false =>
                          cases o10 : os 10 with
                          | true =>
                            simp only [o1, o2, o3, o4, o5, o6, o7, o8, o9, o10, Bool.false_or, Bool.true_or] at nx
                            refine LRuns.step (code_runs (prV_X _ _ _ noL) (noL_okV rfl) (runZ_ok (prV_X _ _ _ noL) (prV_T _ _ _ noL) (noL_okV rfl) mixed 5) mixed (pr_j10 inr s hs ls os i h l) ?_) rfl (by omega) (by omega) (fun n => n) ?_ ?_ rfl nx
                            ·
                              repeat' (first | exact alls_nil | refine alls_cons ?_ ?_)
                              all_goals first | with_reducible assumption | with_reducible rfl | omega | (simp only [decide_eq_true_eq, decide_eq_false_iff_not]; omega) | (simp only [rg]; omega)
                            · exact ⟨rfl, rfl, rfl, rb_ptr rfl, rfl, rb_ptr rfl, rfl, rfl, rfl, rfl, trivial⟩
                            · exact ⟨rb_row (m := 2) rfl rfl rfl rfl (Fl.of rfl), rb_row (m := 1) rfl rfl rfl rfl (Fl.of rfl), trivial⟩
                          | false =>
                            simp only [o1, o2, o3, o4, o5, o6, o7, o8, o9, o10, Bool.or_self] at nx
                            refine LRuns.step (code_runs (prV_X _ _ _ noL) (noL_okV rfl) (runZ_ok (prV_X _ _ _ noL) (prV_T _ _ _ noL) (noL_okV rfl) mixed 5) mixed (pr_j0 inr s hs ls os i h l) ?_) rfl (by omega) (by omega) (fun n => n) ?_ ?_ rfl nx
                            ·
                              repeat' (first | exact alls_nil | refine alls_cons ?_ ?_)
                              all_goals first | with_reducible assumption | with_reducible rfl | omega | (simp only [decide_eq_true_eq, decide_eq_false_iff_not]; omega) | (simp only [rg]; omega)
                            · exact ⟨rfl, rfl, rfl, rb_ptr rfl, rfl, rb_ptr rfl, rfl, rfl, rfl, rfl, trivial⟩
                            · exact ⟨rb_row (m := 2) rfl rfl rfl rfl (Fl.of rfl), rb_row (m := 1) rfl rfl rfl rfl (Fl.of rfl), trivial⟩
set_option maxHeartbeats 4000000 in
theorem pr_bad {inr : Bool} {h0 : Hp} {s : ByteArray} {n : Nat} (hn : n = s.data.toList.length) (h39 : n ≤ 39) : ∀ (k i : Nat) (h l : Int) (o : Bool), i + k = n → wf64 h → wf64 l → prsR s k i h l o = none →
    LRuns inr Try.prog (prB Try.prog) 3 20 h0 82 (prS s i o) (prH h l) 3 (.ret, [(2, .pointer (some ⟨1, 0, none⟩)), (3, .int .i64 4)], [(1, hlR 0 0)])
  | 0, i, h, l, o, hk, w1, w2, hp => by simp only [prsR] at hp; cases hp
  | k + 1, i, h, l, o, hk, w1, w2, hp => by
      have e3 : chAt s i < 256 := (bsOf_at (s := s) (i := i) (by omega)).2.2
      have hi : 0 ≤ (i : Int) ∧ i < s.data.toList.length := by omega
      by_cases hd : (chAt s i : Int) < 48 ∨ 57 < (chAt s i : Int)
      · have hs : Nat → Int := fun _ => 0
        have ls : Nat → Int := fun _ => 0
        have os : Nat → Bool := fun _ => false
        by_cases h48 : (chAt s i : Int) < 48
        · cases o
          · refine LRuns.exit (code_runs (prV_X _ _ _ noL) (noL_okV rfl) (runZ_ok (prV_X _ _ _ noL) (prV_T _ _ _ noL) (noL_okV rfl) mixed 5) mixed (pr_lo inr s hs ls os i h l) ?_) (by intro e; cases e) rfl (by omega) (by omega) (fun n => n) ⟨rfl, rb_ptr rfl, rfl, rfl, trivial⟩ ⟨rb_row (m := 1) rfl rfl rfl rfl (Fl.of rfl), trivial⟩ rfl
            repeat' (first | exact alls_nil | refine alls_cons ?_ ?_)
            all_goals first | with_reducible assumption | with_reducible rfl | omega | (simp only [decide_eq_true_eq, decide_eq_false_iff_not]; omega) | (simp only [rg]; omega)
          · refine LRuns.exit (code_runs (prV_X _ _ _ noL) (noL_okV rfl) (runZ_ok (prV_X _ _ _ noL) (prV_T _ _ _ noL) (noL_okV rfl) mixed 5) mixed (pr_olo inr s hs ls os i h l) ?_) (by intro e; cases e) rfl (by omega) (by omega) (fun n => n) ⟨rfl, rb_ptr rfl, rfl, rfl, trivial⟩ ⟨rb_row (m := 1) rfl rfl rfl rfl (Fl.of rfl), trivial⟩ rfl
            repeat' (first | exact alls_nil | refine alls_cons ?_ ?_)
            all_goals first | with_reducible assumption | with_reducible rfl | omega | (simp only [decide_eq_true_eq, decide_eq_false_iff_not]; omega) | (simp only [rg]; omega)
        · have h57 : 57 < (chAt s i : Int) := by omega
          cases o
          · refine LRuns.exit (code_runs (prV_X _ _ _ noL) (noL_okV rfl) (runZ_ok (prV_X _ _ _ noL) (prV_T _ _ _ noL) (noL_okV rfl) mixed 5) mixed (pr_hi inr s hs ls os i h l) ?_) (by intro e; cases e) rfl (by omega) (by omega) (fun n => n) ⟨rfl, rb_ptr rfl, rfl, rfl, trivial⟩ ⟨rb_row (m := 1) rfl rfl rfl rfl (Fl.of rfl), trivial⟩ rfl
            repeat' (first | exact alls_nil | refine alls_cons ?_ ?_)
            all_goals first | with_reducible assumption | with_reducible rfl | omega | (simp only [decide_eq_true_eq, decide_eq_false_iff_not]; omega) | (simp only [rg]; omega)
          · refine LRuns.exit (code_runs (prV_X _ _ _ noL) (noL_okV rfl) (runZ_ok (prV_X _ _ _ noL) (prV_T _ _ _ noL) (noL_okV rfl) mixed 5) mixed (pr_ohi inr s hs ls os i h l) ?_) (by intro e; cases e) rfl (by omega) (by omega) (fun n => n) ⟨rfl, rb_ptr rfl, rfl, rfl, trivial⟩ ⟨rb_row (m := 1) rfl rfl rfl rfl (Fl.of rfl), trivial⟩ rfl
            repeat' (first | exact alls_nil | refine alls_cons ?_ ?_)
            all_goals first | with_reducible assumption | with_reducible rfl | omega | (simp only [decide_eq_true_eq, decide_eq_false_iff_not]; omega) | (simp only [rg]; omega)
      rw [prsR, if_neg hd] at hp
      have hc : 0 ≤ (chAt s i : Int) - 48 ∧ (chAt s i : Int) - 48 < 10 := by omega
      have R := rkIs w1 w2 hc
      obtain ⟨hs, eh⟩ : ∃ f, f = fun k => (rK h l ((chAt s i : Int) - 48) k).1 := ⟨_, rfl⟩
      obtain ⟨ls, el⟩ : ∃ f, f = fun k => (rK h l ((chAt s i : Int) - 48) k).2.1 := ⟨_, rfl⟩
      obtain ⟨os, eo⟩ : ∃ f, f = fun k => (rK h l ((chAt s i : Int) - 48) k).2.2 := ⟨_, rfl⟩
      rw [← eh, ← el, ← eo] at R
      rw [← eo] at hp
      have eh10 : (rK h l ((chAt s i : Int) - 48) 10).1 = hs 10 := by rw [eh]
      have el10 : (rK h l ((chAt s i : Int) - 48) 10).2.1 = ls 10 := by rw [el]
      rw [eh10, el10] at hp
      clear eh el eo eh10 el10
      obtain ⟨a1, a2, a3, a4, a5, a6, a7, a8, a9, a10, v1, v2⟩ := R
      have nx := pr_bad (inr := inr) (h0 := h0) hn h39 k (i + 1) _ _ _ (by omega) v1 v2 hp
      cases o with
      | true =>
        rw [Bool.true_or] at nx
        refine LRuns.step (code_runs (prV_X _ _ _ noL) (noL_okV rfl) (runZ_ok (prV_X _ _ _ noL) (prV_T _ _ _ noL) (noL_okV rfl) mixed 5) mixed (pr_on inr s hs ls os i h l) ?_) rfl (by omega) (by omega) (fun n => n) ?_ ?_ rfl nx
        ·
          repeat' (first | exact alls_nil | refine alls_cons ?_ ?_)
          all_goals first | with_reducible assumption | with_reducible rfl | omega | (simp only [decide_eq_true_eq, decide_eq_false_iff_not]; omega) | (simp only [rg]; omega)
        · exact ⟨rfl, rfl, rfl, rb_ptr rfl, rfl, rb_ptr rfl, rfl, rfl, rfl, rfl, trivial⟩
        · exact ⟨rb_row (m := 2) rfl rfl rfl rfl (Fl.of rfl), rb_row (m := 1) rfl rfl rfl rfl (Fl.of rfl), trivial⟩
      | false =>
        rw [Bool.false_or] at nx
        unfold rkO at nx
        cases o1 : os 1 with
        | true =>
          simp only [o1, Bool.false_or, Bool.true_or] at nx
          refine LRuns.step (code_runs (prV_X _ _ _ noL) (noL_okV rfl) (runZ_ok (prV_X _ _ _ noL) (prV_T _ _ _ noL) (noL_okV rfl) mixed 5) mixed (pr_j1 inr s hs ls os i h l) ?_) rfl (by omega) (by omega) (fun n => n) ?_ ?_ rfl nx
          ·
            repeat' (first | exact alls_nil | refine alls_cons ?_ ?_)
            all_goals first | with_reducible assumption | with_reducible rfl | omega | (simp only [decide_eq_true_eq, decide_eq_false_iff_not]; omega) | (simp only [rg]; omega)
          · exact ⟨rfl, rfl, rfl, rb_ptr rfl, rfl, rb_ptr rfl, rfl, rfl, rfl, rfl, trivial⟩
          · exact ⟨rb_row (m := 2) rfl rfl rfl rfl (Fl.of rfl), rb_row (m := 1) rfl rfl rfl rfl (Fl.of rfl), trivial⟩
        | false =>
          cases o2 : os 2 with
          | true =>
            simp only [o1, o2, Bool.false_or, Bool.true_or] at nx
            refine LRuns.step (code_runs (prV_X _ _ _ noL) (noL_okV rfl) (runZ_ok (prV_X _ _ _ noL) (prV_T _ _ _ noL) (noL_okV rfl) mixed 5) mixed (pr_j2 inr s hs ls os i h l) ?_) rfl (by omega) (by omega) (fun n => n) ?_ ?_ rfl nx
            ·
              repeat' (first | exact alls_nil | refine alls_cons ?_ ?_)
              all_goals first | with_reducible assumption | with_reducible rfl | omega | (simp only [decide_eq_true_eq, decide_eq_false_iff_not]; omega) | (simp only [rg]; omega)
            · exact ⟨rfl, rfl, rfl, rb_ptr rfl, rfl, rb_ptr rfl, rfl, rfl, rfl, rfl, trivial⟩
            · exact ⟨rb_row (m := 2) rfl rfl rfl rfl (Fl.of rfl), rb_row (m := 1) rfl rfl rfl rfl (Fl.of rfl), trivial⟩
          | false =>
            cases o3 : os 3 with
            | true =>
              simp only [o1, o2, o3, Bool.false_or, Bool.true_or] at nx
              refine LRuns.step (code_runs (prV_X _ _ _ noL) (noL_okV rfl) (runZ_ok (prV_X _ _ _ noL) (prV_T _ _ _ noL) (noL_okV rfl) mixed 5) mixed (pr_j3 inr s hs ls os i h l) ?_) rfl (by omega) (by omega) (fun n => n) ?_ ?_ rfl nx
              ·
                repeat' (first | exact alls_nil | refine alls_cons ?_ ?_)
                all_goals first | with_reducible assumption | with_reducible rfl | omega | (simp only [decide_eq_true_eq, decide_eq_false_iff_not]; omega) | (simp only [rg]; omega)
              · exact ⟨rfl, rfl, rfl, rb_ptr rfl, rfl, rb_ptr rfl, rfl, rfl, rfl, rfl, trivial⟩
              · exact ⟨rb_row (m := 2) rfl rfl rfl rfl (Fl.of rfl), rb_row (m := 1) rfl rfl rfl rfl (Fl.of rfl), trivial⟩
            | false =>
              cases o4 : os 4 with
              | true =>
                simp only [o1, o2, o3, o4, Bool.false_or, Bool.true_or] at nx
                refine LRuns.step (code_runs (prV_X _ _ _ noL) (noL_okV rfl) (runZ_ok (prV_X _ _ _ noL) (prV_T _ _ _ noL) (noL_okV rfl) mixed 5) mixed (pr_j4 inr s hs ls os i h l) ?_) rfl (by omega) (by omega) (fun n => n) ?_ ?_ rfl nx
                ·
                  repeat' (first | exact alls_nil | refine alls_cons ?_ ?_)
                  all_goals first | with_reducible assumption | with_reducible rfl | omega | (simp only [decide_eq_true_eq, decide_eq_false_iff_not]; omega) | (simp only [rg]; omega)
                · exact ⟨rfl, rfl, rfl, rb_ptr rfl, rfl, rb_ptr rfl, rfl, rfl, rfl, rfl, trivial⟩
                · exact ⟨rb_row (m := 2) rfl rfl rfl rfl (Fl.of rfl), rb_row (m := 1) rfl rfl rfl rfl (Fl.of rfl), trivial⟩
              | false =>
                cases o5 : os 5 with
                | true =>
                  simp only [o1, o2, o3, o4, o5, Bool.false_or, Bool.true_or] at nx
                  refine LRuns.step (code_runs (prV_X _ _ _ noL) (noL_okV rfl) (runZ_ok (prV_X _ _ _ noL) (prV_T _ _ _ noL) (noL_okV rfl) mixed 5) mixed (pr_j5 inr s hs ls os i h l) ?_) rfl (by omega) (by omega) (fun n => n) ?_ ?_ rfl nx
                  ·
                    repeat' (first | exact alls_nil | refine alls_cons ?_ ?_)
                    all_goals first | with_reducible assumption | with_reducible rfl | omega | (simp only [decide_eq_true_eq, decide_eq_false_iff_not]; omega) | (simp only [rg]; omega)
                  · exact ⟨rfl, rfl, rfl, rb_ptr rfl, rfl, rb_ptr rfl, rfl, rfl, rfl, rfl, trivial⟩
                  · exact ⟨rb_row (m := 2) rfl rfl rfl rfl (Fl.of rfl), rb_row (m := 1) rfl rfl rfl rfl (Fl.of rfl), trivial⟩
                | false =>
                  cases o6 : os 6 with
                  | true =>
                    simp only [o1, o2, o3, o4, o5, o6, Bool.false_or, Bool.true_or] at nx
                    refine LRuns.step (code_runs (prV_X _ _ _ noL) (noL_okV rfl) (runZ_ok (prV_X _ _ _ noL) (prV_T _ _ _ noL) (noL_okV rfl) mixed 5) mixed (pr_j6 inr s hs ls os i h l) ?_) rfl (by omega) (by omega) (fun n => n) ?_ ?_ rfl nx
                    ·
                      repeat' (first | exact alls_nil | refine alls_cons ?_ ?_)
                      all_goals first | with_reducible assumption | with_reducible rfl | omega | (simp only [decide_eq_true_eq, decide_eq_false_iff_not]; omega) | (simp only [rg]; omega)
                    · exact ⟨rfl, rfl, rfl, rb_ptr rfl, rfl, rb_ptr rfl, rfl, rfl, rfl, rfl, trivial⟩
                    · exact ⟨rb_row (m := 2) rfl rfl rfl rfl (Fl.of rfl), rb_row (m := 1) rfl rfl rfl rfl (Fl.of rfl), trivial⟩
                  | false =>
                    cases o7 : os 7 with
                    | true =>
                      simp only [o1, o2, o3, o4, o5, o6, o7, Bool.false_or, Bool.true_or] at nx
                      refine LRuns.step (code_runs (prV_X _ _ _ noL) (noL_okV rfl) (runZ_ok (prV_X _ _ _ noL) (prV_T _ _ _ noL) (noL_okV rfl) mixed 5) mixed (pr_j7 inr s hs ls os i h l) ?_) rfl (by omega) (by omega) (fun n => n) ?_ ?_ rfl nx
                      ·
                        repeat' (first | exact alls_nil | refine alls_cons ?_ ?_)
                        all_goals first | with_reducible assumption | with_reducible rfl | omega | (simp only [decide_eq_true_eq, decide_eq_false_iff_not]; omega) | (simp only [rg]; omega)
                      · exact ⟨rfl, rfl, rfl, rb_ptr rfl, rfl, rb_ptr rfl, rfl, rfl, rfl, rfl, trivial⟩
                      · exact ⟨rb_row (m := 2) rfl rfl rfl rfl (Fl.of rfl), rb_row (m := 1) rfl rfl rfl rfl (Fl.of rfl), trivial⟩
                    | false =>
                      cases o8 : os 8 with
                      | true =>
                        simp only [o1, o2, o3, o4, o5, o6, o7, o8, Bool.false_or, Bool.true_or] at nx
                        refine LRuns.step (code_runs (prV_X _ _ _ noL) (noL_okV rfl) (runZ_ok (prV_X _ _ _ noL) (prV_T _ _ _ noL) (noL_okV rfl) mixed 5) mixed (pr_j8 inr s hs ls os i h l) ?_) rfl (by omega) (by omega) (fun n => n) ?_ ?_ rfl nx
                        ·
                          repeat' (first | exact alls_nil | refine alls_cons ?_ ?_)
                          all_goals first | with_reducible assumption | with_reducible rfl | omega | (simp only [decide_eq_true_eq, decide_eq_false_iff_not]; omega) | (simp only [rg]; omega)
                        · exact ⟨rfl, rfl, rfl, rb_ptr rfl, rfl, rb_ptr rfl, rfl, rfl, rfl, rfl, trivial⟩
                        · exact ⟨rb_row (m := 2) rfl rfl rfl rfl (Fl.of rfl), rb_row (m := 1) rfl rfl rfl rfl (Fl.of rfl), trivial⟩
                      | false =>
                        cases o9 : os 9 with
                        | true =>
                          simp only [o1, o2, o3, o4, o5, o6, o7, o8, o9, Bool.false_or, Bool.true_or] at nx
                          refine LRuns.step (code_runs (prV_X _ _ _ noL) (noL_okV rfl) (runZ_ok (prV_X _ _ _ noL) (prV_T _ _ _ noL) (noL_okV rfl) mixed 5) mixed (pr_j9 inr s hs ls os i h l) ?_) rfl (by omega) (by omega) (fun n => n) ?_ ?_ rfl nx
                          ·
                            repeat' (first | exact alls_nil | refine alls_cons ?_ ?_)
                            all_goals first | with_reducible assumption | with_reducible rfl | omega | (simp only [decide_eq_true_eq, decide_eq_false_iff_not]; omega) | (simp only [rg]; omega)
                          · exact ⟨rfl, rfl, rfl, rb_ptr rfl, rfl, rb_ptr rfl, rfl, rfl, rfl, rfl, trivial⟩
                          · exact ⟨rb_row (m := 2) rfl rfl rfl rfl (Fl.of rfl), rb_row (m := 1) rfl rfl rfl rfl (Fl.of rfl), trivial⟩
                        | false =>
                          cases o10 : os 10 with
                          | true =>
                            simp only [o1, o2, o3, o4, o5, o6, o7, o8, o9, o10, Bool.false_or, Bool.true_or] at nx
                            refine LRuns.step (code_runs (prV_X _ _ _ noL) (noL_okV rfl) (runZ_ok (prV_X _ _ _ noL) (prV_T _ _ _ noL) (noL_okV rfl) mixed 5) mixed (pr_j10 inr s hs ls os i h l) ?_) rfl (by omega) (by omega) (fun n => n) ?_ ?_ rfl nx
                            ·
                              repeat' (first | exact alls_nil | refine alls_cons ?_ ?_)
                              all_goals first | with_reducible assumption | with_reducible rfl | omega | (simp only [decide_eq_true_eq, decide_eq_false_iff_not]; omega) | (simp only [rg]; omega)
                            · exact ⟨rfl, rfl, rfl, rb_ptr rfl, rfl, rb_ptr rfl, rfl, rfl, rfl, rfl, trivial⟩
                            · exact ⟨rb_row (m := 2) rfl rfl rfl rfl (Fl.of rfl), rb_row (m := 1) rfl rfl rfl rfl (Fl.of rfl), trivial⟩
                          | false =>
                            simp only [o1, o2, o3, o4, o5, o6, o7, o8, o9, o10, Bool.or_self] at nx
                            refine LRuns.step (code_runs (prV_X _ _ _ noL) (noL_okV rfl) (runZ_ok (prV_X _ _ _ noL) (prV_T _ _ _ noL) (noL_okV rfl) mixed 5) mixed (pr_j0 inr s hs ls os i h l) ?_) rfl (by omega) (by omega) (fun n => n) ?_ ?_ rfl nx
                            ·
                              repeat' (first | exact alls_nil | refine alls_cons ?_ ?_)
                              all_goals first | with_reducible assumption | with_reducible rfl | omega | (simp only [decide_eq_true_eq, decide_eq_false_iff_not]; omega) | (simp only [rg]; omega)
                            · exact ⟨rfl, rfl, rfl, rb_ptr rfl, rfl, rb_ptr rfl, rfl, rfl, rfl, rfl, trivial⟩
                            · exact ⟨rb_row (m := 2) rfl rfl rfl rfl (Fl.of rfl), rb_row (m := 1) rfl rfl rfl rfl (Fl.of rfl), trivial⟩
end Go.Proofs.Ytpiapipmhlpmjaa
