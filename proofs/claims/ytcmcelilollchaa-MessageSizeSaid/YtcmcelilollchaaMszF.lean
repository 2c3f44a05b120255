/-
  Chapter 23: message.Check by contract; the statement MessageSize, run at any message.
-/
import Derived.Test.YtcmcelilollchaaMszE
namespace Go.Proofs.Ytcmcelilollchaa
set_option linter.unusedSimpArgs false
set_option linter.unusedVariables false
set_option linter.unusedSectionVars false
open Go Go.RowKit

theorem ran_int {P : Program} {f : FuncId} {args : List Value} {h : Hp} {nx : Nat} {v w : Int} (H : ∃ h' nx' d, Tri P f args h nx (.int .i64 v, h', nx', d)) (e : v = w) : Ran P f args h nx ⟨fun _ => .int .i64 w, []⟩ := by
  subst e
  obtain ⟨h', nx', d, T⟩ := H
  exact ⟨_, _, _, _, fun n => n, T, GrIs.flat fun σ => rfl⟩
theorem check_sl {f : Nat → Int} {n c : Nat} {xs : List Value} (hb : Byts xs) (hl : xs.length = n) (hn : n ≤ 4096) (hc : n ≤ c ∧ c ≤ 9223372036854775807) : Ran Try.prog 18 [.agg ⟨hdF f ++ [.slice (some ⟨0, 0, none⟩) n c]⟩] [(0, ⟨.old, xs⟩)] 1 ⟨fun _ => .int .i64 (bif ckB f n xs then 0 else 2), []⟩ := by
  have hX : XOkZ (ckV (ck4L Try.prog)) Try.prog := noXz_ok rfl
  have hT : TOkZ (ckV (ck4L Try.prog)) Try.prog := T_okV rfl ckT_one
  have hL : LOkZ (ckV (ck4L Try.prog)) Try.prog := L_okV rfl (mkS_ok ck4_ok_)
  have hsa : SaOk Byts 1 4096 ⟨true, n, c, xs⟩ := ⟨hb, by simpa using hl, hc, hn, fun h => by cases h⟩
  cases e0 : okC (f 0)
  ·
    refine ran_int (run_val hX hT hL (ca_b0 f n c xs) ?_ rfl) ?_
    · repeat' (first | exact alls_nil | refine alls_cons ?_ ?_)
      all_goals first | with_reducible rfl | with_reducible assumption | omega | exact ⟨rfl, rfl, fun _ => rfl, hsa⟩ | exact ⟨rfl, rfl, fun h => (Bool.false_ne_true h).elim, hsa⟩ | assumption | rfl
    · first
        | (simp only [ckB, e0, Bool.false_and, Bool.and_false, Bool.true_and, cond_false, cond_true]; done)
        | (simp only [ckB, e0, Bool.false_and, Bool.and_false, Bool.true_and, cond_false, cond_true]; rfl)
  cases e1 : sameB f
  ·
    refine ran_int (run_val hX hT hL (ca_b1 f n c xs) ?_ rfl) ?_
    · repeat' (first | exact alls_nil | refine alls_cons ?_ ?_)
      all_goals first | with_reducible rfl | with_reducible assumption | omega | exact ⟨rfl, rfl, fun _ => rfl, hsa⟩ | exact ⟨rfl, rfl, fun h => (Bool.false_ne_true h).elim, hsa⟩ | assumption | rfl
    · first
        | (simp only [ckB, e0, e1, Bool.false_and, Bool.and_false, Bool.true_and, cond_false, cond_true]; done)
        | (simp only [ckB, e0, e1, Bool.false_and, Bool.and_false, Bool.true_and, cond_false, cond_true]; rfl)
  cases e2 : wB (f 1) 0 6
  ·
    refine ran_int (run_val hX hT hL (ca_b2 f n c xs) ?_ rfl) ?_
    · repeat' (first | exact alls_nil | refine alls_cons ?_ ?_)
      all_goals first | with_reducible rfl | with_reducible assumption | omega | exact ⟨rfl, rfl, fun _ => rfl, hsa⟩ | exact ⟨rfl, rfl, fun h => (Bool.false_ne_true h).elim, hsa⟩ | assumption | rfl
    · first
        | (simp only [ckB, e0, e1, e2, Bool.false_and, Bool.and_false, Bool.true_and, cond_false, cond_true]; done)
        | (simp only [ckB, e0, e1, e2, Bool.false_and, Bool.and_false, Bool.true_and, cond_false, cond_true]; rfl)
  cases e3 : (f 2 == (n : Int))
  ·
    refine ran_int (run_val hX hT hL (ca_b3 f n c xs) ?_ rfl) ?_
    · repeat' (first | exact alls_nil | refine alls_cons ?_ ?_)
      all_goals first | with_reducible rfl | with_reducible assumption | omega | exact ⟨rfl, rfl, fun _ => rfl, hsa⟩ | exact ⟨rfl, rfl, fun h => (Bool.false_ne_true h).elim, hsa⟩ | assumption | rfl
    · first
        | (simp only [ckB, e0, e1, e2, e3, Bool.false_and, Bool.and_false, Bool.true_and, cond_false, cond_true]; done)
        | (simp only [ckB, e0, e1, e2, e3, Bool.false_and, Bool.and_false, Bool.true_and, cond_false, cond_true]; rfl)
  ·
    refine ran_int (run_val hX hT hL (ca_b4 f n c xs) ?_ rfl) ?_
    · repeat' (first | exact alls_nil | refine alls_cons ?_ ?_)
      all_goals first | with_reducible rfl | with_reducible assumption | omega | exact ⟨rfl, rfl, fun _ => rfl, hsa⟩ | exact ⟨rfl, rfl, fun h => (Bool.false_ne_true h).elim, hsa⟩ | assumption | rfl
    · first
        | (simp only [ckB, e0, e1, e2, e3, Bool.false_and, Bool.and_false, Bool.true_and, cond_false, cond_true]; done)
        | (simp only [ckB, e0, e1, e2, e3, Bool.false_and, Bool.and_false, Bool.true_and, cond_false, cond_true]; rfl)
theorem check_nil {f : Nat → Int} : Ran Try.prog 18 [.agg ⟨hdF f ++ [.slice none 0 0]⟩] [] 1 ⟨fun _ => .int .i64 (bif ckB f 0 [] then 0 else 2), []⟩ := by
  have hX : XOkZ (ckV (ck4L Try.prog)) Try.prog := noXz_ok rfl
  have hT : TOkZ (ckV (ck4L Try.prog)) Try.prog := T_okV rfl ckT_one
  have hL : LOkZ (ckV (ck4L Try.prog)) Try.prog := L_okV rfl (mkS_ok ck4_ok_)
  have hsa : SaOk Byts 1 4096 ⟨false, 0, 0, []⟩ := SaOk.nil Byts.nil
  cases e0 : okC (f 0)
  ·
    refine ran_int (run_val hX hT hL (ca_n0 f) ?_ rfl) ?_
    · repeat' (first | exact alls_nil | refine alls_cons ?_ ?_)
      all_goals first | with_reducible rfl | with_reducible assumption | omega | exact ⟨rfl, rfl, fun _ => rfl, hsa⟩ | exact ⟨rfl, rfl, fun h => (Bool.false_ne_true h).elim, hsa⟩ | assumption | rfl
    · first
        | (simp only [ckB, e0, Bool.false_and, Bool.and_false, Bool.true_and, cond_false, cond_true]; done)
        | (simp only [ckB, e0, Bool.false_and, Bool.and_false, Bool.true_and, cond_false, cond_true]; rfl)
  cases e1 : sameB f
  ·
    refine ran_int (run_val hX hT hL (ca_n1 f) ?_ rfl) ?_
    · repeat' (first | exact alls_nil | refine alls_cons ?_ ?_)
      all_goals first | with_reducible rfl | with_reducible assumption | omega | exact ⟨rfl, rfl, fun _ => rfl, hsa⟩ | exact ⟨rfl, rfl, fun h => (Bool.false_ne_true h).elim, hsa⟩ | assumption | rfl
    · first
        | (simp only [ckB, e0, e1, Bool.false_and, Bool.and_false, Bool.true_and, cond_false, cond_true]; done)
        | (simp only [ckB, e0, e1, Bool.false_and, Bool.and_false, Bool.true_and, cond_false, cond_true]; rfl)
  cases e2 : wB (f 1) 0 6
  ·
    refine ran_int (run_val hX hT hL (ca_n2 f) ?_ rfl) ?_
    · repeat' (first | exact alls_nil | refine alls_cons ?_ ?_)
      all_goals first | with_reducible rfl | with_reducible assumption | omega | exact ⟨rfl, rfl, fun _ => rfl, hsa⟩ | exact ⟨rfl, rfl, fun h => (Bool.false_ne_true h).elim, hsa⟩ | assumption | rfl
    · first
        | (simp only [ckB, e0, e1, e2, Bool.false_and, Bool.and_false, Bool.true_and, cond_false, cond_true]; done)
        | (simp only [ckB, e0, e1, e2, Bool.false_and, Bool.and_false, Bool.true_and, cond_false, cond_true]; rfl)
  cases e3 : (f 2 == ((0 : Nat) : Int))
  ·
    refine ran_int (run_val hX hT hL (ca_n3 f) ?_ rfl) ?_
    · repeat' (first | exact alls_nil | refine alls_cons ?_ ?_)
      all_goals first | with_reducible rfl | with_reducible assumption | omega | exact ⟨rfl, rfl, fun _ => rfl, hsa⟩ | exact ⟨rfl, rfl, fun h => (Bool.false_ne_true h).elim, hsa⟩ | assumption | rfl
    · first
        | (simp only [ckB, e0, e1, e2, e3, Bool.false_and, Bool.and_false, Bool.true_and, cond_false, cond_true]; done)
        | (simp only [ckB, e0, e1, e2, e3, Bool.false_and, Bool.and_false, Bool.true_and, cond_false, cond_true]; rfl)
  ·
    refine ran_int (run_val hX hT hL (ca_n4 f) ?_ rfl) ?_
    · repeat' (first | exact alls_nil | refine alls_cons ?_ ?_)
      all_goals first | with_reducible rfl | with_reducible assumption | omega | exact ⟨rfl, rfl, fun _ => rfl, hsa⟩ | exact ⟨rfl, rfl, fun h => (Bool.false_ne_true h).elim, hsa⟩ | assumption | rfl
    · first
        | (simp only [ckB, e0, e1, e2, e3, Bool.false_and, Bool.and_false, Bool.true_and, cond_false, cond_true]; done)
        | (simp only [ckB, e0, e1, e2, e3, Bool.false_and, Bool.and_false, Bool.true_and, cond_false, cond_true]; rfl)
theorem check_gok : GOk Try.prog 18 [.a 1] gCk := by
  intro av tp gr tp' ob hG ho hP caps hcap
  obtain ⟨a, rfl, pa⟩ := avps1 hP
  obtain ⟨c, rfl⟩ := caps1 hcap
  unfold gCk at hG
  split at hG
  · rename_i pre xs n e
    simp only [List.cons.injEq, and_true] at e
    subst e
    simp only [Option.some.injEq, Prod.mk.injEq] at hG
    obtain ⟨rfl, rfl, rfl⟩ := hG
    obtain ⟨h1, h2, h3, _⟩ := ho
    generalize intAt pre = f at h1 ⊢
    subst h1
    exact check_sl h2 (by have := pa.2.2; omega) h3 hcap.1
  · rename_i cs e
    simp only [List.cons.injEq, and_true] at e
    subst e
    simp only [Option.some.injEq, Prod.mk.injEq] at hG
    obtain ⟨rfl, rfl, rfl⟩ := hG
    obtain ⟨h1, _⟩ := ho
    obtain ⟨l⟩ := cs
    simp only at h1 ⊢
    generalize intAt l = f at h1 ⊢
    subst h1
    exact check_nil
  · cases hG
theorem szT_one : TOneZ Try.prog szT := orTz_ok (mkT_one check_gok) entT_one
/-! ### plain facts -/
theorem ck_size {g : Nat → Int} {n : Nat} {xs : List Value} (h : (g 2 == (n : Int)) = false) : ckB g n xs = false := by
  simp only [ckB, h, Bool.false_and, Bool.and_false]
theorem ck_w {g : Nat → Int} {n : Nat} {xs : List Value} (h : (bf4 g).all id = false) : ckB g n xs = false := by
  simp only [ckB, restB, k21, h, Bool.false_and, Bool.and_false]
theorem ck_true {g : Nat → Int} {n : Nat} {xs : List Value} (h : ckB g n xs = true) : g 2 = (n : Int) ∧ (0 ≤ g 1 ∧ g 1 ≤ 6) ∧ 0 ≤ g 5 ∧ g 3 ≤ 1073741824 := by
  simp only [ckB, restB, k21, bf4, wB, List.all_cons, List.all_nil, id_eq, Bool.and_eq_true, decide_eq_true_eq, beq_iff_eq] at h
  omega
end Go.Proofs.Ytcmcelilollchaa
