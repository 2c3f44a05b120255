/-
  Chapter 02: the bytes of batches, the program's functions: contracts.
-/
import Derived.Test.YtgpgdkpfeoaidaaRecD
import Derived.Test.YtgpgdkpfeoaidaaKitT
namespace Go.Proofs.Ytgpgdkpfeoaidaa
set_option linter.unusedSimpArgs false
set_option linter.unusedVariables false
set_option linter.unusedSectionVars false
open Go Go.RowKit

theorem recX_len {R : R19} (hR : R = rcdB) (xs : List Value) (i : Nat) : (recX R xs i).length = 128 := by
  subst hR
  unfold recX
  exact rcdB_len _ _ _ _ _ _ _ _ _ _ _ _ _ _ _ _ _ _ _
theorem recX_Byts {R : R19} (hR : R = rcdB) (xs : List Value) (i : Nat) : Byts (recX R xs i) := by
  subst hR
  unfold recX
  exact rcdB_Byts _ _ _ _ _ _ _ _ _ _ _ _ _ _ _ _ _ _ _
theorem recL_len {R : R19} (hR : R = rcdB) (xs : List Value) : ∀ k i, (recL R xs i k).length = k * 128
  | 0, i => rfl
  | k + 1, i => by simp only [recL, List.length_append, recX_len hR, recL_len hR xs k]; omega
theorem recL_Byts {R : R19} (hR : R = rcdB) (xs : List Value) : ∀ k i, Byts (recL R xs i k)
  | 0, i => Byts.nil
  | k + 1, i => (recX_Byts hR xs i).app (recL_Byts hR xs k (i + 1))
theorem z8_Byts (m : Nat) : Byts (z8 m) := by
  have : z8 m = (List.replicate m (0 : Int)).map (Value.int .u8) := by unfold z8; rw [List.map_replicate]
  rw [this]
  refine Byts.of fun n hn => ?_
  rw [List.eq_of_mem_replicate hn]; omega
theorem z8_step {A B : List Value} {L k : Nat} (hA : A.length = L) (hB : B.length = 128) : splice (A ++ z8 ((k + 1) * 128)) L B = (A ++ B) ++ z8 (k * 128) := by
  unfold z8
  rw [splice_at hA (by rw [List.length_replicate]; omega), List.drop_replicate, hB, show (k + 1) * 128 - 128 = k * 128 by omega]
theorem cur_rb {lo N : Nat} {ρ : Nat → Nat} (h : 1 < lo) {L C : Nat} (hC : C ≤ 9223372036854775807) : renL (sgf lo N ρ) [.slice (some ⟨1, 0, none⟩) L C, .slice none 0 0] = some [.slice (some ⟨1, 0, none⟩) L C, .slice none 0 0] :=
  renL_mk (rb_slc (sgf_old h) (by unfold capBig; omega)) (renL_mk rfl rfl)
theorem gt8t {n : Nat} (h : 8 < n) : decide ((n : Int) > 8) = true := by simp only [decide_eq_true_eq]; omega
theorem gt8f {n : Nat} (h : n ≤ 8) : decide ((n : Int) > 8) = false := by simp only [decide_eq_false_iff_not]; omega
def sAb (B : List Value) : Spec1 := fun xs n tp => match tp with
  | true :: tp => some (⟨fun _ => tupE 3, []⟩, tp, [8 < n])
  | false :: tp => some (⟨fun nx => tup0 (.slice (some ⟨nx, 0, none⟩) (n * 128) (n * 128)), [⟨.shut, B⟩]⟩, tp, [B = recL rcdB xs 0 n, RecsOk xs n, n ≤ 8])
  | [] => none
theorem ab_loop {inr : Bool} {h0 : Hp} {R : R19} {xs : List Value} {n c : Nat} (hR : R = rcdB) (H : RecsOk xs n) (hn : n ≤ 8) (hc : n ≤ c ∧ c ≤ 9223372036854775807) : ∀ (k i : Nat) (A : List Value), i + k = n → A.length = i * 128 → Byts A →
    LRuns inr Try.prog (abB Try.prog) 3 20 h0 27 (abS n c i) (abH xs (A ++ z8 (k * 128)) (i * 128) (n * 128)) 3 (.exit 0, [(4, .pointer (some ⟨2, 0, none⟩))], abH xs (A ++ recL R xs i k) (n * 128) (n * 128))
  | 0, i, A, hk, hA, hb => by
      have hX : XOkZ (abV R noL) Try.prog := noXz_ok rfl
      have hT : TOkZ (abV R noL) Try.prog := T_okV rfl (accX_one R)
      have hL : LOkZ (abV R noL) Try.prog := noL_okV rfl
      obtain rfl : i = n := by omega
      have e1 : A ++ z8 (0 * 128) = A := by rw [Nat.zero_mul]; exact List.append_nil A
      have e2 : A ++ recL R xs i 0 = A := List.append_nil A
      rw [e1, e2]
      refine LRuns.exit (code_runs hX hL (runZ_ok hX hT hL mixed 5) mixed (ab_done inr R xs A i c i (i * 128) (i * 128)) ?_) (by intro e; cases e) rfl (by omega) (by omega) (fun n => n) ?_ ?_ rfl
      · simp [Alls]
      · exact ⟨rfl, rb_ptr rfl, trivial⟩
      · exact ⟨⟨2, _, rfl, rfl, rfl, rfl, .inl (cur_rb (by omega) (by omega))⟩, rb_row (m := 1) rfl rfl rfl rfl (fl_byts hb), rb_old (by omega) rfl H.f, trivial⟩
  | k + 1, i, A, hk, hA, hb => by
      have hX : XOkZ (abV R noL) Try.prog := noXz_ok rfl
      have hT : TOkZ (abV R noL) Try.prog := T_okV rfl (accX_one R)
      have hL : LOkZ (abV R noL) Try.prog := noL_okV rfl
      have ht := H.t i (by omega)
      have hw := H.w i (by omega)
      have hb2 := hb.app (recX_Byts hR xs i)
      have hA2 : (A ++ recX R xs i).length = (i + 1) * 128 := by rw [List.length_append, hA, recX_len hR]; omega
      have nx := ab_loop (inr := inr) (h0 := h0) hR H hn hc k (i + 1) (A ++ recX R xs i) (by omega) hA2 hb2
      have e3 : A ++ recX R xs i ++ recL R xs (i + 1) k = A ++ recL R xs i (k + 1) := by simp only [recL, List.append_assoc]
      rw [e3] at nx
      have hz := hb.app (z8_Byts ((k + 1) * 128))
      have hzl : (A ++ z8 ((k + 1) * 128)).length = n * 128 := by unfold z8; rw [List.length_append, List.length_replicate, hA]; omega
      have hf2 : Fl ((A ++ recX R xs i) ++ z8 (k * 128)) := fl_byts (hb2.app (z8_Byts _))
      have e1 : (i + 1) * 128 = i * 128 + 128 := by omega
      rw [e1] at nx
      refine LRuns.step (code_runs hX hL (runZ_ok hX hT hL mixed 5) mixed (ab_more inr R xs (A ++ z8 ((k + 1) * 128)) n c i (i * 128) (n * 128)) ?_) rfl (by omega) (by omega) (fun n => n) ?_ ?_ rfl nx
      · repeat' (first | exact alls_nil | refine alls_cons ?_ ?_)
        all_goals first | with_reducible rfl | with_reducible assumption | omega | (simp only [decide_eq_true_eq]; omega) | exact ht | exact hw | (simp only [rg]; omega)
      · exact ⟨rfl, rb_ptr rfl, rfl, rb_slc rfl (by unfold capBig; omega), rfl, rfl, rfl, rfl, trivial⟩
      · refine ⟨⟨2, _, rfl, rfl, rfl, rfl, .inl (cur_rb (by omega) (by omega))⟩, rb_row (m := 1) rfl rfl rfl ?_ hf2, rb_old (by omega) rfl H.f, trivial⟩
        exact z8_step (k := k) hA (recX_len hR xs i)
theorem ab_spec_ok (R : R19) : LSOk Try.prog 27 [4, 15, 16, 17] (abB Try.prog) (abSpec R) := by
  refine lspec_ok fun a tp xt l2 h2 nx2 d tp' ob hs ho inr ts hn hg => ?_
  obtain ⟨n, c, xs, cs, L, C⟩ := a
  simp only at hs hg
  simp only [Option.some.injEq, Prod.mk.injEq] at hs
  obtain ⟨⟨rfl, rfl, rfl, rfl, rfl⟩, rfl, rfl⟩ := hs
  obtain ⟨hR, H, hz, hL0, hC, hn8, hc, _⟩ := ho
  (try simp only at H hz hL0 hC hn8 hc)
  subst hz
  subst hL0
  subst hC
  have key := ab_loop (inr := inr) (h0 := abH xs (z8 (n * 128)) 0 (n * 128)) hR H hn8 hc n 0 [] (by omega) rfl Byts.nil
  rw [List.nil_append, List.nil_append, Nat.zero_mul] at key
  refine LRuns.enter (l2 := abS n c 0) (h := abH xs (z8 (n * 128)) 0 (n * 128)) (h2 := abH xs (z8 (n * 128)) 0 (n * 128)) hn hg (Nat.le_refl 3) (by omega) (fun n => n) ?_ ⟨⟨2, _, rfl, rfl, rfl, rfl, .inl (cur_rb (by omega) (by omega))⟩, rb_row (m := 1) rfl rfl rfl rfl (fl_byts (z8_Byts _)), rb_old (by omega) rfl H.f, trivial⟩ rfl key ?_
  · exact ⟨rfl, rb_ptr rfl, rfl, rb_slc rfl (by unfold capBig; omega), rfl, rfl, rfl, rfl, trivial⟩
  · refine tidy_of (by omega) (fun m hm hd => ?_) rfl
    simp only [List.mem_cons, List.not_mem_nil, or_false, not_or] at hd
    obtain rfl : m = 0 := (by (try simp only at hm); omega)
    rfl
theorem tb_loop {inr : Bool} {h0 : Hp} {R : R19} {xs : List Value} {n c : Nat} (hR : R = rcdB) (H : RecsOk xs n) (hn : n ≤ 8) (hc : n ≤ c ∧ c ≤ 9223372036854775807) : ∀ (k i : Nat) (A : List Value), i + k = n → A.length = i * 128 → Byts A →
    LRuns inr Try.prog (tbB Try.prog) 3 20 h0 27 (abS n c i) (abH xs (A ++ z8 (k * 128)) (i * 128) (n * 128)) 3 (.exit 0, [(4, .pointer (some ⟨2, 0, none⟩))], abH xs (A ++ recL R xs i k) (n * 128) (n * 128))
  | 0, i, A, hk, hA, hb => by
      have hX : XOkZ (abV R noL) Try.prog := noXz_ok rfl
      have hT : TOkZ (abV R noL) Try.prog := T_okV rfl (accX_one R)
      have hL : LOkZ (abV R noL) Try.prog := noL_okV rfl
      obtain rfl : i = n := by omega
      have e1 : A ++ z8 (0 * 128) = A := by rw [Nat.zero_mul]; exact List.append_nil A
      have e2 : A ++ recL R xs i 0 = A := List.append_nil A
      rw [e1, e2]
      refine LRuns.exit (code_runs hX hL (runZ_ok hX hT hL mixed 5) mixed (tb_done inr R xs A i c i (i * 128) (i * 128)) ?_) (by intro e; cases e) rfl (by omega) (by omega) (fun n => n) ?_ ?_ rfl
      · simp [Alls]
      · exact ⟨rfl, rb_ptr rfl, trivial⟩
      · exact ⟨⟨2, _, rfl, rfl, rfl, rfl, .inl (cur_rb (by omega) (by omega))⟩, rb_row (m := 1) rfl rfl rfl rfl (fl_byts hb), rb_old (by omega) rfl H.f, trivial⟩
  | k + 1, i, A, hk, hA, hb => by
      have hX : XOkZ (abV R noL) Try.prog := noXz_ok rfl
      have hT : TOkZ (abV R noL) Try.prog := T_okV rfl (accX_one R)
      have hL : LOkZ (abV R noL) Try.prog := noL_okV rfl
      have ht := H.t i (by omega)
      have hw := H.w i (by omega)
      have hb2 := hb.app (recX_Byts hR xs i)
      have hA2 : (A ++ recX R xs i).length = (i + 1) * 128 := by rw [List.length_append, hA, recX_len hR]; omega
      have nx := tb_loop (inr := inr) (h0 := h0) hR H hn hc k (i + 1) (A ++ recX R xs i) (by omega) hA2 hb2
      have e3 : A ++ recX R xs i ++ recL R xs (i + 1) k = A ++ recL R xs i (k + 1) := by simp only [recL, List.append_assoc]
      rw [e3] at nx
      have hz := hb.app (z8_Byts ((k + 1) * 128))
      have hzl : (A ++ z8 ((k + 1) * 128)).length = n * 128 := by unfold z8; rw [List.length_append, List.length_replicate, hA]; omega
      have hf2 : Fl ((A ++ recX R xs i) ++ z8 (k * 128)) := fl_byts (hb2.app (z8_Byts _))
      have e1 : (i + 1) * 128 = i * 128 + 128 := by omega
      rw [e1] at nx
      refine LRuns.step (code_runs hX hL (runZ_ok hX hT hL mixed 5) mixed (tb_more inr R xs (A ++ z8 ((k + 1) * 128)) n c i (i * 128) (n * 128)) ?_) rfl (by omega) (by omega) (fun n => n) ?_ ?_ rfl nx
      · repeat' (first | exact alls_nil | refine alls_cons ?_ ?_)
        all_goals first | with_reducible rfl | with_reducible assumption | omega | (simp only [decide_eq_true_eq]; omega) | exact ht | exact hw | (simp only [rg]; omega)
      · exact ⟨rfl, rb_ptr rfl, rfl, rb_slc rfl (by unfold capBig; omega), rfl, rfl, rfl, rfl, trivial⟩
      · refine ⟨⟨2, _, rfl, rfl, rfl, rfl, .inl (cur_rb (by omega) (by omega))⟩, rb_row (m := 1) rfl rfl rfl ?_ hf2, rb_old (by omega) rfl H.f, trivial⟩
        exact z8_step (k := k) hA (recX_len hR xs i)
theorem tb_spec_ok (R : R19) : LSOk Try.prog 27 [4, 15, 16, 17] (tbB Try.prog) (abSpec R) := by
  refine lspec_ok fun a tp xt l2 h2 nx2 d tp' ob hs ho inr ts hn hg => ?_
  obtain ⟨n, c, xs, cs, L, C⟩ := a
  simp only at hs hg
  simp only [Option.some.injEq, Prod.mk.injEq] at hs
  obtain ⟨⟨rfl, rfl, rfl, rfl, rfl⟩, rfl, rfl⟩ := hs
  obtain ⟨hR, H, hz, hL0, hC, hn8, hc, _⟩ := ho
  (try simp only at H hz hL0 hC hn8 hc)
  subst hz
  subst hL0
  subst hC
  have key := tb_loop (inr := inr) (h0 := abH xs (z8 (n * 128)) 0 (n * 128)) hR H hn8 hc n 0 [] (by omega) rfl Byts.nil
  rw [List.nil_append, List.nil_append, Nat.zero_mul] at key
  refine LRuns.enter (l2 := abS n c 0) (h := abH xs (z8 (n * 128)) 0 (n * 128)) (h2 := abH xs (z8 (n * 128)) 0 (n * 128)) hn hg (Nat.le_refl 3) (by omega) (fun n => n) ?_ ⟨⟨2, _, rfl, rfl, rfl, rfl, .inl (cur_rb (by omega) (by omega))⟩, rb_row (m := 1) rfl rfl rfl rfl (fl_byts (z8_Byts _)), rb_old (by omega) rfl H.f, trivial⟩ rfl key ?_
  · exact ⟨rfl, rb_ptr rfl, rfl, rb_slc rfl (by unfold capBig; omega), rfl, rfl, rfl, rfl, trivial⟩
  · refine tidy_of (by omega) (fun m hm hd => ?_) rfl
    simp only [List.mem_cons, List.not_mem_nil, or_false, not_or] at hd
    obtain rfl : m = 0 := (by (try simp only at hm); omega)
    rfl
theorem recs_nil : RecsOk [] 0 := ⟨rfl, fun i h => (by omega), fun i h => (by omega), Fl.of rfl⟩
theorem ab_gok (B : List Value) : GOk Try.prog 23 [.s 19] (gS (sAb B)) := by
  have hX : ∀ L, XOkZ (abV rcdB L) Try.prog := fun L => noXz_ok rfl
  have hT : ∀ L, TOkZ (abV rcdB L) Try.prog := fun L => T_okV rfl (accX_one rcdB)
  have hL : LOkZ (abV rcdB (abL rcdB Try.prog)) Try.prog := L_okV rfl (orL_ok (mkL_ok (ab_spec_ok rcdB)) (mkL_ok (tb_spec_ok rcdB)))
  have hL0 : LOkZ (abV rcdB noL) Try.prog := noL_okV rfl
  refine gS_ok (fun tp gr tp' ob hG ho => ?_) (fun xs n c tp gr tp' ob hG ho hfl hl0 hc => ?_)
  · unfold sAb at hG
    split at hG
    case h_3 => cases hG
    all_goals (simp only [Option.some.injEq, Prod.mk.injEq] at hG; obtain ⟨rfl, rfl, rfl⟩ := hG)
    · exact absurd ho.1 (by omega)
    · obtain ⟨rfl, _, _⟩ := ho
      refine ran_tup (run_row (hX _) (hT _) hL0 (ab_n rcdB) ?_ rfl) rfl (Fl.of rfl) (by omega)
      simp only [Alls, rg]
      repeat' (first | with_reducible exact trivial | with_reducible apply And.intro)
      all_goals first | with_reducible assumption | omega | with_reducible rfl | (skip)
  · unfold sAb at hG
    split at hG
    case h_3 => cases hG
    all_goals (simp only [Option.some.injEq, Prod.mk.injEq] at hG; obtain ⟨rfl, rfl, rfl⟩ := hG)
    · exact ran_tupE (run_val (hX _) (hT _) hL0 (ab_long rcdB xs n c) ⟨gt8t ho.1, trivial⟩ rfl)
    · obtain ⟨rfl, H, hn, _⟩ := ho
      have g8 := gt8f hn
      refine ran_tup (run_row (hX _) (hT _) hL (ab_ok rcdB xs n c) ?_ rfl) rfl (fl_byts (recL_Byts rfl xs n 0)) (by omega)
      repeat' (first | exact alls_nil | refine alls_cons ?_ ?_)
      all_goals first | with_reducible rfl | with_reducible assumption | omega | (simp only [rg]; omega) | rfl
theorem tb_gok (B : List Value) : GOk Try.prog 25 [.s 19] (gS (sAb B)) := by
  have hX : ∀ L, XOkZ (abV rcdB L) Try.prog := fun L => noXz_ok rfl
  have hT : ∀ L, TOkZ (abV rcdB L) Try.prog := fun L => T_okV rfl (accX_one rcdB)
  have hL : LOkZ (abV rcdB (abL rcdB Try.prog)) Try.prog := L_okV rfl (orL_ok (mkL_ok (ab_spec_ok rcdB)) (mkL_ok (tb_spec_ok rcdB)))
  have hL0 : LOkZ (abV rcdB noL) Try.prog := noL_okV rfl
  refine gS_ok (fun tp gr tp' ob hG ho => ?_) (fun xs n c tp gr tp' ob hG ho hfl hl0 hc => ?_)
  · unfold sAb at hG
    split at hG
    case h_3 => cases hG
    all_goals (simp only [Option.some.injEq, Prod.mk.injEq] at hG; obtain ⟨rfl, rfl, rfl⟩ := hG)
    · exact absurd ho.1 (by omega)
    · obtain ⟨rfl, _, _⟩ := ho
      refine ran_tup (run_row (hX _) (hT _) hL0 (tb_n rcdB) ?_ rfl) rfl (Fl.of rfl) (by omega)
      simp only [Alls, rg]
      repeat' (first | with_reducible exact trivial | with_reducible apply And.intro)
      all_goals first | with_reducible assumption | omega | with_reducible rfl | (skip)
  · unfold sAb at hG
    split at hG
    case h_3 => cases hG
    all_goals (simp only [Option.some.injEq, Prod.mk.injEq] at hG; obtain ⟨rfl, rfl, rfl⟩ := hG)
    · exact ran_tupE (run_val (hX _) (hT _) hL0 (tb_long rcdB xs n c) ⟨gt8t ho.1, trivial⟩ rfl)
    · obtain ⟨rfl, H, hn, _⟩ := ho
      have g8 := gt8f hn
      refine ran_tup (run_row (hX _) (hT _) hL (tb_ok rcdB xs n c) ?_ rfl) rfl (fl_byts (recL_Byts rfl xs n 0)) (by omega)
      repeat' (first | exact alls_nil | refine alls_cons ?_ ?_)
      all_goals first | with_reducible rfl | with_reducible assumption | omega | (simp only [rg]; omega) | rfl
end Go.Proofs.Ytgpgdkpfeoaidaa
