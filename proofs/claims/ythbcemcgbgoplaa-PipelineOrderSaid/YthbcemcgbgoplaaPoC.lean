/-
  Chapter 26: the statement PipelineOrder: Ok, told.
-/
import Derived.Test.YthbcemcgbgoplaaPoB
import Derived.Test.YthbcemcgbgoplaaPoP
namespace Go.Proofs.Ythbcemcgbgoplaa
set_option linter.unusedSimpArgs false
set_option linter.unusedVariables false
set_option linter.unusedSectionVars false
open Go Go.RowKit
theorem lk_nil (m : Nat) : lk [] m = none := rfl
def okHd (P : Program) (r op view o : Int) (C : List Value) : Hp := [(7, okR P .done (some .ret) r op view o), (6, ⟨.marks, []⟩), (5, ⟨.shut, [pp 0 0]⟩), (4, ⟨.shut, [.bool true]⟩), (3, ⟨.shut, [.int .i64 view]⟩), (2, ⟨.shut, [.int .i64 op]⟩), (1, ⟨.shut, [.int .i64 r]⟩), (0, ⟨.shut, C⟩)]
theorem poV_X (s' : Int) (hd : Bool) (L : LFun) : XOkZ (poV s' hd L) Try.prog := noXz_ok rfl
theorem poV_T (s' : Int) (hd : Bool) (L : LFun) : TOkZ (poV s' hd L) Try.prog := T_okV rfl (poT0_one s')
theorem poV_L (s' : Int) (hd : Bool) : LOkZ (poV s' hd noL) Try.prog := noL_okV rfl
def Mt (F : Int) (S : Nat → Nat) (q : Nat) (op view : Int) (j : Nat) : Prop := op = F + (j : Int) ∧ view = 2 ∧ hasN (S j) q = false
theorem rgn {i : Nat} (h : i ≤ 1000) : rg .i64 ((i : Nat) : Int) := by
  simp only [rg]
  omega
section
variable {C : List Value} {a k : Nat} {F : Int} {S : Nat → Nat} {N me q : Nat} {op view o : Int} {inr : Bool}
theorem ok_none (h : PlI C a k F S N me) (hq : q < 7) (h0 : Hp) : ∀ (rem i : Nat), i + rem = k → (∀ j, a + i ≤ j → j < a + k → ¬ Mt F S q op view j) →
    LRuns inr Try.prog (alB Try.prog) 8 8 h0 26 (okS (k : Int) (i : Int)) (okH Try.prog q op view o false C) 8 (.exit 0, [], okH Try.prog q op view o false C)
  | 0, i, hr, hn => by
      refine LRuns.exit (code_runs (poV_X 0 _ _) (poV_L 0 _) (runZ_ok (poV_X 0 _ _) (poV_T 0 _ _) (poV_L 0 _) mixed 9) mixed (ok_e inr 0 (q : Int) op view o (k : Int) i C) ⟨decide_eq_false (by omega), trivial⟩) (by intro e; cases e) rfl (by omega) (by omega) (fun n => n) trivial ?_ rfl
      exact ⟨rb_rec rfl rfl rfl, rb_rec rfl rfl trivial, ⟨5, _, rfl, rfl, rfl, rfl, .inl rfl⟩, ⟨4, _, rfl, rfl, rfl, rfl, .inl rfl⟩, ⟨3, _, rfl, rfl, rfl, rfl, .inl rfl⟩, ⟨2, _, rfl, rfl, rfl, rfl, .inl rfl⟩, ⟨1, _, rfl, rfl, rfl, rfl, .inl rfl⟩, rb_row rfl rfl rfl rfl h.fl, trivial⟩
  | rem + 1, i, hr, hn => by
      have hi : i < k := by omega
      have nx := ok_none h hq h0 rem (i + 1) (by omega) (fun j h1 h2 => hn j (by omega) h2)
      have e5 : C[Int.toNat (mdI (adI (intAt C 288) (i : Int)) 16) * 18 + 0 + 0 + 5]? = some (.int .i64 (intAt C (Int.toNat (mdI (adI (intAt C 288) (i : Int)) 16) * 18 + 0 + 0 + 5))) := by rw [h.pos hi, int_at (h.op hi)]; exact h.op hi
      have e3 : C[Int.toNat (mdI (adI (intAt C 288) (i : Int)) 16) * 18 + 0 + 0 + 3]? = some (.int .i64 (intAt C (Int.toNat (mdI (adI (intAt C 288) (i : Int)) 16) * 18 + 0 + 0 + 3))) := by rw [h.pos hi, int_at (h.vw hi)]; exact h.vw hi
      have e7 : C[Int.toNat (mdI (adI (intAt C 288) (i : Int)) 16) * 18 + 17]? = some (.int .u8 (intAt C (Int.toNat (mdI (adI (intAt C 288) (i : Int)) 16) * 18 + 17))) := by rw [h.pos hi, int_at (h.se hi)]; exact h.se hi
      have v7 : intAt C (Int.toNat (mdI (adI (intAt C 288) (i : Int)) 16) * 18 + 17) = ((S (a + i) : Nat) : Int) := by rw [h.pos hi]; exact int_at (h.se hi)
      have s7 := h.st (a + i) (by omega) (by omega)
      have ak := h.ak
      by_cases c1 : op = F + ((a + i : Nat) : Int)
      · have t1 : (intAt C (Int.toNat (mdI (adI (intAt C 288) (i : Int)) 16) * 18 + 0 + 0 + 5) == op) = true := by rw [h.pos hi, int_at (h.op hi), c1]; exact beq_self_eq_true _
        by_cases c2 : view = 2
        · have t2 : (intAt C (Int.toNat (mdI (adI (intAt C 288) (i : Int)) 16) * 18 + 0 + 0 + 3) == view) = true := by rw [h.pos hi, int_at (h.vw hi), c2]; rfl
          cases c3 : hasN (S (a + i)) q with
          | false => exact (hn (a + i) (by omega) (by omega) ⟨c1, c2, c3⟩).elim
          | true =>
            refine LRuns.step (code_runs (poV_X 0 _ _) (poV_L 0 _) (runZ_ok (poV_X 0 _ _) (poV_T 0 _ _) (poV_L 0 _) mixed 9) mixed (ok_m3 inr 0 (q : Int) op view o (k : Int) i C) ⟨decide_eq_true (by omega), h.g0, h.o2 hi, h.o3 hi, h.o4 hi, e5, t1, e3, t2, e7, by rw [v7]; exact rgn (by omega), ⟨S (a + i), q, v7, rfl, s7, hq, c3.symm⟩, rgn (by omega), trivial⟩) rfl (by omega) (by omega) (fun n => n) ?_ ?_ rfl nx
            · exact ⟨rfl, rfl, rfl, rfl, rfl, rfl, rfl, rfl, trivial⟩
            ·
              exact ⟨rb_rec rfl rfl rfl, rb_rec rfl rfl trivial, ⟨5, _, rfl, rfl, rfl, rfl, .inl rfl⟩, ⟨4, _, rfl, rfl, rfl, rfl, .inl rfl⟩, ⟨3, _, rfl, rfl, rfl, rfl, .inl rfl⟩, ⟨2, _, rfl, rfl, rfl, rfl, .inl rfl⟩, ⟨1, _, rfl, rfl, rfl, rfl, .inl rfl⟩, rb_row rfl rfl rfl rfl h.fl, trivial⟩
        · have t2 : (intAt C (Int.toNat (mdI (adI (intAt C 288) (i : Int)) 16) * 18 + 0 + 0 + 3) == view) = false := by rw [h.pos hi, int_at (h.vw hi)]; exact beq_eq_false_iff_ne.2 (Ne.symm c2)
          refine LRuns.step (code_runs (poV_X 0 _ _) (poV_L 0 _) (runZ_ok (poV_X 0 _ _) (poV_T 0 _ _) (poV_L 0 _) mixed 9) mixed (ok_m2 inr 0 (q : Int) op view o (k : Int) i C) ⟨decide_eq_true (by omega), h.g0, h.o2 hi, h.o3 hi, h.o4 hi, e5, t1, e3, t2, rgn (by omega), trivial⟩) rfl (by omega) (by omega) (fun n => n) ?_ ?_ rfl nx
          · exact ⟨rfl, rfl, rfl, rfl, rfl, rfl, rfl, rfl, trivial⟩
          ·
            exact ⟨rb_rec rfl rfl rfl, rb_rec rfl rfl trivial, ⟨5, _, rfl, rfl, rfl, rfl, .inl rfl⟩, ⟨4, _, rfl, rfl, rfl, rfl, .inl rfl⟩, ⟨3, _, rfl, rfl, rfl, rfl, .inl rfl⟩, ⟨2, _, rfl, rfl, rfl, rfl, .inl rfl⟩, ⟨1, _, rfl, rfl, rfl, rfl, .inl rfl⟩, rb_row rfl rfl rfl rfl h.fl, trivial⟩
      · have t1 : (intAt C (Int.toNat (mdI (adI (intAt C 288) (i : Int)) 16) * 18 + 0 + 0 + 5) == op) = false := by rw [h.pos hi, int_at (h.op hi)]; exact beq_eq_false_iff_ne.2 (Ne.symm c1)
        refine LRuns.step (code_runs (poV_X 0 _ _) (poV_L 0 _) (runZ_ok (poV_X 0 _ _) (poV_T 0 _ _) (poV_L 0 _) mixed 9) mixed (ok_m1 inr 0 (q : Int) op view o (k : Int) i C) ⟨decide_eq_true (by omega), h.g0, h.o2 hi, h.o3 hi, h.o4 hi, e5, t1, rgn (by omega), trivial⟩) rfl (by omega) (by omega) (fun n => n) ?_ ?_ rfl nx
        · exact ⟨rfl, rfl, rfl, rfl, rfl, rfl, rfl, rfl, trivial⟩
        ·
          exact ⟨rb_rec rfl rfl rfl, rb_rec rfl rfl trivial, ⟨5, _, rfl, rfl, rfl, rfl, .inl rfl⟩, ⟨4, _, rfl, rfl, rfl, rfl, .inl rfl⟩, ⟨3, _, rfl, rfl, rfl, rfl, .inl rfl⟩, ⟨2, _, rfl, rfl, rfl, rfl, .inl rfl⟩, ⟨1, _, rfl, rfl, rfl, rfl, .inl rfl⟩, rb_row rfl rfl rfl rfl h.fl, trivial⟩
theorem ok_yes (h : PlI C a k F S N me) (hq : q < 7) {j0 : Nat} (hj : j0 < a + k) (hM : Mt F S q op view j0) (h0 : Hp) : ∀ (rem i : Nat), a + i + rem = j0 →
    LRuns inr Try.prog (alB Try.prog) 8 8 h0 26 (okS (k : Int) (i : Int)) (okH Try.prog q op view o false C) 8 (.ret, [], okHd Try.prog q op view o (splice C (j0 * 18 + 17) [.int .u8 ((withN (S j0) q : Nat) : Int)]))
  | rem, i, hr => by
      have hi : i < k := by omega
      have e5 : C[Int.toNat (mdI (adI (intAt C 288) (i : Int)) 16) * 18 + 0 + 0 + 5]? = some (.int .i64 (intAt C (Int.toNat (mdI (adI (intAt C 288) (i : Int)) 16) * 18 + 0 + 0 + 5))) := by rw [h.pos hi, int_at (h.op hi)]; exact h.op hi
      have e3 : C[Int.toNat (mdI (adI (intAt C 288) (i : Int)) 16) * 18 + 0 + 0 + 3]? = some (.int .i64 (intAt C (Int.toNat (mdI (adI (intAt C 288) (i : Int)) 16) * 18 + 0 + 0 + 3))) := by rw [h.pos hi, int_at (h.vw hi)]; exact h.vw hi
      have e7 : C[Int.toNat (mdI (adI (intAt C 288) (i : Int)) 16) * 18 + 17]? = some (.int .u8 (intAt C (Int.toNat (mdI (adI (intAt C 288) (i : Int)) 16) * 18 + 17))) := by rw [h.pos hi, int_at (h.se hi)]; exact h.se hi
      have v7 : intAt C (Int.toNat (mdI (adI (intAt C 288) (i : Int)) 16) * 18 + 17) = ((S (a + i) : Nat) : Int) := by rw [h.pos hi]; exact int_at (h.se hi)
      have s7 := h.st (a + i) (by omega) (by omega)
      have ak := h.ak
      obtain ⟨m1, m2, m3⟩ := hM
      match rem, hr with
      | 0, hr =>
        obtain rfl : j0 = a + i := by omega
        have t1 : (intAt C (Int.toNat (mdI (adI (intAt C 288) (i : Int)) 16) * 18 + 0 + 0 + 5) == op) = true := by rw [h.pos hi, int_at (h.op hi), m1]; exact beq_self_eq_true _
        have t2 : (intAt C (Int.toNat (mdI (adI (intAt C 288) (i : Int)) 16) * 18 + 0 + 0 + 3) == view) = true := by rw [h.pos hi, int_at (h.vw hi), m2]; rfl
        have lw : withN (S (a + i)) q < 128 := wi_lt s7 hq
        have lb : lowI .u8 ((withN (S (a + i)) q : Nat) : Int) = ((withN (S (a + i)) q : Nat) : Int) := by unfold lowI; rw [mdI_eq]; simp only [IntKind.bits]; omega
        have hlen := h.len
        refine LRuns.exit (code_runs (poV_X ((withN (S (a + i)) q : Nat) : Int) _ _) (poV_L ((withN (S (a + i)) q : Nat) : Int) _) (runZ_ok (poV_X ((withN (S (a + i)) q : Nat) : Int) _ _) (poV_T ((withN (S (a + i)) q : Nat) : Int) _ _) (poV_L ((withN (S (a + i)) q : Nat) : Int) _) mixed 9) mixed (ok_f inr ((withN (S (a + i)) q : Nat) : Int) (q : Int) op view o (k : Int) i C) ⟨decide_eq_true (by omega), h.g0, h.o2 hi, h.o3 hi, h.o4 hi, e5, t1, e3, t2, e7, by rw [v7]; exact rgn (by omega), ⟨S (a + i), q, v7, rfl, s7, hq, m3.symm⟩, e7, by rw [v7]; exact rgn (by omega), ⟨S (a + i), q, v7, rfl, s7, hq, rfl⟩, by rw [h.pos hi]; omega, trivial⟩) (by intro e; cases e) rfl (by omega) (by omega) (fun n => n) trivial ?_ rfl
        refine ⟨rb_rec rfl rfl rfl, rb_rec rfl rfl trivial, ⟨5, _, rfl, rfl, rfl, rfl, .inl rfl⟩, ⟨4, _, rfl, rfl, rfl, rfl, .inl rfl⟩, ⟨3, _, rfl, rfl, rfl, rfl, .inl rfl⟩, ⟨2, _, rfl, rfl, rfl, rfl, .inl rfl⟩, ⟨1, _, rfl, rfl, rfl, rfl, .inl rfl⟩, rb_row rfl rfl rfl (by rw [h.pos hi, lb]) ?_, trivial⟩
        exact (h.ok hi lw).fl
      | rem + 1, hr =>
        have nx := ok_yes h hq hj ⟨m1, m2, m3⟩ h0 rem (i + 1) (by omega)
        have t1 : (intAt C (Int.toNat (mdI (adI (intAt C 288) (i : Int)) 16) * 18 + 0 + 0 + 5) == op) = false := by rw [h.pos hi, int_at (h.op hi)]; exact beq_eq_false_iff_ne.2 (by omega)
        refine LRuns.step (code_runs (poV_X 0 _ _) (poV_L 0 _) (runZ_ok (poV_X 0 _ _) (poV_T 0 _ _) (poV_L 0 _) mixed 9) mixed (ok_m1 inr 0 (q : Int) op view o (k : Int) i C) ⟨decide_eq_true (by omega), h.g0, h.o2 hi, h.o3 hi, h.o4 hi, e5, t1, rgn (by omega), trivial⟩) rfl (by omega) (by omega) (fun n => n) ?_ ?_ rfl nx
        · exact ⟨rfl, rfl, rfl, rfl, rfl, rfl, rfl, rfl, trivial⟩
        ·
          exact ⟨rb_rec rfl rfl rfl, rb_rec rfl rfl trivial, ⟨5, _, rfl, rfl, rfl, rfl, .inl rfl⟩, ⟨4, _, rfl, rfl, rfl, rfl, .inl rfl⟩, ⟨3, _, rfl, rfl, rfl, rfl, .inl rfl⟩, ⟨2, _, rfl, rfl, rfl, rfl, .inl rfl⟩, ⟨1, _, rfl, rfl, rfl, rfl, .inl rfl⟩, rb_row rfl rfl rfl rfl h.fl, trivial⟩
end
end Go.Proofs.Ythbcemcgbgoplaa
