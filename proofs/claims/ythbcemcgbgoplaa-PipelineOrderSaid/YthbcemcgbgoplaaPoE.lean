/-
  Chapter 26: the statement PipelineOrder: New, Ok, Push, Pop as contracts (written by wip/tools/gen_poe.py).
-/
import Derived.Test.YthbcemcgbgoplaaPoD
namespace Go.Proofs.Ythbcemcgbgoplaa
set_option linter.unusedSimpArgs false
set_option linter.unusedVariables false
set_option linter.unusedSectionVars false
open Go Go.RowKit
/-! ### New -/
def z18 : List Value := [.int .i64 0, .int .i64 0, .int .i64 0, .int .i64 0, .int .i64 0, .int .i64 0, .int .i64 0, .int .i64 0, .int .i64 0, .int .u64 0, .int .u64 0, .int .i64 0, .int .i64 0, .int .u64 0, .int .i64 0, .int .i64 0, .slice none 0 0, .int .u8 0]
def zr : Nat → List Value → List Value
  | 0, l => l
  | k + 1, l => z18 ++ zr k l
def C0 (n me : Int) : List Value := zr 16 [.int .i64 0, .int .i64 0, .int .i64 n, .int .i64 me]
def nwV : Tv := ⟨noTz, noXz, noL, fun f => bif Nat.beq f 8 then [11, 16] else bif Nat.beq f 28 then [5, 6, 7] else [], noSy, fun _ => [], fun _ => 0⟩
theorem nw_y3 (n me : Int) : prjR 2 (runZ nwV Try.prog 6 8 [.int .i64 n, .int .i64 me] [] 2 [true, false, false]) =
  Res.ok ((Value.tuple (Array.mk [Value.pointer (some (Addr.mk 2 0 none)), Value.int IntKind.i64 (0 : Int)]), Rw.mk Kd.shut (C0 n me)), [], [(n == (3 : Int)) = true, decide (me < (0 : Int)) = false, decide (me ≥ n) =
 false]) := by kernel_rfl
theorem nw_l3 (n me : Int) : prjV (runZ nwV Try.prog 6 8 [.int .i64 n, .int .i64 me] [] 2 [true, true]) =
  Res.ok (Value.tuple (Array.mk [Value.pointer none, Value.int IntKind.i64 (2 : Int)]), [], [(n == (3 : Int)) = true, decide (me < (0 : Int)) = true]) := by kernel_rfl
theorem nw_h3 (n me : Int) : prjV (runZ nwV Try.prog 6 8 [.int .i64 n, .int .i64 me] [] 2 [true, false, true]) =
  Res.ok (Value.tuple (Array.mk [Value.pointer none, Value.int IntKind.i64 (2 : Int)]), [], [(n == (3 : Int)) = true, decide (me < (0 : Int)) = false, decide (me ≥ n) = true]) := by kernel_rfl
theorem nw_y5 (n me : Int) : prjR 2 (runZ nwV Try.prog 6 8 [.int .i64 n, .int .i64 me] [] 2 [false, true, false, false]) =
  Res.ok ((Value.tuple (Array.mk [Value.pointer (some (Addr.mk 2 0 none)), Value.int IntKind.i64 (0 : Int)]), Rw.mk Kd.shut (C0 n me)), [], [(n == (3 : Int)) = false, (n == (5 : Int)) = true, decide (me < (0 : Int)) =
 false, decide (me ≥ n) = false]) := by kernel_rfl
theorem nw_l5 (n me : Int) : prjV (runZ nwV Try.prog 6 8 [.int .i64 n, .int .i64 me] [] 2 [false, true, true]) =
  Res.ok (Value.tuple (Array.mk [Value.pointer none, Value.int IntKind.i64 (2 : Int)]), [], [(n == (3 : Int)) = false, (n == (5 : Int)) = true, decide (me < (0 : Int)) = true]) := by kernel_rfl
theorem nw_h5 (n me : Int) : prjV (runZ nwV Try.prog 6 8 [.int .i64 n, .int .i64 me] [] 2 [false, true, false, true]) =
  Res.ok (Value.tuple (Array.mk [Value.pointer none, Value.int IntKind.i64 (2 : Int)]), [], [(n == (3 : Int)) = false, (n == (5 : Int)) = true, decide (me < (0 : Int)) = false, decide (me ≥ n) = true]) := by kernel_rfl
theorem nw_y7 (n me : Int) : prjR 2 (runZ nwV Try.prog 6 8 [.int .i64 n, .int .i64 me] [] 2 [false, false, true, false, false]) =
  Res.ok ((Value.tuple (Array.mk [Value.pointer (some (Addr.mk 2 0 none)), Value.int IntKind.i64 (0 : Int)]), Rw.mk Kd.shut (C0 n me)), [], [(n == (3 : Int)) = false, (n == (5 : Int)) = false, (n == (7 : Int)) = true,
 decide (me < (0 : Int)) = false, decide (me ≥ n) = false]) := by kernel_rfl
theorem nw_l7 (n me : Int) : prjV (runZ nwV Try.prog 6 8 [.int .i64 n, .int .i64 me] [] 2 [false, false, true, true]) =
  Res.ok (Value.tuple (Array.mk [Value.pointer none, Value.int IntKind.i64 (2 : Int)]), [], [(n == (3 : Int)) = false, (n == (5 : Int)) = false, (n == (7 : Int)) = true, decide (me < (0 : Int)) = true]) := by kernel_rfl
theorem nw_h7 (n me : Int) : prjV (runZ nwV Try.prog 6 8 [.int .i64 n, .int .i64 me] [] 2 [false, false, true, false, true]) =
  Res.ok (Value.tuple (Array.mk [Value.pointer none, Value.int IntKind.i64 (2 : Int)]), [], [(n == (3 : Int)) = false, (n == (5 : Int)) = false, (n == (7 : Int)) = true, decide (me < (0 : Int)) = false, decide (me ≥ n) =
 true]) := by kernel_rfl
theorem nw_no (n me : Int) : prjV (runZ nwV Try.prog 6 8 [.int .i64 n, .int .i64 me] [] 2 [false, false, false]) =
  Res.ok (Value.tuple (Array.mk [Value.pointer none, Value.int IntKind.i64 (2 : Int)]), [], [(n == (3 : Int)) = false, (n == (5 : Int)) = false, (n == (7 : Int)) = false]) := by kernel_rfl
def NwIs (n me : Int) : Prop := (n = 3 ∨ n = 5 ∨ n = 7) ∧ 0 ≤ me ∧ me < n
def gNw : GSpec := fun av tp => match av, tp with
  | [.fl (.int .i64 n), .fl (.int .i64 me)], true :: tp' => some (⟨fun nx => tup0 (pp nx 0), [⟨.shut, C0 n me⟩]⟩, tp', [NwIs n me])
  | [.fl (.int .i64 n), .fl (.int .i64 me)], false :: tp' => some (⟨fun _ => .tuple ⟨[.pointer none, .int .i64 2]⟩, []⟩, tp', [¬ NwIs n me])
  | _, _ => none
theorem GrIs.ptrV {V : Value → Value} (hV : ∀ σ v v', renV σ v = some v' → renV σ (V v) = some (V v')) {kd : Kd} {cs : List Value} {h0' : Hp} {m : Nat} (hl : lk h0' m = some ⟨kd, cs⟩) (hf : Fl cs) (hk : plainKd kd = true) (ho : kd ≠ .old) :
    GrIs ⟨fun nx => V (pp nx 0), [⟨kd, cs⟩]⟩ (V (pp m 0)) h0' (fun _ => m) := by
  refine ⟨fun nx => hV _ _ _ ?_, fun j r hj => ?_, fun i j hi hj _ => ?_⟩
  · have hb : (f2s nx 1 fun _ => m).b nx = some (m, 0) := by simp [f2s]
    simpa using renV_ptr_mk (o := 0) hb
  · match j, hj with
    | 0, hj => cases hj; exact ⟨hf, hk, ho, hl⟩
  · simp at hi hj; omega
theorem nwV_X : XOkZ nwV Try.prog := noXz_ok rfl
theorem nwV_T : TOkZ nwV Try.prog := noTz_okV rfl
theorem nwV_L : LOkZ nwV Try.prog := noL_okV rfl
theorem C0_fl (n me : Int) : Fl (C0 n me) := Fl.of (by kernel_rfl)
theorem nw_gok : GOk Try.prog 8 [.f, .f] gNw := by
  intro av tp gr tp' ob hG ho hP caps hcap
  unfold gNw at hG
  split at hG
  · rename_i n me tp0
    simp only [Option.some.injEq, Prod.mk.injEq] at hG
    obtain ⟨rfl, rfl, rfl⟩ := hG
    obtain ⟨⟨hn, h0, h1⟩, _⟩ := ho
    obtain ⟨c, d, rfl⟩ := caps2 hcap
    rcases hn with rfl | rfl | rfl
    · obtain ⟨h', nx', dd, T, hl⟩ := run_row nwV_X nwV_T nwV_L (nw_y3 3 me) ⟨rfl, decide_eq_false (by omega), decide_eq_false (by omega), trivial⟩ rfl
      exact ⟨_, _, _, _, fun _ => 2, T, GrIs.ptrV tup0_ren hl (C0_fl _ _) rfl (fun e => by cases e)⟩
    · obtain ⟨h', nx', dd, T, hl⟩ := run_row nwV_X nwV_T nwV_L (nw_y5 5 me) ⟨rfl, rfl, decide_eq_false (by omega), decide_eq_false (by omega), trivial⟩ rfl
      exact ⟨_, _, _, _, fun _ => 2, T, GrIs.ptrV tup0_ren hl (C0_fl _ _) rfl (fun e => by cases e)⟩
    · obtain ⟨h', nx', dd, T, hl⟩ := run_row nwV_X nwV_T nwV_L (nw_y7 7 me) ⟨rfl, rfl, rfl, decide_eq_false (by omega), decide_eq_false (by omega), trivial⟩ rfl
      exact ⟨_, _, _, _, fun _ => 2, T, GrIs.ptrV tup0_ren hl (C0_fl _ _) rfl (fun e => by cases e)⟩
  · rename_i n me tp0
    simp only [Option.some.injEq, Prod.mk.injEq] at hG
    obtain ⟨rfl, rfl, rfl⟩ := hG
    obtain ⟨hN, _⟩ := ho
    obtain ⟨c, d, rfl⟩ := caps2 hcap
    have fin : (∃ h' nx' dd, Tri Try.prog 8 [.int .i64 n, .int .i64 me] [] 2 (.tuple ⟨[.pointer none, .int .i64 2]⟩, h', nx', dd)) → ∃ v0 h0' nx0' d0 g, Tri Try.prog 8 [.int .i64 n, .int .i64 me] [] 2 (v0, h0', nx0', d0) ∧ GrIs ⟨fun _ => .tuple ⟨[.pointer none, .int .i64 2]⟩, []⟩ v0 h0' g := fun ⟨h', nx', dd, T⟩ => ⟨_, _, _, _, fun n => n, T, GrIs.flat fun σ => rfl⟩
    apply fin
    by_cases h3 : n = 3
    · subst h3
      by_cases l0 : me < 0
      · exact run_val nwV_X nwV_T nwV_L (nw_l3 3 me) ⟨rfl, decide_eq_true l0, trivial⟩ rfl
      · have l1 : me ≥ 3 := Int.not_lt.1 fun hh => hN ⟨by omega, by omega, hh⟩
        exact run_val nwV_X nwV_T nwV_L (nw_h3 3 me) ⟨rfl, decide_eq_false l0, decide_eq_true l1, trivial⟩ rfl
    by_cases h5 : n = 5
    · subst h5
      by_cases l0 : me < 0
      · exact run_val nwV_X nwV_T nwV_L (nw_l5 5 me) ⟨rfl, rfl, decide_eq_true l0, trivial⟩ rfl
      · have l1 : me ≥ 5 := Int.not_lt.1 fun hh => hN ⟨by omega, by omega, hh⟩
        exact run_val nwV_X nwV_T nwV_L (nw_h5 5 me) ⟨rfl, rfl, decide_eq_false l0, decide_eq_true l1, trivial⟩ rfl
    by_cases h7 : n = 7
    · subst h7
      by_cases l0 : me < 0
      · exact run_val nwV_X nwV_T nwV_L (nw_l7 7 me) ⟨rfl, rfl, rfl, decide_eq_true l0, trivial⟩ rfl
      · have l1 : me ≥ 7 := Int.not_lt.1 fun hh => hN ⟨by omega, by omega, hh⟩
        exact run_val nwV_X nwV_T nwV_L (nw_h7 7 me) ⟨rfl, rfl, rfl, decide_eq_false l0, decide_eq_true l1, trivial⟩ rfl
    exact run_val nwV_X nwV_T nwV_L (nw_no n me) ⟨beq_eq_false_iff_ne.2 h3, beq_eq_false_iff_ne.2 h5, beq_eq_false_iff_ne.2 h7, trivial⟩ rfl
  · cases hG
theorem C0_is {n me : Nat} {F : Int} {S : Nat → Nat} (hn : n = 3 ∨ n = 5 ∨ n = 7) (hm : me < n) (hF : 1 ≤ F ∧ F ≤ 1073741824) : PlI (C0 (n : Int) (me : Int)) 0 0 F S n me :=
  ⟨C0_fl _ _, by kernel_rfl, by kernel_rfl, by kernel_rfl, by kernel_rfl, by kernel_rfl, by omega, hn, hm, hF, (fun j h1 h2 => by omega), (fun j h1 h2 => by omega)⟩
/-! ### Ok -/
theorem spOk_ok (C C' : List Value) (r op view : Int) (hC' : Fl C') : LSOk Try.prog 26 [0, 1, 7, 8] (alB Try.prog) (spOk Try.prog C C' r op view) := by
  refine lspec_ok fun a tp xt l2 h2 nx2 d tp' ob hs ho inr ts hn hg => ?_
  simp only at hs hg
  split at hs
  · simp only [Option.some.injEq, Prod.mk.injEq] at hs
    obtain ⟨⟨rfl, rfl, rfl, rfl, rfl⟩, rfl, rfl⟩ := hs
    obtain ⟨⟨hF, hL⟩, _⟩ := ho
    have key := hL inr (okH Try.prog r op view (intAt C 290) false C)
    refine LRuns.enter (N := 8) (l2 := okS (intAt C 289) 0) (h2 := okH Try.prog r op view (intAt C 290) false C) hn hg (Nat.le_refl 8) (by omega) (fun n => n) ?_ ?_ rfl key ?_
    · exact ⟨rfl, rfl, rfl, rfl, rfl, rfl, rfl, rfl, trivial⟩
    ·
      exact ⟨rb_rec rfl rfl rfl, rb_rec rfl rfl trivial, ⟨5, _, rfl, rfl, rfl, rfl, .inl rfl⟩, ⟨4, _, rfl, rfl, rfl, rfl, .inl rfl⟩, ⟨3, _, rfl, rfl, rfl, rfl, .inl rfl⟩, ⟨2, _, rfl, rfl, rfl, rfl, .inl rfl⟩, ⟨1, _, rfl, rfl, rfl, rfl, .inl rfl⟩, rb_row rfl rfl rfl rfl hF, trivial⟩
    ·
      refine tidy_of (by omega) (fun m hm hd => ?_) rfl
      (try simp only [List.mem_cons, List.not_mem_nil, or_false, not_or] at hd)
      have hm2 : m < 8 := hm
      simp only [okH, okHd, lk_cons, lk_nil]
      repeat' split
      all_goals first | rfl | (exfalso; omega)
  · simp only [Option.some.injEq, Prod.mk.injEq] at hs
    obtain ⟨⟨rfl, rfl, rfl, rfl, rfl⟩, rfl, rfl⟩ := hs
    obtain ⟨⟨hF, hL⟩, _⟩ := ho
    have key := hL inr (okH Try.prog r op view (intAt C 290) false C)
    refine LRuns.enter (N := 8) (l2 := okS (intAt C 289) 0) (h2 := okH Try.prog r op view (intAt C 290) false C) hn hg (Nat.le_refl 8) (by omega) (fun n => n) ?_ ?_ rfl key ?_
    · exact ⟨rfl, rfl, rfl, rfl, rfl, rfl, rfl, rfl, trivial⟩
    ·
      exact ⟨rb_rec rfl rfl rfl, rb_rec rfl rfl trivial, ⟨5, _, rfl, rfl, rfl, rfl, .inl rfl⟩, ⟨4, _, rfl, rfl, rfl, rfl, .inl rfl⟩, ⟨3, _, rfl, rfl, rfl, rfl, .inl rfl⟩, ⟨2, _, rfl, rfl, rfl, rfl, .inl rfl⟩, ⟨1, _, rfl, rfl, rfl, rfl, .inl rfl⟩, rb_row rfl rfl rfl rfl hF, trivial⟩
    ·
      refine tidy_of (by omega) (fun m hm hd => ?_) rfl
      (try simp only [List.mem_cons, List.not_mem_nil, or_false, not_or] at hd)
      have hm2 : m < 8 := hm
      simp only [okH, okHd, lk_cons, lk_nil]
      repeat' split
      all_goals first | rfl | (exfalso; omega)
  · cases hs
def OkN (C : List Value) (r op view : Int) : Prop := ∃ a k F S N me, PlI C a k F S N me ∧ (0 ≤ r → r < (N : Int) → ∀ j, a ≤ j → j < a + k → ¬ Mt F S r.toNat op view j)
def OkY (C : List Value) (r op view : Int) (C' : List Value) : Prop := ∃ a k F S N me j, PlI C a k F S N me ∧ 0 ≤ r ∧ r < (N : Int) ∧ a ≤ j ∧ j < a + k ∧ Mt F S r.toNat op view j ∧ C' = splice C (j * 18 + 17) [.int .u8 ((withN (S j) r.toNat : Nat) : Int)]
def okT (C' : List Value) : TFun := fun f args h nx tp => bif Nat.beq f 11 then some (match args, tp with
  | [.pointer (some ⟨m, 0, none⟩), .int .i64 r, .int .i64 op, .int .i64 view], b :: tp' => (match lk h m with
    | some ⟨.shut, C⟩ => bif b then .ok ((.bool true, (m, ⟨.shut, C'⟩) :: delH h m, nx + 1, [m]), tp', [OkY C r op view C']) else .ok ((.bool false, (m, ⟨.shut, C⟩) :: delH h m, nx + 1, [m]), tp', [OkN C r op view])
    | _ => .no)
  | _, _ => .no) else none
theorem okT_one (C' : List Value) : TOneZ Try.prog (okT C') := by
  intro f args h nx tp out tp' ob e ho
  unfold okT at e
  rcases bif_or e with ⟨hf, e1⟩ | ⟨_, e1⟩
  case inr => cases e1
  clear e
  obtain rfl := Nat.eq_of_beq_eq_true hf
  have e := Option.some.inj e1
  clear e1
  split at e
  case h_2 => cases e
  rename_i m r op view b tp0
  split at e
  case h_2 => cases e
  rename_i C hl
  have fl0 : ∀ σ, renL σ [Value.int .i64 r, .int .i64 op, .int .i64 view] = some [Value.int .i64 r, .int .i64 op, .int .i64 view] := fun σ => rfl
  cases b with
  | true =>
    simp only [cond_true, Res.ok.injEq, Prod.mk.injEq] at e
    obtain ⟨rfl, rfl, rfl⟩ := e
    obtain ⟨⟨a, k, F, S, N, me, j, hI, r0, r1, j0, j1, hM, rfl⟩, _⟩ := ho
    have hnn := hI.nn
    have q7 : r.toNat < 7 := by omega
    have hr : ((r.toNat : Nat) : Int) = r := Int.toNat_of_nonneg r0
    have hok := hI.ok (i := j - a) (s := withN (S j) r.toNat) (by omega) (wi_lt (hI.st j j0 j1) q7)
    rw [show a + (j - a) = j by omega] at hok
    have hL : OkLY Try.prog C (splice C (j * 18 + 17) [.int .u8 ((withN (S j) r.toNat : Nat) : Int)]) r op view := fun inr h0 => by
      have := ok_yes (inr := inr) (o := intAt C 290) hI q7 j1 hM h0 (j - a) 0 (by omega)
      rw [hr] at this
      rw [hI.f1]
      exact this
    obtain ⟨h1, nx1, d1, T, hl1⟩ := run_row (poV_X 0 false _) (poV_T 0 false _) (L_okV (L := alL Try.prog (spOk Try.prog C _ r op view)) rfl (mkL_ok (spOk_ok C _ r op view hok.fl))) (ok_ye C _ r op view) ⟨hI.g2, by rw [hI.f2]; exact beq_eq_false_iff_ne.2 (by omega), decide_eq_false (by omega), hI.g2, by rw [hI.f2]; exact decide_eq_false (by omega), hI.g1, rfl, rfl, rfl, rfl, ⟨hI.fl, hL⟩, trivial⟩ rfl
    exact row_tri T hl1 fl0 hI.fl hok.fl (fun σ => rfl) hl
  | false =>
    simp only [cond_false, Res.ok.injEq, Prod.mk.injEq] at e
    obtain ⟨rfl, rfl, rfl⟩ := e
    obtain ⟨⟨a, k, F, S, N, me, hI, hno⟩, _⟩ := ho
    have hnn := hI.nn
    have n0 : (intAt C 290 == 0) = false := by rw [hI.f2]; exact beq_eq_false_iff_ne.2 (by omega)
    by_cases c0 : r < 0
    · obtain ⟨h1, nx1, d1, T, hl1⟩ := run_row (poV_X 0 false _) (poV_T 0 false _) (poV_L 0 false) (ok_neg C r op view) ⟨hI.g2, n0, decide_eq_true c0, trivial⟩ rfl
      exact row_tri T hl1 fl0 hI.fl hI.fl (fun σ => rfl) hl
    by_cases c1 : r ≥ intAt C 290
    · obtain ⟨h1, nx1, d1, T, hl1⟩ := run_row (poV_X 0 false _) (poV_T 0 false _) (poV_L 0 false) (ok_big C r op view) ⟨hI.g2, n0, decide_eq_false c0, hI.g2, decide_eq_true c1, trivial⟩ rfl
      exact row_tri T hl1 fl0 hI.fl hI.fl (fun σ => rfl) hl
    have c2 : r < (N : Int) := by rw [hI.f2] at c1; omega
    have q7 : r.toNat < 7 := by omega
    have hr : ((r.toNat : Nat) : Int) = r := Int.toNat_of_nonneg (by omega)
    have hL : OkLN Try.prog C r op view := fun inr h0 => by
      have := ok_none (inr := inr) (o := intAt C 290) (op := op) (view := view) hI q7 h0 k 0 (by omega) (fun j h1 h2 => hno (by omega) c2 j (by omega) h2)
      rw [hr] at this
      rw [hI.f1]
      exact this
    obtain ⟨h1, nx1, d1, T, hl1⟩ := run_row (poV_X 0 false _) (poV_T 0 false _) (L_okV (L := alL Try.prog (spOk Try.prog C C r op view)) rfl (mkL_ok (spOk_ok C C r op view hI.fl))) (ok_no C C r op view) ⟨hI.g2, n0, decide_eq_false c0, hI.g2, decide_eq_false c1, hI.g1, rfl, rfl, rfl, rfl, ⟨hI.fl, hL⟩, trivial⟩ rfl
    exact row_tri T hl1 fl0 hI.fl hI.fl (fun σ => rfl) hl
end Go.Proofs.Ythbcemcgbgoplaa
