/-
  Chapter 26: the statement PipelineOrder: Heads as a contract (how many there are).
-/
import Derived.Test.YthbcemcgbgoplaaPoG
namespace Go.Proofs.Ythbcemcgbgoplaa
set_option linter.unusedSimpArgs false
set_option linter.unusedVariables false
set_option linter.unusedSectionVars false
open Go Go.RowKit
def hdV (k : Nat) : Value := .slice (some ⟨5, 0, none⟩) k (capBig + 5)
def hdF (P : Program) (k : Nat) (C : List Value) : Hp := [(4, hdR P .ready none), (3, ⟨.marks, []⟩), (2, ⟨.shut, [pp 0 0]⟩), (1, ⟨.shut, [hdV k]⟩), (0, ⟨.shut, C⟩)]
section
variable {C : List Value} {a k : Nat} {F : Int} {S : Nat → Nat} {N me : Nat} {inr : Bool}
theorem hd_more (h : PlI C a k F S N me) (h0 : Hp) : ∀ (rem i : Nat) (X : List Value), i + rem = k → X.length = i * 2 → Fl X →
    LRuns inr Try.prog (alB Try.prog) 5 20 h0 26 (hdS (k : Int) (i : Int)) (hdH Try.prog (hdV i) C [(5, ⟨.room 2 hdZ, X⟩)]) 6 (.exit 0, [], hdF Try.prog k C)
  | 0, i, X, hr, hl, hX => by
      obtain rfl : i = k := by omega
      refine LRuns.exit (code_runs (poV_X 0 _ _) (poV_L 0 _) (runZ_ok (poV_X 0 _ _) (poV_T 0 _ _) (poV_L 0 _) mixed 9) mixed (hd_e1 inr (i : Int) i C X) ⟨decide_eq_false (by omega), trivial⟩) (by intro e; cases e) rfl (by omega) (by omega) (fun n => n) trivial ?_ rfl
      exact ⟨rb_rec rfl rfl rfl, rb_rec rfl rfl trivial, ⟨2, _, rfl, rfl, rfl, rfl, .inl rfl⟩, ⟨1, _, rfl, rfl, rfl, rfl, .inl (renL_mk (rb_slg rfl rfl) rfl)⟩, rb_row rfl rfl rfl rfl h.fl, trivial⟩
  | rem + 1, i, X, hr, hl, hX => by
      have hi : i < k := by omega
      have ak := h.ak
      have e5 : C[Int.toNat (mdI (adI (intAt C 288) (i : Int)) 16) * 18 + 0 + 0 + 5]? = some (.int .i64 (intAt C (Int.toNat (mdI (adI (intAt C 288) (i : Int)) 16) * 18 + 0 + 0 + 5))) := by rw [h.pos hi, int_at (h.op hi)]; exact h.op hi
      have e3 : C[Int.toNat (mdI (adI (intAt C 288) (i : Int)) 16) * 18 + 0 + 0 + 3]? = some (.int .i64 (intAt C (Int.toNat (mdI (adI (intAt C 288) (i : Int)) 16) * 18 + 0 + 0 + 3))) := by rw [h.pos hi, int_at (h.vw hi)]; exact h.vw hi
      have nx := hd_more h h0 rem (i + 1) (X ++ [.int .i64 (intAt C (Int.toNat (mdI (adI (intAt C 288) (i : Int)) 16) * 18 + 0 + 0 + 5)), .int .i64 (intAt C (Int.toNat (mdI (adI (intAt C 288) (i : Int)) 16) * 18 + 0 + 0 + 3))]) (by omega) (by rw [List.length_append, hl]; simp only [List.length_cons, List.length_nil]; omega) (fl_app hX (Fl.of rfl))
      refine LRuns.step (code_runs (poV_X 0 _ _) (poV_L 0 _) (runZ_ok (poV_X 0 _ _) (poV_T 0 _ _) (poV_L 0 _) mixed 9) mixed (hd_1 inr (k : Int) i C X) ⟨decide_eq_true (by omega), h.g0, h.o2 hi, h.o3 hi, h.o4 hi, e5, e3, rfl, hl, ⟨by omega, by omega⟩, by omega, rfl, rgn (by omega), trivial⟩) rfl (by omega) (by omega) (fun _ => 7) ?_ ?_ rfl nx
      · exact ⟨rfl, rfl, rfl, rfl, rfl, rfl, rfl, rfl, trivial⟩
      · exact ⟨rb_rec rfl rfl rfl, rb_rec rfl rfl trivial, ⟨2, _, rfl, rfl, rfl, rfl, .inl rfl⟩, ⟨1, _, rfl, rfl, rfl, rfl, .inl (renL_mk (rb_slg rfl rfl) rfl)⟩, rb_row rfl rfl rfl rfl h.fl, rb_row (m := 7) rfl rfl rfl rfl (fl_app hX (Fl.of rfl)), trivial⟩
theorem hd_some (h : PlI C a k F S N me) (h0 : Hp) (hk : 0 < k) :
    LRuns inr Try.prog (alB Try.prog) 5 20 h0 26 (hdS (k : Int) 0) (hdH Try.prog (.slice none 0 0) C []) 5 (.exit 0, [], hdF Try.prog k C) := by
  have hi : 0 < k := hk
  have ak := h.ak
  have e5 : C[Int.toNat (mdI (adI (intAt C 288) ((0 : Nat) : Int)) 16) * 18 + 0 + 0 + 5]? = some (.int .i64 (intAt C (Int.toNat (mdI (adI (intAt C 288) ((0 : Nat) : Int)) 16) * 18 + 0 + 0 + 5))) := by rw [h.pos hi, int_at (h.op hi)]; exact h.op hi
  have e3 : C[Int.toNat (mdI (adI (intAt C 288) ((0 : Nat) : Int)) 16) * 18 + 0 + 0 + 3]? = some (.int .i64 (intAt C (Int.toNat (mdI (adI (intAt C 288) ((0 : Nat) : Int)) 16) * 18 + 0 + 0 + 3))) := by rw [h.pos hi, int_at (h.vw hi)]; exact h.vw hi
  have nx := hd_more (inr := inr) h h0 (k - 1) 1 [.int .i64 (intAt C (Int.toNat (mdI (adI (intAt C 288) ((0 : Nat) : Int)) 16) * 18 + 0 + 0 + 5)), .int .i64 (intAt C (Int.toNat (mdI (adI (intAt C 288) ((0 : Nat) : Int)) 16) * 18 + 0 + 0 + 3))] (by omega) rfl (Fl.of rfl)
  refine LRuns.stepTo (N := 5) (N' := 6) (code_runs (poV_X 0 _ _) (poV_L 0 _) (runZ_ok (poV_X 0 _ _) (poV_T 0 _ _) (poV_L 0 _) mixed 9) mixed (hd_0 inr (k : Int) 0 C) ⟨decide_eq_true (by omega), h.g0, h.o2 hi, h.o3 hi, h.o4 hi, e5, e3, by omega, ⟨by omega, by omega⟩, by omega, rfl, rgn (by omega), trivial⟩) rfl (by omega) (by omega) (by omega) (by omega) (fun _ => 6) ?_ ?_ rfl nx
  · exact ⟨rfl, rfl, rfl, rfl, rfl, rfl, rfl, rfl, trivial⟩
  · exact ⟨rb_rec rfl rfl rfl, rb_rec rfl rfl trivial, ⟨2, _, rfl, rfl, rfl, rfl, .inl rfl⟩, ⟨1, _, rfl, rfl, rfl, rfl, .inl (renL_mk (rb_slg rfl rfl) rfl)⟩, rb_row rfl rfl rfl rfl h.fl, rb_row (m := 6) rfl rfl rfl rfl (Fl.of rfl), trivial⟩
theorem hd_none (h : PlI C a 0 F S N me) (h0 : Hp) :
    LRuns inr Try.prog (alB Try.prog) 5 20 h0 26 (hdS 0 0) (hdH Try.prog (.slice none 0 0) C []) 5 (.exit 0, [], hdH Try.prog (.slice none 0 0) C []) := by
  refine LRuns.exit (code_runs (poV_X 0 _ _) (poV_L 0 _) (runZ_ok (poV_X 0 _ _) (poV_T 0 _ _) (poV_L 0 _) mixed 9) mixed (hd_e0 inr 0 0 C) ⟨rfl, trivial⟩) (by intro e; cases e) rfl (by omega) (by omega) (fun n => n) trivial ?_ rfl
  exact ⟨rb_rec rfl rfl rfl, rb_rec rfl rfl trivial, ⟨2, _, rfl, rfl, rfl, rfl, .inl rfl⟩, ⟨1, _, rfl, rfl, rfl, rfl, .inl rfl⟩, rb_row rfl rfl rfl rfl h.fl, trivial⟩
end
def HdL (P : Program) (C : List Value) (hp : Hp) : Prop := ∀ inr h0, LRuns inr P (alB P) 5 20 h0 26 (hdS (intAt C 289) 0) (hdH P (.slice none 0 0) C []) 5 (.exit 0, [], hp)
def spHd (P : Program) (C : List Value) (k : Nat) : LSpec := lspec (fun _ _ => some ()) (fun _ => (hdS (intAt C 289) 0, hdH P (.slice none 0 0) C [], 5))
  (fun _ tp => match tp with
    | true :: tp' => some ((.exit 0, [], hdF P k C, 20, [1]), tp', [Fl C ∧ HdL P C (hdF P k C)])
    | false :: tp' => some ((.exit 0, [], hdH P (.slice none 0 0) C [], 20, []), tp', [Fl C ∧ HdL P C (hdH P (.slice none 0 0) C [])])
    | [] => none)
theorem spHd_ok (C : List Value) (k : Nat) : LSOk Try.prog 26 [0, 1, 7, 8] (alB Try.prog) (spHd Try.prog C k) := by
  refine lspec_ok fun a tp xt l2 h2 nx2 d tp' ob hs ho inr ts hn hg => ?_
  simp only at hs hg
  split at hs
  · simp only [Option.some.injEq, Prod.mk.injEq] at hs
    obtain ⟨⟨rfl, rfl, rfl, rfl, rfl⟩, rfl, rfl⟩ := hs
    obtain ⟨⟨hF, hL⟩, _⟩ := ho
    have key := hL inr (hdH Try.prog (.slice none 0 0) C [])
    refine LRuns.enter (N := 5) (l2 := hdS (intAt C 289) 0) (h2 := hdH Try.prog (.slice none 0 0) C []) hn hg (Nat.le_refl 5) (by omega) (fun n => n) ?_ ?_ rfl key ?_
    · exact ⟨rfl, rfl, rfl, rfl, rfl, rfl, rfl, rfl, trivial⟩
    · exact ⟨rb_rec rfl rfl rfl, rb_rec rfl rfl trivial, ⟨2, _, rfl, rfl, rfl, rfl, .inl rfl⟩, ⟨1, _, rfl, rfl, rfl, rfl, .inl rfl⟩, rb_row rfl rfl rfl rfl hF, trivial⟩
    ·
      refine tidy_of (by omega) (fun m hm hd => ?_) rfl
      (try simp only [List.mem_cons, List.not_mem_nil, or_false, not_or] at hd)
      have hm2 : m < 5 := hm
      simp only [hdF, hdH, List.append_nil, lk_cons, lk_nil]
      repeat' split
      all_goals first | rfl | (exfalso; omega)
  · simp only [Option.some.injEq, Prod.mk.injEq] at hs
    obtain ⟨⟨rfl, rfl, rfl, rfl, rfl⟩, rfl, rfl⟩ := hs
    obtain ⟨⟨hF, hL⟩, _⟩ := ho
    have key := hL inr (hdH Try.prog (.slice none 0 0) C [])
    refine LRuns.enter (N := 5) (l2 := hdS (intAt C 289) 0) (h2 := hdH Try.prog (.slice none 0 0) C []) hn hg (Nat.le_refl 5) (by omega) (fun n => n) ?_ ?_ rfl key ?_
    · exact ⟨rfl, rfl, rfl, rfl, rfl, rfl, rfl, rfl, trivial⟩
    · exact ⟨rb_rec rfl rfl rfl, rb_rec rfl rfl trivial, ⟨2, _, rfl, rfl, rfl, rfl, .inl rfl⟩, ⟨1, _, rfl, rfl, rfl, rfl, .inl rfl⟩, rb_row rfl rfl rfl rfl hF, trivial⟩
    ·
      refine tidy_of (by omega) (fun m hm hd => ?_) rfl
      (try simp only [List.mem_cons, List.not_mem_nil, or_false, not_or] at hd)
      have hm2 : m < 5 := hm
      simp only [hdF, hdH, List.append_nil, lk_cons, lk_nil]
      repeat' split
      all_goals first | rfl | (exfalso; omega)
  · cases hs
theorem hd_ye (C : List Value) (k : Nat) : prjR 0 (runZ (poV 0 true (alL Try.prog (spHd Try.prog C k))) Try.prog 6 14 [pp 0 0] [(0, ⟨.shut, C⟩)] 1 [false, true]) =
  Res.ok ((Value.slice (some (Addr.mk 5 0 none)) k (capBig + 5), Rw.mk Kd.shut C), [], [C[290]? = some (Value.int IntKind.i64 (intAt C 290)), (intAt C 290 == (0 : Int)) = false, C[289]? = some (Value.int IntKind.i64 (intAt
 C 289)), alB Try.prog = alB Try.prog, [(0, Value.func (Fn.yield 4) (Array.mk []) (Array.mk [])), (1, Value.pointer (some (Addr.mk 2 0 none))), (7, Value.int IntKind.i64 (intAt C 289)), (8, Value.int IntKind.i64 (0 :
 Int))] = hdS (intAt C 289) (0 : Int), [(4, hdR Try.prog LoopState.ready none ), (3, Rw.mk Kd.marks []), (2, Rw.mk Kd.shut [Value.pointer (some (Addr.mk 0 0 none))]), (1, Rw.mk Kd.shut [Value.slice none 0 0]), (0, Rw.mk
 Kd.shut C)] = hdH Try.prog (Value.slice none 0 0) C [], 5 = 5, Fl C ∧ HdL Try.prog C (hdF Try.prog k C)]) := by kernel_rfl
theorem hd_no (C : List Value) (k : Nat) : prjR 0 (runZ (poV 0 true (alL Try.prog (spHd Try.prog C k))) Try.prog 6 14 [pp 0 0] [(0, ⟨.shut, C⟩)] 1 [false, false]) =
  Res.ok ((Value.slice none 0 0, Rw.mk Kd.shut C), [], [C[290]? = some (Value.int IntKind.i64 (intAt C 290)), (intAt C 290 == (0 : Int)) = false, C[289]? = some (Value.int IntKind.i64 (intAt C 289)), alB Try.prog = alB
 Try.prog, [(0, Value.func (Fn.yield 4) (Array.mk []) (Array.mk [])), (1, Value.pointer (some (Addr.mk 2 0 none))), (7, Value.int IntKind.i64 (intAt C 289)), (8, Value.int IntKind.i64 (0 : Int))] = hdS (intAt C 289) (0 :
 Int), [(4, hdR Try.prog LoopState.ready none ), (3, Rw.mk Kd.marks []), (2, Rw.mk Kd.shut [Value.pointer (some (Addr.mk 0 0 none))]), (1, Rw.mk Kd.shut [Value.slice none 0 0]), (0, Rw.mk Kd.shut C)] = hdH Try.prog
 (Value.slice none 0 0) C [], 5 = 5, Fl C ∧ HdL Try.prog C (hdH Try.prog (Value.slice none 0 0) C [])]) := by kernel_rfl
def HdY (C : List Value) (k : Nat) : Prop := 0 < k ∧ ∃ a F S N me, PlI C a k F S N me
def HdN (C : List Value) : Prop := ∃ a F S N me, PlI C a 0 F S N me
def hdT (k : Nat) : TFun := fun f args h nx tp => bif Nat.beq f 14 then some (match args, tp with
  | [.pointer (some ⟨m, 0, none⟩)], b :: tp' => (match lk h m with
    | some ⟨.shut, C⟩ => bif b then .ok ((.slice (some ⟨nx, 0, none⟩) k (capBig + nx), (m, ⟨.shut, C⟩) :: delH h m, nx + 1, [m]), tp', [HdY C k]) else .ok ((.slice none 0 0, (m, ⟨.shut, C⟩) :: delH h m, nx + 1, [m]), tp', [HdN C])
    | _ => .no)
  | _, _ => .no) else none
theorem hdT_one (k : Nat) : TOneZ Try.prog (hdT k) := by
  intro f args h nx tp out tp' ob e ho
  unfold hdT at e
  rcases bif_or e with ⟨hf, e1⟩ | ⟨_, e1⟩
  case inr => cases e1
  clear e
  obtain rfl := Nat.eq_of_beq_eq_true hf
  have e := Option.some.inj e1
  clear e1
  split at e
  case h_2 => cases e
  rename_i m b tp0
  split at e
  case h_2 => cases e
  rename_i C hl
  have hX := poV_X 0 true (alL Try.prog (spHd Try.prog C k))
  have hT := poV_T 0 true (alL Try.prog (spHd Try.prog C k))
  have hLL : LOkZ (poV 0 true (alL Try.prog (spHd Try.prog C k))) Try.prog := L_okV (L := alL Try.prog (spHd Try.prog C k)) rfl (mkL_ok (spHd_ok C k))
  cases b with
  | true =>
    simp only [cond_true, Res.ok.injEq, Prod.mk.injEq] at e
    obtain ⟨rfl, rfl, rfl⟩ := e
    obtain ⟨⟨hk, a, F, S, N, me, hI⟩, _⟩ := ho
    have hnn := hI.nn
    have n0 : (intAt C 290 == 0) = false := by rw [hI.f2]; exact beq_eq_false_iff_ne.2 (by omega)
    have hL : HdL Try.prog C (hdF Try.prog k C) := fun inr h0 => by rw [hI.f1]; exact hd_some hI h0 hk
    obtain ⟨h1, nx1, d1, T, hl1⟩ := run_row hX hT hLL (hd_ye C k) ⟨hI.g2, n0, hI.g1, rfl, rfl, rfl, rfl, ⟨hI.fl, hL⟩, trivial⟩ rfl
    exact row_tri_sl T hl1 (fun σ => rfl) hI.fl hI.fl hl
  | false =>
    simp only [cond_false, Res.ok.injEq, Prod.mk.injEq] at e
    obtain ⟨rfl, rfl, rfl⟩ := e
    obtain ⟨⟨a, F, S, N, me, hI⟩, _⟩ := ho
    have hnn := hI.nn
    have n0 : (intAt C 290 == 0) = false := by rw [hI.f2]; exact beq_eq_false_iff_ne.2 (by omega)
    have hL : HdL Try.prog C (hdH Try.prog (.slice none 0 0) C []) := fun inr h0 => by rw [hI.f1]; exact hd_none hI h0
    obtain ⟨h1, nx1, d1, T, hl1⟩ := run_row hX hT hLL (hd_no C k) ⟨hI.g2, n0, hI.g1, rfl, rfl, rfl, rfl, ⟨hI.fl, hL⟩, trivial⟩ rfl
    exact row_tri T hl1 (fun σ => rfl) hI.fl hI.fl (fun σ => rfl) hl
end Go.Proofs.Ythbcemcgbgoplaa
