/-
  Chapter 26: the statement PipelineOrder: its loops as they are entered; the whole law, run (written by wip/tools/gen_pom.py).
-/
import Derived.Test.YthbcemcgbgoplaaPoL
namespace Go.Proofs.Ythbcemcgbgoplaa
set_option linter.unusedSimpArgs false
set_option linter.unusedVariables false
set_option linter.unusedSectionVars false
open Go Go.RowKit
def Lp1 (P : Program) (n me f : Int) (m : Nat) (t : Value) (C C2 H H2 : List Value) (tl : Hp) : Prop := ∀ inr h0, LRuns inr P (pB1 P) 7 40 h0 213 (p1S n me f m t 0) ((6, ⟨.shut, H⟩) :: (5, ⟨.shut, C⟩) :: tl) 7 (.exit 0, p1X n f m t, (6, ⟨.shut, H2⟩) :: (5, ⟨.shut, C2⟩) :: tl)
def spP1n (P : Program) (n me f : Int) (m : Nat) (C C2 H H2 : List Value) : LSpec := lspec (fun _ _ => some ()) (fun _ => (p1S n me f m (.slice none 0 0) 0, [(6, ⟨.shut, H⟩), (5, ⟨.shut, C⟩)], 7))
  (fun _ tp => some ((.exit 0, p1X n f m (.slice none 0 0), [(6, ⟨.shut, H2⟩), (5, ⟨.shut, C2⟩)], 40, [5, 6]), tp, [Fl C ∧ Fl H ∧ Lp1 P n me f m (.slice none 0 0) C C2 H H2 []]))
def spP1s (P : Program) (n me f : Int) (m c d : Nat) (ns C C2 H H2 : List Value) : LSpec := lspec (fun _ _ => some ()) (fun _ => (p1S n me f m (tV c d) 0, [(6, ⟨.shut, H⟩), (5, ⟨.shut, C⟩), (4, ⟨.old, ns⟩)], 7))
  (fun _ tp => some ((.exit 0, p1X n f m (tV c d), [(6, ⟨.shut, H2⟩), (5, ⟨.shut, C2⟩), (4, ⟨.old, ns⟩)], 40, [5, 6]), tp, [Fl C ∧ Fl H ∧ Fl ns ∧ m ≤ 16 ∧ d ≤ 9223372036854775807 ∧ Lp1 P n me f m (tV c d) C C2 H H2 [(4, ⟨.old, ns⟩)]]))
def Lp2 (P : Program) (n f : Int) (m c d : Nat) (C H ns : List Value) : Prop := ∀ inr h0, LRuns inr P (pB2 P) 40 200 h0 213 (p2S n f m c d 0 0) (pH C H ns) 40 (.exit 2, [(11, .bool true)], [])
def spP2 (P : Program) (n f : Int) (m c d : Nat) (C H ns : List Value) : LSpec := lspec (fun _ _ => some ()) (fun _ => (p2S n f m c d 0 0, [(6, ⟨.shut, H⟩), (5, ⟨.shut, C⟩), (4, ⟨.old, ns⟩)], 40))
  (fun _ tp => some ((.exit 2, [(11, .bool true)], [], 200, [4, 5, 6]), tp, [Fl C ∧ Fl H ∧ Fl ns ∧ m ≤ 16 ∧ d ≤ 9223372036854775807 ∧ Lp2 P n f m c d C H ns]))
def p1L (P : Program) (s : LSpec) : LFun := mkL 3 7 213 [0, 1, 2, 3, 4, 11, 12, 14, 15] (pB1 P) s
def p2L (P : Program) (s : LSpec) : LFun := mkL 3 14 213 [0, 2, 3, 4, 11, 12, 14, 16, 17] (pB2 P) s
theorem spP1n_ok (n me f : Int) (m : Nat) (hm : m ≤ 16) (C C2 H H2 : List Value) : LSOk Try.prog 213 [0, 1, 2, 3, 4, 11, 12, 14, 15] (pB1 Try.prog) (spP1n Try.prog n me f m C C2 H H2) := by
  refine lspec_ok fun _ tp xt l2 h2 nx2 d2 tp' ob hs ho inr ts hn hg => ?_
  simp only at hs hg
  simp only [Option.some.injEq, Prod.mk.injEq] at hs
  obtain ⟨⟨rfl, rfl, rfl, rfl, rfl⟩, rfl, rfl⟩ := hs
  obtain ⟨⟨hC, hH, hL⟩, _⟩ := ho
  have key := hL inr [(6, ⟨.shut, H⟩), (5, ⟨.shut, C⟩)]
  refine LRuns.enter (N := 7) (l2 := p1S n me f m (.slice none 0 0) 0) (h2 := [(6, ⟨.shut, H⟩), (5, ⟨.shut, C⟩)]) hn hg (Nat.le_refl 7) (by omega) (fun n => n) ?_ ?_ rfl key ?_
  · exact ⟨rfl, rfl, rfl, rfl, rfl, rfl, rfl, rfl, rfl, rfl, rfl, rfl, rfl, rb_ptr rfl, rfl, rb_slc rfl (by unfold capBig; omega), rfl, rfl, trivial⟩
  · exact ⟨rb_row rfl rfl rfl rfl hH, rb_row rfl rfl rfl rfl hC, trivial⟩
  ·
    refine tidy_of (by omega) (fun q hq hd => ?_) rfl
    simp only [List.mem_cons, List.not_mem_nil, or_false] at hd
    simp only [pH, lk_cons, lk_nil]
    repeat' split
    all_goals first | rfl | (exfalso; omega)
theorem spP1s_ok (n me f : Int) (m c d : Nat) (ns C C2 H H2 : List Value) : LSOk Try.prog 213 [0, 1, 2, 3, 4, 11, 12, 14, 15] (pB1 Try.prog) (spP1s Try.prog n me f m c d ns C C2 H H2) := by
  refine lspec_ok fun _ tp xt l2 h2 nx2 d2 tp' ob hs ho inr ts hn hg => ?_
  simp only at hs hg
  simp only [Option.some.injEq, Prod.mk.injEq] at hs
  obtain ⟨⟨rfl, rfl, rfl, rfl, rfl⟩, rfl, rfl⟩ := hs
  obtain ⟨⟨hC, hH, hns, hm, hd, hL⟩, _⟩ := ho
  have key := hL inr [(6, ⟨.shut, H⟩), (5, ⟨.shut, C⟩), (4, ⟨.old, ns⟩)]
  refine LRuns.enter (N := 7) (l2 := p1S n me f m (tV c d) 0) (h2 := [(6, ⟨.shut, H⟩), (5, ⟨.shut, C⟩), (4, ⟨.old, ns⟩)]) hn hg (Nat.le_refl 7) (by omega) (fun n => n) ?_ ?_ rfl key ?_
  · exact ⟨rfl, rfl, rfl, rfl, rfl, rfl, rfl, rfl, rfl, rb_slc rfl (by unfold capBig; omega), rfl, rfl, rfl, rb_ptr rfl, rfl, rb_slc rfl (by unfold capBig; omega), rfl, rfl, trivial⟩
  · exact ⟨rb_row rfl rfl rfl rfl hH, rb_row rfl rfl rfl rfl hC, rb_old (by omega) rfl hns, trivial⟩
  ·
    refine tidy_of (by omega) (fun q hq hd => ?_) rfl
    simp only [List.mem_cons, List.not_mem_nil, or_false] at hd
    simp only [pH, lk_cons, lk_nil]
    repeat' split
    all_goals first | rfl | (exfalso; omega)
theorem spP2_ok (n f : Int) (m c d : Nat) (C H ns : List Value) : LSOk Try.prog 213 [0, 2, 3, 4, 11, 12, 14, 16, 17] (pB2 Try.prog) (spP2 Try.prog n f m c d C H ns) := by
  refine lspec_ok fun _ tp xt l2 h2 nx2 d2 tp' ob hs ho inr ts hn hg => ?_
  simp only at hs hg
  simp only [Option.some.injEq, Prod.mk.injEq] at hs
  obtain ⟨⟨rfl, rfl, rfl, rfl, rfl⟩, rfl, rfl⟩ := hs
  obtain ⟨⟨hC, hH, hns, hm, hd, hL⟩, _⟩ := ho
  have key := hL inr [(6, ⟨.shut, H⟩), (5, ⟨.shut, C⟩), (4, ⟨.old, ns⟩)]
  refine LRuns.enter (N := 40) (l2 := p2S n f m c d 0 0) (h2 := pH C H ns) hn hg (Nat.le_refl 40) (by omega) (fun n => n) ?_ ?_ rfl key ?_
  · exact ⟨rfl, rfl, rfl, rfl, rfl, rfl, rfl, rb_slc rfl (by unfold capBig; omega), rfl, rfl, rfl, rb_ptr rfl, rfl, rb_slc rfl (by unfold capBig; omega), rfl, rfl, rfl, rfl, trivial⟩
  · exact ⟨rb_row rfl rfl rfl rfl hC, rb_row rfl rfl rfl rfl hH, rb_old (by omega) rfl hns, trivial⟩
  ·
    refine tidy_of (by omega) (fun q hq hd => ?_) rfl
    simp only [List.mem_cons, List.not_mem_nil, or_false] at hd
    simp only [pH, lk_cons, lk_nil]
    repeat' split
    all_goals first | rfl | (exfalso; omega)
theorem lw_n_e (n me f q : Int) : prjV (runZ (lwV [] 0 0 noL) Try.prog 9 3 [.int .i64 n, .int .i64 me, .int .i64 f, .int .i64 q, .slice none 0 0] [] 5 [false]) =
  Res.ok (Value.bool true, [], [¬NwIs n me]) := by kernel_rfl
theorem lw_s_e (n me f q : Int) (c d : Nat) (ns : List Value) : prjV (runZ (lwV [] 0 0 noL) Try.prog 9 3 [.int .i64 n, .int .i64 me, .int .i64 f, .int .i64 q, tV c d] [(4, ⟨.old, ns⟩)] 5 [false]) =
  Res.ok (Value.bool true, [], [¬NwIs n me]) := by kernel_rfl
theorem lw_n_f1 (n me f q : Int) : prjV (runZ (lwV [] 0 0 noL) Try.prog 9 3 [.int .i64 n, .int .i64 me, .int .i64 f, .int .i64 q, .slice none 0 0] [] 5 [true, true]) =
  Res.ok (Value.bool true, [], [NwIs n me, decide (f < (1 : Int)) = true]) := by kernel_rfl
theorem lw_s_f1 (n me f q : Int) (c d : Nat) (ns : List Value) : prjV (runZ (lwV [] 0 0 noL) Try.prog 9 3 [.int .i64 n, .int .i64 me, .int .i64 f, .int .i64 q, tV c d] [(4, ⟨.old, ns⟩)] 5 [true, true]) =
  Res.ok (Value.bool true, [], [NwIs n me, decide (f < (1 : Int)) = true]) := by kernel_rfl
theorem lw_n_f2 (n me f q : Int) : prjV (runZ (lwV [] 0 0 noL) Try.prog 9 3 [.int .i64 n, .int .i64 me, .int .i64 f, .int .i64 q, .slice none 0 0] [] 5 [true, false, true]) =
  Res.ok (Value.bool true, [], [NwIs n me, decide (f < (1 : Int)) = false, decide (f > (1073741824 : Int)) = true]) := by kernel_rfl
theorem lw_s_f2 (n me f q : Int) (c d : Nat) (ns : List Value) : prjV (runZ (lwV [] 0 0 noL) Try.prog 9 3 [.int .i64 n, .int .i64 me, .int .i64 f, .int .i64 q, tV c d] [(4, ⟨.old, ns⟩)] 5 [true, false, true]) =
  Res.ok (Value.bool true, [], [NwIs n me, decide (f < (1 : Int)) = false, decide (f > (1073741824 : Int)) = true]) := by kernel_rfl
theorem lw_n_m1 (n me f q : Int) : prjV (runZ (lwV [] 0 0 noL) Try.prog 9 3 [.int .i64 n, .int .i64 me, .int .i64 f, .int .i64 q, .slice none 0 0] [] 5 [true, false, false, true]) =
  Res.ok (Value.bool true, [], [NwIs n me, decide (f < (1 : Int)) = false, decide (f > (1073741824 : Int)) = false, decide (q < (1 : Int)) = true]) := by kernel_rfl
theorem lw_s_m1 (n me f q : Int) (c d : Nat) (ns : List Value) : prjV (runZ (lwV [] 0 0 noL) Try.prog 9 3 [.int .i64 n, .int .i64 me, .int .i64 f, .int .i64 q, tV c d] [(4, ⟨.old, ns⟩)] 5 [true, false, false, true]) =
  Res.ok (Value.bool true, [], [NwIs n me, decide (f < (1 : Int)) = false, decide (f > (1073741824 : Int)) = false, decide (q < (1 : Int)) = true]) := by kernel_rfl
theorem lw_n_m2 (n me f q : Int) : prjV (runZ (lwV [] 0 0 noL) Try.prog 9 3 [.int .i64 n, .int .i64 me, .int .i64 f, .int .i64 q, .slice none 0 0] [] 5 [true, false, false, false, true]) =
  Res.ok (Value.bool true, [], [NwIs n me, decide (f < (1 : Int)) = false, decide (f > (1073741824 : Int)) = false, decide (q < (1 : Int)) = false, decide (q > (16 : Int)) = true]) := by kernel_rfl
theorem lw_s_m2 (n me f q : Int) (c d : Nat) (ns : List Value) : prjV (runZ (lwV [] 0 0 noL) Try.prog 9 3 [.int .i64 n, .int .i64 me, .int .i64 f, .int .i64 q, tV c d] [(4, ⟨.old, ns⟩)] 5 [true, false, false, false, true]) =
  Res.ok (Value.bool true, [], [NwIs n me, decide (f < (1 : Int)) = false, decide (f > (1073741824 : Int)) = false, decide (q < (1 : Int)) = false, decide (q > (16 : Int)) = true]) := by kernel_rfl
theorem lw_s_long (n me f q : Int) (c d : Nat) (ns : List Value) : prjV (runZ (lwV [] 0 0 noL) Try.prog 9 3 [.int .i64 n, .int .i64 me, .int .i64 f, .int .i64 q, tV c d] [(4, ⟨.old, ns⟩)] 5 [true, false, false, false, false, true]) =
  Res.ok (Value.bool true, [], [NwIs n me, decide (f < (1 : Int)) = false, decide (f > (1073741824 : Int)) = false, decide (q < (1 : Int)) = false, decide (q > (16 : Int)) = false, decide ((↑c : Int) > (60 : Int)) = true]) := by kernel_rfl
theorem lw_n_go (n me f : Int) (m : Nat) (C2 H H2 : List Value) : prjV (runZ (lwV [] 0 0 (p1L Try.prog (spP1n Try.prog n me f m (C0 n me) C2 H H2))) Try.prog 9 3 [.int .i64 n, .int .i64 me, .int .i64 f, .int .i64 (m : Int), .slice none 0 0] [] 5 [true, false, false, false, false, false, false]) =
  Res.ok (Value.bool true, [], [NwIs n me, decide (f < (1 : Int)) = false, decide (f > (1073741824 : Int)) = false, decide ((↑m : Int) < (1 : Int)) = false, decide ((↑m : Int) > (16 : Int)) = false, false = false, (0 : Int)
 ≤ (↑m : Int) ∧ (↑m : Int) ≤ (↑m : Int) ∧ (8 : Int) * (↑m : Int) ≤ (281474976710656 : Int) ∧ (↑m : Int) ≤ (9223372036854775807 : Int), pB1 Try.prog = pB1 Try.prog, [(0, Value.int IntKind.i64 n), (1, Value.int IntKind.i64
 me), (2, Value.int IntKind.i64 f), (3, Value.int IntKind.i64 (↑m : Int)), (4, Value.slice none 0 0), (11, Value.bool true), (12, Value.pointer (some (Addr.mk 5 0 none))), (14, Value.slice (some (Addr.mk 6 0 none)) m m),
 (15, Value.int IntKind.i64 (0 : Int))] = p1S n me f m (Value.slice none 0 0) 0, (6, Rw.mk Kd.shut (zrep [Value.int IntKind.i64 (0 : Int)] m)) :: rowsN 5 [Rw.mk Kd.shut (C0 n me)] (rowsN 5 [] []) = [(6, Rw.mk Kd.shut H),
 (5, Rw.mk Kd.shut (C0 n me))], 7 = 7, Fl (C0 n me) ∧ Fl H ∧ Lp1 Try.prog n me f m (Value.slice none 0 0) (C0 n me) C2 H H2 [], false = false]) := by kernel_rfl
theorem lw_s_go (n me f : Int) (m c d : Nat) (ns C2 H H2 : List Value) : prjV (runZ (lwV [] 0 0 (orL (p1L Try.prog (spP1s Try.prog n me f m c d ns (C0 n me) C2 H H2)) (p2L Try.prog (spP2 Try.prog n f m c d C2 H2 ns)))) Try.prog 9 3 [.int .i64 n, .int .i64 me, .int .i64 f, .int .i64 (m : Int), tV c d] [(4, ⟨.old, ns⟩)] 5 [true, false, false, false, false, false]) =
  Res.ok (Value.bool true, [], [NwIs n me, decide (f < (1 : Int)) = false, decide (f > (1073741824 : Int)) = false, decide ((↑m : Int) < (1 : Int)) = false, decide ((↑m : Int) > (16 : Int)) = false, decide ((↑c : Int) > (60
 : Int)) = false, (0 : Int) ≤ (↑m : Int) ∧ (↑m : Int) ≤ (↑m : Int) ∧ (8 : Int) * (↑m : Int) ≤ (281474976710656 : Int) ∧ (↑m : Int) ≤ (9223372036854775807 : Int), pB1 Try.prog = pB1 Try.prog, [(0, Value.int IntKind.i64 n),
 (1, Value.int IntKind.i64 me), (2, Value.int IntKind.i64 f), (3, Value.int IntKind.i64 (↑m : Int)), (4, Value.slice (some (Addr.mk 4 0 none)) c d), (11, Value.bool true), (12, Value.pointer (some (Addr.mk 5 0 none))),
 (14, Value.slice (some (Addr.mk 6 0 none)) m m), (15, Value.int IntKind.i64 (0 : Int))] = p1S n me f m (Value.slice (some (Addr.mk 4 0 none)) c d) 0, (6, Rw.mk Kd.shut (zrep [Value.int IntKind.i64 (0 : Int)] m)) :: rowsN
 5 [Rw.mk Kd.shut (C0 n me)] (rowsN 5 [] [(4, Rw.mk Kd.old ns)]) = [(6, Rw.mk Kd.shut H), (5, Rw.mk Kd.shut (C0 n me)), (4, Rw.mk Kd.old ns)], 7 = 7, Fl (C0 n me) ∧ Fl H ∧ Fl ns ∧ m ≤ 16 ∧ d ≤ 9223372036854775807 ∧ Lp1
 Try.prog n me f m (Value.slice (some (Addr.mk 4 0 none)) c d) (C0 n me) C2 H H2 [(4, Rw.mk Kd.old ns)], pB2 Try.prog = pB2 Try.prog, [(0, Value.int IntKind.i64 n), (2, Value.int IntKind.i64 f), (3, Value.int IntKind.i64
 (↑m : Int)), (4, Value.slice (some (Addr.mk 4 0 none)) c d), (11, Value.bool true), (12, Value.pointer (some (Addr.mk 5 0 none))), (14, Value.slice (some (Addr.mk 6 0 none)) m m), (16, Value.int IntKind.i64 (0 : Int)),
 (17, Value.int IntKind.i64 (0 : Int))] = p2S n f m c d 0 0, [(6, Rw.mk Kd.shut H2), (5, Rw.mk Kd.shut C2), (4, Rw.mk Kd.old ns)] = [(6, Rw.mk Kd.shut H2), (5, Rw.mk Kd.shut C2), (4, Rw.mk Kd.old ns)], 40 = 40, Fl C2 ∧ Fl
 H2 ∧ Fl ns ∧ m ≤ 16 ∧ d ≤ 9223372036854775807 ∧ Lp2 Try.prog n f m c d C2 H2 ns]) := by kernel_rfl
theorem zrep_hs : ∀ m : Nat, zrep [.int .i64 0] m = hsL (fun _ => 0) m := fun m => by
  apply List.ext_getElem?
  intro q
  by_cases hq : q < m
  · rw [hs_get _ hq, zrep1, List.getElem?_replicate, if_pos hq]
    rfl
  · rw [List.getElem?_eq_none (by rw [zrep1, List.length_replicate]; omega), List.getElem?_eq_none (by rw [hs_len]; omega)]
theorem po_run {L : LFun} (h : LOne Try.prog L) {k : Nat} {args : List Value} {hp : Hp} {nx : Nat} {tp tp' : Tape} {v : Value} {ob : List Prop} (e : prjV (runZ (lwV [] 0 0 L) Try.prog k 3 args hp nx tp) = .ok (v, tp', ob)) (ho : Alls ob) : ∃ h' nx' d, Tri Try.prog 3 args hp nx (v, h', nx', d) :=
  run_val (lwV_X _ _ _ _) (lwV_T _ _ _ _) (L_okV rfl h) e ho rfl
theorem order_n (n me f q : Int) : ∃ h' nx' d, Tri Try.prog 3 [.int .i64 n, .int .i64 me, .int .i64 f, .int .i64 q, .slice none 0 0] [] 5 (.bool true, h', nx', d) := by
  by_cases hN : NwIs n me
  case neg => exact po_run noL_ok (lw_n_e n me f q) ⟨hN, trivial⟩
  by_cases f1 : f < 1
  · exact po_run noL_ok (lw_n_f1 n me f q) ⟨hN, decide_eq_true f1, trivial⟩
  by_cases f2 : f > 1073741824
  · exact po_run noL_ok (lw_n_f2 n me f q) ⟨hN, decide_eq_false f1, decide_eq_true f2, trivial⟩
  by_cases m1 : q < 1
  · exact po_run noL_ok (lw_n_m1 n me f q) ⟨hN, decide_eq_false f1, decide_eq_false f2, decide_eq_true m1, trivial⟩
  by_cases m2 : q > 16
  · exact po_run noL_ok (lw_n_m2 n me f q) ⟨hN, decide_eq_false f1, decide_eq_false f2, decide_eq_false m1, decide_eq_true m2, trivial⟩
  have hN0 := hN
  obtain ⟨n0, n1, n2⟩ := hN0
  obtain ⟨N, rfl⟩ : ∃ N : Nat, n = (N : Int) := ⟨n.toNat, by omega⟩
  obtain ⟨M, rfl⟩ : ∃ M : Nat, me = (M : Int) := ⟨me.toNat, by omega⟩
  obtain ⟨m, rfl⟩ : ∃ m : Nat, q = (m : Int) := ⟨q.toNat, by omega⟩
  have hn : N = 3 ∨ N = 5 ∨ N = 7 := by omega
  obtain ⟨C', S', g1, g2, g3⟩ := p1_n (F := f) (N := N) (me := M) (m := m) (by omega) (by omega) hn (by omega) m 0 (C0 (N : Int) (M : Int)) (fun _ => 0) (by omega) (C0_is hn (by omega) (by omega)) (fun _ _ => by omega)
  exact po_run (mkL_ok (spP1n_ok (N : Int) (M : Int) f m (by omega) (C0 (N : Int) (M : Int)) C' (hsL (fun _ => 0) m) (hsL S' m))) (lw_n_go (N : Int) (M : Int) f m C' (hsL (fun _ => 0) m) (hsL S' m))
    ⟨hN, decide_eq_false f1, decide_eq_false f2, decide_eq_false m1, decide_eq_false m2, rfl, by omega, rfl, rfl, by rw [zrep_hs]; rfl, rfl, ⟨C0_fl _ _, hs_fl _ _, fun inr h0 => g3 inr h0⟩, rfl, trivial⟩
theorem order_s (n me f q : Int) {c d : Nat} {ns : List Value} (hns : NsOk ns c) (hcd : c ≤ d ∧ d ≤ 9223372036854775807) : ∃ h' nx' e, Tri Try.prog 3 [.int .i64 n, .int .i64 me, .int .i64 f, .int .i64 q, tV c d] [(4, ⟨.old, ns⟩)] 5 (.bool true, h', nx', e) := by
  by_cases hN : NwIs n me
  case neg => exact po_run noL_ok (lw_s_e n me f q c d ns) ⟨hN, trivial⟩
  by_cases f1 : f < 1
  · exact po_run noL_ok (lw_s_f1 n me f q c d ns) ⟨hN, decide_eq_true f1, trivial⟩
  by_cases f2 : f > 1073741824
  · exact po_run noL_ok (lw_s_f2 n me f q c d ns) ⟨hN, decide_eq_false f1, decide_eq_true f2, trivial⟩
  by_cases m1 : q < 1
  · exact po_run noL_ok (lw_s_m1 n me f q c d ns) ⟨hN, decide_eq_false f1, decide_eq_false f2, decide_eq_true m1, trivial⟩
  by_cases m2 : q > 16
  · exact po_run noL_ok (lw_s_m2 n me f q c d ns) ⟨hN, decide_eq_false f1, decide_eq_false f2, decide_eq_false m1, decide_eq_true m2, trivial⟩
  by_cases c1 : (c : Int) > 60
  · exact po_run noL_ok (lw_s_long n me f q c d ns) ⟨hN, decide_eq_false f1, decide_eq_false f2, decide_eq_false m1, decide_eq_false m2, decide_eq_true c1, trivial⟩
  have hN0 := hN
  obtain ⟨n0, n1, n2⟩ := hN0
  obtain ⟨N, rfl⟩ : ∃ N : Nat, n = (N : Int) := ⟨n.toNat, by omega⟩
  obtain ⟨M, rfl⟩ : ∃ M : Nat, me = (M : Int) := ⟨me.toNat, by omega⟩
  obtain ⟨m, rfl⟩ : ∃ m : Nat, q = (m : Int) := ⟨q.toNat, by omega⟩
  have hn : N = 3 ∨ N = 5 ∨ N = 7 := by omega
  have hm : m ≤ 16 := by omega
  obtain ⟨C', S', g1, g2, g3⟩ := p1_s (F := f) (N := N) (me := M) (m := m) (c := c) hm (by omega) hn (by omega) hcd.2 hns.ints.fl m 0 (C0 (N : Int) (M : Int)) (fun _ => 0) (by omega) (C0_is hn (by omega) (by omega)) (fun _ _ => by omega)
  have l2 : Lp2 Try.prog (N : Int) f m c d C' (hsL S' m) ns := fun inr h0 => p2_all hm (by omega) hcd hns h0 c 0 0 C' S' (by omega) (by omega) g1 g2
  exact po_run (orL_ok (mkL_ok (spP1s_ok (N : Int) (M : Int) f m c d ns (C0 (N : Int) (M : Int)) C' (hsL (fun _ => 0) m) (hsL S' m))) (mkL_ok (spP2_ok (N : Int) f m c d C' (hsL S' m) ns))) (lw_s_go (N : Int) (M : Int) f m c d ns C' (hsL (fun _ => 0) m) (hsL S' m))
    ⟨hN, decide_eq_false f1, decide_eq_false f2, decide_eq_false m1, decide_eq_false m2, decide_eq_false c1, by omega, rfl, rfl, by rw [zrep_hs]; rfl, rfl, ⟨C0_fl _ _, hs_fl _ _, hns.ints.fl, hm, hcd.2, fun inr h0 => g3 inr h0⟩, rfl, rfl, rfl, rfl, ⟨g1.fl, hs_fl _ _, hns.ints.fl, hm, hcd.2, l2⟩, trivial⟩
theorem caps5 {a b c d e : Av} {cs : List Nat} (h : CapsOk [a, b, c, d, e] cs) : ∃ u v w x y, cs = [u, v, w, x, y] := by
  match cs, caps_len h with
  | [u, v, w, x, y], _ => exact ⟨u, v, w, x, y, rfl⟩
theorem order_any {W : World} {n me f q : Int} {v1 : Value} {a1 : Av} {q1 : Option (Addr × Nat)} {z1 : List (List Int)} (h1 : (a1 = .fl (.slice none 0 0) ∧ z1 = []) ∨ a1 = .sl (z1.map (cellsK [.i64, .i64])).flatten z1.length)
    (A1 : AvAt a1 v1 q1) (L1 : Lies W a1 q1) (w1 : ∀ zs ∈ z1, AllWf [.i64, .i64] zs) :
    Calls Try.prog 3 #[.int .i64 n, .int .i64 me, .int .i64 f, .int .i64 q, v1] W fun e w' => e = .returned (.bool true) ∧ Ext W w' := by
  have b1 : Ints .i64 (z1.map (cellsK [.i64, .i64])).flatten := flat_Ints (m := 2) w1
  have l1 : ((z1.map (cellsK [.i64, .i64])).flatten).length = z1.length * 2 := flat_len w1
  have ok : NsOk (z1.map (cellsK [.i64, .i64])).flatten z1.length := ⟨b1, l1, fun j hj => by
    have hg := b1.get (i := j) (by rw [l1]; exact hj)
    have e : j = j / 2 * 2 + j % 2 := by omega
    rw [e] at hg
    obtain ⟨zs, e1, e2⟩ := flat_get (ks := [.i64, .i64]) (j := j % 2) w1 (by show j % 2 < 2; omega) hg
    have hw := w1 zs (List.mem_of_getElem? e1)
    match zs, hw with
    | [x, y], hw =>
      rw [← e] at e2
      rcases (by omega : j % 2 = 0 ∨ j % 2 = 1) with h | h <;> rw [h] at e2 <;> simp only [cellsK, List.getElem?_cons_zero, List.getElem?_cons_succ, Option.some.injEq, Value.int.injEq, true_and] at e2
      · rw [← e2]; have := hw.1; simp [Lit.wf, IntKind.min, IntKind.max, IntKind.signed, IntKind.bits] at this; omega
      · rw [← e2]; have := hw.2.1; simp [Lit.wf, IntKind.min, IntKind.max, IntKind.signed, IntKind.bits] at this; omega⟩
  refine calls_sl (avs := [.fl (.int .i64 n), .fl (.int .i64 me), .fl (.int .i64 f), .fl (.int .i64 q), a1]) (vs := [.int .i64 n, .int .i64 me, .int .i64 f, .int .i64 q, v1]) (ps := [none, none, none, none, q1]) ⟨⟨rfl, fun σ => rfl, rfl⟩, ⟨rfl, fun σ => rfl, rfl⟩, ⟨rfl, fun σ => rfl, rfl⟩, ⟨rfl, fun σ => rfl, rfl⟩, A1, trivial⟩ ⟨(fun ad c e => by cases e), (fun ad c e => by cases e), (fun ad c e => by cases e), (fun ad c e => by cases e), L1, trivial⟩ (fun σ => rfl) fun cs hcs => ?_
  obtain ⟨c0, c1, c2, c3, d, rfl⟩ := caps5 hcs
  rcases h1 with ⟨rfl, rfl⟩ | rfl
  · exact order_n n me f q
  · exact order_s n me f q ok hcs.1
end Go.Proofs.Ythbcemcgbgoplaa
