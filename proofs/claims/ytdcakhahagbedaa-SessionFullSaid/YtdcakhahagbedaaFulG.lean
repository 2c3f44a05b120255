/-
  Chapter 22: the statement SessionFull: its loops as they are entered, proved; the whole law (written by wip/tools/gen_fulg.py).
-/
import Derived.Test.YtdcakhahagbedaaFulF
namespace Go.Proofs.Ytdcakhahagbedaa
set_option linter.unusedSimpArgs false
set_option linter.unusedVariables false
set_option linter.unusedSectionVars false
open Go Go.RowKit
theorem lk_nil (m : Nat) : lk [] m = none := rfl
theorem sspec_ok {P : Program} {n : Nat} {ks : List Nat} {body : Code} {α : Type} {pick : List (Nat × Value) → Hp → Option α} {S : α → List (Nat × Value) × Hp × Nat} {out : α → Tape → Option ((Xt × List (Nat × Value) × Hp × Nat × List Nat) × Tape × List Prop)}
    (H : ∀ a tp xt l2 h2 nx2 d tp' ob, out a tp = some ((xt, l2, h2, nx2, d), tp', ob) → Alls ob → ∀ inr ts, ts.n = n → getS ks ts = some (S a).1 → Runs inr (fun F m Q => body.wpIn F m P Q) ts (S a).2.1 (S a).2.2 (xt, SL n l2, h2, nx2, d, [])) : SSOk P n ks body (lspec pick S out) := by
  intro live h nx tp xt l2 h2 nx2 d tp' ob hs ho inr ts hn hg
  unfold lspec at hs
  split at hs
  case h_2 => cases hs
  rename_i a ha
  split at hs
  case h_2 => cases hs
  rename_i o tp2 ob2 hout
  simp only [Option.some.injEq, Prod.mk.injEq] at hs
  obtain ⟨rfl, rfl, rfl⟩ := hs
  obtain ⟨rfl, rfl, rfl, ho⟩ := ho
  exact H a tp _ _ _ _ _ _ _ hout ho inr ts hn hg
theorem spBn_ok (E X T1 : List Value) (L1 : List En) (bs : List Value) (hb : Fl bs) : LSOk Try.prog 204 [5, 10, 13, 14, 17, 18, 19] (fb1 Try.prog) (spB Try.prog E X T1 L1 []) := by
  refine lspec_ok fun tk tp xt l2 h2 nx2 d tp' ob hs ho inr ts hn hg => ?_
  simp only at hs hg
  simp only [Option.some.injEq, Prod.mk.injEq] at hs
  obtain ⟨⟨rfl, rfl, rfl, rfl, rfl⟩, rfl, rfl⟩ := hs
  obtain ⟨⟨rfl, hE, hX, hk, hL⟩, _⟩ := ho
  have key := (hL.2 inr ((13, ⟨.shut, yC Y1⟩) :: (12, tbL []) :: (boxes X E ++ []))).close
  unfold fbH at key
  rw [tb_kd L1] at key
  refine LRuns.enter (N := 14) (l2 := fbS tk 0) (h2 := fbH E X []) hn hg (Nat.le_refl 14) (by omega) (fun n => n) ?_ ?_ rfl key ?_
  · exact ⟨rfl, hk _ _, rfl, rb_ptr rfl, rfl, rfl, rfl, rb_slc rfl (by unfold capBig; omega), rfl, rb_ptr rfl, rfl, rb_slc rfl (by unfold capBig; omega), rfl, rfl, trivial⟩
  · exact ⟨sh_row rfl rfl hE, sh_row rfl rfl hX, tb_row rfl rfl, sh_row rfl rfl (yC_fl _), trivial⟩
  · show Tidy ((13, ⟨.shut, yC Y1⟩) :: (12, tbL []) :: (11, ⟨.shut, X⟩) :: (10, ⟨.shut, E⟩) :: (9, ⟨.shut, [.int .u64 (intAt X 6), .int .u64 (intAt X 7)]⟩) :: (8, ⟨.shut, [.int .u64 (intAt X 4), .int .u64 (intAt X 5)]⟩) :: (7, ⟨.shut, [.int .u64 (intAt X 2), .int .u64 (intAt X 3)]⟩) :: (6, ⟨.shut, [.int .u64 (intAt X 0), .int .u64 (intAt X 1)]⟩) :: []) 14 ((10, ⟨.shut, E⟩) :: (11, ⟨.shut, X⟩) :: (12, ⟨.shut, (tbL L1).cs⟩) :: (13, ⟨.shut, yC Y1⟩) :: []) 100 [6, 7, 8, 9, 12]
    refine tidy_of (by omega) (fun m hm hd => ?_) rfl
    (try simp only [List.mem_cons, List.not_mem_nil, or_false, not_or] at hd)
    have hm2 : m < 14 := hm
    simp only [lk_cons, lk_nil]
    repeat' split
    all_goals first | rfl | (exfalso; omega)
theorem spBs_ok (E X T1 : List Value) (L1 : List En) (bs : List Value) (hb : Fl bs) : LSOk Try.prog 204 [5, 10, 13, 14, 17, 18, 19] (fb1 Try.prog) (spB Try.prog E X T1 L1 [(5, ⟨.old, bs⟩)]) := by
  refine lspec_ok fun tk tp xt l2 h2 nx2 d tp' ob hs ho inr ts hn hg => ?_
  simp only at hs hg
  simp only [Option.some.injEq, Prod.mk.injEq] at hs
  obtain ⟨⟨rfl, rfl, rfl, rfl, rfl⟩, rfl, rfl⟩ := hs
  obtain ⟨⟨rfl, hE, hX, hk, hL⟩, _⟩ := ho
  have key := (hL.2 inr ((13, ⟨.shut, yC Y1⟩) :: (12, tbL []) :: (boxes X E ++ [(5, ⟨.old, bs⟩)]))).close
  unfold fbH at key
  rw [tb_kd L1] at key
  refine LRuns.enter (N := 14) (l2 := fbS tk 0) (h2 := fbH E X []) hn hg (Nat.le_refl 14) (by omega) (fun n => n) ?_ ?_ rfl key ?_
  · exact ⟨rfl, hk _ _, rfl, rb_ptr rfl, rfl, rfl, rfl, rb_slc rfl (by unfold capBig; omega), rfl, rb_ptr rfl, rfl, rb_slc rfl (by unfold capBig; omega), rfl, rfl, trivial⟩
  · exact ⟨sh_row rfl rfl hE, sh_row rfl rfl hX, tb_row rfl rfl, sh_row rfl rfl (yC_fl _), trivial⟩
  · show Tidy ((13, ⟨.shut, yC Y1⟩) :: (12, tbL []) :: (11, ⟨.shut, X⟩) :: (10, ⟨.shut, E⟩) :: (9, ⟨.shut, [.int .u64 (intAt X 6), .int .u64 (intAt X 7)]⟩) :: (8, ⟨.shut, [.int .u64 (intAt X 4), .int .u64 (intAt X 5)]⟩) :: (7, ⟨.shut, [.int .u64 (intAt X 2), .int .u64 (intAt X 3)]⟩) :: (6, ⟨.shut, [.int .u64 (intAt X 0), .int .u64 (intAt X 1)]⟩) :: [(5, ⟨.old, bs⟩)]) 14 ((10, ⟨.shut, E⟩) :: (11, ⟨.shut, X⟩) :: (12, ⟨.shut, (tbL L1).cs⟩) :: (13, ⟨.shut, yC Y1⟩) :: [(5, ⟨.old, bs⟩)]) 100 [6, 7, 8, 9, 12]
    refine tidy_of (by omega) (fun m hm hd => ?_) rfl
    (try simp only [List.mem_cons, List.not_mem_nil, or_false, not_or] at hd)
    have hm2 : m < 14 := hm
    simp only [lk_cons, lk_nil]
    repeat' split
    all_goals first | rfl | (exfalso; omega)
theorem spCs_ok (E X T1 T2 Y2 bs : List Value) (L1 L2 : List En) (Yf : Nat → Int) : LSOk Try.prog 204 [5, 10, 13, 14, 17, 18, 23] (fb2 Try.prog) (spCs Try.prog E X T1 T2 Y2 bs L1 L2 Yf) := by
  refine lspec_ok fun a tp xt l2 h2 nx2 d tp' ob hs ho inr ts hn hg => ?_
  obtain ⟨n, c⟩ := a
  simp only at hs hg
  simp only [Option.some.injEq, Prod.mk.injEq] at hs
  obtain ⟨⟨rfl, rfl, rfl, rfl, rfl⟩, rfl, rfl⟩ := hs
  obtain ⟨⟨rfl, rfl, rfl, hE, hX, hb, hc, hL⟩, _⟩ := ho
  (try simp only at hc hL)
  have key := hL inr [(10, ⟨.shut, E⟩), (11, ⟨.shut, X⟩), (12, ⟨.shut, (tbL L1).cs⟩), (13, ⟨.shut, yC Y1⟩), (5, ⟨.old, bs⟩)]
  unfold fcH at key
  rw [tb_kd L1, tb_kd L2] at key
  refine LRuns.enter (N := 100) (l2 := fcS n c 0) hn hg (Nat.le_refl 100) (by omega) (fun n => n) ?_ ?_ rfl key ?_
  · exact ⟨rfl, rb_slc rfl (by unfold capBig; omega), rfl, rb_ptr rfl, rfl, rfl, rfl, rb_slc rfl (by unfold capBig; omega), rfl, rb_ptr rfl, rfl, rb_slc rfl (by unfold capBig; omega), rfl, rfl, trivial⟩
  · exact ⟨sh_row rfl rfl hE, sh_row rfl rfl hX, sh_row rfl rfl (tb_fl L1), sh_row rfl rfl (yC_fl _), rb_old (by omega) rfl hb, trivial⟩
  ·
    refine tidy_of (by omega) (fun m hm hd => ?_) rfl
    (try simp only [List.mem_cons, List.not_mem_nil, or_false, not_or] at hd)
    have hm2 : m < 100 := hm
    simp only [lk_cons, lk_nil]
    repeat' split
    all_goals first | rfl | (exfalso; omega)
theorem spCn_ok (E X T1 : List Value) : LSOk Try.prog 204 [5, 10, 13, 14, 17, 18, 23] (fb2 Try.prog) (spCn E X T1) := by
  refine lspec_ok fun a tp xt l2 h2 nx2 d tp' ob hs ho inr ts hn hg => ?_
  simp only at hs hg
  simp only [Option.some.injEq, Prod.mk.injEq] at hs
  obtain ⟨⟨rfl, rfl, rfl, rfl, rfl⟩, rfl, rfl⟩ := hs
  obtain ⟨⟨hE, hX, hT⟩, _⟩ := ho
  have key : LRuns inr Try.prog (fb2 Try.prog) 100 200 [(10, ⟨.shut, E⟩), (11, ⟨.shut, X⟩), (12, ⟨.shut, T1⟩), (13, ⟨.shut, yC Y1⟩)] 204 [(5, .slice none 0 0), (10, eP), (13, .bool true), (14, lX), (17, tP), (18, lL), (23, .int .i64 0)] [(10, ⟨.shut, E⟩), (11, ⟨.shut, X⟩), (12, ⟨.shut, T1⟩), (13, ⟨.shut, yC Y1⟩)] 100
      (.exit 6, fcX, [(10, ⟨.shut, E⟩), (11, ⟨.shut, X⟩), (12, ⟨.shut, T1⟩), (13, ⟨.shut, yC Y1⟩)]) := by
    refine LRuns.exit (code_runs (fuV_X _ _) (fuV_L 0) (runZ_ok (fuV_X _ _) (fuV_T 0 _) (fuV_L 0) mixed 12) mixed (fcn_end inr E X T1 (yC Y1)) (by first | exact ⟨rfl, trivial⟩ | exact alls_nil)) (by intro e; cases e) rfl (by omega) (by omega) (fun n => n) ?_ ?_ rfl
    · exact ⟨rfl, rb_ptr rfl, rfl, rfl, rfl, rb_slc rfl (by unfold capBig; omega), rfl, rb_ptr rfl, rfl, rb_slc rfl (by unfold capBig; omega), trivial⟩
    · exact ⟨sh_row rfl rfl hE, sh_row rfl rfl hX, sh_row rfl rfl hT, sh_row rfl rfl (yC_fl _), trivial⟩
  refine LRuns.enter (N := 100) hn hg (Nat.le_refl 100) (by omega) (fun n => n) ?_ ?_ rfl key ?_
  · exact ⟨rfl, rfl, rfl, rb_ptr rfl, rfl, rfl, rfl, rb_slc rfl (by unfold capBig; omega), rfl, rb_ptr rfl, rfl, rb_slc rfl (by unfold capBig; omega), rfl, rfl, trivial⟩
  · exact ⟨sh_row rfl rfl hE, sh_row rfl rfl hX, sh_row rfl rfl hT, sh_row rfl rfl (yC_fl _), trivial⟩
  ·
    refine tidy_of (by omega) (fun m hm hd => ?_) rfl
    (try simp only [List.mem_cons, List.not_mem_nil, or_false, not_or] at hd)
    have hm2 : m < 100 := hm
    simp only [lk_cons, lk_nil]
    repeat' split
    all_goals first | rfl | (exfalso; omega)
theorem spDn_ok (E X T2 Y2 : List Value) (Yf : Nat → Int) (m : Nat) (bs : List Value) : LSOk Try.prog 204 [10, 13, 14, 17, 18, 27, 28] (fb3 Try.prog) (spD Try.prog E X T2 Y2 Yf m []) := by
  refine lspec_ok fun a tp xt l2 h2 nx2 d tp' ob hs ho inr ts hn hg => ?_
  simp only at hs hg
  simp only [Option.some.injEq, Prod.mk.injEq] at hs
  obtain ⟨⟨rfl, rfl, rfl, rfl, rfl⟩, rfl, rfl⟩ := hs
  obtain ⟨⟨rfl, hE, hX, hT, hL⟩, _⟩ := ho
  have key := hL inr ((10, ⟨.shut, E⟩) :: (11, ⟨.shut, X⟩) :: (12, ⟨.shut, T2⟩) :: (13, ⟨.shut, yC Yf⟩) :: [])
  refine LRuns.enter (N := 200) (l2 := fdS 0 1) hn hg (Nat.le_refl 200) (by omega) (fun n => n) ?_ ?_ rfl key ?_
  · exact ⟨rfl, rb_ptr rfl, rfl, rfl, rfl, rb_slc rfl (by unfold capBig; omega), rfl, rb_ptr rfl, rfl, rb_slc rfl (by unfold capBig; omega), rfl, rfl, rfl, rfl, trivial⟩
  · exact ⟨sh_row rfl rfl hE, sh_row rfl rfl hX, sh_row rfl rfl hT, sh_row rfl rfl (yC_fl _), trivial⟩
  · show Tidy _ 200 [(10, ⟨.shut, E⟩), (11, ⟨.shut, X⟩), (12, ⟨.shut, T2⟩), (13, ⟨.shut, yC Yf⟩)] 300 [5]
    refine tidy_of (by omega) (fun m hm hd => ?_) rfl
    (try simp only [List.mem_cons, List.not_mem_nil, or_false, not_or] at hd)
    have hm2 : m < 200 := hm
    simp only [lk_cons, lk_nil]
    repeat' split
    all_goals first | rfl | (exfalso; omega)
theorem spDs_ok (E X T2 Y2 : List Value) (Yf : Nat → Int) (m : Nat) (bs : List Value) : LSOk Try.prog 204 [10, 13, 14, 17, 18, 27, 28] (fb3 Try.prog) (spD Try.prog E X T2 Y2 Yf m [(5, ⟨.old, bs⟩)]) := by
  refine lspec_ok fun a tp xt l2 h2 nx2 d tp' ob hs ho inr ts hn hg => ?_
  simp only at hs hg
  simp only [Option.some.injEq, Prod.mk.injEq] at hs
  obtain ⟨⟨rfl, rfl, rfl, rfl, rfl⟩, rfl, rfl⟩ := hs
  obtain ⟨⟨rfl, hE, hX, hT, hL⟩, _⟩ := ho
  have key := hL inr ((10, ⟨.shut, E⟩) :: (11, ⟨.shut, X⟩) :: (12, ⟨.shut, T2⟩) :: (13, ⟨.shut, yC Yf⟩) :: [(5, ⟨.old, bs⟩)])
  refine LRuns.enter (N := 200) (l2 := fdS 0 1) hn hg (Nat.le_refl 200) (by omega) (fun n => n) ?_ ?_ rfl key ?_
  · exact ⟨rfl, rb_ptr rfl, rfl, rfl, rfl, rb_slc rfl (by unfold capBig; omega), rfl, rb_ptr rfl, rfl, rb_slc rfl (by unfold capBig; omega), rfl, rfl, rfl, rfl, trivial⟩
  · exact ⟨sh_row rfl rfl hE, sh_row rfl rfl hX, sh_row rfl rfl hT, sh_row rfl rfl (yC_fl _), trivial⟩
  · show Tidy _ 200 [(10, ⟨.shut, E⟩), (11, ⟨.shut, X⟩), (12, ⟨.shut, T2⟩), (13, ⟨.shut, yC Yf⟩)] 300 [5]
    refine tidy_of (by omega) (fun m hm hd => ?_) rfl
    (try simp only [List.mem_cons, List.not_mem_nil, or_false, not_or] at hd)
    have hm2 : m < 200 := hm
    simp only [lk_cons, lk_nil]
    repeat' split
    all_goals first | rfl | (exfalso; omega)
theorem spT_ok (E X T2 Y2 : List Value) (L2 : List En) (m : Nat) (hY : Fl Y2) : SSOk Try.prog 204 [10, 13, 14, 17, 27] (fuC Try.prog 37) (spT Try.prog E X T2 Y2 L2 m) := by
  refine sspec_ok fun a tp xt l2 h2 nx2 d tp' ob hs ho inr ts hn hg => ?_
  simp only at hs hg
  simp only [Option.some.injEq, Prod.mk.injEq] at hs
  obtain ⟨⟨rfl, rfl, rfl, rfl, rfl⟩, rfl, rfl⟩ := hs
  obtain ⟨⟨rfl, rfl, hX, hT⟩, _⟩ := ho
  exact TailAt.runs hT (h := [(10, ⟨.shut, [.int .u64 (intAt X 8), .int .u64 (intAt X 9)]⟩), (11, ⟨.shut, X⟩), (12, ⟨.shut, (tbL L2).cs⟩), (13, ⟨.shut, Y2⟩)]) hn hg (Nat.le_refl 300) (by omega)
    ⟨rfl, rb_ptr rfl, rfl, rfl, rfl, rb_slc rfl (by unfold capBig; omega), rfl, rb_ptr rfl, rfl, rfl, trivial⟩
    (by unfold t4H; rw [tb_kd L2]; exact ⟨sh_row rfl rfl (Fl.of rfl), sh_row rfl rfl hX, sh_row rfl rfl (tb_fl L2), trivial⟩) rfl
end Go.Proofs.Ytdcakhahagbedaa
