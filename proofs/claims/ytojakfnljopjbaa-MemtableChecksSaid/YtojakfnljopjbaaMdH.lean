/-
  Chapter 12: the statement MemtableChecks: its own loop.
-/
import Derived.Test.YtojakfnljopjbaaMdG
namespace Go.Proofs.Ytojakfnljopjbaa
set_option linter.unusedSimpArgs false
set_option linter.unusedVariables false
set_option linter.unusedSectionVars false
open Go Go.RowKit
theorem md_w_k0 (inr : Bool) (n c i : Nat) (ds es : List DV) : prjP [0, 3, 4] 101 (codeZ (mdV noL noTz) Try.prog (runZ (mdV noL noTz) Try.prog 9) 3 inr 100000 (bodyIn Try.prog 3 5) (SL 39 [(0, sdV n c), (3, dpV n), (4, iV i)]) (mdH ds es) 101 [true, true, true]) =
  Res.ok ((Xt.normal, 39, [(0, Value.slice (some (Addr.mk 0 0 none)) n c), (3, Value.slice (some (Addr.mk 80 0 none)) n (capBig + 80)), (4, Value.int IntKind.i64 (↑(i + 1) : Int))], [(0, Rw.mk (Kd.sd ds) []), (80, Rw.mk
 (Kd.dp 3 [Value.slice none 0 0, Value.slice none 0 0, Value.bool false] es) [])], 107, [], []), [], [decide ((↑i : Int) < (↑n : Int)) = true, (0 : Int) ≤ (↑i : Int) ∧ (↑i : Int) < (↑n : Int), ShOb Try.prog 29 false true
 es (i * 3) 101, decide ((↑(dLen es (i * 3 + 0)) : Int) < (1 : Int)) = true, (0 : Int) ≤ (↑i : Int) ∧ (↑i : Int) < (↑n : Int), ShOb Try.prog 29 false true ds (i * 3) 104, decide ((↑(dLen ds (i * 3 + 0)) : Int) < (1 : Int))
 = true, rg IntKind.i64 (↑(i + 1) : Int)]) := by kernel_rfl
theorem md_w_k32 (inr : Bool) (n c i : Nat) (ds es : List DV) : prjP [0, 3, 4] 101 (codeZ (mdV noL noTz) Try.prog (runZ (mdV noL noTz) Try.prog 9) 3 inr 100000 (bodyIn Try.prog 3 5) (SL 39 [(0, sdV n c), (3, dpV n), (4, iV i)]) (mdH ds es) 101 [true, false, true, false, true]) =
  Res.ok ((Xt.normal, 39, [(0, Value.slice (some (Addr.mk 0 0 none)) n c), (3, Value.slice (some (Addr.mk 80 0 none)) n (capBig + 80)), (4, Value.int IntKind.i64 (↑(i + 1) : Int))], [(0, Rw.mk (Kd.sd ds) []), (80, Rw.mk
 (Kd.dp 3 [Value.slice none 0 0, Value.slice none 0 0, Value.bool false] es) [])], 107, [], []), [], [decide ((↑i : Int) < (↑n : Int)) = true, (0 : Int) ≤ (↑i : Int) ∧ (↑i : Int) < (↑n : Int), ShOb Try.prog 29 false true
 es (i * 3) 101, decide ((↑(dLen es (i * 3 + 0)) : Int) < (1 : Int)) = false, decide ((↑(dLen es (i * 3 + 0)) : Int) > (32 : Int)) = true, (0 : Int) ≤ (↑i : Int) ∧ (↑i : Int) < (↑n : Int), ShOb Try.prog 29 false true ds (i
 * 3) 104, decide ((↑(dLen ds (i * 3 + 0)) : Int) < (1 : Int)) = false, decide ((↑(dLen ds (i * 3 + 0)) : Int) > (32 : Int)) = true, rg IntKind.i64 (↑(i + 1) : Int)]) := by kernel_rfl
theorem md_w_v128 (inr : Bool) (n c i : Nat) (ds es : List DV) : prjP [0, 3, 4] 101 (codeZ (mdV noL noTz) Try.prog (runZ (mdV noL noTz) Try.prog 9) 3 inr 100000 (bodyIn Try.prog 3 5) (SL 39 [(0, sdV n c), (3, dpV n), (4, iV i)]) (mdH ds es) 101 [true, false, false, true, false, false, true]) =
  Res.ok ((Xt.normal, 39, [(0, Value.slice (some (Addr.mk 0 0 none)) n c), (3, Value.slice (some (Addr.mk 80 0 none)) n (capBig + 80)), (4, Value.int IntKind.i64 (↑(i + 1) : Int))], [(0, Rw.mk (Kd.sd ds) []), (80, Rw.mk
 (Kd.dp 3 [Value.slice none 0 0, Value.slice none 0 0, Value.bool false] es) [])], 107, [], []), [], [decide ((↑i : Int) < (↑n : Int)) = true, (0 : Int) ≤ (↑i : Int) ∧ (↑i : Int) < (↑n : Int), ShOb Try.prog 29 false true
 es (i * 3) 101, decide ((↑(dLen es (i * 3 + 0)) : Int) < (1 : Int)) = false, decide ((↑(dLen es (i * 3 + 0)) : Int) > (32 : Int)) = false, decide ((↑(dLen es (i * 3 + 1)) : Int) > (128 : Int)) = true, (0 : Int) ≤ (↑i :
 Int) ∧ (↑i : Int) < (↑n : Int), ShOb Try.prog 29 false true ds (i * 3) 104, decide ((↑(dLen ds (i * 3 + 0)) : Int) < (1 : Int)) = false, decide ((↑(dLen ds (i * 3 + 0)) : Int) > (32 : Int)) = false, decide ((↑(dLen ds (i
 * 3 + 1)) : Int) > (128 : Int)) = true, rg IntKind.i64 (↑(i + 1) : Int)]) := by kernel_rfl
theorem md_w_gv (inr : Bool) (n c i : Nat) (ds es : List DV) : prjP [0, 3, 4] 101 (codeZ (mdV noL noTz) Try.prog (runZ (mdV noL noTz) Try.prog 9) 3 inr 100000 (bodyIn Try.prog 3 5) (SL 39 [(0, sdV n c), (3, dpV n), (4, iV i)]) (mdH ds es) 101 [true, false, false, false, true, true, false, false, false, true, true]) =
  Res.ok ((Xt.normal, 39, [(0, Value.slice (some (Addr.mk 0 0 none)) n c), (3, Value.slice (some (Addr.mk 80 0 none)) n (capBig + 80)), (4, Value.int IntKind.i64 (↑(i + 1) : Int))], [(0, Rw.mk (Kd.sd ds) []), (80, Rw.mk
 (Kd.dp 3 [Value.slice none 0 0, Value.slice none 0 0, Value.bool false] es) [])], 107, [], []), [], [decide ((↑i : Int) < (↑n : Int)) = true, (0 : Int) ≤ (↑i : Int) ∧ (↑i : Int) < (↑n : Int), ShOb Try.prog 29 false true
 es (i * 3) 101, decide ((↑(dLen es (i * 3 + 0)) : Int) < (1 : Int)) = false, decide ((↑(dLen es (i * 3 + 0)) : Int) > (32 : Int)) = false, decide ((↑(dLen es (i * 3 + 1)) : Int) > (128 : Int)) = false, dBool es (i * 3 +
 2) = true, decide ((↑(dLen es (i * 3 + 1)) : Int) > (0 : Int)) = true, (0 : Int) ≤ (↑i : Int) ∧ (↑i : Int) < (↑n : Int), ShOb Try.prog 29 false true ds (i * 3) 104, decide ((↑(dLen ds (i * 3 + 0)) : Int) < (1 : Int)) =
 false, decide ((↑(dLen ds (i * 3 + 0)) : Int) > (32 : Int)) = false, decide ((↑(dLen ds (i * 3 + 1)) : Int) > (128 : Int)) = false, dBool ds (i * 3 + 2) = true, decide ((↑(dLen ds (i * 3 + 1)) : Int) > (0 : Int)) = true,
 rg IntKind.i64 (↑(i + 1) : Int)]) := by kernel_rfl
theorem md_w_g0 (inr : Bool) (n c i : Nat) (ds es : List DV) : prjP [0, 3, 4] 101 (codeZ (mdV noL noTz) Try.prog (runZ (mdV noL noTz) Try.prog 9) 3 inr 100000 (bodyIn Try.prog 3 5) (SL 39 [(0, sdV n c), (3, dpV n), (4, iV i)]) (mdH ds es) 101 [true, false, false, false, true, false, false, false, false, true, false]) =
  Res.ok ((Xt.normal, 39, [(0, Value.slice (some (Addr.mk 0 0 none)) n c), (3, Value.slice (some (Addr.mk 80 0 none)) n (capBig + 80)), (4, Value.int IntKind.i64 (↑(i + 1) : Int))], [(0, Rw.mk (Kd.sd ds) []), (80, Rw.mk
 (Kd.dp 3 [Value.slice none 0 0, Value.slice none 0 0, Value.bool false] es) [])], 107, [], []), [], [decide ((↑i : Int) < (↑n : Int)) = true, (0 : Int) ≤ (↑i : Int) ∧ (↑i : Int) < (↑n : Int), ShOb Try.prog 29 false true
 es (i * 3) 101, decide ((↑(dLen es (i * 3 + 0)) : Int) < (1 : Int)) = false, decide ((↑(dLen es (i * 3 + 0)) : Int) > (32 : Int)) = false, decide ((↑(dLen es (i * 3 + 1)) : Int) > (128 : Int)) = false, dBool es (i * 3 +
 2) = true, decide ((↑(dLen es (i * 3 + 1)) : Int) > (0 : Int)) = false, (0 : Int) ≤ (↑i : Int) ∧ (↑i : Int) < (↑n : Int), ShOb Try.prog 29 false true ds (i * 3) 104, decide ((↑(dLen ds (i * 3 + 0)) : Int) < (1 : Int)) =
 false, decide ((↑(dLen ds (i * 3 + 0)) : Int) > (32 : Int)) = false, decide ((↑(dLen ds (i * 3 + 1)) : Int) > (128 : Int)) = false, dBool ds (i * 3 + 2) = true, decide ((↑(dLen ds (i * 3 + 1)) : Int) > (0 : Int)) = false,
 rg IntKind.i64 (↑(i + 1) : Int)]) := by kernel_rfl
theorem md_w_no (inr : Bool) (n c i : Nat) (ds es : List DV) : prjP [0, 3, 4] 101 (codeZ (mdV noL noTz) Try.prog (runZ (mdV noL noTz) Try.prog 9) 3 inr 100000 (bodyIn Try.prog 3 5) (SL 39 [(0, sdV n c), (3, dpV n), (4, iV i)]) (mdH ds es) 101 [true, false, false, false, false, false, false, false, false]) =
  Res.ok ((Xt.normal, 39, [(0, Value.slice (some (Addr.mk 0 0 none)) n c), (3, Value.slice (some (Addr.mk 80 0 none)) n (capBig + 80)), (4, Value.int IntKind.i64 (↑(i + 1) : Int))], [(0, Rw.mk (Kd.sd ds) []), (80, Rw.mk
 (Kd.dp 3 [Value.slice none 0 0, Value.slice none 0 0, Value.bool false] es) [])], 107, [], []), [], [decide ((↑i : Int) < (↑n : Int)) = true, (0 : Int) ≤ (↑i : Int) ∧ (↑i : Int) < (↑n : Int), ShOb Try.prog 29 false true
 es (i * 3) 101, decide ((↑(dLen es (i * 3 + 0)) : Int) < (1 : Int)) = false, decide ((↑(dLen es (i * 3 + 0)) : Int) > (32 : Int)) = false, decide ((↑(dLen es (i * 3 + 1)) : Int) > (128 : Int)) = false, dBool es (i * 3 +
 2) = false, (0 : Int) ≤ (↑i : Int) ∧ (↑i : Int) < (↑n : Int), ShOb Try.prog 29 false true ds (i * 3) 104, decide ((↑(dLen ds (i * 3 + 0)) : Int) < (1 : Int)) = false, decide ((↑(dLen ds (i * 3 + 0)) : Int) > (32 : Int)) =
 false, decide ((↑(dLen ds (i * 3 + 1)) : Int) > (128 : Int)) = false, dBool ds (i * 3 + 2) = false, rg IntKind.i64 (↑(i + 1) : Int)]) := by kernel_rfl
theorem md_w_end (inr : Bool) (n c i : Nat) (ds es : List DV) : prjP [0, 3] 101 (codeZ (mdV noL noTz) Try.prog (runZ (mdV noL noTz) Try.prog 9) 3 inr 100000 (bodyIn Try.prog 3 5) (SL 39 [(0, sdV n c), (3, dpV n), (4, iV i)]) (mdH ds es) 101 [false]) =
  Res.ok ((Xt.exit 0, 39, [(0, Value.slice (some (Addr.mk 0 0 none)) n c), (3, Value.slice (some (Addr.mk 80 0 none)) n (capBig + 80))], [(0, Rw.mk (Kd.sd ds) []), (80, Rw.mk (Kd.dp 3 [Value.slice none 0 0, Value.slice none
 0 0, Value.bool false] es) [])], 101, [], []), [], [decide ((↑i : Int) < (↑n : Int)) = false]) := by kernel_rfl
theorem w_loop {inr : Bool} {h0 : Hp} {ds es : List DV} {ps : List Pr} {n c : Nat} (hP : Prs ds ps) (hE : Prs es ps) (hn : ps.length = n) (hn9 : n ≤ 100) (hc : c ≤ 9223372036854775807) : ∀ (r i : Nat), i + r = n →
    LRuns inr Try.prog (bodyIn Try.prog 3 5) 100 120 h0 39 [(0, sdV n c), (3, dpV n), (4, iV i)] (mdH ds es) 101 (.exit 0, [(0, sdV n c), (3, dpV n)], mdH ds es)
  | 0, i, hr => by
      have hcc : c < capBig := by unfold capBig; omega
      refine LRuns.exit (code_runsP mdX mdL (runZ_ok mdX mdT mdL mixed 9) mixed (md_w_end inr n c i ds es) ?_) (by intro e; cases e) rfl (by omega) (by omega) (fun n => n) ?_ ?_ rfl
      · simp only [Alls, decide_eq_false_iff_not]
        exact ⟨by omega, trivial⟩
      · exact ⟨rfl, rb_slc rfl hcc, rfl, rb_slg rfl rfl, trivial⟩
      · exact ⟨sd_row rfl rfl, dp_row (m := 80) rfl rfl, trivial⟩
  | r + 1, i, hr => by
      have hcc : c < capBig := by unfold capBig; omega
      have hi : i < ps.length := by omega
      have F := hP.facts (List.getElem?_eq_getElem hi)
      have G := hE.facts (List.getElem?_eq_getElem hi)
      obtain ⟨p, hp⟩ : ∃ p, ps[i] = p := ⟨_, rfl⟩
      rw [hp] at F G
      have f0 := F.l0
      have f1 := F.l1
      have f0' := G.l0
      have f1' := G.l1
      have g1 := F.g
      have g2 := G.g
      have o1 := G.o29 101
      have o2 := F.o29 104
      have nx := w_loop (inr := inr) (h0 := h0) hP hE hn hn9 hc r (i + 1) (by omega)
      have hg : p.2.2 = p.2.2 := rfl
      clear hg
      by_cases a1 : p.1.length < 1
      · have hg : True := trivial
        refine LRuns.step (code_runsP mdX mdL (runZ_ok mdX mdT mdL mixed 9) mixed (md_w_k0 inr n c i ds es) ?_) rfl (by omega) (by omega) (fun n => n) ?_ ?_ rfl nx
        · simp only [Alls, rg, decide_eq_true_eq, decide_eq_false_iff_not, Nat.add_zero, f0, f1, f0', f1', g1, g2, hg]
          repeat' (with_reducible apply And.intro)
          all_goals first | omega | (with_reducible assumption) | (with_reducible exact trivial) | skip
        · exact ⟨rfl, rb_slc rfl hcc, rfl, rb_slg rfl rfl, rfl, rfl, trivial⟩
        · exact ⟨sd_row rfl rfl, dp_row (m := 80) rfl rfl, trivial⟩
      by_cases a2 : 32 < p.1.length
      · have hg : True := trivial
        refine LRuns.step (code_runsP mdX mdL (runZ_ok mdX mdT mdL mixed 9) mixed (md_w_k32 inr n c i ds es) ?_) rfl (by omega) (by omega) (fun n => n) ?_ ?_ rfl nx
        · simp only [Alls, rg, decide_eq_true_eq, decide_eq_false_iff_not, Nat.add_zero, f0, f1, f0', f1', g1, g2, hg]
          repeat' (with_reducible apply And.intro)
          all_goals first | omega | (with_reducible assumption) | (with_reducible exact trivial) | skip
        · exact ⟨rfl, rb_slc rfl hcc, rfl, rb_slg rfl rfl, rfl, rfl, trivial⟩
        · exact ⟨sd_row rfl rfl, dp_row (m := 80) rfl rfl, trivial⟩
      by_cases a3 : 128 < p.2.1.length
      · have hg : True := trivial
        refine LRuns.step (code_runsP mdX mdL (runZ_ok mdX mdT mdL mixed 9) mixed (md_w_v128 inr n c i ds es) ?_) rfl (by omega) (by omega) (fun n => n) ?_ ?_ rfl nx
        · simp only [Alls, rg, decide_eq_true_eq, decide_eq_false_iff_not, Nat.add_zero, f0, f1, f0', f1', g1, g2, hg]
          repeat' (with_reducible apply And.intro)
          all_goals first | omega | (with_reducible assumption) | (with_reducible exact trivial) | skip
        · exact ⟨rfl, rb_slc rfl hcc, rfl, rb_slg rfl rfl, rfl, rfl, trivial⟩
        · exact ⟨sd_row rfl rfl, dp_row (m := 80) rfl rfl, trivial⟩
      cases hg : p.2.2 with
      | false =>
        refine LRuns.step (code_runsP mdX mdL (runZ_ok mdX mdT mdL mixed 9) mixed (md_w_no inr n c i ds es) ?_) rfl (by omega) (by omega) (fun n => n) ?_ ?_ rfl nx
        · simp only [Alls, rg, decide_eq_true_eq, decide_eq_false_iff_not, Nat.add_zero, f0, f1, f0', f1', g1, g2, hg]
          repeat' (with_reducible apply And.intro)
          all_goals first | omega | (with_reducible assumption) | (with_reducible exact trivial) | skip
        · exact ⟨rfl, rb_slc rfl hcc, rfl, rb_slg rfl rfl, rfl, rfl, trivial⟩
        · exact ⟨sd_row rfl rfl, dp_row (m := 80) rfl rfl, trivial⟩
      | true =>
        by_cases a4 : 0 < p.2.1.length
        ·
          refine LRuns.step (code_runsP mdX mdL (runZ_ok mdX mdT mdL mixed 9) mixed (md_w_gv inr n c i ds es) ?_) rfl (by omega) (by omega) (fun n => n) ?_ ?_ rfl nx
          · simp only [Alls, rg, decide_eq_true_eq, decide_eq_false_iff_not, Nat.add_zero, f0, f1, f0', f1', g1, g2, hg]
            repeat' (with_reducible apply And.intro)
            all_goals first | omega | (with_reducible assumption) | (with_reducible exact trivial) | skip
          · exact ⟨rfl, rb_slc rfl hcc, rfl, rb_slg rfl rfl, rfl, rfl, trivial⟩
          · exact ⟨sd_row rfl rfl, dp_row (m := 80) rfl rfl, trivial⟩
        ·
          refine LRuns.step (code_runsP mdX mdL (runZ_ok mdX mdT mdL mixed 9) mixed (md_w_g0 inr n c i ds es) ?_) rfl (by omega) (by omega) (fun n => n) ?_ ?_ rfl nx
          · simp only [Alls, rg, decide_eq_true_eq, decide_eq_false_iff_not, Nat.add_zero, f0, f1, f0', f1', g1, g2, hg]
            repeat' (with_reducible apply And.intro)
            all_goals first | omega | (with_reducible assumption) | (with_reducible exact trivial) | skip
          · exact ⟨rfl, rb_slc rfl hcc, rfl, rb_slg rfl rfl, rfl, rfl, trivial⟩
          · exact ⟨sd_row rfl rfl, dp_row (m := 80) rfl rfl, trivial⟩
end Go.Proofs.Ytojakfnljopjbaa
