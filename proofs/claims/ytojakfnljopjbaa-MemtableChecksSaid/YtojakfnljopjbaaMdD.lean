/-
  Chapter 12: the statement MemtableChecks: copies of pairs.
-/
import Derived.Test.YtojakfnljopjbaaMdC
namespace Go.Proofs.Ytojakfnljopjbaa
set_option linter.unusedSimpArgs false
set_option linter.unusedVariables false
set_option linter.unusedSectionVars false
open Go Go.RowKit
theorem md_cp_first (inr : Bool) (n c : Nat) (ds : List DV) : prjP [0, 3, 4] 81 (codeZ (mdV noL noTz) Try.prog (runZ (mdV noL noTz) Try.prog 9) 10 inr 100000 (bodyIn Try.prog 10 3) (SL 33 [(0, sdV n c), (3, .slice none 0 0), (4, iV 0)]) [(0, ⟨.sd ds, []⟩)] 81 [true]) =
  Res.ok ((Xt.normal, 33, [(0, Value.slice (some (Addr.mk 0 0 none)) n c), (3, Value.slice (some (Addr.mk 91 0 none)) 1 (capBig + 91)), (4, Value.int IntKind.i64 (1 : Int))], [(0, Rw.mk (Kd.sd ds) []), (91, Rw.mk (Kd.dp 3
 [Value.slice none 0 0, Value.slice none 0 0, Value.bool false] [DV.sl (dLen ds 0) none (List.map DV.fl (List.take (dLen ds 0) (dVals ds 0))), DV.sl (dLen ds 1) none (List.map DV.fl (List.take (dLen ds 1) (dVals ds 1))),
 DV.fl (Value.bool (dBool ds 2))]) [])], 92, [], []), [], [decide ((0 : Int) < (↑n : Int)) = true, (0 : Int) ≤ (0 : Int) ∧ (0 : Int) < (↑n : Int), ShOb Try.prog 27 false true ds 0 81, dLen ds 0 * 1 ≤ 140737488355328 ∧ dLen
 ds 0 ≤ 9223372036854775807, List.length (List.take (dLen ds 0) (dVals ds 0)) = dLen ds 0 * 1, ∀ (τ : Sg), renL τ (List.take (dLen ds 0) (dVals ds 0)) = some (List.take (dLen ds 0) (dVals ds 0)), dLen ds 0 ≤ List.length
 (dVals ds 0), all1 (List.take (dLen ds 0) (dVals ds 0)) = true, (0 : Int) ≤ (0 : Int) ∧ (0 : Int) < (↑n : Int), ShOb Try.prog 27 false true ds 1 85, dLen ds 1 * 1 ≤ 140737488355328 ∧ dLen ds 1 ≤ 9223372036854775807,
 List.length (List.take (dLen ds 1) (dVals ds 1)) = dLen ds 1 * 1, ∀ (τ : Sg), renL τ (List.take (dLen ds 1) (dVals ds 1)) = some (List.take (dLen ds 1) (dVals ds 1)), dLen ds 1 ≤ List.length (dVals ds 1), all1 (List.take
 (dLen ds 1) (dVals ds 1)) = true, (0 : Int) ≤ (0 : Int) ∧ (0 : Int) < (↑n : Int), ShOb Try.prog 4 false true ds 2 89, 56 ≤ 140737488355328, (∀ (τ : Sg), renL τ (List.take (dLen ds 0) (dVals ds 0)) = some (List.take (dLen
 ds 0) (dVals ds 0))) ∧ (dLen ds (ixO 0 (Int.toNat (↑0 : Int)) (TypeInfo.size (Tables.types (Program.toTables Try.prog))[29]) + Field.offset #[Field.mk "Key" 27 0 false "" "" 0, Field.mk "Value" 27 1 false "" "" 24,
 Field.mk "Gone" 4 2 false "" "" 48][0] + 0) = 0 → List.take (dLen ds 0) (dVals ds 0) = []), (∀ (τ : Sg), renL τ (List.take (dLen ds 1) (dVals ds 1)) = some (List.take (dLen ds 1) (dVals ds 1))) ∧ (dLen ds (ixO 0
 (Int.toNat (↑0 : Int)) (TypeInfo.size (Tables.types (Program.toTables Try.prog))[29]) + Field.offset #[Field.mk "Key" 27 0 false "" "" 0, Field.mk "Value" 27 1 false "" "" 24, Field.mk "Gone" 4 2 false "" "" 48][1] + 0) =
 0 → List.take (dLen ds 1) (dVals ds 1) = []), 3 ≤ 3, true = true, rg IntKind.i64 (1 : Int)]) := by kernel_rfl
theorem md_cp_more (inr : Bool) (n c i : Nat) (ds es : List DV) : prjP [0, 3, 4] 81 (codeZ (mdV noL noTz) Try.prog (runZ (mdV noL noTz) Try.prog 9) 10 inr 100000 (bodyIn Try.prog 10 3) (SL 33 [(0, sdV n c), (3, dpV i), (4, iV i)]) (mdH ds es) 81 [true]) =
  Res.ok ((Xt.normal, 33, [(0, Value.slice (some (Addr.mk 0 0 none)) n c), (3, Value.slice (some (Addr.mk 91 0 none)) (i + 1) (capBig + 91)), (4, Value.int IntKind.i64 (↑(i + 1) : Int))], [(0, Rw.mk (Kd.sd ds) []), (91,
 Rw.mk (Kd.dp 3 [Value.slice none 0 0, Value.slice none 0 0, Value.bool false] (es ++ [DV.sl (dLen ds (i * 3 + 0 + 0)) none (List.map DV.fl (List.take (dLen ds (i * 3 + 0 + 0)) (dVals ds (i * 3 + 0 + 0)))), DV.sl (dLen ds
 (i * 3 + 1 + 0)) none (List.map DV.fl (List.take (dLen ds (i * 3 + 1 + 0)) (dVals ds (i * 3 + 1 + 0)))), DV.fl (Value.bool (dBool ds (i * 3 + 2 + 0)))])) [])], 92, [80], []), [], [decide ((↑i : Int) < (↑n : Int)) = true,
 (0 : Int) ≤ (↑i : Int) ∧ (↑i : Int) < (↑n : Int), ShOb Try.prog 27 false true ds (i * 3 + 0) 81, dLen ds (i * 3 + 0 + 0) * 1 ≤ 140737488355328 ∧ dLen ds (i * 3 + 0 + 0) ≤ 9223372036854775807, List.length (List.take (dLen
 ds (i * 3 + 0 + 0)) (dVals ds (i * 3 + 0 + 0))) = dLen ds (i * 3 + 0 + 0) * 1, ∀ (τ : Sg), renL τ (List.take (dLen ds (i * 3 + 0 + 0)) (dVals ds (i * 3 + 0 + 0))) = some (List.take (dLen ds (i * 3 + 0 + 0)) (dVals ds (i *
 3 + 0 + 0))), dLen ds (i * 3 + 0 + 0) ≤ List.length (dVals ds (i * 3 + 0 + 0)), all1 (List.take (dLen ds (i * 3 + 0 + 0)) (dVals ds (i * 3 + 0 + 0))) = true, (0 : Int) ≤ (↑i : Int) ∧ (↑i : Int) < (↑n : Int), ShOb Try.prog
 27 false true ds (i * 3 + 1) 85, dLen ds (i * 3 + 1 + 0) * 1 ≤ 140737488355328 ∧ dLen ds (i * 3 + 1 + 0) ≤ 9223372036854775807, List.length (List.take (dLen ds (i * 3 + 1 + 0)) (dVals ds (i * 3 + 1 + 0))) = dLen ds (i * 3
 + 1 + 0) * 1, ∀ (τ : Sg), renL τ (List.take (dLen ds (i * 3 + 1 + 0)) (dVals ds (i * 3 + 1 + 0))) = some (List.take (dLen ds (i * 3 + 1 + 0)) (dVals ds (i * 3 + 1 + 0))), dLen ds (i * 3 + 1 + 0) ≤ List.length (dVals ds (i
 * 3 + 1 + 0)), all1 (List.take (dLen ds (i * 3 + 1 + 0)) (dVals ds (i * 3 + 1 + 0))) = true, (0 : Int) ≤ (↑i : Int) ∧ (↑i : Int) < (↑n : Int), ShOb Try.prog 4 false true ds (i * 3 + 2) 89, capBig + 80 = capBig + 80 ∧
 List.length es = i * 3, (i + 1) * 56 ≤ 140737488355328 ∧ i + 1 ≤ 9223372036854775807, (∀ (τ : Sg), renL τ (List.take (dLen ds (i * 3 + 0 + 0)) (dVals ds (i * 3 + 0 + 0))) = some (List.take (dLen ds (i * 3 + 0 + 0)) (dVals
 ds (i * 3 + 0 + 0)))) ∧ (dLen ds (ixO 0 (Int.toNat (↑i : Int)) (TypeInfo.size (Tables.types (Program.toTables Try.prog))[29]) + Field.offset #[Field.mk "Key" 27 0 false "" "" 0, Field.mk "Value" 27 1 false "" "" 24,
 Field.mk "Gone" 4 2 false "" "" 48][0] + 0) = 0 → List.take (dLen ds (i * 3 + 0 + 0)) (dVals ds (i * 3 + 0 + 0)) = []), (∀ (τ : Sg), renL τ (List.take (dLen ds (i * 3 + 1 + 0)) (dVals ds (i * 3 + 1 + 0))) = some
 (List.take (dLen ds (i * 3 + 1 + 0)) (dVals ds (i * 3 + 1 + 0)))) ∧ (dLen ds (ixO 0 (Int.toNat (↑i : Int)) (TypeInfo.size (Tables.types (Program.toTables Try.prog))[29]) + Field.offset #[Field.mk "Key" 27 0 false "" "" 0,
 Field.mk "Value" 27 1 false "" "" 24, Field.mk "Gone" 4 2 false "" "" 48][1] + 0) = 0 → List.take (dLen ds (i * 3 + 1 + 0)) (dVals ds (i * 3 + 1 + 0)) = []), 3 ≤ 3, true = true, rg IntKind.i64 (↑(i + 1) : Int)]) := by kernel_rfl
theorem md_cp_end (inr : Bool) (n c i : Nat) (ds es : List DV) : prjP [3] 81 (codeZ (mdV noL noTz) Try.prog (runZ (mdV noL noTz) Try.prog 9) 10 inr 100000 (bodyIn Try.prog 10 3) (SL 33 [(0, sdV n c), (3, dpV i), (4, iV i)]) (mdH ds es) 81 [false]) =
  Res.ok ((Xt.exit 0, 33, [(3, Value.slice (some (Addr.mk 80 0 none)) i (capBig + 80))], [(0, Rw.mk (Kd.sd ds) []), (80, Rw.mk (Kd.dp 3 [Value.slice none 0 0, Value.slice none 0 0, Value.bool false] es) [])], 81, [], []),
 [], [decide ((↑i : Int) < (↑n : Int)) = false]) := by kernel_rfl
def cpD (ps : List Pr) : List DV := ps.flatMap (prD none none)
theorem cpD_prs : ∀ ps : List Pr, Prs (cpD ps) ps
  | [] => rfl
  | p :: ps => ⟨none, none, cpD ps, rfl, cpD_prs ps⟩
theorem cpD_snoc (ps : List Pr) (p : Pr) : cpD (ps ++ [p]) = cpD ps ++ prD none none p := by simp [cpD]
theorem cp_cell {ds : List DV} {o : Nat} {l : List Int} (h1 : dLen ds o = l.length) (h2 : dVals ds o = byV l) : List.take (dLen ds o) (dVals ds o) = byV l := by
  rw [h1, h2, List.take_of_length_le (by rw [byV_len]; omega)]
theorem cp_loop {inr : Bool} {h0 : Hp} {ds : List DV} {ps : List Pr} {n c : Nat} (hP : Prs ds ps) (hn : ps.length = n) (hn9 : n ≤ 100) (hc : c ≤ 9223372036854775807) (hb : ∀ p ∈ ps, p.1.length ≤ 200 ∧ p.2.1.length ≤ 200) : ∀ (r i : Nat), i + r = n → 0 < i →
    LRuns inr Try.prog (bodyIn Try.prog 10 3) 20 100 h0 33 [(0, sdV n c), (3, dpV i), (4, iV i)] (mdH ds (cpD (ps.take i))) 81 (.exit 0, [(3, dpV n)], mdH ds (cpD ps))
  | 0, i, hr, h9 => by
      obtain rfl : i = n := by omega
      rw [List.take_of_length_le (by omega)]
      refine LRuns.exit (code_runsP mdX mdL (runZ_ok mdX mdT mdL mixed 9) mixed (md_cp_end inr i c i ds (cpD ps)) ?_) (by intro e; cases e) rfl (by omega) (by omega) (fun n => n) ?_ ?_ rfl
      · simp only [Alls, decide_eq_false_iff_not]
        exact ⟨by omega, trivial⟩
      · exact ⟨rfl, rb_slg rfl rfl, trivial⟩
      · exact ⟨sd_row rfl rfl, dp_row rfl rfl, trivial⟩
  | r + 1, i, hr, h9 => by
      have hcc : c < capBig := by unfold capBig; omega
      have hi : i < ps.length := by omega
      have F := hP.facts (List.getElem?_eq_getElem hi)
      obtain ⟨p, hp⟩ : ∃ p, ps[i] = p := ⟨_, rfl⟩
      rw [hp] at F
      have hb1 := hb p (by rw [← hp]; exact List.getElem_mem hi)
      have c0 := cp_cell F.l0 F.v0
      have c1 := cp_cell F.l1 F.v1
      have f0 := F.l0
      have f1 := F.l1
      have v0 := F.v0
      have v1 := F.v1
      have o1 := F.o27 81
      have o2 := F.o27' 85
      have o3 := F.o4 89
      have hl0 := byV_len p.1
      have hl1 := byV_len p.2.1
      have t0 : List.take p.1.length (byV p.1) = byV p.1 := List.take_of_length_le (by omega)
      have t1 : List.take p.2.1.length (byV p.2.1) = byV p.2.1 := List.take_of_length_le (by omega)
      have r0 := byV_ren p.1
      have r1 := byV_ren p.2.1
      have a0 : all1 (byV p.1) = true := all1_map p.1
      have a1 : all1 (byV p.2.1) = true := all1_map p.2.1
      have hlen := (cpD_prs (ps.take i)).len
      rw [List.length_take, Nat.min_eq_left (by omega)] at hlen
      have z0 : p.1.length = 0 → byV p.1 = [] := fun e => List.eq_nil_of_length_eq_zero (by omega)
      have z1 : p.2.1.length = 0 → byV p.2.1 = [] := fun e => List.eq_nil_of_length_eq_zero (by omega)
      have ht : ps.take (i + 1) = ps.take i ++ [p] := by rw [List.take_succ_eq_append_getElem hi, hp]
      have nx := cp_loop (inr := inr) (h0 := h0) hP hn hn9 hc hb r (i + 1) (by omega) (by omega)
      refine LRuns.step (code_runsP mdX mdL (runZ_ok mdX mdT mdL mixed 9) mixed (md_cp_more inr n c i ds (cpD (ps.take i))) ?_) rfl (by omega) (by omega) (fun _ => 91) ?_ ?_ rfl nx
      · simp only [Alls, rg, decide_eq_true_eq, decide_eq_false_iff_not, Nat.add_zero, f0, f1, v0, v1, t0, t1, Nat.mul_one]
        repeat' (with_reducible apply And.intro)
        all_goals first | omega | (with_reducible assumption) | (with_reducible exact trivial) | exact fun e => z0 (f0.symm.trans e) | exact fun e => z1 (f1.symm.trans e) | skip
      · exact ⟨rfl, rb_slc rfl hcc, rfl, rb_slg rfl rfl, rfl, rfl, trivial⟩
      · refine ⟨sd_row rfl rfl, dp_row (m := 91) rfl ?_, trivial⟩
        have e : ∀ X : List DV, X = cpD (ps.take (i + 1)) → some (Rw.mk (.dp 3 zPr X) []) = some (Rw.mk (.dp 3 zPr (cpD (ps.take (i + 1)))) []) := fun X hX => by rw [hX]
        refine e _ ?_
        rw [ht, cpD_snoc]
        congr 1
        simp only [Nat.add_zero, f0, f1, v0, v1, t0, t1, F.g, byV_fl]
        rfl
theorem cp_all {inr : Bool} {h0 : Hp} {ds : List DV} {ps : List Pr} {n c : Nat} (hP : Prs ds ps) (hn : ps.length = n) (h1 : 0 < n) (hn9 : n ≤ 100) (hc : c ≤ 9223372036854775807) (hb : ∀ p ∈ ps, p.1.length ≤ 200 ∧ p.2.1.length ≤ 200) :
    LRuns inr Try.prog (bodyIn Try.prog 10 3) 20 100 h0 33 [(0, sdV n c), (3, .slice none 0 0), (4, iV 0)] [(0, ⟨.sd ds, []⟩)] 81 (.exit 0, [(3, dpV n)], mdH ds (cpD ps)) := by
  have hcc : c < capBig := by unfold capBig; omega
  have hi : 0 < ps.length := by omega
  have F := hP.facts (List.getElem?_eq_getElem hi)
  obtain ⟨p, hp⟩ : ∃ p, ps[0] = p := ⟨_, rfl⟩
  rw [hp] at F
  have hb1 := hb p (by rw [← hp]; exact List.getElem_mem hi)
  have f0 : dLen ds 0 = p.1.length := F.l0
  have f1 : dLen ds 1 = p.2.1.length := F.l1
  have v0 : dVals ds 0 = byV p.1 := F.v0
  have v1 : dVals ds 1 = byV p.2.1 := F.v1
  have g2 : dBool ds 2 = p.2.2 := F.g
  have o1 : ShOb Try.prog 27 false true ds 0 81 := F.o27 81
  have o2 : ShOb Try.prog 27 false true ds 1 85 := F.o27' 85
  have o3 : ShOb Try.prog 4 false true ds 2 89 := F.o4 89
  have hl0 := byV_len p.1
  have hl1 := byV_len p.2.1
  have t0 : List.take p.1.length (byV p.1) = byV p.1 := List.take_of_length_le (by omega)
  have t1 : List.take p.2.1.length (byV p.2.1) = byV p.2.1 := List.take_of_length_le (by omega)
  have r0 := byV_ren p.1
  have r1 := byV_ren p.2.1
  have a0 : all1 (byV p.1) = true := all1_map p.1
  have a1 : all1 (byV p.2.1) = true := all1_map p.2.1
  have z0 : p.1.length = 0 → byV p.1 = [] := fun e => List.eq_nil_of_length_eq_zero (by omega)
  have z1 : p.2.1.length = 0 → byV p.2.1 = [] := fun e => List.eq_nil_of_length_eq_zero (by omega)
  have ht : ps.take 1 = [p] := by
    cases ps with
    | nil => simp at hi
    | cons q ps => simp only [List.getElem_cons_zero] at hp; subst hp; rfl
  have nx := cp_loop (inr := inr) (h0 := h0) hP hn hn9 hc hb (n - 1) 1 (by omega) (by omega)
  rw [ht] at nx
  refine LRuns.step (code_runsP mdX mdL (runZ_ok mdX mdT mdL mixed 9) mixed (md_cp_first inr n c ds) ?_) rfl (by omega) (by omega) (fun _ => 91) ?_ ?_ rfl nx
  · simp only [Alls, rg, decide_eq_true_eq, decide_eq_false_iff_not, Nat.add_zero, f0, f1, v0, v1, t0, t1, Nat.mul_one]
    repeat' (with_reducible apply And.intro)
    all_goals first | omega | (with_reducible assumption) | (with_reducible exact trivial) | exact fun e => z0 (f0.symm.trans e) | exact fun e => z1 (f1.symm.trans e) | skip
  · exact ⟨rfl, rb_slc rfl hcc, rfl, rb_slg rfl rfl, rfl, rfl, trivial⟩
  · refine ⟨sd_row rfl rfl, dp_row (m := 91) rfl ?_, trivial⟩
    have e : ∀ X : List DV, X = cpD [p] → some (Rw.mk (.dp 3 zPr X) []) = some (Rw.mk (.dp 3 zPr (cpD [p])) []) := fun X hX => by rw [hX]
    refine e _ ?_
    simp only [f0, f1, v0, v1, t0, t1, g2, byV_fl]
    rfl
end Go.Proofs.Ytojakfnljopjbaa
