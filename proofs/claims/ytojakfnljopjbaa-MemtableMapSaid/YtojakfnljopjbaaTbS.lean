/-
  Chapter 12: lists of pairs that are gone through: large ones, equal ones, sorted ones, as contracts.
-/
import Derived.Test.YtojakfnljopjbaaTbR
namespace Go.Proofs.Ytojakfnljopjbaa
set_option linter.unusedSimpArgs false
set_option linter.unusedVariables false
set_option linter.unusedSectionVars false
open Go Go.RowKit
def pxTab : FuncId → List Nat := fun f => bif Nat.beq f 9 then [9, 13, 22, 30] else bif Nat.beq f 13 then [7, 22] else bif Nat.beq f 15 then [10, 14] else bif Nat.beq f 31 then [9] else bif Nat.beq f 20 then [22] else []
def pxSy : FuncId → Nat → Option Nat := orSy (lsSy 9 [(18, 0), (20, 32), (26, 0), (28, 32), (15, 0), (13, 0)]) (orSy (lsSy 13 [(12, 0), (13, 0), (15, 32), (18, 0), (20, 32), (9, 0)]) (orSy (lsSy 15 [(19, 0), (20, 32), (23, 0), (24, 32), (16, 0)]) (lsSy 31 [(6, 0), (8, 0), (9, 0)])))
def pxV (L : LFun) (T : TFun) : Tv := ⟨T, cmpY, L, pxTab, pxSy, fun _ => [], fun _ => 0⟩
def saA (n : Nat) : Value := .slice (some ⟨0, 0, none⟩) n (capBig + 0)
def sbA (n : Nat) : Value := .slice (some ⟨2, 0, none⟩) n (capBig + 2)
def pxH (ds es : List DV) : Hp := [(0, ⟨.sw ds, []⟩), (2, ⟨.sw es, []⟩)]
theorem px_lp_go (inr : Bool) (n i : Nat) (ds es : List DV) : prjP [0, 5] 10 (codeZ (pxV noL noTz) Try.prog (runZ (pxV noL noTz) Try.prog 9) 9 inr 100000 (bodyIn Try.prog 9 4) (SL 32 [(0, saA n), (5, iV i)]) ([(0, ⟨.sw ds, []⟩)]) 10 [true, false, false]) =
  Res.ok ((Xt.normal, 32, [(0, Value.slice (some (Addr.mk 0 0 none)) n 18446744073709551616), (5, Value.int IntKind.i64 (↑(i + 1) : Int))], [(0, Rw.mk (Kd.sw ds) [])], 12, [], []), [], [decide ((↑i : Int) < (↑n : Int)) =
 true, (0 : Int) ≤ (↑i : Int) ∧ (↑i : Int) < (↑n : Int), ShOb Try.prog 27 false true ds (i * 3 + 0) 10, decide ((↑(dLen ds (i * 3 + 0 + 0)) : Int) > (200 : Int)) = false, (0 : Int) ≤ (↑i : Int) ∧ (↑i : Int) < (↑n : Int),
 ShOb Try.prog 27 false true ds (i * 3 + 1) 11, decide ((↑(dLen ds (i * 3 + 1 + 0)) : Int) > (200 : Int)) = false, rg IntKind.i64 (↑(i + 1) : Int)]) := by kernel_rfl
theorem px_lp_a (inr : Bool) (n i : Nat) (ds es : List DV) : prjP [4] 10 (codeZ (pxV noL noTz) Try.prog (runZ (pxV noL noTz) Try.prog 9) 9 inr 100000 (bodyIn Try.prog 9 4) (SL 32 [(0, saA n), (5, iV i)]) ([(0, ⟨.sw ds, []⟩)]) 10 [true, true]) =
  Res.ok ((Xt.ret, 32, [(4, Value.bool true)], [(0, Rw.mk (Kd.sw ds) [])], 11, [], []), [], [decide ((↑i : Int) < (↑n : Int)) = true, (0 : Int) ≤ (↑i : Int) ∧ (↑i : Int) < (↑n : Int), ShOb Try.prog 27 false true ds (i * 3 +
 0) 10, decide ((↑(dLen ds (i * 3 + 0 + 0)) : Int) > (200 : Int)) = true]) := by kernel_rfl
theorem px_lp_b (inr : Bool) (n i : Nat) (ds es : List DV) : prjP [4] 10 (codeZ (pxV noL noTz) Try.prog (runZ (pxV noL noTz) Try.prog 9) 9 inr 100000 (bodyIn Try.prog 9 4) (SL 32 [(0, saA n), (5, iV i)]) ([(0, ⟨.sw ds, []⟩)]) 10 [true, false, true]) =
  Res.ok ((Xt.ret, 32, [(4, Value.bool true)], [(0, Rw.mk (Kd.sw ds) [])], 12, [], []), [], [decide ((↑i : Int) < (↑n : Int)) = true, (0 : Int) ≤ (↑i : Int) ∧ (↑i : Int) < (↑n : Int), ShOb Try.prog 27 false true ds (i * 3 +
 0) 10, decide ((↑(dLen ds (i * 3 + 0 + 0)) : Int) > (200 : Int)) = false, (0 : Int) ≤ (↑i : Int) ∧ (↑i : Int) < (↑n : Int), ShOb Try.prog 27 false true ds (i * 3 + 1) 11, decide ((↑(dLen ds (i * 3 + 1 + 0)) : Int) > (200
 : Int)) = true]) := by kernel_rfl
theorem px_lp_end (inr : Bool) (n i : Nat) (ds es : List DV) : prjP [] 10 (codeZ (pxV noL noTz) Try.prog (runZ (pxV noL noTz) Try.prog 9) 9 inr 100000 (bodyIn Try.prog 9 4) (SL 32 [(0, saA n), (5, iV i)]) ([(0, ⟨.sw ds, []⟩)]) 10 [false]) =
  Res.ok ((Xt.exit 0, 32, [], [(0, Rw.mk (Kd.sw ds) [])], 10, [], []), [], [decide ((↑i : Int) < (↑n : Int)) = false]) := by kernel_rfl
theorem px_so_go (inr : Bool) (n i : Nat) (ds es : List DV) : prjP [0, 3] 10 (codeZ (pxV noL noTz) Try.prog (runZ (pxV noL noTz) Try.prog 9) 13 inr 100000 (bodyIn Try.prog 13 2) (SL 23 [(0, saA n), (3, iV (i + 1))]) ([(0, ⟨.sw ds, []⟩)]) 10 [true, false]) =
  Res.ok ((Xt.normal, 23, [(0, Value.slice (some (Addr.mk 0 0 none)) n 18446744073709551616), (3, Value.int IntKind.i64 (↑(i + 1 + 1) : Int))], [(0, Rw.mk (Kd.sw ds) [])], 12, [], []), [], [decide ((↑(i + 1) : Int) < (↑n :
 Int)) = true, rg IntKind.i64 ((↑(i + 1) : Int) - (1 : Int)), (0 : Int) ≤ (↑(i + 1) : Int) - (1 : Int) ∧ (↑(i + 1) : Int) - (1 : Int) < (↑n : Int), ShOb Try.prog 27 false true ds (Int.toNat ((↑(i + 1) : Int) - (1 : Int)) *
 3 + 0) 10, (0 : Int) ≤ (↑(i + 1) : Int) ∧ (↑(i + 1) : Int) < (↑n : Int), ShOb Try.prog 27 false true ds ((i + 1) * 3 + 0) 11, BytI (dLen ds (Int.toNat ((↑(i + 1) : Int) - (1 : Int)) * 3 + 0 + 0)) (dVals ds (Int.toNat
 ((↑(i + 1) : Int) - (1 : Int)) * 3 + 0 + 0)), BytI (dLen ds ((i + 1) * 3 + 0 + 0)) (dVals ds ((i + 1) * 3 + 0 + 0)), decide (cmpI (intsOf (dVals ds (Int.toNat ((↑(i + 1) : Int) - (1 : Int)) * 3 + 0 + 0))) (intsOf (dVals
 ds ((i + 1) * 3 + 0 + 0))) ≥ (0 : Int)) = false, rg IntKind.i64 (↑(i + 1 + 1) : Int)]) := by kernel_rfl
theorem px_so_end (inr : Bool) (n i : Nat) (ds es : List DV) : prjP [] 10 (codeZ (pxV noL noTz) Try.prog (runZ (pxV noL noTz) Try.prog 9) 13 inr 100000 (bodyIn Try.prog 13 2) (SL 23 [(0, saA n), (3, iV i)]) ([(0, ⟨.sw ds, []⟩)]) 10 [false]) =
  Res.ok ((Xt.exit 0, 23, [], [(0, Rw.mk (Kd.sw ds) [])], 10, [], []), [], [decide ((↑i : Int) < (↑n : Int)) = false]) := by kernel_rfl
theorem px_sp_go (inr : Bool) (n i : Nat) (ds es : List DV) : prjP [0, 1, 5] 10 (codeZ (pxV noL noTz) Try.prog (runZ (pxV noL noTz) Try.prog 9) 15 inr 100000 (bodyIn Try.prog 15 4) (SL 27 [(0, saA n), (1, sbA n), (5, iV i)]) (pxH ds es) 10 [true, true, true, true]) =
  Res.ok ((Xt.normal, 27, [(0, Value.slice (some (Addr.mk 0 0 none)) n 18446744073709551616), (1, Value.slice (some (Addr.mk 2 0 none)) n (capBig + 2)), (5, Value.int IntKind.i64 (↑(i + 1) : Int))], [(0, Rw.mk (Kd.sw ds)
 []), (2, Rw.mk (Kd.sw es) [])], 16, [], []), [], [decide ((↑i : Int) < (↑n : Int)) = true, (0 : Int) ≤ (↑i : Int) ∧ (↑i : Int) < (↑n : Int), ShOb Try.prog 29 false true ds (i * 3) 10, (0 : Int) ≤ (↑i : Int) ∧ (↑i : Int) <
 (↑n : Int), ShOb Try.prog 29 false true es (i * 3) 12, dLen ds (i * 3 + 0) ≤ List.length (dVals ds (i * 3 + 0)), List.take (dLen ds (i * 3 + 0)) (dVals ds (i * 3 + 0)) = List.map (Value.int IntKind.u8) (intsOf (List.take
 (dLen ds (i * 3 + 0)) (dVals ds (i * 3 + 0)))), dLen es (i * 3 + 0) ≤ List.length (dVals es (i * 3 + 0)), List.take (dLen es (i * 3 + 0)) (dVals es (i * 3 + 0)) = List.map (Value.int IntKind.u8) (intsOf (List.take (dLen
 es (i * 3 + 0)) (dVals es (i * 3 + 0)))), strEq (strOfI (intsOf (List.take (dLen ds (i * 3 + 0)) (dVals ds (i * 3 + 0))))) (strOfI (intsOf (List.take (dLen es (i * 3 + 0)) (dVals es (i * 3 + 0))))) = true, dLen ds (i * 3
 + 1) ≤ List.length (dVals ds (i * 3 + 1)), List.take (dLen ds (i * 3 + 1)) (dVals ds (i * 3 + 1)) = List.map (Value.int IntKind.u8) (intsOf (List.take (dLen ds (i * 3 + 1)) (dVals ds (i * 3 + 1)))), dLen es (i * 3 + 1) ≤
 List.length (dVals es (i * 3 + 1)), List.take (dLen es (i * 3 + 1)) (dVals es (i * 3 + 1)) = List.map (Value.int IntKind.u8) (intsOf (List.take (dLen es (i * 3 + 1)) (dVals es (i * 3 + 1)))), strEq (strOfI (intsOf
 (List.take (dLen ds (i * 3 + 1)) (dVals ds (i * 3 + 1))))) (strOfI (intsOf (List.take (dLen es (i * 3 + 1)) (dVals es (i * 3 + 1))))) = true, (dBool ds (i * 3 + 2) == dBool es (i * 3 + 2)) = true, rg IntKind.i64 (↑(i + 1)
 : Int)]) := by kernel_rfl
theorem px_sp_end (inr : Bool) (n i : Nat) (ds es : List DV) : prjP [] 10 (codeZ (pxV noL noTz) Try.prog (runZ (pxV noL noTz) Try.prog 9) 15 inr 100000 (bodyIn Try.prog 15 4) (SL 27 [(0, saA n), (1, sbA n), (5, iV i)]) (pxH ds es) 10 [false]) =
  Res.ok ((Xt.exit 0, 27, [], [(0, Rw.mk (Kd.sw ds) []), (2, Rw.mk (Kd.sw es) [])], 10, [], []), [], [decide ((↑i : Int) < (↑n : Int)) = false]) := by kernel_rfl
end Go.Proofs.Ytojakfnljopjbaa
/-
  Chapter 12: LargePairs, Sorted, SamePairs as contracts.
-/
namespace Go.Proofs.Ytojakfnljopjbaa
set_option linter.unusedSimpArgs false
set_option linter.unusedVariables false
set_option linter.unusedSectionVars false
open Go Go.RowKit
theorem pxX {L : LFun} {T : TFun} : XOkZ (pxV L T) Try.prog := XOneZ.ok cmpY_ok rfl
theorem pxT {L : LFun} : TOkZ (pxV L noTz) Try.prog := noTz_okV rfl
theorem pxL {T : TFun} : LOkZ (pxV noL T) Try.prog := noL_okV rfl
theorem px_lp {inr : Bool} {h0 : Hp} {ds : List DV} {ps : List Pr} {n : Nat} (hP : Prs ds ps) (hn : ps.length = n) (hn9 : n ≤ 1000) : ∀ (r i : Nat), i + r = n →
    LRuns inr Try.prog (bodyIn Try.prog 9 4) 4 40 h0 32 [(0, saA n), (5, iV i)] [(0, ⟨.sw ds, []⟩)] 10
      (bif (ps.drop i).any big then (.ret, [(4, .bool true)], [(0, ⟨.sw ds, []⟩)]) else (.exit 0, [], [(0, ⟨.sw ds, []⟩)]))
  | 0, i, hr => by
      rw [List.drop_of_length_le (by omega)]
      refine LRuns.exit (code_runsP pxX pxL (runZ_ok pxX pxT pxL mixed 9) mixed (px_lp_end inr n i ds []) ?_) (by intro e; cases e) rfl (by omega) (by omega) (fun n => n) ?_ ?_ rfl
      · simp only [Alls, decide_eq_false_iff_not]
        exact ⟨by omega, trivial⟩
      · trivial
      · exact ⟨sw_row rfl rfl, trivial⟩
  | r + 1, i, hr => by
      have hi : i < ps.length := by omega
      have F := hP.facts (List.getElem?_eq_getElem hi)
      obtain ⟨p, hp⟩ : ∃ p, ps[i] = p := ⟨_, rfl⟩
      rw [hp] at F
      have hd : ps.drop i = p :: ps.drop (i + 1) := by rw [List.drop_eq_getElem_cons hi, hp]
      have f0 := F.l0
      have f1 := F.l1
      have o1 := F.o27 10
      have o2 := F.o27' 11
      rw [hd, List.any_cons]
      by_cases h1 : 200 < p.1.length
      · have e : big p = true := by simp [big, h1]
        rw [e, Bool.true_or]
        refine LRuns.exit (code_runsP pxX pxL (runZ_ok pxX pxT pxL mixed 9) mixed (px_lp_a inr n i ds []) ?_) (by intro e; cases e) rfl (by omega) (by omega) (fun n => n) ?_ ?_ rfl
        ·
          simp only [Alls, rg, decide_eq_true_eq, decide_eq_false_iff_not, Nat.add_zero]
          repeat' (with_reducible apply And.intro)
          all_goals first | omega | (with_reducible assumption) | (with_reducible exact trivial) | (with_reducible rfl) | exact rfl
        · exact ⟨rfl, rfl, trivial⟩
        · exact ⟨sw_row rfl rfl, trivial⟩
      by_cases h2 : 200 < p.2.1.length
      · have e : big p = true := by simp [big, h2]
        rw [e, Bool.true_or]
        refine LRuns.exit (code_runsP pxX pxL (runZ_ok pxX pxT pxL mixed 9) mixed (px_lp_b inr n i ds []) ?_) (by intro e; cases e) rfl (by omega) (by omega) (fun n => n) ?_ ?_ rfl
        ·
          simp only [Alls, rg, decide_eq_true_eq, decide_eq_false_iff_not, Nat.add_zero]
          repeat' (with_reducible apply And.intro)
          all_goals first | omega | (with_reducible assumption) | (with_reducible exact trivial) | (with_reducible rfl) | exact rfl
        · exact ⟨rfl, rfl, trivial⟩
        · exact ⟨sw_row rfl rfl, trivial⟩
      · have e : big p = false := by simp [big, h1, h2]
        rw [e, Bool.false_or]
        refine LRuns.step (code_runsP pxX pxL (runZ_ok pxX pxT pxL mixed 9) mixed (px_lp_go inr n i ds []) ?_) rfl (by omega) (by omega) (fun n => n) ?_ ?_ rfl (px_lp hP hn hn9 r (i + 1) (by omega))
        ·
          simp only [Alls, rg, decide_eq_true_eq, decide_eq_false_iff_not, Nat.add_zero]
          repeat' (with_reducible apply And.intro)
          all_goals first | omega | (with_reducible assumption) | (with_reducible exact trivial) | (with_reducible rfl) | exact rfl
        · exact ⟨rfl, rb_slg rfl rfl, rfl, rfl, trivial⟩
        · exact ⟨sw_row rfl rfl, trivial⟩
theorem px_so {inr : Bool} {h0 : Hp} {ds : List DV} {n : Nat} (hT : TbOk ds n) : ∀ (r i : Nat), i + r = n →
    LRuns inr Try.prog (bodyIn Try.prog 13 2) 2 40 h0 23 [(0, saA n), (3, iV (i + 1))] [(0, ⟨.sw ds, []⟩)] 10 (.exit 0, [], [(0, ⟨.sw ds, []⟩)])
  | r, i, hr => by
      by_cases he : i + 1 < n
      · have hm := hT.m
        have hi : i < (prsOf ds).length := by rw [hT.l]; omega
        have hi2 : i + 1 < (prsOf ds).length := by rw [hT.l]; omega
        have F := hT.P.facts (List.getElem?_eq_getElem hi)
        have G := hT.P.facts (List.getElem?_eq_getElem hi2)
        obtain ⟨p, hp⟩ : ∃ p, (prsOf ds)[i] = p := ⟨_, rfl⟩
        obtain ⟨q, hq⟩ : ∃ q, (prsOf ds)[i + 1] = q := ⟨_, rfl⟩
        rw [hp] at F
        rw [hq] at G
        have bp := (hT.O p (by rw [← hp]; exact List.getElem_mem hi)).1
        have bq := (hT.O q (by rw [← hq]; exact List.getElem_mem hi2)).1
        have hlt : ltK p.1 q.1 = true := by
          have hd : (prsOf ds).drop i = p :: q :: (prsOf ds).drop (i + 1 + 1) := by rw [List.drop_eq_getElem_cons hi, List.drop_eq_getElem_cons hi2, hp, hq]
          have ha : ∀ (n : Nat) (l : List Pr), asc l = true → asc (l.drop n) = true := by
            intro n
            induction n with
            | zero => intro l h; simpa using h
            | succ n ih =>
              intro l h
              cases l with
              | nil => rfl
              | cons x l => exact ih l (asc_tail h)
          have := ha i _ hT.a
          rw [hd] at this
          exact asc_head this
        rw [ltK_cmp, decide_eq_true_eq] at hlt
        have en : Int.toNat (((i + 1 : Nat) : Int) - 1) = i := by omega
        have f0 := F.l0
        have v0 := F.v0
        have f0' := G.l0
        have v0' := G.v0
        have o1 := F.o27 10
        have o2 := G.o27 11
        have y1 := byV_bytI bp
        have y2 := byV_bytI bq
        have i0 := byV_ints p.1
        have i1 := byV_ints q.1
        cases r with
        | zero => omega
        | succ r =>
          refine LRuns.step (code_runsP pxX pxL (runZ_ok pxX pxT pxL mixed 9) mixed (px_so_go inr n i ds []) ?_) rfl (by omega) (by omega) (fun n => n) ?_ ?_ rfl (px_so hT r (i + 1) (by omega))
          ·
            simp only [Alls, rg, decide_eq_true_eq, decide_eq_false_iff_not, Nat.add_zero, en, f0, v0, f0', v0', i0, i1]
            repeat' (with_reducible apply And.intro)
            all_goals first | omega | (with_reducible assumption) | (with_reducible exact trivial) | (with_reducible rfl) | exact rfl
          · exact ⟨rfl, rb_slg rfl rfl, rfl, rfl, trivial⟩
          · exact ⟨sw_row rfl rfl, trivial⟩
      · refine LRuns.exit (code_runsP pxX pxL (runZ_ok pxX pxT pxL mixed 9) mixed (px_so_end inr n (i + 1) ds []) ?_) (by intro e; cases e) rfl (by omega) (by omega) (fun n => n) ?_ ?_ rfl
        · simp only [Alls, decide_eq_false_iff_not]
          exact ⟨by omega, trivial⟩
        · trivial
        · exact ⟨sw_row rfl rfl, trivial⟩
theorem px_sp {inr : Bool} {h0 : Hp} {ds es : List DV} {ps : List Pr} {n : Nat} (hP : Prs ds ps) (hE : Prs es ps) (hn : ps.length = n) (hn9 : n ≤ 1000) : ∀ (r i : Nat), i + r = n →
    LRuns inr Try.prog (bodyIn Try.prog 15 4) 4 40 h0 27 [(0, saA n), (1, sbA n), (5, iV i)] (pxH ds es) 10 (.exit 0, [], pxH ds es)
  | 0, i, hr => by
      refine LRuns.exit (code_runsP pxX pxL (runZ_ok pxX pxT pxL mixed 9) mixed (px_sp_end inr n i ds es) ?_) (by intro e; cases e) rfl (by omega) (by omega) (fun n => n) ?_ ?_ rfl
      · simp only [Alls, decide_eq_false_iff_not]
        exact ⟨by omega, trivial⟩
      · trivial
      · exact ⟨sw_row (m := 0) rfl rfl, sw_row (m := 2) rfl rfl, trivial⟩
  | r + 1, i, hr => by
      have hi : i < ps.length := by omega
      have G := hP.facts (List.getElem?_eq_getElem hi)
      have F := hE.facts (List.getElem?_eq_getElem hi)
      obtain ⟨p, hp⟩ : ∃ p, ps[i] = p := ⟨_, rfl⟩
      rw [hp] at F G
      have f0 := F.l0
      have f1 := F.l1
      have v0 := F.v0
      have v1 := F.v1
      have f0' := G.l0
      have f1' := G.l1
      have v0' := G.v0
      have v1' := G.v1
      have g1 := F.g
      have g2 := G.g
      have o1 := G.o29 10
      have o2 := F.o29 12
      have hl0 := byV_len p.1
      have hl1 := byV_len p.2.1
      have t0 : List.take p.1.length (byV p.1) = byV p.1 := List.take_of_length_le (by omega)
      have t1 : List.take p.2.1.length (byV p.2.1) = byV p.2.1 := List.take_of_length_le (by omega)
      have i0 := byV_ints p.1
      have i1 := byV_ints p.2.1
      have se : ∀ s : ByteArray, strEq s s = true := fun s => by unfold strEq; exact beq_self_eq_true _
      refine LRuns.step (code_runsP pxX pxL (runZ_ok pxX pxT pxL mixed 9) mixed (px_sp_go inr n i ds es) ?_) rfl (by omega) (by omega) (fun n => n) ?_ ?_ rfl (px_sp hP hE hn hn9 r (i + 1) (by omega))
      ·
        simp only [Alls, rg, decide_eq_true_eq, decide_eq_false_iff_not, Nat.add_zero, f0, f1, v0, v1, f0', f1', v0', v1', t0, t1, i0, i1, g1, g2, se, beq_self_eq_true]
        repeat' (with_reducible apply And.intro)
        all_goals first | omega | (with_reducible assumption) | (with_reducible exact trivial) | (with_reducible rfl) | exact rfl
      · exact ⟨rfl, rb_slg rfl rfl, rfl, rb_slg rfl rfl, rfl, rfl, trivial⟩
      · exact ⟨sw_row (m := 0) rfl rfl, sw_row (m := 2) rfl rfl, trivial⟩
/-! ### contracts -/
structure LpOk (ds : List DV) (n : Nat) : Prop where
  P : Prs ds (prsOf ds)
  l : (prsOf ds).length = n
def px1 (live : List (Nat × Value)) (h : Hp) : Option (Nat × List DV) := match live, lk h 0 with | (_, .slice _ n _) :: _, some ⟨.sw ds, _⟩ => some (n, ds) | _, _ => none
def px2 (live : List (Nat × Value)) (h : Hp) : Option (Nat × List DV × List DV) := match live, lk h 0, lk h 2 with | (_, .slice _ n _) :: _, some ⟨.sw ds, _⟩, some ⟨.sw es, _⟩ => some (n, ds, es) | _, _, _ => none
def pxlpSp : LSpec := lspec px1 (fun a => ([(0, saA a.1), (5, iV 0)], [(0, ⟨.sw a.2, []⟩)], 4)) (fun a tp => match tp with
  | b :: tp' => some ((bif b then .ret else .exit 0, bif b then [(4, .bool true)] else [], [(0, ⟨.sw a.2, []⟩)], 40, []), tp', [LpOk a.2 a.1 ∧ a.1 ≤ 1000 ∧ (prsOf a.2).any big = b])
  | [] => none)
def pxsoSp : LSpec := lspec px1 (fun a => ([(0, saA a.1), (3, iV 1)], [(0, ⟨.sw a.2, []⟩)], 2)) (fun a tp => some ((.exit 0, [], [(0, ⟨.sw a.2, []⟩)], 40, []), tp, [TbOk a.2 a.1]))
structure SpOk (ds es : List DV) (n : Nat) : Prop where
  P : Prs ds (prsOf ds)
  E : Prs es (prsOf ds)
  l : (prsOf ds).length = n
  m : n ≤ 1000
def pxspSp : LSpec := lspec px2 (fun a => ([(0, saA a.1), (1, sbA a.1), (5, iV 0)], pxH a.2.1 a.2.2, 4)) (fun a tp => some ((.exit 0, [], pxH a.2.1 a.2.2, 40, []), tp, [SpOk a.2.1 a.2.2 a.1]))
def pxLo (P : Program) : LFun := orL (mkL 9 4 32 [0, 5] (bodyIn P 9 4) pxlpSp) (orL (mkL 13 2 23 [0, 3] (bodyIn P 13 2) pxsoSp) (mkL 15 4 27 [0, 1, 5] (bodyIn P 15 4) pxspSp))
theorem px_clL (n : Nat) (ds : List DV) : prjV (runZ (pxV (pxLo Try.prog) noTz) Try.prog 9 9 [saA n, .int .i64 100] [(0, ⟨.sw ds, []⟩)] 4 [true]) =
  Res.ok (Value.bool true, [], [decide ((↑n : Int) > (100 : Int)) = true]) := by kernel_rfl
theorem px_cl1 (n : Nat) (ds : List DV) : prjV (runZ (pxV (pxLo Try.prog) noTz) Try.prog 9 9 [saA n, .int .i64 100] [(0, ⟨.sw ds, []⟩)] 4 [false, true]) =
  Res.ok (Value.bool true, [], [decide ((↑n : Int) > (100 : Int)) = false, bodyIn Try.prog (9 : FuncId) 4 = bodyIn Try.prog (9 : FuncId) 4, [(0, Value.slice (some (Addr.mk 0 0 none)) n 18446744073709551616), (5, Value.int
 IntKind.i64 (0 : Int))] = [(0, Value.slice (some (Addr.mk 0 0 none)) n 18446744073709551616), (5, Value.int IntKind.i64 (0 : Int))], [(0, Rw.mk (Kd.sw ds) [])] = [(0, Rw.mk (Kd.sw ds) [])], 4 = 4, LpOk ds n ∧ n ≤ 1000 ∧
 List.any (prsOf ds) big = true]) := by kernel_rfl
theorem px_cl0 (n : Nat) (ds : List DV) : prjV (runZ (pxV (pxLo Try.prog) noTz) Try.prog 9 9 [saA n, .int .i64 100] [(0, ⟨.sw ds, []⟩)] 4 [false, false]) =
  Res.ok (Value.bool false, [], [decide ((↑n : Int) > (100 : Int)) = false, bodyIn Try.prog (9 : FuncId) 4 = bodyIn Try.prog (9 : FuncId) 4, [(0, Value.slice (some (Addr.mk 0 0 none)) n 18446744073709551616), (5, Value.int
 IntKind.i64 (0 : Int))] = [(0, Value.slice (some (Addr.mk 0 0 none)) n 18446744073709551616), (5, Value.int IntKind.i64 (0 : Int))], [(0, Rw.mk (Kd.sw ds) [])] = [(0, Rw.mk (Kd.sw ds) [])], 4 = 4, LpOk ds n ∧ n ≤ 1000 ∧
 List.any (prsOf ds) big = false]) := by kernel_rfl
theorem px_cs (n : Nat) (ds : List DV) : prjV (runZ (pxV (pxLo Try.prog) noTz) Try.prog 9 13 [saA n] [(0, ⟨.sw ds, []⟩)] 2 []) =
  Res.ok (Value.bool true, [], [bodyIn Try.prog (13 : FuncId) 2 = bodyIn Try.prog (13 : FuncId) 2, [(0, Value.slice (some (Addr.mk 0 0 none)) n 18446744073709551616), (3, Value.int IntKind.i64 (1 : Int))] = [(0, Value.slice
 (some (Addr.mk 0 0 none)) n 18446744073709551616), (3, Value.int IntKind.i64 (1 : Int))], [(0, Rw.mk (Kd.sw ds) [])] = [(0, Rw.mk (Kd.sw ds) [])], 2 = 2, TbOk ds n]) := by kernel_rfl
theorem px_cp (n : Nat) (ds es : List DV) : prjV (runZ (pxV (pxLo Try.prog) noTz) Try.prog 9 15 [saA n, sbA n] (pxH ds es) 4 [false]) =
  Res.ok (Value.bool true, [], [((↑n : Int) != (↑n : Int)) = false, bodyIn Try.prog (15 : FuncId) 4 = bodyIn Try.prog (15 : FuncId) 4, [(0, Value.slice (some (Addr.mk 0 0 none)) n 18446744073709551616), (1, Value.slice
 (some (Addr.mk 2 0 none)) n (capBig + 2)), (5, Value.int IntKind.i64 (0 : Int))] = [(0, Value.slice (some (Addr.mk 0 0 none)) n 18446744073709551616), (1, Value.slice (some (Addr.mk 2 0 none)) n (capBig + 2)), (5,
 Value.int IntKind.i64 (0 : Int))], pxH ds es = pxH ds es, 4 = 4, SpOk ds es n]) := by kernel_rfl
theorem pxlp_ok : LSOk Try.prog 32 [0, 5] (bodyIn Try.prog 9 4) pxlpSp := by
  refine lspec_ok fun a tp xt l2 h2 nx2 d tp' ob hs ho inr ts hn hg => ?_
  obtain ⟨n, ds⟩ := a
  simp only at hs hg
  split at hs
  case h_2 => cases hs
  rename_i b _
  simp only [Option.some.injEq, Prod.mk.injEq] at hs
  obtain ⟨⟨rfl, rfl, rfl, rfl, rfl⟩, rfl, rfl⟩ := hs
  obtain ⟨⟨h, hm, hb⟩, _⟩ := ho
  have key := px_lp (inr := inr) (h0 := [(0, ⟨.sw ds, []⟩)]) h.P h.l hm n 0 (by omega)
  rw [List.drop_zero, hb] at key
  cases b with
  | true =>
    refine LRuns.enter (N := 10) (l2 := [(0, saA n), (5, iV 0)]) hn hg (by omega) (by omega) (fun n => n) ?_ ?_ rfl key ?_
    · exact ⟨rfl, rb_slg rfl rfl, rfl, rfl, trivial⟩
    · exact ⟨sw_row rfl rfl, trivial⟩
    · exact tidy_of (by omega) (fun m hm hd => rfl) rfl
  | false =>
    refine LRuns.enter (N := 10) (l2 := [(0, saA n), (5, iV 0)]) hn hg (by omega) (by omega) (fun n => n) ?_ ?_ rfl key ?_
    · exact ⟨rfl, rb_slg rfl rfl, rfl, rfl, trivial⟩
    · exact ⟨sw_row rfl rfl, trivial⟩
    · exact tidy_of (by omega) (fun m hm hd => rfl) rfl
theorem pxso_ok : LSOk Try.prog 23 [0, 3] (bodyIn Try.prog 13 2) pxsoSp := by
  refine lspec_ok fun a tp xt l2 h2 nx2 d tp' ob hs ho inr ts hn hg => ?_
  obtain ⟨n, ds⟩ := a
  simp only at hs hg
  simp only [Option.some.injEq, Prod.mk.injEq] at hs
  obtain ⟨⟨rfl, rfl, rfl, rfl, rfl⟩, rfl, rfl⟩ := hs
  obtain ⟨h, _⟩ := ho
  have key := px_so (inr := inr) (h0 := [(0, ⟨.sw ds, []⟩)]) h n 0 (by omega)
  refine LRuns.enter (N := 10) (l2 := [(0, saA n), (3, iV 1)]) hn hg (by omega) (by omega) (fun n => n) ?_ ?_ rfl key ?_
  · exact ⟨rfl, rb_slg rfl rfl, rfl, rfl, trivial⟩
  · exact ⟨sw_row rfl rfl, trivial⟩
  · exact tidy_of (by omega) (fun m hm hd => rfl) rfl
theorem pxsp_ok : LSOk Try.prog 27 [0, 1, 5] (bodyIn Try.prog 15 4) pxspSp := by
  refine lspec_ok fun a tp xt l2 h2 nx2 d tp' ob hs ho inr ts hn hg => ?_
  obtain ⟨n, ds, es⟩ := a
  simp only at hs hg
  simp only [Option.some.injEq, Prod.mk.injEq] at hs
  obtain ⟨⟨rfl, rfl, rfl, rfl, rfl⟩, rfl, rfl⟩ := hs
  obtain ⟨h, _⟩ := ho
  have key := px_sp (inr := inr) (h0 := pxH ds es) h.P h.E h.l h.m n 0 (by omega)
  refine LRuns.enter (N := 10) (l2 := [(0, saA n), (1, sbA n), (5, iV 0)]) hn hg (by omega) (by omega) (fun n => n) ?_ ?_ rfl key ?_
  · exact ⟨rfl, rb_slg rfl rfl, rfl, rb_slg rfl rfl, rfl, rfl, trivial⟩
  · exact ⟨sw_row (m := 0) rfl rfl, sw_row (m := 2) rfl rfl, trivial⟩
  · exact tidy_of (by omega) (fun m hm hd => rfl) rfl
theorem pxLo_ok : LOne Try.prog (pxLo Try.prog) := orL_ok (mkL_ok pxlp_ok) (orL_ok (mkL_ok pxso_ok) (mkL_ok pxsp_ok))
theorem px_run {f : FuncId} {args : List Value} {h : Hp} {nx : Nat} {tp tp' : Tape} {v : Value} {ob : List Prop} (e : prjV (runZ (pxV (pxLo Try.prog) noTz) Try.prog 9 f args h nx tp) = .ok (v, tp', ob)) (ho : Alls ob) (hf : Nat.blt f yBig = true) : ∃ h' nx' d, Tri Try.prog f args h nx (v, h', nx', d) := run_val pxX pxT (L_okV rfl pxLo_ok) e ho hf
def gLp : GSpecD := fun aL tp => match aL, tp with
  | [.dl ds n, .fl (.int .i64 100)], b :: tp' => some (⟨fun _ => .bool b, []⟩, tp', [LpOk ds n ∧ (decide ((n : Int) > 100) || (prsOf ds).any big) = b])
  | _, _ => none
theorem lp_gok : GOkD Try.prog 9 gLp := by
  intro aL tp gr tp' ob hG ho cs hc
  unfold gLp at hG
  split at hG
  case h_2 => cases hG
  rename_i ds n b tp2
  simp only [Option.some.injEq, Prod.mk.injEq] at hG
  obtain ⟨rfl, rfl, rfl⟩ := hG
  obtain ⟨⟨h1, h2⟩, _⟩ := ho
  have fin : ∀ {v : Bool}, (∃ h' nx' d, Tri Try.prog 9 [saA n, .int .i64 100] [(0, ⟨.sw ds, []⟩)] 4 (.bool v, h', nx', d)) → v = b → ∃ v0 h0' nx0' d0 g, Tri Try.prog 9 (dvV [.dl ds n, .fl (.int .i64 100)] cs 0) (dvH [.dl ds n, .fl (.int .i64 100)] cs 0) (2 * 2) (v0, h0', nx0', d0) ∧ GrD ⟨fun _ => .bool b, []⟩ v0 h0' g := fun ⟨h', nx', d, T⟩ e => by
    subst e
    exact ⟨_, h', nx', d, fun n => n, T, GrD.flat fun σ => rfl⟩
  by_cases h : (n : Int) > 100
  · exact fin (px_run (px_clL n ds) ⟨decide_eq_true h, trivial⟩ rfl) (by rw [← h2, decide_eq_true h]; rfl)
  · rw [decide_eq_false h, Bool.false_or] at h2
    cases hb : (prsOf ds).any big with
    | true => exact fin (px_run (px_cl1 n ds) ⟨decide_eq_false h, rfl, rfl, rfl, rfl, ⟨h1, by omega, hb⟩, trivial⟩ rfl) (by rw [← h2, hb])
    | false => exact fin (px_run (px_cl0 n ds) ⟨decide_eq_false h, rfl, rfl, rfl, rfl, ⟨h1, by omega, hb⟩, trivial⟩ rfl) (by rw [← h2, hb])
def gSo : GSpecD := fun aL tp => match aL with
  | [.dl ds n] => some (⟨fun _ => .bool true, []⟩, tp, [TbOk ds n])
  | _ => none
theorem so_gok : GOkD Try.prog 13 gSo := by
  intro aL tp gr tp' ob hG ho cs hc
  unfold gSo at hG
  split at hG
  case h_2 => cases hG
  rename_i ds n
  simp only [Option.some.injEq, Prod.mk.injEq] at hG
  obtain ⟨rfl, rfl, rfl⟩ := hG
  obtain ⟨h', nx', d, T⟩ := px_run (px_cs n ds) ⟨rfl, rfl, rfl, rfl, ho.1, trivial⟩ rfl
  exact ⟨_, h', nx', d, fun n => n, T, GrD.flat fun σ => rfl⟩
def gSp : GSpecD := fun aL tp => match aL with
  | [.dl ds n, .dl es m] => some (⟨fun _ => .bool true, []⟩, tp, [SpOk ds es n ∧ m = n])
  | _ => none
theorem sp_gok : GOkD Try.prog 15 gSp := by
  intro aL tp gr tp' ob hG ho cs hc
  unfold gSp at hG
  split at hG
  case h_2 => cases hG
  rename_i ds n es m
  simp only [Option.some.injEq, Prod.mk.injEq] at hG
  obtain ⟨rfl, rfl, rfl⟩ := hG
  obtain ⟨⟨h1, rfl⟩, _⟩ := ho
  obtain ⟨h', nx', d, T⟩ := px_run (px_cp m ds es) ⟨by simp, rfl, rfl, rfl, rfl, h1, trivial⟩ rfl
  exact ⟨_, h', nx', d, fun n => n, T, GrD.flat fun σ => rfl⟩
def pxTs : TFun := orTz (mkD 9 [.d, .f] gLp) (orTz (mkD 13 [.d] gSo) (mkD 15 [.d, .d] gSp))
theorem pxTs_one : TOneZ Try.prog pxTs := orTz_ok (mkD_ok lp_gok) (orTz_ok (mkD_ok so_gok) (mkD_ok sp_gok))
end Go.Proofs.Ytojakfnljopjbaa
