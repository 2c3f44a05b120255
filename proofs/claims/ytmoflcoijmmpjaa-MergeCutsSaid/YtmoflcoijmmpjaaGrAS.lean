/-
  Chapter 14: lists of pairs that are gone through: large ones, equal ones, as contracts (as TbL, TbM of chapter 12).
-/
import Derived.Test.YtmoflcoijmmpjaaGrAR
namespace Go.Proofs.Ytmoflcoijmmpjaa
set_option linter.unusedSimpArgs false
set_option linter.unusedVariables false
set_option linter.unusedSectionVars false
open Go Go.RowKit
def pxTab : FuncId → List Nat := fun f => bif Nat.beq f 22 then [9, 13, 22, 30] else bif Nat.beq f 16 then [10, 14] else bif Nat.beq f 29 then [9] else bif Nat.beq f 17 then [22] else []
def pxSy : FuncId → Nat → Option Nat := orSy (lsSy 22 [(18, 0), (20, 32), (26, 0), (28, 32), (15, 0), (13, 0)]) (orSy (lsSy 16 [(19, 0), (20, 32), (23, 0), (24, 32), (16, 0)]) (lsSy 29 [(6, 0), (8, 0), (9, 0)]))
def pxV (L : LFun) (T : TFun) : Tv := ⟨T, cmpY, L, pxTab, pxSy, fun _ => [], fun _ => 0⟩
def saA (n : Nat) : Value := .slice (some ⟨0, 0, none⟩) n (capBig + 0)
def sbA (n : Nat) : Value := .slice (some ⟨2, 0, none⟩) n (capBig + 2)
def pxH (ds es : List DV) : Hp := [(0, ⟨.sw ds, []⟩), (2, ⟨.sw es, []⟩)]
theorem py_lp_go (inr : Bool) (n i : Nat) (ds es : List DV) : prjP [0, 5] 10 (codeZ (pxV noL noTz) Try.prog (runZ (pxV noL noTz) Try.prog 9) 22 inr 100000 (bodyIn Try.prog 22 4) (SL 32 [(0, saA n), (5, iV i)]) ([(0, ⟨.sw ds, []⟩)]) 10 [true, false, false]) =
 Res.ok ((Xt.normal, 32, [(0, Value.slice (some (Addr.mk 0 0 none)) n 18446744073709551616), (5, Value.int IntKind.i64 (↑(i + 1) : Int))], [(0, Rw.mk (Kd.sw ds) [])], 12, [], []), [], [decide ((↑i : Int) < (↑n : Int)) = true, (0 : Int) ≤ (↑i : Int) ∧ (↑i : Int) < (↑n : Int), ShOb Try.prog 23 false true ds (i * 3 + 0) 10, decide ((↑(dLen ds (i * 3 + 0 + 0)) : Int) > (200 : Int)) = false, (0 : Int) ≤ (↑i : Int) ∧ (↑i : Int) < (↑n : Int), ShOb Try.prog 23 false true ds (i * 3 + 1) 11, decide ((↑(dLen ds (i * 3 + 1 + 0)) : Int) > (200 : Int)) = false, rg IntKind.i64 (↑(i + 1) : Int)]) := by kernel_rfl
theorem py_lp_a (inr : Bool) (n i : Nat) (ds es : List DV) : prjP [4] 10 (codeZ (pxV noL noTz) Try.prog (runZ (pxV noL noTz) Try.prog 9) 22 inr 100000 (bodyIn Try.prog 22 4) (SL 32 [(0, saA n), (5, iV i)]) ([(0, ⟨.sw ds, []⟩)]) 10 [true, true]) =
 Res.ok ((Xt.ret, 32, [(4, Value.bool true)], [(0, Rw.mk (Kd.sw ds) [])], 11, [], []), [], [decide ((↑i : Int) < (↑n : Int)) = true, (0 : Int) ≤ (↑i : Int) ∧ (↑i : Int) < (↑n : Int), ShOb Try.prog 23 false true ds (i * 3 + 0) 10, decide ((↑(dLen ds (i * 3 + 0 + 0)) : Int) > (200 : Int)) = true]) := by kernel_rfl
theorem py_lp_b (inr : Bool) (n i : Nat) (ds es : List DV) : prjP [4] 10 (codeZ (pxV noL noTz) Try.prog (runZ (pxV noL noTz) Try.prog 9) 22 inr 100000 (bodyIn Try.prog 22 4) (SL 32 [(0, saA n), (5, iV i)]) ([(0, ⟨.sw ds, []⟩)]) 10 [true, false, true]) =
 Res.ok ((Xt.ret, 32, [(4, Value.bool true)], [(0, Rw.mk (Kd.sw ds) [])], 12, [], []), [], [decide ((↑i : Int) < (↑n : Int)) = true, (0 : Int) ≤ (↑i : Int) ∧ (↑i : Int) < (↑n : Int), ShOb Try.prog 23 false true ds (i * 3 + 0) 10, decide ((↑(dLen ds (i * 3 + 0 + 0)) : Int) > (200 : Int)) = false, (0 : Int) ≤ (↑i : Int) ∧ (↑i : Int) < (↑n : Int), ShOb Try.prog 23 false true ds (i * 3 + 1) 11, decide ((↑(dLen ds (i * 3 + 1 + 0)) : Int) > (200 : Int)) = true]) := by kernel_rfl
theorem py_lp_end (inr : Bool) (n i : Nat) (ds es : List DV) : prjP [] 10 (codeZ (pxV noL noTz) Try.prog (runZ (pxV noL noTz) Try.prog 9) 22 inr 100000 (bodyIn Try.prog 22 4) (SL 32 [(0, saA n), (5, iV i)]) ([(0, ⟨.sw ds, []⟩)]) 10 [false]) =
 Res.ok ((Xt.exit 0, 32, [], [(0, Rw.mk (Kd.sw ds) [])], 10, [], []), [], [decide ((↑i : Int) < (↑n : Int)) = false]) := by kernel_rfl
theorem py_sp_go (inr : Bool) (n i : Nat) (ds es : List DV) : prjP [0, 1, 5] 10 (codeZ (pxV noL noTz) Try.prog (runZ (pxV noL noTz) Try.prog 9) 16 inr 100000 (bodyIn Try.prog 16 4) (SL 27 [(0, saA n), (1, sbA n), (5, iV i)]) (pxH ds es) 10 [true, true, true, true]) =
 Res.ok ((Xt.normal, 27, [(0, Value.slice (some (Addr.mk 0 0 none)) n 18446744073709551616), (1, Value.slice (some (Addr.mk 2 0 none)) n (capBig + 2)), (5, Value.int IntKind.i64 (↑(i + 1) : Int))], [(0, Rw.mk (Kd.sw ds) []), (2, Rw.mk (Kd.sw es) [])], 16, [], []), [], [decide ((↑i : Int) < (↑n : Int)) = true, (0 : Int) ≤ (↑i : Int) ∧ (↑i : Int) < (↑n : Int), ShOb Try.prog 32 false true ds (i * 3) 10, (0 : Int) ≤ (↑i : Int) ∧ (↑i : Int) < (↑n : Int), ShOb Try.prog 32 false true es (i * 3) 12, dLen ds (i * 3 + 0) ≤ List.length (dVals ds (i * 3 + 0)), List.take (dLen ds (i * 3 + 0)) (dVals ds (i * 3 + 0)) = List.map (Value.int IntKind.u8) (intsOf (List.take (dLen ds (i * 3 + 0)) (dVals ds (i * 3 + 0)))), dLen es (i * 3 + 0) ≤ List.length (dVals es (i * 3 + 0)), List.take (dLen es (i * 3 + 0)) (dVals es (i * 3 + 0)) = List.map (Value.int IntKind.u8) (intsOf (List.take (dLen es (i * 3 + 0))
 (dVals es (i * 3 + 0)))), strEq (strOfI (intsOf (List.take (dLen ds (i * 3 + 0)) (dVals ds (i * 3 + 0))))) (strOfI (intsOf (List.take (dLen es (i * 3 + 0)) (dVals es (i * 3 + 0))))) = true, dLen ds (i * 3 + 1) ≤ List.length (dVals ds (i * 3 + 1)), List.take (dLen ds (i * 3 + 1)) (dVals ds (i * 3 + 1)) = List.map (Value.int IntKind.u8) (intsOf (List.take (dLen ds (i * 3 + 1)) (dVals ds (i * 3 + 1)))), dLen es (i * 3 + 1) ≤ List.length (dVals es (i * 3 + 1)), List.take (dLen es (i * 3 + 1)) (dVals es (i * 3 + 1)) = List.map (Value.int IntKind.u8) (intsOf (List.take (dLen es (i * 3 + 1)) (dVals es (i * 3 + 1)))), strEq (strOfI (intsOf (List.take (dLen ds (i * 3 + 1)) (dVals ds (i * 3 + 1))))) (strOfI (intsOf (List.take (dLen es (i * 3 + 1)) (dVals es (i * 3 + 1))))) = true, (dBool ds (i * 3 + 2) == dBool es (i * 3 + 2)) = true, rg IntKind.i64 (↑(i + 1) :
 Int)]) := by kernel_rfl
theorem py_sp_end (inr : Bool) (n i : Nat) (ds es : List DV) : prjP [] 10 (codeZ (pxV noL noTz) Try.prog (runZ (pxV noL noTz) Try.prog 9) 16 inr 100000 (bodyIn Try.prog 16 4) (SL 27 [(0, saA n), (1, sbA n), (5, iV i)]) (pxH ds es) 10 [false]) =
 Res.ok ((Xt.exit 0, 27, [], [(0, Rw.mk (Kd.sw ds) []), (2, Rw.mk (Kd.sw es) [])], 10, [], []), [], [decide ((↑i : Int) < (↑n : Int)) = false]) := by kernel_rfl
theorem pxX {L : LFun} {T : TFun} : XOkZ (pxV L T) Try.prog := XOneZ.ok cmpY_ok rfl
theorem pxT {L : LFun} : TOkZ (pxV L noTz) Try.prog := noTz_okV rfl
theorem pxL {T : TFun} : LOkZ (pxV noL T) Try.prog := noL_okV rfl
theorem py_lp {inr : Bool} {h0 : Hp} {ds : List DV} {ps : List Pr} {n : Nat} (hP : Prs ds ps) (hn : ps.length = n) (hn9 : n ≤ 9000000) : ∀ (r i : Nat), i + r = n →
  LRuns inr Try.prog (bodyIn Try.prog 22 4) 4 40 h0 32 [(0, saA n), (5, iV i)] [(0, ⟨.sw ds, []⟩)] 10
   (bif (ps.drop i).any big then (.ret, [(4, .bool true)], [(0, ⟨.sw ds, []⟩)]) else (.exit 0, [], [(0, ⟨.sw ds, []⟩)]))
 | 0, i, hr => by
   rw [List.drop_of_length_le (by omega)]
   refine LRuns.exit (code_runsP pxX pxL (runZ_ok pxX pxT pxL mixed 9) mixed (py_lp_end inr n i ds []) ?_) (by intro e; cases e) rfl (by omega) (by omega) (fun n => n) ?_ ?_ rfl
   ·simp only [Alls, decide_eq_false_iff_not]
    exact ⟨by omega, trivial⟩
   ·trivial
   ·exact ⟨sw_row rfl rfl, trivial⟩
 | r + 1, i, hr => by
   have hi : i < ps.length := by omega
   have F := hP.facts (List.getElem?_eq_getElem hi)
   obtain ⟨p, hp⟩ : ∃ p, ps[i] = p := ⟨_, rfl⟩
   rw [hp] at F
   have hd : ps.drop i = p :: ps.drop (i + 1) := by rw [List.drop_eq_getElem_cons hi, hp]
   have f0 := F.l0
   have f1 := F.l1
   have o1 := F.o27 10
   have o2 := F.o27' 11
   rw [hd, List.any_cons]
   by_cases h1 : 200 < p.1.length
   ·have e : big p = true := by simp [big, h1]
    rw [e, Bool.true_or]
    refine LRuns.exit (code_runsP pxX pxL (runZ_ok pxX pxT pxL mixed 9) mixed (py_lp_a inr n i ds []) ?_) (by intro e; cases e) rfl (by omega) (by omega) (fun n => n) ?_ ?_ rfl
    ·
     simp only [Alls, rg, decide_eq_true_eq, decide_eq_false_iff_not, Nat.add_zero]
     repeat' (with_reducible apply And.intro)
     all_goals first | omega | (with_reducible assumption) | (with_reducible exact trivial) | (with_reducible rfl) | exact rfl
    ·exact ⟨rfl, rfl, trivial⟩
    ·exact ⟨sw_row rfl rfl, trivial⟩
   by_cases h2 : 200 < p.2.1.length
   ·have e : big p = true := by simp [big, h2]
    rw [e, Bool.true_or]
    refine LRuns.exit (code_runsP pxX pxL (runZ_ok pxX pxT pxL mixed 9) mixed (py_lp_b inr n i ds []) ?_) (by intro e; cases e) rfl (by omega) (by omega) (fun n => n) ?_ ?_ rfl
    ·
     simp only [Alls, rg, decide_eq_true_eq, decide_eq_false_iff_not, Nat.add_zero]
     repeat' (with_reducible apply And.intro)
     all_goals first | omega | (with_reducible assumption) | (with_reducible exact trivial) | (with_reducible rfl) | exact rfl
    ·exact ⟨rfl, rfl, trivial⟩
    ·exact ⟨sw_row rfl rfl, trivial⟩
   ·have e : big p = false := by simp [big, h1, h2]
    rw [e, Bool.false_or]
    refine LRuns.step (code_runsP pxX pxL (runZ_ok pxX pxT pxL mixed 9) mixed (py_lp_go inr n i ds []) ?_) rfl (by omega) (by omega) (fun n => n) ?_ ?_ rfl (py_lp hP hn hn9 r (i + 1) (by omega))
    ·
     simp only [Alls, rg, decide_eq_true_eq, decide_eq_false_iff_not, Nat.add_zero]
     repeat' (with_reducible apply And.intro)
     all_goals first | omega | (with_reducible assumption) | (with_reducible exact trivial) | (with_reducible rfl) | exact rfl
    ·exact ⟨rfl, rb_slg rfl rfl, rfl, rfl, trivial⟩
    ·exact ⟨sw_row rfl rfl, trivial⟩
theorem py_sp {inr : Bool} {h0 : Hp} {ds es : List DV} {ps : List Pr} {n : Nat} (hP : Prs ds ps) (hE : Prs es ps) (hn : ps.length = n) (hn9 : n ≤ 9000000) : ∀ (r i : Nat), i + r = n →
  LRuns inr Try.prog (bodyIn Try.prog 16 4) 4 40 h0 27 [(0, saA n), (1, sbA n), (5, iV i)] (pxH ds es) 10 (.exit 0, [], pxH ds es)
 | 0, i, hr => by
   refine LRuns.exit (code_runsP pxX pxL (runZ_ok pxX pxT pxL mixed 9) mixed (py_sp_end inr n i ds es) ?_) (by intro e; cases e) rfl (by omega) (by omega) (fun n => n) ?_ ?_ rfl
   ·simp only [Alls, decide_eq_false_iff_not]
    exact ⟨by omega, trivial⟩
   ·trivial
   ·exact ⟨sw_row (m := 0) rfl rfl, sw_row (m := 2) rfl rfl, trivial⟩
 | r + 1, i, hr => by
   have hi : i < ps.length := by omega
   have G := hP.facts (List.getElem?_eq_getElem hi)
   have F := hE.facts (List.getElem?_eq_getElem hi)
   obtain ⟨p, hp⟩ : ∃ p, ps[i] = p := ⟨_, rfl⟩
   rw [hp] at F G
   have f0 := F.l0
   have f1 := F.l1
   have v0 := F.v0
   have v1 := F.v1
   have f0' := G.l0
   have f1' := G.l1
   have v0' := G.v0
   have v1' := G.v1
   have g1 := F.g
   have g2 := G.g
   have o1 := G.o29 10
   have o2 := F.o29 12
   have hl0 := byV_len p.1
   have hl1 := byV_len p.2.1
   have t0 : List.take p.1.length (byV p.1) = byV p.1 := List.take_of_length_le (by omega)
   have t1 : List.take p.2.1.length (byV p.2.1) = byV p.2.1 := List.take_of_length_le (by omega)
   have i0 := byV_ints p.1
   have i1 := byV_ints p.2.1
   have se : ∀ s : ByteArray, strEq s s = true := fun s => by unfold strEq; exact beq_self_eq_true _
   refine LRuns.step (code_runsP pxX pxL (runZ_ok pxX pxT pxL mixed 9) mixed (py_sp_go inr n i ds es) ?_) rfl (by omega) (by omega) (fun n => n) ?_ ?_ rfl (py_sp hP hE hn hn9 r (i + 1) (by omega))
   ·
    simp only [Alls, rg, decide_eq_true_eq, decide_eq_false_iff_not, Nat.add_zero, f0, f1, v0, v1, f0', f1', v0', v1', t0, t1, i0, i1, g1, g2, se, beq_self_eq_true]
    repeat' (with_reducible apply And.intro)
    all_goals first | omega | (with_reducible assumption) | (with_reducible exact trivial) | (with_reducible rfl) | exact rfl
   ·exact ⟨rfl, rb_slg rfl rfl, rfl, rb_slg rfl rfl, rfl, rfl, trivial⟩
   ·exact ⟨sw_row (m := 0) rfl rfl, sw_row (m := 2) rfl rfl, trivial⟩
structure LpOk (ds : List DV) (n : Nat) : Prop where
 P : Prs ds (prsOf ds)
 l : (prsOf ds).length = n
def px1 (live : List (Nat × Value)) (h : Hp) : Option (Nat × List DV) := match live, lk h 0 with | (_, .slice _ n _) :: _, some ⟨.sw ds, _⟩ => some (n, ds) | _, _ => none
def px2 (live : List (Nat × Value)) (h : Hp) : Option (Nat × List DV × List DV) := match live, lk h 0, lk h 2 with | (_, .slice _ n _) :: _, some ⟨.sw ds, _⟩, some ⟨.sw es, _⟩ => some (n, ds, es) | _, _, _ => none
def pxlpSp : LSpec := lspec px1 (fun a => ([(0, saA a.1), (5, iV 0)], [(0, ⟨.sw a.2, []⟩)], 4)) (fun a tp => match tp with
 | b :: tp' => some ((bif b then .ret else .exit 0, bif b then [(4, .bool true)] else [], [(0, ⟨.sw a.2, []⟩)], 40, []), tp', [LpOk a.2 a.1 ∧ a.1 ≤ 9000000 ∧ (prsOf a.2).any big = b])
 | [] => none)
structure SpOk (ds es : List DV) (n : Nat) : Prop where
 P : Prs ds (prsOf ds)
 E : Prs es (prsOf ds)
 l : (prsOf ds).length = n
 m : n ≤ 9000000
def pxspSp : LSpec := lspec px2 (fun a => ([(0, saA a.1), (1, sbA a.1), (5, iV 0)], pxH a.2.1 a.2.2, 4)) (fun a tp => some ((.exit 0, [], pxH a.2.1 a.2.2, 40, []), tp, [SpOk a.2.1 a.2.2 a.1]))
def pxLo (P : Program) : LFun := orL (mkL 22 4 32 [0, 5] (bodyIn P 22 4) pxlpSp) (mkL 16 4 27 [0, 1, 5] (bodyIn P 16 4) pxspSp)
theorem py_clL (n : Nat) (mm : Int) (ds : List DV) : prjV (runZ (pxV (pxLo Try.prog) noTz) Try.prog 9 22 [saA n, .int .i64 mm] [(0, ⟨.sw ds, []⟩)] 4 [true]) =
 Res.ok (Value.bool true, [], [decide ((↑n : Int) > mm) = true]) := by kernel_rfl
theorem py_cl1 (n : Nat) (mm : Int) (ds : List DV) : prjV (runZ (pxV (pxLo Try.prog) noTz) Try.prog 9 22 [saA n, .int .i64 mm] [(0, ⟨.sw ds, []⟩)] 4 [false, true]) =
 Res.ok (Value.bool true, [], [decide ((↑n : Int) > mm) = false, bodyIn Try.prog (22 : FuncId) 4 = bodyIn Try.prog (22 : FuncId) 4, [(0, Value.slice (some (Addr.mk 0 0 none)) n 18446744073709551616), (5, Value.int IntKind.i64 (0 : Int))] = [(0, Value.slice (some (Addr.mk 0 0 none)) n 18446744073709551616), (5, Value.int IntKind.i64 (0 : Int))], [(0, Rw.mk (Kd.sw ds) [])] = [(0, Rw.mk (Kd.sw ds) [])], 4 = 4, LpOk ds n ∧ n ≤ 9000000 ∧ List.any (prsOf ds) big = true]) := by kernel_rfl
theorem py_cl0 (n : Nat) (mm : Int) (ds : List DV) : prjV (runZ (pxV (pxLo Try.prog) noTz) Try.prog 9 22 [saA n, .int .i64 mm] [(0, ⟨.sw ds, []⟩)] 4 [false, false]) =
 Res.ok (Value.bool false, [], [decide ((↑n : Int) > mm) = false, bodyIn Try.prog (22 : FuncId) 4 = bodyIn Try.prog (22 : FuncId) 4, [(0, Value.slice (some (Addr.mk 0 0 none)) n 18446744073709551616), (5, Value.int IntKind.i64 (0 : Int))] = [(0, Value.slice (some (Addr.mk 0 0 none)) n 18446744073709551616), (5, Value.int IntKind.i64 (0 : Int))], [(0, Rw.mk (Kd.sw ds) [])] = [(0, Rw.mk (Kd.sw ds) [])], 4 = 4, LpOk ds n ∧ n ≤ 9000000 ∧ List.any (prsOf ds) big = false]) := by kernel_rfl
theorem py_cp (n : Nat) (ds es : List DV) : prjV (runZ (pxV (pxLo Try.prog) noTz) Try.prog 9 16 [saA n, sbA n] (pxH ds es) 4 [false]) =
 Res.ok (Value.bool true, [], [((↑n : Int) != (↑n : Int)) = false, bodyIn Try.prog (16 : FuncId) 4 = bodyIn Try.prog (16 : FuncId) 4, [(0, Value.slice (some (Addr.mk 0 0 none)) n 18446744073709551616), (1, Value.slice (some (Addr.mk 2 0 none)) n (capBig + 2)), (5, Value.int IntKind.i64 (0 : Int))] = [(0, Value.slice (some (Addr.mk 0 0 none)) n 18446744073709551616), (1, Value.slice (some (Addr.mk 2 0 none)) n (capBig + 2)), (5, Value.int IntKind.i64 (0 : Int))], pxH ds es = pxH ds es, 4 = 4, SpOk ds es n]) := by kernel_rfl
theorem pxlp_ok : LSOk Try.prog 32 [0, 5] (bodyIn Try.prog 22 4) pxlpSp := by
 refine lspec_ok fun a tp xt l2 h2 nx2 d tp' ob hs ho inr ts hn hg => ?_
 obtain ⟨n, ds⟩ := a
 simp only at hs hg
 split at hs
 case h_2 => cases hs
 rename_i b _
 simp only [oI, pI] at hs
 obtain ⟨⟨rfl, rfl, rfl, rfl, rfl⟩, rfl, rfl⟩ := hs
 obtain ⟨⟨h, hm, hb⟩, _⟩ := ho
 have key := py_lp (inr := inr) (h0 := [(0, ⟨.sw ds, []⟩)]) h.P h.l hm n 0 (by omega)
 rw [List.drop_zero, hb] at key
 cases b with
 | true =>
  refine LRuns.enter (N := 10) (l2 := [(0, saA n), (5, iV 0)]) hn hg (by omega) (by omega) (fun n => n) ?_ ?_ rfl key ?_
  ·exact ⟨rfl, rb_slg rfl rfl, rfl, rfl, trivial⟩
  ·exact ⟨sw_row rfl rfl, trivial⟩
  ·exact tidy_of (by omega) (fun m hm hd => rfl) rfl
 | false =>
  refine LRuns.enter (N := 10) (l2 := [(0, saA n), (5, iV 0)]) hn hg (by omega) (by omega) (fun n => n) ?_ ?_ rfl key ?_
  ·exact ⟨rfl, rb_slg rfl rfl, rfl, rfl, trivial⟩
  ·exact ⟨sw_row rfl rfl, trivial⟩
  ·exact tidy_of (by omega) (fun m hm hd => rfl) rfl
theorem pxsp_ok : LSOk Try.prog 27 [0, 1, 5] (bodyIn Try.prog 16 4) pxspSp := by
 refine lspec_ok fun a tp xt l2 h2 nx2 d tp' ob hs ho inr ts hn hg => ?_
 obtain ⟨n, ds, es⟩ := a
 simp only at hs hg
 simp only [oI, pI] at hs
 obtain ⟨⟨rfl, rfl, rfl, rfl, rfl⟩, rfl, rfl⟩ := hs
 obtain ⟨h, _⟩ := ho
 have key := py_sp (inr := inr) (h0 := pxH ds es) h.P h.E h.l h.m n 0 (by omega)
 refine LRuns.enter (N := 10) (l2 := [(0, saA n), (1, sbA n), (5, iV 0)]) hn hg (by omega) (by omega) (fun n => n) ?_ ?_ rfl key ?_
 ·exact ⟨rfl, rb_slg rfl rfl, rfl, rb_slg rfl rfl, rfl, rfl, trivial⟩
 ·exact ⟨sw_row (m := 0) rfl rfl, sw_row (m := 2) rfl rfl, trivial⟩
 ·exact tidy_of (by omega) (fun m hm hd => rfl) rfl
theorem pxLo_ok : LOne Try.prog (pxLo Try.prog) := orL_ok (mkL_ok pxlp_ok) (mkL_ok pxsp_ok)
theorem py_run {f : FuncId} {args : List Value} {h : Hp} {nx : Nat} {tp tp' : Tape} {v : Value} {ob : List Prop} (e : prjV (runZ (pxV (pxLo Try.prog) noTz) Try.prog 9 f args h nx tp) = .ok (v, tp', ob)) (ho : Alls ob) (hf : Nat.blt f yBig = true) : ∃ h' nx' d, Tri Try.prog f args h nx (v, h', nx', d) := run_val pxX pxT (L_okV rfl pxLo_ok) e ho hf
def gLp : GSpecD := fun aL tp => match aL, tp with
 | [.dl ds n, .fl (.int .i64 mm)], b :: tp' => some (⟨fun _ => .bool b, []⟩, tp', [LpOk ds n ∧ (decide ((n : Int) > mm) || (prsOf ds).any big) = b, mm ≤ 9000000])
 | _, _ => none
theorem lp_gok : GOkD Try.prog 22 gLp := by
 intro aL tp gr tp' ob hG ho cs hc
 unfold gLp at hG
 split at hG
 case h_2 => cases hG
 rename_i ds n mm b tp2
 simp only [oI, pI] at hG
 obtain ⟨rfl, rfl, rfl⟩ := hG
 obtain ⟨⟨h1, h2⟩, hmm, _⟩ := ho
 have fin : ∀ {v : Bool}, (∃ h' nx' d, Tri Try.prog 22 [saA n, .int .i64 mm] [(0, ⟨.sw ds, []⟩)] 4 (.bool v, h', nx', d)) → v = b → ∃ v0 h0' nx0' d0 g, Tri Try.prog 22 (dvV [.dl ds n, .fl (.int .i64 mm)] cs 0) (dvH [.dl ds n, .fl (.int .i64 mm)] cs 0) (2 * 2) (v0, h0', nx0', d0) ∧ GrD ⟨fun _ => .bool b, []⟩ v0 h0' g := fun ⟨h', nx', d, T⟩ e => by
  subst e
  exact ⟨_, h', nx', d, fun n => n, T, GrD.flat fun σ => rfl⟩
 by_cases h : (n : Int) > mm
 ·exact fin (py_run (py_clL n mm ds) ⟨decide_eq_true h, trivial⟩ rfl) (by rw [← h2, decide_eq_true h]; rfl)
 ·rw [decide_eq_false h, Bool.false_or] at h2
  cases hb : (prsOf ds).any big with
  | true => exact fin (py_run (py_cl1 n mm ds) ⟨decide_eq_false h, rfl, rfl, rfl, rfl, ⟨h1, by omega, hb⟩, trivial⟩ rfl) (by rw [← h2, hb])
  | false => exact fin (py_run (py_cl0 n mm ds) ⟨decide_eq_false h, rfl, rfl, rfl, rfl, ⟨h1, by omega, hb⟩, trivial⟩ rfl) (by rw [← h2, hb])
def gSp : GSpecD := fun aL tp => match aL with
 | [.dl ds n, .dl es m] => some (⟨fun _ => .bool true, []⟩, tp, [SpOk ds es n ∧ m = n])
 | _ => none
theorem sp_gok : GOkD Try.prog 16 gSp := by
 intro aL tp gr tp' ob hG ho cs hc
 unfold gSp at hG
 split at hG
 case h_2 => cases hG
 rename_i ds n es m
 simp only [oI, pI] at hG
 obtain ⟨rfl, rfl, rfl⟩ := hG
 obtain ⟨⟨h1, rfl⟩, _⟩ := ho
 obtain ⟨h', nx', d, T⟩ := py_run (py_cp m ds es) ⟨by simp, rfl, rfl, rfl, rfl, h1, trivial⟩ rfl
 exact ⟨_, h', nx', d, fun n => n, T, GrD.flat fun σ => rfl⟩
def pxTs : TFun := orTz (mkD 22 [.d, .f] gLp) (mkD 16 [.d, .d] gSp)
theorem pxTs_one : TOneZ Try.prog pxTs := orTz_ok (mkD_ok lp_gok) (mkD_ok sp_gok)
def llA (n : Nat) : Value := .slice (some ⟨0, 0, none⟩) n (capBig + 0)
def ouA (n : Nat) : Value := .slice (some ⟨200, 0, none⟩) n (capBig + 200)
def nlV : Value := .slice none 0 0
theorem cnL_app : ∀ (a b : List DV), cnL (a ++ b) = cnL a ++ cnL b
 | [], b => by simp [cnL]
 | x :: a, b => by simp only [List.cons_append, cnL, cnL_app a b]
theorem cnL_by : ∀ l : List Int, cnL (byD l) = byD l
 | [] => by simp [byD, cnL]
 | x :: l => by
   have := cnL_by l
   simp only [byD, List.map_cons, cnL, cnD] at this ⊢
   rw [this]
theorem cnL_cp : ∀ ps : List Pr, cnL (cpD ps) = cpD ps
 | [] => by simp [cpD, cnL]
 | p :: ps => by
   rw [cpD_cons, cnL_app, cnL_cp ps]
   simp only [prD, cnL, cnD, cnL_by]
theorem cp_all (ps : List Pr) : (cpD ps).take (ps.length * 3) = cpD ps := List.take_of_length_le (by rw [cpD_len]; exact Nat.le_refl _)
def llD (L : List (List Pr)) : List DV := L.map fun l => .sl l.length none (cpD l)
def llOf (ds : List DV) : List (List Pr) := ds.map fun d => match d with | .sl _ _ es => prsOf es | _ => []
theorem llOf_ll (L : List (List Pr)) : llOf (llD L) = L := by
 unfold llOf llD
 rw [List.map_map]
 refine (List.map_congr_left (g := id) fun l _ => ?_).trans (List.map_id L)
 exact prsOf_cp l
theorem ob27s (ds : List DV) (o nx : Nat) : ShOb Try.prog 27 true true ds o nx = Alls [DSl ds (o + 0) (dLen ds (o + 0)) none (dSub ds (o + 0))] := by kernel_rfl
structure LlAt (ds : List DV) (i : Nat) (l : List Pr) : Prop where
 n : dLen ds i = l.length
 s : dSub ds i = cpD l
 o : ∀ nx, ShOb Try.prog 27 true true ds i nx
theorem dsl_at {ds : List DV} {i : Nat} {l : List Pr} (h : ds[i]? = some (.sl l.length none (cpD l))) : LlAt ds i l := by
 have e1 : dLen ds i = l.length := by unfold dLen; rw [h]
 have e2 : dSub ds i = cpD l := by unfold dSub; rw [h]
 refine ⟨e1, e2, fun nx => ?_⟩
 rw [ob27s]
 simp only [Nat.add_zero]
 exact ⟨⟨none, by rw [e1, e2]; exact h, .inl rfl⟩, trivial⟩
theorem ll_at {L : List (List Pr)} {i : Nat} {l : List Pr} (h : L[i]? = some l) : LlAt (llD L) i l := dsl_at (by unfold llD; rw [List.getElem?_map, h]; rfl)
theorem takeI_snoc {α : Type} {L : List α} {i : Nat} {l : α} (h : L[i]? = some l) : L.take (i + 1) = L.take i ++ [l] := by
 obtain ⟨hi, e⟩ := List.getElem?_eq_some_iff.1 h
 rw [List.take_add_one, h]
 rfl
structure LL (L : List (List Pr)) (n : Nat) : Prop where
 l : L.length = n
 n9 : n ≤ 1000
 m : ∀ l ∈ L, l.length ≤ 9000000
 O : ∀ l ∈ L, ∀ p ∈ l, PrOk p
def ouV (out : List Pr) : Value := match out with | [] => nlV | _ => ouA out.length
def moR (out : List Pr) (t : Hp) : Hp := match out with | [] => t | _ => (200, ⟨.dx 1 3 zPr (cpD out), []⟩) :: t
theorem ouV_ne {out : List Pr} (h : out ≠ []) : ouV out = ouA out.length := by cases out with | nil => exact absurd rfl h | cons x l => rfl
theorem moR_ne {out : List Pr} (h : out ≠ []) (t : Hp) : moR out t = (200, ⟨.dx 1 3 zPr (cpD out), []⟩) :: t := by cases out with | nil => exact absurd rfl h | cons x l => rfl
structure PrSz (p : Pr) : Prop where
 k : p.1.length ≤ 9000000
 v : p.2.1.length ≤ 9000000
theorem df_row {lo N : Nat} {ρ : Nat → Nat} {h0 h1 : Hp} {n m sz : Nat} {z : List Value} {ds : List DV} (hn : fnN lo N ρ n = some m) (hl : lk h1 m = some ⟨.dx 1 sz z ds, []⟩) : RbRow lo N ρ h0 h1 n ⟨.dx 1 sz z ds, []⟩ := rb_rec hn hl rfl
theorem df_eq {Y X : List DV} (h : Y = X) : some (Rw.mk (.dx 1 3 zPr Y) []) = some (Rw.mk (.dx 1 3 zPr X) []) := by rw [h]
theorem tk_by (l : List Int) : List.take l.length (byV l) = byV l := List.take_of_length_le (by rw [byV_len]; exact Nat.le_refl _)
theorem a1_by (l : List Int) : all1 (byV l) = true := all1_map l
theorem nil_by {l : List Int} (h : l.length = 0) : byV l = [] := by rw [List.eq_nil_of_length_eq_zero h]; rfl
def tupM (v : Value) (e : Int) : Value := .tuple ⟨[v, .int .i64 e]⟩
theorem f2s_tupM {nx k m : Nat} {g : Nat → Nat} (hk : 0 < k) (hg : g 0 = m) (n : Nat) (e : Int) : renV (f2s nx k g) (tupM (.slice (some ⟨nx, 0, none⟩) n (capBig + nx)) e) = some (tupM (.slice (some ⟨m, 0, none⟩) n (capBig + m)) e) := by
 have := f2s_slice0 (nx := nx) (g := g) hk n
 rw [hg] at this
 unfold tupM
 simp only [renV] at this
 simp only [renV, renA, renL, this]
structure FdL (l : List Pr) : Prop where
 O : ∀ p ∈ l, PrOk p
 z : ∀ p ∈ l, PrSz p
 l9 : l.length ≤ 9000000
def cqTab : FuncId → List Nat := fun f => bif Nat.beq f 23 then [8] else bif Nat.beq f 11 then [8] else []
def cqSy : FuncId → Nat → Option Nat := orSy (lsSy 23 [(8, 0), (14, 0), (16, 36), (20, 0), (22, 36), (26, 0), (28, 36), (31, 57), (10, 0)]) (orSy (lsSy 39 [(5, 56)]) (lsSy 11 [(8, 0), (14, 0), (15, 37), (18, 58), (10, 0)]))
def cqV (L : LFun) (T : TFun) : Tv := ⟨T, noXz, L, cqTab, cqSy, fun _ => [], fun _ => 0⟩
def cqB (out : List DV) : Hp := [(200, ⟨.dx 1 3 zPr out, []⟩)]
theorem cq_n_go (inr : Bool) (n q i : Nat) (ds os : List DV) : prjP [0, 3, 4] 300 (codeZ (cqV noL noTz) Try.prog (runZ (cqV noL noTz) Try.prog 9) 23 inr 100000 (bodyIn Try.prog 23 3) (SL 33 [(0, llA n), (3, nlV), (4, iV i)]) ([] ++ [(0, ⟨.sw ds, []⟩)]) 300 [true]) =
 Res.ok ((Xt.normal, 33, [(0, Value.slice (some (Addr.mk 0 0 none)) n 18446744073709551616), (3, Value.slice (some (Addr.mk 310 0 none)) 1 (capBig + 310)), (4, Value.int IntKind.i64 (↑(i + 1) : Int))], [(0, Rw.mk (Kd.sw ds) []), (300, Rw.mk Kd.ow (dVals ds (i * 3 + 0 + 0))), (304, Rw.mk Kd.ow (dVals ds (i * 3 + 1 + 0))), (310, Rw.mk (Kd.dx 1 3 [Value.slice none 0 0, Value.slice none 0 0, Value.bool false] [DV.sl (dLen ds (i * 3 + 0 + 0)) none (List.map DV.fl (List.take (dLen ds (i * 3 + 0 + 0)) (dVals ds (i * 3 + 0 + 0)))), DV.sl (dLen ds (i * 3 + 1 + 0)) none (List.map DV.fl (List.take (dLen ds (i * 3 + 1 + 0)) (dVals ds (i * 3 + 1 + 0)))), DV.fl (Value.bool (dBool ds (i * 3 + 2 + 0)))]) [])], 311, [], []), [], [decide ((↑i : Int) < (↑n : Int)) = true, (0 : Int) ≤ (↑i : Int) ∧ (↑i : Int) < (↑n : Int), ShOb Try.prog 23 false true ds (i * 3 + 0) 300, dLen ds (i * 3 + 0 + 0) * 1 ≤
 140737488355328 ∧ dLen ds (i * 3 + 0 + 0) ≤ 9223372036854775807, List.length (List.take (dLen ds (i * 3 + 0 + 0)) (dVals ds (i * 3 + 0 + 0))) = dLen ds (i * 3 + 0 + 0) * 1, ∀ (τ : Sg), renL τ (List.take (dLen ds (i * 3 + 0 + 0)) (dVals ds (i * 3 + 0 + 0))) = some (List.take (dLen ds (i * 3 + 0 + 0)) (dVals ds (i * 3 + 0 + 0))), U8s (List.take (dLen ds (i * 3 + 0 + 0)) (dVals ds (i * 3 + 0 + 0))), dLen ds (i * 3 + 0 + 0) ≤ List.length (dVals ds (i * 3 + 0 + 0)), all1 (List.take (dLen ds (i * 3 + 0 + 0)) (dVals ds (i * 3 + 0 + 0))) = true, (0 : Int) ≤ (↑i : Int) ∧ (↑i : Int) < (↑n : Int), ShOb Try.prog 23 false true ds (i * 3 + 1) 304, dLen ds (i * 3 + 1 + 0) * 1 ≤ 140737488355328 ∧ dLen ds (i * 3 + 1 + 0) ≤ 9223372036854775807, List.length (List.take (dLen ds (i * 3 + 1 + 0)) (dVals ds (i * 3 + 1 + 0))) = dLen ds (i * 3 + 1 + 0) * 1, ∀ (τ : Sg), renL τ (List.take (dLen ds (i * 3 + 1 + 0))
 (dVals ds (i * 3 + 1 + 0))) = some (List.take (dLen ds (i * 3 + 1 + 0)) (dVals ds (i * 3 + 1 + 0))), U8s (List.take (dLen ds (i * 3 + 1 + 0)) (dVals ds (i * 3 + 1 + 0))), dLen ds (i * 3 + 1 + 0) ≤ List.length (dVals ds (i * 3 + 1 + 0)), all1 (List.take (dLen ds (i * 3 + 1 + 0)) (dVals ds (i * 3 + 1 + 0))) = true, (0 : Int) ≤ (↑i : Int) ∧ (↑i : Int) < (↑n : Int), ShOb Try.prog 4 false true ds (i * 3 + 2) 308, 56 ≤ 140737488355328, (∀ (τ : Sg), renL τ (List.take (dLen ds (i * 3 + 0 + 0)) (dVals ds (i * 3 + 0 + 0))) = some (List.take (dLen ds (i * 3 + 0 + 0)) (dVals ds (i * 3 + 0 + 0)))) ∧ (dLen ds (ixO 0 (Int.toNat (↑i : Int)) 3 + 0 + 0) = 0 → List.take (dLen ds (i * 3 + 0 + 0)) (dVals ds (i * 3 + 0 + 0)) = []), (∀ (τ : Sg), renL τ (List.take (dLen ds (i * 3 + 1 + 0)) (dVals ds (i * 3 + 1 + 0))) = some (List.take (dLen ds (i * 3 + 1 + 0)) (dVals ds (i * 3 + 1 + 0)))) ∧ (dLen ds (ixO 0
 (Int.toNat (↑i : Int)) 3 + 1 + 0) = 0 → List.take (dLen ds (i * 3 + 1 + 0)) (dVals ds (i * 3 + 1 + 0)) = []), 3 ≤ 3, true = true, rg IntKind.i64 (↑(i + 1) :
 Int)]) := by kernel_rfl
theorem cq_r_go (inr : Bool) (n q i : Nat) (ds os : List DV) : prjP [0, 3, 4] 300 (codeZ (cqV noL noTz) Try.prog (runZ (cqV noL noTz) Try.prog 9) 23 inr 100000 (bodyIn Try.prog 23 3) (SL 33 [(0, llA n), (3, ouA q), (4, iV i)]) (cqB os ++ [(0, ⟨.sw ds, []⟩)]) 300 [true]) =
 Res.ok ((Xt.normal, 33, [(0, Value.slice (some (Addr.mk 0 0 none)) n 18446744073709551616), (3, Value.slice (some (Addr.mk 310 0 none)) (q + 1) (capBig + 310)), (4, Value.int IntKind.i64 (↑(i + 1) : Int))], [(0, Rw.mk (Kd.sw ds) []), (300, Rw.mk Kd.ow (dVals ds (i * 3 + 0 + 0))), (304, Rw.mk Kd.ow (dVals ds (i * 3 + 1 + 0))), (310, Rw.mk (Kd.dx 1 3 [Value.slice none 0 0, Value.slice none 0 0, Value.bool false] (os ++ [DV.sl (dLen ds (i * 3 + 0 + 0)) none (List.map DV.fl (List.take (dLen ds (i * 3 + 0 + 0)) (dVals ds (i * 3 + 0 + 0)))), DV.sl (dLen ds (i * 3 + 1 + 0)) none (List.map DV.fl (List.take (dLen ds (i * 3 + 1 + 0)) (dVals ds (i * 3 + 1 + 0)))), DV.fl (Value.bool (dBool ds (i * 3 + 2 + 0)))])) [])], 311, [200], []), [], [decide ((↑i : Int) < (↑n : Int)) = true, (0 : Int) ≤ (↑i : Int) ∧ (↑i : Int) < (↑n : Int), ShOb Try.prog 23 false true ds (i * 3 + 0) 300, dLen ds (i * 3 + 0 +
 0) * 1 ≤ 140737488355328 ∧ dLen ds (i * 3 + 0 + 0) ≤ 9223372036854775807, List.length (List.take (dLen ds (i * 3 + 0 + 0)) (dVals ds (i * 3 + 0 + 0))) = dLen ds (i * 3 + 0 + 0) * 1, ∀ (τ : Sg), renL τ (List.take (dLen ds (i * 3 + 0 + 0)) (dVals ds (i * 3 + 0 + 0))) = some (List.take (dLen ds (i * 3 + 0 + 0)) (dVals ds (i * 3 + 0 + 0))), U8s (List.take (dLen ds (i * 3 + 0 + 0)) (dVals ds (i * 3 + 0 + 0))), dLen ds (i * 3 + 0 + 0) ≤ List.length (dVals ds (i * 3 + 0 + 0)), all1 (List.take (dLen ds (i * 3 + 0 + 0)) (dVals ds (i * 3 + 0 + 0))) = true, (0 : Int) ≤ (↑i : Int) ∧ (↑i : Int) < (↑n : Int), ShOb Try.prog 23 false true ds (i * 3 + 1) 304, dLen ds (i * 3 + 1 + 0) * 1 ≤ 140737488355328 ∧ dLen ds (i * 3 + 1 + 0) ≤ 9223372036854775807, List.length (List.take (dLen ds (i * 3 + 1 + 0)) (dVals ds (i * 3 + 1 + 0))) = dLen ds (i * 3 + 1 + 0) * 1, ∀ (τ : Sg), renL τ (List.take (dLen ds (i * 3
 + 1 + 0)) (dVals ds (i * 3 + 1 + 0))) = some (List.take (dLen ds (i * 3 + 1 + 0)) (dVals ds (i * 3 + 1 + 0))), U8s (List.take (dLen ds (i * 3 + 1 + 0)) (dVals ds (i * 3 + 1 + 0))), dLen ds (i * 3 + 1 + 0) ≤ List.length (dVals ds (i * 3 + 1 + 0)), all1 (List.take (dLen ds (i * 3 + 1 + 0)) (dVals ds (i * 3 + 1 + 0))) = true, (0 : Int) ≤ (↑i : Int) ∧ (↑i : Int) < (↑n : Int), ShOb Try.prog 4 false true ds (i * 3 + 2) 308, capBig + 200 = capBig + 200 ∧ List.length os = q * 3, (q + 1) * 56 ≤ 140737488355328 ∧ q + 1 ≤ 9223372036854775807, (∀ (τ : Sg), renL τ (List.take (dLen ds (i * 3 + 0 + 0)) (dVals ds (i * 3 + 0 + 0))) = some (List.take (dLen ds (i * 3 + 0 + 0)) (dVals ds (i * 3 + 0 + 0)))) ∧ (dLen ds (ixO 0 (Int.toNat (↑i : Int)) 3 + 0 + 0) = 0 → List.take (dLen ds (i * 3 + 0 + 0)) (dVals ds (i * 3 + 0 + 0)) = []), (∀ (τ : Sg), renL τ (List.take (dLen ds (i * 3 + 1 + 0)) (dVals ds (i * 3 +
 1 + 0))) = some (List.take (dLen ds (i * 3 + 1 + 0)) (dVals ds (i * 3 + 1 + 0)))) ∧ (dLen ds (ixO 0 (Int.toNat (↑i : Int)) 3 + 1 + 0) = 0 → List.take (dLen ds (i * 3 + 1 + 0)) (dVals ds (i * 3 + 1 + 0)) = []), 3 ≤ 3, true = true, rg IntKind.i64 (↑(i + 1) :
 Int)]) := by kernel_rfl
theorem cq_n_x (inr : Bool) (n q i : Nat) (ds os : List DV) : prjP [3] 300 (codeZ (cqV noL noTz) Try.prog (runZ (cqV noL noTz) Try.prog 9) 23 inr 100000 (bodyIn Try.prog 23 3) (SL 33 [(0, llA n), (3, nlV), (4, iV i)]) ([] ++ [(0, ⟨.sw ds, []⟩)]) 300 [false]) =
 Res.ok ((Xt.exit 0, 33, [(3, Value.slice none 0 0)], [(0, Rw.mk (Kd.sw ds) [])], 300, [], []), [], [decide ((↑i : Int) < (↑n : Int)) = false]) := by kernel_rfl
theorem cq_r_x (inr : Bool) (n q i : Nat) (ds os : List DV) : prjP [3] 300 (codeZ (cqV noL noTz) Try.prog (runZ (cqV noL noTz) Try.prog 9) 23 inr 100000 (bodyIn Try.prog 23 3) (SL 33 [(0, llA n), (3, ouA q), (4, iV i)]) (cqB os ++ [(0, ⟨.sw ds, []⟩)]) 300 [false]) =
 Res.ok ((Xt.exit 0, 33, [(3, Value.slice (some (Addr.mk 200 0 none)) q (capBig + 200))], [(200, Rw.mk (Kd.dx 1 3 [Value.slice none 0 0, Value.slice none 0 0, Value.bool false] os) []), (0, Rw.mk (Kd.sw ds) [])], 300, [], []), [], [decide ((↑i : Int) < (↑n : Int)) = false]) := by kernel_rfl
theorem cqX {L : LFun} {T : TFun} : XOkZ (cqV L T) Try.prog := noXz_ok rfl
theorem cqT0 {L : LFun} : TOkZ (cqV L noTz) Try.prog := noTz_okV rfl
theorem cqL0 {T : TFun} : LOkZ (cqV noL T) Try.prog := noL_okV rfl
theorem ixO0 (j s : Nat) : ixO 0 j s = j * s := by rw [ixO_eq, Nat.zero_add]
theorem cq_loop {inr : Bool} {h0 : Hp} {l : List Pr} (hL : FdL l) : ∀ (r i : Nat), i + r = l.length →
  LRuns inr Try.prog (bodyIn Try.prog 23 3) 2 400 h0 33 [(0, llA l.length), (3, ouV (l.take i)), (4, iV i)] (moR (l.take i) [(0, ⟨.sw (cpD l), []⟩)]) 300 (.exit 0, [(3, ouV l)], moR l [(0, ⟨.sw (cpD l), []⟩)])
 | 0, i, hr => by
   rw [List.take_of_length_le (by omega)]
   cases hE : l with
   | nil =>
    refine LRuns.exit (code_runsP cqX cqL0 (runZ_ok cqX cqT0 cqL0 mixed 9) mixed (cq_n_x inr 0 0 i (cpD []) []) ?_) (by intro e; cases e) rfl (by omega) (by omega) (fun n => n) ?_ ?_ rfl
    ·simp only [Alls, decide_eq_false_iff_not]
     exact ⟨by omega, trivial⟩
    ·exact ⟨rfl, rfl, trivial⟩
    ·exact ⟨sw_row (m := 0) rfl rfl, trivial⟩
   | cons x t =>
    have hl : (x :: t).length ≤ i := by rw [← hE]; omega
    refine LRuns.exit (code_runsP cqX cqL0 (runZ_ok cqX cqT0 cqL0 mixed 9) mixed (cq_r_x inr (x :: t).length (x :: t).length i (cpD (x :: t)) (cpD (x :: t))) ?_) (by intro e; cases e) rfl (by omega) (by omega) (fun n => n) ?_ ?_ rfl
    ·simp only [Alls, decide_eq_false_iff_not]
     exact ⟨by omega, trivial⟩
    ·exact ⟨rfl, rb_slg rfl rfl, trivial⟩
    ·exact ⟨df_row (m := 200) rfl rfl, sw_row (m := 0) rfl rfl, trivial⟩
 | r + 1, i, hr => by
   have hj : i < l.length := by omega
   obtain ⟨p, hp⟩ : ∃ p, l[i] = p := ⟨_, rfl⟩
   have hx : l[i]? = some p := by rw [← hp]; exact List.getElem?_eq_getElem hj
   have F := (cpD_prs l).facts hx
   have hm : p ∈ l := List.mem_of_getElem? hx
   have f0 := F.l0
   have f1 := F.l1
   have v0 := F.v0
   have v1 := F.v1
   have fg := F.g
   have bp := (hL.O p hm).1
   have bv := (hL.O p hm).2
   have z0 := (hL.z p hm).k
   have z1 := (hL.z p hm).v
   have l9 := hL.l9
   have hti := takeI_snoc hx
   have htl : (l.take i).length = i := by rw [List.length_take]; omega
   have hcd := cpD_len (l.take i)
   have nx := cq_loop (inr := inr) (h0 := h0) hL r (i + 1) (by omega)
   rw [ouV_ne (out := l.take (i + 1)) (by rw [hti]; simp), moR_ne (out := l.take (i + 1)) (by rw [hti]; simp)] at nx
   cases hE : l.take i with
   | nil =>
    rw [hE, List.nil_append] at hti
    rw [hti] at nx
    refine LRuns.step (code_runsP cqX cqL0 (runZ_ok cqX cqT0 cqL0 mixed 9) mixed (cq_n_go inr l.length 0 i (cpD l) []) ?_) rfl (by omega) (by omega) (fun n => bif Nat.beq n 200 then 310 else n) ?_ ?_ rfl nx
    ·
     simp only [Alls, rg, decide_eq_true_eq, decide_eq_false_iff_not, Nat.add_zero, Nat.zero_add, Nat.mul_one, ixO0, Int.toNat_natCast, f0, f1, v0, v1, tk_by, byV_len, hcd]
     repeat' (with_reducible apply And.intro)
     all_goals first | omega | (with_reducible assumption) | exact F.o27 _ | exact F.o27' _ | exact F.o4 _ | (with_reducible exact trivial) | (with_reducible rfl) | exact u8_by bp | exact u8_by bv | exact a1_by _ | exact byV_ren _ | exact fun e => nil_by e | skip
    ·exact ⟨rfl, rb_slg rfl rfl, rfl, rb_slg rfl rfl, rfl, rfl, trivial⟩
    ·refine ⟨df_row (m := 310) rfl (df_eq ?_), sw_row (m := 0) rfl rfl, trivial⟩
     simp only [Nat.add_zero, f0, f1, v0, v1, fg, tk_by, byV_fl, cpD_cons, prD]
     rfl
   | cons y t =>
    rw [hE] at hti hcd htl
    rw [hti] at nx
    rw [ouV_ne (by simp), moR_ne (by simp)]
    refine LRuns.step (code_runsP cqX cqL0 (runZ_ok cqX cqT0 cqL0 mixed 9) mixed (cq_r_go inr l.length (y :: t).length i (cpD l) (cpD (y :: t))) ?_) rfl (by omega) (by omega) (fun n => bif Nat.beq n 200 then 310 else n) ?_ ?_ rfl nx
    ·
     simp only [Alls, rg, decide_eq_true_eq, decide_eq_false_iff_not, Nat.add_zero, Nat.zero_add, Nat.mul_one, ixO0, Int.toNat_natCast, f0, f1, v0, v1, tk_by, byV_len, hcd]
     repeat' (with_reducible apply And.intro)
     all_goals first | omega | (with_reducible assumption) | exact F.o27 _ | exact F.o27' _ | exact F.o4 _ | (with_reducible exact trivial) | (with_reducible rfl) | exact u8_by bp | exact u8_by bv | exact a1_by _ | exact byV_ren _ | exact fun e => nil_by e | skip
    ·refine ⟨rfl, rb_slg rfl rfl, rfl, ?_, rfl, rfl, trivial⟩
     rw [List.length_append]
     exact rb_slg rfl rfl
    ·refine ⟨df_row (m := 310) rfl (df_eq ?_), sw_row (m := 0) rfl rfl, trivial⟩
     simp only [Nat.add_zero, f0, f1, v0, v1, fg, tk_by, byV_fl, cpD_snoc, prD]
structure CqOk (ds : List DV) (n : Nat) : Prop where
 e : ds = cpD (prsOf ds)
 L : FdL (prsOf ds)
 l : (prsOf ds).length = n
def cqPk (live : List (Nat × Value)) (h : Hp) : Option (Nat × List DV) := match live, lk h 0 with
 | (_, .slice _ n _) :: _, some ⟨.sw ds, _⟩ => some (n, ds)
 | _, _ => none
def cqSp : LSpec := lspec cqPk (fun a => ([(0, llA a.1), (3, nlV), (4, iV 0)], [(0, ⟨.sw a.2, []⟩)], 2)) (fun a tp => match tp with
 | false :: tp' => some ((.exit 0, [(3, nlV)], [(0, ⟨.sw a.2, []⟩)], 400, []), tp', [CqOk a.2 a.1, prsOf a.2 = []])
 | true :: tp' => some ((.exit 0, [(3, ouA (prsOf a.2).length)], [(200, ⟨.dx 1 3 zPr (cpD (prsOf a.2)), []⟩), (0, ⟨.sw a.2, []⟩)], 400, []), tp', [CqOk a.2 a.1, prsOf a.2 ≠ []])
 | [] => none)
theorem cqSp_ok : LSOk Try.prog 33 [0, 3, 4] (bodyIn Try.prog 23 3) cqSp := by
 refine lspec_ok fun a tp xt l2 h2 nx2 d tp' ob hs ho inr ts hn hg => ?_
 obtain ⟨n, ds⟩ := a
 simp only at hs hg
 have fin : CqOk ds n → ∀ key, key = (Xt.exit 0, [(3, ouV (prsOf ds))], moR (prsOf ds) [(0, ⟨.sw ds, []⟩)]) → Tidy [(0, ⟨.sw ds, []⟩)] 2 key.2.2 400 [] → Runs inr (fun F m Q => Code.againIn F m Try.prog (bodyIn Try.prog 23 3) Q) ts [(0, ⟨.sw ds, []⟩)] 2 (key.1, SL 33 key.2.1, key.2.2, 400, [], []) := fun h key hk hT => by
  have q := cq_loop (inr := inr) (h0 := [(0, ⟨.sw ds, []⟩)]) h.L (prsOf ds).length 0 (by omega)
  rw [List.take_zero, ← h.e, ← hk, h.l] at q
  refine LRuns.enter (N := 300) (l2 := [(0, llA n), (3, nlV), (4, iV 0)]) (h2 := [(0, ⟨.sw ds, []⟩)]) hn hg (by omega) (by omega) (fun n => n) ?_ ?_ rfl q hT
  ·exact ⟨rfl, rb_slg rfl rfl, rfl, rfl, rfl, rfl, trivial⟩
  ·exact ⟨sw_row (m := 0) rfl rfl, trivial⟩
 split at hs
 ·simp only [oI, pI] at hs
  obtain ⟨⟨rfl, rfl, rfl, rfl, rfl⟩, rfl, rfl⟩ := hs
  obtain ⟨h, h1, _⟩ := ho
  exact fin h (.exit 0, [(3, nlV)], [(0, ⟨.sw ds, []⟩)]) (by rw [h1]; rfl) (tidy_of (by omega) (fun j hj hd => rfl) rfl)
 ·simp only [oI, pI] at hs
  obtain ⟨⟨rfl, rfl, rfl, rfl, rfl⟩, rfl, rfl⟩ := hs
  obtain ⟨h, h1, _⟩ := ho
  refine fin h (.exit 0, [(3, ouA (prsOf ds).length)], [(200, ⟨.dx 1 3 zPr (cpD (prsOf ds)), []⟩), (0, ⟨.sw ds, []⟩)]) (by rw [ouV_ne h1, moR_ne h1]) (tidy_of (by omega) (fun j hj hd => ?_) rfl)
  rw [lk_cons, if_neg (by omega)]
 ·cases hs
def cqLo (P : Program) : LFun := mkL 23 3 33 [0, 3, 4] (bodyIn P 23 3) cqSp
theorem cqLo_one : LOne Try.prog (cqLo Try.prog) := mkL_ok cqSp_ok
theorem cq_nil (n : Nat) (ds : List DV) : prjV (runZ (cqV (cqLo Try.prog) noTz) Try.prog 9 23 [llA n] [(0, ⟨.sw ds, []⟩)] 2 [false]) =
 Res.ok (Value.slice none 0 0, [], [bodyIn Try.prog (23 : FuncId) 3 = bodyIn Try.prog (23 : FuncId) 3, [(0, Value.slice (some (Addr.mk 0 0 none)) n 18446744073709551616), (3, Value.slice none 0 0), (4, Value.int IntKind.i64 (0 : Int))] = [(0, Value.slice (some (Addr.mk 0 0 none)) n 18446744073709551616), (3, Value.slice none 0 0), (4, Value.int IntKind.i64 (0 : Int))], [(0, Rw.mk (Kd.sw ds) [])] = [(0, Rw.mk (Kd.sw ds) [])], 2 = 2, CqOk ds n, prsOf ds = []]) := by kernel_rfl
theorem cq_row (n : Nat) (ds : List DV) : runZ (cqV (cqLo Try.prog) noTz) Try.prog 9 23 [llA n] [(0, ⟨.sw ds, []⟩)] 2 [true] =
 Res.ok ((Value.slice (some (Addr.mk 200 0 none)) (List.length (prsOf ds)) (capBig + 200), [(200, Rw.mk (Kd.dx 1 3 [Value.slice none 0 0, Value.slice none 0 0, Value.bool false] (cpD (prsOf ds))) []), (0, Rw.mk (Kd.sw ds) [])], 400, []), [], [bodyIn Try.prog (23 : FuncId) 3 = bodyIn Try.prog (23 : FuncId) 3, [(0, Value.slice (some (Addr.mk 0 0 none)) n 18446744073709551616), (3, Value.slice none 0 0), (4, Value.int IntKind.i64 (0 : Int))] = [(0, Value.slice (some (Addr.mk 0 0 none)) n 18446744073709551616), (3, Value.slice none 0 0), (4, Value.int IntKind.i64 (0 : Int))], [(0, Rw.mk (Kd.sw ds) [])] = [(0, Rw.mk (Kd.sw ds) [])], 2 = 2, CqOk ds n, prsOf ds ≠ []]) := by kernel_rfl
def gCq : GSpecD := fun aL tp => match aL, tp with
 | [.dl ds n], false :: tp' => some (⟨fun _ => nlV, []⟩, tp', [CqOk ds n, prsOf ds = []])
 | [.dl ds n], true :: tp' => some (⟨fun nx => .slice (some ⟨nx, 0, none⟩) (prsOf ds).length (capBig + nx), [⟨.dx 1 3 zPr (cpD (prsOf ds)), []⟩]⟩, tp', [CqOk ds n, prsOf ds ≠ []])
 | _, _ => none
theorem cq_gok : GOkD Try.prog 23 gCq := by
 intro aL tp gr tp' ob hG ho cs hc
 unfold gCq at hG
 split at hG
 ·rename_i ds n tp2
  simp only [oI, pI] at hG
  obtain ⟨rfl, rfl, rfl⟩ := hG
  obtain ⟨h, h1, _⟩ := ho
  obtain ⟨h', nx', d, T⟩ := run_val cqX cqT0 (L_okV rfl cqLo_one) (cq_nil n ds) ⟨rfl, rfl, rfl, rfl, h, h1, trivial⟩ rfl
  exact ⟨_, h', nx', d, fun n => n, T, GrD.flat fun σ => rfl⟩
 ·rename_i ds n tp2
  simp only [oI, pI] at hG
  obtain ⟨rfl, rfl, rfl⟩ := hG
  obtain ⟨h, h1, _⟩ := ho
  have T := run_tri cqX cqT0 (L_okV rfl cqLo_one) (cq_row n ds) ⟨rfl, rfl, rfl, rfl, h, h1, trivial⟩ rfl
  refine ⟨_, _, _, _, fun _ => 200, T, ⟨fun nx => ?_, fun j r hj => ?_, fun i j hi hj _ => by simp at hi hj; omega⟩⟩
  ·exact f2s_slice0 (g := fun _ => 200) (by simp) _
  ·match j, hj with
   | 0, hj => cases hj; exact ⟨fun τ => rfl, rfl, rfl⟩
 ·cases hG
def zLs : List Value := [.slice none 0 0]
theorem dx_row {lo N : Nat} {ρ : Nat → Nat} {h0 h1 : Hp} {n m d sz : Nat} {z : List Value} {ds : List DV} (hn : fnN lo N ρ n = some m) (hl : lk h1 m = some ⟨.dx d sz z ds, []⟩) : RbRow lo N ρ h0 h1 n ⟨.dx d sz z ds, []⟩ := rb_rec hn hl rfl
theorem dx_eq {d sz : Nat} {z : List Value} {Y X : List DV} (h : Y = X) : some (Rw.mk (.dx d sz z Y) []) = some (Rw.mk (.dx d sz z X) []) := by rw [h]
theorem llD_snoc (L : List (List Pr)) (l : List Pr) : llD (L ++ [l]) = llD L ++ [.sl l.length none (cpD l)] := by simp [llD]
theorem cnL_ll : ∀ L : List (List Pr), cnL (llD L) = llD L
 | [] => by simp [llD, cnL]
 | l :: L => by
   have ih := cnL_ll L
   simp only [llD, List.map_cons, cnL, cnD, cnL_cp] at ih ⊢
   rw [ih]
theorem llD_len (L : List (List Pr)) : (llD L).length = L.length := by simp [llD]
def cmTab : FuncId → List Nat := fun f => bif Nat.beq f 18 then [10, 14] else bif Nat.beq f 10 then [8, 21, 25, 29, 31] else []
def cmSy : FuncId → Nat → Option Nat := orSy (lsSy 18 [(10, 0), (14, 0), (16, 0), (19, 0), (20, 37), (23, 0), (24, 37)]) (lsSy 10 [(8, 0), (10, 0), (14, 0), (15, 37), (20, 0), (23, 0), (28, 0), (31, 0)])
def cmT : TFun := mkD 16 [.d, .d] gSp
def cmV (L : LFun) : Tv := ⟨cmT, noXz, L, cmTab, cmSy, fun _ => [], fun _ => 0⟩
def cmH (ds es : List DV) : Hp := [(0, ⟨.sw ds, []⟩), (2, ⟨.sw es, []⟩)]
def cmB (n : Nat) : Value := .slice (some ⟨2, 0, none⟩) n (capBig + 2)
theorem cm_go (inr : Bool) (n i : Nat) (ds es : List DV) : prjP [0, 1, 5] 10 (codeZ (cmV noL) Try.prog (runZ (cmV noL) Try.prog 9) 18 inr 100000 (bodyIn Try.prog 18 4) (SL 27 [(0, llA n), (1, cmB n), (5, iV i)]) (cmH ds es) 10 [true]) =
 Res.ok ((Xt.normal, 27, [(0, Value.slice (some (Addr.mk 0 0 none)) n 18446744073709551616), (1, Value.slice (some (Addr.mk 2 0 none)) n (capBig + 2)), (5, Value.int IntKind.i64 (↑(i + 1) : Int))], [(0, Rw.mk (Kd.sw ds) []), (2, Rw.mk (Kd.sw es) []), (10, Rw.mk (Kd.sw (dSub ds (i + 0))) []), (11, Rw.mk (Kd.sw (dSub es (i + 0))) [])], 12, [], []), [], [decide ((↑i : Int) < (↑n : Int)) = true, (0 : Int) ≤ (↑i : Int) ∧ (↑i : Int) < (↑n : Int), ShOb Try.prog 27 true true ds i 10, (0 : Int) ≤ (↑i : Int) ∧ (↑i : Int) < (↑n : Int), ShOb Try.prog 27 true true es i 11, dLen ds (ixO 0 (Int.toNat (↑i : Int)) 1 + 0) = 0 → dSub ds (i + 0) = [], dLen es (ixO 0 (Int.toNat (↑i : Int)) 1 + 0) = 0 → dSub es (i + 0) = [], SpOk (dSub ds (i + 0)) (dSub es (i + 0)) (dLen ds (i + 0)) ∧ dLen es (i + 0) = dLen ds (i + 0), rg IntKind.i64 (↑(i + 1) : Int)]) := by kernel_rfl
theorem cm_x (inr : Bool) (n i : Nat) (ds es : List DV) : prjP [] 10 (codeZ (cmV noL) Try.prog (runZ (cmV noL) Try.prog 9) 18 inr 100000 (bodyIn Try.prog 18 4) (SL 27 [(0, llA n), (1, cmB n), (5, iV i)]) (cmH ds es) 10 [false]) =
 Res.ok ((Xt.exit 0, 27, [], [(0, Rw.mk (Kd.sw ds) []), (2, Rw.mk (Kd.sw es) [])], 10, [], []), [], [decide ((↑i : Int) < (↑n : Int)) = false]) := by kernel_rfl
theorem cmX {L : LFun} : XOkZ (cmV L) Try.prog := noXz_ok rfl
theorem cmTt {L : LFun} : TOkZ (cmV L) Try.prog := T_okV rfl (mkD_ok sp_gok)
theorem cmL0 : LOkZ (cmV noL) Try.prog := noL_okV rfl
theorem cm_loop {inr : Bool} {h0 : Hp} {L : List (List Pr)} {n : Nat} (hl : L.length = n) (hn : n ≤ 9000000) (hm : ∀ l ∈ L, l.length ≤ 9000000) : ∀ (r i : Nat), i + r = n →
  LRuns inr Try.prog (bodyIn Try.prog 18 4) 4 40 h0 27 [(0, llA n), (1, cmB n), (5, iV i)] (cmH (llD L) (llD L)) 10 (.exit 0, [], cmH (llD L) (llD L))
 | 0, i, hr => by
   refine LRuns.exit (code_runsP cmX cmL0 (runZ_ok cmX cmTt cmL0 mixed 9) mixed (cm_x inr n i (llD L) (llD L)) ?_) (by intro e; cases e) rfl (by omega) (by omega) (fun n => n) ?_ ?_ rfl
   ·simp only [Alls, decide_eq_false_iff_not]
    exact ⟨by omega, trivial⟩
   ·trivial
   ·exact ⟨sw_row (m := 0) rfl rfl, sw_row (m := 2) rfl rfl, trivial⟩
 | r + 1, i, hr => by
   have hi : i < L.length := by omega
   obtain ⟨l, hx⟩ : ∃ l, L[i]? = some l := ⟨L[i], List.getElem?_eq_getElem hi⟩
   have A := ll_at hx
   have hlm := hm l (List.mem_of_getElem? hx)
   have z : l.length = 0 → cpD l = [] := fun e => by rw [List.eq_nil_of_length_eq_zero e]; rfl
   have hs : SpOk (cpD l) (cpD l) l.length := ⟨by rw [prsOf_cp]; exact cpD_prs l, by rw [prsOf_cp]; exact cpD_prs l, by rw [prsOf_cp], hlm⟩
   refine LRuns.step (code_runsP cmX cmL0 (runZ_ok cmX cmTt cmL0 mixed 9) mixed (cm_go inr n i (llD L) (llD L)) ?_) rfl (by omega) (by omega) (fun n => n) ?_ ?_ rfl (cm_loop hl hn hm r (i + 1) (by omega))
   ·simp only [Alls, rg, decide_eq_true_eq, Nat.add_zero, Nat.mul_one, ixO0, Int.toNat_natCast, A.n, A.s]
    repeat' (with_reducible apply And.intro)
    all_goals first | omega | (with_reducible assumption) | exact A.o _ | (with_reducible exact trivial) | (with_reducible rfl) | skip
   ·exact ⟨rfl, rb_slg rfl rfl, rfl, rb_slg rfl rfl, rfl, rfl, trivial⟩
   ·exact ⟨sw_row (m := 0) rfl rfl, sw_row (m := 2) rfl rfl, trivial⟩
structure CmOk (ds : List DV) (n : Nat) : Prop where
 e : ds = llD (llOf ds)
 l : (llOf ds).length = n
 n9 : n ≤ 9000000
 m : ∀ l ∈ llOf ds, l.length ≤ 9000000
def cmPk (live : List (Nat × Value)) (h : Hp) : Option (Nat × List DV) := match live, lk h 0 with
 | (_, .slice _ n _) :: _, some ⟨.sw ds, _⟩ => some (n, ds)
 | _, _ => none
def cmSp : LSpec := lspec cmPk (fun a => ([(0, llA a.1), (1, cmB a.1), (5, iV 0)], cmH a.2 a.2, 4)) (fun a tp => some ((.exit 0, [], cmH a.2 a.2, 40, []), tp, [CmOk a.2 a.1]))
theorem cmSp_ok : LSOk Try.prog 27 [0, 1, 5] (bodyIn Try.prog 18 4) cmSp := by
 refine lspec_ok fun a tp xt l2 h2 nx2 d tp' ob hs ho inr ts hn hg => ?_
 obtain ⟨n, ds⟩ := a
 simp only at hs hg
 simp only [oI, pI] at hs
 obtain ⟨⟨rfl, rfl, rfl, rfl, rfl⟩, rfl, rfl⟩ := hs
 obtain ⟨h, _⟩ := ho
 have q := cm_loop (inr := inr) (h0 := cmH ds ds) h.l h.n9 h.m n 0 (by omega)
 rw [← h.e] at q
 refine LRuns.enter (N := 10) (l2 := [(0, llA n), (1, cmB n), (5, iV 0)]) hn hg (by omega) (by omega) (fun n => n) ?_ ?_ rfl q (tidy_of (by omega) (fun j hj hd => rfl) rfl)
 ·exact ⟨rfl, rb_slg rfl rfl, rfl, rb_slg rfl rfl, rfl, rfl, trivial⟩
 ·exact ⟨sw_row (m := 0) rfl rfl, sw_row (m := 2) rfl rfl, trivial⟩
def cmLo (P : Program) : LFun := mkL 18 4 27 [0, 1, 5] (bodyIn P 18 4) cmSp
theorem cmLo_one : LOne Try.prog (cmLo Try.prog) := mkL_ok cmSp_ok
theorem cm_rr (n : Nat) (ds : List DV) : prjV (runZ (cmV (cmLo Try.prog)) Try.prog 9 18 [llA n, cmB n] (cmH ds ds) 4 [false]) =
 Res.ok (Value.bool true, [], [((↑n : Int) != (↑n : Int)) = false, bodyIn Try.prog (18 : FuncId) 4 = bodyIn Try.prog (18 : FuncId) 4, [(0, Value.slice (some (Addr.mk 0 0 none)) n 18446744073709551616), (1, Value.slice (some (Addr.mk 2 0 none)) n (capBig + 2)), (5, Value.int IntKind.i64 (0 : Int))] = [(0, Value.slice (some (Addr.mk 0 0 none)) n 18446744073709551616), (1, Value.slice (some (Addr.mk 2 0 none)) n (capBig + 2)), (5, Value.int IntKind.i64 (0 : Int))], cmH ds ds = cmH ds ds, 4 = 4, CmOk ds n]) := by kernel_rfl
def gCm : GSpecD := fun aL tp => match aL with
 | [.dl ds n, .dl es m] => some (⟨fun _ => .bool true, []⟩, tp, [CmOk ds n, es = ds, m = n])
 | _ => none
theorem cm_gok : GOkD Try.prog 18 gCm := by
 intro aL tp gr tp' ob hG ho cs hc
 unfold gCm at hG
 split at hG
 case h_2 => cases hG
 rename_i ds n es m
 simp only [oI, pI] at hG
 obtain ⟨rfl, rfl, rfl⟩ := hG
 obtain ⟨h, rfl, rfl, _⟩ := ho
 obtain ⟨h', nx', d, T⟩ := run_val cmX cmTt (L_okV rfl cmLo_one) (cm_rr m es) ⟨bne_self_eq_false _, rfl, rfl, rfl, rfl, h, trivial⟩ rfl
 exact ⟨_, h', nx', d, fun n => n, T, GrD.flat fun σ => rfl⟩
end Go.Proofs.Ytmoflcoijmmpjaa
