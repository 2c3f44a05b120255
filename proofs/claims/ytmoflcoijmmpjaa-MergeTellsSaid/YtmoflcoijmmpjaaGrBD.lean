/-
  Chapter 14: SamePairLists (of lists that are the same), long as contracts.
-/
import Derived.Test.YtmoflcoijmmpjaaGrBB
import Derived.Test.YtmoflcoijmmpjaaGrAS
import Derived.Test.YtmoflcoijmmpjaaGrAX
import Derived.Test.YtmoflcoijmmpjaaGrAO
namespace Go.Proofs.Ytmoflcoijmmpjaa
set_option linter.unusedSimpArgs false
set_option linter.unusedVariables false
set_option linter.unusedSectionVars false
open Go Go.RowKit
def cmTab : FuncId → List Nat := fun f => bif Nat.beq f 18 then [10, 14] else bif Nat.beq f 10 then [8, 21, 25, 29, 31] else []
def cmSy : FuncId → Nat → Option Nat := orSy (lsSy 18 [(10, 0), (14, 0), (16, 0), (19, 0), (20, 37), (23, 0), (24, 37)]) (lsSy 10 [(8, 0), (10, 0), (14, 0), (15, 37), (20, 0), (23, 0), (28, 0), (31, 0)])
def cmT : TFun := mkD 16 [.d, .d] gSp
def cmV (L : LFun) : Tv := ⟨cmT, noXz, L, cmTab, cmSy, fun _ => [], fun _ => 0⟩
def cmH (ds es : List DV) : Hp := [(0, ⟨.sw ds, []⟩), (2, ⟨.sw es, []⟩)]
def cmB (n : Nat) : Value := .slice (some ⟨2, 0, none⟩) n (capBig + 2)
theorem cm_go (inr : Bool) (n i : Nat) (ds es : List DV) : prjP [0, 1, 5] 10 (codeZ (cmV noL) Try.prog (runZ (cmV noL) Try.prog 9) 18 inr 100000 (bodyIn Try.prog 18 4) (SL 27 [(0, llA n), (1, cmB n), (5, iV i)]) (cmH ds es) 10 [true]) =
 (let a1 := (↑i : Int); Res.ok ((Xt.normal, 27, [(0, Value.slice (some (Addr.mk 0 0 none)) n 18446744073709551616), (1, Value.slice (some (Addr.mk 2 0 none)) n (capBig + 2)), (5, Value.int IntKind.i64 (↑(i + 1) : Int))], [(0, Rw.mk (Kd.sw ds) []), (2, Rw.mk (Kd.sw es) []), (10, Rw.mk (Kd.sw (dSub ds (i + 0))) []), (11, Rw.mk (Kd.sw (dSub es (i + 0))) [])], 12, [], []), [], [decide (a1 < (↑n : Int)) = true, (0 : Int) ≤ a1 ∧ a1 < (↑n : Int), ShOb Try.prog 27 true true ds i 10, (0 : Int) ≤ a1 ∧ a1 < (↑n : Int), ShOb Try.prog 27 true true es i 11, dLen ds (ixO 0 (Int.toNat a1) 1 + 0) = 0 → dSub ds (i + 0) = [], dLen es (ixO 0 (Int.toNat a1) 1 + 0) = 0 → dSub es (i + 0) = [], SpOk (dSub ds (i + 0)) (dSub es (i + 0)) (dLen ds (i + 0)) ∧ dLen es (i + 0) = dLen ds (i + 0), rg IntKind.i64 (↑(i + 1) : Int)])) := by kernel_rfl
theorem cm_x (inr : Bool) (n i : Nat) (ds es : List DV) : prjP [] 10 (codeZ (cmV noL) Try.prog (runZ (cmV noL) Try.prog 9) 18 inr 100000 (bodyIn Try.prog 18 4) (SL 27 [(0, llA n), (1, cmB n), (5, iV i)]) (cmH ds es) 10 [false]) =
 Res.ok ((Xt.exit 0, 27, [], [(0, Rw.mk (Kd.sw ds) []), (2, Rw.mk (Kd.sw es) [])], 10, [], []), [], [decide ((↑i : Int) < (↑n : Int)) = false]) := by kernel_rfl
theorem lg_go (inr : Bool) (n i : Nat) (s : Int) (ds : List DV) : prjP [0, 3, 4] 10 (codeZ (cmV noL) Try.prog (runZ (cmV noL) Try.prog 9) 10 inr 100000 (bodyIn Try.prog 10 3) (SL 34 [(0, llA n), (3, mhI s), (4, iV i)]) [(0, ⟨.sw ds, []⟩)] 10 [true]) =
 Res.ok ((Xt.normal, 34, [(0, Value.slice (some (Addr.mk 0 0 none)) n 18446744073709551616), (3, Value.int IntKind.i64 (IntKind.wrap IntKind.i64 (s + (↑(dLen ds (i + 0)) : Int)))), (4, Value.int IntKind.i64 (↑(i + 1) : Int))], [(10, Rw.mk (Kd.sw (dSub ds (i + 0))) []), (0, Rw.mk (Kd.sw ds) [])], 11, [], []), [], [decide ((↑i : Int) < (↑n : Int)) = true, (0 : Int) ≤ (↑i : Int) ∧ (↑i : Int) < (↑n : Int), ShOb Try.prog 27 true true ds i 10, rg IntKind.i64 (↑(i + 1) : Int)]) := by kernel_rfl
theorem lg_x (inr : Bool) (n i : Nat) (s : Int) (ds : List DV) : prjP [0, 3] 10 (codeZ (cmV noL) Try.prog (runZ (cmV noL) Try.prog 9) 10 inr 100000 (bodyIn Try.prog 10 3) (SL 34 [(0, llA n), (3, mhI s), (4, iV i)]) [(0, ⟨.sw ds, []⟩)] 10 [false]) =
 Res.ok ((Xt.exit 0, 34, [(0, Value.slice (some (Addr.mk 0 0 none)) n 18446744073709551616), (3, Value.int IntKind.i64 s)], [(0, Rw.mk (Kd.sw ds) [])], 10, [], []), [], [decide ((↑i : Int) < (↑n : Int)) = false]) := by kernel_rfl
theorem cmX {L : LFun} : XOkZ (cmV L) Try.prog := noXz_ok rfl
theorem cmTt {L : LFun} : TOkZ (cmV L) Try.prog := T_okV rfl (mkD_ok sp_gok)
theorem cmL0 : LOkZ (cmV noL) Try.prog := noL_okV rfl
theorem cm_loop {inr : Bool} {h0 : Hp} {L : List (List Pr)} {n : Nat} (hl : L.length = n) (hn : n ≤ 9000000) (hm : ∀ l ∈ L, l.length ≤ 9000000) : ∀ (r i : Nat), i + r = n →
  LRuns inr Try.prog (bodyIn Try.prog 18 4) 4 40 h0 27 [(0, llA n), (1, cmB n), (5, iV i)] (cmH (llD L) (llD L)) 10 (.exit 0, [], cmH (llD L) (llD L))
 | 0, i, hr => by
   refine LRuns.exit (code_runsP cmX cmL0 (runZ_ok cmX cmTt cmL0 mixed 9) mixed (cm_x inr n i (llD L) (llD L)) ?_) (by intro e; cases e) rfl (by omega) (by omega) (fun n => n) ?_ ?_ rfl
   ·simp only [Alls, decide_eq_false_iff_not]
    exact ⟨by omega, trivial⟩
   ·trivial
   ·exact ⟨sw_row (m := 0) rfl rfl, sw_row (m := 2) rfl rfl, trivial⟩
 | r + 1, i, hr => by
   have hi : i < L.length := by omega
   obtain ⟨l, hx⟩ : ∃ l, L[i]? = some l := ⟨L[i], List.getElem?_eq_getElem hi⟩
   have A := ll_at hx
   have hlm := hm l (List.mem_of_getElem? hx)
   have z : l.length = 0 → cpD l = [] := fun e => by rw [List.eq_nil_of_length_eq_zero e]; rfl
   have hs : SpOk (cpD l) (cpD l) l.length := ⟨by rw [prsOf_cp]; exact cpD_prs l, by rw [prsOf_cp]; exact cpD_prs l, by rw [prsOf_cp], hlm⟩
   refine LRuns.step (code_runsP cmX cmL0 (runZ_ok cmX cmTt cmL0 mixed 9) mixed (cm_go inr n i (llD L) (llD L)) ?_) rfl (by omega) (by omega) (fun n => n) ?_ ?_ rfl (cm_loop hl hn hm r (i + 1) (by omega))
   ·simp only [Alls, rg, decide_eq_true_eq, Nat.add_zero, Nat.mul_one, ixO0, Int.toNat_natCast, A.n, A.s]
    repeat' (with_reducible apply And.intro)
    all_goals first | omega | (with_reducible assumption) | exact A.o _ | (with_reducible exact trivial) | (with_reducible rfl) | skip
   ·exact ⟨rfl, rb_slg rfl rfl, rfl, rb_slg rfl rfl, rfl, rfl, trivial⟩
   ·exact ⟨sw_row (m := 0) rfl rfl, sw_row (m := 2) rfl rfl, trivial⟩
structure CmOk (ds : List DV) (n : Nat) : Prop where
 e : ds = llD (llOf ds)
 l : (llOf ds).length = n
 n9 : n ≤ 9000000
 m : ∀ l ∈ llOf ds, l.length ≤ 9000000
def cmPk (live : List (Nat × Value)) (h : Hp) : Option (Nat × List DV) := match live, lk h 0 with
 | (_, .slice _ n _) :: _, some ⟨.sw ds, _⟩ => some (n, ds)
 | _, _ => none
def cmSp : LSpec := lspec cmPk (fun a => ([(0, llA a.1), (1, cmB a.1), (5, iV 0)], cmH a.2 a.2, 4)) (fun a tp => some ((.exit 0, [], cmH a.2 a.2, 40, []), tp, [CmOk a.2 a.1]))
theorem cmSp_ok : LSOk Try.prog 27 [0, 1, 5] (bodyIn Try.prog 18 4) cmSp := by
 refine lspec_ok fun a tp xt l2 h2 nx2 d tp' ob hs ho inr ts hn hg => ?_
 obtain ⟨n, ds⟩ := a
 simp only at hs hg
 simp only [oI, pI] at hs
 obtain ⟨⟨rfl, rfl, rfl, rfl, rfl⟩, rfl, rfl⟩ := hs
 obtain ⟨h, _⟩ := ho
 have q := cm_loop (inr := inr) (h0 := cmH ds ds) h.l h.n9 h.m n 0 (by omega)
 rw [← h.e] at q
 refine LRuns.enter (N := 10) (l2 := [(0, llA n), (1, cmB n), (5, iV 0)]) hn hg (by omega) (by omega) (fun n => n) ?_ ?_ rfl q (tidy_of (by omega) (fun j hj hd => rfl) rfl)
 ·exact ⟨rfl, rb_slg rfl rfl, rfl, rb_slg rfl rfl, rfl, rfl, trivial⟩
 ·exact ⟨sw_row (m := 0) rfl rfl, sw_row (m := 2) rfl rfl, trivial⟩
def cmLo (P : Program) : LFun := mkL 18 4 27 [0, 1, 5] (bodyIn P 18 4) cmSp
theorem cmLo_one : LOne Try.prog (cmLo Try.prog) := mkL_ok cmSp_ok
theorem cm_rr (n : Nat) (ds : List DV) : prjV (runZ (cmV (cmLo Try.prog)) Try.prog 9 18 [llA n, cmB n] (cmH ds ds) 4 [false]) =
 (let a3 := (5, Value.int IntKind.i64 (0 : Int)); let a2 := (1, Value.slice (some (Addr.mk 2 0 none)) n (capBig + 2)); let a1 := (0, Value.slice (some (Addr.mk 0 0 none)) n 18446744073709551616); Res.ok (Value.bool true, [], [((↑n : Int) != (↑n : Int)) = false, bodyIn Try.prog (18 : FuncId) 4 = bodyIn Try.prog (18 : FuncId) 4, [a1, a2, a3] = [a1, a2, a3], cmH ds ds = cmH ds ds, 4 = 4, CmOk ds n])) := by kernel_rfl
def gCm : GSpecD := fun aL tp => match aL with
 | [.dl ds n, .dl es m] => some (⟨fun _ => .bool true, []⟩, tp, [CmOk ds n, es = ds, m = n])
 | _ => none
theorem cm_gok : GOkD Try.prog 18 gCm := by
 intro aL tp gr tp' ob hG ho cs hc
 unfold gCm at hG
 split at hG
 case h_2 => cases hG
 rename_i ds n es m
 simp only [oI, pI] at hG
 obtain ⟨rfl, rfl, rfl⟩ := hG
 obtain ⟨h, rfl, rfl, _⟩ := ho
 obtain ⟨h', nx', d, T⟩ := run_val cmX cmTt (L_okV rfl cmLo_one) (cm_rr m es) ⟨bne_self_eq_false _, rfl, rfl, rfl, rfl, h, trivial⟩ rfl
 exact ⟨_, h', nx', d, fun n => n, T, GrD.flat fun σ => rfl⟩
def sumW : Int → List (List Pr) → Int
 | s, [] => s
 | s, l :: L => sumW (IntKind.i64.wrap (s + (l.length : Int))) L
theorem lg_loop {inr : Bool} {h0 : Hp} {L : List (List Pr)} {n : Nat} (hl : L.length = n) (hn : n ≤ 9223372036854775807) : ∀ (r i : Nat) (s : Int), i + r = n →
  LRuns inr Try.prog (bodyIn Try.prog 10 3) 2 40 h0 34 [(0, llA n), (3, mhI s), (4, iV i)] [(0, ⟨.sw (llD L), []⟩)] 10 (.exit 0, [(0, llA n), (3, mhI (sumW s (L.drop i)))], [(0, ⟨.sw (llD L), []⟩)])
 | 0, i, s, hr => by
   rw [List.drop_of_length_le (by omega)]
   refine LRuns.exit (code_runsP cmX cmL0 (runZ_ok cmX cmTt cmL0 mixed 9) mixed (lg_x inr n i s (llD L)) ?_) (by intro e; cases e) rfl (by omega) (by omega) (fun n => n) ?_ ?_ rfl
   ·simp only [Alls, decide_eq_false_iff_not]
    exact ⟨by omega, trivial⟩
   ·exact ⟨rfl, rb_slg rfl rfl, rfl, rfl, trivial⟩
   ·exact ⟨sw_row (m := 0) rfl rfl, trivial⟩
 | r + 1, i, s, hr => by
   have hi : i < L.length := by omega
   obtain ⟨l, hx⟩ : ∃ l, L[i]? = some l := ⟨L[i], List.getElem?_eq_getElem hi⟩
   have A := ll_at hx
   have hd : L.drop i = l :: L.drop (i + 1) := by
    obtain ⟨h1, h2⟩ := List.getElem?_eq_some_iff.1 hx
    rw [List.drop_eq_getElem_cons hi, h2]
   rw [hd]
   have nx := lg_loop (inr := inr) (h0 := h0) hl hn r (i + 1) (IntKind.i64.wrap (s + (l.length : Int))) (by omega)
   refine LRuns.step (code_runsP cmX cmL0 (runZ_ok cmX cmTt cmL0 mixed 9) mixed (lg_go inr n i s (llD L)) ?_) rfl (by omega) (by omega) (fun n => n) ?_ ?_ rfl nx
   ·simp only [Alls, rg, decide_eq_true_eq]
    exact ⟨by omega, ⟨by omega, by omega⟩, A.o _, ⟨by omega, by omega⟩, trivial⟩
   ·refine ⟨rfl, rb_slg rfl rfl, rfl, ?_, rfl, rfl, trivial⟩
    simp only [Nat.add_zero, A.n]
    rfl
   ·exact ⟨sw_row (m := 0) rfl rfl, trivial⟩
structure LgOk (ds : List DV) (n : Nat) : Prop where
 e : ds = llD (llOf ds)
 l : (llOf ds).length = n
 n9 : n ≤ 9223372036854775807
def lgSp : LSpec := lspec cmPk (fun a => ([(0, llA a.1), (3, mhI 0), (4, iV 0)], [(0, ⟨.sw a.2, []⟩)], 2)) (fun a tp => some ((.exit 0, [(0, llA a.1), (3, mhI (sumW 0 (llOf a.2)))], [(0, ⟨.sw a.2, []⟩)], 40, []), tp, [LgOk a.2 a.1]))
theorem lgSp_ok : LSOk Try.prog 34 [0, 3, 4] (bodyIn Try.prog 10 3) lgSp := by
 refine lspec_ok fun a tp xt l2 h2 nx2 d tp' ob hs ho inr ts hn hg => ?_
 obtain ⟨n, ds⟩ := a
 simp only at hs hg
 simp only [oI, pI] at hs
 obtain ⟨⟨rfl, rfl, rfl, rfl, rfl⟩, rfl, rfl⟩ := hs
 obtain ⟨h, _⟩ := ho
 have q := lg_loop (inr := inr) (h0 := [(0, ⟨.sw ds, []⟩)]) h.l h.n9 n 0 0 (by omega)
 rw [← h.e, List.drop_zero] at q
 refine LRuns.enter (N := 10) (l2 := [(0, llA n), (3, mhI 0), (4, iV 0)]) hn hg (by omega) (by omega) (fun n => n) ?_ ?_ rfl q (tidy_of (by omega) (fun j hj hd => rfl) rfl)
 ·exact ⟨rfl, rb_slg rfl rfl, rfl, rfl, rfl, rfl, trivial⟩
 ·exact ⟨sw_row (m := 0) rfl rfl, trivial⟩
def lgLo (P : Program) : LFun := mkL 10 3 34 [0, 3, 4] (bodyIn P 10 3) lgSp
theorem lgLo_one : LOne Try.prog (lgLo Try.prog) := mkL_ok lgSp_ok
theorem le_ff (n : Nat) (ds : List DV) : prjV (runZ (cmV (lgLo Try.prog)) Try.prog 9 10 [llA n] [(0, ⟨.sw ds, []⟩)] 2 [false, false]) =
 (let a3 := (4, Value.int IntKind.i64 (0 : Int)); let a2 := (3, Value.int IntKind.i64 (0 : Int)); let a1 := (0, Value.slice (some (Addr.mk 0 0 none)) n 18446744073709551616); Res.ok (Value.bool false, [], [bodyIn Try.prog (10 : FuncId) 3 = bodyIn Try.prog (10 : FuncId) 3, [a1, a2, a3] = [a1, a2, a3], [(0, Rw.mk (Kd.sw ds) [])] = [(0, Rw.mk (Kd.sw ds) [])], 2 = 2, LgOk ds n, decide ((↑n : Int) ≤ (40 : Int)) = false, false = false])) := by kernel_rfl
theorem le_tf (n : Nat) (ds : List DV) : prjV (runZ (cmV (lgLo Try.prog)) Try.prog 9 10 [llA n] [(0, ⟨.sw ds, []⟩)] 2 [true, false]) =
 (let a3 := (4, Value.int IntKind.i64 (0 : Int)); let a2 := (3, Value.int IntKind.i64 (0 : Int)); let a1 := (0, Value.slice (some (Addr.mk 0 0 none)) n 18446744073709551616); Res.ok (Value.bool false, [], [bodyIn Try.prog (10 : FuncId) 3 = bodyIn Try.prog (10 : FuncId) 3, [a1, a2, a3] = [a1, a2, a3], [(0, Rw.mk (Kd.sw ds) [])] = [(0, Rw.mk (Kd.sw ds) [])], 2 = 2, LgOk ds n, decide ((↑n : Int) ≤ (40 : Int)) = true, (bif true then decide (sumW (0 : Int) (llOf ds) ≤ (4200 : Int)) else false) = false])) := by kernel_rfl
theorem le_tt (n : Nat) (ds : List DV) : prjV (runZ (cmV (lgLo Try.prog)) Try.prog 9 10 [llA n] [(0, ⟨.sw ds, []⟩)] 2 [true, true, true]) =
 (let a3 := (4, Value.int IntKind.i64 (0 : Int)); let a2 := (3, Value.int IntKind.i64 (0 : Int)); let a1 := (0, Value.slice (some (Addr.mk 0 0 none)) n 18446744073709551616); Res.ok (Value.bool true, [], [bodyIn Try.prog (10 : FuncId) 3 = bodyIn Try.prog (10 : FuncId) 3, [a1, a2, a3] = [a1, a2, a3], [(0, Rw.mk (Kd.sw ds) [])] = [(0, Rw.mk (Kd.sw ds) [])], 2 = 2, LgOk ds n, decide ((↑n : Int) ≤ (40 : Int)) = true, (bif true then decide (sumW (0 : Int) (llOf ds) ≤ (4200 : Int)) else false) = true, decide ((↑n : Int) > (32 : Int)) = true])) := by kernel_rfl
theorem le_tn (n : Nat) (ds : List DV) : prjV (runZ (cmV (lgLo Try.prog)) Try.prog 9 10 [llA n] [(0, ⟨.sw ds, []⟩)] 2 [true, true, false, true]) =
 (let a3 := (4, Value.int IntKind.i64 (0 : Int)); let a2 := (3, Value.int IntKind.i64 (0 : Int)); let a1 := (0, Value.slice (some (Addr.mk 0 0 none)) n 18446744073709551616); Res.ok (Value.bool true, [], [bodyIn Try.prog (10 : FuncId) 3 = bodyIn Try.prog (10 : FuncId) 3, [a1, a2, a3] = [a1, a2, a3], [(0, Rw.mk (Kd.sw ds) [])] = [(0, Rw.mk (Kd.sw ds) [])], 2 = 2, LgOk ds n, decide ((↑n : Int) ≤ (40 : Int)) = true, (bif true then decide (sumW (0 : Int) (llOf ds) ≤ (4200 : Int)) else false) = true, decide ((↑n : Int) > (32 : Int)) = false, decide (sumW (0 : Int) (llOf ds) > (4096 : Int)) = true])) := by kernel_rfl
theorem le_tm (n : Nat) (ds : List DV) : prjV (runZ (cmV (lgLo Try.prog)) Try.prog 9 10 [llA n] [(0, ⟨.sw ds, []⟩)] 2 [true, true, false, false]) =
 (let a3 := (4, Value.int IntKind.i64 (0 : Int)); let a2 := (3, Value.int IntKind.i64 (0 : Int)); let a1 := (0, Value.slice (some (Addr.mk 0 0 none)) n 18446744073709551616); Res.ok (Value.bool false, [], [bodyIn Try.prog (10 : FuncId) 3 = bodyIn Try.prog (10 : FuncId) 3, [a1, a2, a3] = [a1, a2, a3], [(0, Rw.mk (Kd.sw ds) [])] = [(0, Rw.mk (Kd.sw ds) [])], 2 = 2, LgOk ds n, decide ((↑n : Int) ≤ (40 : Int)) = true, (bif true then decide (sumW (0 : Int) (llOf ds) ≤ (4200 : Int)) else false) = true, decide ((↑n : Int) > (32 : Int)) = false, decide (sumW (0 : Int) (llOf ds) > (4096 : Int)) = false])) := by kernel_rfl
def lgB (n : Nat) (s : Int) : Bool := decide ((n : Int) ≤ 40) && decide (s ≤ 4200) && (decide ((n : Int) > 32) || decide (s > 4096))
def gLg : GSpecD := fun aL tp => match aL, tp with
 | [.dl ds n], b :: tp' => some (⟨fun _ => .bool b, []⟩, tp', [LgOk ds n, lgB n (sumW 0 (llOf ds)) = b])
 | _, _ => none
theorem lg_gok : GOkD Try.prog 10 gLg := by
 intro aL tp gr tp' ob hG ho cs hc
 unfold gLg at hG
 split at hG
 case h_2 => cases hG
 rename_i ds n b tp2
 simp only [oI, pI] at hG
 obtain ⟨rfl, rfl, rfl⟩ := hG
 obtain ⟨h, h1, _⟩ := ho
 have fin : ∀ {v : Bool}, (∃ h' nx' d, Tri Try.prog 10 [llA n] [(0, ⟨.sw ds, []⟩)] 2 (.bool v, h', nx', d)) → v = b → ∃ v0 h0' nx0' d0 g, Tri Try.prog 10 (dvV [.dl ds n] cs 0) (dvH [.dl ds n] cs 0) (2 * 1) (v0, h0', nx0', d0) ∧ GrD ⟨fun _ => .bool b, []⟩ v0 h0' g := fun ⟨h', nx', d, T⟩ e => by
  subst e
  exact ⟨_, h', nx', d, fun n => n, T, GrD.flat fun σ => rfl⟩
 have hL : LOkZ (cmV (lgLo Try.prog)) Try.prog := L_okV rfl lgLo_one
 by_cases c1 : (n : Int) ≤ 40
 ·by_cases c2 : sumW 0 (llOf ds) ≤ 4200
  ·by_cases c3 : (n : Int) > 32
   ·exact fin (run_val cmX cmTt hL (le_tt n ds) ⟨rfl, rfl, rfl, rfl, h, decide_eq_true c1, decide_eq_true c2, decide_eq_true c3, trivial⟩ rfl) (by rw [← h1]; simp [lgB, c1, c2, c3])
   ·by_cases c4 : sumW 0 (llOf ds) > 4096
    ·exact fin (run_val cmX cmTt hL (le_tn n ds) ⟨rfl, rfl, rfl, rfl, h, decide_eq_true c1, decide_eq_true c2, decide_eq_false c3, decide_eq_true c4, trivial⟩ rfl) (by rw [← h1]; simp [lgB, c1, c2, c4])
    ·exact fin (run_val cmX cmTt hL (le_tm n ds) ⟨rfl, rfl, rfl, rfl, h, decide_eq_true c1, decide_eq_true c2, decide_eq_false c3, decide_eq_false c4, trivial⟩ rfl) (by
      rw [← h1]
      have e3 : decide ((n : Int) > 32) = false := decide_eq_false c3
      have e4 : decide (sumW 0 (llOf ds) > 4096) = false := decide_eq_false c4
      unfold lgB
      rw [e3, e4]
      simp)
  ·exact fin (run_val cmX cmTt hL (le_tf n ds) ⟨rfl, rfl, rfl, rfl, h, decide_eq_true c1, decide_eq_false c2, trivial⟩ rfl) (by
    rw [← h1]
    unfold lgB
    rw [decide_eq_false c2]
    simp)
 ·exact fin (run_val cmX cmTt hL (le_ff n ds) ⟨rfl, rfl, rfl, rfl, h, decide_eq_false c1, rfl, trivial⟩ rfl) (by
   rw [← h1]
   unfold lgB
   rw [decide_eq_false c1]
   rfl)
def lsTab : FuncId → List Nat := fun f => bif Nat.beq f 9 then [11, 15] else []
def lsSyF : FuncId → Nat → Option Nat := lsSy 9 [(11, 0), (15, 0), (17, 0), (20, 0), (21, 37)]
def lsT : TFun := mkD 22 [.d, .f] gLp
def lsV (L : LFun) : Tv := ⟨lsT, cmpY, L, lsTab, lsSyF, fun _ => [], fun _ => 0⟩
theorem ls_go (inr : Bool) (n i : Nat) (m : Int) (ds : List DV) : prjP [0, 2, 7] 10 (codeZ (lsV noL) Try.prog (runZ (lsV noL) Try.prog 9) 9 inr 100000 (bodyIn Try.prog 9 4) (SL 24 [(0, saA n), (2, mhI m), (7, iV i)]) [(0, ⟨.sw ds,
 []⟩)] 10 [true, false])
 =
  (let a1 := (dSub ds (i + 0)); Res.ok ((Xt.normal, 24, [(0, Value.slice (some (Addr.mk 0 0 none)) n 18446744073709551616), (2, Value.int IntKind.i64 m), (7, Value.int IntKind.i64 (↑(i + 1) : Int))], [(10, Rw.mk (Kd.sw a1) []), (0, Rw.mk (Kd.sw ds) [])], 11, [], []), [], [decide ((↑i : Int) < (↑n : Int)) = true, (0 : Int) ≤ (↑i : Int) ∧ (↑i : Int) < (↑n : Int), ShOb Try.prog 27 true true ds i 10, dLen ds (ixO 0 (Int.toNat (↑i : Int)) 1 + 0) = 0 → dSub ds (i + 0) = [], LpOk a1 (dLen ds (i + 0)) ∧ (decide ((↑(dLen ds (i + 0)) : Int) > m) || List.any (prsOf a1) big) = false, m ≤ (9000000 : Int), rg IntKind.i64 (↑(i + 1) : Int)])) := by kernel_rfl
theorem ls_hit (inr : Bool) (n i : Nat) (m : Int) (ds : List DV) : prjP [6] 10 (codeZ (lsV noL) Try.prog (runZ (lsV noL) Try.prog 9) 9 inr 100000 (bodyIn Try.prog 9 4) (SL 24 [(0, saA n), (2, mhI m), (7, iV i)]) [(0, ⟨.sw ds, []⟩)] 10 [true, true]) =
 (let a1 := (dSub ds (i + 0)); Res.ok ((Xt.ret, 24, [(6, Value.bool true)], [(10, Rw.mk (Kd.sw a1) []), (0, Rw.mk (Kd.sw ds) [])], 11, [], []), [], [decide ((↑i : Int) < (↑n : Int)) = true, (0 : Int) ≤ (↑i : Int) ∧ (↑i : Int) < (↑n : Int), ShOb Try.prog 27 true true ds i 10, dLen ds (ixO 0 (Int.toNat (↑i : Int)) 1 + 0) = 0 → dSub ds (i + 0) = [], LpOk a1 (dLen ds (i + 0)) ∧ (decide ((↑(dLen ds (i + 0)) : Int) > m) || List.any (prsOf a1) big) = true, m ≤ (9000000 : Int)])) := by kernel_rfl
theorem ls_end (inr : Bool) (n i : Nat) (m : Int) (ds : List DV) : prjP [] 10 (codeZ (lsV noL) Try.prog (runZ (lsV noL) Try.prog 9) 9 inr 100000 (bodyIn Try.prog 9 4) (SL 24 [(0, saA n), (2, mhI m), (7, iV i)]) [(0, ⟨.sw ds, []⟩)] 10 [false]) =
 Res.ok ((Xt.exit 0, 24, [], [(0, Rw.mk (Kd.sw ds) [])], 10, [], []), [], [decide ((↑i : Int) < (↑n : Int)) = false]) := by kernel_rfl
theorem lsX {L : LFun} : XOkZ (lsV L) Try.prog := XOneZ.ok cmpY_ok rfl
theorem lsTt {L : LFun} : TOkZ (lsV L) Try.prog := T_okV rfl (mkD_ok lp_gok)
theorem lsL : LOkZ (lsV noL) Try.prog := noL_okV rfl
def lgL (m : Int) (l : List Pr) : Bool := decide ((l.length : Int) > m) || l.any big
theorem ls_loop {inr : Bool} {h0 : Hp} {L : List (List Pr)} {n : Nat} {m : Int} (hl : L.length = n) (hn : n ≤ 9000000) (hm : m ≤ 9000000) : ∀ (r i : Nat), i + r = n →
  LRuns inr Try.prog (bodyIn Try.prog 9 4) 6 40 h0 24 [(0, saA n), (2, mhI m), (7, iV i)] [(0, ⟨.sw (llD L), []⟩)] 10
   (bif (L.drop i).any (lgL m) then (.ret, [(6, .bool true)], [(0, ⟨.sw (llD L), []⟩)]) else (.exit 0, [], [(0, ⟨.sw (llD L), []⟩)]))
 | 0, i, hr => by
   rw [List.drop_of_length_le (by omega)]
   refine LRuns.exit (code_runsP lsX lsL (runZ_ok lsX lsTt lsL mixed 9) mixed (ls_end inr n i m (llD L)) ?_) (by intro e; cases e) rfl (by omega) (by omega) (fun n => n) ?_ ?_ rfl
   ·simp only [Alls, decide_eq_false_iff_not]
    exact ⟨by omega, trivial⟩
   ·trivial
   ·exact ⟨sw_row (m := 0) rfl rfl, trivial⟩
 | r + 1, i, hr => by
   have hi : i < L.length := by omega
   obtain ⟨l, hx⟩ : ∃ l, L[i]? = some l := ⟨L[i], List.getElem?_eq_getElem hi⟩
   have A := ll_at hx
   have hd : L.drop i = l :: L.drop (i + 1) := by
    obtain ⟨h1, h2⟩ := List.getElem?_eq_some_iff.1 hx
    rw [List.drop_eq_getElem_cons hi, h2]
   have o1 := A.o 10
   have z : l.length = 0 → cpD l = [] := fun e => by rw [List.eq_nil_of_length_eq_zero e]; rfl
   have lp : LpOk (cpD l) l.length := ⟨by rw [prsOf_cp]; exact cpD_prs l, by rw [prsOf_cp]⟩
   rw [hd, List.any_cons]
   cases hb : lgL m l with
   | true =>
    rw [Bool.true_or]
    have hb' : (decide ((l.length : Int) > m) || l.any big) = true := hb
    refine LRuns.exit (code_runsP lsX lsL (runZ_ok lsX lsTt lsL mixed 9) mixed (ls_hit inr n i m (llD L)) ?_) (by intro e; cases e) rfl (by omega) (by omega) (fun n => n) ?_ ?_ rfl
    ·simp only [Alls, rg, decide_eq_true_eq, Nat.add_zero, Nat.zero_add, Nat.mul_one, ixO_eq, Int.toNat_natCast, A.n, A.s, prsOf_cp]
     repeat' (with_reducible apply And.intro)
     all_goals first | omega | (with_reducible assumption) | (with_reducible exact trivial) | skip
    ·exact ⟨rfl, rfl, trivial⟩
    ·exact ⟨sw_row (m := 0) rfl rfl, trivial⟩
   | false =>
    rw [Bool.false_or]
    have hb' : (decide ((l.length : Int) > m) || l.any big) = false := hb
    refine LRuns.step (code_runsP lsX lsL (runZ_ok lsX lsTt lsL mixed 9) mixed (ls_go inr n i m (llD L)) ?_) rfl (by omega) (by omega) (fun n => n) ?_ ?_ rfl (ls_loop hl hn hm r (i + 1) (by omega))
    ·simp only [Alls, rg, decide_eq_true_eq, Nat.add_zero, Nat.zero_add, Nat.mul_one, ixO_eq, Int.toNat_natCast, A.n, A.s, prsOf_cp]
     repeat' (with_reducible apply And.intro)
     all_goals first | omega | (with_reducible assumption) | (with_reducible exact trivial) | skip
    ·exact ⟨rfl, rb_slg rfl rfl, rfl, rfl, rfl, rfl, trivial⟩
    ·exact ⟨sw_row (m := 0) rfl rfl, trivial⟩
structure LsOk (ds : List DV) (n : Nat) : Prop where
 e : ds = llD (llOf ds)
 l : (llOf ds).length = n
def lsPk (live : List (Nat × Value)) (h : Hp) : Option (Nat × Int × List DV) := match live, lk h 0 with | (_, .slice _ n _) :: (_, .int _ m) :: _, some ⟨.sw ds, _⟩ => some (n, m, ds) | _, _ => none
def lsSp : LSpec := lspec lsPk (fun a => ([(0, saA a.1), (2, mhI a.2.1), (7, iV 0)], [(0, ⟨.sw a.2.2, []⟩)], 6)) (fun a tp => match tp with
 | b :: tp' => some ((bif b then .ret else .exit 0, bif b then [(6, .bool true)] else [], [(0, ⟨.sw a.2.2, []⟩)], 40, []), tp', [LsOk a.2.2 a.1 ∧ a.1 ≤ 9000000 ∧ a.2.1 ≤ 9000000 ∧ (llOf a.2.2).any (lgL a.2.1) = b])
 | [] => none)
theorem lsSp_ok : LSOk Try.prog 24 [0, 2, 7] (bodyIn Try.prog 9 4) lsSp := by
 refine lspec_ok fun a tp xt l2 h2 nx2 d tp' ob hs ho inr ts hn hg => ?_
 obtain ⟨n, m, ds⟩ := a
 simp only at hs hg
 split at hs
 case h_2 => cases hs
 rename_i b _
 simp only [oI, pI] at hs
 obtain ⟨⟨rfl, rfl, rfl, rfl, rfl⟩, rfl, rfl⟩ := hs
 obtain ⟨⟨h, h1, h2, h3⟩, _⟩ := ho
 have key := ls_loop (inr := inr) (h0 := [(0, ⟨.sw (llD (llOf ds)), []⟩)]) h.l h1 h2 n 0 (by omega)
 have e := h.e
 rw [List.drop_zero, h3] at key
 clear h h3
 generalize llOf ds = L at *
 subst e
 cases b <;>
 ·refine LRuns.enter (N := 10) (l2 := [(0, saA n), (2, mhI m), (7, iV 0)]) hn hg (by omega) (by omega) (fun n => n) ?_ ?_ rfl key ?_
  ·exact ⟨rfl, rb_slg rfl rfl, rfl, rfl, rfl, rfl, trivial⟩
  ·exact ⟨sw_row (m := 0) rfl rfl, trivial⟩
  ·exact tidy_of (by omega) (fun m hm hd => rfl) rfl
def lsLo (P : Program) : LFun := mkL 9 4 24 [0, 2, 7] (bodyIn P 9 4) lsSp
theorem lsLo_one : LOne Try.prog (lsLo Try.prog) := mkL_ok lsSp_ok
theorem ls_L (n : Nat) (a m : Int) (ds : List DV) : prjV (runZ (lsV noL) Try.prog 9 9 [saA n, mhI a, mhI m] [(0, ⟨.sw ds, []⟩)] 6 [true]) =
 Res.ok (Value.bool true, [], [decide ((↑n : Int) > a) = true]) := by kernel_rfl
theorem ls_1 (n : Nat) (a m : Int) (ds : List DV) : prjV (runZ (lsV (lsLo Try.prog)) Try.prog 9 9 [saA n, mhI a, mhI m] [(0, ⟨.sw ds, []⟩)] 6 [false, true]) =
 (let a2 := (7, Value.int IntKind.i64 (0 : Int)); let a1 := (0, Value.slice (some (Addr.mk 0 0 none)) n 18446744073709551616); Res.ok (Value.bool true, [], [decide ((↑n : Int) > a) = false, bodyIn Try.prog (9 : FuncId) 4 = bodyIn Try.prog (9 : FuncId) 4, [a1, (2, Value.int IntKind.i64 m), a2] = [a1, (2, Value.int IntKind.i64 m), a2], [(0, Rw.mk (Kd.sw ds) [])] = [(0, Rw.mk (Kd.sw ds) [])], 6 = 6, LsOk ds n ∧ n ≤ 9000000 ∧ m ≤ (9000000 : Int) ∧ List.any (llOf ds) (lgL m) = true])) := by kernel_rfl
theorem ls_0 (n : Nat) (a m : Int) (ds : List DV) : prjV (runZ (lsV (lsLo Try.prog)) Try.prog 9 9 [saA n, mhI a, mhI m] [(0, ⟨.sw ds, []⟩)] 6 [false, false]) =
 (let a2 := (7, Value.int IntKind.i64 (0 : Int)); let a1 := (0, Value.slice (some (Addr.mk 0 0 none)) n 18446744073709551616); Res.ok (Value.bool false, [], [decide ((↑n : Int) > a) = false, bodyIn Try.prog (9 : FuncId) 4 = bodyIn Try.prog (9 : FuncId) 4, [a1, (2, Value.int IntKind.i64 m), a2] = [a1, (2, Value.int IntKind.i64 m), a2], [(0, Rw.mk (Kd.sw ds) [])] = [(0, Rw.mk (Kd.sw ds) [])], 6 = 6, LsOk ds n ∧ n ≤ 9000000 ∧ m ≤ (9000000 : Int) ∧ List.any (llOf ds) (lgL m) = false])) := by kernel_rfl
def gLs : GSpecD := fun aL tp => match aL, tp with
 | [.dl ds n, .fl (.int .i64 a), .fl (.int .i64 m)], b :: tp' => some (⟨fun _ => .bool b, []⟩, tp', [LsOk ds n ∧ (decide ((n : Int) > a) || (llOf ds).any (lgL m)) = b, a ≤ 9000000, m ≤ 9000000])
 | _, _ => none
theorem ls_gok : GOkD Try.prog 9 gLs := by
 intro aL tp gr tp' ob hG ho cs hc
 unfold gLs at hG
 split at hG
 case h_2 => cases hG
 rename_i ds n a m b tp2
 simp only [oI, pI] at hG
 obtain ⟨rfl, rfl, rfl⟩ := hG
 obtain ⟨⟨h1, h2⟩, ha, hm, _⟩ := ho
 have fin : ∀ {v : Bool}, (∃ h' nx' d, Tri Try.prog 9 [saA n, mhI a, mhI m] [(0, ⟨.sw ds, []⟩)] 6 (.bool v, h', nx', d)) → v = b → ∃ v0 h0' nx0' d0 g, Tri Try.prog 9 (dvV [.dl ds n, .fl (.int .i64 a), .fl (.int .i64 m)] cs 0) (dvH [.dl ds n, .fl (.int .i64 a), .fl (.int .i64 m)] cs 0) (2 * 3) (v0, h0', nx0', d0) ∧ GrD ⟨fun _ => .bool b, []⟩ v0 h0' g := fun ⟨h', nx', d, T⟩ e => by
  subst e
  exact ⟨_, h', nx', d, fun n => n, T, GrD.flat fun σ => rfl⟩
 by_cases h : (n : Int) > a
 ·exact fin (run_val lsX lsTt lsL (ls_L n a m ds) ⟨decide_eq_true h, trivial⟩ rfl) (by rw [← h2, decide_eq_true h]; rfl)
 ·rw [decide_eq_false h, Bool.false_or] at h2
  cases hb : (llOf ds).any (lgL m) with
  | true => exact fin (run_val lsX lsTt (L_okV rfl lsLo_one) (ls_1 n a m ds) ⟨decide_eq_false h, rfl, rfl, rfl, rfl, ⟨h1, by omega, hm, hb⟩, trivial⟩ rfl) (by rw [← h2, hb])
  | false => exact fin (run_val lsX lsTt (L_okV rfl lsLo_one) (ls_0 n a m ds) ⟨decide_eq_false h, rfl, rfl, rfl, rfl, ⟨h1, by omega, hm, hb⟩, trivial⟩ rfl) (by rw [← h2, hb])
theorem wrS {z : Int} (h0 : -9223372036854775808 ≤ z) (h1 : z ≤ 9223372036854775807) : IntKind.wrap IntKind.i64 z = z := by
 rw [IntKind.wrap_i64]
 omega
theorem byts_u8 : ∀ {cs : List Value}, (∀ x ∈ cs, isU8 x) → Byts cs
 | [], _ => ⟨rfl, fun n hn => by cases hn⟩
 | x :: cs, h => by
   obtain ⟨n, rfl, h1⟩ := h x (List.mem_cons_self ..)
   have ih := byts_u8 fun y hy => h y (List.mem_cons_of_mem _ hy)
   refine ⟨?_, fun k hk => ?_⟩
   ·have := ih.1
    show _ = Value.int .u8 n :: (intsOf cs).map (Value.int .u8)
    rw [← this]
   ·rcases List.mem_cons.1 (show k ∈ n :: intsOf cs from hk) with rfl | hk
    ·exact h1
    ·exact ih.2 k hk
theorem Stp.exdel {W : World} {σ : Sg} {h : Hp} {w w' : World} (hR : Rl W σ h w) {n : Nat} {r : Rw} (hl : lk h n = some r) (hx : Ext W w') (hz : w.heap.size ≤ w'.heap.size) (hk : ∀ k, k < w.heap.size → k ∉ ex σ n → w'.heap[k]? = w.heap[k]?) (lo : Nat) : Stp W lo lo σ h w σ (delH h n) w' := by
 have hd : ∀ m s, lk (delH h n) m = some s → lk h m = some s ∧ m ≠ n := fun m s e => by
  rw [lk_delH] at e
  split at e
  ·cases e
  ·rename_i hne; exact ⟨e, Ne.symm hne⟩
 refine Stp0.up ⟨Sg.le.refl σ, fun _ _ => ⟨rfl, rfl⟩, ⟨hx, fun m s e => ?_, fun m k s t p q a b => hR.inj m k s t p q (hd _ _ a).1 (hd _ _ b).1⟩, hz, fun b hb _ hnx => hk b hb (hnx n r hl), fun m s q e hs hq => .inr ⟨m, s, q, (hd _ _ e).1, hs, hq, rfl⟩⟩ hR.shr hR.wf (hR.shr.sub fun m s e => ⟨s, (hd _ _ e).1, fun h => h⟩)
 obtain ⟨e, hne⟩ := hd m s e
 refine (hR.row m s e).keep (Sg.le.refl σ) (fun ho p hp => hk _ (hR.lt e ho hp) fun h2 => (hR.shr.2.2 n r _ hl h2).2.1 m s p e ho hp rfl) (fun k hk2 => hk _ (hR.shr.2.1 m s k e hk2).1 fun h2 => ((hR.shr.2.2 n r _ hl h2).2.2 m s e).1 hk2) fun k hk2 => hk _ (hR.shr.2.2 m s k e hk2).1 fun h2 => hne (((hR.shr.2.2 n r _ hl h2).2.2 m s e).2 hk2)

structure Xs (W w0 : World) (G : List Nat) (w : World) (L : Blocks) : Prop where
 st : St W w L
 sz : w0.heap.size ≤ w.heap.size
 fr : ∀ k, k < w0.heap.size → k ∉ G → w.heap[k]? = w0.heap[k]?
 g : ∀ p, p ∈ L → p.1 ∈ G
theorem Xs.ext {W w0 : World} {G : List Nat} {w w' : World} {L : Blocks} (h : Xs W w0 G w L) (hx : Ext w w') : Xs W w0 G w' L :=
 ⟨h.st.ext hx, Nat.le_trans h.sz hx.size, fun k h1 h2 => (Below.block hx k (Nat.lt_of_lt_of_le h1 h.sz)).trans (h.fr k h1 h2), h.g⟩
theorem over_H (cs : List Value) (len : Nat) (h1 : len ≤ cs.length) (h2 : Byts cs) (h3 : cs.length ≤ 9223372036854775807) : ∃ nx' d, Tri Try.prog 20 [.slice (some ⟨0, 0, none⟩) len cs.length] [(0, ⟨.shut, cs⟩)] 1 (.tuple #[], [], nx', d) := by
 have hX : ∀ L, XOkZ (ovV L) Try.prog := fun L => noXz_ok rfl
 have hT : ∀ L, TOkZ (ovV L) Try.prog := fun L => noTz_okV rfl
 have hL : LOkZ (ovV (ovL Try.prog)) Try.prog := L_okV rfl (mkL_ok ov_spec_ok)
 refine ⟨_, _, run_tri (hX _) (hT _) hL (over_s cs len cs.length) ?_ rfl⟩
 simp only [Alls]
 repeat' (first | with_reducible exact trivial | with_reducible apply And.intro)
 all_goals first | with_reducible assumption | omega | with_reducible rfl | (skip)
theorem over_z  : runZ (ovV noL) Try.prog 5 20 [.slice (some ⟨0, 0, none⟩) 0 0] [(0, ⟨.old, []⟩)] 1 [false] =
 Res.ok ((Value.tuple (Array.mk []), [(0, Rw.mk Kd.old [])], 1, []), [], [0 < 18446744073709551616, 0 < 18446744073709551616, (0 : Int) ≤ (0 : Int) ∧ (0 : Int) ≤ (0 : Int), false = false]) := by kernel_rfl
theorem overZ (a : Option Addr) (w : World) : Calls Try.prog 20 #[.slice a 0 0] w fun e w' => e = .returned (.tuple #[]) ∧ Ext w w' := by
 have hX : ∀ L, XOkZ (ovV L) Try.prog := fun L => noXz_ok rfl
 have hT : ∀ L, TOkZ (ovV L) Try.prog := fun L => noTz_okV rfl
 have hL0 : LOkZ (ovV noL) Try.prog := noL_okV rfl
 refine calls_av [.sc [] 0 0] (vs := [.slice a 0 0]) (ps := [emp a]) (fun cs _ => ⟨_, _, _, run_tri (hX _) (hT _) hL0 over_z (by simp [Alls]) rfl⟩) (fun σ => rfl) ⟨⟨_, rfl, .inr ⟨a, rfl, rfl, rfl, rfl, rfl⟩, fun σ => rfl, by omega, Nat.le_refl _⟩, trivial⟩ fun j ad c hj b hb => ?_
 match j, hb with
 | 0, hb => simp only [List.getElem?_cons_zero, oI] at hb; subst hb; exact .inl rfl
 | j + 1, hb => simp at hb
theorem St.drop1 {W w : World} {L1 L2 : Blocks} {p : Nat × List Value} (h : St W w (L1 ++ p :: L2)) : W.heap.size ≤ p.1 ∧ Row w p.1 p.2 ∧ ∀ q, q ∈ L1 ++ L2 → q.1 ≠ p.1 := by
 obtain ⟨_, h1, h2⟩ := h
 obtain ⟨a1, a2⟩ := h1 p (by simp)
 refine ⟨a1, a2, fun q hq e => ?_⟩
 have : ((p :: (L1 ++ L2)).map (·.1)).Nodup := ((List.perm_middle (l₁ := L1) (l₂ := L2) (a := p)).map (·.1)).nodup_iff.1 h2
 rw [List.map_cons, List.nodup_cons] at this
 exact this.1 (List.mem_map.2 ⟨q, hq, e⟩)
theorem overX {W w0 : World} {G : List Nat} {w : World} {L1 L2 : Blocks} {b len : Nat} {cs : List Value} (h : Xs W w0 G w (L1 ++ (b, cs) :: L2)) (h1 : len ≤ cs.length) (h2 : Byts cs) (h3 : cs.length ≤ 9223372036854775807) :
  Calls Try.prog 20 #[.slice (some ⟨b, 0, none⟩) len cs.length] w fun e w' => e = .returned (.tuple #[]) ∧ Xs W w0 G w' (L1 ++ L2) := by
 obtain ⟨nx', d, T⟩ := over_H cs len h1 h2 h3
 obtain ⟨hge, ⟨t, hrow⟩, hne⟩ := h.st.drop1
 have hR0 : Rl W (sgO b) [(0, ⟨.shut, cs⟩)] w := rl_one h.st.x hge (fl_byts h2 _) hrow
 have hv0 : renV (sgO b) (.slice (some ⟨0, 0, none⟩) len cs.length) = some (.slice (some ⟨b, 0, none⟩) len cs.length) := by
  have := renV_slice_mk (σ := sgO b) (n := 0) (o := 0) (l := len) (c := cs.length) (c' := cs.length) (p := (b, 0)) rfl (by unfold cpR; rw [if_pos (by unfold capBig; omega)]) (by intro e; cases e) (.inr h1)
  simpa using this
 refine (T.2 (bdB_ok rfl) W _ w _ hR0 (fun k h1 _ => ⟨if_neg (by omega), rfl⟩) (renL_mk hv0 rfl)).mono ?_
 rintro e w' ⟨σ', u, S, hu, rfl⟩
 have keep : ∀ b', b' < w.heap.size → b' ≠ b → w'.heap[b']? = w.heap[b']? := fun b' h1 h2 => S.fr b' h1 (fun k r1 p1 hk1 _ hp1 => by
  rw [lk_cons] at hk1
  split at hk1
  ·rename_i e; subst e
   simp only [sgO, if_true, oI] at hp1
   rw [← hp1]; exact Ne.symm h2
  ·simp [lk] at hk1) fun k r1 _ hx => by cases hx
 have hu2 : u = .tuple #[] := by simp only [renV, renA, renL, oI] at hu; exact hu.symm
 refine ⟨by rw [hu2], ⟨S.rl.ext, fun p hp => ?_, ?_⟩, Nat.le_trans h.sz S.size, fun k h4 h5 => ?_, fun p hp => h.g p (by
  rcases List.mem_append.1 hp with hp | hp
  ·exact List.mem_append_left _ hp
  ·exact List.mem_append_right _ (List.mem_cons_of_mem _ hp))⟩
 ·have hp2 : p ∈ L1 ++ (b, cs) :: L2 := by
   rcases List.mem_append.1 hp with hp | hp
   ·exact List.mem_append_left _ hp
   ·exact List.mem_append_right _ (List.mem_cons_of_mem _ hp)
  obtain ⟨g1, g2⟩ := h.st.2.1 p hp2
  have hlt := g2.lt
  obtain ⟨t2, g2⟩ := g2
  exact ⟨g1, t2, by rw [keep _ hlt (hne p hp)]; exact g2⟩
 ·have := ((List.perm_middle (l₁ := L1) (l₂ := L2) (a := (b, cs))).map (·.1)).nodup_iff.1 h.st.2.2
  rw [List.map_cons, List.nodup_cons] at this
  exact this.2
 ·rw [keep k (Nat.lt_of_lt_of_le h4 h.sz) (fun e => h5 (by rw [e]; exact h.g (b, cs) (by simp)))]
  exact h.fr k h4 h5
def Sl1 (u : Value) (L : Blocks) : Prop := (∃ a, u = .slice a 0 0 ∧ L = []) ∨ ∃ b len cs, u = .slice (some ⟨b, 0, none⟩) len cs.length ∧ L = [(b, cs)] ∧ len ≤ cs.length ∧ Byts cs ∧ cs.length ≤ 9223372036854775807
theorem overS {W w0 : World} {G : List Nat} {w : World} {L0 L1 L2 : Blocks} {u : Value} (hu : Sl1 u L1) (h : Xs W w0 G w (L0 ++ (L1 ++ L2))) : Calls Try.prog 20 #[u] w fun e w' => e = .returned (.tuple #[]) ∧ Xs W w0 G w' (L0 ++ L2) := by
 rcases hu with ⟨a, rfl, rfl⟩ | ⟨b, len, cs, rfl, rfl, h1, h2, h3⟩
 ·exact (overZ a w).mono fun e w' ⟨h1, h2⟩ => ⟨h1, by simpa using h.ext h2⟩
 ·exact overX (by simpa using h) h1 h2 h3
def Elts : Nat → List Value → Blocks → Prop
 | 0, _, L => L = []
 | n + 1, us, L => ∃ u v g us' L1 L2 L3, us = u :: v :: g :: us' ∧ L = L1 ++ (L2 ++ L3) ∧ Sl1 u L1 ∧ Sl1 v L2 ∧ Elts n us' L3
section
variable {P : Program} {o : Oper} {a : Act} {W w0 w : World} {G : List Nat} {K : Act → World → Prop} {Q : Exit → Act → World → Prop} {L : Blocks}
theorem x_storeN (k : Nat) (hX : Xs W w0 G w L) (t : TypeId) (n : Nat) (x y : Operand) (ho : o.op = .store t x y) (b j : Nat) (hx : a.eval x = .pointer (some ⟨b, j, none⟩)) (vs : List Value) (hy : a.eval y = .agg vs.toArray) (hn : vs.length = n) (h1 : vs.all (·.oneCell') = true)
  (cs : List Value) (hk : L[k]? = some (b, cs)) (hj : j + n ≤ cs.length) (hs : szB P t n = true) (h : ∀ w', Xs W w0 G w' (L.set k (b, splice cs j vs)) → K (a.put o.dst undef) w') : o.wp P a w K Q := by
 obtain ⟨hb, hr⟩ := hX.st.2.row hk
 have hg := hX.g _ (List.mem_of_getElem? hk)
 subst hn
 refine wp_store_mid t x y ho b j vs.toArray hx hy (fun i hi => ⟨?_, hr.free _⟩) (by simpa using szB_of hs) (by simpa using h1) ?_
 ·rw [hr.cell, List.getElem?_eq_getElem (by simp at hi; omega)]; rfl
 ·refine h _ ⟨⟨by simpa using ext_setCells vs hX.st.1 hb j, by simpa using Has.setCells vs hX.st.2 hk j⟩, ?_, fun q h1 h2 => ?_, fun p hp => ?_⟩
  ·have := hX.sz
   simpa [setCells_size] using this
  ·have : q ≠ b := fun e => h2 (by rw [e]; exact hg)
   rw [← hX.fr q h1 h2]
   exact setCells_other _ _ _ _ _ this
  ·rcases List.mem_or_eq_of_mem_set hp with hp | rfl
   ·exact hX.g p hp
   ·exact hg
end
theorem splice_drop3 {cs : List Value} {j : Nat} {x y z : Value} (hj : j + 3 ≤ cs.length) : (splice cs j [x, y, z]).drop (j + 3) = cs.drop (j + 3) := by
 simp only [splice]
 rw [List.drop_set_of_lt (by omega), List.drop_set_of_lt (by omega), List.drop_set_of_lt (by omega)]
theorem drop3_get {cs : List Value} {j : Nat} {x y z : Value} {l : List Value} (h : cs.drop j = x :: y :: z :: l) : cs[j]? = some x ∧ cs[j + 1]? = some y ∧ j + 3 ≤ cs.length ∧ cs.drop (j + 3) = l := by
 have hl : (cs.drop j).length = l.length + 3 := by rw [h]; rfl
 rw [List.length_drop] at hl
 have e0 : (cs.drop j)[0]? = some x := by rw [h]; rfl
 have e1 : (cs.drop j)[1]? = some y := by rw [h]; rfl
 rw [List.getElem?_drop] at e0 e1
 refine ⟨by simpa using e0, e1, by omega, ?_⟩
 rw [← List.drop_drop, h]
 rfl
set_option maxHeartbeats 4000000 in
theorem overP {W w0 : World} {G : List Nat} {w : World} {b n c : Nat} {cs : List Value} {L : Blocks} (hX : Xs W w0 G w ((b, cs) :: L)) (hn : n ≤ 9223372036854775807) (hE : Elts n cs L) :
  Calls Try.prog 19 #[.slice (some ⟨b, 0, none⟩) n c] w fun e w' => e = .returned (.tuple #[]) ∧ Xs W w0 G w' [] := by
 have hX := Lib.hid hX
 have hE := Lib.hid hE
 go_enter Try.func19, Try.ntmps19
 (repeat' (first | fail | go_values | go_skip | go_guarded | go_step | go_upon | go_back | dsimp only))
 go_loopw [2] (fun i wr => ∃ (k : Nat) (cs : List Value) (L : Blocks), i = .int .i64 (k : Int) ∧ k ≤ n ∧ Hid (Xs W w0 G wr ((b, cs) :: L)) ∧ Hid (Elts (n - k) (cs.drop (k * 3)) L)) (fun i _ => n - (intOf i).toNat)
 case atStart => exact ⟨0, cs, L, rfl, by omega, hX, by simpa using hE⟩
 case round =>
  clear hX hE
  obtain ⟨k, cs, L, rfl, hk, hX, hE⟩ := hrel
  by_cases hlt : k < n
  ·have hlt2 : (k : Int) < n := by omega
   obtain ⟨m, hm⟩ : ∃ m, n - k = m + 1 := ⟨n - k - 1, by omega⟩
   have hE' := hE.out
   rw [hm] at hE'
   obtain ⟨u, v, g, us', L1, L2, L3, e1, rfl, h1, h2, h3⟩ := hE'
   obtain ⟨c0, c1, c2, c3⟩ := drop3_get e1
   have HC0 := Lib.hid c0
   have HC1 := Lib.hid c1
   clear hE e1 c0 c1
   (repeat' (first | ((with_reducible refine g_load ?_); (refine s_load1 0 (hX.out).st _ _ rfl _ _ rfl _ rfl _ ((by simpa using HC0.out)) (by kernel_rfl) ?_; (try simp only [Act.put, List.setIfInBounds_toArray, List.set_cons_zero, List.set_cons_succ]))) | go_values | go_skip | go_guarded | go_step | go_upon | go_back | dsimp only))
   (go_at_call 20; refine ((overS (L0 := [(b, cs)]) h1 hX.out)).mono ?_; rintro e w1 ⟨rfl, hX1⟩; replace hX := Lib.hid hX1; clear hX1)
   (repeat' (first | ((with_reducible refine g_load ?_); (refine s_load1 0 (hX.out).st _ _ rfl _ _ rfl _ rfl _ ((by simpa using HC1.out)) (by kernel_rfl) ?_; (try simp only [Act.put, List.setIfInBounds_toArray, List.set_cons_zero, List.set_cons_succ]))) | go_values | go_skip | go_guarded | go_step | go_upon | go_back | dsimp only))
   (go_at_call 20; refine ((overS (L0 := [(b, cs)]) h2 hX.out)).mono ?_; rintro e w2 ⟨rfl, hX1⟩; replace hX := Lib.hid hX1; clear hX1)
   (repeat' (first | ((with_reducible refine g_store ?_); (refine x_storeN 0 hX.out 32 3 _ _ rfl _ _ rfl _ rfl rfl rfl _ rfl (by simpa using c2) (by kernel_rfl) ?_; clear hX; intro w_ hX1; have hX := Lib.hid hX1; clear hX1; (try simp only [Act.put, List.setIfInBounds_toArray, List.set_cons_zero, List.set_cons_succ]))) | go_values | go_skip | go_guarded | go_step | go_upon | go_back | dsimp only))
   refine ⟨⟨k + 1, splice cs (k * 3) [.slice none 0 0, .slice none 0 0, .bool false], L3, by go_num, by omega, ?_, ?_⟩, by simp [intOf]; omega⟩
   ·have := hX.out
    rw [List.cons_append, List.nil_append, List.set_cons_zero] at this
    exact this
   ·show Elts _ _ _
    rw [show (k + 1) * 3 = k * 3 + 3 by omega, splice_drop3 c2, c3, show n - (k + 1) = m by omega]
    exact h3
  ·have hkn : k = n := by omega
   have hE' := hE.out
   rw [show n - k = 0 by omega] at hE'
   have hL : L = [] := hE'
   subst hL
   have hX' := hX.out
   have HXF : Hid (Xs W w0 G wr []) := ⟨hX'.st.tail, hX'.sz, hX'.fr, fun p hp => by cases hp⟩
   clear hX hE hE' hX'
   (repeat' (first | fail | go_values | go_skip | go_guarded | go_step | go_upon | go_back | dsimp only))
   go_end0
   exact ⟨rfl, HXF.out⟩
theorem overP0 (a : Option Addr) (c : Nat) (w : World) : Calls Try.prog 19 #[.slice a 0 c] w fun e w' => e = .returned (.tuple #[]) ∧ Ext w w' := by
 have hS := St.refl w
 go_enter Try.func19, Try.ntmps19
 (repeat' (first | fail | go_values | go_skip | go_guarded | go_step | go_upon | go_back | dsimp only))
 go_loopw [2] (fun i wr => i = .int .i64 0 ∧ St w wr []) (fun i _ => 0)
 case atStart => exact ⟨rfl, hS⟩
 case round =>
  obtain ⟨rfl, hS⟩ := hrel
  (repeat' (first | fail | go_values | go_skip | go_guarded | go_step | go_upon | go_back | dsimp only))
  go_end0
  exact ⟨rfl, hS.x⟩
def PairDs : List DV → Prop
 | [] => True
 | .sl _ _ _ :: .sl _ _ _ :: _ :: ds => PairDs ds
 | _ => False
theorem cx_sl1 {V W w : World} {d : DV} {u : Value} {E F : List Nat} {len : Nat} {cap : Option Nat} {ds : List DV} (hd : d = .sl len cap ds) (hc : CX w 1 u E) (hr : DR V w F d u) : ∃ L : Blocks, Sl1 u L ∧ L.map (·.1) = E ∧ ∀ p ∈ L, Row w p.1 p.2 := by
 subst hd
 rcases hc with ⟨rfl, hc⟩ | ⟨rfl, a, rfl⟩ | ⟨b, l, c, size, t, cs, E', rfl, h1, h2, h3, h4, h5, rfl, h6⟩
 ·refine ⟨[], .inl ?_, rfl, fun p hp => by cases hp⟩
  rw [DR] at hr
  rcases hr with ⟨_, _, _, a, rfl⟩ | ⟨b, s, c, rfl, _⟩
  ·exact ⟨a, rfl, rfl⟩
  ·have := hc sg0
   simp [renV, slR, adR, sg0] at this
 ·exact ⟨[], .inl ⟨a, rfl, rfl⟩, rfl, fun p hp => by cases hp⟩
 ·obtain rfl := h5 rfl
  have hb : Byts cs ∧ E' = [] := by
   have : ∀ (us : List Value) (E : List Nat), Sep (CX w 0) us E → (∀ x ∈ us, isU8 x) ∧ E = [] := by
    intro us
    induction us with
    | nil => intro E h; exact ⟨fun x hx => (by cases hx), h⟩
    | cons x us ih =>
     intro E h
     obtain ⟨E1, E2, rfl, ⟨rfl, g1⟩, g2⟩ := h
     obtain ⟨g3, rfl⟩ := ih E2 g2
     exact ⟨fun y hy => by
      rcases List.mem_cons.1 hy with rfl | hy
      ·exact g1
      ·exact g3 y hy, rfl⟩
   obtain ⟨g1, g2⟩ := this cs E' h6
   exact ⟨byts_u8 g1, g2⟩
  obtain ⟨hb, rfl⟩ := hb
  have hlen : cs.length = c := by omega
  refine ⟨[(b, cs)], .inr ⟨b, l, cs, by rw [hlen], rfl, by omega, hb, by unfold maxLen at h2; omega⟩, rfl, fun p hp => ?_⟩
  obtain rfl := List.mem_singleton.1 hp
  exact ⟨t, h3⟩
theorem cx_elts {V w : World} {F : List Nat} : ∀ (n : Nat) {ds : List DV} {us : List Value} {E : List Nat}, ds.length = n * 3 → PairDs ds → Sep (CX w 1) us E → DRv V w F ds us → ∃ L : Blocks, Elts n us L ∧ (∀ q, q ∈ L.map (·.1) → q ∈ E) ∧ (E.Nodup → (L.map (·.1)).Nodup) ∧ ∀ p ∈ L, Row w p.1 p.2
 | 0, ds, us, E, _, _, _, _ => ⟨[], rfl, fun q hq => (by cases hq), fun _ => List.nodup_nil, fun p hp => (by cases hp)⟩
 | n + 1, ds, us, E, hl, hp, hs, hd => by
   match ds, hl, hp, hd with
   | [], hl, _, _ => simp at hl
   | .sl l1 c1 d1 :: .sl l2 c2 d2 :: x :: ds, hl, hp, hd =>
    obtain ⟨u1, us1, rfl, r1, hd⟩ := hd
    obtain ⟨u2, us2, rfl, r2, hd⟩ := hd
    obtain ⟨u3, us3, rfl, r3, hd⟩ := hd
    obtain ⟨E1, E1', rfl, s1, hs⟩ := hs
    obtain ⟨E2, E2', rfl, s2, hs⟩ := hs
    obtain ⟨E3, E3', rfl, s3, hs⟩ := hs
    obtain ⟨L1, a1, rfl, a3⟩ := cx_sl1 (W := w) rfl s1 r1
    obtain ⟨L2, b1, rfl, b3⟩ := cx_sl1 (W := w) rfl s2 r2
    have hl2 : ds.length = n * 3 := by simp only [List.length_cons] at hl; omega
    obtain ⟨L3, d1', d2', d3, d4⟩ := cx_elts n hl2 hp hs hd
    refine ⟨L1 ++ (L2 ++ L3), ⟨u1, u2, u3, us3, L1, L2, L3, rfl, rfl, a1, b1, d1'⟩, fun q hq => ?_, fun hn => ?_, fun p hp => ?_⟩
    ·simp only [List.map_append, List.mem_append] at hq ⊢
     rcases hq with hq | hq | hq
     ·exact .inl hq
     ·exact .inr (.inl hq)
     ·exact .inr (.inr (.inr (d2' q hq)))
    ·simp only [List.map_append]
     rw [List.nodup_append] at hn ⊢
     obtain ⟨n1, n2, n3⟩ := hn
     rw [List.nodup_append] at n2
     obtain ⟨n4, n5, n6⟩ := n2
     rw [List.nodup_append] at n5
     refine ⟨n1, List.nodup_append.2 ⟨n4, d3 n5.2.1, fun q hq q' hq' => n6 q hq q' (List.mem_append_right _ (d2' q' hq'))⟩, fun q hq q' hq' => n3 q hq q' ?_⟩
     rcases List.mem_append.1 hq' with hq' | hq'
     ·exact List.mem_append_left _ hq'
     ·exact List.mem_append_right _ (List.mem_append_right _ (d2' q' hq'))
    ·simp only [List.mem_append] at hp
     rcases hp with hp | hp | hp
     ·exact a3 p hp
     ·exact b3 p hp
     ·exact d4 p hp
def overT2 : TFun := fun f args h nx tp => bif Nat.beq f 20 then some (match args with
 | [.slice none l c] => bif Nat.beq l 0 && Nat.beq c 0 then .ok ((.tuple ⟨[]⟩, h, nx, []), tp, []) else .no
 | [.slice (some ⟨n, 0, none⟩) len c] => (match lk h n with
  | some ⟨.ox, _⟩ => bif Nat.beq c (capBig + n) then .ok ((.tuple ⟨[]⟩, delH h n, nx, [n]), tp, []) else .no
  | _ => .no)
 | _ => .no) else bif Nat.beq f 19 then some (match args with
 | [.slice none l _] => bif Nat.beq l 0 then .ok ((.tuple ⟨[]⟩, h, nx, []), tp, []) else .no
 | [.slice (some ⟨n, 0, none⟩) len c] => (match lk h n with
  | some ⟨.dx d sz _ ds, _⟩ => bif Nat.beq c (capBig + n) && (Nat.beq d 1 && Nat.beq sz 3) then .ok ((.tuple ⟨[]⟩, delH h n, nx, [n]), tp, [ds.length = len * 3, PairDs ds]) else .no
  | _ => .no)
 | _ => .no) else none
theorem tri_del {P : Program} {f : FuncId} {args : List Value} {h : Hp} {nx n : Nat} (H : Bd h nx → ∀ W σ w args', Rl W σ h w → Fresh σ nx nx → renL σ args = some args' → Calls P f args'.toArray w fun e w' => ∃ σ' v', Stp W nx nx σ h w σ' (delH h n) w' ∧ renV σ' (.tuple ⟨[]⟩) = some v' ∧ e = .returned v') : Tri P f args h nx (.tuple ⟨[]⟩, delH h n, nx, [n]) := by
 refine ⟨⟨Nat.le_refl _, fun m _ hd => ?_, fun hB m hm => ?_⟩, H⟩
 ·simp only [List.mem_singleton] at hd
  simp only
  rw [lk_delH, if_neg (Ne.symm hd)]
 ·simp only
  rw [lk_delH]
  split
  ·rfl
  ·exact hB m hm
theorem over2_one : TOneZ Try.prog overT2 := by
 intro f args h nx tp out tp' ob e ho
 unfold overT2 at e
 rcases bif_or e with ⟨hf, e1⟩ | ⟨_, e1⟩
 ·clear e
  obtain rfl := Nat.eq_of_beq_eq_true hf
  have e := Option.some.inj e1
  clear e1
  split at e
  ·obtain ⟨hb, e⟩ := bif_ok e
   simp only [Bool.and_eq_true] at hb
   simp only [Res.ok.injEq, pI] at e
   obtain ⟨rfl, rfl, rfl⟩ := e
   obtain rfl := Nat.eq_of_beq_eq_true hb.1
   obtain rfl := Nat.eq_of_beq_eq_true hb.2
   refine tri_quiet (fun σ args' ha => ?_) (fun σ => rfl) fun w => overZ none w
   simp only [renL, renV, oI] at ha; exact ha.symm
  ·rename_i n len c
   split at e
   case h_2 => cases e
   rename_i cs hl
   obtain ⟨hb, e⟩ := bif_ok e
   simp only [Res.ok.injEq, pI] at e
   obtain ⟨rfl, rfl, rfl⟩ := e
   obtain rfl := Nat.eq_of_beq_eq_true hb
   refine tri_del fun hB W σ w args' hR hf ha => ?_
   obtain ⟨v', vs', hv, hn, rfl⟩ := renL_cons ha
   simp only [renL, oI] at hn
   subst hn
   obtain ⟨b, s, vs, hpb, hvs, hkd⟩ := hR.row _ _ hl
   rcases renV_slice hv with ⟨p, c', hp, hc, rfl, hnn⟩ | ⟨hnn, rfl, _, rfl⟩
   ·rw [hpb] at hp
    cases hp
    have hlen := renV_len hR.wf hv
    rcases hkd with ⟨h1, _⟩ | ⟨rfl, k1, k2, t, rest, c2, k3, k4, k5, k6, k7⟩
    ·exact absurd h1 hnn
    rw [cpR_big, k3] at hc
    cases hc
    have hX : Xs W w [b] w ([] ++ (b, vs ++ rest) :: []) := ⟨⟨hR.ext, fun p hp => by
     obtain rfl := List.mem_singleton.1 hp
     exact ⟨k1, t, k4⟩, by simp⟩, Nat.le_refl _, fun _ _ _ => rfl, fun p hp => by
     obtain rfl := List.mem_singleton.1 hp
     exact List.mem_singleton.2 rfl⟩
    have := overX hX (len := len) (by omega) (byts_u8 k7) (by unfold maxLen at k6; omega)
    rw [k5] at this
    refine this.mono ?_
    rintro e w' ⟨rfl, hX'⟩
    exact ⟨σ, _, Stp.exdel hR hl hX'.st.x hX'.sz (fun k h1 h2 => hX'.fr k h1 (by rw [← k2]; exact h2)) nx, rfl, rfl⟩
   ·refine (overZ _ w).mono ?_
    rintro e w' ⟨rfl, hx⟩
    exact ⟨σ, _, Stp.exdel hR hl (hR.ext.trans hx) hx.size (fun k h1 _ => Below.block hx k h1) nx, rfl, rfl⟩
  ·cases e
 ·rcases bif_or e1 with ⟨hf, e2⟩ | ⟨_, e2⟩
  case inr => cases e2
  clear e e1
  obtain rfl := Nat.eq_of_beq_eq_true hf
  have e := Option.some.inj e2
  clear e2
  split at e
  ·obtain ⟨hb, e⟩ := bif_ok e
   simp only [Res.ok.injEq, pI] at e
   obtain ⟨rfl, rfl, rfl⟩ := e
   obtain rfl := Nat.eq_of_beq_eq_true hb
   refine tri_quiet (fun σ args' ha => ?_) (fun σ => rfl) fun w => overP0 none _ w
   simp only [renL, renV, oI] at ha; exact ha.symm
  ·rename_i n len c
   split at e
   case h_2 => cases e
   rename_i d sz z ds cs hl
   obtain ⟨hb, e⟩ := bif_ok e
   simp only [Bool.and_eq_true] at hb
   simp only [Res.ok.injEq, pI] at e
   obtain ⟨rfl, rfl, rfl⟩ := e
   obtain ⟨o1, o2, _⟩ := ho
   obtain rfl := Nat.eq_of_beq_eq_true hb.1
   obtain rfl := Nat.eq_of_beq_eq_true hb.2.1
   obtain rfl := Nat.eq_of_beq_eq_true hb.2.2
   refine tri_del fun hB W σ w args' hR hf ha => ?_
   obtain ⟨v', vs', hv, hn, rfl⟩ := renL_cons ha
   simp only [renL, oI] at hn
   subst hn
   obtain ⟨b, s, vs, hpb, hvs, rfl, k1, k2, k2n, us, t, rest, c2, E, k3, k4, k5, k6, k7, k8, k9, k10⟩ := hR.row _ _ hl
   rcases renV_slice hv with ⟨p, c', hp, hc, rfl, hnn⟩ | ⟨hnn, rfl, _, rfl⟩
   case inr => exfalso; unfold ex at k8; rw [hnn] at k8; cases k8
   rw [hpb] at hp
   cases hp
   have hlen := renV_len hR.wf hv
   rw [cpR_big, k3] at hc
   cases hc
   obtain ⟨L, l1, l2, l3, l4⟩ := cx_elts len o1 o2 k9 (k10 W)
   rw [k8] at k2n
   have hnd := List.nodup_cons.1 k2n
   have hE2 : Elts len (us ++ rest) L := by
    have : ∀ (n : Nat) (us : List Value) (L : Blocks), Elts n us L → Elts n (us ++ rest) L := by
     intro n
     induction n with
     | zero => intro us L h; exact h
     | succ n ih =>
      intro us L h
      obtain ⟨u, v, g, us', L1, L2, L3, rfl, rfl, a1, a2, a3⟩ := h
      exact ⟨u, v, g, us' ++ rest, L1, L2, L3, rfl, rfl, a1, a2, ih _ _ a3⟩
    exact this _ _ _ l1
   have hX : Xs W w (ex σ n) w ((b, us ++ rest) :: L) := by
    refine ⟨⟨hR.ext, fun p hp => ?_, ?_⟩, Nat.le_refl _, fun _ _ _ => rfl, fun p hp => ?_⟩
    ·rcases List.mem_cons.1 hp with rfl | hp
     ·exact ⟨k2 b (by rw [k8]; exact List.mem_cons_self ..), t, k4⟩
     ·exact ⟨k2 p.1 (by rw [k8]; exact List.mem_cons_of_mem _ (l2 _ (List.mem_map.2 ⟨p, hp, rfl⟩))), l4 p hp⟩
    ·rw [List.map_cons]
     exact List.nodup_cons.2 ⟨fun hm => hnd.1 (l2 _ hm), l3 hnd.2⟩
    ·rw [k8]
     rcases List.mem_cons.1 hp with rfl | hp
     ·exact List.mem_cons_self ..
     ·exact List.mem_cons_of_mem _ (l2 _ (List.mem_map.2 ⟨p, hp, rfl⟩))
   refine (overP hX (by unfold maxLen at k6; omega) hE2).mono ?_
   rintro e w' ⟨rfl, hX'⟩
   exact ⟨σ, _, Stp.exdel hR hl hX'.st.x hX'.sz (fun k h1 h2 => hX'.fr k h1 h2) nx, rfl, rfl⟩
  ·cases e
end Go.Proofs.Ytmoflcoijmmpjaa
