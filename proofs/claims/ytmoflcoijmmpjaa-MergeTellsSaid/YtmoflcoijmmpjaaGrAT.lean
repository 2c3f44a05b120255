/-
  Chapter 14: contracts: heap.down (in place), memtable.Sorted.
-/
import Derived.Test.YtmoflcoijmmpjaaGrAS
namespace Go.Proofs.Ytmoflcoijmmpjaa
set_option linter.unusedSimpArgs false
set_option linter.unusedVariables false
set_option linter.unusedSectionVars false
open Go Go.RowKit
def hdOf : List DV → List Hd
 | .sl _ _ es :: .fl (.int _ a) :: r => (prsOf es, a.toNat) :: hdOf r
 | _ => []
theorem hdOf_hd : ∀ H : List Hd, hdOf (hdD H) = H
 | [] => rfl
 | x :: H => by
   rw [hdD_cons]
   simp only [hdOf, prsOf_cp, hdOf_hd H]
   rfl
structure DnOk (ds : List DV) (n : Nat) (i : Nat) : Prop where
 e : ds = hdD (hdOf ds)
 l : n ≤ (hdOf ds).length
 n9 : n ≤ 100
 i9 : i ≤ 200
 O : ∀ j, j < n → HdOk (gH (hdOf ds) j)
def dnPk (live : List (Nat × Value)) (h : Hp) : Option (Nat × Nat × List DV) := match live, lk h 0 with | (_, .slice _ n _) :: (_, .int _ i) :: _, some ⟨.dw _ _ ds, _⟩ => some (n, i.toNat, ds) | _, _ => none
def dnSp : LSpec := lspec dnPk (fun a => ([(0, haA a.1), (1, iV a.2.1)], [(0, ⟨.dw 2 zHd a.2.2, []⟩)], 1)) (fun a tp => some ((.ret, [], [(0, ⟨.dw 2 zHd (hdD (dnH a.1 (hdOf a.2.2) a.1 a.2.1)), []⟩)], 40, [0]), tp, [DnOk a.2.2 a.1 a.2.1]))
def dnLo (P : Program) : LFun := mkL 32 0 51 [0, 1] (bodyIn P 32 0) dnSp
theorem dnSp_ok : LSOk Try.prog 51 [0, 1] (bodyIn Try.prog 32 0) dnSp := by
 refine lspec_ok fun a tp xt l2 h2 nx2 d tp' ob hs ho inr ts hn hg => ?_
 obtain ⟨n, i, ds⟩ := a
 simp only at hs hg
 simp only [oI, pI] at hs
 obtain ⟨⟨rfl, rfl, rfl, rfl, rfl⟩, rfl, rfl⟩ := hs
 obtain ⟨h, _⟩ := ho
 have key := dn_loop (inr := inr) (h0 := [(0, ⟨.dw 2 zHd (hdD (hdOf ds)), []⟩)]) h.n9 n (hdOf ds) i h.l (by omega) h.i9 h.O
 have e := h.e
 simp only at hg ⊢
 generalize hdOf ds = H at *
 subst e
 refine LRuns.enter (N := 1) (l2 := [(0, haA n), (1, iV i)]) (h2 := [(0, ⟨.dw 2 zHd (hdD H), []⟩)]) hn hg (by omega) (by omega) (fun n => n) ?_ ?_ rfl key ?_
 ·exact ⟨rfl, rb_slg rfl rfl, rfl, rfl, trivial⟩
 ·exact ⟨dw_row (m := 0) rfl rfl, trivial⟩
 ·refine tidy_of (by omega) (fun m hm hd => ?_) rfl
  have : m = 0 := by omega
  exact absurd (by simp [this]) hd
theorem dnLo_one : LOne Try.prog (dnLo Try.prog) := mkL_ok dnSp_ok
theorem dwr (n i : Nat) (ds : List DV) : runZ (mdwV (dnLo Try.prog) noTz) Try.prog 12 32 [haA n, iV i] [(0, ⟨.dw 2 zHd ds, []⟩)] 1 [] =
 (let a3 := (1, Value.int IntKind.i64 (↑i : Int)); let a2 := (0, Value.slice (some (Addr.mk 0 0 none)) n 18446744073709551616); let a1 := (0, Rw.mk (Kd.dw 2 [Value.slice none 0 0, Value.int IntKind.i64 (0 : Int)] ds) []); Res.ok ((Value.tuple (Array.mk []), [(0, Rw.mk (Kd.dw 2 [Value.slice none 0 0, Value.int IntKind.i64 (0 : Int)] (hdD (dnH n (hdOf ds) n i))) [])], 40, [0]), [], [bodyIn Try.prog (32 : FuncId) 0 = bodyIn Try.prog (32 : FuncId) 0, [a2, a3] = [a2, a3], [a1] = [a1], 1 = 1, DnOk ds n i])) := by kernel_rfl
def gDn : WSpec := fun n ds vs0 => match vs0 with
 | [.int .i64 i] => some (hdD (dnH n (hdOf ds) n i.toNat), [0 ≤ i ∧ DnOk ds n i.toNat])
 | _ => none
theorem dn_wok : WOk Try.prog 32 2 zHd gDn := by
 intro n ds vs0 ds' ob hG ho
 unfold gDn at hG
 split at hG
 case h_2 => cases hG
 rename_i i
 simp only [oI, pI] at hG
 obtain ⟨rfl, rfl⟩ := hG
 obtain ⟨⟨h0, h⟩, _⟩ := ho
 obtain ⟨k, rfl⟩ : ∃ k : Nat, i = (k : Int) := ⟨i.toNat, by omega⟩
 simp only [Int.toNat_natCast] at h ⊢
 refine ⟨fun σ => rfl, _, _, _, (runZ_ok dwX dwT (L_okV rfl dnLo_one) mixed 12).fn _ _ _ _ _ _ _ _ (dwr n k ds) ⟨rfl, rfl, rfl, rfl, h, trivial⟩ (by decide), rfl⟩
def soTab : FuncId → List Nat := fun f => bif Nat.beq f 30 then [7, 22] else []
def soSy : FuncId → Nat → Option Nat := lsSy 30 [(7, 0), (9, 0), (12, 0), (13, 0), (15, 32), (18, 0), (20, 32), (22, 0)]
def soV (L : LFun) (T : TFun) : Tv := ⟨T, cmpY, L, soTab, soSy, fun _ => [], fun _ => 0⟩
theorem sx_go (inr : Bool) (n i : Nat) (ds : List DV) : prjP [0, 3] 10 (codeZ (soV noL noTz) Try.prog (runZ (soV noL noTz) Try.prog 9) 30 inr 100000 (bodyIn Try.prog 30 2) (SL 23 [(0, saA n), (3, iV i)]) [(0, ⟨.sw ds, []⟩)] 10 [true, false]) =
 (let a2 := (↑i : Int); let a1 := (Int.toNat (a2 - (1 : Int)) * 3 + 0 + 0); Res.ok ((Xt.normal, 23, [(0, Value.slice (some (Addr.mk 0 0 none)) n 18446744073709551616), (3, Value.int IntKind.i64 (↑(i + 1) : Int))], [(0, Rw.mk (Kd.sw ds) [])], 12, [], []), [], [decide (a2 < (↑n : Int)) = true, rg IntKind.i64 (a2 - (1 : Int)), (0 : Int) ≤ a2 - (1 : Int) ∧ a2 - (1 : Int) < (↑n : Int), ShOb Try.prog 23 false true ds (Int.toNat (a2 - (1 : Int)) * 3 + 0) 10, (0 : Int) ≤ a2 ∧ a2 < (↑n : Int), ShOb Try.prog 23 false true ds (i * 3 + 0) 11, BytI (dLen ds a1) (dVals ds a1), BytI (dLen ds (i * 3 + 0 + 0)) (dVals ds (i * 3 + 0 + 0)), decide (cmpI (intsOf (dVals ds a1)) (intsOf (dVals ds (i * 3 + 0 + 0))) ≥ (0 : Int)) = false, rg IntKind.i64 (↑(i + 1) : Int)])) := by kernel_rfl
theorem sx_no (inr : Bool) (n i : Nat) (ds : List DV) : prjP [2] 10 (codeZ (soV noL noTz) Try.prog (runZ (soV noL noTz) Try.prog 9) 30 inr 100000 (bodyIn Try.prog 30 2) (SL 23 [(0, saA n), (3, iV i)]) [(0, ⟨.sw ds, []⟩)] 10 [true, true]) =
 (let a2 := (↑i : Int); let a1 := (Int.toNat (a2 - (1 : Int)) * 3 + 0 + 0); Res.ok ((Xt.ret, 23, [(2, Value.bool false)], [(0, Rw.mk (Kd.sw ds) [])], 12, [], []), [], [decide (a2 < (↑n : Int)) = true, rg IntKind.i64 (a2 - (1 : Int)), (0 : Int) ≤ a2 - (1 : Int) ∧ a2 - (1 : Int) < (↑n : Int), ShOb Try.prog 23 false true ds (Int.toNat (a2 - (1 : Int)) * 3 + 0) 10, (0 : Int) ≤ a2 ∧ a2 < (↑n : Int), ShOb Try.prog 23 false true ds (i * 3 + 0) 11, BytI (dLen ds a1) (dVals ds a1), BytI (dLen ds (i * 3 + 0 + 0)) (dVals ds (i * 3 + 0 + 0)), decide (cmpI (intsOf (dVals ds a1)) (intsOf (dVals ds (i * 3 + 0 + 0))) ≥ (0 : Int)) = true])) := by kernel_rfl
theorem sx_end (inr : Bool) (n i : Nat) (ds : List DV) : prjP [] 10 (codeZ (soV noL noTz) Try.prog (runZ (soV noL noTz) Try.prog 9) 30 inr 100000 (bodyIn Try.prog 30 2) (SL 23 [(0, saA n), (3, iV i)]) [(0, ⟨.sw ds, []⟩)] 10 [false]) =
 Res.ok ((Xt.exit 0, 23, [], [(0, Rw.mk (Kd.sw ds) [])], 10, [], []), [], [decide ((↑i : Int) < (↑n : Int)) = false]) := by kernel_rfl
theorem soX {L : LFun} {T : TFun} : XOkZ (soV L T) Try.prog := XOneZ.ok cmpY_ok rfl
theorem soT {L : LFun} : TOkZ (soV L noTz) Try.prog := noTz_okV rfl
theorem soL {T : TFun} : LOkZ (soV noL T) Try.prog := noL_okV rfl
theorem so_loop {inr : Bool} {h0 : Hp} {ds : List DV} {ps : List Pr} {n : Nat} (hP : Prs ds ps) (hO : ∀ p ∈ ps, PrOk p) (hn : ps.length = n) (hn9 : n ≤ 9000000) : ∀ (r j : Nat), n ≤ j + 1 + r → j ≤ n →
  LRuns inr Try.prog (bodyIn Try.prog 30 2) 2 40 h0 23 [(0, saA n), (3, iV (j + 1))] [(0, ⟨.sw ds, []⟩)] 10 (bif asc (ps.drop j) then (.exit 0, [], [(0, ⟨.sw ds, []⟩)]) else (.ret, [(2, .bool false)], [(0, ⟨.sw ds, []⟩)]))
 | r, j, hr, hj => by
   by_cases he : j + 1 < n
   case neg =>
    have e : asc (ps.drop j) = true := by
     cases hd : ps.drop j with
     | nil => rfl
     | cons p l =>
      have := congrArg List.length hd
      rw [List.length_drop, List.length_cons] at this
      have : l = [] := List.eq_nil_of_length_eq_zero (by omega)
      rw [this]
      rfl
    rw [e]
    refine LRuns.exit (code_runsP soX soL (runZ_ok soX soT soL mixed 9) mixed (sx_end inr n (j + 1) ds) ?_) (by intro e; cases e) rfl (by omega) (by omega) (fun n => n) ?_ ?_ rfl
    ·simp only [Alls, decide_eq_false_iff_not]
     exact ⟨by omega, trivial⟩
    ·trivial
    ·exact ⟨sw_row rfl rfl, trivial⟩
   have hi : j < ps.length := by omega
   have hi2 : j + 1 < ps.length := by omega
   have F := hP.facts (List.getElem?_eq_getElem hi)
   have G := hP.facts (List.getElem?_eq_getElem hi2)
   obtain ⟨p, hp⟩ : ∃ p, ps[j] = p := ⟨_, rfl⟩
   obtain ⟨q, hq⟩ : ∃ q, ps[j + 1] = q := ⟨_, rfl⟩
   rw [hp] at F
   rw [hq] at G
   have bp := (hO p (by rw [← hp]; exact List.getElem_mem hi)).1
   have bq := (hO q (by rw [← hq]; exact List.getElem_mem hi2)).1
   have hd : ps.drop j = p :: q :: ps.drop (j + 1 + 1) := by rw [List.drop_eq_getElem_cons hi, List.drop_eq_getElem_cons hi2, hp, hq]
   have hd2 : ps.drop (j + 1) = q :: ps.drop (j + 1 + 1) := by rw [List.drop_eq_getElem_cons hi2, hq]
   have ea : asc (ps.drop j) = (!decide (cmpI p.1 q.1 ≥ 0) && asc (ps.drop (j + 1))) := by rw [hd, hd2]; rfl
   have en : Int.toNat (((j + 1 : Nat) : Int) - 1) = j := by omega
   have f0 := F.l0
   have v0 := F.v0
   have f0' := G.l0
   have v0' := G.v0
   have o1 := F.o27 10
   have o2 := G.o27 11
   have y1 := byV_bytI bp
   have y2 := byV_bytI bq
   have i0 := byV_ints p.1
   have i1 := byV_ints q.1
   obtain ⟨r, rfl⟩ : ∃ g, r = g + 1 := ⟨r - 1, by omega⟩
   rw [ea]
   by_cases hk : cmpI p.1 q.1 ≥ 0
   ·rw [decide_eq_true hk]
    refine LRuns.exit (code_runsP soX soL (runZ_ok soX soT soL mixed 9) mixed (sx_no inr n (j + 1) ds) ?_) (by intro e; cases e) rfl (by omega) (by omega) (fun n => n) ?_ ?_ rfl
    ·simp only [Alls, rg, decide_eq_true_eq, decide_eq_false_iff_not, Nat.add_zero, en, f0, v0, f0', v0', i0, i1]
     repeat' (with_reducible apply And.intro)
     all_goals first | omega | (with_reducible assumption) | (with_reducible exact trivial) | exact rfl | skip
    ·exact ⟨rfl, rfl, trivial⟩
    ·exact ⟨sw_row rfl rfl, trivial⟩
   ·rw [decide_eq_false hk]
    refine LRuns.step (code_runsP soX soL (runZ_ok soX soT soL mixed 9) mixed (sx_go inr n (j + 1) ds) ?_) rfl (by omega) (by omega) (fun n => n) ?_ ?_ rfl (so_loop hP hO hn hn9 r (j + 1) (by omega) (by omega))
    ·simp only [Alls, rg, decide_eq_true_eq, decide_eq_false_iff_not, Nat.add_zero, en, f0, v0, f0', v0', i0, i1]
     repeat' (with_reducible apply And.intro)
     all_goals first | omega | (with_reducible assumption) | (with_reducible exact trivial) | exact rfl | skip
    ·exact ⟨rfl, rb_slg rfl rfl, rfl, rfl, trivial⟩
    ·exact ⟨sw_row rfl rfl, trivial⟩
structure SoOk (ds : List DV) (n : Nat) (b : Bool) : Prop where
 P : Prs ds (prsOf ds)
 O : ∀ p ∈ prsOf ds, PrOk p
 l : (prsOf ds).length = n
 m : n ≤ 9000000
 a : asc (prsOf ds) = b
def soPk (live : List (Nat × Value)) (h : Hp) : Option (Nat × List DV) := match live, lk h 0 with | (_, .slice _ n _) :: _, some ⟨.sw ds, _⟩ => some (n, ds) | _, _ => none
def soSp : LSpec := lspec soPk (fun a => ([(0, saA a.1), (3, iV 1)], [(0, ⟨.sw a.2, []⟩)], 2)) (fun a tp => match tp with
 | b :: tp' => some ((bif b then .exit 0 else .ret, bif b then [] else [(2, .bool false)], [(0, ⟨.sw a.2, []⟩)], 40, []), tp', [SoOk a.2 a.1 b])
 | [] => none)
def soLo (P : Program) : LFun := mkL 30 2 23 [0, 3] (bodyIn P 30 2) soSp
theorem soSp_ok : LSOk Try.prog 23 [0, 3] (bodyIn Try.prog 30 2) soSp := by
 refine lspec_ok fun a tp xt l2 h2 nx2 d tp' ob hs ho inr ts hn hg => ?_
 obtain ⟨n, ds⟩ := a
 simp only at hs hg
 split at hs
 case h_2 => cases hs
 rename_i b _
 simp only [oI, pI] at hs
 obtain ⟨⟨rfl, rfl, rfl, rfl, rfl⟩, rfl, rfl⟩ := hs
 obtain ⟨h, _⟩ := ho
 have key := so_loop (inr := inr) (h0 := [(0, ⟨.sw ds, []⟩)]) h.P h.O h.l h.m n 0 (by omega) (by omega)
 rw [List.drop_zero, h.a] at key
 cases b <;>
 ·refine LRuns.enter (N := 10) (l2 := [(0, saA n), (3, iV 1)]) hn hg (by omega) (by omega) (fun n => n) ?_ ?_ rfl key ?_
  ·exact ⟨rfl, rb_slg rfl rfl, rfl, rfl, trivial⟩
  ·exact ⟨sw_row rfl rfl, trivial⟩
  ·exact tidy_of (by omega) (fun m hm hd => rfl) rfl
theorem soLo_one : LOne Try.prog (soLo Try.prog) := mkL_ok soSp_ok
theorem sx_t (n : Nat) (ds : List DV) : prjV (runZ (soV (soLo Try.prog) noTz) Try.prog 9 30 [saA n] [(0, ⟨.sw ds, []⟩)] 2 [true]) =
 (let a2 := (3, Value.int IntKind.i64 (1 : Int)); let a1 := (0, Value.slice (some (Addr.mk 0 0 none)) n 18446744073709551616); Res.ok (Value.bool true, [], [bodyIn Try.prog (30 : FuncId) 2 = bodyIn Try.prog (30 : FuncId) 2, [a1, a2] = [a1, a2], [(0, Rw.mk (Kd.sw ds) [])] = [(0, Rw.mk (Kd.sw ds) [])], 2 = 2, SoOk ds n true])) := by kernel_rfl
theorem sx_f (n : Nat) (ds : List DV) : prjV (runZ (soV (soLo Try.prog) noTz) Try.prog 9 30 [saA n] [(0, ⟨.sw ds, []⟩)] 2 [false]) =
 (let a2 := (3, Value.int IntKind.i64 (1 : Int)); let a1 := (0, Value.slice (some (Addr.mk 0 0 none)) n 18446744073709551616); Res.ok (Value.bool false, [], [bodyIn Try.prog (30 : FuncId) 2 = bodyIn Try.prog (30 : FuncId) 2, [a1, a2] = [a1, a2], [(0, Rw.mk (Kd.sw ds) [])] = [(0, Rw.mk (Kd.sw ds) [])], 2 = 2, SoOk ds n false])) := by kernel_rfl
def gSo : GSpecD := fun aL tp => match aL, tp with
 | [.dl ds n], b :: tp' => some (⟨fun _ => .bool b, []⟩, tp', [SoOk ds n b])
 | _, _ => none
theorem so_gok : GOkD Try.prog 30 gSo := by
 intro aL tp gr tp' ob hG ho cs hc
 unfold gSo at hG
 split at hG
 case h_2 => cases hG
 rename_i ds n b tp2
 simp only [oI, pI] at hG
 obtain ⟨rfl, rfl, rfl⟩ := hG
 have h := ho.1
 cases b with
 | true =>
  obtain ⟨h', nx', d, T⟩ := run_val soX soT (L_okV rfl soLo_one) (sx_t n ds) ⟨rfl, rfl, rfl, rfl, h, trivial⟩ rfl
  exact ⟨_, h', nx', d, fun n => n, T, GrD.flat fun σ => rfl⟩
 | false =>
  obtain ⟨h', nx', d, T⟩ := run_val soX soT (L_okV rfl soLo_one) (sx_f n ds) ⟨rfl, rfl, rfl, rfl, h, trivial⟩ rfl
  exact ⟨_, h', nx', d, fun n => n, T, GrD.flat fun σ => rfl⟩
end Go.Proofs.Ytmoflcoijmmpjaa
