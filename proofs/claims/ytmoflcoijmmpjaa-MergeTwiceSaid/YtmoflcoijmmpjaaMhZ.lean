/-
  Chapter 14: merge.Merge: its loops' specifications, its runs, its contract.
-/
import Derived.Test.YtmoflcoijmmpjaaMhF
import Derived.Test.YtmoflcoijmmpjaaMgX
import Derived.Test.YtmoflcoijmmpjaaMergeKnownV
namespace Go.Proofs.Ytmoflcoijmmpjaa
set_option linter.unusedSimpArgs false
set_option linter.unusedVariables false
set_option linter.unusedSectionVars false
open Go Go.RowKit
structure MgA (ds : List DV) (n : Nat) : Prop where
  L : LL (llOf ds) n
  e : ds = llD (llOf ds)
def mg1Pk (live : List (Nat × Value)) (h : Hp) : Option (Nat × Bool × List DV) := match live, lk h 0 with | (_, .slice _ n _) :: (_, .bool dr) :: _, some ⟨.sw ds, _⟩ => some (n, dr, ds) | _, _ => none
def mg1Sp : LSpec := lspec mg1Pk (fun a => ([(0, llA a.1), (1, .bool a.2.1), (6, mhI 0), (17, llA a.1), (18, iV a.1), (19, iV 0)], [(0, ⟨.sw a.2.2, []⟩)], 4)) (fun a tp => some ((.exit 0, [(0, llA a.1), (1, .bool a.2.1), (6, mhI (sumL (llOf a.2.2) : Nat))], [(0, ⟨.sw a.2.2, []⟩)], 20, []), tp, [MgA a.2.2 a.1]))
theorem mg1_ok : LSOk Try.prog 128 [0, 1, 6, 17, 18, 19] (bodyIn Try.prog 12 3) mg1Sp := by
  refine lspec_ok fun a tp xt l2 h2 nx2 d tp' ob hs ho inr ts hn hg => ?_
  obtain ⟨n, dr, ds⟩ := a
  simp only at hs hg
  simp only [Option.some.injEq, Prod.mk.injEq] at hs
  obtain ⟨⟨rfl, rfl, rfl, rfl, rfl⟩, rfl, rfl⟩ := hs
  obtain ⟨h, _⟩ := ho
  have key := mh_sum (inr := inr) (h0 := [(0, ⟨.sw (llD (llOf ds)), []⟩)]) (dr := dr) h.L n 0 (by omega)
  have e := h.e
  generalize llOf ds = L at *
  subst e
  rw [List.take_zero] at key
  refine LRuns.enter (N := 10) (l2 := [(0, llA n), (1, .bool dr), (6, mhI 0), (17, llA n), (18, iV n), (19, iV 0)]) hn hg (by omega) (by omega) (fun n => n) ?_ ?_ rfl key ?_
  · exact ⟨rfl, rb_slg rfl rfl, rfl, rfl, rfl, rfl, rfl, rb_slg rfl rfl, rfl, rfl, rfl, rfl, trivial⟩
  · exact ⟨sw_row (m := 0) rfl rfl, trivial⟩
  · exact tidy_of (by omega) (fun m hm hd => rfl) rfl
def mg2Sp : LSpec := lspec mg1Pk (fun a => ([(0, llA a.1), (1, .bool a.2.1), (9, nlV), (35, llA a.1), (36, iV a.1), (37, iV 0)], [(0, ⟨.sw a.2.2, []⟩)], 20)) (fun a tp => match tp with
  | false :: tp' => some ((.ret, [(4, nlV), (5, mhI 2)], [(0, ⟨.sw a.2.2, []⟩)], 100, []), tp', [MgA a.2.2 a.1, allA (llOf a.2.2) = false])
  | true :: true :: tp' => some ((.exit 2, [(1, .bool a.2.1), (9, nlV)], [(0, ⟨.sw a.2.2, []⟩)], 100, []), tp', [MgA a.2.2 a.1, allA (llOf a.2.2) = true, hdsF 0 (llOf a.2.2) = []])
  | true :: false :: tp' => some ((.exit 2, [(1, .bool a.2.1), (9, heA (hdsF 0 (llOf a.2.2)).length)], [(60, ⟨.dw 2 zHd (hdD (hdsF 0 (llOf a.2.2))), []⟩), (0, ⟨.sw a.2.2, []⟩)], 100, []), tp', [MgA a.2.2 a.1, allA (llOf a.2.2) = true, hdsF 0 (llOf a.2.2) ≠ []])
  | _ => none)
theorem mg2_ok : LSOk Try.prog 128 [0, 1, 9, 35, 36, 37] (bodyIn Try.prog 12 11) mg2Sp := by
  refine lspec_ok fun a tp xt l2 h2 nx2 d tp' ob hs ho inr ts hn hg => ?_
  obtain ⟨n, dr, ds⟩ := a
  simp only at hs hg
  have fin : MgA ds n → (∀ key, key = (bif allA (llOf ds) then (Xt.exit 2, [(1, Value.bool dr), (9, heV (hdsF 0 (llOf ds)))], heH (hdsF 0 (llOf ds)) ds) else (Xt.ret, [(4, nlV), (5, mhI 2)], ([(0, ⟨.sw ds, []⟩)] : Hp))) → Tidy [(0, ⟨.sw ds, []⟩)] 20 key.2.2 100 [] → Runs inr (fun F m Q => Code.againIn F m Try.prog (bodyIn Try.prog 12 11) Q) ts [(0, ⟨.sw ds, []⟩)] 20 (key.1, SL 128 key.2.1, key.2.2, 100, [], [])) := fun h key hk hT => by
    have q := mh_hds (inr := inr) (h0 := [(0, ⟨.sw (llD (llOf ds)), []⟩)]) (dr := dr) h.L n 0 [] (by omega) rfl
    have e := h.e
    rw [List.drop_zero] at q
    rw [← e] at q
    subst hk
    refine LRuns.enter (N := 61) (l2 := [(0, llA n), (1, .bool dr), (9, nlV), (35, llA n), (36, iV n), (37, iV 0)]) hn hg (by omega) (by omega) (fun n => n) ?_ ?_ rfl q hT
    · exact ⟨rfl, rb_slg rfl rfl, rfl, rfl, rfl, rfl, rfl, rb_slg rfl rfl, rfl, rfl, rfl, rfl, trivial⟩
    · exact ⟨sw_row (m := 0) rfl rfl, trivial⟩
  split at hs
  · simp only [Option.some.injEq, Prod.mk.injEq] at hs
    obtain ⟨⟨rfl, rfl, rfl, rfl, rfl⟩, rfl, rfl⟩ := hs
    obtain ⟨h, h1, _⟩ := ho
    exact fin h (Xt.ret, [(4, nlV), (5, mhI 2)], [(0, ⟨.sw ds, []⟩)]) (by rw [h1]; rfl) (tidy_of (by omega) (fun m hm hd => rfl) rfl)
  · simp only [Option.some.injEq, Prod.mk.injEq] at hs
    obtain ⟨⟨rfl, rfl, rfl, rfl, rfl⟩, rfl, rfl⟩ := hs
    obtain ⟨h, h1, h2, _⟩ := ho
    exact fin h (Xt.exit 2, [(1, .bool dr), (9, nlV)], [(0, ⟨.sw ds, []⟩)]) (by rw [h1, h2]; rfl) (tidy_of (by omega) (fun m hm hd => rfl) rfl)
  · simp only [Option.some.injEq, Prod.mk.injEq] at hs
    obtain ⟨⟨rfl, rfl, rfl, rfl, rfl⟩, rfl, rfl⟩ := hs
    obtain ⟨h, h1, h2, _⟩ := ho
    refine fin h (Xt.exit 2, [(1, .bool dr), (9, heA (hdsF 0 (llOf ds)).length)], [(60, ⟨.dw 2 zHd (hdD (hdsF 0 (llOf ds))), []⟩), (0, ⟨.sw ds, []⟩)]) (by rw [h1, heV_ne h2, heH_ne h2]; rfl) (tidy_of (by omega) (fun m hm hd => ?_) rfl)
    rw [lk_cons, if_neg (by omega)]
  · cases hs
structure HfOk (es : List DV) (m : Nat) (k : Int) : Prop where
  e : es = hdD (hdOf es)
  l : m ≤ (hdOf es).length
  n9 : m ≤ 100
  O : ∀ j, j < m → HdOk (gH (hdOf es) j)
  k : k = ((m / 2 : Nat) : Int) - 1
def mg3Pk (live : List (Nat × Value)) (h : Hp) : Option (Bool × Nat × Int × List DV × List DV) := match live, lk h 60, lk h 0 with | (_, .bool dr) :: (_, .slice _ m _) :: (_, .int _ k) :: _, some ⟨.dw _ _ es, _⟩, some ⟨.sw ds, _⟩ => some (dr, m, k, es, ds) | _, _, _ => none
def mg3Sp : LSpec := lspec mg3Pk (fun a => ([(1, .bool a.1), (9, heA a.2.1), (12, mhI a.2.2.1)], [(60, ⟨.dw 2 zHd a.2.2.2.1, []⟩), (0, ⟨.sw a.2.2.2.2, []⟩)], 100)) (fun a tp => some ((.exit 4, [(1, .bool a.1), (9, heA a.2.1)], [(60, ⟨.dw 2 zHd (hdD (hfH (a.2.1 / 2) (hdOf a.2.2.2.1) a.2.1)), []⟩), (0, ⟨.sw a.2.2.2.2, []⟩)], 120, [60]), tp, [HfOk a.2.2.2.1 a.2.1 a.2.2.1]))
theorem mg3_ok : LSOk Try.prog 128 [1, 9, 12] (bodyIn Try.prog 12 19) mg3Sp := by
  refine lspec_ok fun a tp xt l2 h2 nx2 d tp' ob hs ho inr ts hn hg => ?_
  obtain ⟨dr, m, k, es, ds⟩ := a
  simp only at hs hg
  simp only [Option.some.injEq, Prod.mk.injEq] at hs
  obtain ⟨⟨rfl, rfl, rfl, rfl, rfl⟩, rfl, rfl⟩ := hs
  obtain ⟨⟨e, hl, n9, hO, hk⟩, _⟩ := ho
  have key := mh_heap (inr := inr) (h0 := [(60, ⟨.dw 2 zHd (hdD (hdOf es)), []⟩), (0, ⟨.sw ds, []⟩)]) (ds := ds) (dr := dr) n9 (m / 2) (hdOf es) hl (by omega) hO
  generalize hdOf es = H at *
  subst e
  subst hk
  refine LRuns.enter (N := 101) (l2 := [(1, .bool dr), (9, heA m), (12, mhI (((m / 2 : Nat) : Int) - 1))]) hn hg (by omega) (by omega) (fun n => n) ?_ ?_ rfl key ?_
  · exact ⟨rfl, rfl, rfl, rb_slg rfl rfl, rfl, rfl, trivial⟩
  · exact ⟨dw_row (m := 60) rfl rfl, sw_row (m := 0) rfl rfl, trivial⟩
  · refine tidy_of (by omega) (fun j hj hd => ?_) rfl
    have : j ≠ 60 := fun e => hd (by simp [e])
    simp only [lk_cons, if_neg this.symm]
structure MnOk (es : List DV) (m : Nat) : Prop where
  e : es = hdD (hdOf es)
  m0 : 0 < m
  W : WM ⟨hdOf es, m, false, [], []⟩
def mnO (dr : Bool) (es : List DV) (m : Nat) : List Pr := (runM dr (lfM m (hdOf es)) ⟨hdOf es, m, false, [], []⟩).out
def mg4Pk (live : List (Nat × Value)) (h : Hp) : Option (Bool × Nat × List DV × List DV) := match live, lk h 60, lk h 0 with | (_, .bool dr) :: (_, .slice _ m _) :: _, some ⟨.dw _ _ es, _⟩, some ⟨.sw ds, _⟩ => some (dr, m, es, ds) | _, _, _ => none
def mg4Sp : LSpec := lspec mg4Pk (fun a => ([(1, .bool a.1), (9, heA a.2.1), (13, nlV), (14, nlV), (15, .bool false)], [(60, ⟨.dw 2 zHd a.2.2.1, []⟩), (0, ⟨.sw a.2.2.2, []⟩)], 120)) (fun a tp => match tp with
  | true :: tp' => some ((.exit 6, [(13, nlV)], [(0, ⟨.sw a.2.2.2, []⟩)], 400, [60]), tp', [MnOk a.2.2.1 a.2.1, mnO a.1 a.2.2.1 a.2.1 = []])
  | false :: tp' => some ((.exit 6, [(13, ouA (mnO a.1 a.2.2.1 a.2.1).length)], [(200, ⟨.df 3 zPr (cpD (mnO a.1 a.2.2.1 a.2.1)), []⟩), (0, ⟨.sw a.2.2.2, []⟩)], 400, [60]), tp', [MnOk a.2.2.1 a.2.1, mnO a.1 a.2.2.1 a.2.1 ≠ []])
  | [] => none)
theorem mg4_ok : LSOk Try.prog 128 [1, 9, 13, 14, 15] (bodyIn Try.prog 12 25) mg4Sp := by
  refine lspec_ok fun a tp xt l2 h2 nx2 d tp' ob hs ho inr ts hn hg => ?_
  obtain ⟨dr, m, es, ds⟩ := a
  simp only at hs hg
  have fin : MnOk es m → ∀ key, key = (Xt.exit 6, [(13, ouV (mnO dr es m))], moR (mnO dr es m) [(0, ⟨.sw ds, []⟩)]) → Tidy [(60, ⟨.dw 2 zHd es, []⟩), (0, ⟨.sw ds, []⟩)] 120 key.2.2 400 [60] → Runs inr (fun F m Q => Code.againIn F m Try.prog (bodyIn Try.prog 12 25) Q) ts [(60, ⟨.dw 2 zHd es, []⟩), (0, ⟨.sw ds, []⟩)] 120 (key.1, SL 128 key.2.1, key.2.2, 400, [60], []) := fun h key hk hT => by
    have q := mh_main (inr := inr) (h0 := [(60, ⟨.dw 2 zHd es, []⟩), (0, ⟨.sw ds, []⟩)]) (ds := ds) (dr := dr) (lfM m (hdOf es)) ⟨hdOf es, m, false, [], []⟩ h.W (Nat.le_refl _) (fun _ => ⟨h.m0, rfl⟩)
    have e := h.e
    simp only [mSl, mHp, mLs, moR, ouV, cond_false] at q
    rw [← e] at q
    subst hk
    refine LRuns.enter (N := 300) (l2 := [(1, .bool dr), (9, heA m), (13, nlV), (14, nlV), (15, .bool false)]) hn hg (by omega) (by omega) (fun n => n) ?_ ?_ rfl q hT
    · exact ⟨rfl, rfl, rfl, rb_slg rfl rfl, rfl, rfl, rfl, rfl, rfl, rfl, trivial⟩
    · exact ⟨dw_row (m := 60) rfl rfl, sw_row (m := 0) rfl rfl, trivial⟩
  have h60 : ∀ (r : Rw) (t : Hp) (j : Nat), j ∉ [60] → lk t j = lk ((60, r) :: t) j := fun r t j hd => by
    have : j ≠ 60 := fun e => hd (by simp [e])
    rw [lk_cons, if_neg this.symm]
  split at hs
  · simp only [Option.some.injEq, Prod.mk.injEq] at hs
    obtain ⟨⟨rfl, rfl, rfl, rfl, rfl⟩, rfl, rfl⟩ := hs
    obtain ⟨h, h1, _⟩ := ho
    exact fin h (Xt.exit 6, [(13, nlV)], [(0, ⟨.sw ds, []⟩)]) (by rw [h1]; rfl) (tidy_of (by omega) (fun j hj hd => h60 _ _ j hd) rfl)
  · simp only [Option.some.injEq, Prod.mk.injEq] at hs
    obtain ⟨⟨rfl, rfl, rfl, rfl, rfl⟩, rfl, rfl⟩ := hs
    obtain ⟨h, h1, _⟩ := ho
    refine fin h (Xt.exit 6, [(13, ouA (mnO dr es m).length)], [(200, ⟨.df 3 zPr (cpD (mnO dr es m)), []⟩), (0, ⟨.sw ds, []⟩)]) (by rw [ouV_ne h1, moR_ne h1]) (tidy_of (by omega) (fun j hj hd => ?_) rfl)
    rw [← h60 _ _ j hd, lk_cons, if_neg (by omega)]
  · cases hs
def mgLn (P : Program) : LFun := orL (mkL 12 3 128 [0, 1, 6, 17, 18, 19] (bodyIn P 12 3) mg1Sp) (mkL 12 11 128 [0, 1, 9, 35, 36, 37] (bodyIn P 12 11) mg2Sp)
def mgLo (P : Program) : LFun := orL (mgLn P) (orL (mkL 12 19 128 [1, 9, 12] (bodyIn P 12 19) mg3Sp) (mkL 12 25 128 [1, 9, 13, 14, 15] (bodyIn P 12 25) mg4Sp))
theorem mgLn_one : LOne Try.prog (mgLn Try.prog) := orL_ok (mkL_ok mg1_ok) (mkL_ok mg2_ok)
theorem mgLo_one : LOne Try.prog (mgLo Try.prog) := orL_ok mgLn_one (orL_ok (mkL_ok mg3_ok) (mkL_ok mg4_ok))
theorem mg_l1 (n : Nat) (dr : Bool) (ds : List DV) : prjV (runZ (mhV true (mgLo Try.prog) mhT) Try.prog 12 12 [llA n, .bool dr] [(0, ⟨.sw ds, []⟩)] 4 [true]) =
  Res.ok (Value.tuple (Array.mk [Value.slice none 0 0, Value.int IntKind.i64 (3 : Int)]), [], [bodyIn Try.prog (12 : FuncId) 3 = bodyIn Try.prog (12 : FuncId) 3, [(0, Value.slice (some (Addr.mk 0 0 none)) n
 18446744073709551616), (1, Value.bool dr), (6, Value.int IntKind.i64 (0 : Int)), (17, Value.slice (some (Addr.mk 0 0 none)) n 18446744073709551616), (18, Value.int IntKind.i64 (↑n : Int)), (19, Value.int IntKind.i64 (0 :
 Int))] = [(0, Value.slice (some (Addr.mk 0 0 none)) n 18446744073709551616), (1, Value.bool dr), (6, Value.int IntKind.i64 (0 : Int)), (17, Value.slice (some (Addr.mk 0 0 none)) n 18446744073709551616), (18, Value.int
 IntKind.i64 (↑n : Int)), (19, Value.int IntKind.i64 (0 : Int))], [(0, Rw.mk (Kd.sw ds) [])] = [(0, Rw.mk (Kd.sw ds) [])], 4 = 4, MgA ds n, decide ((↑n : Int) > (32 : Int)) = true]) := by kernel_rfl
theorem mg_l2 (n : Nat) (dr : Bool) (ds : List DV) : prjV (runZ (mhV true (mgLo Try.prog) mhT) Try.prog 12 12 [llA n, .bool dr] [(0, ⟨.sw ds, []⟩)] 4 [false, true]) =
  Res.ok (Value.tuple (Array.mk [Value.slice none 0 0, Value.int IntKind.i64 (3 : Int)]), [], [bodyIn Try.prog (12 : FuncId) 3 = bodyIn Try.prog (12 : FuncId) 3, [(0, Value.slice (some (Addr.mk 0 0 none)) n
 18446744073709551616), (1, Value.bool dr), (6, Value.int IntKind.i64 (0 : Int)), (17, Value.slice (some (Addr.mk 0 0 none)) n 18446744073709551616), (18, Value.int IntKind.i64 (↑n : Int)), (19, Value.int IntKind.i64 (0 :
 Int))] = [(0, Value.slice (some (Addr.mk 0 0 none)) n 18446744073709551616), (1, Value.bool dr), (6, Value.int IntKind.i64 (0 : Int)), (17, Value.slice (some (Addr.mk 0 0 none)) n 18446744073709551616), (18, Value.int
 IntKind.i64 (↑n : Int)), (19, Value.int IntKind.i64 (0 : Int))], [(0, Rw.mk (Kd.sw ds) [])] = [(0, Rw.mk (Kd.sw ds) [])], 4 = 4, MgA ds n, decide ((↑n : Int) > (32 : Int)) = false, decide ((↑(sumL (llOf ds)) : Int) >
 (4096 : Int)) = true]) := by kernel_rfl
theorem mg_uns (n : Nat) (dr : Bool) (ds : List DV) : prjV (runZ (mhV true (mgLo Try.prog) mhT) Try.prog 12 12 [llA n, .bool dr] [(0, ⟨.sw ds, []⟩)] 4 [false, false, false]) =
  Res.ok (Value.tuple (Array.mk [Value.slice none 0 0, Value.int IntKind.i64 (2 : Int)]), [], [bodyIn Try.prog (12 : FuncId) 3 = bodyIn Try.prog (12 : FuncId) 3, [(0, Value.slice (some (Addr.mk 0 0 none)) n
 18446744073709551616), (1, Value.bool dr), (6, Value.int IntKind.i64 (0 : Int)), (17, Value.slice (some (Addr.mk 0 0 none)) n 18446744073709551616), (18, Value.int IntKind.i64 (↑n : Int)), (19, Value.int IntKind.i64 (0 :
 Int))] = [(0, Value.slice (some (Addr.mk 0 0 none)) n 18446744073709551616), (1, Value.bool dr), (6, Value.int IntKind.i64 (0 : Int)), (17, Value.slice (some (Addr.mk 0 0 none)) n 18446744073709551616), (18, Value.int
 IntKind.i64 (↑n : Int)), (19, Value.int IntKind.i64 (0 : Int))], [(0, Rw.mk (Kd.sw ds) [])] = [(0, Rw.mk (Kd.sw ds) [])], 4 = 4, MgA ds n, decide ((↑n : Int) > (32 : Int)) = false, decide ((↑(sumL (llOf ds)) : Int) >
 (4096 : Int)) = false, bodyIn Try.prog (12 : FuncId) 11 = bodyIn Try.prog (12 : FuncId) 11, [(0, Value.slice (some (Addr.mk 0 0 none)) n 18446744073709551616), (1, Value.bool dr), (9, Value.slice none 0 0), (35,
 Value.slice (some (Addr.mk 0 0 none)) n 18446744073709551616), (36, Value.int IntKind.i64 (↑n : Int)), (37, Value.int IntKind.i64 (0 : Int))] = [(0, Value.slice (some (Addr.mk 0 0 none)) n 18446744073709551616), (1,
 Value.bool dr), (9, Value.slice none 0 0), (35, Value.slice (some (Addr.mk 0 0 none)) n 18446744073709551616), (36, Value.int IntKind.i64 (↑n : Int)), (37, Value.int IntKind.i64 (0 : Int))], [(0, Rw.mk (Kd.sw ds) [])] =
 [(0, Rw.mk (Kd.sw ds) [])], 20 = 20, MgA ds n, allA (llOf ds) = false]) := by kernel_rfl
theorem mg_nil (n : Nat) (dr : Bool) (ds : List DV) : prjV (runZ (mhV true (mgLn Try.prog) mhT) Try.prog 12 12 [llA n, .bool dr] [(0, ⟨.sw ds, []⟩)] 4 [false, false, true, true, false, false]) =
  Res.ok (Value.tuple (Array.mk [Value.slice none 0 0, Value.int IntKind.i64 (0 : Int)]), [], [bodyIn Try.prog (12 : FuncId) 3 = bodyIn Try.prog (12 : FuncId) 3, [(0, Value.slice (some (Addr.mk 0 0 none)) n
 18446744073709551616), (1, Value.bool dr), (6, Value.int IntKind.i64 (0 : Int)), (17, Value.slice (some (Addr.mk 0 0 none)) n 18446744073709551616), (18, Value.int IntKind.i64 (↑n : Int)), (19, Value.int IntKind.i64 (0 :
 Int))] = [(0, Value.slice (some (Addr.mk 0 0 none)) n 18446744073709551616), (1, Value.bool dr), (6, Value.int IntKind.i64 (0 : Int)), (17, Value.slice (some (Addr.mk 0 0 none)) n 18446744073709551616), (18, Value.int
 IntKind.i64 (↑n : Int)), (19, Value.int IntKind.i64 (0 : Int))], [(0, Rw.mk (Kd.sw ds) [])] = [(0, Rw.mk (Kd.sw ds) [])], 4 = 4, MgA ds n, decide ((↑n : Int) > (32 : Int)) = false, decide ((↑(sumL (llOf ds)) : Int) >
 (4096 : Int)) = false, bodyIn Try.prog (12 : FuncId) 11 = bodyIn Try.prog (12 : FuncId) 11, [(0, Value.slice (some (Addr.mk 0 0 none)) n 18446744073709551616), (1, Value.bool dr), (9, Value.slice none 0 0), (35,
 Value.slice (some (Addr.mk 0 0 none)) n 18446744073709551616), (36, Value.int IntKind.i64 (↑n : Int)), (37, Value.int IntKind.i64 (0 : Int))] = [(0, Value.slice (some (Addr.mk 0 0 none)) n 18446744073709551616), (1,
 Value.bool dr), (9, Value.slice none 0 0), (35, Value.slice (some (Addr.mk 0 0 none)) n 18446744073709551616), (36, Value.int IntKind.i64 (↑n : Int)), (37, Value.int IntKind.i64 (0 : Int))], [(0, Rw.mk (Kd.sw ds) [])] =
 [(0, Rw.mk (Kd.sw ds) [])], 20 = 20, MgA ds n, allA (llOf ds) = true, hdsF 0 (llOf ds) = [], (0 : Int) ≤ (0 : Int) ∧ (0 : Int) < (2 : Int) ∧ rg IntKind.i64 (0 : Int), rg IntKind.i64 (Int.negSucc (nat_lit 0)), false =
 false, false = false]) := by kernel_rfl
theorem mg_emp (n : Nat) (dr : Bool) (ds : List DV) : prjV (runZ (mhV true (mgLo Try.prog) mhT) Try.prog 12 12 [llA n, .bool dr] [(0, ⟨.sw ds, []⟩)] 4 [false, false, true, false, true]) =
  Res.ok (Value.tuple (Array.mk [Value.slice none 0 0, Value.int IntKind.i64 (0 : Int)]), [], [bodyIn Try.prog (12 : FuncId) 3 = bodyIn Try.prog (12 : FuncId) 3, [(0, Value.slice (some (Addr.mk 0 0 none)) n
 18446744073709551616), (1, Value.bool dr), (6, Value.int IntKind.i64 (0 : Int)), (17, Value.slice (some (Addr.mk 0 0 none)) n 18446744073709551616), (18, Value.int IntKind.i64 (↑n : Int)), (19, Value.int IntKind.i64 (0 :
 Int))] = [(0, Value.slice (some (Addr.mk 0 0 none)) n 18446744073709551616), (1, Value.bool dr), (6, Value.int IntKind.i64 (0 : Int)), (17, Value.slice (some (Addr.mk 0 0 none)) n 18446744073709551616), (18, Value.int
 IntKind.i64 (↑n : Int)), (19, Value.int IntKind.i64 (0 : Int))], [(0, Rw.mk (Kd.sw ds) [])] = [(0, Rw.mk (Kd.sw ds) [])], 4 = 4, MgA ds n, decide ((↑n : Int) > (32 : Int)) = false, decide ((↑(sumL (llOf ds)) : Int) >
 (4096 : Int)) = false, bodyIn Try.prog (12 : FuncId) 11 = bodyIn Try.prog (12 : FuncId) 11, [(0, Value.slice (some (Addr.mk 0 0 none)) n 18446744073709551616), (1, Value.bool dr), (9, Value.slice none 0 0), (35,
 Value.slice (some (Addr.mk 0 0 none)) n 18446744073709551616), (36, Value.int IntKind.i64 (↑n : Int)), (37, Value.int IntKind.i64 (0 : Int))] = [(0, Value.slice (some (Addr.mk 0 0 none)) n 18446744073709551616), (1,
 Value.bool dr), (9, Value.slice none 0 0), (35, Value.slice (some (Addr.mk 0 0 none)) n 18446744073709551616), (36, Value.int IntKind.i64 (↑n : Int)), (37, Value.int IntKind.i64 (0 : Int))], [(0, Rw.mk (Kd.sw ds) [])] =
 [(0, Rw.mk (Kd.sw ds) [])], 20 = 20, MgA ds n, allA (llOf ds) = true, hdsF 0 (llOf ds) ≠ [], (0 : Int) ≤ (↑(List.length (hdsF 0 (llOf ds))) : Int) ∧ (0 : Int) < (2 : Int) ∧ rg IntKind.i64 (↑(List.length (hdsF 0 (llOf
 ds))) : Int), rg IntKind.i64 ((↑(List.length (hdsF 0 (llOf ds)) / 2) : Int) - (1 : Int)), bodyIn Try.prog (12 : FuncId) 19 = bodyIn Try.prog (12 : FuncId) 19, [(1, Value.bool dr), (9, Value.slice (some (Addr.mk 60 0
 none)) (List.length (hdsF 0 (llOf ds))) (capBig + 60)), (12, Value.int IntKind.i64 ((↑(List.length (hdsF 0 (llOf ds)) / 2) : Int) - (1 : Int)))] = [(1, Value.bool dr), (9, Value.slice (some (Addr.mk 60 0 none))
 (List.length (hdsF 0 (llOf ds))) (capBig + 60)), (12, Value.int IntKind.i64 ((↑(List.length (hdsF 0 (llOf ds)) / 2) : Int) - (1 : Int)))], [(60, Rw.mk (Kd.dw 2 [Value.slice none 0 0, Value.int IntKind.i64 (0 : Int)] (hdD
 (hdsF 0 (llOf ds)))) []), (0, Rw.mk (Kd.sw ds) [])] = [(60, Rw.mk (Kd.dw 2 [Value.slice none 0 0, Value.int IntKind.i64 (0 : Int)] (hdD (hdsF 0 (llOf ds)))) []), (0, Rw.mk (Kd.sw ds) [])], 100 = 100, HfOk (hdD (hdsF 0
 (llOf ds))) (List.length (hdsF 0 (llOf ds))) ((↑(List.length (hdsF 0 (llOf ds)) / 2) : Int) - (1 : Int)), bodyIn Try.prog (12 : FuncId) 25 = bodyIn Try.prog (12 : FuncId) 25, [(1, Value.bool dr), (9, Value.slice (some
 (Addr.mk 60 0 none)) (List.length (hdsF 0 (llOf ds))) (capBig + 60)), (13, Value.slice none 0 0), (14, Value.slice none 0 0), (15, Value.bool false)] = [(1, Value.bool dr), (9, Value.slice (some (Addr.mk 60 0 none))
 (List.length (hdsF 0 (llOf ds))) (capBig + 60)), (13, Value.slice none 0 0), (14, Value.slice none 0 0), (15, Value.bool false)], [(60, Rw.mk (Kd.dw 2 [Value.slice none 0 0, Value.int IntKind.i64 (0 : Int)] (hdD (hfH
 (List.length (hdsF 0 (llOf ds)) / 2) (hdOf (hdD (hdsF 0 (llOf ds)))) (List.length (hdsF 0 (llOf ds)))))) []), (0, Rw.mk (Kd.sw ds) [])] = [(60, Rw.mk (Kd.dw 2 [Value.slice none 0 0, Value.int IntKind.i64 (0 : Int)] (hdD
 (hfH (List.length (hdsF 0 (llOf ds)) / 2) (hdOf (hdD (hdsF 0 (llOf ds)))) (List.length (hdsF 0 (llOf ds)))))) []), (0, Rw.mk (Kd.sw ds) [])], 120 = 120, MnOk (hdD (hfH (List.length (hdsF 0 (llOf ds)) / 2) (hdOf (hdD (hdsF
 0 (llOf ds)))) (List.length (hdsF 0 (llOf ds))))) (List.length (hdsF 0 (llOf ds))), mnO dr (hdD (hfH (List.length (hdsF 0 (llOf ds)) / 2) (hdOf (hdD (hdsF 0 (llOf ds)))) (List.length (hdsF 0 (llOf ds))))) (List.length
 (hdsF 0 (llOf ds))) = []]) := by kernel_rfl
theorem mg_out (n : Nat) (dr : Bool) (ds : List DV) : runZ (mhV true (mgLo Try.prog) mhT) Try.prog 12 12 [llA n, .bool dr] [(0, ⟨.sw ds, []⟩)] 4 [false, false, true, false, false] =
  Res.ok ((Value.tuple (Array.mk [Value.slice (some (Addr.mk 200 0 none)) (List.length (mnO dr (hdD (hfH (List.length (hdsF 0 (llOf ds)) / 2) (hdOf (hdD (hdsF 0 (llOf ds)))) (List.length (hdsF 0 (llOf ds))))) (List.length
 (hdsF 0 (llOf ds))))) (capBig + 200), Value.int IntKind.i64 (0 : Int)]), [(200, Rw.mk (Kd.df 3 [Value.slice none 0 0, Value.slice none 0 0, Value.bool false] (cpD (mnO dr (hdD (hfH (List.length (hdsF 0 (llOf ds)) / 2)
 (hdOf (hdD (hdsF 0 (llOf ds)))) (List.length (hdsF 0 (llOf ds))))) (List.length (hdsF 0 (llOf ds)))))) []), (0, Rw.mk (Kd.sw ds) [])], 400, []), [], [bodyIn Try.prog (12 : FuncId) 3 = bodyIn Try.prog (12 : FuncId) 3, [(0,
 Value.slice (some (Addr.mk 0 0 none)) n 18446744073709551616), (1, Value.bool dr), (6, Value.int IntKind.i64 (0 : Int)), (17, Value.slice (some (Addr.mk 0 0 none)) n 18446744073709551616), (18, Value.int IntKind.i64 (↑n :
 Int)), (19, Value.int IntKind.i64 (0 : Int))] = [(0, Value.slice (some (Addr.mk 0 0 none)) n 18446744073709551616), (1, Value.bool dr), (6, Value.int IntKind.i64 (0 : Int)), (17, Value.slice (some (Addr.mk 0 0 none)) n
 18446744073709551616), (18, Value.int IntKind.i64 (↑n : Int)), (19, Value.int IntKind.i64 (0 : Int))], [(0, Rw.mk (Kd.sw ds) [])] = [(0, Rw.mk (Kd.sw ds) [])], 4 = 4, MgA ds n, decide ((↑n : Int) > (32 : Int)) = false,
 decide ((↑(sumL (llOf ds)) : Int) > (4096 : Int)) = false, bodyIn Try.prog (12 : FuncId) 11 = bodyIn Try.prog (12 : FuncId) 11, [(0, Value.slice (some (Addr.mk 0 0 none)) n 18446744073709551616), (1, Value.bool dr), (9,
 Value.slice none 0 0), (35, Value.slice (some (Addr.mk 0 0 none)) n 18446744073709551616), (36, Value.int IntKind.i64 (↑n : Int)), (37, Value.int IntKind.i64 (0 : Int))] = [(0, Value.slice (some (Addr.mk 0 0 none)) n
 18446744073709551616), (1, Value.bool dr), (9, Value.slice none 0 0), (35, Value.slice (some (Addr.mk 0 0 none)) n 18446744073709551616), (36, Value.int IntKind.i64 (↑n : Int)), (37, Value.int IntKind.i64 (0 : Int))],
 [(0, Rw.mk (Kd.sw ds) [])] = [(0, Rw.mk (Kd.sw ds) [])], 20 = 20, MgA ds n, allA (llOf ds) = true, hdsF 0 (llOf ds) ≠ [], (0 : Int) ≤ (↑(List.length (hdsF 0 (llOf ds))) : Int) ∧ (0 : Int) < (2 : Int) ∧ rg IntKind.i64
 (↑(List.length (hdsF 0 (llOf ds))) : Int), rg IntKind.i64 ((↑(List.length (hdsF 0 (llOf ds)) / 2) : Int) - (1 : Int)), bodyIn Try.prog (12 : FuncId) 19 = bodyIn Try.prog (12 : FuncId) 19, [(1, Value.bool dr), (9,
 Value.slice (some (Addr.mk 60 0 none)) (List.length (hdsF 0 (llOf ds))) (capBig + 60)), (12, Value.int IntKind.i64 ((↑(List.length (hdsF 0 (llOf ds)) / 2) : Int) - (1 : Int)))] = [(1, Value.bool dr), (9, Value.slice (some
 (Addr.mk 60 0 none)) (List.length (hdsF 0 (llOf ds))) (capBig + 60)), (12, Value.int IntKind.i64 ((↑(List.length (hdsF 0 (llOf ds)) / 2) : Int) - (1 : Int)))], [(60, Rw.mk (Kd.dw 2 [Value.slice none 0 0, Value.int
 IntKind.i64 (0 : Int)] (hdD (hdsF 0 (llOf ds)))) []), (0, Rw.mk (Kd.sw ds) [])] = [(60, Rw.mk (Kd.dw 2 [Value.slice none 0 0, Value.int IntKind.i64 (0 : Int)] (hdD (hdsF 0 (llOf ds)))) []), (0, Rw.mk (Kd.sw ds) [])], 100
 = 100, HfOk (hdD (hdsF 0 (llOf ds))) (List.length (hdsF 0 (llOf ds))) ((↑(List.length (hdsF 0 (llOf ds)) / 2) : Int) - (1 : Int)), bodyIn Try.prog (12 : FuncId) 25 = bodyIn Try.prog (12 : FuncId) 25, [(1, Value.bool dr),
 (9, Value.slice (some (Addr.mk 60 0 none)) (List.length (hdsF 0 (llOf ds))) (capBig + 60)), (13, Value.slice none 0 0), (14, Value.slice none 0 0), (15, Value.bool false)] = [(1, Value.bool dr), (9, Value.slice (some
 (Addr.mk 60 0 none)) (List.length (hdsF 0 (llOf ds))) (capBig + 60)), (13, Value.slice none 0 0), (14, Value.slice none 0 0), (15, Value.bool false)], [(60, Rw.mk (Kd.dw 2 [Value.slice none 0 0, Value.int IntKind.i64 (0 :
 Int)] (hdD (hfH (List.length (hdsF 0 (llOf ds)) / 2) (hdOf (hdD (hdsF 0 (llOf ds)))) (List.length (hdsF 0 (llOf ds)))))) []), (0, Rw.mk (Kd.sw ds) [])] = [(60, Rw.mk (Kd.dw 2 [Value.slice none 0 0, Value.int IntKind.i64
 (0 : Int)] (hdD (hfH (List.length (hdsF 0 (llOf ds)) / 2) (hdOf (hdD (hdsF 0 (llOf ds)))) (List.length (hdsF 0 (llOf ds)))))) []), (0, Rw.mk (Kd.sw ds) [])], 120 = 120, MnOk (hdD (hfH (List.length (hdsF 0 (llOf ds)) / 2)
 (hdOf (hdD (hdsF 0 (llOf ds)))) (List.length (hdsF 0 (llOf ds))))) (List.length (hdsF 0 (llOf ds))), mnO dr (hdD (hfH (List.length (hdsF 0 (llOf ds)) / 2) (hdOf (hdD (hdsF 0 (llOf ds)))) (List.length (hdsF 0 (llOf ds)))))
 (List.length (hdsF 0 (llOf ds))) ≠ []]) := by kernel_rfl
/-! ### the contract -/
/-- Lists that may be merged. -/
structure MgB (ds : List DV) (n : Nat) : Prop where
  A : MgA ds n
  n32 : n ≤ 32
  s : sumL (llOf ds) ≤ 4096
  z : ∀ l ∈ llOf ds, ∀ p ∈ l, PrSz p
  a : allA (llOf ds) = true
theorem lfM_le : ∀ {n : Nat} {H : List Hd} {B : Nat}, (∀ j, j < n → (gH H j).1.length ≤ B) → lfM n H ≤ n * B
  | 0, H, B, h => by simp [lfM]
  | n + 1, H, B, h => by
      have h1 := lfM_le (n := n) (H := H) (B := B) fun j hj => h j (by omega)
      have h2 := h n (by omega)
      simp only [lfM, Nat.succ_mul]
      omega
theorem gL_mem {L : List (List Pr)} {i : Nat} (h : gL L i ≠ []) : gL L i ∈ L ∧ i < L.length := by
  unfold gL at h ⊢
  cases he : L[i]? with
  | none => rw [he] at h; exact absurd rfl h
  | some x =>
    exact ⟨List.mem_of_getElem? he, (List.getElem?_eq_some_iff.1 he).1⟩
structure HdZ (H : List Hd) (m : Nat) : Prop where
  O : ∀ j, j < m → HdOk (gH H j)
  Z : ∀ j, j < m → ∀ p ∈ (gH H j).1, PrSz p
theorem MgB.hds {ds : List DV} {n : Nat} (h : MgB ds n) : HdZ (hdsF 0 (llOf ds)) (hdsF 0 (llOf ds)).length := by
  have hl := h.A.L.l
  have n32 := h.n32
  have f : ∀ j, j < (hdsF 0 (llOf ds)).length → ∃ l, (gH (hdsF 0 (llOf ds)) j).1 = l ∧ l ≠ [] ∧ l ∈ llOf ds ∧ (gH (hdsF 0 (llOf ds)) j).2 < n := fun j hj => by
    obtain ⟨h1, h2, h3⟩ := hdsF_mem (gH_mem hj)
    rw [Nat.sub_zero] at h3
    have h4 : gL (llOf ds) (gH (hdsF 0 (llOf ds)) j).2 ≠ [] := by rw [h3]; exact h1
    obtain ⟨g1, g2⟩ := gL_mem h4
    rw [h3] at g1
    exact ⟨_, rfl, h1, g1, by omega⟩
  refine ⟨fun j hj => ?_, fun j hj => ?_⟩
  · obtain ⟨l, e, h1, h2, h3⟩ := f j hj
    exact ⟨by rw [e]; exact h1, by rw [e]; exact h.A.L.O l h2, by rw [e]; exact h.A.L.m l h2, by omega⟩
  · obtain ⟨l, e, h1, h2, h3⟩ := f j hj
    rw [e]
    exact h.z l h2
theorem MgB.hf {ds : List DV} {n : Nat} (h : MgB ds n) : HfOk (hdD (hdsF 0 (llOf ds))) (hdsF 0 (llOf ds)).length (((hdsF 0 (llOf ds)).length / 2 : Nat) - 1) := by
  have h1 := hdsF_len (llOf ds) 0
  have hl := h.A.L.l
  have n32 := h.n32
  refine ⟨by rw [hdOf_hd], by rw [hdOf_hd]; exact Nat.le_refl _, by omega, by rw [hdOf_hd]; exact h.hds.O, rfl⟩
theorem MgB.mn {ds : List DV} {n : Nat} (h : MgB ds n) (h0 : hdsF 0 (llOf ds) ≠ []) : MnOk (hdD (hfH ((hdsF 0 (llOf ds)).length / 2) (hdOf (hdD (hdsF 0 (llOf ds)))) (hdsF 0 (llOf ds)).length)) (hdsF 0 (llOf ds)).length := by
  have h1 := hdsF_len (llOf ds) 0
  have hl := h.A.L.l
  have n32 := h.n32
  have Hd := h.hds
  rw [hdOf_hd]
  generalize hdsF 0 (llOf ds) = H at *
  have S := (hf_heap (n := H.length) (H.length / 2) H (Nat.le_refl _) (hf_top H H.length)).2
  have back : ∀ j, j < H.length → ∃ k, k < H.length ∧ gH H k = gH (hfH (H.length / 2) H H.length) j := fun j hj => S.m _ ⟨j, hj, rfl⟩
  have hO : ∀ j, j < H.length → HdOk (gH (hfH (H.length / 2) H H.length) j) := fun j hj => by
    obtain ⟨k, k1, k2⟩ := back j hj
    rw [← k2]
    exact Hd.O k k1
  have hb := lfM_le (n := H.length) (H := hfH (H.length / 2) H H.length) (B := 9000000) fun j hj => (hO j hj).l
  refine ⟨by rw [hdOf_hd], List.length_pos_iff.2 h0, ?_⟩
  rw [hdOf_hd]
  refine ⟨?_, ?_, hO, fun j hj => ?_, fun x hx => (by cases hx), ?_⟩
  · show H.length ≤ _
    rw [S.l]; exact Nat.le_refl _
  · show H.length ≤ 100
    omega
  · obtain ⟨k, k1, k2⟩ := back j hj
    show ∀ p ∈ (gH (hfH (H.length / 2) H H.length) j).1, PrSz p
    rw [← k2]
    exact Hd.Z k k1
  · show 0 + lfM H.length (hfH (H.length / 2) H H.length) ≤ _
    have : H.length * 9000000 ≤ 32 * 9000000 := Nat.mul_le_mul_right _ (by omega)
    omega
theorem mnO_is (dr : Bool) (L : List (List Pr)) : mnO dr (hdD (hfH ((hdsF 0 L).length / 2) (hdOf (hdD (hdsF 0 L))) (hdsF 0 L).length)) (hdsF 0 L).length = mgOut dr L := by
  unfold mnO
  rw [hdOf_hd, hdOf_hd]
  rfl
theorem mgOut_nil {dr : Bool} {L : List (List Pr)} (h : hdsF 0 L = []) : mgOut dr L = [] := by
  unfold mgOut mgS0
  rw [h]
  rfl
def tupM (v : Value) (e : Int) : Value := .tuple ⟨[v, .int .i64 e]⟩
def gMg : GSpecD := fun aL tp => match aL, tp with
  | [.dl ds n, .fl (.bool dr)], true :: tp' => some (⟨fun _ => tupM nlV 3, []⟩, tp', [MgA ds n, 32 < n ∨ 4096 < sumL (llOf ds)])
  | [.dl ds n, .fl (.bool dr)], false :: false :: tp' => some (⟨fun _ => tupM nlV 2, []⟩, tp', [MgA ds n, n ≤ 32, sumL (llOf ds) ≤ 4096, allA (llOf ds) = false])
  | [.dl ds n, .fl (.bool dr)], false :: true :: true :: tp' => some (⟨fun _ => tupM nlV 0, []⟩, tp', [MgB ds n, mgOut dr (llOf ds) = []])
  | [.dl ds n, .fl (.bool dr)], false :: true :: false :: tp' => some (⟨fun nx => tupM (.slice (some ⟨nx, 0, none⟩) (mgOut dr (llOf ds)).length (capBig + nx)) 0, [⟨.df 3 zPr (cpD (mgOut dr (llOf ds))), []⟩]⟩, tp', [MgB ds n, mgOut dr (llOf ds) ≠ []])
  | _, _ => none
theorem f2s_tupM {nx k m : Nat} {g : Nat → Nat} (hk : 0 < k) (hg : g 0 = m) (n : Nat) (e : Int) : renV (f2s nx k g) (tupM (.slice (some ⟨nx, 0, none⟩) n (capBig + nx)) e) = some (tupM (.slice (some ⟨m, 0, none⟩) n (capBig + m)) e) := by
  have := f2s_slice0 (nx := nx) (g := g) hk n
  rw [hg] at this
  unfold tupM
  simp only [renV] at this
  simp only [renV, renA, renL, this]
theorem mg_gok : GOkD Try.prog 12 gMg := by
  intro aL tp gr tp' ob hG ho cs hc
  have fin : ∀ {n : Nat} {dr : Bool} {ds : List DV} {L : LFun} {tp3 tp4 : Tape} {v : Value} {ob : List Prop}, LOkZ (mhV true L mhT) Try.prog → prjV (runZ (mhV true L mhT) Try.prog 12 12 [llA n, .bool dr] [(0, ⟨.sw ds, []⟩)] 4 tp3) = .ok (v, tp4, ob) → Alls ob → (∀ σ, renV σ v = some v) → ∃ v0 h0' nx0' d0 g, Tri Try.prog 12 (dvV [.dl ds n, .fl (.bool dr)] cs 0) (dvH [.dl ds n, .fl (.bool dr)] cs 0) (2 * 2) (v0, h0', nx0', d0) ∧ GrD ⟨fun _ => v, []⟩ v0 h0' g := fun hL e ho hv => by
    obtain ⟨h', nx', d, T⟩ := run_val mhX mhTt hL e ho rfl
    exact ⟨_, h', nx', d, fun n => n, T, GrD.flat hv⟩
  unfold gMg at hG
  split at hG
  · rename_i ds n dr tp2
    simp only [Option.some.injEq, Prod.mk.injEq] at hG
    obtain ⟨rfl, rfl, rfl⟩ := hG
    obtain ⟨h, h1, _⟩ := ho
    by_cases h2 : 32 < n
    · exact fin (L_okV rfl mgLo_one) (mg_l1 n dr ds) ⟨rfl, rfl, rfl, rfl, h, decide_eq_true (by omega), trivial⟩ fun σ => rfl
    · exact fin (L_okV rfl mgLo_one) (mg_l2 n dr ds) ⟨rfl, rfl, rfl, rfl, h, decide_eq_false (by omega), decide_eq_true (by omega), trivial⟩ fun σ => rfl
  · rename_i ds n dr tp2
    simp only [Option.some.injEq, Prod.mk.injEq] at hG
    obtain ⟨rfl, rfl, rfl⟩ := hG
    obtain ⟨h, h1, h2, h3, _⟩ := ho
    exact fin (L_okV rfl mgLo_one) (mg_uns n dr ds) ⟨rfl, rfl, rfl, rfl, h, decide_eq_false (by omega), decide_eq_false (by omega), rfl, rfl, rfl, rfl, h, h3, trivial⟩ fun σ => rfl
  · rename_i ds n dr tp2
    simp only [Option.some.injEq, Prod.mk.injEq] at hG
    obtain ⟨rfl, rfl, rfl⟩ := hG
    obtain ⟨h, h1, _⟩ := ho
    have n32 := h.n32
    have hs := h.s
    by_cases h0 : hdsF 0 (llOf ds) = []
    · exact fin (L_okV rfl mgLn_one) (mg_nil n dr ds) ⟨rfl, rfl, rfl, rfl, h.A, decide_eq_false (by omega), decide_eq_false (by omega), rfl, rfl, rfl, rfl, h.A, h.a, h0, ⟨by omega, by omega, by simp only [rg]; omega⟩, (by simp only [rg]; omega), rfl, rfl, trivial⟩ fun σ => rfl
    · have hlen := hdsF_len (llOf ds) 0
      have hl := h.A.L.l
      refine fin (L_okV rfl mgLo_one) (mg_emp n dr ds) ⟨rfl, rfl, rfl, rfl, h.A, decide_eq_false (by omega), decide_eq_false (by omega), rfl, rfl, rfl, rfl, h.A, h.a, h0, ⟨by omega, by omega, by simp only [rg]; omega⟩, (by simp only [rg]; omega), rfl, rfl, rfl, rfl, h.hf, rfl, rfl, rfl, rfl, h.mn h0, ?_, trivial⟩ fun σ => rfl
      rw [mnO_is]
      exact h1
  · rename_i ds n dr tp2
    simp only [Option.some.injEq, Prod.mk.injEq] at hG
    obtain ⟨rfl, rfl, rfl⟩ := hG
    obtain ⟨h, h1, _⟩ := ho
    have n32 := h.n32
    have hs := h.s
    have h0 : hdsF 0 (llOf ds) ≠ [] := fun e => h1 (mgOut_nil e)
    have hlen := hdsF_len (llOf ds) 0
    have hl := h.A.L.l
    have T := run_tri mhX mhTt (L_okV rfl mgLo_one) (mg_out n dr ds) ⟨rfl, rfl, rfl, rfl, h.A, decide_eq_false (by omega), decide_eq_false (by omega), rfl, rfl, rfl, rfl, h.A, h.a, h0, ⟨by omega, by omega, by simp only [rg]; omega⟩, (by simp only [rg]; omega), rfl, rfl, rfl, rfl, h.hf, rfl, rfl, rfl, rfl, h.mn h0, (by rw [mnO_is]; exact h1), trivial⟩ rfl
    rw [mnO_is] at T
    refine ⟨_, _, _, _, fun _ => 200, T, ⟨fun nx => f2s_tupM (by simp) rfl _ _, fun j r hj => ?_, fun i j hi hj _ => by simp at hi hj; omega⟩⟩
    match j, hj with
    | 0, hj => cases hj; exact ⟨fun τ => rfl, rfl, rfl⟩
  · cases hG
end Go.Proofs.Ytmoflcoijmmpjaa
/-
  Chapter 14: LargePairLists as a contract.
-/
namespace Go.Proofs.Ytmoflcoijmmpjaa
set_option linter.unusedSimpArgs false
set_option linter.unusedVariables false
set_option linter.unusedSectionVars false
open Go Go.RowKit
def lsTab : FuncId → List Nat := fun f => bif Nat.beq f 9 then [11, 15] else []
def lsSyF : FuncId → Nat → Option Nat := lsSy 9 [(11, 0), (15, 0), (17, 0), (20, 0), (21, 37)]
def lsT : TFun := mkD 22 [.d, .f] gLp
def lsV (L : LFun) : Tv := ⟨lsT, cmpY, L, lsTab, lsSyF, fun _ => [], fun _ => 0⟩
theorem ls_go (inr : Bool) (n i : Nat) (m : Int) (ds : List DV) : prjP [0, 2, 7] 10 (codeZ (lsV noL) Try.prog (runZ (lsV noL) Try.prog 9) 9 inr 100000 (bodyIn Try.prog 9 4) (SL 24 [(0, saA n), (2, mhI m), (7, iV i)]) [(0, ⟨.sw ds, []⟩)] 10 [true, false]) =
  Res.ok ((Xt.normal, 24, [(0, Value.slice (some (Addr.mk 0 0 none)) n 18446744073709551616), (2, Value.int IntKind.i64 m), (7, Value.int IntKind.i64 (↑(i + 1) : Int))], [(10, Rw.mk (Kd.sw (dSub ds (i + 0))) []), (0, Rw.mk
 (Kd.sw ds) [])], 11, [], []), [], [decide ((↑i : Int) < (↑n : Int)) = true, (0 : Int) ≤ (↑i : Int) ∧ (↑i : Int) < (↑n : Int), ShOb Try.prog 27 true true ds i 10, dLen ds (ixO 0 (Int.toNat (↑i : Int)) 1 + 0) = 0 → dSub ds
 (i + 0) = [], LpOk (dSub ds (i + 0)) (dLen ds (i + 0)) ∧ (decide ((↑(dLen ds (i + 0)) : Int) > m) || List.any (prsOf (dSub ds (i + 0))) big) = false, m ≤ (9000000 : Int), rg IntKind.i64 (↑(i + 1) : Int)]) := by kernel_rfl
theorem ls_hit (inr : Bool) (n i : Nat) (m : Int) (ds : List DV) : prjP [6] 10 (codeZ (lsV noL) Try.prog (runZ (lsV noL) Try.prog 9) 9 inr 100000 (bodyIn Try.prog 9 4) (SL 24 [(0, saA n), (2, mhI m), (7, iV i)]) [(0, ⟨.sw ds, []⟩)] 10 [true, true]) =
  Res.ok ((Xt.ret, 24, [(6, Value.bool true)], [(10, Rw.mk (Kd.sw (dSub ds (i + 0))) []), (0, Rw.mk (Kd.sw ds) [])], 11, [], []), [], [decide ((↑i : Int) < (↑n : Int)) = true, (0 : Int) ≤ (↑i : Int) ∧ (↑i : Int) < (↑n :
 Int), ShOb Try.prog 27 true true ds i 10, dLen ds (ixO 0 (Int.toNat (↑i : Int)) 1 + 0) = 0 → dSub ds (i + 0) = [], LpOk (dSub ds (i + 0)) (dLen ds (i + 0)) ∧ (decide ((↑(dLen ds (i + 0)) : Int) > m) || List.any (prsOf
 (dSub ds (i + 0))) big) = true, m ≤ (9000000 : Int)]) := by kernel_rfl
theorem ls_end (inr : Bool) (n i : Nat) (m : Int) (ds : List DV) : prjP [] 10 (codeZ (lsV noL) Try.prog (runZ (lsV noL) Try.prog 9) 9 inr 100000 (bodyIn Try.prog 9 4) (SL 24 [(0, saA n), (2, mhI m), (7, iV i)]) [(0, ⟨.sw ds, []⟩)] 10 [false]) =
  Res.ok ((Xt.exit 0, 24, [], [(0, Rw.mk (Kd.sw ds) [])], 10, [], []), [], [decide ((↑i : Int) < (↑n : Int)) = false]) := by kernel_rfl
theorem lsX {L : LFun} : XOkZ (lsV L) Try.prog := XOneZ.ok cmpY_ok rfl
theorem lsTt {L : LFun} : TOkZ (lsV L) Try.prog := T_okV rfl (mkD_ok lp_gok)
theorem lsL : LOkZ (lsV noL) Try.prog := noL_okV rfl
def lgL (m : Int) (l : List Pr) : Bool := decide ((l.length : Int) > m) || l.any big
theorem ls_loop {inr : Bool} {h0 : Hp} {L : List (List Pr)} {n : Nat} {m : Int} (hl : L.length = n) (hn : n ≤ 9000000) (hm : m ≤ 9000000) : ∀ (r i : Nat), i + r = n →
    LRuns inr Try.prog (bodyIn Try.prog 9 4) 6 40 h0 24 [(0, saA n), (2, mhI m), (7, iV i)] [(0, ⟨.sw (llD L), []⟩)] 10
      (bif (L.drop i).any (lgL m) then (.ret, [(6, .bool true)], [(0, ⟨.sw (llD L), []⟩)]) else (.exit 0, [], [(0, ⟨.sw (llD L), []⟩)]))
  | 0, i, hr => by
      rw [List.drop_of_length_le (by omega)]
      refine LRuns.exit (code_runsP lsX lsL (runZ_ok lsX lsTt lsL mixed 9) mixed (ls_end inr n i m (llD L)) ?_) (by intro e; cases e) rfl (by omega) (by omega) (fun n => n) ?_ ?_ rfl
      · simp only [Alls, decide_eq_false_iff_not]
        exact ⟨by omega, trivial⟩
      · trivial
      · exact ⟨sw_row (m := 0) rfl rfl, trivial⟩
  | r + 1, i, hr => by
      have hi : i < L.length := by omega
      obtain ⟨l, hx⟩ : ∃ l, L[i]? = some l := ⟨L[i], List.getElem?_eq_getElem hi⟩
      have A := ll_at hx
      have hd : L.drop i = l :: L.drop (i + 1) := by
        obtain ⟨h1, h2⟩ := List.getElem?_eq_some_iff.1 hx
        rw [List.drop_eq_getElem_cons hi, h2]
      have o1 := A.o 10
      have z : l.length = 0 → cpD l = [] := fun e => by rw [List.eq_nil_of_length_eq_zero e]; rfl
      have lp : LpOk (cpD l) l.length := ⟨by rw [prsOf_cp]; exact cpD_prs l, by rw [prsOf_cp]⟩
      rw [hd, List.any_cons]
      cases hb : lgL m l with
      | true =>
        rw [Bool.true_or]
        have hb' : (decide ((l.length : Int) > m) || l.any big) = true := hb
        refine LRuns.exit (code_runsP lsX lsL (runZ_ok lsX lsTt lsL mixed 9) mixed (ls_hit inr n i m (llD L)) ?_) (by intro e; cases e) rfl (by omega) (by omega) (fun n => n) ?_ ?_ rfl
        · simp only [Alls, rg, decide_eq_true_eq, Nat.add_zero, Nat.zero_add, Nat.mul_one, ixO_eq, Int.toNat_natCast, A.n, A.s, prsOf_cp]
          repeat' (with_reducible apply And.intro)
          all_goals first | omega | (with_reducible assumption) | (with_reducible exact trivial) | skip
        · exact ⟨rfl, rfl, trivial⟩
        · exact ⟨sw_row (m := 0) rfl rfl, trivial⟩
      | false =>
        rw [Bool.false_or]
        have hb' : (decide ((l.length : Int) > m) || l.any big) = false := hb
        refine LRuns.step (code_runsP lsX lsL (runZ_ok lsX lsTt lsL mixed 9) mixed (ls_go inr n i m (llD L)) ?_) rfl (by omega) (by omega) (fun n => n) ?_ ?_ rfl (ls_loop hl hn hm r (i + 1) (by omega))
        · simp only [Alls, rg, decide_eq_true_eq, Nat.add_zero, Nat.zero_add, Nat.mul_one, ixO_eq, Int.toNat_natCast, A.n, A.s, prsOf_cp]
          repeat' (with_reducible apply And.intro)
          all_goals first | omega | (with_reducible assumption) | (with_reducible exact trivial) | skip
        · exact ⟨rfl, rb_slg rfl rfl, rfl, rfl, rfl, rfl, trivial⟩
        · exact ⟨sw_row (m := 0) rfl rfl, trivial⟩
structure LsOk (ds : List DV) (n : Nat) : Prop where
  e : ds = llD (llOf ds)
  l : (llOf ds).length = n
def lsPk (live : List (Nat × Value)) (h : Hp) : Option (Nat × Int × List DV) := match live, lk h 0 with | (_, .slice _ n _) :: (_, .int _ m) :: _, some ⟨.sw ds, _⟩ => some (n, m, ds) | _, _ => none
def lsSp : LSpec := lspec lsPk (fun a => ([(0, saA a.1), (2, mhI a.2.1), (7, iV 0)], [(0, ⟨.sw a.2.2, []⟩)], 6)) (fun a tp => match tp with
  | b :: tp' => some ((bif b then .ret else .exit 0, bif b then [(6, .bool true)] else [], [(0, ⟨.sw a.2.2, []⟩)], 40, []), tp', [LsOk a.2.2 a.1 ∧ a.1 ≤ 9000000 ∧ a.2.1 ≤ 9000000 ∧ (llOf a.2.2).any (lgL a.2.1) = b])
  | [] => none)
theorem lsSp_ok : LSOk Try.prog 24 [0, 2, 7] (bodyIn Try.prog 9 4) lsSp := by
  refine lspec_ok fun a tp xt l2 h2 nx2 d tp' ob hs ho inr ts hn hg => ?_
  obtain ⟨n, m, ds⟩ := a
  simp only at hs hg
  split at hs
  case h_2 => cases hs
  rename_i b _
  simp only [Option.some.injEq, Prod.mk.injEq] at hs
  obtain ⟨⟨rfl, rfl, rfl, rfl, rfl⟩, rfl, rfl⟩ := hs
  obtain ⟨⟨h, h1, h2, h3⟩, _⟩ := ho
  have key := ls_loop (inr := inr) (h0 := [(0, ⟨.sw (llD (llOf ds)), []⟩)]) h.l h1 h2 n 0 (by omega)
  have e := h.e
  rw [List.drop_zero, h3] at key
  clear h h3
  generalize llOf ds = L at *
  subst e
  cases b <;>
  · refine LRuns.enter (N := 10) (l2 := [(0, saA n), (2, mhI m), (7, iV 0)]) hn hg (by omega) (by omega) (fun n => n) ?_ ?_ rfl key ?_
    · exact ⟨rfl, rb_slg rfl rfl, rfl, rfl, rfl, rfl, trivial⟩
    · exact ⟨sw_row (m := 0) rfl rfl, trivial⟩
    · exact tidy_of (by omega) (fun m hm hd => rfl) rfl
def lsLo (P : Program) : LFun := mkL 9 4 24 [0, 2, 7] (bodyIn P 9 4) lsSp
theorem lsLo_one : LOne Try.prog (lsLo Try.prog) := mkL_ok lsSp_ok
theorem ls_L (n : Nat) (a m : Int) (ds : List DV) : prjV (runZ (lsV noL) Try.prog 9 9 [saA n, mhI a, mhI m] [(0, ⟨.sw ds, []⟩)] 6 [true]) =
  Res.ok (Value.bool true, [], [decide ((↑n : Int) > a) = true]) := by kernel_rfl
theorem ls_1 (n : Nat) (a m : Int) (ds : List DV) : prjV (runZ (lsV (lsLo Try.prog)) Try.prog 9 9 [saA n, mhI a, mhI m] [(0, ⟨.sw ds, []⟩)] 6 [false, true]) =
  Res.ok (Value.bool true, [], [decide ((↑n : Int) > a) = false, bodyIn Try.prog (9 : FuncId) 4 = bodyIn Try.prog (9 : FuncId) 4, [(0, Value.slice (some (Addr.mk 0 0 none)) n 18446744073709551616), (2, Value.int IntKind.i64
 m), (7, Value.int IntKind.i64 (0 : Int))] = [(0, Value.slice (some (Addr.mk 0 0 none)) n 18446744073709551616), (2, Value.int IntKind.i64 m), (7, Value.int IntKind.i64 (0 : Int))], [(0, Rw.mk (Kd.sw ds) [])] = [(0, Rw.mk
 (Kd.sw ds) [])], 6 = 6, LsOk ds n ∧ n ≤ 9000000 ∧ m ≤ (9000000 : Int) ∧ List.any (llOf ds) (lgL m) = true]) := by kernel_rfl
theorem ls_0 (n : Nat) (a m : Int) (ds : List DV) : prjV (runZ (lsV (lsLo Try.prog)) Try.prog 9 9 [saA n, mhI a, mhI m] [(0, ⟨.sw ds, []⟩)] 6 [false, false]) =
  Res.ok (Value.bool false, [], [decide ((↑n : Int) > a) = false, bodyIn Try.prog (9 : FuncId) 4 = bodyIn Try.prog (9 : FuncId) 4, [(0, Value.slice (some (Addr.mk 0 0 none)) n 18446744073709551616), (2, Value.int
 IntKind.i64 m), (7, Value.int IntKind.i64 (0 : Int))] = [(0, Value.slice (some (Addr.mk 0 0 none)) n 18446744073709551616), (2, Value.int IntKind.i64 m), (7, Value.int IntKind.i64 (0 : Int))], [(0, Rw.mk (Kd.sw ds) [])] =
 [(0, Rw.mk (Kd.sw ds) [])], 6 = 6, LsOk ds n ∧ n ≤ 9000000 ∧ m ≤ (9000000 : Int) ∧ List.any (llOf ds) (lgL m) = false]) := by kernel_rfl
def gLs : GSpecD := fun aL tp => match aL, tp with
  | [.dl ds n, .fl (.int .i64 a), .fl (.int .i64 m)], b :: tp' => some (⟨fun _ => .bool b, []⟩, tp', [LsOk ds n ∧ (decide ((n : Int) > a) || (llOf ds).any (lgL m)) = b, a ≤ 9000000, m ≤ 9000000])
  | _, _ => none
theorem ls_gok : GOkD Try.prog 9 gLs := by
  intro aL tp gr tp' ob hG ho cs hc
  unfold gLs at hG
  split at hG
  case h_2 => cases hG
  rename_i ds n a m b tp2
  simp only [Option.some.injEq, Prod.mk.injEq] at hG
  obtain ⟨rfl, rfl, rfl⟩ := hG
  obtain ⟨⟨h1, h2⟩, ha, hm, _⟩ := ho
  have fin : ∀ {v : Bool}, (∃ h' nx' d, Tri Try.prog 9 [saA n, mhI a, mhI m] [(0, ⟨.sw ds, []⟩)] 6 (.bool v, h', nx', d)) → v = b → ∃ v0 h0' nx0' d0 g, Tri Try.prog 9 (dvV [.dl ds n, .fl (.int .i64 a), .fl (.int .i64 m)] cs 0) (dvH [.dl ds n, .fl (.int .i64 a), .fl (.int .i64 m)] cs 0) (2 * 3) (v0, h0', nx0', d0) ∧ GrD ⟨fun _ => .bool b, []⟩ v0 h0' g := fun ⟨h', nx', d, T⟩ e => by
    subst e
    exact ⟨_, h', nx', d, fun n => n, T, GrD.flat fun σ => rfl⟩
  by_cases h : (n : Int) > a
  · exact fin (run_val lsX lsTt lsL (ls_L n a m ds) ⟨decide_eq_true h, trivial⟩ rfl) (by rw [← h2, decide_eq_true h]; rfl)
  · rw [decide_eq_false h, Bool.false_or] at h2
    cases hb : (llOf ds).any (lgL m) with
    | true => exact fin (run_val lsX lsTt (L_okV rfl lsLo_one) (ls_1 n a m ds) ⟨decide_eq_false h, rfl, rfl, rfl, rfl, ⟨h1, by omega, hm, hb⟩, trivial⟩ rfl) (by rw [← h2, hb])
    | false => exact fin (run_val lsX lsTt (L_okV rfl lsLo_one) (ls_0 n a m ds) ⟨decide_eq_false h, rfl, rfl, rfl, rfl, ⟨h1, by omega, hm, hb⟩, trivial⟩ rfl) (by rw [← h2, hb])
/-! ### Pick -/
def pkN (x y : Int) : Nat := (if x.tmod y < 0 then x.tmod y + y else x.tmod y).toNat
def pkVv : Tv := ⟨noTz, noXz, noL, fun f => bif Nat.beq f 31 then [6, 11] else [], lsSy 31 [], fun _ => [], fun _ => 0⟩
theorem pk_a (x : Int) (n : Nat) : prjV (runZ pkVv Try.prog 5 31 [.int .i64 x, .int .i64 ((n + 1 : Nat) : Int)] [] 4 [false, true]) =
  Res.ok (Value.int IntKind.i64 (IntKind.wrap IntKind.i64 (Int.tmod x (↑(n + 1) : Int) + (↑(n + 1) : Int))), [], [false = false, decide (Int.tmod x (↑(n + 1) : Int) < (0 : Int)) = true]) := by kernel_rfl
theorem pk_b (x : Int) (n : Nat) : prjV (runZ pkVv Try.prog 5 31 [.int .i64 x, .int .i64 ((n + 1 : Nat) : Int)] [] 4 [false, false]) =
  Res.ok (Value.int IntKind.i64 (Int.tmod x (↑(n + 1) : Int)), [], [false = false, decide (Int.tmod x (↑(n + 1) : Int) < (0 : Int)) = false]) := by kernel_rfl
theorem pkN_lt {x : Int} {n : Nat} : pkN x ((n + 1 : Nat) : Int) ≤ n := by
  have h1 := Int.tmod_lt_of_pos x (b := ((n + 1 : Nat) : Int)) (by omega)
  have h2 := Int.lt_tmod_of_pos x (b := ((n + 1 : Nat) : Int)) (by omega)
  unfold pkN
  split <;> omega
def gPk : GSpecD := fun aL tp => match aL with
  | [.fl (.int .i64 x), .fl (.int .i64 y)] => some (⟨fun _ => .int .i64 (pkN x y : Int), []⟩, tp, [0 < y ∧ y ≤ 9000000])
  | _ => none
theorem wrS {z : Int} (h0 : -9223372036854775808 ≤ z) (h1 : z ≤ 9223372036854775807) : IntKind.wrap IntKind.i64 z = z := by
  rw [IntKind.wrap_i64]
  omega
theorem pk_gok : GOkD Try.prog 31 gPk := by
  intro aL tp gr tp' ob hG ho cs hc
  unfold gPk at hG
  split at hG
  case h_2 => cases hG
  rename_i x y
  simp only [Option.some.injEq, Prod.mk.injEq] at hG
  obtain ⟨rfl, rfl, rfl⟩ := hG
  obtain ⟨⟨h0, h9⟩, _⟩ := ho
  obtain ⟨n, rfl⟩ : ∃ n : Nat, y = ((n + 1 : Nat) : Int) := ⟨y.toNat - 1, by omega⟩
  have hX : XOkZ pkVv Try.prog := noXz_ok rfl
  have hT : TOkZ pkVv Try.prog := noTz_okV rfl
  have hL : LOkZ pkVv Try.prog := noL_okV rfl
  have h1 := Int.tmod_lt_of_pos x (b := ((n + 1 : Nat) : Int)) (by omega)
  have h2 := Int.lt_tmod_of_pos x (b := ((n + 1 : Nat) : Int)) (by omega)
  by_cases hn : x.tmod ((n + 1 : Nat) : Int) < 0
  · obtain ⟨h', nx', dd, T⟩ := run_val hX hT hL (pk_a x n) ⟨rfl, decide_eq_true hn, trivial⟩ rfl
    rw [wrS (by omega) (by omega)] at T
    refine ⟨_, h', nx', dd, fun n => n, T, ?_⟩
    have e : ((pkN x ((n + 1 : Nat) : Int) : Nat) : Int) = x.tmod ((n + 1 : Nat) : Int) + ((n + 1 : Nat) : Int) := by unfold pkN; rw [if_pos hn]; omega
    rw [e]
    exact GrD.flat fun σ => rfl
  · obtain ⟨h', nx', dd, T⟩ := run_val hX hT hL (pk_b x n) ⟨rfl, decide_eq_false hn, trivial⟩ rfl
    refine ⟨_, h', nx', dd, fun n => n, T, ?_⟩
    have e : ((pkN x ((n + 1 : Nat) : Int) : Nat) : Int) = x.tmod ((n + 1 : Nat) : Int) := by unfold pkN; rw [if_neg hn]; omega
    rw [e]
    exact GrD.flat fun σ => rfl
end Go.Proofs.Ytmoflcoijmmpjaa
/-
  Chapter 14: the statement MergeTwice: the law's runs.
-/
namespace Go.Proofs.Ytmoflcoijmmpjaa
set_option linter.unusedSimpArgs false
set_option linter.unusedVariables false
set_option linter.unusedSectionVars false
open Go Go.RowKit
/-! ### the contract again, its results named -/
def gMgP (W A B : List Pr) : GSpecD := fun aL tp => match aL, tp with
  | [.dl ds n, .fl (.bool dr)], false :: tp' => some (⟨fun _ => tupM nlV 2, []⟩, tp', [MgA ds n, n ≤ 32, sumL (llOf ds) ≤ 4096, allA (llOf ds) = false])
  | [.dl ds n, .fl (.bool dr)], true :: t1 :: t2 :: true :: tp' => some (⟨fun _ => tupM nlV 0, []⟩, tp', [MgB ds n ∧ mgOut dr (llOf ds) = bif t1 then W else bif t2 then A else B, (bif t1 then W else bif t2 then A else B) = []])
  | [.dl ds n, .fl (.bool dr)], true :: t1 :: t2 :: false :: tp' => some (⟨fun nx => tupM (.slice (some ⟨nx, 0, none⟩) (bif t1 then W else bif t2 then A else B).length (capBig + nx)) 0, [⟨.df 3 zPr (cpD (bif t1 then W else bif t2 then A else B)), []⟩]⟩, tp', [MgB ds n ∧ mgOut dr (llOf ds) = bif t1 then W else bif t2 then A else B, (bif t1 then W else bif t2 then A else B) ≠ []])
  | _, _ => none
theorem mgp_gok (W A B : List Pr) : GOkD Try.prog 12 (gMgP W A B) := by
  intro aL tp gr tp' ob hG ho cs hc
  unfold gMgP at hG
  split at hG
  · rename_i ds n dr tp2
    simp only [Option.some.injEq, Prod.mk.injEq] at hG
    obtain ⟨rfl, rfl, rfl⟩ := hG
    exact mg_gok _ (false :: false :: tp2) _ _ _ rfl ho cs hc
  · rename_i ds n dr t1 t2 tp2
    simp only [Option.some.injEq, Prod.mk.injEq] at hG
    obtain ⟨rfl, rfl, rfl⟩ := hG
    obtain ⟨⟨h1, h2⟩, h3, _⟩ := ho
    exact mg_gok _ (false :: true :: true :: tp2) _ _ [MgB ds n, mgOut dr (llOf ds) = []] rfl ⟨h1, h2.trans h3, trivial⟩ cs hc
  · rename_i ds n dr t1 t2 tp2
    simp only [Option.some.injEq, Prod.mk.injEq] at hG
    obtain ⟨rfl, rfl, rfl⟩ := hG
    obtain ⟨⟨h1, h2⟩, h3, _⟩ := ho
    rw [← h2] at h3 ⊢
    exact mg_gok _ (false :: true :: false :: tp2) _ _ [MgB ds n, mgOut dr (llOf ds) ≠ []] rfl ⟨h1, h3, trivial⟩ cs hc
  · cases hG
def gPkP (k : Nat) : GSpecD := fun aL tp => match aL with
  | [.fl (.int .i64 x), .fl (.int .i64 y)] => some (⟨fun _ => .int .i64 (k : Int), []⟩, tp, [0 < y ∧ y ≤ 9000000 ∧ pkN x y = k])
  | _ => none
theorem pkp_gok (k : Nat) : GOkD Try.prog 31 (gPkP k) := by
  intro aL tp gr tp' ob hG ho cs hc
  unfold gPkP at hG
  split at hG
  case h_2 => cases hG
  rename_i x y
  simp only [Option.some.injEq, Prod.mk.injEq] at hG
  obtain ⟨rfl, rfl, rfl⟩ := hG
  obtain ⟨⟨h0, h9, rfl⟩, _⟩ := ho
  exact pk_gok _ tp _ _ [0 < y ∧ y ≤ 9000000] rfl ⟨⟨h0, h9⟩, trivial⟩ cs hc
theorem kn_gok : GOk Try.prog 5 [] gTrueY := gTrueY_ok known_any
def mtT (W A B : List Pr) (k : Nat) : TFun := orTz (mkT 5 [] gTrueY) (orTz (mkD 9 [.e 1, .f, .f] gLs) (orTz (mkD 12 [.e 1, .f] (gMgP W A B)) (orTz (mkD 31 [.f, .f] (gPkP k)) pxTs)))
theorem mtT_one (W A B : List Pr) (k : Nat) : TOneZ Try.prog (mtT W A B k) := orTz_ok (mkT_one kn_gok) (orTz_ok (mkD_ok ls_gok) (orTz_ok (mkD_ok (mgp_gok W A B)) (orTz_ok (mkD_ok (pkp_gok k)) pxTs_one)))
def mtV (W A B : List Pr) (k : Nat) : Tv := ⟨mtT W A B k, cmpY, noL, fun _ => [], lsSy 7 [(32, 0), (37, 0), (44, 0)], fun _ => [], fun _ => 0⟩
theorem mt_big (n c k : Nat) (x : Int) (dr : Bool) (ds : List DV) (W A B : List Pr) : prjV (runZ (mtV W A B k) Try.prog 12 7 [.slice (some ⟨0, 0, none⟩) n c, .int .i64 x, .bool dr] [(0, ⟨.sd ds, []⟩)] 3 [true]) =
  Res.ok (Value.bool true, [], [LsOk (cnL (List.take n (List.drop 0 ds))) n ∧ (decide ((↑n : Int) > (16 : Int)) || List.any (llOf (cnL (List.take n (List.drop 0 ds)))) (lgL (40 : Int))) = true, (16 : Int) ≤ (9000000 : Int),
 (40 : Int) ≤ (9000000 : Int)]) := by kernel_rfl
theorem mt_uns (n c k : Nat) (x : Int) (dr : Bool) (ds : List DV) (W A B : List Pr) : prjV (runZ (mtV W A B k) Try.prog 12 7 [.slice (some ⟨0, 0, none⟩) n c, .int .i64 x, .bool dr] [(0, ⟨.sd ds, []⟩)] 3 [false, false]) =
  Res.ok (Value.bool true, [], [LsOk (cnL (List.take n (List.drop 0 ds))) n ∧ (decide ((↑n : Int) > (16 : Int)) || List.any (llOf (cnL (List.take n (List.drop 0 ds)))) (lgL (40 : Int))) = false, (16 : Int) ≤ (9000000 :
 Int), (40 : Int) ≤ (9000000 : Int), MgA (cnL (List.take n (List.drop 0 ds))) n, n ≤ 32, sumL (llOf (cnL (List.take n (List.drop 0 ds)))) ≤ 4096, allA (llOf (cnL (List.take n (List.drop 0 ds)))) = false]) := by kernel_rfl
theorem mt_nnn (n c k : Nat) (x : Int) (dr : Bool) (ds : List DV) (W A B : List Pr) : prjV (runZ (mtV W A B k) Try.prog 12 7 [.slice (some ⟨0, 0, none⟩) n c, .int .i64 x, .bool dr] [(0, ⟨.sd ds, []⟩)] 3 [false, true, true, true, true, true, false, true, true, true, false, false, true, true, true, true, true]) =
  Res.ok (Value.bool true, [], [LsOk (cnL (List.take n (List.drop 0 ds))) n ∧ (decide ((↑n : Int) > (16 : Int)) || List.any (llOf (cnL (List.take n (List.drop 0 ds)))) (lgL (40 : Int))) = false, (16 : Int) ≤ (9000000 :
 Int), (40 : Int) ≤ (9000000 : Int), MgB (cnL (List.take n (List.drop 0 ds))) n ∧ mgOut dr (llOf (cnL (List.take n (List.drop 0 ds)))) = bif true then W else bif true then A else B, (bif true then W else bif true then A
 else B) = [], rg IntKind.i64 (↑(n + 1) : Int), (0 : Int) < (↑(n + 1) : Int) ∧ (↑(n + 1) : Int) ≤ (9000000 : Int) ∧ pkN x (↑(n + 1) : Int) = k, c < 18446744073709551616, (0 : Int) ≤ (↑k : Int) ∧ (↑k : Int) ≤ (↑c : Int),
 MgB (cnL (List.take k (List.drop 0 ds))) k ∧ mgOut false (llOf (cnL (List.take k (List.drop 0 ds)))) = bif false then W else bif true then A else B, (bif false then W else bif true then A else B) = [], c <
 18446744073709551616, (0 : Int) ≤ (↑k : Int) ∧ (↑k : Int) ≤ (↑n : Int), MgB (cnL (List.take (sbN n k) (List.drop (loO (some (Value.int IntKind.i64 (↑k : Int))) 0 k c 1) ds))) (sbN n k) ∧ mgOut false (llOf (cnL (List.take
 (sbN n k) (List.drop (loO (some (Value.int IntKind.i64 (↑k : Int))) 0 k c 1) ds)))) = bif false then W else bif false then A else B, (bif false then W else bif false then A else B) = [], 2 = 0 → [DV.sl 0 none [], DV.sl 0
 none []] = [], MgB [DV.sl 0 none [], DV.sl 0 none []] 2 ∧ mgOut dr (llOf [DV.sl 0 none [], DV.sl 0 none []]) = bif true then W else bif true then A else B, (bif true then W else bif true then A else B) = [], SpOk [] [] 0
 ∧ 0 = 0]) := by kernel_rfl
theorem mt_nnr (n c k : Nat) (x : Int) (dr : Bool) (ds : List DV) (W A B : List Pr) : prjV (runZ (mtV W A B k) Try.prog 12 7 [.slice (some ⟨0, 0, none⟩) n c, .int .i64 x, .bool dr] [(0, ⟨.sd ds, []⟩)] 3 [false, true, true, true, true, true, false, true, true, true, false, false, false, true, true, true, true]) =
  Res.ok (Value.bool true, [], [LsOk (cnL (List.take n (List.drop 0 ds))) n ∧ (decide ((↑n : Int) > (16 : Int)) || List.any (llOf (cnL (List.take n (List.drop 0 ds)))) (lgL (40 : Int))) = false, (16 : Int) ≤ (9000000 :
 Int), (40 : Int) ≤ (9000000 : Int), MgB (cnL (List.take n (List.drop 0 ds))) n ∧ mgOut dr (llOf (cnL (List.take n (List.drop 0 ds)))) = bif true then W else bif true then A else B, (bif true then W else bif true then A
 else B) = [], rg IntKind.i64 (↑(n + 1) : Int), (0 : Int) < (↑(n + 1) : Int) ∧ (↑(n + 1) : Int) ≤ (9000000 : Int) ∧ pkN x (↑(n + 1) : Int) = k, c < 18446744073709551616, (0 : Int) ≤ (↑k : Int) ∧ (↑k : Int) ≤ (↑c : Int),
 MgB (cnL (List.take k (List.drop 0 ds))) k ∧ mgOut false (llOf (cnL (List.take k (List.drop 0 ds)))) = bif false then W else bif true then A else B, (bif false then W else bif true then A else B) = [], c <
 18446744073709551616, (0 : Int) ≤ (↑k : Int) ∧ (↑k : Int) ≤ (↑n : Int), MgB (cnL (List.take (sbN n k) (List.drop (loO (some (Value.int IntKind.i64 (↑k : Int))) 0 k c 1) ds))) (sbN n k) ∧ mgOut false (llOf (cnL (List.take
 (sbN n k) (List.drop (loO (some (Value.int IntKind.i64 (↑k : Int))) 0 k c 1) ds)))) = bif false then W else bif false then A else B, (bif false then W else bif false then A else B) ≠ [], 2 = 0 → [DV.sl 0 none [], DV.sl
 (List.length (bif false then W else bif false then A else B)) none (cnL (cpD (bif false then W else bif false then A else B)))] = [], List.length (bif false then W else bif false then A else B) = 0 → cpD (bif false then W
 else bif false then A else B) = [], MgB [DV.sl 0 none [], DV.sl (List.length (bif false then W else bif false then A else B)) none (cnL (cpD (bif false then W else bif false then A else B)))] 2 ∧ mgOut dr (llOf [DV.sl 0
 none [], DV.sl (List.length (bif false then W else bif false then A else B)) none (cnL (cpD (bif false then W else bif false then A else B)))]) = bif true then W else bif true then A else B, (bif true then W else bif true
 then A else B) = [], SpOk [] [] 0 ∧ 0 = 0]) := by kernel_rfl
theorem mt_nrn (n c k : Nat) (x : Int) (dr : Bool) (ds : List DV) (W A B : List Pr) : prjV (runZ (mtV W A B k) Try.prog 12 7 [.slice (some ⟨0, 0, none⟩) n c, .int .i64 x, .bool dr] [(0, ⟨.sd ds, []⟩)] 3 [false, true, true, true, true, true, false, true, false, true, false, false, true, true, true, true, true]) =
  Res.ok (Value.bool true, [], [LsOk (cnL (List.take n (List.drop 0 ds))) n ∧ (decide ((↑n : Int) > (16 : Int)) || List.any (llOf (cnL (List.take n (List.drop 0 ds)))) (lgL (40 : Int))) = false, (16 : Int) ≤ (9000000 :
 Int), (40 : Int) ≤ (9000000 : Int), MgB (cnL (List.take n (List.drop 0 ds))) n ∧ mgOut dr (llOf (cnL (List.take n (List.drop 0 ds)))) = bif true then W else bif true then A else B, (bif true then W else bif true then A
 else B) = [], rg IntKind.i64 (↑(n + 1) : Int), (0 : Int) < (↑(n + 1) : Int) ∧ (↑(n + 1) : Int) ≤ (9000000 : Int) ∧ pkN x (↑(n + 1) : Int) = k, c < 18446744073709551616, (0 : Int) ≤ (↑k : Int) ∧ (↑k : Int) ≤ (↑c : Int),
 MgB (cnL (List.take k (List.drop 0 ds))) k ∧ mgOut false (llOf (cnL (List.take k (List.drop 0 ds)))) = bif false then W else bif true then A else B, (bif false then W else bif true then A else B) ≠ [], c <
 18446744073709551616, (0 : Int) ≤ (↑k : Int) ∧ (↑k : Int) ≤ (↑n : Int), MgB (cnL (List.take (sbN n k) (List.drop (loO (some (Value.int IntKind.i64 (↑k : Int))) 0 k c 1) ds))) (sbN n k) ∧ mgOut false (llOf (cnL (List.take
 (sbN n k) (List.drop (loO (some (Value.int IntKind.i64 (↑k : Int))) 0 k c 1) ds)))) = bif false then W else bif false then A else B, (bif false then W else bif false then A else B) = [], 2 = 0 → [DV.sl (List.length (bif
 false then W else bif true then A else B)) none (cnL (cpD (bif false then W else bif true then A else B))), DV.sl 0 none []] = [], List.length (bif false then W else bif true then A else B) = 0 → cpD (bif false then W
 else bif true then A else B) = [], MgB [DV.sl (List.length (bif false then W else bif true then A else B)) none (cnL (cpD (bif false then W else bif true then A else B))), DV.sl 0 none []] 2 ∧ mgOut dr (llOf [DV.sl
 (List.length (bif false then W else bif true then A else B)) none (cnL (cpD (bif false then W else bif true then A else B))), DV.sl 0 none []]) = bif true then W else bif true then A else B, (bif true then W else bif true
 then A else B) = [], SpOk [] [] 0 ∧ 0 = 0]) := by kernel_rfl
theorem mt_nrr (n c k : Nat) (x : Int) (dr : Bool) (ds : List DV) (W A B : List Pr) : prjV (runZ (mtV W A B k) Try.prog 12 7 [.slice (some ⟨0, 0, none⟩) n c, .int .i64 x, .bool dr] [(0, ⟨.sd ds, []⟩)] 3 [false, true, true, true, true, true, false, true, false, true, false, false, false, true, true, true, true]) =
  Res.ok (Value.bool true, [], [LsOk (cnL (List.take n (List.drop 0 ds))) n ∧ (decide ((↑n : Int) > (16 : Int)) || List.any (llOf (cnL (List.take n (List.drop 0 ds)))) (lgL (40 : Int))) = false, (16 : Int) ≤ (9000000 :
 Int), (40 : Int) ≤ (9000000 : Int), MgB (cnL (List.take n (List.drop 0 ds))) n ∧ mgOut dr (llOf (cnL (List.take n (List.drop 0 ds)))) = bif true then W else bif true then A else B, (bif true then W else bif true then A
 else B) = [], rg IntKind.i64 (↑(n + 1) : Int), (0 : Int) < (↑(n + 1) : Int) ∧ (↑(n + 1) : Int) ≤ (9000000 : Int) ∧ pkN x (↑(n + 1) : Int) = k, c < 18446744073709551616, (0 : Int) ≤ (↑k : Int) ∧ (↑k : Int) ≤ (↑c : Int),
 MgB (cnL (List.take k (List.drop 0 ds))) k ∧ mgOut false (llOf (cnL (List.take k (List.drop 0 ds)))) = bif false then W else bif true then A else B, (bif false then W else bif true then A else B) ≠ [], c <
 18446744073709551616, (0 : Int) ≤ (↑k : Int) ∧ (↑k : Int) ≤ (↑n : Int), MgB (cnL (List.take (sbN n k) (List.drop (loO (some (Value.int IntKind.i64 (↑k : Int))) 0 k c 1) ds))) (sbN n k) ∧ mgOut false (llOf (cnL (List.take
 (sbN n k) (List.drop (loO (some (Value.int IntKind.i64 (↑k : Int))) 0 k c 1) ds)))) = bif false then W else bif false then A else B, (bif false then W else bif false then A else B) ≠ [], 2 = 0 → [DV.sl (List.length (bif
 false then W else bif true then A else B)) none (cnL (cpD (bif false then W else bif true then A else B))), DV.sl (List.length (bif false then W else bif false then A else B)) none (cnL (cpD (bif false then W else bif
 false then A else B)))] = [], List.length (bif false then W else bif true then A else B) = 0 → cpD (bif false then W else bif true then A else B) = [], List.length (bif false then W else bif false then A else B) = 0 → cpD
 (bif false then W else bif false then A else B) = [], MgB [DV.sl (List.length (bif false then W else bif true then A else B)) none (cnL (cpD (bif false then W else bif true then A else B))), DV.sl (List.length (bif false
 then W else bif false then A else B)) none (cnL (cpD (bif false then W else bif false then A else B)))] 2 ∧ mgOut dr (llOf [DV.sl (List.length (bif false then W else bif true then A else B)) none (cnL (cpD (bif false then
 W else bif true then A else B))), DV.sl (List.length (bif false then W else bif false then A else B)) none (cnL (cpD (bif false then W else bif false then A else B)))]) = bif true then W else bif true then A else B, (bif
 true then W else bif true then A else B) = [], SpOk [] [] 0 ∧ 0 = 0]) := by kernel_rfl
theorem mt_rnr (n c k : Nat) (x : Int) (dr : Bool) (ds : List DV) (W A B : List Pr) : prjV (runZ (mtV W A B k) Try.prog 12 7 [.slice (some ⟨0, 0, none⟩) n c, .int .i64 x, .bool dr] [(0, ⟨.sd ds, []⟩)] 3 [false, true, true, true, false, true, false, true, true, true, false, false, false, true, true, true, false]) =
  Res.ok (Value.bool true, [], ((fun (q0 q1 q2 : Prop) => [LsOk (cnL (List.take n (List.drop 0 ds))) n ∧ (decide ((↑n : Int) > (16 : Int)) || List.any (llOf (cnL (List.take n (List.drop 0 ds)))) (lgL (40 : Int))) = false,
 (16 : Int) ≤ (9000000 : Int), (40 : Int) ≤ (9000000 : Int), MgB (cnL (List.take n (List.drop 0 ds))) n ∧ mgOut dr (llOf (cnL (List.take n (List.drop 0 ds)))) = bif true then W else bif true then A else B, q0, rg
 IntKind.i64 (↑(n + 1) : Int), (0 : Int) < (↑(n + 1) : Int) ∧ (↑(n + 1) : Int) ≤ (9000000 : Int) ∧ pkN x (↑(n + 1) : Int) = k, q1, (0 : Int) ≤ (↑k : Int) ∧ (↑k : Int) ≤ (↑c : Int), MgB (cnL (List.take k (List.drop 0 ds)))
 k ∧ mgOut false (llOf (cnL (List.take k (List.drop 0 ds)))) = bif false then W else bif true then A else B, (bif false then W else bif true then A else B) = [], q1, (0 : Int) ≤ (↑k : Int) ∧ (↑k : Int) ≤ (↑n : Int), MgB
 (cnL (List.take (sbN n k) (List.drop (loO (some (Value.int IntKind.i64 (↑k : Int))) 0 k c 1) ds))) (sbN n k) ∧ mgOut false (llOf (cnL (List.take (sbN n k) (List.drop (loO (some (Value.int IntKind.i64 (↑k : Int))) 0 k c 1)
 ds)))) = bif false then W else bif false then A else B, (bif false then W else bif false then A else B) ≠ [], 2 = 0 → [DV.sl 0 none [], DV.sl (List.length (bif false then W else bif false then A else B)) none (cnL (cpD
 (bif false then W else bif false then A else B)))] = [], List.length (bif false then W else bif false then A else B) = 0 → cpD (bif false then W else bif false then A else B) = [], MgB [DV.sl 0 none [], DV.sl (List.length
 (bif false then W else bif false then A else B)) none (cnL (cpD (bif false then W else bif false then A else B)))] 2 ∧ mgOut dr (llOf [DV.sl 0 none [], DV.sl (List.length (bif false then W else bif false then A else B))
 none (cnL (cpD (bif false then W else bif false then A else B)))]) = bif true then W else bif true then A else B, q0, q2, q2, SpOk (cpD (bif true then W else bif true then A else B)) (cpD (bif true then W else bif true
 then A else B)) (List.length (bif true then W else bif true then A else B)) ∧ List.length (bif true then W else bif true then A else B) = List.length (bif true then W else bif true then A else B)]) ((bif true then W else
 bif true then A else B) ≠ []) (c < 18446744073709551616) (List.length (bif true then W else bif true then A else B) = 0 → cpD (bif true then W else bif true then A else B) = []))) := by kernel_rfl
theorem mt_rrn (n c k : Nat) (x : Int) (dr : Bool) (ds : List DV) (W A B : List Pr) : prjV (runZ (mtV W A B k) Try.prog 12 7 [.slice (some ⟨0, 0, none⟩) n c, .int .i64 x, .bool dr] [(0, ⟨.sd ds, []⟩)] 3 [false, true, true, true, false, true, false, true, false, true, false, false, true, true, true, true, false]) =
  Res.ok (Value.bool true, [], ((fun (q0 q1 q2 : Prop) => [LsOk (cnL (List.take n (List.drop 0 ds))) n ∧ (decide ((↑n : Int) > (16 : Int)) || List.any (llOf (cnL (List.take n (List.drop 0 ds)))) (lgL (40 : Int))) = false,
 (16 : Int) ≤ (9000000 : Int), (40 : Int) ≤ (9000000 : Int), MgB (cnL (List.take n (List.drop 0 ds))) n ∧ mgOut dr (llOf (cnL (List.take n (List.drop 0 ds)))) = bif true then W else bif true then A else B, q0, rg
 IntKind.i64 (↑(n + 1) : Int), (0 : Int) < (↑(n + 1) : Int) ∧ (↑(n + 1) : Int) ≤ (9000000 : Int) ∧ pkN x (↑(n + 1) : Int) = k, q1, (0 : Int) ≤ (↑k : Int) ∧ (↑k : Int) ≤ (↑c : Int), MgB (cnL (List.take k (List.drop 0 ds)))
 k ∧ mgOut false (llOf (cnL (List.take k (List.drop 0 ds)))) = bif false then W else bif true then A else B, (bif false then W else bif true then A else B) ≠ [], q1, (0 : Int) ≤ (↑k : Int) ∧ (↑k : Int) ≤ (↑n : Int), MgB
 (cnL (List.take (sbN n k) (List.drop (loO (some (Value.int IntKind.i64 (↑k : Int))) 0 k c 1) ds))) (sbN n k) ∧ mgOut false (llOf (cnL (List.take (sbN n k) (List.drop (loO (some (Value.int IntKind.i64 (↑k : Int))) 0 k c 1)
 ds)))) = bif false then W else bif false then A else B, (bif false then W else bif false then A else B) = [], 2 = 0 → [DV.sl (List.length (bif false then W else bif true then A else B)) none (cnL (cpD (bif false then W
 else bif true then A else B))), DV.sl 0 none []] = [], List.length (bif false then W else bif true then A else B) = 0 → cpD (bif false then W else bif true then A else B) = [], MgB [DV.sl (List.length (bif false then W
 else bif true then A else B)) none (cnL (cpD (bif false then W else bif true then A else B))), DV.sl 0 none []] 2 ∧ mgOut dr (llOf [DV.sl (List.length (bif false then W else bif true then A else B)) none (cnL (cpD (bif
 false then W else bif true then A else B))), DV.sl 0 none []]) = bif true then W else bif true then A else B, q0, q2, q2, SpOk (cpD (bif true then W else bif true then A else B)) (cpD (bif true then W else bif true then A
 else B)) (List.length (bif true then W else bif true then A else B)) ∧ List.length (bif true then W else bif true then A else B) = List.length (bif true then W else bif true then A else B)]) ((bif true then W else bif
 true then A else B) ≠ []) (c < 18446744073709551616) (List.length (bif true then W else bif true then A else B) = 0 → cpD (bif true then W else bif true then A else B) = []))) := by kernel_rfl
theorem mt_rrr (n c k : Nat) (x : Int) (dr : Bool) (ds : List DV) (W A B : List Pr) : prjV (runZ (mtV W A B k) Try.prog 12 7 [.slice (some ⟨0, 0, none⟩) n c, .int .i64 x, .bool dr] [(0, ⟨.sd ds, []⟩)] 3 [false, true, true, true, false, true, false, true, false, true, false, false, false, true, true, true, false]) =
  Res.ok (Value.bool true, [], ((fun (q0 q1 q2 : Prop) => [LsOk (cnL (List.take n (List.drop 0 ds))) n ∧ (decide ((↑n : Int) > (16 : Int)) || List.any (llOf (cnL (List.take n (List.drop 0 ds)))) (lgL (40 : Int))) = false,
 (16 : Int) ≤ (9000000 : Int), (40 : Int) ≤ (9000000 : Int), MgB (cnL (List.take n (List.drop 0 ds))) n ∧ mgOut dr (llOf (cnL (List.take n (List.drop 0 ds)))) = bif true then W else bif true then A else B, q0, rg
 IntKind.i64 (↑(n + 1) : Int), (0 : Int) < (↑(n + 1) : Int) ∧ (↑(n + 1) : Int) ≤ (9000000 : Int) ∧ pkN x (↑(n + 1) : Int) = k, q1, (0 : Int) ≤ (↑k : Int) ∧ (↑k : Int) ≤ (↑c : Int), MgB (cnL (List.take k (List.drop 0 ds)))
 k ∧ mgOut false (llOf (cnL (List.take k (List.drop 0 ds)))) = bif false then W else bif true then A else B, (bif false then W else bif true then A else B) ≠ [], q1, (0 : Int) ≤ (↑k : Int) ∧ (↑k : Int) ≤ (↑n : Int), MgB
 (cnL (List.take (sbN n k) (List.drop (loO (some (Value.int IntKind.i64 (↑k : Int))) 0 k c 1) ds))) (sbN n k) ∧ mgOut false (llOf (cnL (List.take (sbN n k) (List.drop (loO (some (Value.int IntKind.i64 (↑k : Int))) 0 k c 1)
 ds)))) = bif false then W else bif false then A else B, (bif false then W else bif false then A else B) ≠ [], 2 = 0 → [DV.sl (List.length (bif false then W else bif true then A else B)) none (cnL (cpD (bif false then W
 else bif true then A else B))), DV.sl (List.length (bif false then W else bif false then A else B)) none (cnL (cpD (bif false then W else bif false then A else B)))] = [], List.length (bif false then W else bif true then
 A else B) = 0 → cpD (bif false then W else bif true then A else B) = [], List.length (bif false then W else bif false then A else B) = 0 → cpD (bif false then W else bif false then A else B) = [], MgB [DV.sl (List.length
 (bif false then W else bif true then A else B)) none (cnL (cpD (bif false then W else bif true then A else B))), DV.sl (List.length (bif false then W else bif false then A else B)) none (cnL (cpD (bif false then W else
 bif false then A else B)))] 2 ∧ mgOut dr (llOf [DV.sl (List.length (bif false then W else bif true then A else B)) none (cnL (cpD (bif false then W else bif true then A else B))), DV.sl (List.length (bif false then W else
 bif false then A else B)) none (cnL (cpD (bif false then W else bif false then A else B)))]) = bif true then W else bif true then A else B, q0, q2, q2, SpOk (cpD (bif true then W else bif true then A else B)) (cpD (bif
 true then W else bif true then A else B)) (List.length (bif true then W else bif true then A else B)) ∧ List.length (bif true then W else bif true then A else B) = List.length (bif true then W else bif true then A else
 B)]) ((bif true then W else bif true then A else B) ≠ []) (c < 18446744073709551616) (List.length (bif true then W else bif true then A else B) = 0 → cpD (bif true then W else bif true then A else B) = []))) := by kernel_rfl
end Go.Proofs.Ytmoflcoijmmpjaa
/-
  Chapter 14: the statement MergeTwice, at any arguments.
-/
namespace Go.Proofs.Ytmoflcoijmmpjaa
set_option linter.unusedSimpArgs false
set_option linter.unusedVariables false
set_option linter.unusedSectionVars false
open Go Go.RowKit
theorem cnL_prs : ∀ {ps : List Pr} {ds : List DV}, Prs ds ps → cnL ds = cpD ps
  | [], ds, h => by rw [show ds = [] from h]; simp [cnL, cpD]
  | p :: ps, ds, h => by
      obtain ⟨c1, c2, r, rfl, hr⟩ := h
      rw [cnL_app, cnL_prs hr, cpD_cons]
      simp only [prD, cnL, cnD, cnL_by]
theorem cnL_take : ∀ (k : Nat) (ds : List DV), cnL (ds.take k) = (cnL ds).take k
  | 0, ds => by simp [cnL]
  | k + 1, [] => by simp [cnL]
  | k + 1, d :: ds => by simp only [List.take_succ_cons, cnL, cnL_take k ds]
theorem cnL_drop : ∀ (k : Nat) (ds : List DV), cnL (ds.drop k) = (cnL ds).drop k
  | 0, ds => rfl
  | k + 1, [] => by simp [cnL]
  | k + 1, d :: ds => by simp only [List.drop_succ_cons, cnL, cnL_drop k ds]
/-- Lists of lists of pairs, as they come. -/
theorem lls_of : ∀ {rows : List (List DV)}, (∀ r, r ∈ rows → ShsOk [.sl [.sl [.i .u8], .sl [.i .u8], .b]] r) → ∃ L : List (List Pr), cnL rows.flatten = llD L ∧ L.length = rows.length ∧ ∀ l ∈ L, ∀ p ∈ l, PrOk p
  | [], _ => ⟨[], by simp [cnL, llD], rfl, fun x hx => by cases hx⟩
  | r :: rows, h => by
      obtain ⟨L, h1, h2, h3⟩ := lls_of (rows := rows) fun x hx => h x (List.mem_cons_of_mem _ hx)
      have hr := h r (List.mem_cons_self ..)
      simp only [ShsOk] at hr
      obtain ⟨d1, _, rfl, g1, rfl⟩ := hr
      simp only [ShOk] at g1
      obtain ⟨len, cap, rs, rfl, _, _, h7, h8⟩ := g1
      obtain ⟨ps, k1, k2, k3⟩ := prs_of (rows := rs) fun x hx => by
        simp only [ShsOk, ShOk]
        have := h8 x hx
        simp only [ShsOk, ShOk] at this
        exact this
      refine ⟨ps :: L, ?_, by simp [h2], fun l hl => ?_⟩
      · simp only [List.flatten_cons, List.cons_append, List.nil_append, cnL, cnD, h1, cnL_prs k1]
        rw [← h7, ← k2]
        rfl
      · rcases List.mem_cons.1 hl with rfl | hl
        · exact k3
        · exact h3 l hl
theorem lls_len {rows : List (List DV)} (h : ∀ r, r ∈ rows → ShsOk [.sl [.sl [.i .u8], .sl [.i .u8], .b]] r) : rows.flatten.length = rows.length := by
  induction rows with
  | nil => rfl
  | cons r rows ih =>
    have h1 := (h r (List.mem_cons_self ..)).len
    have h2 := ih fun x hx => h x (List.mem_cons_of_mem _ hx)
    rw [List.flatten_cons, List.length_append, h1, h2]
    simp; omega
/-- Lists that are not large. -/
structure SmL (L : List (List Pr)) (m B : Nat) : Prop where
  l : L.length ≤ m
  b : ∀ l ∈ L, l.length ≤ B
  O : ∀ l ∈ L, ∀ p ∈ l, PrOk p
  z : ∀ l ∈ L, ∀ p ∈ l, PrSz p
  a : L.all asc = true
theorem sumL_leB {L : List (List Pr)} {B : Nat} (hm : ∀ l ∈ L, l.length ≤ B) : sumL L ≤ L.length * B := by
  induction L with
  | nil => simp [sumL]
  | cons l L ih =>
    have h1 := hm l (List.mem_cons_self ..)
    have h2 := ih fun x hx => hm x (List.mem_cons_of_mem _ hx)
    simp only [sumL, List.map_cons, List.sum_cons, List.length_cons, Nat.succ_mul] at h2 ⊢
    omega
theorem SmL.mg {L : List (List Pr)} {m B n : Nat} (h : SmL L m B) (hn : L.length = n) (h1 : m ≤ 32) (h2 : m * B ≤ 4096) (h3 : B ≤ 4096) : MgB (llD L) n := by
  have hs := sumL_leB h.b
  have hl := h.l
  have hm := Nat.mul_le_mul_right B hl
  refine ⟨⟨⟨by rw [llOf_ll]; exact hn, by omega, by rw [llOf_ll]; exact fun l hl => by have := h.b l hl; omega, by rw [llOf_ll]; exact h.O⟩, by rw [llOf_ll]⟩, by omega, by rw [llOf_ll]; omega, by rw [llOf_ll]; exact h.z, by rw [llOf_ll]; exact h.a⟩
theorem SmL.take {L : List (List Pr)} {m B : Nat} (h : SmL L m B) (k : Nat) : SmL (L.take k) m B := ⟨by rw [List.length_take]; have := h.l; omega, fun l hl => h.b l (List.mem_of_mem_take hl), fun l hl => h.O l (List.mem_of_mem_take hl), fun l hl => h.z l (List.mem_of_mem_take hl), all_take h.a k⟩
theorem SmL.drop {L : List (List Pr)} {m B : Nat} (h : SmL L m B) (k : Nat) : SmL (L.drop k) m B := ⟨by rw [List.length_drop]; have := h.l; omega, fun l hl => h.b l (List.mem_of_mem_drop hl), fun l hl => h.O l (List.mem_of_mem_drop hl), fun l hl => h.z l (List.mem_of_mem_drop hl), all_drop h.a k⟩
structure OutOk (o : List Pr) (K : Nat) : Prop where
  l : o.length ≤ K
  O : ∀ p ∈ o, PrOk p
  z : ∀ p ∈ o, PrSz p
  a : asc o = true
theorem SmL.out {L : List (List Pr)} {m B : Nat} (h : SmL L m B) (dr : Bool) : OutOk (mgOut dr L) (m * B) := by
  have h1 := mgOut_len (dr := dr) h.b
  have h2 := Nat.mul_le_mul_right B h.l
  refine ⟨by omega, fun p hp => ?_, fun p hp => ?_, mgOut_asc h.a⟩
  · obtain ⟨l, g1, g2⟩ := mgOut_mem h.a hp
    exact h.O l g1 p g2
  · obtain ⟨l, g1, g2⟩ := mgOut_mem h.a hp
    exact h.z l g1 p g2
theorem two_sm {a b : List Pr} {K : Nat} (ha : OutOk a K) (hb : OutOk b K) : SmL [a, b] 2 K := by
  refine ⟨Nat.le_refl _, fun l hl => ?_, fun l hl => ?_, fun l hl => ?_, by simp only [List.all_cons, List.all_nil, ha.a, hb.a, Bool.and_true]⟩ <;>
  · simp only [List.mem_cons, List.not_mem_nil, or_false] at hl
    rcases hl with rfl | rfl
    · first | exact ha.l | exact ha.O | exact ha.z
    · first | exact hb.l | exact hb.O | exact hb.z
theorem sp_self {o : List Pr} {K : Nat} (h : OutOk o K) (hK : K ≤ 9000000) : SpOk (cpD o) (cpD o) o.length := ⟨by rw [prsOf_cp]; exact cpD_prs o, by rw [prsOf_cp]; exact cpD_prs o, by rw [prsOf_cp], by have := h.l; omega⟩
theorem drop_lo {ds : List DV} {n k c : Nat} {v : Value} (hl : ds.length = n) (hk : k ≤ n) (hc : n ≤ c) : List.take (sbN n k) (List.drop (loO (some v) 0 k c 1) ds) = ds.drop k := by
  rw [sbN_eq]
  show List.take (n - k) (List.drop (bif Nat.beq c k then 0 else 0 + k * 1) ds) = _
  by_cases e : c = k
  · have h0 : n - k = 0 := by omega
    rw [h0, List.take_zero, List.drop_of_length_le (by omega)]
  · have hb : Nat.beq c k = false := by
      cases h : Nat.beq c k with
      | true => exact absurd (Nat.eq_of_beq_eq_true h) e
      | false => rfl
    rw [hb, cond_false, Nat.zero_add, Nat.mul_one]
    exact List.take_of_length_le (by rw [List.length_drop]; omega)
theorem mt_run {W A B : List Pr} {k : Nat} {args : List Value} {hp : Hp} {nx : Nat} {tp tp' : Tape} {v : Value} {ob : List Prop} (e : prjV (runZ (mtV W A B k) Try.prog 12 7 args hp nx tp) = .ok (v, tp', ob)) (ho : Alls ob) : ∃ h' nx' d, Tri Try.prog 7 args hp nx (v, h', nx', d) :=
  run_val (XOneZ.ok cmpY_ok rfl) (T_okV rfl (mtT_one W A B k)) (noL_okV rfl) e ho rfl
theorem twice_any {W0 : World} {v0 : Value} {x : Int} {dr : Bool} {rows : List (List DV)} {c : Nat} (hA : DA.at W0 v0 (.dl rows.flatten rows.length c)) (hc : c ≤ 9223372036854775807) (hnc : rows.length ≤ c) (hr : ∀ r, r ∈ rows → ShsOk [.sl [.sl [.i .u8], .sl [.i .u8], .b]] r) :
    Calls Try.prog 7 #[v0, .int .i64 x, .bool dr] W0 fun e w' => e = .returned (.bool true) ∧ Ext W0 w' := by
  refine calls_dp [.dl rows.flatten rows.length c, .fl (.int .i64 x), .fl (.bool dr)] ?_ (fun σ => rfl) (us := [v0, .int .i64 x, .bool dr]) ⟨hA, ⟨rfl, fun σ => rfl⟩, ⟨rfl, fun σ => rfl⟩, trivial⟩
  show ∃ h' nx' d, Tri Try.prog 7 [.slice (some ⟨0, 0, none⟩) rows.length c, .int .i64 x, .bool dr] [(0, ⟨.sd rows.flatten, []⟩)] 3 (.bool true, h', nx', d)
  obtain ⟨L, hL, hn, hO⟩ := lls_of hr
  have hdl := lls_len hr
  generalize rows.length = n at *
  generalize rows.flatten = ds at *
  have etk : cnL (List.take n ds) = llD L := by rw [List.take_of_length_le (by omega), hL]
  have hLs : LsOk (llD L) n := ⟨by rw [llOf_ll], by rw [llOf_ll]; exact hn⟩
  by_cases hbig : (decide ((n : Int) > 16) || L.any (lgL 40)) = true
  · refine mt_run (W := []) (A := []) (B := []) (k := 0) (mt_big n c 0 x dr ds [] [] []) ?_
    simp only [Alls, List.drop_zero, etk]
    exact ⟨⟨hLs, by rw [llOf_ll]; exact hbig⟩, by omega, by omega, trivial⟩
  have hb0 : (decide ((n : Int) > 16) || L.any (lgL 40)) = false := by simpa using hbig
  have hb1 : n ≤ 16 ∧ L.any (lgL 40) = false := by
    simp only [Bool.or_eq_false_iff, decide_eq_false_iff_not] at hb0
    exact ⟨by omega, hb0.2⟩
  have hsm : ∀ l ∈ L, l.length ≤ 40 ∧ ∀ p ∈ l, PrSz p := fun l hl => by
    have h1 := List.any_eq_false.1 hb1.2 l hl
    simp only [lgL, Bool.not_eq_true, Bool.or_eq_false_iff, decide_eq_false_iff_not] at h1
    refine ⟨by omega, fun p hp => ?_⟩
    have h2 := List.any_eq_false.1 h1.2 p hp
    simp [big] at h2
    exact ⟨by omega, by omega⟩
  have hLs2 : LsOk (llD L) n ∧ (decide ((n : Int) > 16) || (llOf (llD L)).any (lgL 40)) = false := ⟨hLs, by rw [llOf_ll]; exact hb0⟩
  have hsum : sumL L ≤ 4096 := by
    have h1 := sumL_leB (B := 40) fun l hl => (hsm l hl).1
    have h2 := Nat.mul_le_mul_right 40 hb1.1
    rw [hn] at h1
    omega
  cases hasc : L.all asc with
  | false =>
    refine mt_run (W := []) (A := []) (B := []) (k := 0) (mt_uns n c 0 x dr ds [] [] []) ?_
    simp only [Alls, List.drop_zero, etk]
    refine ⟨hLs2, by omega, by omega, ⟨⟨by rw [llOf_ll]; exact hn, by omega, by rw [llOf_ll]; exact fun l hl => by have := (hsm l hl).1; omega, by rw [llOf_ll]; exact hO⟩, by rw [llOf_ll]⟩, by omega, by rw [llOf_ll]; exact hsum, by rw [llOf_ll]; exact hasc, trivial⟩
  | true =>
    have S : SmL L 16 40 := ⟨by omega, fun l hl => (hsm l hl).1, hO, fun l hl => (hsm l hl).2, hasc⟩
    obtain ⟨k, hk⟩ : ∃ k, pkN x ((n + 1 : Nat) : Int) = k := ⟨_, rfl⟩
    have hkn : k ≤ n := by rw [← hk]; exact pkN_lt
    have tkk : cnL (List.take k ds) = llD (L.take k) := by rw [cnL_take, hL]; simp [llD]
    have dkk : cnL (List.take (sbN n k) (List.drop (loO (some (Value.int IntKind.i64 (k : Int))) 0 k c 1) ds)) = llD (L.drop k) := by
      rw [drop_lo hdl hkn hnc, cnL_drop, hL]
      simp [llD]
    obtain ⟨W, hW⟩ : ∃ W, mgOut dr L = W := ⟨_, rfl⟩
    obtain ⟨A, hAa⟩ : ∃ A, mgOut false (L.take k) = A := ⟨_, rfl⟩
    obtain ⟨B, hBb⟩ : ∃ B, mgOut false (L.drop k) = B := ⟨_, rfl⟩
    have oW : OutOk W 640 := by rw [← hW]; exact S.out dr
    have oA : OutOk A 640 := by rw [← hAa]; exact (S.take k).out false
    have oB : OutOk B 640 := by rw [← hBb]; exact (S.drop k).out false
    have b1 : MgB (llD L) n ∧ mgOut dr (llOf (llD L)) = W := ⟨S.mg hn (by omega) (by omega) (by omega), by rw [llOf_ll]; exact hW⟩
    have b2 : MgB (llD (L.take k)) k ∧ mgOut false (llOf (llD (L.take k))) = A := ⟨(S.take k).mg (by rw [List.length_take]; omega) (by omega) (by omega) (by omega), by rw [llOf_ll]; exact hAa⟩
    have b3 : MgB (llD (L.drop k)) (sbN n k) ∧ mgOut false (llOf (llD (L.drop k))) = B := ⟨(S.drop k).mg (by rw [List.length_drop, sbN_eq, hn]) (by omega) (by omega) (by omega), by rw [llOf_ll]; exact hBb⟩
    have b4 : MgB (llD [A, B]) 2 ∧ mgOut dr (llOf (llD [A, B])) = W := ⟨(two_sm oA oB).mg rfl (by omega) (by omega) (by omega), by rw [llOf_ll, ← hAa, ← hBb, mg_twice hasc, hW]⟩
    have b5 : SpOk (cpD W) (cpD W) W.length ∧ W.length = W.length := ⟨sp_self oW (by omega), rfl⟩
    have hz : ∀ o : List Pr, o.length = 0 → cpD o = [] := fun o e => by rw [List.eq_nil_of_length_eq_zero e]; rfl
    have zA := hz A
    have zB := hz B
    have zW := hz W
    have w0 : A = [] → B = [] → W = [] := fun e1 e2 => by
      rw [← b4.2, llOf_ll, e1, e2]
      exact mgOut_nil rfl
    by_cases hW0 : W = [] <;> by_cases hA0 : A = [] <;> by_cases hB0 : B = []
    · subst hW0; subst hA0; subst hB0
      refine mt_run (mt_nnn n c k x dr ds [] [] []) ?_
      simp only [Alls, cond_true, cond_false, rg, List.drop_zero, etk, tkk, dkk, cnL_cp]
      repeat' (with_reducible apply And.intro)
      all_goals first | omega | (with_reducible assumption) | (with_reducible exact trivial) | (with_reducible rfl) | exact hLs2.2 | exact b1.1 | exact b1.2 | exact b2.1 | exact b2.2 | exact b3.1 | exact b3.2 | exact b4.1 | exact b4.2 | exact b5.1 | exact fun e => absurd e (by decide) | (rw [hk]) | skip
    · subst hW0; subst hA0
      refine mt_run (mt_nnr n c k x dr ds [] [] B) ?_
      simp only [Alls, cond_true, cond_false, rg, List.drop_zero, etk, tkk, dkk, cnL_cp]
      repeat' (with_reducible apply And.intro)
      all_goals first | omega | (with_reducible assumption) | (with_reducible exact trivial) | (with_reducible rfl) | exact hLs2.2 | exact b1.1 | exact b1.2 | exact b2.1 | exact b2.2 | exact b3.1 | exact b3.2 | exact b4.1 | exact b4.2 | exact b5.1 | exact fun e => absurd e (by decide) | (rw [hk]) | skip
    · subst hW0; subst hB0
      refine mt_run (mt_nrn n c k x dr ds [] A []) ?_
      simp only [Alls, cond_true, cond_false, rg, List.drop_zero, etk, tkk, dkk, cnL_cp]
      repeat' (with_reducible apply And.intro)
      all_goals first | omega | (with_reducible assumption) | (with_reducible exact trivial) | (with_reducible rfl) | exact hLs2.2 | exact b1.1 | exact b1.2 | exact b2.1 | exact b2.2 | exact b3.1 | exact b3.2 | exact b4.1 | exact b4.2 | exact b5.1 | exact fun e => absurd e (by decide) | (rw [hk]) | skip
    · subst hW0
      refine mt_run (mt_nrr n c k x dr ds [] A B) ?_
      simp only [Alls, cond_true, cond_false, rg, List.drop_zero, etk, tkk, dkk, cnL_cp]
      repeat' (with_reducible apply And.intro)
      all_goals first | omega | (with_reducible assumption) | (with_reducible exact trivial) | (with_reducible rfl) | exact hLs2.2 | exact b1.1 | exact b1.2 | exact b2.1 | exact b2.2 | exact b3.1 | exact b3.2 | exact b4.1 | exact b4.2 | exact b5.1 | exact fun e => absurd e (by decide) | (rw [hk]) | skip
    · exact absurd (w0 hA0 hB0) hW0
    · subst hA0
      refine mt_run (mt_rnr n c k x dr ds W [] B) ?_
      simp only [Alls, cond_true, cond_false, rg, List.drop_zero, etk, tkk, dkk, cnL_cp]
      repeat' (with_reducible apply And.intro)
      all_goals first | omega | (with_reducible assumption) | (with_reducible exact trivial) | (with_reducible rfl) | exact hLs2.2 | exact b1.1 | exact b1.2 | exact b2.1 | exact b2.2 | exact b3.1 | exact b3.2 | exact b4.1 | exact b4.2 | exact b5.1 | exact fun e => absurd e (by decide) | (rw [hk]) | skip
    · subst hB0
      refine mt_run (mt_rrn n c k x dr ds W A []) ?_
      simp only [Alls, cond_true, cond_false, rg, List.drop_zero, etk, tkk, dkk, cnL_cp]
      repeat' (with_reducible apply And.intro)
      all_goals first | omega | (with_reducible assumption) | (with_reducible exact trivial) | (with_reducible rfl) | exact hLs2.2 | exact b1.1 | exact b1.2 | exact b2.1 | exact b2.2 | exact b3.1 | exact b3.2 | exact b4.1 | exact b4.2 | exact b5.1 | exact fun e => absurd e (by decide) | (rw [hk]) | skip
    · skip
      refine mt_run (mt_rrr n c k x dr ds W A B) ?_
      simp only [Alls, cond_true, cond_false, rg, List.drop_zero, etk, tkk, dkk, cnL_cp]
      repeat' (with_reducible apply And.intro)
      all_goals first | omega | (with_reducible assumption) | (with_reducible exact trivial) | (with_reducible rfl) | exact hLs2.2 | exact b1.1 | exact b1.2 | exact b2.1 | exact b2.2 | exact b3.1 | exact b3.2 | exact b4.1 | exact b4.2 | exact b5.1 | exact fun e => absurd e (by decide) | (rw [hk]) | skip
end Go.Proofs.Ytmoflcoijmmpjaa
