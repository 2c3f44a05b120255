/-
  Chapter 14: merge.Merge: its loops' specifications, its runs, its contract.
-/
import Derived.Test.YtmoflcoijmmpjaaMhV
import Derived.Test.YtmoflcoijmmpjaaMgX
import Derived.Test.YtmoflcoijmmpjaaMergeKnownV
namespace Go.Proofs.Ytmoflcoijmmpjaa
set_option linter.unusedSimpArgs false
set_option linter.unusedVariables false
set_option linter.unusedSectionVars false
open Go Go.RowKit
structure MgA (ds : List DV) (n : Nat) : Prop where
  L : LL (llOf ds) n
  e : ds = llD (llOf ds)
def mg1Pk (live : List (Nat × Value)) (h : Hp) : Option (Nat × Bool × List DV) := match live, lk h 0 with | (_, .slice _ n _) :: (_, .bool dr) :: _, some ⟨.sw ds, _⟩ => some (n, dr, ds) | _, _ => none
def mg1Sp : LSpec := lspec mg1Pk (fun a => ([(0, llA a.1), (1, .bool a.2.1), (6, mhI 0), (17, llA a.1), (18, iV a.1), (19, iV 0)], [(0, ⟨.sw a.2.2, []⟩)], 4)) (fun a tp => some ((.exit 0, [(0, llA a.1), (1, .bool a.2.1), (6, mhI (sumL (llOf a.2.2) : Nat))], [(0, ⟨.sw a.2.2, []⟩)], 20, []), tp, [MgA a.2.2 a.1]))
theorem mg1_ok : LSOk Try.prog 128 [0, 1, 6, 17, 18, 19] (bodyIn Try.prog 12 3) mg1Sp := by
  refine lspec_ok fun a tp xt l2 h2 nx2 d tp' ob hs ho inr ts hn hg => ?_
  obtain ⟨n, dr, ds⟩ := a
  simp only at hs hg
  simp only [Option.some.injEq, Prod.mk.injEq] at hs
  obtain ⟨⟨rfl, rfl, rfl, rfl, rfl⟩, rfl, rfl⟩ := hs
  obtain ⟨h, _⟩ := ho
  have key := mh_sum (inr := inr) (h0 := [(0, ⟨.sw (llD (llOf ds)), []⟩)]) (dr := dr) h.L n 0 (by omega)
  have e := h.e
  generalize llOf ds = L at *
  subst e
  rw [List.take_zero] at key
  refine LRuns.enter (N := 10) (l2 := [(0, llA n), (1, .bool dr), (6, mhI 0), (17, llA n), (18, iV n), (19, iV 0)]) hn hg (by omega) (by omega) (fun n => n) ?_ ?_ rfl key ?_
  · exact ⟨rfl, rb_slg rfl rfl, rfl, rfl, rfl, rfl, rfl, rb_slg rfl rfl, rfl, rfl, rfl, rfl, trivial⟩
  · exact ⟨sw_row (m := 0) rfl rfl, trivial⟩
  · exact tidy_of (by omega) (fun m hm hd => rfl) rfl
def mg2Sp : LSpec := lspec mg1Pk (fun a => ([(0, llA a.1), (1, .bool a.2.1), (9, nlV), (35, llA a.1), (36, iV a.1), (37, iV 0)], [(0, ⟨.sw a.2.2, []⟩)], 20)) (fun a tp => match tp with
  | false :: tp' => some ((.ret, [(4, nlV), (5, mhI 2)], [(0, ⟨.sw a.2.2, []⟩)], 100, []), tp', [MgA a.2.2 a.1, allA (llOf a.2.2) = false])
  | true :: true :: tp' => some ((.exit 2, [(1, .bool a.2.1), (9, nlV)], [(0, ⟨.sw a.2.2, []⟩)], 100, []), tp', [MgA a.2.2 a.1, allA (llOf a.2.2) = true, hdsF 0 (llOf a.2.2) = []])
  | true :: false :: tp' => some ((.exit 2, [(1, .bool a.2.1), (9, heA (hdsF 0 (llOf a.2.2)).length)], [(60, ⟨.dw 2 zHd (hdD (hdsF 0 (llOf a.2.2))), []⟩), (0, ⟨.sw a.2.2, []⟩)], 100, []), tp', [MgA a.2.2 a.1, allA (llOf a.2.2) = true, hdsF 0 (llOf a.2.2) ≠ []])
  | _ => none)
theorem mg2_ok : LSOk Try.prog 128 [0, 1, 9, 35, 36, 37] (bodyIn Try.prog 12 11) mg2Sp := by
  refine lspec_ok fun a tp xt l2 h2 nx2 d tp' ob hs ho inr ts hn hg => ?_
  obtain ⟨n, dr, ds⟩ := a
  simp only at hs hg
  have fin : MgA ds n → (∀ key, key = (bif allA (llOf ds) then (Xt.exit 2, [(1, Value.bool dr), (9, heV (hdsF 0 (llOf ds)))], heH (hdsF 0 (llOf ds)) ds) else (Xt.ret, [(4, nlV), (5, mhI 2)], ([(0, ⟨.sw ds, []⟩)] : Hp))) → Tidy [(0, ⟨.sw ds, []⟩)] 20 key.2.2 100 [] → Runs inr (fun F m Q => Code.againIn F m Try.prog (bodyIn Try.prog 12 11) Q) ts [(0, ⟨.sw ds, []⟩)] 20 (key.1, SL 128 key.2.1, key.2.2, 100, [], [])) := fun h key hk hT => by
    have q := mh_hds (inr := inr) (h0 := [(0, ⟨.sw (llD (llOf ds)), []⟩)]) (dr := dr) h.L n 0 [] (by omega) rfl
    have e := h.e
    rw [List.drop_zero] at q
    rw [← e] at q
    subst hk
    refine LRuns.enter (N := 61) (l2 := [(0, llA n), (1, .bool dr), (9, nlV), (35, llA n), (36, iV n), (37, iV 0)]) hn hg (by omega) (by omega) (fun n => n) ?_ ?_ rfl q hT
    · exact ⟨rfl, rb_slg rfl rfl, rfl, rfl, rfl, rfl, rfl, rb_slg rfl rfl, rfl, rfl, rfl, rfl, trivial⟩
    · exact ⟨sw_row (m := 0) rfl rfl, trivial⟩
  split at hs
  · simp only [Option.some.injEq, Prod.mk.injEq] at hs
    obtain ⟨⟨rfl, rfl, rfl, rfl, rfl⟩, rfl, rfl⟩ := hs
    obtain ⟨h, h1, _⟩ := ho
    exact fin h (Xt.ret, [(4, nlV), (5, mhI 2)], [(0, ⟨.sw ds, []⟩)]) (by rw [h1]; rfl) (tidy_of (by omega) (fun m hm hd => rfl) rfl)
  · simp only [Option.some.injEq, Prod.mk.injEq] at hs
    obtain ⟨⟨rfl, rfl, rfl, rfl, rfl⟩, rfl, rfl⟩ := hs
    obtain ⟨h, h1, h2, _⟩ := ho
    exact fin h (Xt.exit 2, [(1, .bool dr), (9, nlV)], [(0, ⟨.sw ds, []⟩)]) (by rw [h1, h2]; rfl) (tidy_of (by omega) (fun m hm hd => rfl) rfl)
  · simp only [Option.some.injEq, Prod.mk.injEq] at hs
    obtain ⟨⟨rfl, rfl, rfl, rfl, rfl⟩, rfl, rfl⟩ := hs
    obtain ⟨h, h1, h2, _⟩ := ho
    refine fin h (Xt.exit 2, [(1, .bool dr), (9, heA (hdsF 0 (llOf ds)).length)], [(60, ⟨.dw 2 zHd (hdD (hdsF 0 (llOf ds))), []⟩), (0, ⟨.sw ds, []⟩)]) (by rw [h1, heV_ne h2, heH_ne h2]; rfl) (tidy_of (by omega) (fun m hm hd => ?_) rfl)
    rw [lk_cons, if_neg (by omega)]
  · cases hs
structure HfOk (es : List DV) (m : Nat) (k : Int) : Prop where
  e : es = hdD (hdOf es)
  l : m ≤ (hdOf es).length
  n9 : m ≤ 100
  O : ∀ j, j < m → HdOk (gH (hdOf es) j)
  k : k = ((m / 2 : Nat) : Int) - 1
def mg3Pk (live : List (Nat × Value)) (h : Hp) : Option (Bool × Nat × Int × List DV × List DV) := match live, lk h 60, lk h 0 with | (_, .bool dr) :: (_, .slice _ m _) :: (_, .int _ k) :: _, some ⟨.dw _ _ es, _⟩, some ⟨.sw ds, _⟩ => some (dr, m, k, es, ds) | _, _, _ => none
def mg3Sp : LSpec := lspec mg3Pk (fun a => ([(1, .bool a.1), (9, heA a.2.1), (12, mhI a.2.2.1)], [(60, ⟨.dw 2 zHd a.2.2.2.1, []⟩), (0, ⟨.sw a.2.2.2.2, []⟩)], 100)) (fun a tp => some ((.exit 4, [(1, .bool a.1), (9, heA a.2.1)], [(60, ⟨.dw 2 zHd (hdD (hfH (a.2.1 / 2) (hdOf a.2.2.2.1) a.2.1)), []⟩), (0, ⟨.sw a.2.2.2.2, []⟩)], 120, [60]), tp, [HfOk a.2.2.2.1 a.2.1 a.2.2.1]))
theorem mg3_ok : LSOk Try.prog 128 [1, 9, 12] (bodyIn Try.prog 12 19) mg3Sp := by
  refine lspec_ok fun a tp xt l2 h2 nx2 d tp' ob hs ho inr ts hn hg => ?_
  obtain ⟨dr, m, k, es, ds⟩ := a
  simp only at hs hg
  simp only [Option.some.injEq, Prod.mk.injEq] at hs
  obtain ⟨⟨rfl, rfl, rfl, rfl, rfl⟩, rfl, rfl⟩ := hs
  obtain ⟨⟨e, hl, n9, hO, hk⟩, _⟩ := ho
  have key := mh_heap (inr := inr) (h0 := [(60, ⟨.dw 2 zHd (hdD (hdOf es)), []⟩), (0, ⟨.sw ds, []⟩)]) (ds := ds) (dr := dr) n9 (m / 2) (hdOf es) hl (by omega) hO
  generalize hdOf es = H at *
  subst e
  subst hk
  refine LRuns.enter (N := 101) (l2 := [(1, .bool dr), (9, heA m), (12, mhI (((m / 2 : Nat) : Int) - 1))]) hn hg (by omega) (by omega) (fun n => n) ?_ ?_ rfl key ?_
  · exact ⟨rfl, rfl, rfl, rb_slg rfl rfl, rfl, rfl, trivial⟩
  · exact ⟨dw_row (m := 60) rfl rfl, sw_row (m := 0) rfl rfl, trivial⟩
  · refine tidy_of (by omega) (fun j hj hd => ?_) rfl
    have : j ≠ 60 := fun e => hd (by simp [e])
    simp only [lk_cons, if_neg this.symm]
structure MnOk (es : List DV) (m : Nat) : Prop where
  e : es = hdD (hdOf es)
  m0 : 0 < m
  W : WM ⟨hdOf es, m, false, [], []⟩
def mnO (dr : Bool) (es : List DV) (m : Nat) : List Pr := (runM dr (lfM m (hdOf es)) ⟨hdOf es, m, false, [], []⟩).out
def mg4Pk (live : List (Nat × Value)) (h : Hp) : Option (Bool × Nat × List DV × List DV) := match live, lk h 60, lk h 0 with | (_, .bool dr) :: (_, .slice _ m _) :: _, some ⟨.dw _ _ es, _⟩, some ⟨.sw ds, _⟩ => some (dr, m, es, ds) | _, _, _ => none
def mg4Sp : LSpec := lspec mg4Pk (fun a => ([(1, .bool a.1), (9, heA a.2.1), (13, nlV), (14, nlV), (15, .bool false)], [(60, ⟨.dw 2 zHd a.2.2.1, []⟩), (0, ⟨.sw a.2.2.2, []⟩)], 120)) (fun a tp => match tp with
  | true :: tp' => some ((.exit 6, [(13, nlV)], [(0, ⟨.sw a.2.2.2, []⟩)], 400, [60]), tp', [MnOk a.2.2.1 a.2.1, mnO a.1 a.2.2.1 a.2.1 = []])
  | false :: tp' => some ((.exit 6, [(13, ouA (mnO a.1 a.2.2.1 a.2.1).length)], [(200, ⟨.df 3 zPr (cpD (mnO a.1 a.2.2.1 a.2.1)), []⟩), (0, ⟨.sw a.2.2.2, []⟩)], 400, [60]), tp', [MnOk a.2.2.1 a.2.1, mnO a.1 a.2.2.1 a.2.1 ≠ []])
  | [] => none)
theorem mg4_ok : LSOk Try.prog 128 [1, 9, 13, 14, 15] (bodyIn Try.prog 12 25) mg4Sp := by
  refine lspec_ok fun a tp xt l2 h2 nx2 d tp' ob hs ho inr ts hn hg => ?_
  obtain ⟨dr, m, es, ds⟩ := a
  simp only at hs hg
  have fin : MnOk es m → ∀ key, key = (Xt.exit 6, [(13, ouV (mnO dr es m))], moR (mnO dr es m) [(0, ⟨.sw ds, []⟩)]) → Tidy [(60, ⟨.dw 2 zHd es, []⟩), (0, ⟨.sw ds, []⟩)] 120 key.2.2 400 [60] → Runs inr (fun F m Q => Code.againIn F m Try.prog (bodyIn Try.prog 12 25) Q) ts [(60, ⟨.dw 2 zHd es, []⟩), (0, ⟨.sw ds, []⟩)] 120 (key.1, SL 128 key.2.1, key.2.2, 400, [60], []) := fun h key hk hT => by
    have q := mh_main (inr := inr) (h0 := [(60, ⟨.dw 2 zHd es, []⟩), (0, ⟨.sw ds, []⟩)]) (ds := ds) (dr := dr) (lfM m (hdOf es)) ⟨hdOf es, m, false, [], []⟩ h.W (Nat.le_refl _) (fun _ => ⟨h.m0, rfl⟩)
    have e := h.e
    simp only [mSl, mHp, mLs, moR, ouV, cond_false] at q
    rw [← e] at q
    subst hk
    refine LRuns.enter (N := 300) (l2 := [(1, .bool dr), (9, heA m), (13, nlV), (14, nlV), (15, .bool false)]) hn hg (by omega) (by omega) (fun n => n) ?_ ?_ rfl q hT
    · exact ⟨rfl, rfl, rfl, rb_slg rfl rfl, rfl, rfl, rfl, rfl, rfl, rfl, trivial⟩
    · exact ⟨dw_row (m := 60) rfl rfl, sw_row (m := 0) rfl rfl, trivial⟩
  have h60 : ∀ (r : Rw) (t : Hp) (j : Nat), j ∉ [60] → lk t j = lk ((60, r) :: t) j := fun r t j hd => by
    have : j ≠ 60 := fun e => hd (by simp [e])
    rw [lk_cons, if_neg this.symm]
  split at hs
  · simp only [Option.some.injEq, Prod.mk.injEq] at hs
    obtain ⟨⟨rfl, rfl, rfl, rfl, rfl⟩, rfl, rfl⟩ := hs
    obtain ⟨h, h1, _⟩ := ho
    exact fin h (Xt.exit 6, [(13, nlV)], [(0, ⟨.sw ds, []⟩)]) (by rw [h1]; rfl) (tidy_of (by omega) (fun j hj hd => h60 _ _ j hd) rfl)
  · simp only [Option.some.injEq, Prod.mk.injEq] at hs
    obtain ⟨⟨rfl, rfl, rfl, rfl, rfl⟩, rfl, rfl⟩ := hs
    obtain ⟨h, h1, _⟩ := ho
    refine fin h (Xt.exit 6, [(13, ouA (mnO dr es m).length)], [(200, ⟨.df 3 zPr (cpD (mnO dr es m)), []⟩), (0, ⟨.sw ds, []⟩)]) (by rw [ouV_ne h1, moR_ne h1]) (tidy_of (by omega) (fun j hj hd => ?_) rfl)
    rw [← h60 _ _ j hd, lk_cons, if_neg (by omega)]
  · cases hs
def mgLn (P : Program) : LFun := orL (mkL 12 3 128 [0, 1, 6, 17, 18, 19] (bodyIn P 12 3) mg1Sp) (mkL 12 11 128 [0, 1, 9, 35, 36, 37] (bodyIn P 12 11) mg2Sp)
def mgLo (P : Program) : LFun := orL (mgLn P) (orL (mkL 12 19 128 [1, 9, 12] (bodyIn P 12 19) mg3Sp) (mkL 12 25 128 [1, 9, 13, 14, 15] (bodyIn P 12 25) mg4Sp))
theorem mgLn_one : LOne Try.prog (mgLn Try.prog) := orL_ok (mkL_ok mg1_ok) (mkL_ok mg2_ok)
theorem mgLo_one : LOne Try.prog (mgLo Try.prog) := orL_ok mgLn_one (orL_ok (mkL_ok mg3_ok) (mkL_ok mg4_ok))
theorem mg_l1 (n : Nat) (dr : Bool) (ds : List DV) : prjV (runZ (mhV true (mgLo Try.prog) mhT) Try.prog 12 12 [llA n, .bool dr] [(0, ⟨.sw ds, []⟩)] 4 [true]) =
  (let a6 := (6, Value.int IntKind.i64 (0 : Int)); let a5 := (19, Value.int IntKind.i64 (0 : Int)); let a4 := (18, Value.int IntKind.i64 (↑n : Int)); let a1 := (some (Addr.mk 0 0 none)); let a3 := (0, Value.slice a1 n
 18446744073709551616); let a2 := (17, Value.slice a1 n 18446744073709551616); Res.ok (Value.tuple (Array.mk [Value.slice none 0 0, Value.int IntKind.i64 (3 : Int)]), [], [bodyIn Try.prog (12 : FuncId) 3 = bodyIn Try.prog (12 :
 FuncId) 3, [a3, (1, Value.bool dr), a6, a2, a4, a5] = [a3, (1, Value.bool dr), a6, a2, a4, a5], [(0, Rw.mk (Kd.sw ds) [])] = [(0, Rw.mk (Kd.sw ds) [])], 4 = 4, MgA ds n, decide ((↑n : Int) > (32 : Int)) = true])) := by
 kernel_rfl
theorem mg_l2 (n : Nat) (dr : Bool) (ds : List DV) : prjV (runZ (mhV true (mgLo Try.prog) mhT) Try.prog 12 12 [llA n, .bool dr] [(0, ⟨.sw ds, []⟩)] 4 [false, true]) =
  (let a6 := (6, Value.int IntKind.i64 (0 : Int)); let a5 := (19, Value.int IntKind.i64 (0 : Int)); let a4 := (18, Value.int IntKind.i64 (↑n : Int)); let a1 := (some (Addr.mk 0 0 none)); let a3 := (0, Value.slice a1 n
 18446744073709551616); let a2 := (17, Value.slice a1 n 18446744073709551616); Res.ok (Value.tuple (Array.mk [Value.slice none 0 0, Value.int IntKind.i64 (3 : Int)]), [], [bodyIn Try.prog (12 : FuncId) 3 = bodyIn Try.prog (12 :
 FuncId) 3, [a3, (1, Value.bool dr), a6, a2, a4, a5] = [a3, (1, Value.bool dr), a6, a2, a4, a5], [(0, Rw.mk (Kd.sw ds) [])] = [(0, Rw.mk (Kd.sw ds) [])], 4 = 4, MgA ds n, decide ((↑n : Int) > (32 : Int)) = false, decide ((↑(sumL
 (llOf ds)) : Int) > (4096 : Int)) = true])) := by
 kernel_rfl
theorem mg_uns (n : Nat) (dr : Bool) (ds : List DV) : prjV (runZ (mhV true (mgLo Try.prog) mhT) Try.prog 12 12 [llA n, .bool dr] [(0, ⟨.sw ds, []⟩)] 4 [false, false, false]) =
  (let a12 := (12 : FuncId); let a11 := (6, Value.int IntKind.i64 (0 : Int)); let a10 := (37, Value.int IntKind.i64 (0 : Int)); let a9 := (19, Value.int IntKind.i64 (0 : Int)); let a8 := (36, Value.int IntKind.i64 (↑n : Int)); let
 a7 := (18, Value.int IntKind.i64 (↑n : Int)); let a4 := (1, Value.bool dr); let a3 := (0, Rw.mk (Kd.sw ds) []); let a2 := (some (Addr.mk 0 0 none)); let a6 := (35, Value.slice a2 n 18446744073709551616); let a5 := (17, Value.slice
 a2 n 18446744073709551616); let a1 := (0, Value.slice a2 n 18446744073709551616); Res.ok (Value.tuple (Array.mk [Value.slice none 0 0, Value.int IntKind.i64 (2 : Int)]), [], [bodyIn Try.prog a12 3 = bodyIn Try.prog a12 3, [a1, a4,
 a11, a5, a7, a9] = [a1, a4, a11, a5, a7, a9], [a3] = [a3], 4 = 4, MgA ds n, decide ((↑n : Int) > (32 : Int)) = false, decide ((↑(sumL (llOf ds)) : Int) > (4096 : Int)) = false, bodyIn Try.prog a12 11 = bodyIn Try.prog a12 11, [a1,
 a4, (9, Value.slice none 0 0), a6, a8, a10] = [a1, a4, (9, Value.slice none 0 0), a6, a8, a10], [a3] = [a3], 20 = 20, MgA ds n, allA (llOf ds) = false])) := by
 kernel_rfl
theorem mg_nil (n : Nat) (dr : Bool) (ds : List DV) : prjV (runZ (mhV true (mgLn Try.prog) mhT) Try.prog 12 12 [llA n, .bool dr] [(0, ⟨.sw ds, []⟩)] 4 [false, false, true, true, false, false]) =
  (let a12 := (12 : FuncId); let a11 := (6, Value.int IntKind.i64 (0 : Int)); let a10 := (37, Value.int IntKind.i64 (0 : Int)); let a9 := (19, Value.int IntKind.i64 (0 : Int)); let a8 := (36, Value.int IntKind.i64 (↑n : Int)); let
 a7 := (18, Value.int IntKind.i64 (↑n : Int)); let a4 := (1, Value.bool dr); let a3 := (0, Rw.mk (Kd.sw ds) []); let a2 := (some (Addr.mk 0 0 none)); let a6 := (35, Value.slice a2 n 18446744073709551616); let a5 := (17, Value.slice
 a2 n 18446744073709551616); let a1 := (0, Value.slice a2 n 18446744073709551616); Res.ok (Value.tuple (Array.mk [Value.slice none 0 0, Value.int IntKind.i64 (0 : Int)]), [], [bodyIn Try.prog a12 3 = bodyIn Try.prog a12 3, [a1, a4,
 a11, a5, a7, a9] = [a1, a4, a11, a5, a7, a9], [a3] = [a3], 4 = 4, MgA ds n, decide ((↑n : Int) > (32 : Int)) = false, decide ((↑(sumL (llOf ds)) : Int) > (4096 : Int)) = false, bodyIn Try.prog a12 11 = bodyIn Try.prog a12 11, [a1,
 a4, (9, Value.slice none 0 0), a6, a8, a10] = [a1, a4, (9, Value.slice none 0 0), a6, a8, a10], [a3] = [a3], 20 = 20, MgA ds n, allA (llOf ds) = true, hdsF 0 (llOf ds) = [], (0 : Int) ≤ (0 : Int) ∧ (0 : Int) < (2 : Int) ∧ rg
 IntKind.i64 (0 : Int), rg IntKind.i64 (Int.negSucc (nat_lit 0)), false = false, false = false])) := by
 kernel_rfl
theorem mg_emp (n : Nat) (dr : Bool) (ds : List DV) : prjV (runZ (mhV true (mgLo Try.prog) mhT) Try.prog 12 12 [llA n, .bool dr] [(0, ⟨.sw ds, []⟩)] 4 [false, false, true, false, true]) =
  (let a19 := (6, Value.int IntKind.i64 (0 : Int)); let a18 := (37, Value.int IntKind.i64 (0 : Int)); let a17 := (19, Value.int IntKind.i64 (0 : Int)); let a16 := (36, Value.int IntKind.i64 (↑n : Int)); let a15 := (18, Value.int
 IntKind.i64 (↑n : Int)); let a12 := (12 : FuncId); let a8 := (some (Addr.mk 0 0 none)); let a14 := (35, Value.slice a8 n 18446744073709551616); let a13 := (17, Value.slice a8 n 18446744073709551616); let a7 := (1, Value.bool dr);
 let a5 := (0, Rw.mk (Kd.sw ds) []); let a3 := (0, Value.slice a8 n 18446744073709551616); let a1 := (hdsF 0 (llOf ds)); let a11 := (List.length a1); let a9 := (60, Rw.mk (Kd.dw 2 [Value.slice none 0 0, Value.int IntKind.i64 (0 :
 Int)] (hdD a1)) []); let a6 := ((↑(List.length a1 / 2) : Int) - (1 : Int)); let a20 := (12, Value.int IntKind.i64 a6); let a4 := (hdD (hfH (List.length a1 / 2) (hdOf (hdD a1)) a11)); let a10 := (60, Rw.mk (Kd.dw 2 [Value.slice
 none 0 0, Value.int IntKind.i64 (0 : Int)] a4) []); let a2 := (9, Value.slice (some (Addr.mk 60 0 none)) a11 (capBig + 60)); Res.ok (Value.tuple (Array.mk [Value.slice none 0 0, Value.int IntKind.i64 (0 : Int)]), [], [bodyIn
 Try.prog a12 3 = bodyIn Try.prog a12 3, [a3, a7, a19, a13, a15, a17] = [a3, a7, a19, a13, a15, a17], [a5] = [a5], 4 = 4, MgA ds n, decide ((↑n : Int) > (32 : Int)) = false, decide ((↑(sumL (llOf ds)) : Int) > (4096 : Int)) =
 false, bodyIn Try.prog a12 11 = bodyIn Try.prog a12 11, [a3, a7, (9, Value.slice none 0 0), a14, a16, a18] = [a3, a7, (9, Value.slice none 0 0), a14, a16, a18], [a5] = [a5], 20 = 20, MgA ds n, allA (llOf ds) = true, hdsF 0 (llOf
 ds) ≠ [], (0 : Int) ≤ (↑a11 : Int) ∧ (0 : Int) < (2 : Int) ∧ rg IntKind.i64 (↑a11 : Int), rg IntKind.i64 a6, bodyIn Try.prog a12 19 = bodyIn Try.prog a12 19, [a7, a2, a20] = [a7, a2, a20], [a9, a5] = [a9, a5], 100 = 100, HfOk (hdD
 a1) a11 a6, bodyIn Try.prog a12 25 = bodyIn Try.prog a12 25, [a7, a2, (13, Value.slice none 0 0), (14, Value.slice none 0 0), (15, Value.bool false)] = [a7, a2, (13, Value.slice none 0 0), (14, Value.slice none 0 0), (15,
 Value.bool false)], [a10, a5] = [a10, a5], 120 = 120, MnOk a4 a11, mnO dr a4 a11 = []])) := by
 kernel_rfl
theorem mg_out (n : Nat) (dr : Bool) (ds : List DV) : runZ (mhV true (mgLo Try.prog) mhT) Try.prog 12 12 [llA n, .bool dr] [(0, ⟨.sw ds, []⟩)] 4 [false, false, true, false, false] =
  (let a19 := (6, Value.int IntKind.i64 (0 : Int)); let a18 := (37, Value.int IntKind.i64 (0 : Int)); let a17 := (19, Value.int IntKind.i64 (0 : Int)); let a16 := (36, Value.int IntKind.i64 (↑n : Int)); let a15 := (18, Value.int
 IntKind.i64 (↑n : Int)); let a12 := (12 : FuncId); let a11 := (hdsF 0 (llOf ds)); let a9 := (some (Addr.mk 0 0 none)); let a14 := (35, Value.slice a9 n 18446744073709551616); let a13 := (17, Value.slice a9 n 18446744073709551616);
 let a8 := (60, Rw.mk (Kd.dw 2 [Value.slice none 0 0, Value.int IntKind.i64 (0 : Int)] (hdD a11)) []); let a7 := (1, Value.bool dr); let a6 := ((↑(List.length a11 / 2) : Int) - (1 : Int)); let a20 := (12, Value.int IntKind.i64 a6);
 let a5 := (0, Rw.mk (Kd.sw ds) []); let a3 := (0, Value.slice a9 n 18446744073709551616); let a2 := (List.length a11); let a4 := (9, Value.slice (some (Addr.mk 60 0 none)) a2 (capBig + 60)); let a1 := (hdD (hfH (List.length a11 /
 2) (hdOf (hdD a11)) a2)); let a10 := (60, Rw.mk (Kd.dw 2 [Value.slice none 0 0, Value.int IntKind.i64 (0 : Int)] a1) []); Res.ok ((Value.tuple (Array.mk [Value.slice (some (Addr.mk 200 0 none)) (List.length (mnO dr a1 a2)) (capBig
 + 200), Value.int IntKind.i64 (0 : Int)]), [(200, Rw.mk (Kd.df 3 [Value.slice none 0 0, Value.slice none 0 0, Value.bool false] (cpD (mnO dr a1 a2))) []), a5], 400, []), [], [bodyIn Try.prog a12 3 = bodyIn Try.prog a12 3, [a3, a7,
 a19, a13, a15, a17] = [a3, a7, a19, a13, a15, a17], [a5] = [a5], 4 = 4, MgA ds n, decide ((↑n : Int) > (32 : Int)) = false, decide ((↑(sumL (llOf ds)) : Int) > (4096 : Int)) = false, bodyIn Try.prog a12 11 = bodyIn Try.prog a12
 11, [a3, a7, (9, Value.slice none 0 0), a14, a16, a18] = [a3, a7, (9, Value.slice none 0 0), a14, a16, a18], [a5] = [a5], 20 = 20, MgA ds n, allA (llOf ds) = true, hdsF 0 (llOf ds) ≠ [], (0 : Int) ≤ (↑a2 : Int) ∧ (0 : Int) < (2 :
 Int) ∧ rg IntKind.i64 (↑a2 : Int), rg IntKind.i64 a6, bodyIn Try.prog a12 19 = bodyIn Try.prog a12 19, [a7, a4, a20] = [a7, a4, a20], [a8, a5] = [a8, a5], 100 = 100, HfOk (hdD a11) a2 a6, bodyIn Try.prog a12 25 = bodyIn Try.prog
 a12 25, [a7, a4, (13, Value.slice none 0 0), (14, Value.slice none 0 0), (15, Value.bool false)] = [a7, a4, (13, Value.slice none 0 0), (14, Value.slice none 0 0), (15, Value.bool false)], [a10, a5] = [a10, a5], 120 = 120, MnOk a1
 a2, mnO dr a1 a2 ≠ []])) := by
 kernel_rfl
structure MgB (ds : List DV) (n : Nat) : Prop where
  A : MgA ds n
  n32 : n ≤ 32
  s : sumL (llOf ds) ≤ 4096
  z : ∀ l ∈ llOf ds, ∀ p ∈ l, PrSz p
  a : allA (llOf ds) = true
theorem lfM_le : ∀ {n : Nat} {H : List Hd} {B : Nat}, (∀ j, j < n → (gH H j).1.length ≤ B) → lfM n H ≤ n * B
  | 0, H, B, h => by simp [lfM]
  | n + 1, H, B, h => by
      have h1 := lfM_le (n := n) (H := H) (B := B) fun j hj => h j (by omega)
      have h2 := h n (by omega)
      simp only [lfM, Nat.succ_mul]
      omega
theorem gL_mem {L : List (List Pr)} {i : Nat} (h : gL L i ≠ []) : gL L i ∈ L ∧ i < L.length := by
  unfold gL at h ⊢
  cases he : L[i]? with
  | none => rw [he] at h; exact absurd rfl h
  | some x =>
    exact ⟨List.mem_of_getElem? he, (List.getElem?_eq_some_iff.1 he).1⟩
structure HdZ (H : List Hd) (m : Nat) : Prop where
  O : ∀ j, j < m → HdOk (gH H j)
  Z : ∀ j, j < m → ∀ p ∈ (gH H j).1, PrSz p
theorem MgB.hds {ds : List DV} {n : Nat} (h : MgB ds n) : HdZ (hdsF 0 (llOf ds)) (hdsF 0 (llOf ds)).length := by
  have hl := h.A.L.l
  have n32 := h.n32
  have f : ∀ j, j < (hdsF 0 (llOf ds)).length → ∃ l, (gH (hdsF 0 (llOf ds)) j).1 = l ∧ l ≠ [] ∧ l ∈ llOf ds ∧ (gH (hdsF 0 (llOf ds)) j).2 < n := fun j hj => by
    obtain ⟨h1, h2, h3⟩ := hdsF_mem (gH_mem hj)
    rw [Nat.sub_zero] at h3
    have h4 : gL (llOf ds) (gH (hdsF 0 (llOf ds)) j).2 ≠ [] := by rw [h3]; exact h1
    obtain ⟨g1, g2⟩ := gL_mem h4
    rw [h3] at g1
    exact ⟨_, rfl, h1, g1, by omega⟩
  refine ⟨fun j hj => ?_, fun j hj => ?_⟩
  · obtain ⟨l, e, h1, h2, h3⟩ := f j hj
    exact ⟨by rw [e]; exact h1, by rw [e]; exact h.A.L.O l h2, by rw [e]; exact h.A.L.m l h2, by omega⟩
  · obtain ⟨l, e, h1, h2, h3⟩ := f j hj
    rw [e]
    exact h.z l h2
theorem MgB.hf {ds : List DV} {n : Nat} (h : MgB ds n) : HfOk (hdD (hdsF 0 (llOf ds))) (hdsF 0 (llOf ds)).length (((hdsF 0 (llOf ds)).length / 2 : Nat) - 1) := by
  have h1 := hdsF_len (llOf ds) 0
  have hl := h.A.L.l
  have n32 := h.n32
  refine ⟨by rw [hdOf_hd], by rw [hdOf_hd]; exact Nat.le_refl _, by omega, by rw [hdOf_hd]; exact h.hds.O, rfl⟩
theorem MgB.mn {ds : List DV} {n : Nat} (h : MgB ds n) (h0 : hdsF 0 (llOf ds) ≠ []) : MnOk (hdD (hfH ((hdsF 0 (llOf ds)).length / 2) (hdOf (hdD (hdsF 0 (llOf ds)))) (hdsF 0 (llOf ds)).length)) (hdsF 0 (llOf ds)).length := by
  have h1 := hdsF_len (llOf ds) 0
  have hl := h.A.L.l
  have n32 := h.n32
  have Hd := h.hds
  rw [hdOf_hd]
  generalize hdsF 0 (llOf ds) = H at *
  have S := (hf_heap (n := H.length) (H.length / 2) H (Nat.le_refl _) (hf_top H H.length)).2
  have back : ∀ j, j < H.length → ∃ k, k < H.length ∧ gH H k = gH (hfH (H.length / 2) H H.length) j := fun j hj => S.m _ ⟨j, hj, rfl⟩
  have hO : ∀ j, j < H.length → HdOk (gH (hfH (H.length / 2) H H.length) j) := fun j hj => by
    obtain ⟨k, k1, k2⟩ := back j hj
    rw [← k2]
    exact Hd.O k k1
  have hb := lfM_le (n := H.length) (H := hfH (H.length / 2) H H.length) (B := 9000000) fun j hj => (hO j hj).l
  refine ⟨by rw [hdOf_hd], List.length_pos_iff.2 h0, ?_⟩
  rw [hdOf_hd]
  refine ⟨?_, ?_, hO, fun j hj => ?_, fun x hx => (by cases hx), ?_⟩
  · show H.length ≤ _
    rw [S.l]; exact Nat.le_refl _
  · show H.length ≤ 100
    omega
  · obtain ⟨k, k1, k2⟩ := back j hj
    show ∀ p ∈ (gH (hfH (H.length / 2) H H.length) j).1, PrSz p
    rw [← k2]
    exact Hd.Z k k1
  · show 0 + lfM H.length (hfH (H.length / 2) H H.length) ≤ _
    have : H.length * 9000000 ≤ 32 * 9000000 := Nat.mul_le_mul_right _ (by omega)
    omega
theorem mnO_is (dr : Bool) (L : List (List Pr)) : mnO dr (hdD (hfH ((hdsF 0 L).length / 2) (hdOf (hdD (hdsF 0 L))) (hdsF 0 L).length)) (hdsF 0 L).length = mgOut dr L := by
  unfold mnO
  rw [hdOf_hd, hdOf_hd]
  rfl
theorem mgOut_nil {dr : Bool} {L : List (List Pr)} (h : hdsF 0 L = []) : mgOut dr L = [] := by
  unfold mgOut mgS0
  rw [h]
  rfl
def tupM (v : Value) (e : Int) : Value := .tuple ⟨[v, .int .i64 e]⟩
def gMg : GSpecD := fun aL tp => match aL, tp with
  | [.dl ds n, .fl (.bool dr)], true :: tp' => some (⟨fun _ => tupM nlV 3, []⟩, tp', [MgA ds n, 32 < n ∨ 4096 < sumL (llOf ds)])
  | [.dl ds n, .fl (.bool dr)], false :: false :: tp' => some (⟨fun _ => tupM nlV 2, []⟩, tp', [MgA ds n, n ≤ 32, sumL (llOf ds) ≤ 4096, allA (llOf ds) = false])
  | [.dl ds n, .fl (.bool dr)], false :: true :: true :: tp' => some (⟨fun _ => tupM nlV 0, []⟩, tp', [MgB ds n, mgOut dr (llOf ds) = []])
  | [.dl ds n, .fl (.bool dr)], false :: true :: false :: tp' => some (⟨fun nx => tupM (.slice (some ⟨nx, 0, none⟩) (mgOut dr (llOf ds)).length (capBig + nx)) 0, [⟨.df 3 zPr (cpD (mgOut dr (llOf ds))), []⟩]⟩, tp', [MgB ds n, mgOut dr (llOf ds) ≠ []])
  | _, _ => none
theorem f2s_tupM {nx k m : Nat} {g : Nat → Nat} (hk : 0 < k) (hg : g 0 = m) (n : Nat) (e : Int) : renV (f2s nx k g) (tupM (.slice (some ⟨nx, 0, none⟩) n (capBig + nx)) e) = some (tupM (.slice (some ⟨m, 0, none⟩) n (capBig + m)) e) := by
  have := f2s_slice0 (nx := nx) (g := g) hk n
  rw [hg] at this
  unfold tupM
  simp only [renV] at this
  simp only [renV, renA, renL, this]
theorem mg_gok : GOkD Try.prog 12 gMg := by
  intro aL tp gr tp' ob hG ho cs hc
  have fin : ∀ {n : Nat} {dr : Bool} {ds : List DV} {L : LFun} {tp3 tp4 : Tape} {v : Value} {ob : List Prop}, LOkZ (mhV true L mhT) Try.prog → prjV (runZ (mhV true L mhT) Try.prog 12 12 [llA n, .bool dr] [(0, ⟨.sw ds, []⟩)] 4 tp3) = .ok (v, tp4, ob) → Alls ob → (∀ σ, renV σ v = some v) → ∃ v0 h0' nx0' d0 g, Tri Try.prog 12 (dvV [.dl ds n, .fl (.bool dr)] cs 0) (dvH [.dl ds n, .fl (.bool dr)] cs 0) (2 * 2) (v0, h0', nx0', d0) ∧ GrD ⟨fun _ => v, []⟩ v0 h0' g := fun hL e ho hv => by
    obtain ⟨h', nx', d, T⟩ := run_val mhX mhTt hL e ho rfl
    exact ⟨_, h', nx', d, fun n => n, T, GrD.flat hv⟩
  unfold gMg at hG
  split at hG
  · rename_i ds n dr tp2
    simp only [Option.some.injEq, Prod.mk.injEq] at hG
    obtain ⟨rfl, rfl, rfl⟩ := hG
    obtain ⟨h, h1, _⟩ := ho
    by_cases h2 : 32 < n
    · exact fin (L_okV rfl mgLo_one) (mg_l1 n dr ds) ⟨rfl, rfl, rfl, rfl, h, decide_eq_true (by omega), trivial⟩ fun σ => rfl
    · exact fin (L_okV rfl mgLo_one) (mg_l2 n dr ds) ⟨rfl, rfl, rfl, rfl, h, decide_eq_false (by omega), decide_eq_true (by omega), trivial⟩ fun σ => rfl
  · rename_i ds n dr tp2
    simp only [Option.some.injEq, Prod.mk.injEq] at hG
    obtain ⟨rfl, rfl, rfl⟩ := hG
    obtain ⟨h, h1, h2, h3, _⟩ := ho
    exact fin (L_okV rfl mgLo_one) (mg_uns n dr ds) ⟨rfl, rfl, rfl, rfl, h, decide_eq_false (by omega), decide_eq_false (by omega), rfl, rfl, rfl, rfl, h, h3, trivial⟩ fun σ => rfl
  · rename_i ds n dr tp2
    simp only [Option.some.injEq, Prod.mk.injEq] at hG
    obtain ⟨rfl, rfl, rfl⟩ := hG
    obtain ⟨h, h1, _⟩ := ho
    have n32 := h.n32
    have hs := h.s
    by_cases h0 : hdsF 0 (llOf ds) = []
    · exact fin (L_okV rfl mgLn_one) (mg_nil n dr ds) ⟨rfl, rfl, rfl, rfl, h.A, decide_eq_false (by omega), decide_eq_false (by omega), rfl, rfl, rfl, rfl, h.A, h.a, h0, ⟨by omega, by omega, by simp only [rg]; omega⟩, (by simp only [rg]; omega), rfl, rfl, trivial⟩ fun σ => rfl
    · have hlen := hdsF_len (llOf ds) 0
      have hl := h.A.L.l
      refine fin (L_okV rfl mgLo_one) (mg_emp n dr ds) ⟨rfl, rfl, rfl, rfl, h.A, decide_eq_false (by omega), decide_eq_false (by omega), rfl, rfl, rfl, rfl, h.A, h.a, h0, ⟨by omega, by omega, by simp only [rg]; omega⟩, (by simp only [rg]; omega), rfl, rfl, rfl, rfl, h.hf, rfl, rfl, rfl, rfl, h.mn h0, ?_, trivial⟩ fun σ => rfl
      rw [mnO_is]
      exact h1
  · rename_i ds n dr tp2
    simp only [Option.some.injEq, Prod.mk.injEq] at hG
    obtain ⟨rfl, rfl, rfl⟩ := hG
    obtain ⟨h, h1, _⟩ := ho
    have n32 := h.n32
    have hs := h.s
    have h0 : hdsF 0 (llOf ds) ≠ [] := fun e => h1 (mgOut_nil e)
    have hlen := hdsF_len (llOf ds) 0
    have hl := h.A.L.l
    have T := run_tri mhX mhTt (L_okV rfl mgLo_one) (mg_out n dr ds) ⟨rfl, rfl, rfl, rfl, h.A, decide_eq_false (by omega), decide_eq_false (by omega), rfl, rfl, rfl, rfl, h.A, h.a, h0, ⟨by omega, by omega, by simp only [rg]; omega⟩, (by simp only [rg]; omega), rfl, rfl, rfl, rfl, h.hf, rfl, rfl, rfl, rfl, h.mn h0, (by rw [mnO_is]; exact h1), trivial⟩ rfl
    rw [mnO_is] at T
    refine ⟨_, _, _, _, fun _ => 200, T, ⟨fun nx => f2s_tupM (by simp) rfl _ _, fun j r hj => ?_, fun i j hi hj _ => by simp at hi hj; omega⟩⟩
    match j, hj with
    | 0, hj => cases hj; exact ⟨fun τ => rfl, rfl, rfl⟩
  · cases hG
end Go.Proofs.Ytmoflcoijmmpjaa
/-
  Chapter 14: LargePairLists as a contract.
-/
namespace Go.Proofs.Ytmoflcoijmmpjaa
set_option linter.unusedSimpArgs false
set_option linter.unusedVariables false
set_option linter.unusedSectionVars false
open Go Go.RowKit
def lsTab : FuncId → List Nat := fun f => bif Nat.beq f 9 then [11, 15] else []
def lsSyF : FuncId → Nat → Option Nat := lsSy 9 [(11, 0), (15, 0), (17, 0), (20, 0), (21, 37)]
def lsT : TFun := mkD 22 [.d, .f] gLp
def lsV (L : LFun) : Tv := ⟨lsT, cmpY, L, lsTab, lsSyF, fun _ => [], fun _ => 0⟩
theorem ls_go (inr : Bool) (n i : Nat) (m : Int) (ds : List DV) : prjP [0, 2, 7] 10 (codeZ (lsV noL) Try.prog (runZ (lsV noL) Try.prog 9) 9 inr 100000 (bodyIn Try.prog 9 4) (SL 24 [(0, saA n), (2, mhI m), (7, iV i)]) [(0, ⟨.sw ds,
 []⟩)] 10 [true, false])
 =
  (let a1 := (dSub ds (i + 0)); Res.ok ((Xt.normal, 24, [(0, Value.slice (some (Addr.mk 0 0 none)) n 18446744073709551616), (2, Value.int IntKind.i64 m), (7, Value.int IntKind.i64 (↑(i + 1) : Int))], [(10, Rw.mk (Kd.sw a1) []),
 (0, Rw.mk (Kd.sw ds) [])], 11, [], []), [], [decide ((↑i : Int) < (↑n : Int)) = true, (0 : Int) ≤ (↑i : Int) ∧ (↑i : Int) < (↑n : Int), ShOb Try.prog 27 true true ds i 10, dLen ds (ixO 0 (Int.toNat (↑i : Int)) 1 + 0) = 0 → dSub ds
 (i + 0) = [], LpOk a1 (dLen ds (i + 0)) ∧ (decide ((↑(dLen ds (i + 0)) : Int) > m) || List.any (prsOf a1) big) = false, m ≤ (9000000 : Int), rg IntKind.i64 (↑(i + 1) : Int)])) := by
 kernel_rfl
theorem ls_hit (inr : Bool) (n i : Nat) (m : Int) (ds : List DV) : prjP [6] 10 (codeZ (lsV noL) Try.prog (runZ (lsV noL) Try.prog 9) 9 inr 100000 (bodyIn Try.prog 9 4) (SL 24 [(0, saA n), (2, mhI m), (7, iV i)]) [(0, ⟨.sw ds, []⟩)] 10 [true, true]) =
  (let a1 := (dSub ds (i + 0)); Res.ok ((Xt.ret, 24, [(6, Value.bool true)], [(10, Rw.mk (Kd.sw a1) []), (0, Rw.mk (Kd.sw ds) [])], 11, [], []), [], [decide ((↑i : Int) < (↑n : Int)) = true, (0 : Int) ≤ (↑i : Int) ∧ (↑i : Int) <
 (↑n : Int), ShOb Try.prog 27 true true ds i 10, dLen ds (ixO 0 (Int.toNat (↑i : Int)) 1 + 0) = 0 → dSub ds (i + 0) = [], LpOk a1 (dLen ds (i + 0)) ∧ (decide ((↑(dLen ds (i + 0)) : Int) > m) || List.any (prsOf a1) big) = true, m ≤
 (9000000 : Int)])) := by
 kernel_rfl
theorem ls_end (inr : Bool) (n i : Nat) (m : Int) (ds : List DV) : prjP [] 10 (codeZ (lsV noL) Try.prog (runZ (lsV noL) Try.prog 9) 9 inr 100000 (bodyIn Try.prog 9 4) (SL 24 [(0, saA n), (2, mhI m), (7, iV i)]) [(0, ⟨.sw ds, []⟩)] 10 [false]) =
  Res.ok ((Xt.exit 0, 24, [], [(0, Rw.mk (Kd.sw ds) [])], 10, [], []), [], [decide ((↑i : Int) < (↑n : Int)) = false]) := by kernel_rfl
theorem lsX {L : LFun} : XOkZ (lsV L) Try.prog := XOneZ.ok cmpY_ok rfl
theorem lsTt {L : LFun} : TOkZ (lsV L) Try.prog := T_okV rfl (mkD_ok lp_gok)
theorem lsL : LOkZ (lsV noL) Try.prog := noL_okV rfl
def lgL (m : Int) (l : List Pr) : Bool := decide ((l.length : Int) > m) || l.any big
theorem ls_loop {inr : Bool} {h0 : Hp} {L : List (List Pr)} {n : Nat} {m : Int} (hl : L.length = n) (hn : n ≤ 9000000) (hm : m ≤ 9000000) : ∀ (r i : Nat), i + r = n →
    LRuns inr Try.prog (bodyIn Try.prog 9 4) 6 40 h0 24 [(0, saA n), (2, mhI m), (7, iV i)] [(0, ⟨.sw (llD L), []⟩)] 10
      (bif (L.drop i).any (lgL m) then (.ret, [(6, .bool true)], [(0, ⟨.sw (llD L), []⟩)]) else (.exit 0, [], [(0, ⟨.sw (llD L), []⟩)]))
  | 0, i, hr => by
      rw [List.drop_of_length_le (by omega)]
      refine LRuns.exit (code_runsP lsX lsL (runZ_ok lsX lsTt lsL mixed 9) mixed (ls_end inr n i m (llD L)) ?_) (by intro e; cases e) rfl (by omega) (by omega) (fun n => n) ?_ ?_ rfl
      · simp only [Alls, decide_eq_false_iff_not]
        exact ⟨by omega, trivial⟩
      · trivial
      · exact ⟨sw_row (m := 0) rfl rfl, trivial⟩
  | r + 1, i, hr => by
      have hi : i < L.length := by omega
      obtain ⟨l, hx⟩ : ∃ l, L[i]? = some l := ⟨L[i], List.getElem?_eq_getElem hi⟩
      have A := ll_at hx
      have hd : L.drop i = l :: L.drop (i + 1) := by
        obtain ⟨h1, h2⟩ := List.getElem?_eq_some_iff.1 hx
        rw [List.drop_eq_getElem_cons hi, h2]
      have o1 := A.o 10
      have z : l.length = 0 → cpD l = [] := fun e => by rw [List.eq_nil_of_length_eq_zero e]; rfl
      have lp : LpOk (cpD l) l.length := ⟨by rw [prsOf_cp]; exact cpD_prs l, by rw [prsOf_cp]⟩
      rw [hd, List.any_cons]
      cases hb : lgL m l with
      | true =>
        rw [Bool.true_or]
        have hb' : (decide ((l.length : Int) > m) || l.any big) = true := hb
        refine LRuns.exit (code_runsP lsX lsL (runZ_ok lsX lsTt lsL mixed 9) mixed (ls_hit inr n i m (llD L)) ?_) (by intro e; cases e) rfl (by omega) (by omega) (fun n => n) ?_ ?_ rfl
        · simp only [Alls, rg, decide_eq_true_eq, Nat.add_zero, Nat.zero_add, Nat.mul_one, ixO_eq, Int.toNat_natCast, A.n, A.s, prsOf_cp]
          repeat' (with_reducible apply And.intro)
          all_goals first | omega | (with_reducible assumption) | (with_reducible exact trivial) | skip
        · exact ⟨rfl, rfl, trivial⟩
        · exact ⟨sw_row (m := 0) rfl rfl, trivial⟩
      | false =>
        rw [Bool.false_or]
        have hb' : (decide ((l.length : Int) > m) || l.any big) = false := hb
        refine LRuns.step (code_runsP lsX lsL (runZ_ok lsX lsTt lsL mixed 9) mixed (ls_go inr n i m (llD L)) ?_) rfl (by omega) (by omega) (fun n => n) ?_ ?_ rfl (ls_loop hl hn hm r (i + 1) (by omega))
        · simp only [Alls, rg, decide_eq_true_eq, Nat.add_zero, Nat.zero_add, Nat.mul_one, ixO_eq, Int.toNat_natCast, A.n, A.s, prsOf_cp]
          repeat' (with_reducible apply And.intro)
          all_goals first | omega | (with_reducible assumption) | (with_reducible exact trivial) | skip
        · exact ⟨rfl, rb_slg rfl rfl, rfl, rfl, rfl, rfl, trivial⟩
        · exact ⟨sw_row (m := 0) rfl rfl, trivial⟩
structure LsOk (ds : List DV) (n : Nat) : Prop where
  e : ds = llD (llOf ds)
  l : (llOf ds).length = n
def lsPk (live : List (Nat × Value)) (h : Hp) : Option (Nat × Int × List DV) := match live, lk h 0 with | (_, .slice _ n _) :: (_, .int _ m) :: _, some ⟨.sw ds, _⟩ => some (n, m, ds) | _, _ => none
def lsSp : LSpec := lspec lsPk (fun a => ([(0, saA a.1), (2, mhI a.2.1), (7, iV 0)], [(0, ⟨.sw a.2.2, []⟩)], 6)) (fun a tp => match tp with
  | b :: tp' => some ((bif b then .ret else .exit 0, bif b then [(6, .bool true)] else [], [(0, ⟨.sw a.2.2, []⟩)], 40, []), tp', [LsOk a.2.2 a.1 ∧ a.1 ≤ 9000000 ∧ a.2.1 ≤ 9000000 ∧ (llOf a.2.2).any (lgL a.2.1) = b])
  | [] => none)
theorem lsSp_ok : LSOk Try.prog 24 [0, 2, 7] (bodyIn Try.prog 9 4) lsSp := by
  refine lspec_ok fun a tp xt l2 h2 nx2 d tp' ob hs ho inr ts hn hg => ?_
  obtain ⟨n, m, ds⟩ := a
  simp only at hs hg
  split at hs
  case h_2 => cases hs
  rename_i b _
  simp only [Option.some.injEq, Prod.mk.injEq] at hs
  obtain ⟨⟨rfl, rfl, rfl, rfl, rfl⟩, rfl, rfl⟩ := hs
  obtain ⟨⟨h, h1, h2, h3⟩, _⟩ := ho
  have key := ls_loop (inr := inr) (h0 := [(0, ⟨.sw (llD (llOf ds)), []⟩)]) h.l h1 h2 n 0 (by omega)
  have e := h.e
  rw [List.drop_zero, h3] at key
  clear h h3
  generalize llOf ds = L at *
  subst e
  cases b <;>
  · refine LRuns.enter (N := 10) (l2 := [(0, saA n), (2, mhI m), (7, iV 0)]) hn hg (by omega) (by omega) (fun n => n) ?_ ?_ rfl key ?_
    · exact ⟨rfl, rb_slg rfl rfl, rfl, rfl, rfl, rfl, trivial⟩
    · exact ⟨sw_row (m := 0) rfl rfl, trivial⟩
    · exact tidy_of (by omega) (fun m hm hd => rfl) rfl
def lsLo (P : Program) : LFun := mkL 9 4 24 [0, 2, 7] (bodyIn P 9 4) lsSp
theorem lsLo_one : LOne Try.prog (lsLo Try.prog) := mkL_ok lsSp_ok
theorem ls_L (n : Nat) (a m : Int) (ds : List DV) : prjV (runZ (lsV noL) Try.prog 9 9 [saA n, mhI a, mhI m] [(0, ⟨.sw ds, []⟩)] 6 [true]) =
  Res.ok (Value.bool true, [], [decide ((↑n : Int) > a) = true]) := by kernel_rfl
theorem ls_1 (n : Nat) (a m : Int) (ds : List DV) : prjV (runZ (lsV (lsLo Try.prog)) Try.prog 9 9 [saA n, mhI a, mhI m] [(0, ⟨.sw ds, []⟩)] 6 [false, true]) =
  (let a2 := (7, Value.int IntKind.i64 (0 : Int)); let a1 := (0, Value.slice (some (Addr.mk 0 0 none)) n 18446744073709551616); Res.ok (Value.bool true, [], [decide ((↑n : Int) > a) = false, bodyIn Try.prog (9 : FuncId) 4 = bodyIn
 Try.prog (9 : FuncId) 4, [a1, (2, Value.int IntKind.i64 m), a2] = [a1, (2, Value.int IntKind.i64 m), a2], [(0, Rw.mk (Kd.sw ds) [])] = [(0, Rw.mk (Kd.sw ds) [])], 6 = 6, LsOk ds n ∧ n ≤ 9000000 ∧ m ≤ (9000000 : Int) ∧ List.any
 (llOf ds) (lgL m) = true])) := by
 kernel_rfl
theorem ls_0 (n : Nat) (a m : Int) (ds : List DV) : prjV (runZ (lsV (lsLo Try.prog)) Try.prog 9 9 [saA n, mhI a, mhI m] [(0, ⟨.sw ds, []⟩)] 6 [false, false]) =
  (let a2 := (7, Value.int IntKind.i64 (0 : Int)); let a1 := (0, Value.slice (some (Addr.mk 0 0 none)) n 18446744073709551616); Res.ok (Value.bool false, [], [decide ((↑n : Int) > a) = false, bodyIn Try.prog (9 : FuncId) 4 =
 bodyIn Try.prog (9 : FuncId) 4, [a1, (2, Value.int IntKind.i64 m), a2] = [a1, (2, Value.int IntKind.i64 m), a2], [(0, Rw.mk (Kd.sw ds) [])] = [(0, Rw.mk (Kd.sw ds) [])], 6 = 6, LsOk ds n ∧ n ≤ 9000000 ∧ m ≤ (9000000 : Int) ∧
 List.any (llOf ds) (lgL m) = false])) := by
 kernel_rfl
def gLs : GSpecD := fun aL tp => match aL, tp with
  | [.dl ds n, .fl (.int .i64 a), .fl (.int .i64 m)], b :: tp' => some (⟨fun _ => .bool b, []⟩, tp', [LsOk ds n ∧ (decide ((n : Int) > a) || (llOf ds).any (lgL m)) = b, a ≤ 9000000, m ≤ 9000000])
  | _, _ => none
theorem ls_gok : GOkD Try.prog 9 gLs := by
  intro aL tp gr tp' ob hG ho cs hc
  unfold gLs at hG
  split at hG
  case h_2 => cases hG
  rename_i ds n a m b tp2
  simp only [Option.some.injEq, Prod.mk.injEq] at hG
  obtain ⟨rfl, rfl, rfl⟩ := hG
  obtain ⟨⟨h1, h2⟩, ha, hm, _⟩ := ho
  have fin : ∀ {v : Bool}, (∃ h' nx' d, Tri Try.prog 9 [saA n, mhI a, mhI m] [(0, ⟨.sw ds, []⟩)] 6 (.bool v, h', nx', d)) → v = b → ∃ v0 h0' nx0' d0 g, Tri Try.prog 9 (dvV [.dl ds n, .fl (.int .i64 a), .fl (.int .i64 m)] cs 0) (dvH [.dl ds n, .fl (.int .i64 a), .fl (.int .i64 m)] cs 0) (2 * 3) (v0, h0', nx0', d0) ∧ GrD ⟨fun _ => .bool b, []⟩ v0 h0' g := fun ⟨h', nx', d, T⟩ e => by
    subst e
    exact ⟨_, h', nx', d, fun n => n, T, GrD.flat fun σ => rfl⟩
  by_cases h : (n : Int) > a
  · exact fin (run_val lsX lsTt lsL (ls_L n a m ds) ⟨decide_eq_true h, trivial⟩ rfl) (by rw [← h2, decide_eq_true h]; rfl)
  · rw [decide_eq_false h, Bool.false_or] at h2
    cases hb : (llOf ds).any (lgL m) with
    | true => exact fin (run_val lsX lsTt (L_okV rfl lsLo_one) (ls_1 n a m ds) ⟨decide_eq_false h, rfl, rfl, rfl, rfl, ⟨h1, by omega, hm, hb⟩, trivial⟩ rfl) (by rw [← h2, hb])
    | false => exact fin (run_val lsX lsTt (L_okV rfl lsLo_one) (ls_0 n a m ds) ⟨decide_eq_false h, rfl, rfl, rfl, rfl, ⟨h1, by omega, hm, hb⟩, trivial⟩ rfl) (by rw [← h2, hb])
end Go.Proofs.Ytmoflcoijmmpjaa
/-
  Chapter 14: the statement MergeTwice: the law's runs.
-/
namespace Go.Proofs.Ytmoflcoijmmpjaa
set_option linter.unusedSimpArgs false
set_option linter.unusedVariables false
set_option linter.unusedSectionVars false
open Go Go.RowKit
def gMgP (W A B : List Pr) : GSpecD := fun aL tp => match aL, tp with
  | [.dl ds n, .fl (.bool dr)], false :: tp' => some (⟨fun _ => tupM nlV 2, []⟩, tp', [MgA ds n, n ≤ 32, sumL (llOf ds) ≤ 4096, allA (llOf ds) = false])
  | [.dl ds n, .fl (.bool dr)], true :: t1 :: t2 :: true :: tp' => some (⟨fun _ => tupM nlV 0, []⟩, tp', [MgB ds n ∧ mgOut dr (llOf ds) = bif t1 then W else bif t2 then A else B, (bif t1 then W else bif t2 then A else B) = []])
  | [.dl ds n, .fl (.bool dr)], true :: t1 :: t2 :: false :: tp' => some (⟨fun nx => tupM (.slice (some ⟨nx, 0, none⟩) (bif t1 then W else bif t2 then A else B).length (capBig + nx)) 0, [⟨.df 3 zPr (cpD (bif t1 then W else bif t2 then A else B)), []⟩]⟩, tp', [MgB ds n ∧ mgOut dr (llOf ds) = bif t1 then W else bif t2 then A else B, (bif t1 then W else bif t2 then A else B) ≠ []])
  | _, _ => none
theorem mgp_gok (W A B : List Pr) : GOkD Try.prog 12 (gMgP W A B) := by
  intro aL tp gr tp' ob hG ho cs hc
  unfold gMgP at hG
  split at hG
  · rename_i ds n dr tp2
    simp only [Option.some.injEq, Prod.mk.injEq] at hG
    obtain ⟨rfl, rfl, rfl⟩ := hG
    exact mg_gok _ (false :: false :: tp2) _ _ _ rfl ho cs hc
  · rename_i ds n dr t1 t2 tp2
    simp only [Option.some.injEq, Prod.mk.injEq] at hG
    obtain ⟨rfl, rfl, rfl⟩ := hG
    obtain ⟨⟨h1, h2⟩, h3, _⟩ := ho
    exact mg_gok _ (false :: true :: true :: tp2) _ _ [MgB ds n, mgOut dr (llOf ds) = []] rfl ⟨h1, h2.trans h3, trivial⟩ cs hc
  · rename_i ds n dr t1 t2 tp2
    simp only [Option.some.injEq, Prod.mk.injEq] at hG
    obtain ⟨rfl, rfl, rfl⟩ := hG
    obtain ⟨⟨h1, h2⟩, h3, _⟩ := ho
    rw [← h2] at h3 ⊢
    exact mg_gok _ (false :: true :: false :: tp2) _ _ [MgB ds n, mgOut dr (llOf ds) ≠ []] rfl ⟨h1, h3, trivial⟩ cs hc
  · cases hG
theorem kn_gok : GOk Try.prog 5 [] gTrueY := gTrueY_ok known_any
end Go.Proofs.Ytmoflcoijmmpjaa
/-
  Chapter 14: the statement MergeTwice, at any arguments.
-/
namespace Go.Proofs.Ytmoflcoijmmpjaa
set_option linter.unusedSimpArgs false
set_option linter.unusedVariables false
set_option linter.unusedSectionVars false
open Go Go.RowKit
theorem cnL_prs : ∀ {ps : List Pr} {ds : List DV}, Prs ds ps → cnL ds = cpD ps
  | [], ds, h => by rw [show ds = [] from h]; simp [cnL, cpD]
  | p :: ps, ds, h => by
      obtain ⟨c1, c2, r, rfl, hr⟩ := h
      rw [cnL_app, cnL_prs hr, cpD_cons]
      simp only [prD, cnL, cnD, cnL_by]
theorem lls_of : ∀ {rows : List (List DV)}, (∀ r, r ∈ rows → ShsOk [.sl [.sl [.i .u8], .sl [.i .u8], .b]] r) → ∃ L : List (List Pr), cnL rows.flatten = llD L ∧ L.length = rows.length ∧ ∀ l ∈ L, ∀ p ∈ l, PrOk p
  | [], _ => ⟨[], by simp [cnL, llD], rfl, fun x hx => by cases hx⟩
  | r :: rows, h => by
      obtain ⟨L, h1, h2, h3⟩ := lls_of (rows := rows) fun x hx => h x (List.mem_cons_of_mem _ hx)
      have hr := h r (List.mem_cons_self ..)
      simp only [ShsOk] at hr
      obtain ⟨d1, _, rfl, g1, rfl⟩ := hr
      simp only [ShOk] at g1
      obtain ⟨len, cap, rs, rfl, _, _, h7, h8⟩ := g1
      obtain ⟨ps, k1, k2, k3⟩ := prs_of (rows := rs) fun x hx => by
        simp only [ShsOk, ShOk]
        have := h8 x hx
        simp only [ShsOk, ShOk] at this
        exact this
      refine ⟨ps :: L, ?_, by simp [h2], fun l hl => ?_⟩
      · simp only [List.flatten_cons, List.cons_append, List.nil_append, cnL, cnD, h1, cnL_prs k1]
        rw [← h7, ← k2]
        rfl
      · rcases List.mem_cons.1 hl with rfl | hl
        · exact k3
        · exact h3 l hl
structure SmL (L : List (List Pr)) (m B : Nat) : Prop where
  l : L.length ≤ m
  b : ∀ l ∈ L, l.length ≤ B
  O : ∀ l ∈ L, ∀ p ∈ l, PrOk p
  z : ∀ l ∈ L, ∀ p ∈ l, PrSz p
  a : L.all asc = true
theorem sumL_leB {L : List (List Pr)} {B : Nat} (hm : ∀ l ∈ L, l.length ≤ B) : sumL L ≤ L.length * B := by
  induction L with
  | nil => simp [sumL]
  | cons l L ih =>
    have h1 := hm l (List.mem_cons_self ..)
    have h2 := ih fun x hx => hm x (List.mem_cons_of_mem _ hx)
    simp only [sumL, List.map_cons, List.sum_cons, List.length_cons, Nat.succ_mul] at h2 ⊢
    omega
theorem llD_len (L : List (List Pr)) : (llD L).length = L.length := by simp [llD]
theorem SmL.mg {L : List (List Pr)} {m B n : Nat} (h : SmL L m B) (hn : L.length = n) (h1 : m ≤ 32) (h2 : m * B ≤ 4096) (h3 : B ≤ 4096) : MgB (llD L) n := by
  have hs := sumL_leB h.b
  have hl := h.l
  have hm := Nat.mul_le_mul_right B hl
  refine ⟨⟨⟨by rw [llOf_ll]; exact hn, by omega, by rw [llOf_ll]; exact fun l hl => by have := h.b l hl; omega, by rw [llOf_ll]; exact h.O⟩, by rw [llOf_ll]⟩, by omega, by rw [llOf_ll]; omega, by rw [llOf_ll]; exact h.z, by rw [llOf_ll]; exact h.a⟩
theorem SmL.take {L : List (List Pr)} {m B : Nat} (h : SmL L m B) (k : Nat) : SmL (L.take k) m B := ⟨by rw [List.length_take]; have := h.l; omega, fun l hl => h.b l (List.mem_of_mem_take hl), fun l hl => h.O l (List.mem_of_mem_take hl), fun l hl => h.z l (List.mem_of_mem_take hl), all_take h.a k⟩
theorem SmL.drop {L : List (List Pr)} {m B : Nat} (h : SmL L m B) (k : Nat) : SmL (L.drop k) m B := ⟨by rw [List.length_drop]; have := h.l; omega, fun l hl => h.b l (List.mem_of_mem_drop hl), fun l hl => h.O l (List.mem_of_mem_drop hl), fun l hl => h.z l (List.mem_of_mem_drop hl), all_drop h.a k⟩
structure OutOk (o : List Pr) (K : Nat) : Prop where
  l : o.length ≤ K
  O : ∀ p ∈ o, PrOk p
  z : ∀ p ∈ o, PrSz p
  a : asc o = true
theorem SmL.out {L : List (List Pr)} {m B : Nat} (h : SmL L m B) (dr : Bool) : OutOk (mgOut dr L) (m * B) := by
  have h1 := mgOut_len (dr := dr) h.b
  have h2 := Nat.mul_le_mul_right B h.l
  refine ⟨by omega, fun p hp => ?_, fun p hp => ?_, mgOut_asc h.a⟩
  · obtain ⟨l, g1, g2⟩ := mgOut_mem h.a hp
    exact h.O l g1 p g2
  · obtain ⟨l, g1, g2⟩ := mgOut_mem h.a hp
    exact h.z l g1 p g2
end Go.Proofs.Ytmoflcoijmmpjaa
