/-
  Chapter 14: merge.Merge: its loops' specifications, its runs, its contract.
-/
import Derived.Test.YtmoflcoijmmpjaaGrAW
namespace Go.Proofs.Ytmoflcoijmmpjaa
set_option linter.unusedSimpArgs false
set_option linter.unusedVariables false
set_option linter.unusedSectionVars false
open Go Go.RowKit
structure MgA (ds : List DV) (n : Nat) : Prop where
 L : LL (llOf ds) n
 e : ds = llD (llOf ds)
def mg1Pk (live : List (Nat × Value)) (h : Hp) : Option (Nat × Bool × List DV) := match live, lk h 0 with | (_, .slice _ n _) :: (_, .bool dr) :: _, some ⟨.sw ds, _⟩ => some (n, dr, ds) | _, _ => none
def mg1Sp : LSpec := lspec mg1Pk (fun a => ([(0, llA a.1), (1, .bool a.2.1), (6, mhI 0), (17, llA a.1), (18, iV a.1), (19, iV 0)], [(0, ⟨.sw a.2.2, []⟩)], 4)) (fun a tp => some ((.exit 0, [(0, llA a.1), (1, .bool a.2.1), (6, mhI (sumL (llOf a.2.2) : Nat))], [(0, ⟨.sw a.2.2, []⟩)], 20, []), tp, [MgA a.2.2 a.1]))
theorem mg1_ok : LSOk Try.prog 128 [0, 1, 6, 17, 18, 19] (bodyIn Try.prog 12 3) mg1Sp := by
 refine lspec_ok fun a tp xt l2 h2 nx2 d tp' ob hs ho inr ts hn hg => ?_
 obtain ⟨n, dr, ds⟩ := a
 simp only at hs hg
 simp only [oI, pI] at hs
 obtain ⟨⟨rfl, rfl, rfl, rfl, rfl⟩, rfl, rfl⟩ := hs
 obtain ⟨h, _⟩ := ho
 have key := mh_sum (inr := inr) (h0 := [(0, ⟨.sw (llD (llOf ds)), []⟩)]) (dr := dr) h.L n 0 (by omega)
 have e := h.e
 generalize llOf ds = L at *
 subst e
 rw [List.take_zero] at key
 refine LRuns.enter (N := 10) (l2 := [(0, llA n), (1, .bool dr), (6, mhI 0), (17, llA n), (18, iV n), (19, iV 0)]) hn hg (by omega) (by omega) (fun n => n) ?_ ?_ rfl key ?_
 ·exact ⟨rfl, rb_slg rfl rfl, rfl, rfl, rfl, rfl, rfl, rb_slg rfl rfl, rfl, rfl, rfl, rfl, trivial⟩
 ·exact ⟨sw_row (m := 0) rfl rfl, trivial⟩
 ·exact tidy_of (by omega) (fun m hm hd => rfl) rfl
def mg2Sp : LSpec := lspec mg1Pk (fun a => ([(0, llA a.1), (1, .bool a.2.1), (9, nlV), (35, llA a.1), (36, iV a.1), (37, iV 0)], [(0, ⟨.sw a.2.2, []⟩)], 20)) (fun a tp => match tp with
 | false :: tp' => some ((.ret, [(4, nlV), (5, mhI 2)], [(0, ⟨.sw a.2.2, []⟩)], 100, []), tp', [MgA a.2.2 a.1, allA (llOf a.2.2) = false])
 | true :: true :: tp' => some ((.exit 2, [(1, .bool a.2.1), (9, nlV)], [(0, ⟨.sw a.2.2, []⟩)], 100, []), tp', [MgA a.2.2 a.1, allA (llOf a.2.2) = true, hdsF 0 (llOf a.2.2) = []])
 | true :: false :: tp' => some ((.exit 2, [(1, .bool a.2.1), (9, heA (hdsF 0 (llOf a.2.2)).length)], [(60, ⟨.dw 2 zHd (hdD (hdsF 0 (llOf a.2.2))), []⟩), (0, ⟨.sw a.2.2, []⟩)], 100, []), tp', [MgA a.2.2 a.1, allA (llOf a.2.2) = true, hdsF 0 (llOf a.2.2) ≠ []])
 | _ => none)
theorem mg2_ok : LSOk Try.prog 128 [0, 1, 9, 35, 36, 37] (bodyIn Try.prog 12 11) mg2Sp := by
 refine lspec_ok fun a tp xt l2 h2 nx2 d tp' ob hs ho inr ts hn hg => ?_
 obtain ⟨n, dr, ds⟩ := a
 simp only at hs hg
 have fin : MgA ds n → (∀ key, key = (bif allA (llOf ds) then (Xt.exit 2, [(1, Value.bool dr), (9, heV (hdsF 0 (llOf ds)))], heH (hdsF 0 (llOf ds)) ds) else (Xt.ret, [(4, nlV), (5, mhI 2)], ([(0, ⟨.sw ds, []⟩)] : Hp))) → Tidy [(0, ⟨.sw ds, []⟩)] 20 key.2.2 100 [] → Runs inr (fun F m Q => Code.againIn F m Try.prog (bodyIn Try.prog 12 11) Q) ts [(0, ⟨.sw ds, []⟩)] 20 (key.1, SL 128 key.2.1, key.2.2, 100, [], [])) := fun h key hk hT => by
  have q := mh_hds (inr := inr) (h0 := [(0, ⟨.sw (llD (llOf ds)), []⟩)]) (dr := dr) h.L n 0 [] (by omega) rfl
  have e := h.e
  rw [List.drop_zero] at q
  rw [← e] at q
  subst hk
  refine LRuns.enter (N := 61) (l2 := [(0, llA n), (1, .bool dr), (9, nlV), (35, llA n), (36, iV n), (37, iV 0)]) hn hg (by omega) (by omega) (fun n => n) ?_ ?_ rfl q hT
  ·exact ⟨rfl, rb_slg rfl rfl, rfl, rfl, rfl, rfl, rfl, rb_slg rfl rfl, rfl, rfl, rfl, rfl, trivial⟩
  ·exact ⟨sw_row (m := 0) rfl rfl, trivial⟩
 split at hs
 ·simp only [oI, pI] at hs
  obtain ⟨⟨rfl, rfl, rfl, rfl, rfl⟩, rfl, rfl⟩ := hs
  obtain ⟨h, h1, _⟩ := ho
  exact fin h (Xt.ret, [(4, nlV), (5, mhI 2)], [(0, ⟨.sw ds, []⟩)]) (by rw [h1]; rfl) (tidy_of (by omega) (fun m hm hd => rfl) rfl)
 ·simp only [oI, pI] at hs
  obtain ⟨⟨rfl, rfl, rfl, rfl, rfl⟩, rfl, rfl⟩ := hs
  obtain ⟨h, h1, h2, _⟩ := ho
  exact fin h (Xt.exit 2, [(1, .bool dr), (9, nlV)], [(0, ⟨.sw ds, []⟩)]) (by rw [h1, h2]; rfl) (tidy_of (by omega) (fun m hm hd => rfl) rfl)
 ·simp only [oI, pI] at hs
  obtain ⟨⟨rfl, rfl, rfl, rfl, rfl⟩, rfl, rfl⟩ := hs
  obtain ⟨h, h1, h2, _⟩ := ho
  refine fin h (Xt.exit 2, [(1, .bool dr), (9, heA (hdsF 0 (llOf ds)).length)], [(60, ⟨.dw 2 zHd (hdD (hdsF 0 (llOf ds))), []⟩), (0, ⟨.sw ds, []⟩)]) (by rw [h1, heV_ne h2, heH_ne h2]; rfl) (tidy_of (by omega) (fun m hm hd => ?_) rfl)
  rw [lk_cons, if_neg (by omega)]
 ·cases hs
structure HfOk (es : List DV) (m : Nat) (k : Int) : Prop where
 e : es = hdD (hdOf es)
 l : m ≤ (hdOf es).length
 n9 : m ≤ 100
 O : ∀ j, j < m → HdOk (gH (hdOf es) j)
 k : k = ((m / 2 : Nat) : Int) - 1
def mg3Pk (live : List (Nat × Value)) (h : Hp) : Option (Bool × Nat × Int × List DV × List DV) := match live, lk h 60, lk h 0 with | (_, .bool dr) :: (_, .slice _ m _) :: (_, .int _ k) :: _, some ⟨.dw _ _ es, _⟩, some ⟨.sw ds, _⟩ => some (dr, m, k, es, ds) | _, _, _ => none
def mg3Sp : LSpec := lspec mg3Pk (fun a => ([(1, .bool a.1), (9, heA a.2.1), (12, mhI a.2.2.1)], [(60, ⟨.dw 2 zHd a.2.2.2.1, []⟩), (0, ⟨.sw a.2.2.2.2, []⟩)], 100)) (fun a tp => some ((.exit 4, [(1, .bool a.1), (9, heA a.2.1)], [(60, ⟨.dw 2 zHd (hdD (hfH (a.2.1 / 2) (hdOf a.2.2.2.1) a.2.1)), []⟩), (0, ⟨.sw a.2.2.2.2, []⟩)], 120, [60]), tp, [HfOk a.2.2.2.1 a.2.1 a.2.2.1]))
theorem mg3_ok : LSOk Try.prog 128 [1, 9, 12] (bodyIn Try.prog 12 19) mg3Sp := by
 refine lspec_ok fun a tp xt l2 h2 nx2 d tp' ob hs ho inr ts hn hg => ?_
 obtain ⟨dr, m, k, es, ds⟩ := a
 simp only at hs hg
 simp only [oI, pI] at hs
 obtain ⟨⟨rfl, rfl, rfl, rfl, rfl⟩, rfl, rfl⟩ := hs
 obtain ⟨⟨e, hl, n9, hO, hk⟩, _⟩ := ho
 have key := mh_heap (inr := inr) (h0 := [(60, ⟨.dw 2 zHd (hdD (hdOf es)), []⟩), (0, ⟨.sw ds, []⟩)]) (ds := ds) (dr := dr) n9 (m / 2) (hdOf es) hl (by omega) hO
 generalize hdOf es = H at *
 subst e
 subst hk
 refine LRuns.enter (N := 101) (l2 := [(1, .bool dr), (9, heA m), (12, mhI (((m / 2 : Nat) : Int) - 1))]) hn hg (by omega) (by omega) (fun n => n) ?_ ?_ rfl key ?_
 ·exact ⟨rfl, rfl, rfl, rb_slg rfl rfl, rfl, rfl, trivial⟩
 ·exact ⟨dw_row (m := 60) rfl rfl, sw_row (m := 0) rfl rfl, trivial⟩
 ·refine tidy_of (by omega) (fun j hj hd => ?_) rfl
  have : j ≠ 60 := fun e => hd (by simp [e])
  simp only [lk_cons, if_neg this.symm]
structure MnOk (es : List DV) (m : Nat) : Prop where
 e : es = hdD (hdOf es)
 m0 : 0 < m
 W : WM ⟨hdOf es, m, false, [], []⟩
def mnO (dr : Bool) (es : List DV) (m : Nat) : List Pr := (runM dr (lfM m (hdOf es)) ⟨hdOf es, m, false, [], []⟩).out
def mg4Pk (live : List (Nat × Value)) (h : Hp) : Option (Bool × Nat × List DV × List DV) := match live, lk h 60, lk h 0 with | (_, .bool dr) :: (_, .slice _ m _) :: _, some ⟨.dw _ _ es, _⟩, some ⟨.sw ds, _⟩ => some (dr, m, es, ds) | _, _, _ => none
def mg4Sp : LSpec := lspec mg4Pk (fun a => ([(1, .bool a.1), (9, heA a.2.1), (13, nlV), (14, nlV), (15, .bool false)], [(60, ⟨.dw 2 zHd a.2.2.1, []⟩), (0, ⟨.sw a.2.2.2, []⟩)], 120)) (fun a tp => match tp with
 | true :: tp' => some ((.exit 6, [(13, nlV)], [(0, ⟨.sw a.2.2.2, []⟩)], 400, [60]), tp', [MnOk a.2.2.1 a.2.1, mnO a.1 a.2.2.1 a.2.1 = []])
 | false :: tp' => some ((.exit 6, [(13, ouA (mnO a.1 a.2.2.1 a.2.1).length)], [(200, ⟨.dx 1 3 zPr (cpD (mnO a.1 a.2.2.1 a.2.1)), []⟩), (0, ⟨.sw a.2.2.2, []⟩)], 400, [60]), tp', [MnOk a.2.2.1 a.2.1, mnO a.1 a.2.2.1 a.2.1 ≠ []])
 | [] => none)
theorem mg4_ok : LSOk Try.prog 128 [1, 9, 13, 14, 15] (bodyIn Try.prog 12 25) mg4Sp := by
 refine lspec_ok fun a tp xt l2 h2 nx2 d tp' ob hs ho inr ts hn hg => ?_
 obtain ⟨dr, m, es, ds⟩ := a
 simp only at hs hg
 have fin : MnOk es m → ∀ key, key = (Xt.exit 6, [(13, ouV (mnO dr es m))], moR (mnO dr es m) [(0, ⟨.sw ds, []⟩)]) → Tidy [(60, ⟨.dw 2 zHd es, []⟩), (0, ⟨.sw ds, []⟩)] 120 key.2.2 400 [60] → Runs inr (fun F m Q => Code.againIn F m Try.prog (bodyIn Try.prog 12 25) Q) ts [(60, ⟨.dw 2 zHd es, []⟩), (0, ⟨.sw ds, []⟩)] 120 (key.1, SL 128 key.2.1, key.2.2, 400, [60], []) := fun h key hk hT => by
  have q := mh_main (inr := inr) (h0 := [(60, ⟨.dw 2 zHd es, []⟩), (0, ⟨.sw ds, []⟩)]) (ds := ds) (dr := dr) (lfM m (hdOf es)) ⟨hdOf es, m, false, [], []⟩ h.W (Nat.le_refl _) (fun _ => ⟨h.m0, rfl⟩)
  have e := h.e
  simp only [mSl, mHp, mLs, moR, ouV, cond_false] at q
  rw [← e] at q
  subst hk
  refine LRuns.enter (N := 300) (l2 := [(1, .bool dr), (9, heA m), (13, nlV), (14, nlV), (15, .bool false)]) hn hg (by omega) (by omega) (fun n => n) ?_ ?_ rfl q hT
  ·exact ⟨rfl, rfl, rfl, rb_slg rfl rfl, rfl, rfl, rfl, rfl, rfl, rfl, trivial⟩
  ·exact ⟨dw_row (m := 60) rfl rfl, sw_row (m := 0) rfl rfl, trivial⟩
 have h60 : ∀ (r : Rw) (t : Hp) (j : Nat), j ∉ [60] → lk t j = lk ((60, r) :: t) j := fun r t j hd => by
  have : j ≠ 60 := fun e => hd (by simp [e])
  rw [lk_cons, if_neg this.symm]
 split at hs
 ·simp only [oI, pI] at hs
  obtain ⟨⟨rfl, rfl, rfl, rfl, rfl⟩, rfl, rfl⟩ := hs
  obtain ⟨h, h1, _⟩ := ho
  exact fin h (Xt.exit 6, [(13, nlV)], [(0, ⟨.sw ds, []⟩)]) (by rw [h1]; rfl) (tidy_of (by omega) (fun j hj hd => h60 _ _ j hd) rfl)
 ·simp only [oI, pI] at hs
  obtain ⟨⟨rfl, rfl, rfl, rfl, rfl⟩, rfl, rfl⟩ := hs
  obtain ⟨h, h1, _⟩ := ho
  refine fin h (Xt.exit 6, [(13, ouA (mnO dr es m).length)], [(200, ⟨.dx 1 3 zPr (cpD (mnO dr es m)), []⟩), (0, ⟨.sw ds, []⟩)]) (by rw [ouV_ne h1, moR_ne h1]) (tidy_of (by omega) (fun j hj hd => ?_) rfl)
  rw [← h60 _ _ j hd, lk_cons, if_neg (by omega)]
 ·cases hs
def mgLn (P : Program) : LFun := orL (mkL 12 3 128 [0, 1, 6, 17, 18, 19] (bodyIn P 12 3) mg1Sp) (mkL 12 11 128 [0, 1, 9, 35, 36, 37] (bodyIn P 12 11) mg2Sp)
def mgLo (P : Program) : LFun := orL (mgLn P) (orL (mkL 12 19 128 [1, 9, 12] (bodyIn P 12 19) mg3Sp) (mkL 12 25 128 [1, 9, 13, 14, 15] (bodyIn P 12 25) mg4Sp))
theorem mgLn_one : LOne Try.prog (mgLn Try.prog) := orL_ok (mkL_ok mg1_ok) (mkL_ok mg2_ok)
theorem mgLo_one : LOne Try.prog (mgLo Try.prog) := orL_ok mgLn_one (orL_ok (mkL_ok mg3_ok) (mkL_ok mg4_ok))
theorem mg_l1 (n : Nat) (dr : Bool) (ds : List DV) : prjV (runZ (mhV true (mgLo Try.prog) mhT) Try.prog 12 12 [llA n, .bool dr] [(0, ⟨.sw ds, []⟩)] 4 [true]) =
 (let a6 := (6, Value.int IntKind.i64 (0 : Int)); let a5 := (19, Value.int IntKind.i64 (0 : Int)); let a4 := (18, Value.int IntKind.i64 (↑n : Int)); let a1 := (some (Addr.mk 0 0 none)); let a3 := (0, Value.slice a1 n 18446744073709551616); let a2 := (17, Value.slice a1 n 18446744073709551616); Res.ok (Value.tuple (Array.mk [Value.slice none 0 0, Value.int IntKind.i64 (3 : Int)]), [], [bodyIn Try.prog (12 : FuncId) 3 = bodyIn Try.prog (12 : FuncId) 3, [a3, (1, Value.bool dr), a6, a2, a4, a5] = [a3, (1, Value.bool dr), a6, a2, a4, a5], [(0, Rw.mk (Kd.sw ds) [])] = [(0, Rw.mk (Kd.sw ds) [])], 4 = 4, MgA ds n, decide ((↑n : Int) > (32 : Int)) = true])) := by kernel_rfl
theorem mg_l2 (n : Nat) (dr : Bool) (ds : List DV) : prjV (runZ (mhV true (mgLo Try.prog) mhT) Try.prog 12 12 [llA n, .bool dr] [(0, ⟨.sw ds, []⟩)] 4 [false, true]) =
 (let a6 := (6, Value.int IntKind.i64 (0 : Int)); let a5 := (19, Value.int IntKind.i64 (0 : Int)); let a4 := (18, Value.int IntKind.i64 (↑n : Int)); let a1 := (some (Addr.mk 0 0 none)); let a3 := (0, Value.slice a1 n 18446744073709551616); let a2 := (17, Value.slice a1 n 18446744073709551616); Res.ok (Value.tuple (Array.mk [Value.slice none 0 0, Value.int IntKind.i64 (3 : Int)]), [], [bodyIn Try.prog (12 : FuncId) 3 = bodyIn Try.prog (12 : FuncId) 3, [a3, (1, Value.bool dr), a6, a2, a4, a5] = [a3, (1, Value.bool dr), a6, a2, a4, a5], [(0, Rw.mk (Kd.sw ds) [])] = [(0, Rw.mk (Kd.sw ds) [])], 4 = 4, MgA ds n, decide ((↑n : Int) > (32 : Int)) = false, decide ((↑(sumL (llOf ds)) : Int) > (4096 : Int)) = true])) := by kernel_rfl
theorem mg_uns (n : Nat) (dr : Bool) (ds : List DV) : prjV (runZ (mhV true (mgLo Try.prog) mhT) Try.prog 12 12 [llA n, .bool dr] [(0, ⟨.sw ds, []⟩)] 4 [false, false, false]) =
 (let a12 := (12 : FuncId); let a11 := (6, Value.int IntKind.i64 (0 : Int)); let a10 := (37, Value.int IntKind.i64 (0 : Int)); let a9 := (19, Value.int IntKind.i64 (0 : Int)); let a8 := (36, Value.int IntKind.i64 (↑n : Int)); let a7 := (18, Value.int IntKind.i64 (↑n : Int)); let a4 := (1, Value.bool dr); let a3 := (0, Rw.mk (Kd.sw ds) []); let a2 := (some (Addr.mk 0 0 none)); let a6 := (35, Value.slice a2 n 18446744073709551616); let a5 := (17, Value.slice a2 n 18446744073709551616); let a1 := (0, Value.slice a2 n 18446744073709551616); Res.ok (Value.tuple (Array.mk [Value.slice none 0 0, Value.int IntKind.i64 (2 : Int)]), [], [bodyIn Try.prog a12 3 = bodyIn Try.prog a12 3, [a1, a4, a11, a5, a7, a9] = [a1, a4, a11, a5, a7, a9], [a3] = [a3], 4 = 4, MgA ds n, decide ((↑n : Int) > (32 : Int)) = false, decide ((↑(sumL (llOf ds)) : Int) > (4096 : Int)) = false, bodyIn Try.prog a12 11 = bodyIn
 Try.prog a12 11, [a1, a4, (9, Value.slice none 0 0), a6, a8, a10] = [a1, a4, (9, Value.slice none 0 0), a6, a8, a10], [a3] = [a3], 20 = 20, MgA ds n, allA (llOf ds) =
 false])) := by kernel_rfl
theorem mg_nil (n : Nat) (dr : Bool) (ds : List DV) : prjV (runZ (mhV true (mgLn Try.prog) mhT) Try.prog 12 12 [llA n, .bool dr] [(0, ⟨.sw ds, []⟩)] 4 [false, false, true, true, false, false]) =
 (let a12 := (12 : FuncId); let a11 := (6, Value.int IntKind.i64 (0 : Int)); let a10 := (37, Value.int IntKind.i64 (0 : Int)); let a9 := (19, Value.int IntKind.i64 (0 : Int)); let a8 := (36, Value.int IntKind.i64 (↑n : Int)); let a7 := (18, Value.int IntKind.i64 (↑n : Int)); let a4 := (1, Value.bool dr); let a3 := (0, Rw.mk (Kd.sw ds) []); let a2 := (some (Addr.mk 0 0 none)); let a6 := (35, Value.slice a2 n 18446744073709551616); let a5 := (17, Value.slice a2 n 18446744073709551616); let a1 := (0, Value.slice a2 n 18446744073709551616); Res.ok (Value.tuple (Array.mk [Value.slice none 0 0, Value.int IntKind.i64 (0 : Int)]), [], [bodyIn Try.prog a12 3 = bodyIn Try.prog a12 3, [a1, a4, a11, a5, a7, a9] = [a1, a4, a11, a5, a7, a9], [a3] = [a3], 4 = 4, MgA ds n, decide ((↑n : Int) > (32 : Int)) = false, decide ((↑(sumL (llOf ds)) : Int) > (4096 : Int)) = false, bodyIn Try.prog a12 11 = bodyIn
 Try.prog a12 11, [a1, a4, (9, Value.slice none 0 0), a6, a8, a10] = [a1, a4, (9, Value.slice none 0 0), a6, a8, a10], [a3] = [a3], 20 = 20, MgA ds n, allA (llOf ds) = true, hdsF 0 (llOf ds) = [], (0 : Int) ≤ (0 : Int) ∧ (0 : Int) < (2 : Int) ∧ rg IntKind.i64 (0 : Int), rg IntKind.i64 (Int.negSucc (nat_lit 0)), false = false, false =
 false])) := by kernel_rfl
theorem mg_emp (n : Nat) (dr : Bool) (ds : List DV) : prjV (runZ (mhV true (mgLo Try.prog) mhT) Try.prog 12 12 [llA n, .bool dr] [(0, ⟨.sw ds, []⟩)] 4 [false, false, true, false, true]) =
 (let a19 := (6, Value.int IntKind.i64 (0 : Int)); let a18 := (37, Value.int IntKind.i64 (0 : Int)); let a17 := (19, Value.int IntKind.i64 (0 : Int)); let a16 := (36, Value.int IntKind.i64 (↑n : Int)); let a15 := (18, Value.int IntKind.i64 (↑n : Int)); let a12 := (12 : FuncId); let a8 := (some (Addr.mk 0 0 none)); let a14 := (35, Value.slice a8 n 18446744073709551616); let a13 := (17, Value.slice a8 n 18446744073709551616); let a7 := (1, Value.bool dr); let a5 := (0, Rw.mk (Kd.sw ds) []); let a3 := (0, Value.slice a8 n 18446744073709551616); let a1 := (hdsF 0 (llOf ds)); let a11 := (List.length a1); let a9 := (60, Rw.mk (Kd.dw 2 [Value.slice none 0 0, Value.int IntKind.i64 (0 : Int)] (hdD a1)) []); let a6 := ((↑(List.length a1 / 2) : Int) - (1 : Int)); let a20 := (12, Value.int IntKind.i64 a6); let a4 := (hdD (hfH (List.length a1 / 2) (hdOf (hdD a1)) a11)); let a10 := (60, Rw.mk (Kd.dw 2
 [Value.slice none 0 0, Value.int IntKind.i64 (0 : Int)] a4) []); let a2 := (9, Value.slice (some (Addr.mk 60 0 none)) a11 (capBig + 60)); Res.ok (Value.tuple (Array.mk [Value.slice none 0 0, Value.int IntKind.i64 (0 : Int)]), [], [bodyIn Try.prog a12 3 = bodyIn Try.prog a12 3, [a3, a7, a19, a13, a15, a17] = [a3, a7, a19, a13, a15, a17], [a5] = [a5], 4 = 4, MgA ds n, decide ((↑n : Int) > (32 : Int)) = false, decide ((↑(sumL (llOf ds)) : Int) > (4096 : Int)) = false, bodyIn Try.prog a12 11 = bodyIn Try.prog a12 11, [a3, a7, (9, Value.slice none 0 0), a14, a16, a18] = [a3, a7, (9, Value.slice none 0 0), a14, a16, a18], [a5] = [a5], 20 = 20, MgA ds n, allA (llOf ds) = true, hdsF 0 (llOf ds) ≠ [], (0 : Int) ≤ (↑a11 : Int) ∧ (0 : Int) < (2 : Int) ∧ rg IntKind.i64 (↑a11 : Int), rg IntKind.i64 a6, bodyIn Try.prog a12 19 = bodyIn Try.prog a12 19, [a7, a2, a20] = [a7, a2, a20], [a9, a5] = [a9,
 a5], 100 = 100, HfOk (hdD a1) a11 a6, bodyIn Try.prog a12 25 = bodyIn Try.prog a12 25, [a7, a2, (13, Value.slice none 0 0), (14, Value.slice none 0 0), (15, Value.bool false)] = [a7, a2, (13, Value.slice none 0 0), (14, Value.slice none 0 0), (15, Value.bool false)], [a10, a5] = [a10, a5], 120 = 120, MnOk a4 a11, mnO dr a4 a11 =
 []])) := by kernel_rfl
theorem mg_out (n : Nat) (dr : Bool) (ds : List DV) : runZ (mhV true (mgLo Try.prog) mhT) Try.prog 12 12 [llA n, .bool dr] [(0, ⟨.sw ds, []⟩)] 4 [false, false, true, false, false] =
 (let a19 := (6, Value.int IntKind.i64 (0 : Int)); let a18 := (37, Value.int IntKind.i64 (0 : Int)); let a17 := (19, Value.int IntKind.i64 (0 : Int)); let a16 := (36, Value.int IntKind.i64 (↑n : Int)); let a15 := (18, Value.int IntKind.i64 (↑n : Int)); let a12 := (12 : FuncId); let a11 := (hdsF 0 (llOf ds)); let a9 := (some (Addr.mk 0 0 none)); let a14 := (35, Value.slice a9 n 18446744073709551616); let a13 := (17, Value.slice a9 n 18446744073709551616); let a8 := (60, Rw.mk (Kd.dw 2 [Value.slice none 0 0, Value.int IntKind.i64 (0 : Int)] (hdD a11)) []); let a7 := (1, Value.bool dr); let a6 := ((↑(List.length a11 / 2) : Int) - (1 : Int)); let a20 := (12, Value.int IntKind.i64 a6); let a5 := (0, Rw.mk (Kd.sw ds) []); let a3 := (0, Value.slice a9 n 18446744073709551616); let a2 := (List.length a11); let a4 := (9, Value.slice (some (Addr.mk 60 0 none)) a2 (capBig + 60)); let a1 := (hdD (hfH
 (List.length a11 / 2) (hdOf (hdD a11)) a2)); let a10 := (60, Rw.mk (Kd.dw 2 [Value.slice none 0 0, Value.int IntKind.i64 (0 : Int)] a1) []); Res.ok ((Value.tuple (Array.mk [Value.slice (some (Addr.mk 200 0 none)) (List.length (mnO dr a1 a2)) (capBig + 200), Value.int IntKind.i64 (0 : Int)]), [(200, Rw.mk (Kd.dx 1 3 [Value.slice none 0 0, Value.slice none 0 0, Value.bool false] (cpD (mnO dr a1 a2))) []), a5], 400, []), [], [bodyIn Try.prog a12 3 = bodyIn Try.prog a12 3, [a3, a7, a19, a13, a15, a17] = [a3, a7, a19, a13, a15, a17], [a5] = [a5], 4 = 4, MgA ds n, decide ((↑n : Int) > (32 : Int)) = false, decide ((↑(sumL (llOf ds)) : Int) > (4096 : Int)) = false, bodyIn Try.prog a12 11 = bodyIn Try.prog a12 11, [a3, a7, (9, Value.slice none 0 0), a14, a16, a18] = [a3, a7, (9, Value.slice none 0 0), a14, a16, a18], [a5] = [a5], 20 = 20, MgA ds n, allA (llOf ds) = true, hdsF 0 (llOf ds) ≠ [], (0
 : Int) ≤ (↑a2 : Int) ∧ (0 : Int) < (2 : Int) ∧ rg IntKind.i64 (↑a2 : Int), rg IntKind.i64 a6, bodyIn Try.prog a12 19 = bodyIn Try.prog a12 19, [a7, a4, a20] = [a7, a4, a20], [a8, a5] = [a8, a5], 100 = 100, HfOk (hdD a11) a2 a6, bodyIn Try.prog a12 25 = bodyIn Try.prog a12 25, [a7, a4, (13, Value.slice none 0 0), (14, Value.slice none 0 0), (15, Value.bool false)] = [a7, a4, (13, Value.slice none 0 0), (14, Value.slice none 0 0), (15, Value.bool false)], [a10, a5] = [a10, a5], 120 = 120, MnOk a1 a2, mnO dr a1 a2 ≠
 []])) := by kernel_rfl
structure MgB (ds : List DV) (n : Nat) : Prop where
 A : MgA ds n
 n32 : n ≤ 32
 s : sumL (llOf ds) ≤ 4096
 z : ∀ l ∈ llOf ds, ∀ p ∈ l, PrSz p
 a : allA (llOf ds) = true
theorem lfM_le : ∀ {n : Nat} {H : List Hd} {B : Nat}, (∀ j, j < n → (gH H j).1.length ≤ B) → lfM n H ≤ n * B
 | 0, H, B, h => by simp [lfM]
 | n + 1, H, B, h => by
   have h1 := lfM_le (n := n) (H := H) (B := B) fun j hj => h j (by omega)
   have h2 := h n (by omega)
   simp only [lfM, Nat.succ_mul]
   omega
theorem gL_mem {L : List (List Pr)} {i : Nat} (h : gL L i ≠ []) : gL L i ∈ L ∧ i < L.length := by
 unfold gL at h ⊢
 cases he : L[i]? with
 | none => rw [he] at h; exact absurd rfl h
 | some x =>
  exact ⟨List.mem_of_getElem? he, (List.getElem?_eq_some_iff.1 he).1⟩
structure HdZ (H : List Hd) (m : Nat) : Prop where
 O : ∀ j, j < m → HdOk (gH H j)
 Z : ∀ j, j < m → ∀ p ∈ (gH H j).1, PrSz p
theorem MgB.hds {ds : List DV} {n : Nat} (h : MgB ds n) : HdZ (hdsF 0 (llOf ds)) (hdsF 0 (llOf ds)).length := by
 have hl := h.A.L.l
 have n32 := h.n32
 have f : ∀ j, j < (hdsF 0 (llOf ds)).length → ∃ l, (gH (hdsF 0 (llOf ds)) j).1 = l ∧ l ≠ [] ∧ l ∈ llOf ds ∧ (gH (hdsF 0 (llOf ds)) j).2 < n := fun j hj => by
  obtain ⟨h1, h2, h3⟩ := hdsF_mem (gH_mem hj)
  rw [Nat.sub_zero] at h3
  have h4 : gL (llOf ds) (gH (hdsF 0 (llOf ds)) j).2 ≠ [] := by rw [h3]; exact h1
  obtain ⟨g1, g2⟩ := gL_mem h4
  rw [h3] at g1
  exact ⟨_, rfl, h1, g1, by omega⟩
 refine ⟨fun j hj => ?_, fun j hj => ?_⟩
 ·obtain ⟨l, e, h1, h2, h3⟩ := f j hj
  exact ⟨by rw [e]; exact h1, by rw [e]; exact h.A.L.O l h2, by rw [e]; exact h.A.L.m l h2, by omega⟩
 ·obtain ⟨l, e, h1, h2, h3⟩ := f j hj
  rw [e]
  exact h.z l h2
theorem MgB.hf {ds : List DV} {n : Nat} (h : MgB ds n) : HfOk (hdD (hdsF 0 (llOf ds))) (hdsF 0 (llOf ds)).length (((hdsF 0 (llOf ds)).length / 2 : Nat) - 1) := by
 have h1 := hdsF_len (llOf ds) 0
 have hl := h.A.L.l
 have n32 := h.n32
 refine ⟨by rw [hdOf_hd], by rw [hdOf_hd]; exact Nat.le_refl _, by omega, by rw [hdOf_hd]; exact h.hds.O, rfl⟩
theorem MgB.mn {ds : List DV} {n : Nat} (h : MgB ds n) (h0 : hdsF 0 (llOf ds) ≠ []) : MnOk (hdD (hfH ((hdsF 0 (llOf ds)).length / 2) (hdOf (hdD (hdsF 0 (llOf ds)))) (hdsF 0 (llOf ds)).length)) (hdsF 0 (llOf ds)).length := by
 have h1 := hdsF_len (llOf ds) 0
 have hl := h.A.L.l
 have n32 := h.n32
 have Hd := h.hds
 rw [hdOf_hd]
 generalize hdsF 0 (llOf ds) = H at *
 have S := (hf_heap (n := H.length) (H.length / 2) H (Nat.le_refl _) (hf_top H H.length)).2
 have back : ∀ j, j < H.length → ∃ k, k < H.length ∧ gH H k = gH (hfH (H.length / 2) H H.length) j := fun j hj => S.m _ ⟨j, hj, rfl⟩
 have hO : ∀ j, j < H.length → HdOk (gH (hfH (H.length / 2) H H.length) j) := fun j hj => by
  obtain ⟨k, k1, k2⟩ := back j hj
  rw [← k2]
  exact Hd.O k k1
 have hb := lfM_le (n := H.length) (H := hfH (H.length / 2) H H.length) (B := 9000000) fun j hj => (hO j hj).l
 refine ⟨by rw [hdOf_hd], List.length_pos_iff.2 h0, ?_⟩
 rw [hdOf_hd]
 refine ⟨?_, ?_, hO, fun j hj => ?_, fun x hx => (by cases hx), ?_⟩
 ·show H.length ≤ _
  rw [S.l]; exact Nat.le_refl _
 ·show H.length ≤ 100
  omega
 ·obtain ⟨k, k1, k2⟩ := back j hj
  show ∀ p ∈ (gH (hfH (H.length / 2) H H.length) j).1, PrSz p
  rw [← k2]
  exact Hd.Z k k1
 ·show 0 + lfM H.length (hfH (H.length / 2) H H.length) ≤ _
  have : H.length * 9000000 ≤ 32 * 9000000 := Nat.mul_le_mul_right _ (by omega)
  omega
theorem mnO_is (dr : Bool) (L : List (List Pr)) : mnO dr (hdD (hfH ((hdsF 0 L).length / 2) (hdOf (hdD (hdsF 0 L))) (hdsF 0 L).length)) (hdsF 0 L).length = mgOut dr L := by
 unfold mnO
 rw [hdOf_hd, hdOf_hd]
 rfl
theorem mgOut_nil {dr : Bool} {L : List (List Pr)} (h : hdsF 0 L = []) : mgOut dr L = [] := by
 unfold mgOut mgS0
 rw [h]
 rfl
def tupM (v : Value) (e : Int) : Value := .tuple ⟨[v, .int .i64 e]⟩
def gMg : GSpecD := fun aL tp => match aL, tp with
 | [.dl ds n, .fl (.bool dr)], true :: tp' => some (⟨fun _ => tupM nlV 3, []⟩, tp', [MgA ds n, 32 < n ∨ 4096 < sumL (llOf ds)])
 | [.dl ds n, .fl (.bool dr)], false :: false :: tp' => some (⟨fun _ => tupM nlV 2, []⟩, tp', [MgA ds n, n ≤ 32, sumL (llOf ds) ≤ 4096, allA (llOf ds) = false])
 | [.dl ds n, .fl (.bool dr)], false :: true :: true :: tp' => some (⟨fun _ => tupM nlV 0, []⟩, tp', [MgB ds n, mgOut dr (llOf ds) = []])
 | [.dl ds n, .fl (.bool dr)], false :: true :: false :: tp' => some (⟨fun nx => tupM (.slice (some ⟨nx, 0, none⟩) (mgOut dr (llOf ds)).length (capBig + nx)) 0, [⟨.dx 1 3 zPr (cpD (mgOut dr (llOf ds))), []⟩]⟩, tp', [MgB ds n, mgOut dr (llOf ds) ≠ []])
 | _, _ => none
theorem f2s_tupM {nx k m : Nat} {g : Nat → Nat} (hk : 0 < k) (hg : g 0 = m) (n : Nat) (e : Int) : renV (f2s nx k g) (tupM (.slice (some ⟨nx, 0, none⟩) n (capBig + nx)) e) = some (tupM (.slice (some ⟨m, 0, none⟩) n (capBig + m)) e) := by
 have := f2s_slice0 (nx := nx) (g := g) hk n
 rw [hg] at this
 unfold tupM
 simp only [renV] at this
 simp only [renV, renA, renL, this]
theorem mg_gok : GOkD Try.prog 12 gMg := by
 intro aL tp gr tp' ob hG ho cs hc
 have fin : ∀ {n : Nat} {dr : Bool} {ds : List DV} {L : LFun} {tp3 tp4 : Tape} {v : Value} {ob : List Prop}, LOkZ (mhV true L mhT) Try.prog → prjV (runZ (mhV true L mhT) Try.prog 12 12 [llA n, .bool dr] [(0, ⟨.sw ds, []⟩)] 4 tp3) = .ok (v, tp4, ob) → Alls ob → (∀ σ, renV σ v = some v) → ∃ v0 h0' nx0' d0 g, Tri Try.prog 12 (dvV [.dl ds n, .fl (.bool dr)] cs 0) (dvH [.dl ds n, .fl (.bool dr)] cs 0) (2 * 2) (v0, h0', nx0', d0) ∧ GrD ⟨fun _ => v, []⟩ v0 h0' g := fun hL e ho hv => by
  obtain ⟨h', nx', d, T⟩ := run_val mhX mhTt hL e ho rfl
  exact ⟨_, h', nx', d, fun n => n, T, GrD.flat hv⟩
 unfold gMg at hG
 split at hG
 ·rename_i ds n dr tp2
  simp only [oI, pI] at hG
  obtain ⟨rfl, rfl, rfl⟩ := hG
  obtain ⟨h, h1, _⟩ := ho
  by_cases h2 : 32 < n
  ·exact fin (L_okV rfl mgLo_one) (mg_l1 n dr ds) ⟨rfl, rfl, rfl, rfl, h, decide_eq_true (by omega), trivial⟩ fun σ => rfl
  ·exact fin (L_okV rfl mgLo_one) (mg_l2 n dr ds) ⟨rfl, rfl, rfl, rfl, h, decide_eq_false (by omega), decide_eq_true (by omega), trivial⟩ fun σ => rfl
 ·rename_i ds n dr tp2
  simp only [oI, pI] at hG
  obtain ⟨rfl, rfl, rfl⟩ := hG
  obtain ⟨h, h1, h2, h3, _⟩ := ho
  exact fin (L_okV rfl mgLo_one) (mg_uns n dr ds) ⟨rfl, rfl, rfl, rfl, h, decide_eq_false (by omega), decide_eq_false (by omega), rfl, rfl, rfl, rfl, h, h3, trivial⟩ fun σ => rfl
 ·rename_i ds n dr tp2
  simp only [oI, pI] at hG
  obtain ⟨rfl, rfl, rfl⟩ := hG
  obtain ⟨h, h1, _⟩ := ho
  have n32 := h.n32
  have hs := h.s
  by_cases h0 : hdsF 0 (llOf ds) = []
  ·exact fin (L_okV rfl mgLn_one) (mg_nil n dr ds) ⟨rfl, rfl, rfl, rfl, h.A, decide_eq_false (by omega), decide_eq_false (by omega), rfl, rfl, rfl, rfl, h.A, h.a, h0, ⟨by omega, by omega, by simp only [rg]; omega⟩, (by simp only [rg]; omega), rfl, rfl, trivial⟩ fun σ => rfl
  ·have hlen := hdsF_len (llOf ds) 0
   have hl := h.A.L.l
   refine fin (L_okV rfl mgLo_one) (mg_emp n dr ds) ⟨rfl, rfl, rfl, rfl, h.A, decide_eq_false (by omega), decide_eq_false (by omega), rfl, rfl, rfl, rfl, h.A, h.a, h0, ⟨by omega, by omega, by simp only [rg]; omega⟩, (by simp only [rg]; omega), rfl, rfl, rfl, rfl, h.hf, rfl, rfl, rfl, rfl, h.mn h0, ?_, trivial⟩ fun σ => rfl
   rw [mnO_is]
   exact h1
 ·rename_i ds n dr tp2
  simp only [oI, pI] at hG
  obtain ⟨rfl, rfl, rfl⟩ := hG
  obtain ⟨h, h1, _⟩ := ho
  have n32 := h.n32
  have hs := h.s
  have h0 : hdsF 0 (llOf ds) ≠ [] := fun e => h1 (mgOut_nil e)
  have hlen := hdsF_len (llOf ds) 0
  have hl := h.A.L.l
  have T := run_tri mhX mhTt (L_okV rfl mgLo_one) (mg_out n dr ds) ⟨rfl, rfl, rfl, rfl, h.A, decide_eq_false (by omega), decide_eq_false (by omega), rfl, rfl, rfl, rfl, h.A, h.a, h0, ⟨by omega, by omega, by simp only [rg]; omega⟩, (by simp only [rg]; omega), rfl, rfl, rfl, rfl, h.hf, rfl, rfl, rfl, rfl, h.mn h0, (by rw [mnO_is]; exact h1), trivial⟩ rfl
  rw [mnO_is] at T
  refine ⟨_, _, _, _, fun _ => 200, T, ⟨fun nx => f2s_tupM (by simp) rfl _ _, fun j r hj => ?_, fun i j hi hj _ => by simp at hi hj; omega⟩⟩
  match j, hj with
  | 0, hj => cases hj; exact ⟨fun τ => rfl, rfl, rfl⟩
 ·cases hG
def fdTab : FuncId → List Nat := fun f => bif Nat.beq f 14 then [13, 19] else bif Nat.beq f 33 then [9] else []
def fdSy : FuncId → Nat → Option Nat := orSy (lsSy 14 [(13, 0), (14, 0), (15, 37), (19, 0), (20, 0), (21, 36), (28, 0), (29, 0)]) (orSy (lsSy 34 [(5, 56), (8, 56)]) (lsSy 33 [(6, 0), (8, 0), (9, 0)]))
def fdV (L : LFun) : Tv := ⟨noTz, cmpY, L, fdTab, fdSy, fun _ => [], fun _ => 0⟩
def kyV (m : Nat) : Value := .slice (some ⟨2, 0, none⟩) m (capBig + 2)
def cpV : Value := .pointer (some ⟨4, 0, none⟩)
def flV (n : Nat) : Value := .slice (some ⟨60, 0, none⟩) n (capBig + 60)
def fdH (ds : List DV) (ks : List Value) : Hp := [(4, ⟨.shut, zPr⟩), (0, ⟨.sw ds, []⟩), (2, ⟨.ow, ks⟩)]
theorem fi_go (inr : Bool) (n m i l j : Nat) (ds es : List DV) (ks : List Value) : prjP [1, 4, 10, 11, 12, 16, 17, 18] 100 (codeZ (fdV noL) Try.prog (runZ (fdV noL) Try.prog 9) 14 inr 100000 (bodyIn Try.prog 14 5) (SL 31 [(1, kyV
 m), (4, cpV), (10, llA n), (11, iV n), (12, iV i), (16, flV l), (17, iV l), (18, iV j)]) ((60, ⟨.sw es, []⟩) :: fdH ds ks) 100 [true, false])
 =
  (let a1 := (dVals es (j * 3 + 0)); let a2 := (intsOf (List.take (dLen es (j * 3 + 0)) a1)); Res.ok ((Xt.normal, 31, [(1, Value.slice (some (Addr.mk 2 0 none)) m (capBig + 2)), (4, Value.pointer (some (Addr.mk 4 0 none))), (10, Value.slice (some (Addr.mk 0 0 none)) n 18446744073709551616), (11, Value.int IntKind.i64 (↑n : Int)), (12, Value.int IntKind.i64 (↑i : Int)), (16, Value.slice (some (Addr.mk 60 0 none)) l (capBig + 60)), (17, Value.int IntKind.i64 (↑l : Int)), (18, Value.int IntKind.i64 (↑(j + 1) : Int))], [(101, Rw.mk Kd.ow (dVals es (j * 3 + 1))), (100, Rw.mk Kd.ow a1), (60, Rw.mk (Kd.sw es) []), (4, Rw.mk Kd.shut [Value.slice none 0 0, Value.slice none 0 0, Value.bool false]), (0, Rw.mk (Kd.sw ds) []), (2, Rw.mk Kd.ow ks)], 103, [102], []), [], [decide ((↑j : Int) < (↑l : Int)) = true, (0 : Int) ≤ (↑j : Int) ∧ (↑j : Int) < (↑l : Int), ShOb Try.prog 32 false true es (j * 3) 100,
 dLen es (j * 3 + 0) ≤ List.length a1, List.take (dLen es (j * 3 + 0)) a1 = List.map (Value.int IntKind.u8) a2, m ≤ List.length ks, List.take m ks = List.map (Value.int IntKind.u8) (intsOf (List.take m ks)), strEq (strOfI a2) (strOfI (intsOf (List.take m ks))) = false, rg IntKind.i64 (↑(j + 1) :
 Int)])) := by kernel_rfl
theorem fi_hit (inr : Bool) (n m i l j : Nat) (ds es : List DV) (ks : List Value) : prjZ [4, 5] (codeZ (fdV noL) Try.prog (runZ (fdV noL) Try.prog 9) 14 inr 100000 (bodyIn Try.prog 14 5) (SL 31 [(1, kyV m), (4, cpV), (10, llA n),
 (11, iV n), (12, iV i), (16, flV l), (17, iV l), (18, iV j)]) ((60, ⟨.sw es, []⟩) :: fdH ds ks) 100 [true, true])
 =
  (let a5 := (dBool es (j * 3 + 2)); let a4 := (j * 3 + 1); let a8 := (dLen es a4); let a3 := (j * 3 + 0); let a7 := (dVals es a3); let a6 := (dLen es a3); let a2 := (List.take a8 (dVals es a4)); let a1 := (List.take a6 a7); Res.ok ((Xt.ret, 31, [(4, Value.pointer (some (Addr.mk 4 0 none))), (5, Value.bool true)], [(104, Rw.mk Kd.shut [Value.slice (some (Addr.mk 106 0 none)) a6 (capBig + 106), Value.slice (some (Addr.mk 108 0 none)) a8 (capBig + 108), Value.bool a5]), (103, Rw.mk Kd.shut [Value.slice (some (Addr.mk 100 0 none)) a6 (capBig + 100), Value.slice (some (Addr.mk 101 0 none)) a8 (capBig + 101), Value.bool a5]), (102, Rw.mk Kd.shut [Value.slice (some (Addr.mk 100 0 none)) a6 (capBig + 100), Value.slice (some (Addr.mk 101 0 none)) a8 (capBig + 101), Value.bool a5]), (101, Rw.mk Kd.ow (dVals es a4)), (100, Rw.mk Kd.ow a7), (60, Rw.mk (Kd.sw es) []), (4, Rw.mk Kd.shut [Value.slice
 (some (Addr.mk 106 0 none)) a6 (capBig + 106), Value.slice (some (Addr.mk 108 0 none)) a8 (capBig + 108), Value.bool a5]), (0, Rw.mk (Kd.sw ds) []), (2, Rw.mk Kd.ow ks), (106, Rw.mk Kd.ox a1), (108, Rw.mk Kd.ox a2)], 109, [4, 102], []), [], [decide ((↑j : Int) < (↑l : Int)) = true, (0 : Int) ≤ (↑j : Int) ∧ (↑j : Int) < (↑l : Int), ShOb Try.prog 32 false true es (j * 3) 100, dLen es a3 ≤ List.length a7, List.take a6 a7 = List.map (Value.int IntKind.u8) (intsOf a1), m ≤ List.length ks, List.take m ks = List.map (Value.int IntKind.u8) (intsOf (List.take m ks)), strEq (strOfI (intsOf a1)) (strOfI (intsOf (List.take m ks))) = true, dLen es a3 * 1 ≤ 140737488355328 ∧ dLen es a3 ≤ 9223372036854775807, List.length a1 = dLen es a3 * 1, ∀ (τ : Sg), renL τ a1 = some a1, U8s a1, dLen es a3 ≤ List.length a7, all1 a1 = true, dLen es a4 * 1 ≤ 140737488355328 ∧ dLen es a4 ≤ 9223372036854775807,
 List.length a2 = dLen es a4 * 1, ∀ (τ : Sg), renL τ a2 = some a2, U8s a2, dLen es a4 ≤ List.length (dVals es a4), all1 a2 =
 true])) := by kernel_rfl
theorem fi_end (inr : Bool) (n m i l j : Nat) (ds es : List DV) (ks : List Value) : prjP [1, 4, 10, 11, 12] 100 (codeZ (fdV noL) Try.prog (runZ (fdV noL) Try.prog 9) 14 inr 100000 (bodyIn Try.prog 14 5) (SL 31 [(1, kyV m), (4, cpV), (10, llA n), (11, iV n), (12, iV i), (16, flV l), (17, iV l), (18, iV j)]) ((60, ⟨.sw es, []⟩) :: fdH ds ks) 100 [false]) =
 Res.ok ((Xt.exit 2, 31, [(1, Value.slice (some (Addr.mk 2 0 none)) m (capBig + 2)), (4, Value.pointer (some (Addr.mk 4 0 none))), (10, Value.slice (some (Addr.mk 0 0 none)) n 18446744073709551616), (11, Value.int IntKind.i64 (↑n : Int)), (12, Value.int IntKind.i64 (↑i : Int))], [(60, Rw.mk (Kd.sw es) []), (4, Rw.mk Kd.shut [Value.slice none 0 0, Value.slice none 0 0, Value.bool false]), (0, Rw.mk (Kd.sw ds) []), (2, Rw.mk Kd.ow ks)], 100, [], []), [], [decide ((↑j : Int) < (↑l : Int)) = false]) := by kernel_rfl
theorem fdX {L : LFun} : XOkZ (fdV L) Try.prog := XOneZ.ok cmpY_ok rfl
theorem fdT {L : LFun} : TOkZ (fdV L) Try.prog := noTz_okV rfl
theorem fdL : LOkZ (fdV noL) Try.prog := noL_okV rfl
def slN (k n : Nat) : Value := .slice (some ⟨k, 0, none⟩) n (capBig + k)
def mwC (A a b : Nat) (g : Bool) : List Value := [slN A a, slN (A + 1) b, .bool g]
def fiS (n m i ln j : Nat) : List (Nat × Value) := [(1, kyV m), (4, cpV), (10, llA n), (11, iV n), (12, iV i), (16, flV ln), (17, iV ln), (18, iV j)]
def fhH (A : Nat) (p : Pr) (ds : List DV) (ks : List Value) : Hp := [(4, ⟨.shut, mwC A p.1.length p.2.1.length p.2.2⟩), (A, ⟨.ox, byV p.1⟩), (A + 1, ⟨.ox, byV p.2.1⟩), (0, ⟨.sw ds, []⟩), (2, ⟨.ow, ks⟩)]
def fiO (n m i : Nat) (ds : List DV) (ks : List Value) (o : Option Pr) : LO := match o with
 | none => (.exit 2, [(1, kyV m), (4, cpV), (10, llA n), (11, iV n), (12, iV i)], fdH ds ks)
 | some p => (.ret, [(4, cpV), (5, .bool true)], fhH 80 p ds ks)
theorem of_row {lo N : Nat} {ρ : Nat → Nat} {h0 h1 : Hp} {n m : Nat} {cs : List Value} (hn : fnN lo N ρ n = some m) (hl : lk h1 m = some ⟨.ox, cs⟩) (hf : ∀ τ, renL τ cs = some cs) : RbRow lo N ρ h0 h1 n ⟨.ox, cs⟩ := ⟨m, _, hn, hl, rfl, rfl, .inl (hf _)⟩
theorem of_eq {Y X : List Value} (h : Y = X) : some (Rw.mk .ox Y) = some (Rw.mk .ox X) := by rw [h]
theorem sh_row {lo N : Nat} {ρ : Nat → Nat} {h0 h1 : Hp} {n m : Nat} {cs cs' : List Value} (hn : fnN lo N ρ n = some m) (hl : lk h1 m = some ⟨.shut, cs'⟩) (hc : renL (sgf lo N ρ) cs = some cs') : RbRow lo N ρ h0 h1 n ⟨.shut, cs⟩ := ⟨m, _, hn, hl, rfl, rfl, .inl hc⟩
theorem sh_eq {Y X : List Value} (h : Y = X) : some (Rw.mk .shut Y) = some (Rw.mk .shut X) := by rw [h]
theorem mw2_ren {f : Sg} {A B C a b : Nat} {g : Bool} (h1 : f.b A = some (B, 0)) (h2 : f.c A = some (capBig + B)) (h3 : f.b (A + 1) = some (C, 0)) (h4 : f.c (A + 1) = some (capBig + C)) (hn : ∀ n, f.f n ≠ none) (hw : f.w = false) : renL f (mwC A a b g) = some [slN B a, slN C b, .bool g] :=
 renL_mk (rb_slg h1 h2 (hn _) hw) (renL_mk (rb_slg h3 h4 (hn _) hw) rfl)
structure FdL (l : List Pr) : Prop where
 O : ∀ p ∈ l, PrOk p
 z : ∀ p ∈ l, PrSz p
 l9 : l.length ≤ 9000000
structure FdK (ks : List Value) (m : Nat) (K : List Int) : Prop where
 e : ks = byV K
 l : m = K.length
 b : ∀ x ∈ K, 0 ≤ x ∧ x < 256
theorem fi_loop {inr : Bool} {h0 : Hp} {ds : List DV} {ks : List Value} {K : List Int} {n m i : Nat} {l : List Pr} (hK : FdK ks m K) (hL : FdL l) : ∀ (r j : Nat), j + r = l.length →
  LRuns inr Try.prog (bodyIn Try.prog 14 5) 61 200 h0 31 (fiS n m i l.length j) ((60, ⟨.sw (cpD l), []⟩) :: fdH ds ks) 100 (fiO n m i ds ks (fnL (l.drop j) K))
 | 0, j, hr => by
   rw [List.drop_of_length_le (by omega)]
   refine LRuns.exit (code_runsP fdX fdL (runZ_ok fdX fdT fdL mixed 9) mixed (fi_end inr n m i l.length j ds (cpD l) ks) ?_) (by intro e; cases e) rfl (by omega) (by omega) (fun n => n) ?_ ?_ rfl
   ·simp only [Alls, decide_eq_false_iff_not]
    exact ⟨by omega, trivial⟩
   ·exact ⟨rfl, rb_slg rfl rfl, rfl, rfl, rfl, rb_slg rfl rfl, rfl, rfl, rfl, rfl, trivial⟩
   ·exact ⟨sh_row (m := 4) rfl rfl rfl, sw_row (m := 0) rfl rfl, ow_row (m := 2) rfl rfl (by rw [hK.e]; exact byV_ren _), trivial⟩
 | r + 1, j, hr => by
   have hj : j < l.length := by omega
   obtain ⟨p, hp⟩ : ∃ p, l[j] = p := ⟨_, rfl⟩
   have F := (cpD_prs l).facts (i := j) (p := p) (by rw [← hp]; exact List.getElem?_eq_getElem hj)
   have hm : p ∈ l := by rw [← hp]; exact List.getElem_mem hj
   have hd : l.drop j = p :: l.drop (j + 1) := by rw [List.drop_eq_getElem_cons hj, hp]
   have f0 := F.l0
   have f1 := F.l1
   have v0 := F.v0
   have v1 := F.v1
   have fg := F.g
   have bp := (hL.O p hm).1
   have bv := (hL.O p hm).2
   have z0 := (hL.z p hm).k
   have z1 := (hL.z p hm).v
   have l9 := hL.l9
   obtain ⟨rfl, rfl, bK⟩ := hK
   have hK : FdK (byV K) K.length K := ⟨rfl, rfl, bK⟩
   have hse0 := strEq_I bp bK
   rw [hd]
   by_cases hk : p.1 = K
   ·have e : fnL (p :: l.drop (j + 1)) K = some p := by simp [fnL, hk]
    rw [e]
    rw [decide_eq_true hk] at hse0
    refine LRuns.exit (code_runs fdX fdL (runZ_ok fdX fdT fdL mixed 9) mixed (fi_hit inr n K.length i l.length j ds (cpD l) (byV K)) ?_) (by intro e; cases e) rfl (by omega) (by omega) (fun n => bif Nat.beq n 80 then 106 else bif Nat.beq n 81 then 108 else n) ?_ ?_ rfl
    ·
     simp only [Alls, rg, decide_eq_true_eq, decide_eq_false_iff_not, Nat.add_zero, Nat.zero_add, Nat.mul_one, ixO_eq, Int.toNat_natCast, f0, f1, v0, v1, tk_by, byV_ints, byV_len]
     repeat' (with_reducible apply And.intro)
     all_goals first | omega | (with_reducible assumption) | exact F.o29 _ | (with_reducible exact trivial) | (with_reducible rfl) | exact u8_by bp | exact u8_by bv | exact byV_eq _ | exact a1_by _ | exact byV_ren _ | exact fun e => nil_by e | skip
    ·exact ⟨rfl, rfl, rfl, rfl, trivial⟩
    ·refine ⟨sh_row (m := 4) rfl (sh_eq ?_) (mw2_ren (B := 106) (C := 108) rfl rfl rfl rfl (fun n => by intro e; cases e) rfl), of_row (m := 106) rfl (of_eq ?_) (byV_ren _), of_row (m := 108) rfl (of_eq ?_) (byV_ren _), sw_row (m := 0) rfl rfl, ow_row (m := 2) rfl rfl (byV_ren _), trivial⟩
     ·simp only [Nat.add_zero, f0, f1, fg]
      first | done | rfl
     ·simp only [Nat.add_zero, f0, v0, tk_by]
     ·simp only [Nat.add_zero, f1, v1, tk_by]
   ·have e : fnL (p :: l.drop (j + 1)) K = fnL (l.drop (j + 1)) K := by simp [fnL, hk]
    rw [e]
    rw [decide_eq_false hk] at hse0
    refine LRuns.step (code_runsP fdX fdL (runZ_ok fdX fdT fdL mixed 9) mixed (fi_go inr n K.length i l.length j ds (cpD l) (byV K)) ?_) rfl (by omega) (by omega) (fun n => n) ?_ ?_ rfl (fi_loop hK hL r (j + 1) (by omega))
    ·
     simp only [Alls, rg, decide_eq_true_eq, decide_eq_false_iff_not, Nat.add_zero, Nat.zero_add, Nat.mul_one, ixO_eq, Int.toNat_natCast, f0, f1, v0, v1, tk_by, byV_ints, byV_len]
     repeat' (with_reducible apply And.intro)
     all_goals first | omega | (with_reducible assumption) | exact F.o29 _ | (with_reducible exact trivial) | (with_reducible rfl) | exact u8_by bp | exact u8_by bv | exact byV_eq _ | exact a1_by _ | exact byV_ren _ | exact fun e => nil_by e | skip
    ·exact ⟨rfl, rb_slg rfl rfl, rfl, rfl, rfl, rb_slg rfl rfl, rfl, rfl, rfl, rfl, rfl, rb_slg rfl rfl, rfl, rfl, rfl, rfl, trivial⟩
    ·exact ⟨sw_row (m := 60) rfl rfl, sh_row (m := 4) rfl rfl rfl, sw_row (m := 0) rfl rfl, ow_row (m := 2) rfl rfl (byV_ren _), trivial⟩
structure FiOk (es : List DV) (ks : List Value) (m ln : Nat) : Prop where
 K : FdK ks m (intsOf ks)
 e : es = cpD (prsOf es)
 L : FdL (prsOf es)
 l : (prsOf es).length = ln
def fiPk (live : List (Nat × Value)) (h : Hp) : Option ((Nat × Nat × Nat × Nat) × List DV × List DV × List Value) := match live, lk h 60, lk h 0, lk h 2 with
 | (_, .slice _ m _) :: _ :: (_, .slice _ n _) :: _ :: (_, .int _ i) :: (_, .slice _ ln _) :: _, some ⟨.sw es, _⟩, some ⟨.sw ds, _⟩, some ⟨.ow, ks⟩ => some ((n, m, i.toNat, ln), es, ds, ks)
 | _, _, _, _ => none
def fiSp (p : Pr) : LSpec := lspec fiPk (fun a => (fiS a.1.1 a.1.2.1 a.1.2.2.1 a.1.2.2.2 0, (60, ⟨.sw a.2.1, []⟩) :: fdH a.2.2.1 a.2.2.2, 61)) (fun a tp => match tp with
 | false :: tp' => some ((.exit 2, [(1, kyV a.1.2.1), (4, cpV), (10, llA a.1.1), (11, iV a.1.1), (12, iV a.1.2.2.1)], fdH a.2.2.1 a.2.2.2, 200, [60]), tp', [FiOk a.2.1 a.2.2.2 a.1.2.1 a.1.2.2.2, fnL (prsOf a.2.1) (intsOf a.2.2.2) = none])
 | true :: tp' => some ((.ret, [(4, cpV), (5, .bool true)], fhH 80 p a.2.2.1 a.2.2.2, 200, [60, 4]), tp', [FiOk a.2.1 a.2.2.2 a.1.2.1 a.1.2.2.2, fnL (prsOf a.2.1) (intsOf a.2.2.2) = some p])
 | [] => none)
theorem fiSp_ok (p : Pr) : LSOk Try.prog 31 [1, 4, 10, 11, 12, 16, 17, 18] (bodyIn Try.prog 14 5) (fiSp p) := by
 refine lspec_ok fun a tp xt l2 h2 nx2 d tp' ob hs ho inr ts hn hg => ?_
 obtain ⟨⟨n, m, i, ln⟩, es, ds, ks⟩ := a
 simp only at hs hg
 have fin : FiOk es ks m ln → ∀ key d, key = fiO n m i ds ks (fnL (prsOf es) (intsOf ks)) → Tidy ((60, ⟨.sw es, []⟩) :: fdH ds ks) 61 key.2.2 200 d → Runs inr (fun F m Q => Code.againIn F m Try.prog (bodyIn Try.prog 14 5) Q) ts ((60, ⟨.sw es, []⟩) :: fdH ds ks) 61 (key.1, SL 31 key.2.1, key.2.2, 200, d, []) := fun h key d hk hT => by
  have q := fi_loop (inr := inr) (h0 := (60, ⟨.sw es, []⟩) :: fdH ds ks) (ds := ds) (n := n) (i := i) h.K h.L (prsOf es).length 0 (by omega)
  rw [List.drop_zero, ← hk, h.l, ← h.e] at q
  refine LRuns.enter (N := 100) (l2 := fiS n m i ln 0) hn hg (by omega) (by omega) (fun n => n) ?_ ?_ rfl q hT
  ·exact ⟨rfl, rb_slg rfl rfl, rfl, rfl, rfl, rb_slg rfl rfl, rfl, rfl, rfl, rfl, rfl, rb_slg rfl rfl, rfl, rfl, rfl, rfl, trivial⟩
  ·exact ⟨sw_row (m := 60) rfl rfl, sh_row (m := 4) rfl rfl rfl, sw_row (m := 0) rfl rfl, ow_row (m := 2) rfl rfl (by rw [h.K.e]; exact byV_ren _), trivial⟩
 split at hs
 ·simp only [oI, pI] at hs
  obtain ⟨⟨rfl, rfl, rfl, rfl, rfl⟩, rfl, rfl⟩ := hs
  obtain ⟨h, h1, _⟩ := ho
  refine fin h (.exit 2, [(1, kyV m), (4, cpV), (10, llA n), (11, iV n), (12, iV i)], fdH ds ks) [60] (by rw [h1]; rfl) (tidy_of (by omega) (fun j hj hd => ?_) rfl)
  have : j ≠ 60 := fun e => hd (by simp [e])
  have e : lk ((60, ⟨.sw es, []⟩) :: fdH ds ks) j = lk (fdH ds ks) j := by rw [lk_cons, if_neg this.symm]
  exact e.symm
 ·simp only [oI, pI] at hs
  obtain ⟨⟨rfl, rfl, rfl, rfl, rfl⟩, rfl, rfl⟩ := hs
  obtain ⟨h, h1, _⟩ := ho
  refine fin h (.ret, [(4, cpV), (5, .bool true)], fhH 80 p ds ks) [60, 4] (by rw [h1]; rfl) (tidy_of (by omega) (fun j hj hd => ?_) rfl)
  have h1 : j ≠ 60 := fun e => hd (by simp [e])
  have h2 : j ≠ 4 := fun e => hd (by simp [e])
  unfold fhH fdH
  simp only [lk_cons, if_neg h1.symm, if_neg h2.symm, if_neg (show ¬ 80 = j by omega), if_neg (show ¬ 80 + 1 = j by omega)]
 ·cases hs
def fiLo (P : Program) (p : Pr) : LFun := mkL 14 5 31 [1, 4, 10, 11, 12, 16, 17, 18] (bodyIn P 14 5) (fiSp p)
theorem fiLo_one (p : Pr) : LOne Try.prog (fiLo Try.prog p) := mkL_ok (fiSp_ok p)
theorem fo_go (inr : Bool) (n m i : Nat) (ds : List DV) (ks : List Value) (p : Pr) : prjP [1, 4, 10, 11, 12] 60 (codeZ (fdV (fiLo Try.prog p)) Try.prog (runZ (fdV (fiLo Try.prog p)) Try.prog 9) 14 inr 100000 (bodyIn Try.prog 14 2)
 (SL 31 [(1, kyV m), (4, cpV), (10, llA n), (11, iV n), (12, iV i)]) (fdH ds ks) 60 [true, false])
 =
  (let a6 := (11, Value.int IntKind.i64 (↑n : Int)); let a5 := (4, Value.pointer (some (Addr.mk 4 0 none))); let a4 := (dSub ds (i + 0)); let a3 := (dLen ds (i + 0)); let a2 := (1, Value.slice (some (Addr.mk 2 0 none)) m (capBig + 2)); let a1 := (10, Value.slice (some (Addr.mk 0 0 none)) n 18446744073709551616); Res.ok ((Xt.normal, 31, [a2, a5, a1, a6, (12, Value.int IntKind.i64 (↑(i + 1) : Int))], [(4, Rw.mk Kd.shut [Value.slice none 0 0, Value.slice none 0 0, Value.bool false]), (0, Rw.mk (Kd.sw ds) []), (2, Rw.mk Kd.ow ks)], 200, [60], []), [], [decide ((↑i : Int) < (↑n : Int)) = true, (0 : Int) ≤ (↑i : Int) ∧ (↑i : Int) < (↑n : Int), ShOb Try.prog 27 true true ds i 60, bodyIn Try.prog (14 : FuncId) 5 = bodyIn Try.prog (14 : FuncId) 5, [a2, a5, a1, a6, (12, Value.int IntKind.i64 (↑i : Int)), (16, Value.slice (some (Addr.mk 60 0 none)) a3 (capBig + 60)), (17, Value.int IntKind.i64 (↑a3 :
 Int)), (18, Value.int IntKind.i64 (0 : Int))] = fiS n m i a3 0, rowsU (List.map olR [bif true then Rw.mk (Kd.sd a4) [] else Rw.mk Kd.old (dVals ds (i + 0))]) 60 (fdH ds ks) = (60, Rw.mk (Kd.sw a4) []) :: fdH ds ks, 61 = 61, FiOk a4 ks m a3, fnL (prsOf a4) (intsOf ks) = none, rg IntKind.i64 (↑(i + 1) :
 Int)])) := by kernel_rfl
theorem fo_hit (inr : Bool) (n m i : Nat) (ds : List DV) (ks : List Value) (p : Pr) : prjZ [4, 5] (codeZ (fdV (fiLo Try.prog p)) Try.prog (runZ (fdV (fiLo Try.prog p)) Try.prog 9) 14 inr 100000 (bodyIn Try.prog 14 2) (SL 31 [(1,
 kyV m), (4, cpV), (10, llA n), (11, iV n), (12, iV i)]) (fdH ds ks) 60 [true, true])
 =
  (let a3 := (4, Value.pointer (some (Addr.mk 4 0 none))); let a2 := (dSub ds (i + 0)); let a1 := (dLen ds (i + 0)); Res.ok ((Xt.ret, 31, [a3, (5, Value.bool true)], [(4, Rw.mk Kd.shut [Value.slice (some (Addr.mk 80 0 none)) (List.length (Prod.fst p)) (capBig + 80), Value.slice (some (Addr.mk 81 0 none)) (List.length (Prod.fst (Prod.snd p))) (capBig + 81), Value.bool (Prod.snd (Prod.snd p))]), (80, Rw.mk Kd.ox (byV (Prod.fst p))), (81, Rw.mk Kd.ox (byV (Prod.fst (Prod.snd p)))), (0, Rw.mk (Kd.sw ds) []), (2, Rw.mk Kd.ow ks)], 200, [60, 4], []), [], [decide ((↑i : Int) < (↑n : Int)) = true, (0 : Int) ≤ (↑i : Int) ∧ (↑i : Int) < (↑n : Int), ShOb Try.prog 27 true true ds i 60, bodyIn Try.prog (14 : FuncId) 5 = bodyIn Try.prog (14 : FuncId) 5, [(1, Value.slice (some (Addr.mk 2 0 none)) m (capBig + 2)), a3, (10, Value.slice (some (Addr.mk 0 0 none)) n 18446744073709551616), (11, Value.int
 IntKind.i64 (↑n : Int)), (12, Value.int IntKind.i64 (↑i : Int)), (16, Value.slice (some (Addr.mk 60 0 none)) a1 (capBig + 60)), (17, Value.int IntKind.i64 (↑a1 : Int)), (18, Value.int IntKind.i64 (0 : Int))] = fiS n m i a1 0, rowsU (List.map olR [bif true then Rw.mk (Kd.sd a2) [] else Rw.mk Kd.old (dVals ds (i + 0))]) 60 (fdH ds ks) = (60, Rw.mk (Kd.sw a2) []) :: fdH ds ks, 61 = 61, FiOk a2 ks m a1, fnL (prsOf a2) (intsOf ks) = some
 p])) := by kernel_rfl
theorem fo_end (inr : Bool) (n m i : Nat) (ds : List DV) (ks : List Value) (p : Pr) : prjP [4] 60 (codeZ (fdV (fiLo Try.prog p)) Try.prog (runZ (fdV (fiLo Try.prog p)) Try.prog 9) 14 inr 100000 (bodyIn Try.prog 14 2) (SL 31 [(1, kyV m), (4, cpV), (10, llA n), (11, iV n), (12, iV i)]) (fdH ds ks) 60 [false]) =
 Res.ok ((Xt.exit 0, 31, [(4, Value.pointer (some (Addr.mk 4 0 none)))], [(4, Rw.mk Kd.shut [Value.slice none 0 0, Value.slice none 0 0, Value.bool false]), (0, Rw.mk (Kd.sw ds) []), (2, Rw.mk Kd.ow ks)], 60, [], []), [], [decide ((↑i : Int) < (↑n : Int)) = false]) := by kernel_rfl
def foS (n m i : Nat) : List (Nat × Value) := [(1, kyV m), (4, cpV), (10, llA n), (11, iV n), (12, iV i)]
def foO (ds : List DV) (ks : List Value) (o : Option Pr) : LO := match o with
 | none => (.exit 0, [(4, cpV)], fdH ds ks)
 | some p => (.ret, [(4, cpV), (5, .bool true)], fhH 20 p ds ks)
structure FdLL (L : List (List Pr)) (n : Nat) : Prop where
 l : L.length = n
 n9 : n ≤ 9000000
 L : ∀ l ∈ L, FdL l
theorem fo_loop {inr : Bool} {h0 : Hp} {L : List (List Pr)} {ks : List Value} {K : List Int} {n m : Nat} (hK : FdK ks m K) (hL : FdLL L n) : ∀ (r i : Nat), i + r = n →
  LRuns inr Try.prog (bodyIn Try.prog 14 2) 5 300 h0 31 (foS n m i) (fdH (llD L) ks) 60 (foO (llD L) ks (fnd (L.drop i) K))
 | 0, i, hr => by
   have hl := hL.l
   rw [List.drop_of_length_le (by omega)]
   refine LRuns.exit (code_runsP fdX (L_okV rfl (fiLo_one ([], [], false))) (runZ_ok fdX fdT (L_okV rfl (fiLo_one ([], [], false))) mixed 9) mixed (fo_end inr n m i (llD L) ks ([], [], false)) ?_) (by intro e; cases e) rfl (by omega) (by omega) (fun n => n) ?_ ?_ rfl
   ·simp only [Alls, decide_eq_false_iff_not]
    exact ⟨by omega, trivial⟩
   ·exact ⟨rfl, rfl, trivial⟩
   ·exact ⟨sh_row (m := 4) rfl rfl rfl, sw_row (m := 0) rfl rfl, ow_row (m := 2) rfl rfl (by rw [hK.e]; exact byV_ren _), trivial⟩
 | r + 1, i, hr => by
   have hl := hL.l
   have hn9 := hL.n9
   have hi : i < L.length := by omega
   obtain ⟨l, hx⟩ : ∃ l, L[i]? = some l := ⟨L[i], List.getElem?_eq_getElem hi⟩
   have A := ll_at hx
   have hf := hL.L l (List.mem_of_getElem? hx)
   have hd : L.drop i = l :: L.drop (i + 1) := by
    obtain ⟨h1, h2⟩ := List.getElem?_eq_some_iff.1 hx
    rw [List.drop_eq_getElem_cons hi, h2]
   have o1 := A.o 60
   have ei : intsOf ks = K := by rw [hK.e]; exact byV_ints K
   have fi : FiOk (cpD l) ks m l.length := ⟨by rw [ei]; exact hK, by rw [prsOf_cp], by rw [prsOf_cp]; exact hf, by rw [prsOf_cp]⟩
   have hkr : ∀ τ, renL τ ks = some ks := by rw [hK.e]; exact byV_ren _
   rw [hd]
   cases hh : fnL l K with
   | some p =>
    have e : fnd (l :: L.drop (i + 1)) K = some p := by simp only [fnd, hh]
    rw [e]
    have hLp : LOkZ (fdV (fiLo Try.prog p)) Try.prog := L_okV rfl (fiLo_one p)
    have run := fo_hit inr n m i (llD L) ks p
    have fh : fnL (prsOf (cpD l)) (intsOf ks) = some p := by rw [prsOf_cp, ei]; exact hh
    refine LRuns.exit (code_runs fdX hLp (runZ_ok fdX fdT hLp mixed 9) mixed run ?_) (by intro e; cases e) rfl (by omega) (by omega) (fun n => bif Nat.beq n 20 then 80 else bif Nat.beq n 21 then 81 else n) ?_ ?_ rfl
    ·simp only [Alls, rg, decide_eq_true_eq, Nat.add_zero, A.n, A.s]
     repeat' (with_reducible apply And.intro)
     all_goals first | omega | (with_reducible assumption) | (with_reducible exact trivial) | rfl | exact o1
    ·exact ⟨rfl, rfl, rfl, rfl, trivial⟩
    ·exact ⟨sh_row (m := 4) rfl rfl (mw2_ren (B := 80) (C := 81) rfl rfl rfl rfl (fun n => by intro e; cases e) rfl), of_row (m := 80) rfl rfl (byV_ren _), of_row (m := 81) rfl rfl (byV_ren _), sw_row (m := 0) rfl rfl, ow_row (m := 2) rfl rfl hkr, trivial⟩
   | none =>
    have e : fnd (l :: L.drop (i + 1)) K = fnd (L.drop (i + 1)) K := by simp only [fnd, hh]
    rw [e]
    have hLp : LOkZ (fdV (fiLo Try.prog ([], [], false))) Try.prog := L_okV rfl (fiLo_one ([], [], false))
    have run := fo_go inr n m i (llD L) ks ([], [], false)
    have fh : fnL (prsOf (cpD l)) (intsOf ks) = none := by rw [prsOf_cp, ei]; exact hh
    refine LRuns.step (code_runsP fdX hLp (runZ_ok fdX fdT hLp mixed 9) mixed run ?_) rfl (by omega) (by omega) (fun n => n) ?_ ?_ rfl (fo_loop hK hL r (i + 1) (by omega))
    ·simp only [Alls, rg, decide_eq_true_eq, Nat.add_zero, A.n, A.s]
     repeat' (with_reducible apply And.intro)
     all_goals first | omega | (with_reducible assumption) | (with_reducible exact trivial) | rfl | exact o1
    ·exact ⟨rfl, rb_slg rfl rfl, rfl, rfl, rfl, rb_slg rfl rfl, rfl, rfl, rfl, rfl, trivial⟩
    ·exact ⟨sh_row (m := 4) rfl rfl rfl, sw_row (m := 0) rfl rfl, ow_row (m := 2) rfl rfl hkr, trivial⟩
structure FoOk (ds : List DV) (ks : List Value) (m n : Nat) : Prop where
 K : FdK ks m (intsOf ks)
 e : ds = llD (llOf ds)
 L : FdLL (llOf ds) n
def foPk (live : List (Nat × Value)) (h : Hp) : Option ((Nat × Nat) × List DV × List Value) := match live, lk h 0, lk h 2 with
 | (_, .slice _ m _) :: _ :: (_, .slice _ n _) :: _, some ⟨.sw ds, _⟩, some ⟨.ow, ks⟩ => some ((n, m), ds, ks)
 | _, _, _ => none
def foSp (p : Pr) : LSpec := lspec foPk (fun a => (foS a.1.1 a.1.2 0, fdH a.2.1 a.2.2, 5)) (fun a tp => match tp with
 | false :: tp' => some ((.exit 0, [(4, cpV)], fdH a.2.1 a.2.2, 300, []), tp', [FoOk a.2.1 a.2.2 a.1.2 a.1.1, fnd (llOf a.2.1) (intsOf a.2.2) = none])
 | true :: tp' => some ((.ret, [(4, cpV), (5, .bool true)], fhH 20 p a.2.1 a.2.2, 300, [4]), tp', [FoOk a.2.1 a.2.2 a.1.2 a.1.1, fnd (llOf a.2.1) (intsOf a.2.2) = some p])
 | [] => none)
theorem foSp_ok (p : Pr) : LSOk Try.prog 31 [1, 4, 10, 11, 12] (bodyIn Try.prog 14 2) (foSp p) := by
 refine lspec_ok fun a tp xt l2 h2 nx2 d tp' ob hs ho inr ts hn hg => ?_
 obtain ⟨⟨n, m⟩, ds, ks⟩ := a
 simp only at hs hg
 have fin : FoOk ds ks m n → ∀ key d, key = foO ds ks (fnd (llOf ds) (intsOf ks)) → Tidy (fdH ds ks) 5 key.2.2 300 d → Runs inr (fun F m Q => Code.againIn F m Try.prog (bodyIn Try.prog 14 2) Q) ts (fdH ds ks) 5 (key.1, SL 31 key.2.1, key.2.2, 300, d, []) := fun h key d hk hT => by
  have q := fo_loop (inr := inr) (h0 := fdH ds ks) h.K h.L n 0 (by omega)
  rw [List.drop_zero, ← h.e, ← hk] at q
  refine LRuns.enter (N := 60) (l2 := foS n m 0) hn hg (by omega) (by omega) (fun n => n) ?_ ?_ rfl q hT
  ·exact ⟨rfl, rb_slg rfl rfl, rfl, rfl, rfl, rb_slg rfl rfl, rfl, rfl, rfl, rfl, trivial⟩
  ·exact ⟨sh_row (m := 4) rfl rfl rfl, sw_row (m := 0) rfl rfl, ow_row (m := 2) rfl rfl (by rw [h.K.e]; exact byV_ren _), trivial⟩
 split at hs
 ·simp only [oI, pI] at hs
  obtain ⟨⟨rfl, rfl, rfl, rfl, rfl⟩, rfl, rfl⟩ := hs
  obtain ⟨h, h1, _⟩ := ho
  exact fin h (.exit 0, [(4, cpV)], fdH ds ks) [] (by rw [h1]; rfl) (tidy_of (by omega) (fun j hj hd => rfl) rfl)
 ·simp only [oI, pI] at hs
  obtain ⟨⟨rfl, rfl, rfl, rfl, rfl⟩, rfl, rfl⟩ := hs
  obtain ⟨h, h1, _⟩ := ho
  refine fin h (.ret, [(4, cpV), (5, .bool true)], fhH 20 p ds ks) [4] (by rw [h1]; rfl) (tidy_of (by omega) (fun j hj hd => ?_) rfl)
  have h2 : j ≠ 4 := fun e => hd (by simp [e])
  unfold fhH fdH
  simp only [lk_cons, if_neg h2.symm, if_neg (show ¬ 20 = j by omega), if_neg (show ¬ 20 + 1 = j by omega)]
 ·cases hs
def foLo (P : Program) (p : Pr) : LFun := mkL 14 2 31 [1, 4, 10, 11, 12] (bodyIn P 14 2) (foSp p)
theorem foLo_one (p : Pr) : LOne Try.prog (foLo Try.prog p) := mkL_ok (foSp_ok p)
theorem fd_no (n m : Nat) (ds : List DV) (ks : List Value) (p : Pr) : prjV (runZ (fdV (foLo Try.prog p)) Try.prog 9 14 [llA n, kyV m] [(0, ⟨.sw ds, []⟩), (2, ⟨.ow, ks⟩)] 4 [false]) =
 Res.ok (Value.tuple (Array.mk [Value.agg (Array.mk [Value.slice none 0 0, Value.slice none 0 0, Value.bool false]), Value.bool false]), [], [bodyIn Try.prog (14 : FuncId) 2 = bodyIn Try.prog (14 : FuncId) 2, [(1, Value.slice (some (Addr.mk 2 0 none)) m (capBig + 2)), (4, Value.pointer (some (Addr.mk 4 0 none))), (10, Value.slice (some (Addr.mk 0 0 none)) n 18446744073709551616), (11, Value.int IntKind.i64 (↑n : Int)), (12, Value.int IntKind.i64 (0 : Int))] = foS n m 0, [(4, Rw.mk Kd.shut [Value.slice none 0 0, Value.slice none 0 0, Value.bool false]), (0, Rw.mk (Kd.sw ds) []), (2, Rw.mk Kd.ow ks)] = fdH ds ks, 5 = 5, FoOk ds ks m n, fnd (llOf ds) (intsOf ks) = none]) := by kernel_rfl
theorem fd_yes (n m : Nat) (ds : List DV) (ks : List Value) (p : Pr) : runZ (fdV (foLo Try.prog p)) Try.prog 9 14 [llA n, kyV m] [(0, ⟨.sw ds, []⟩), (2, ⟨.ow, ks⟩)] 4 [true] =
 (let a1 := (Prod.fst (Prod.snd p)); Res.ok ((Value.tuple (Array.mk [Value.agg (Array.mk [Value.slice (some (Addr.mk 20 0 none)) (List.length (Prod.fst p)) (capBig + 20), Value.slice (some (Addr.mk 21 0 none)) (List.length a1) (capBig + 21), Value.bool (Prod.snd (Prod.snd p))]), Value.bool true]), [(4, Rw.mk Kd.shut [Value.slice (some (Addr.mk 20 0 none)) (List.length (Prod.fst p)) (capBig + 20), Value.slice (some (Addr.mk 21 0 none)) (List.length a1) (capBig + 21), Value.bool (Prod.snd (Prod.snd p))]), (20, Rw.mk Kd.ox (byV (Prod.fst p))), (21, Rw.mk Kd.ox (byV a1)), (0, Rw.mk (Kd.sw ds) []), (2, Rw.mk Kd.ow ks)], 300, []), [], [bodyIn Try.prog (14 : FuncId) 2 = bodyIn Try.prog (14 : FuncId) 2, [(1, Value.slice (some (Addr.mk 2 0 none)) m (capBig + 2)), (4, Value.pointer (some (Addr.mk 4 0 none))), (10, Value.slice (some (Addr.mk 0 0 none)) n 18446744073709551616), (11, Value.int
 IntKind.i64 (↑n : Int)), (12, Value.int IntKind.i64 (0 : Int))] = foS n m 0, [(4, Rw.mk Kd.shut [Value.slice none 0 0, Value.slice none 0 0, Value.bool false]), (0, Rw.mk (Kd.sw ds) []), (2, Rw.mk Kd.ow ks)] = fdH ds ks, 5 = 5, FoOk ds ks m n, fnd (llOf ds) (intsOf ks) = some
 p])) := by kernel_rfl
def pairV (A : Nat) (p : Pr) : Value := .agg ⟨mwC A p.1.length p.2.1.length p.2.2⟩
def gFd (p : Pr) : GSpecD := fun aL tp => match aL, tp with
 | [.dl ds n, .sl ks m], false :: tp' => some (⟨fun _ => .tuple ⟨[.agg ⟨zPr⟩, .bool false]⟩, []⟩, tp', [FoOk ds ks m n, fnd (llOf ds) (intsOf ks) = none])
 | [.dl ds n, .sl ks m], true :: tp' => some (⟨fun nx => .tuple ⟨[pairV nx p, .bool true]⟩, [⟨.ox, byV p.1⟩, ⟨.ox, byV p.2.1⟩]⟩, tp', [FoOk ds ks m n, fnd (llOf ds) (intsOf ks) = some p])
 | _, _ => none
theorem fd_gok (p : Pr) : GOkD Try.prog 14 (gFd p) := by
 intro aL tp gr tp' ob hG ho cs hc
 have hLp : LOkZ (fdV (foLo Try.prog p)) Try.prog := L_okV rfl (foLo_one p)
 unfold gFd at hG
 split at hG
 ·rename_i ds n ks m tp2
  simp only [oI, pI] at hG
  obtain ⟨rfl, rfl, rfl⟩ := hG
  obtain ⟨h, h1, _⟩ := ho
  obtain ⟨h', nx', d, T⟩ := run_val fdX fdT hLp (fd_no n m ds ks p) ⟨rfl, rfl, rfl, rfl, h, h1, trivial⟩ rfl
  exact ⟨_, h', nx', d, fun n => n, T, GrD.flat fun σ => rfl⟩
 ·rename_i ds n ks m tp2
  simp only [oI, pI] at hG
  obtain ⟨rfl, rfl, rfl⟩ := hG
  obtain ⟨h, h1, _⟩ := ho
  have T := run_tri fdX fdT hLp (fd_yes n m ds ks p) ⟨rfl, rfl, rfl, rfl, h, h1, trivial⟩ rfl
  refine ⟨_, _, _, _, fun j => 20 + j, T, ⟨fun nx => ?_, fun j r hj => ?_, fun i j hi hj e => by simp at e; omega⟩⟩
  ·have e := mw2_ren (f := f2s nx 2 (fun j => 20 + j)) (A := nx) (B := 20) (C := 21) (a := p.1.length) (b := p.2.1.length) (g := p.2.2) (by simp [f2s]) (by simp [f2s]) (by simp [f2s]) (by simp [f2s]) (fun n => by simp [f2s]) rfl
   simp only [pairV, renV, renA, renL]
   simp only [List.length_cons, List.length_nil, Nat.zero_add, Nat.reduceAdd]
   rw [e]
   rfl
  ·match j, hj with
   | 0, hj => cases hj; exact ⟨byV_ren _, rfl, rfl⟩
   | 1, hj => cases hj; exact ⟨byV_ren _, rfl, rfl⟩
 ·cases hG
end Go.Proofs.Ytmoflcoijmmpjaa
