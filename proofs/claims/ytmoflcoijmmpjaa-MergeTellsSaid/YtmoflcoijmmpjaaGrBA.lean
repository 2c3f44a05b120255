/-
  Chapter 14: exchequerref14.least: its inner loop as a specification; its outer loop's rounds.
-/
import Derived.Test.YtmoflcoijmmpjaaGrAZ
import Derived.Test.YtmoflcoijmmpjaaGrAT
namespace Go.Proofs.Ytmoflcoijmmpjaa
set_option linter.unusedSimpArgs false
set_option linter.unusedVariables false
set_option linter.unusedSectionVars false
open Go Go.RowKit
def keyL (l : List Pr) : List (List Int) := l.map (·.1)
def leiPk (live : List (Nat × Value)) (h : Hp) : Option ((Nat × Nat × Nat) × List DV × List Value) := match live, lk h 0, lk h 2 with
 | (_, .slice _ n _) :: (_, .slice _ m _) :: _ :: _ :: _ :: (_, .int _ i) :: _, some ⟨.sw ds, _⟩, some ⟨.ow, bs⟩ => some ((n, m, i.toNat), ds, bs)
 | _, _, _ => none
def leiSp (f : Bool) (w w' : Option (List Int)) : LSpec := lspec leiPk (fun a => (leS 20 a.1.1 a.1.2.1 a.1.2.2 0 f w, leW 20 w a.2.1 a.2.2, 60)) (fun a tp => some ((.exit 2, leQ 80 a.1.1 a.1.2.1 a.1.2.2 f w', leW 80 w' a.2.1 a.2.2, 200, [20]), tp, [RjOk a.2.1 a.2.2 a.1.2.1 a.1.1 a.1.2.2, KyB w, lsK (bhv f (intsOf a.2.2)) (keyL (gL (llOf a.2.1) a.1.2.2)) w = w']))
theorem le_out (A B : Nat) (w w' : Option (List Int)) (ds : List DV) (bs : List Value) (j : Nat) (hA : j ≠ A) (hB : j ≠ B) : lk (leW A w ds bs) j = lk (leW B w' ds bs) j := by
 have e : ∀ (A : Nat) (w : Option (List Int)), j ≠ A → lk (leW A w ds bs) j = lk (leH ds bs) j := fun A w hA => by
  cases w with
  | none => rfl
  | some q => unfold leW; simp only [lk_cons, if_neg hA.symm]
 rw [e A w hA, e B w' hB]
theorem leiSp_ok (f : Bool) (w w' : Option (List Int)) : LSOk Try.prog 54 [0, 1, 2, 8, 9, 10, 11] (bodyIn Try.prog 36 7) (leiSp f w w') := by
 refine lspec_ok fun a tp xt l2 h2 nx2 d tp' ob hs ho inr ts hn hg => ?_
 obtain ⟨⟨n, m, i⟩, ds, bs⟩ := a
 simp only at hs hg
 simp only [oI, pI] at hs
 obtain ⟨⟨rfl, rfl, rfl, rfl, rfl⟩, rfl, rfl⟩ := hs
 obtain ⟨h, hw, hr, _⟩ := ho
 have hl := h.L.l
 have hi := h.i
 have q := le_inner (inr := inr) (h0 := leW 20 w ds bs) (f := f) h.K h.L (gL_atR (show i < (llOf ds).length by omega)) (gL (llOf ds) i).length 0 w hw (by omega)
 rw [List.drop_zero] at q
 rw [show lsK (bhv f (intsOf bs)) ((gL (llOf ds) i).map (·.1)) w = w' from hr, ← h.e] at q
 have hkr : ∀ τ, renL τ bs = some bs := by rw [h.K.e]; exact byV_ren _
 have hT : Tidy (leW 20 w ds bs) 60 (leW 80 w' ds bs) 200 [20] := by
  refine tidy_of (by omega) (fun j hj hd => le_out 80 20 w' w ds bs j (by omega) (fun e => hd (by simp [e]))) ?_
  cases w' <;> rfl
 cases w with
 | none =>
  refine LRuns.enter (N := 100) (l2 := leS 80 n m i 0 f none) (h2 := leW 80 none ds bs) hn hg (by omega) (by omega) (fun n => n) ?_ ?_ rfl q hT
  ·exact ⟨rfl, rb_slg rfl rfl, rfl, rb_slg rfl rfl, rfl, rfl, rfl, rfl, rfl, rfl, rfl, rfl, rfl, rfl, trivial⟩
  ·exact ⟨sw_row (m := 0) rfl rfl, ow_row (m := 2) rfl rfl hkr, trivial⟩
 | some y =>
  refine LRuns.enter (N := 100) (l2 := leS 80 n m i 0 f (some y)) (h2 := leW 80 (some y) ds bs) hn hg (by omega) (by omega) (fun n => bif Nat.beq n 80 then 20 else n) ?_ ?_ rfl q hT
  ·exact ⟨rfl, rb_slg rfl rfl, rfl, rb_slg rfl rfl, rfl, rfl, rfl, rb_slg rfl rfl, rfl, rfl, rfl, rfl, rfl, rfl, trivial⟩
  ·exact ⟨ow_row (m := 20) rfl rfl (byV_ren _), sw_row (m := 0) rfl rfl, ow_row (m := 2) rfl rfl hkr, trivial⟩
def leiLo (P : Program) (f : Bool) (w w' : Option (List Int)) : LFun := mkL 36 7 54 [0, 1, 2, 8, 9, 10, 11] (bodyIn P 36 7) (leiSp f w w')
theorem leiLo_one (f : Bool) (w w' : Option (List Int)) : LOne Try.prog (leiLo Try.prog f w w') := mkL_ok (leiSp_ok f w w')
theorem lo_TNN (inr : Bool) (n m i : Nat) (ds : List DV) (bs : List Value) (x y : List Int) : prjP [0, 1, 2, 8, 9, 10] 60 (codeZ (leV (leiLo Try.prog true none none)) Try.prog (runZ (leV (leiLo Try.prog true none none)) Try.prog
 9) 36 inr 100000 (bodyIn Try.prog 36 4) (SL 54 (leQ 20 n m i true none)) (leW 20 none ds bs) 60 [true])
 =
  (let a2 := (1, Value.slice (some (Addr.mk 2 0 none)) m (capBig + 2)); let a1 := (0, Value.slice (some (Addr.mk 0 0 none)) n 18446744073709551616); Res.ok ((Xt.normal, 54, [a1, a2, (2, Value.bool true), (8, Value.slice none 0 0), (9, Value.bool false), (10, Value.int IntKind.i64 (↑(i + 1) : Int))], [(0, Rw.mk (Kd.sw ds) []), (2, Rw.mk Kd.ow bs)], 200, [20], []), [], [decide ((↑i : Int) < (↑n : Int)) = true, bodyIn Try.prog (36 : FuncId) 7 = bodyIn Try.prog (36 : FuncId) 7, [a1, a2, (2, Value.bool true), (8, Value.slice none 0 0), (9, Value.bool false), (10, Value.int IntKind.i64 (↑i : Int)), (11, Value.int IntKind.i64 (0 : Int))] = leS 20 n m i 0 true none, leW 20 none ds bs = leW 20 none ds bs, 60 = 60, RjOk ds bs m n i, KyB none, lsK (bhv true (intsOf bs)) (keyL (gL (llOf ds) i)) none = none, rg IntKind.i64 (↑(i + 1) : Int)])) := by kernel_rfl
theorem lo_TNS (inr : Bool) (n m i : Nat) (ds : List DV) (bs : List Value) (x y : List Int) : prjP [0, 1, 2, 8, 9, 10] 60 (codeZ (leV (leiLo Try.prog true none (some y))) Try.prog (runZ (leV (leiLo Try.prog true none (some y)))
 Try.prog 9) 36 inr 100000 (bodyIn Try.prog 36 4) (SL 54 (leQ 20 n m i true none)) (leW 20 none ds bs) 60 [true])
 =
  (let a2 := (1, Value.slice (some (Addr.mk 2 0 none)) m (capBig + 2)); let a1 := (0, Value.slice (some (Addr.mk 0 0 none)) n 18446744073709551616); Res.ok ((Xt.normal, 54, [a1, a2, (2, Value.bool true), (8, Value.slice (some (Addr.mk 80 0 none)) (List.length y) (capBig + 80)), (9, Value.bool true), (10, Value.int IntKind.i64 (↑(i + 1) : Int))], [(80, Rw.mk Kd.ow (byV y)), (0, Rw.mk (Kd.sw ds) []), (2, Rw.mk Kd.ow bs)], 200, [20], []), [], [decide ((↑i : Int) < (↑n : Int)) = true, bodyIn Try.prog (36 : FuncId) 7 = bodyIn Try.prog (36 : FuncId) 7, [a1, a2, (2, Value.bool true), (8, Value.slice none 0 0), (9, Value.bool false), (10, Value.int IntKind.i64 (↑i : Int)), (11, Value.int IntKind.i64 (0 : Int))] = leS 20 n m i 0 true none, leW 20 none ds bs = leW 20 none ds bs, 60 = 60, RjOk ds bs m n i, KyB none, lsK (bhv true (intsOf bs)) (keyL (gL (llOf ds) i)) none = some y, rg IntKind.i64 (↑(i + 1) : Int)])) := by kernel_rfl
theorem lo_TSS (inr : Bool) (n m i : Nat) (ds : List DV) (bs : List Value) (x y : List Int) : prjP [0, 1, 2, 8, 9, 10] 60 (codeZ (leV (leiLo Try.prog true (some x) (some y))) Try.prog (runZ (leV (leiLo Try.prog true (some x) (some
 y))) Try.prog 9) 36 inr 100000 (bodyIn Try.prog 36 4) (SL 54 (leQ 20 n m i true (some x))) (leW 20 (some x) ds bs) 60 [true])
 =
  (let a2 := (1, Value.slice (some (Addr.mk 2 0 none)) m (capBig + 2)); let a1 := (0, Value.slice (some (Addr.mk 0 0 none)) n 18446744073709551616); Res.ok ((Xt.normal, 54, [a1, a2, (2, Value.bool true), (8, Value.slice (some (Addr.mk 80 0 none)) (List.length y) (capBig + 80)), (9, Value.bool true), (10, Value.int IntKind.i64 (↑(i + 1) : Int))], [(80, Rw.mk Kd.ow (byV y)), (0, Rw.mk (Kd.sw ds) []), (2, Rw.mk Kd.ow bs)], 200, [20], []), [], [decide ((↑i : Int) < (↑n : Int)) = true, bodyIn Try.prog (36 : FuncId) 7 = bodyIn Try.prog (36 : FuncId) 7, [a1, a2, (2, Value.bool true), (8, Value.slice (some (Addr.mk 20 0 none)) (List.length x) (capBig + 20)), (9, Value.bool true), (10, Value.int IntKind.i64 (↑i : Int)), (11, Value.int IntKind.i64 (0 : Int))] = leS 20 n m i 0 true (some x), leW 20 (some x) ds bs = leW 20 (some x) ds bs, 60 = 60, RjOk ds bs m n i, KyB (some x), lsK (bhv true (intsOf bs)) (keyL (gL (llOf ds) i)) (some x) = some y, rg IntKind.i64 (↑(i + 1) : Int)])) := by kernel_rfl
theorem lo_FNN (inr : Bool) (n m i : Nat) (ds : List DV) (bs : List Value) (x y : List Int) : prjP [0, 1, 2, 8, 9, 10] 60 (codeZ (leV (leiLo Try.prog false none none)) Try.prog (runZ (leV (leiLo Try.prog false none none)) Try.prog
 9) 36 inr 100000 (bodyIn Try.prog 36 4) (SL 54 (leQ 20 n m i false none)) (leW 20 none ds bs) 60 [true])
 =
  (let a2 := (1, Value.slice (some (Addr.mk 2 0 none)) m (capBig + 2)); let a1 := (0, Value.slice (some (Addr.mk 0 0 none)) n 18446744073709551616); Res.ok ((Xt.normal, 54, [a1, a2, (2, Value.bool false), (8, Value.slice none 0 0), (9, Value.bool false), (10, Value.int IntKind.i64 (↑(i + 1) : Int))], [(0, Rw.mk (Kd.sw ds) []), (2, Rw.mk Kd.ow bs)], 200, [20], []), [], [decide ((↑i : Int) < (↑n : Int)) = true, bodyIn Try.prog (36 : FuncId) 7 = bodyIn Try.prog (36 : FuncId) 7, [a1, a2, (2, Value.bool false), (8, Value.slice none 0 0), (9, Value.bool false), (10, Value.int IntKind.i64 (↑i : Int)), (11, Value.int IntKind.i64 (0 : Int))] = leS 20 n m i 0 false none, leW 20 none ds bs = leW 20 none ds bs, 60 = 60, RjOk ds bs m n i, KyB none, lsK (bhv false (intsOf bs)) (keyL (gL (llOf ds) i)) none = none, rg IntKind.i64 (↑(i + 1) : Int)])) := by kernel_rfl
theorem lo_FNS (inr : Bool) (n m i : Nat) (ds : List DV) (bs : List Value) (x y : List Int) : prjP [0, 1, 2, 8, 9, 10] 60 (codeZ (leV (leiLo Try.prog false none (some y))) Try.prog (runZ (leV (leiLo Try.prog false none (some y)))
 Try.prog 9) 36 inr 100000 (bodyIn Try.prog 36 4) (SL 54 (leQ 20 n m i false none)) (leW 20 none ds bs) 60 [true])
 =
  (let a2 := (1, Value.slice (some (Addr.mk 2 0 none)) m (capBig + 2)); let a1 := (0, Value.slice (some (Addr.mk 0 0 none)) n 18446744073709551616); Res.ok ((Xt.normal, 54, [a1, a2, (2, Value.bool false), (8, Value.slice (some (Addr.mk 80 0 none)) (List.length y) (capBig + 80)), (9, Value.bool true), (10, Value.int IntKind.i64 (↑(i + 1) : Int))], [(80, Rw.mk Kd.ow (byV y)), (0, Rw.mk (Kd.sw ds) []), (2, Rw.mk Kd.ow bs)], 200, [20], []), [], [decide ((↑i : Int) < (↑n : Int)) = true, bodyIn Try.prog (36 : FuncId) 7 = bodyIn Try.prog (36 : FuncId) 7, [a1, a2, (2, Value.bool false), (8, Value.slice none 0 0), (9, Value.bool false), (10, Value.int IntKind.i64 (↑i : Int)), (11, Value.int IntKind.i64 (0 : Int))] = leS 20 n m i 0 false none, leW 20 none ds bs = leW 20 none ds bs, 60 = 60, RjOk ds bs m n i, KyB none, lsK (bhv false (intsOf bs)) (keyL (gL (llOf ds) i)) none = some y, rg IntKind.i64 (↑(i + 1) : Int)])) := by kernel_rfl
theorem lo_FSS (inr : Bool) (n m i : Nat) (ds : List DV) (bs : List Value) (x y : List Int) : prjP [0, 1, 2, 8, 9, 10] 60 (codeZ (leV (leiLo Try.prog false (some x) (some y))) Try.prog (runZ (leV (leiLo Try.prog false (some x)
 (some y))) Try.prog 9) 36 inr 100000 (bodyIn Try.prog 36 4) (SL 54 (leQ 20 n m i false (some x))) (leW 20 (some x) ds bs) 60 [true])
 =
  (let a2 := (1, Value.slice (some (Addr.mk 2 0 none)) m (capBig + 2)); let a1 := (0, Value.slice (some (Addr.mk 0 0 none)) n 18446744073709551616); Res.ok ((Xt.normal, 54, [a1, a2, (2, Value.bool false), (8, Value.slice (some (Addr.mk 80 0 none)) (List.length y) (capBig + 80)), (9, Value.bool true), (10, Value.int IntKind.i64 (↑(i + 1) : Int))], [(80, Rw.mk Kd.ow (byV y)), (0, Rw.mk (Kd.sw ds) []), (2, Rw.mk Kd.ow bs)], 200, [20], []), [], [decide ((↑i : Int) < (↑n : Int)) = true, bodyIn Try.prog (36 : FuncId) 7 = bodyIn Try.prog (36 : FuncId) 7, [a1, a2, (2, Value.bool false), (8, Value.slice (some (Addr.mk 20 0 none)) (List.length x) (capBig + 20)), (9, Value.bool true), (10, Value.int IntKind.i64 (↑i : Int)), (11, Value.int IntKind.i64 (0 : Int))] = leS 20 n m i 0 false (some x), leW 20 (some x) ds bs = leW 20 (some x) ds bs, 60 = 60, RjOk ds bs m n i, KyB (some x), lsK (bhv false (intsOf bs)) (keyL (gL (llOf ds) i)) (some x) = some y, rg IntKind.i64 (↑(i + 1) : Int)])) := by kernel_rfl
theorem lo_TNe (inr : Bool) (n m i : Nat) (ds : List DV) (bs : List Value) (x : List Int) : prjP [8, 9] 60 (codeZ (leV noL) Try.prog (runZ (leV noL) Try.prog 9) 36 inr 100000 (bodyIn Try.prog 36 4) (SL 54 (leQ 20 n m i true none)) (leW 20 none ds bs) 60 [false]) =
 Res.ok ((Xt.exit 0, 54, [(8, Value.slice none 0 0), (9, Value.bool false)], [(0, Rw.mk (Kd.sw ds) []), (2, Rw.mk Kd.ow bs)], 60, [], []), [], [decide ((↑i : Int) < (↑n : Int)) = false]) := by kernel_rfl
theorem lo_TSe (inr : Bool) (n m i : Nat) (ds : List DV) (bs : List Value) (x : List Int) : prjP [8, 9] 60 (codeZ (leV noL) Try.prog (runZ (leV noL) Try.prog 9) 36 inr 100000 (bodyIn Try.prog 36 4) (SL 54 (leQ 20 n m i true (some x))) (leW 20 (some x) ds bs) 60 [false]) =
 Res.ok ((Xt.exit 0, 54, [(8, Value.slice (some (Addr.mk 20 0 none)) (List.length x) (capBig + 20)), (9, Value.bool true)], [(20, Rw.mk Kd.ow (byV x)), (0, Rw.mk (Kd.sw ds) []), (2, Rw.mk Kd.ow bs)], 60, [], []), [], [decide ((↑i : Int) < (↑n : Int)) = false]) := by kernel_rfl
theorem lo_FNe (inr : Bool) (n m i : Nat) (ds : List DV) (bs : List Value) (x : List Int) : prjP [8, 9] 60 (codeZ (leV noL) Try.prog (runZ (leV noL) Try.prog 9) 36 inr 100000 (bodyIn Try.prog 36 4) (SL 54 (leQ 20 n m i false none)) (leW 20 none ds bs) 60 [false]) =
 Res.ok ((Xt.exit 0, 54, [(8, Value.slice none 0 0), (9, Value.bool false)], [(0, Rw.mk (Kd.sw ds) []), (2, Rw.mk Kd.ow bs)], 60, [], []), [], [decide ((↑i : Int) < (↑n : Int)) = false]) := by kernel_rfl
theorem lo_FSe (inr : Bool) (n m i : Nat) (ds : List DV) (bs : List Value) (x : List Int) : prjP [8, 9] 60 (codeZ (leV noL) Try.prog (runZ (leV noL) Try.prog 9) 36 inr 100000 (bodyIn Try.prog 36 4) (SL 54 (leQ 20 n m i false (some x))) (leW 20 (some x) ds bs) 60 [false]) =
 Res.ok ((Xt.exit 0, 54, [(8, Value.slice (some (Addr.mk 20 0 none)) (List.length x) (capBig + 20)), (9, Value.bool true)], [(20, Rw.mk Kd.ow (byV x)), (0, Rw.mk (Kd.sw ds) []), (2, Rw.mk Kd.ow bs)], 60, [], []), [], [decide ((↑i : Int) < (↑n : Int)) = false]) := by kernel_rfl
def leZ (A : Nat) (w : Option (List Int)) : List (Nat × Value) := [(8, oV A w), (9, .bool w.isSome)]
theorem lsS_some (b : Option (List Int)) (x k : List Int) : ∃ y, lsS b (some x) k = some y := by
 unfold lsS
 cases bhK b k && ltK k x with
 | true => exact ⟨k, rfl⟩
 | false => exact ⟨x, rfl⟩
theorem lsK_some (b : Option (List Int)) : ∀ (K : List (List Int)) (x : List Int), ∃ y, lsK b K (some x) = some y
 | [], x => ⟨x, rfl⟩
 | k :: K, x => by
   obtain ⟨y, hy⟩ := lsS_some b x k
   show ∃ z, lsK b K (lsS b (some x) k) = some z
   rw [hy]
   exact lsK_some b K y
theorem lsS_or (b w : Option (List Int)) (k : List Int) : lsS b w k = some k ∨ lsS b w k = w := by
 unfold lsS
 generalize (bhK b k && (match w with | none => true | some y => ltK k y)) = c
 cases c with
 | true => exact .inl rfl
 | false => exact .inr rfl
theorem lsK_mem (b : Option (List Int)) : ∀ (K : List (List Int)) (w : Option (List Int)) (y : List Int), lsK b K w = some y → y ∈ K ∨ w = some y
 | [], w, y, h => .inr h
 | k :: K, w, y, h => by
   have h' : lsK b K (lsS b w k) = some y := h
   rcases lsK_mem b K _ y h' with h1 | h1
   ·exact .inl (List.mem_cons_of_mem _ h1)
   ·rcases lsS_or b w k with e | e
    ·rw [e] at h1; cases h1; exact .inl (List.mem_cons_self ..)
    ·rw [e] at h1; exact .inr h1
theorem lsK_app (b : Option (List Int)) (K1 K2 : List (List Int)) (w : Option (List Int)) : lsK b (K1 ++ K2) w = lsK b K2 (lsK b K1 w) := by
 unfold lsK
 rw [List.foldl_append]
theorem ksL_cons (l : List Pr) (L : List (List Pr)) : ksL (l :: L) = keyL l ++ ksL L := by simp [ksL, keyL]
set_option maxHeartbeats 4000000 in
theorem lo_loop {inr : Bool} {h0 : Hp} {L : List (List Pr)} {bs : List Value} {B : List Int} {n m : Nat} {f : Bool} (hB : FdK bs m B) (hL : FdLL L n) : ∀ (r i : Nat) (w : Option (List Int)), KyB w → i + r = n →
  LRuns inr Try.prog (bodyIn Try.prog 36 4) 6 300 h0 54 (leQ 20 n m i f w) (leW 20 w (llD L) bs) 60 (.exit 0, leZ 20 (lsK (bhv f B) (ksL (L.drop i)) w), leW 20 (lsK (bhv f B) (ksL (L.drop i)) w) (llD L) bs)
 | 0, i, w, hw, hr => by
   have hl := hL.l
   have hkr : ∀ τ, renL τ bs = some bs := by rw [hB.e]; exact byV_ren _
   rw [List.drop_of_length_le (by omega)]
   cases f with
   | false =>
    cases w with
    | none =>
     refine LRuns.exit (code_runsP leX leL (runZ_ok leX leT leL mixed 9) mixed (lo_FNe inr n m i (llD L) bs []) ?_) (by intro e; cases e) rfl (by omega) (by omega) (fun n => n) ?_ ?_ rfl
     ·exact ⟨decide_eq_false (by omega), trivial⟩
     ·exact ⟨rfl, rfl, rfl, rfl, trivial⟩
     ·exact ⟨sw_row (m := 0) rfl rfl, ow_row (m := 2) rfl rfl hkr, trivial⟩
    | some y =>
     refine LRuns.exit (code_runsP leX leL (runZ_ok leX leT leL mixed 9) mixed (lo_FSe inr n m i (llD L) bs y) ?_) (by intro e; cases e) rfl (by omega) (by omega) (fun n => n) ?_ ?_ rfl
     ·exact ⟨decide_eq_false (by omega), trivial⟩
     ·exact ⟨rfl, rb_slg rfl rfl, rfl, rfl, trivial⟩
     ·exact ⟨ow_row (m := 20) rfl rfl (byV_ren _), sw_row (m := 0) rfl rfl, ow_row (m := 2) rfl rfl hkr, trivial⟩
   | true =>
    cases w with
    | none =>
     refine LRuns.exit (code_runsP leX leL (runZ_ok leX leT leL mixed 9) mixed (lo_TNe inr n m i (llD L) bs []) ?_) (by intro e; cases e) rfl (by omega) (by omega) (fun n => n) ?_ ?_ rfl
     ·exact ⟨decide_eq_false (by omega), trivial⟩
     ·exact ⟨rfl, rfl, rfl, rfl, trivial⟩
     ·exact ⟨sw_row (m := 0) rfl rfl, ow_row (m := 2) rfl rfl hkr, trivial⟩
    | some y =>
     refine LRuns.exit (code_runsP leX leL (runZ_ok leX leT leL mixed 9) mixed (lo_TSe inr n m i (llD L) bs y) ?_) (by intro e; cases e) rfl (by omega) (by omega) (fun n => n) ?_ ?_ rfl
     ·exact ⟨decide_eq_false (by omega), trivial⟩
     ·exact ⟨rfl, rb_slg rfl rfl, rfl, rfl, trivial⟩
     ·exact ⟨ow_row (m := 20) rfl rfl (byV_ren _), sw_row (m := 0) rfl rfl, ow_row (m := 2) rfl rfl hkr, trivial⟩
 | r + 1, i, w, hw, hr => by
   have hl := hL.l
   have hn9 := hL.n9
   have hi : i < L.length := by omega
   have hx := gL_atR hi
   have hkr : ∀ τ, renL τ bs = some bs := by rw [hB.e]; exact byV_ren _
   have hd : ksL (L.drop i) = keyL (gL L i) ++ ksL (L.drop (i + 1)) := by
    obtain ⟨h1, h2⟩ := List.getElem?_eq_some_iff.1 hx
    rw [List.drop_eq_getElem_cons hi, h2, ksL_cons]
   have ei : intsOf bs = B := by rw [hB.e]; exact byV_ints B
   have rj : RjOk (llD L) bs m n i := ⟨by rw [ei]; exact hB, by rw [llOf_ll], by rw [llOf_ll]; exact hL, by omega⟩
   have hg : ∀ w', lsK (bhv f B) (keyL (gL L i)) w = w' → lsK (bhv f (intsOf bs)) (keyL (gL (llOf (llD L)) i)) w = w' := fun w' h => by rw [llOf_ll, ei]; exact h
   have hk2 : KyB (lsK (bhv f B) (keyL (gL L i)) w) := fun y e => by
    rcases lsK_mem _ _ _ _ e with h1 | h1
    ·obtain ⟨p, h2, h3⟩ := List.mem_map.1 h1
     rw [← h3]
     exact ((hL.L _ (List.mem_of_getElem? hx)).O p h2).1
    ·exact hw y h1
   have hlt : decide ((i : Int) < (n : Int)) = true := decide_eq_true (by omega)
   have hrg : rg IntKind.i64 ((i + 1 : Nat) : Int) := by simp only [rg]; omega
   rw [hd, lsK_app]
   cases hq : lsK (bhv f B) (keyL (gL L i)) w with
   | none =>
    cases w with
    | some x => exact absurd hq (by obtain ⟨y, hy⟩ := lsK_some (bhv f B) (keyL (gL L i)) x; rw [hy]; exact fun e => by cases e)
    | none =>
     cases f with
     | false =>
      have hLp : LOkZ (leV (leiLo Try.prog false none none)) Try.prog := L_okV rfl (leiLo_one _ _ _)
      have run := lo_FNN inr n m i (llD L) bs [] []
      refine LRuns.step (code_runsP leX hLp (runZ_ok leX leT hLp mixed 9) mixed run ?_) rfl (by omega) (by omega) (fun n => n) ?_ ?_ rfl (lo_loop (f := false) hB hL r (i + 1) none (by rw [hq] at hk2; exact hk2) (by omega))
      ·exact ⟨hlt, rfl, rfl, rfl, rfl, rj, hw, hg _ hq, hrg, trivial⟩
      ·exact ⟨rfl, rb_slg rfl rfl, rfl, rb_slg rfl rfl, rfl, rfl, rfl, rfl, rfl, rfl, rfl, rfl, trivial⟩
      ·exact ⟨sw_row (m := 0) rfl rfl, ow_row (m := 2) rfl rfl hkr, trivial⟩
     | true =>
      have hLp : LOkZ (leV (leiLo Try.prog true none none)) Try.prog := L_okV rfl (leiLo_one _ _ _)
      have run := lo_TNN inr n m i (llD L) bs [] []
      refine LRuns.step (code_runsP leX hLp (runZ_ok leX leT hLp mixed 9) mixed run ?_) rfl (by omega) (by omega) (fun n => n) ?_ ?_ rfl (lo_loop (f := true) hB hL r (i + 1) none (by rw [hq] at hk2; exact hk2) (by omega))
      ·exact ⟨hlt, rfl, rfl, rfl, rfl, rj, hw, hg _ hq, hrg, trivial⟩
      ·exact ⟨rfl, rb_slg rfl rfl, rfl, rb_slg rfl rfl, rfl, rfl, rfl, rfl, rfl, rfl, rfl, rfl, trivial⟩
      ·exact ⟨sw_row (m := 0) rfl rfl, ow_row (m := 2) rfl rfl hkr, trivial⟩
   | some y =>
    cases w with
    | none =>
     cases f with
     | false =>
      have hLp : LOkZ (leV (leiLo Try.prog false none (some y))) Try.prog := L_okV rfl (leiLo_one _ _ _)
      have run := lo_FNS inr n m i (llD L) bs [] y
      refine LRuns.step (code_runsP leX hLp (runZ_ok leX leT hLp mixed 9) mixed run ?_) rfl (by omega) (by omega) (fun n => bif Nat.beq n 20 then 80 else n) ?_ ?_ rfl (lo_loop (f := false) hB hL r (i + 1) (some y) (by rw [hq] at hk2; exact hk2) (by omega))
      ·exact ⟨hlt, rfl, rfl, rfl, rfl, rj, hw, hg _ hq, hrg, trivial⟩
      ·exact ⟨rfl, rb_slg rfl rfl, rfl, rb_slg rfl rfl, rfl, rfl, rfl, rb_slg rfl rfl, rfl, rfl, rfl, rfl, trivial⟩
      ·exact ⟨ow_row (m := 80) rfl rfl (byV_ren _), sw_row (m := 0) rfl rfl, ow_row (m := 2) rfl rfl hkr, trivial⟩
     | true =>
      have hLp : LOkZ (leV (leiLo Try.prog true none (some y))) Try.prog := L_okV rfl (leiLo_one _ _ _)
      have run := lo_TNS inr n m i (llD L) bs [] y
      refine LRuns.step (code_runsP leX hLp (runZ_ok leX leT hLp mixed 9) mixed run ?_) rfl (by omega) (by omega) (fun n => bif Nat.beq n 20 then 80 else n) ?_ ?_ rfl (lo_loop (f := true) hB hL r (i + 1) (some y) (by rw [hq] at hk2; exact hk2) (by omega))
      ·exact ⟨hlt, rfl, rfl, rfl, rfl, rj, hw, hg _ hq, hrg, trivial⟩
      ·exact ⟨rfl, rb_slg rfl rfl, rfl, rb_slg rfl rfl, rfl, rfl, rfl, rb_slg rfl rfl, rfl, rfl, rfl, rfl, trivial⟩
      ·exact ⟨ow_row (m := 80) rfl rfl (byV_ren _), sw_row (m := 0) rfl rfl, ow_row (m := 2) rfl rfl hkr, trivial⟩
    | some x =>
     cases f with
     | false =>
      have hLp : LOkZ (leV (leiLo Try.prog false (some x) (some y))) Try.prog := L_okV rfl (leiLo_one _ _ _)
      have run := lo_FSS inr n m i (llD L) bs x y
      refine LRuns.step (code_runsP leX hLp (runZ_ok leX leT hLp mixed 9) mixed run ?_) rfl (by omega) (by omega) (fun n => bif Nat.beq n 20 then 80 else n) ?_ ?_ rfl (lo_loop (f := false) hB hL r (i + 1) (some y) (by rw [hq] at hk2; exact hk2) (by omega))
      ·exact ⟨hlt, rfl, rfl, rfl, rfl, rj, hw, hg _ hq, hrg, trivial⟩
      ·exact ⟨rfl, rb_slg rfl rfl, rfl, rb_slg rfl rfl, rfl, rfl, rfl, rb_slg rfl rfl, rfl, rfl, rfl, rfl, trivial⟩
      ·exact ⟨ow_row (m := 80) rfl rfl (byV_ren _), sw_row (m := 0) rfl rfl, ow_row (m := 2) rfl rfl hkr, trivial⟩
     | true =>
      have hLp : LOkZ (leV (leiLo Try.prog true (some x) (some y))) Try.prog := L_okV rfl (leiLo_one _ _ _)
      have run := lo_TSS inr n m i (llD L) bs x y
      refine LRuns.step (code_runsP leX hLp (runZ_ok leX leT hLp mixed 9) mixed run ?_) rfl (by omega) (by omega) (fun n => bif Nat.beq n 20 then 80 else n) ?_ ?_ rfl (lo_loop (f := true) hB hL r (i + 1) (some y) (by rw [hq] at hk2; exact hk2) (by omega))
      ·exact ⟨hlt, rfl, rfl, rfl, rfl, rj, hw, hg _ hq, hrg, trivial⟩
      ·exact ⟨rfl, rb_slg rfl rfl, rfl, rb_slg rfl rfl, rfl, rfl, rfl, rb_slg rfl rfl, rfl, rfl, rfl, rfl, trivial⟩
      ·exact ⟨ow_row (m := 80) rfl rfl (byV_ren _), sw_row (m := 0) rfl rfl, ow_row (m := 2) rfl rfl hkr, trivial⟩
def leoPk (live : List (Nat × Value)) (h : Hp) : Option ((Nat × Nat) × List DV × List Value) := match live, lk h 0, lk h 2 with
 | (_, .slice _ n _) :: (_, .slice _ m _) :: _, some ⟨.sw ds, _⟩, some ⟨.ow, bs⟩ => some ((n, m), ds, bs)
 | _, _, _ => none
def leoSp (f : Bool) (w' : Option (List Int)) : LSpec := lspec leoPk (fun a => (leQ 20 a.1.1 a.1.2 0 f none, leH a.2.1 a.2.2, 6)) (fun a tp => some ((.exit 0, leZ 20 w', leW 20 w' a.2.1 a.2.2, 300, []), tp, [FoOk a.2.1 a.2.2 a.1.2 a.1.1, lsK (bhv f (intsOf a.2.2)) (ksL (llOf a.2.1)) none = w']))
theorem leoSp_ok (f : Bool) (w' : Option (List Int)) : LSOk Try.prog 54 [0, 1, 2, 8, 9, 10] (bodyIn Try.prog 36 4) (leoSp f w') := by
 refine lspec_ok fun a tp xt l2 h2 nx2 d tp' ob hs ho inr ts hn hg => ?_
 obtain ⟨⟨n, m⟩, ds, bs⟩ := a
 simp only at hs hg
 simp only [oI, pI] at hs
 obtain ⟨⟨rfl, rfl, rfl, rfl, rfl⟩, rfl, rfl⟩ := hs
 obtain ⟨h, hr, _⟩ := ho
 have q := lo_loop (inr := inr) (h0 := leH ds bs) (f := f) h.K h.L n 0 none (fun y e => by cases e) (by omega)
 rw [List.drop_zero, hr, ← h.e] at q
 have hkr : ∀ τ, renL τ bs = some bs := by rw [h.K.e]; exact byV_ren _
 have hT : Tidy (leH ds bs) 6 (leW 20 w' ds bs) 300 [] := by
  refine tidy_of (by omega) (fun j hj hd => le_out 20 20 w' none ds bs j (by omega) (by omega)) ?_
  cases w' <;> rfl
 refine LRuns.enter (N := 60) (l2 := leQ 20 n m 0 f none) (h2 := leH ds bs) hn hg (by omega) (by omega) (fun n => n) ?_ ?_ rfl q hT
 ·exact ⟨rfl, rb_slg rfl rfl, rfl, rb_slg rfl rfl, rfl, rfl, rfl, rfl, rfl, rfl, rfl, rfl, trivial⟩
 ·exact ⟨sw_row (m := 0) rfl rfl, ow_row (m := 2) rfl rfl hkr, trivial⟩
def leoLo (P : Program) (f : Bool) (w' : Option (List Int)) : LFun := mkL 36 4 54 [0, 1, 2, 8, 9, 10] (bodyIn P 36 4) (leoSp f w')
theorem leoLo_one (f : Bool) (w' : Option (List Int)) : LOne Try.prog (leoLo Try.prog f w') := mkL_ok (leoSp_ok f w')
theorem lf_Tn (n m : Nat) (ds : List DV) (bs : List Value) (y : List Int) : runZ (leV (leoLo Try.prog true none)) Try.prog 9 36 [llA n, kyV m, .bool true] (leH ds bs) 6 [] =
 Res.ok ((Value.tuple (Array.mk [Value.slice none 0 0, Value.bool false]), [(0, Rw.mk (Kd.sw ds) []), (2, Rw.mk Kd.ow bs)], 300, []), [], [bodyIn Try.prog (36 : FuncId) 4 = bodyIn Try.prog (36 : FuncId) 4, [(0, Value.slice (some (Addr.mk 0 0 none)) n 18446744073709551616), (1, Value.slice (some (Addr.mk 2 0 none)) m (capBig + 2)), (2, Value.bool true), (8, Value.slice none 0 0), (9, Value.bool false), (10, Value.int IntKind.i64 (0 : Int))] = leQ 20 n m 0 true none, leH ds bs = leH ds bs, 6 = 6, FoOk ds bs m n, lsK (bhv true (intsOf bs)) (ksL (llOf ds)) none = none]) := by kernel_rfl
theorem lf_Ts (n m : Nat) (ds : List DV) (bs : List Value) (y : List Int) : runZ (leV (leoLo Try.prog true (some y))) Try.prog 9 36 [llA n, kyV m, .bool true] (leH ds bs) 6 [] =
 Res.ok ((Value.tuple (Array.mk [Value.slice (some (Addr.mk 20 0 none)) (List.length y) (capBig + 20), Value.bool true]), [(20, Rw.mk Kd.ow (byV y)), (0, Rw.mk (Kd.sw ds) []), (2, Rw.mk Kd.ow bs)], 300, []), [], [bodyIn Try.prog (36 : FuncId) 4 = bodyIn Try.prog (36 : FuncId) 4, [(0, Value.slice (some (Addr.mk 0 0 none)) n 18446744073709551616), (1, Value.slice (some (Addr.mk 2 0 none)) m (capBig + 2)), (2, Value.bool true), (8, Value.slice none 0 0), (9, Value.bool false), (10, Value.int IntKind.i64 (0 : Int))] = leQ 20 n m 0 true none, leH ds bs = leH ds bs, 6 = 6, FoOk ds bs m n, lsK (bhv true (intsOf bs)) (ksL (llOf ds)) none = some y]) := by kernel_rfl
theorem lf_Fn (n m : Nat) (ds : List DV) (bs : List Value) (y : List Int) : runZ (leV (leoLo Try.prog false none)) Try.prog 9 36 [llA n, kyV m, .bool false] (leH ds bs) 6 [] =
 Res.ok ((Value.tuple (Array.mk [Value.slice none 0 0, Value.bool false]), [(0, Rw.mk (Kd.sw ds) []), (2, Rw.mk Kd.ow bs)], 300, []), [], [bodyIn Try.prog (36 : FuncId) 4 = bodyIn Try.prog (36 : FuncId) 4, [(0, Value.slice (some (Addr.mk 0 0 none)) n 18446744073709551616), (1, Value.slice (some (Addr.mk 2 0 none)) m (capBig + 2)), (2, Value.bool false), (8, Value.slice none 0 0), (9, Value.bool false), (10, Value.int IntKind.i64 (0 : Int))] = leQ 20 n m 0 false none, leH ds bs = leH ds bs, 6 = 6, FoOk ds bs m n, lsK (bhv false (intsOf bs)) (ksL (llOf ds)) none = none]) := by kernel_rfl
theorem lf_Fs (n m : Nat) (ds : List DV) (bs : List Value) (y : List Int) : runZ (leV (leoLo Try.prog false (some y))) Try.prog 9 36 [llA n, kyV m, .bool false] (leH ds bs) 6 [] =
 Res.ok ((Value.tuple (Array.mk [Value.slice (some (Addr.mk 20 0 none)) (List.length y) (capBig + 20), Value.bool true]), [(20, Rw.mk Kd.ow (byV y)), (0, Rw.mk (Kd.sw ds) []), (2, Rw.mk Kd.ow bs)], 300, []), [], [bodyIn Try.prog (36 : FuncId) 4 = bodyIn Try.prog (36 : FuncId) 4, [(0, Value.slice (some (Addr.mk 0 0 none)) n 18446744073709551616), (1, Value.slice (some (Addr.mk 2 0 none)) m (capBig + 2)), (2, Value.bool false), (8, Value.slice none 0 0), (9, Value.bool false), (10, Value.int IntKind.i64 (0 : Int))] = leQ 20 n m 0 false none, leH ds bs = leH ds bs, 6 = 6, FoOk ds bs m n, lsK (bhv false (intsOf bs)) (ksL (llOf ds)) none = some y]) := by kernel_rfl
def gLe (y : List Int) : GSpecD := fun aL tp => match aL, tp with
 | [.dl ds n, .sl bs m, .fl (.bool f)], false :: tp' => some (⟨fun _ => .tuple ⟨[nlV, .bool false]⟩, []⟩, tp', [FoOk ds bs m n, lsK (bhv f (intsOf bs)) (ksL (llOf ds)) none = none])
 | [.dl ds n, .sl bs m, .fl (.bool f)], true :: tp' => some (⟨fun nx => .tuple ⟨[slN nx y.length, .bool true]⟩, [⟨.ow, byV y⟩]⟩, tp', [FoOk ds bs m n, lsK (bhv f (intsOf bs)) (ksL (llOf ds)) none = some y])
 | _, _ => none
theorem le_gok (y : List Int) : GOkO Try.prog 36 (gLe y) := by
 intro aL tp gr tp' ob hG ho cs hc
 unfold gLe at hG
 split at hG
 ·rename_i ds n bs m f tp2
  simp only [oI, pI] at hG
  obtain ⟨rfl, rfl, rfl⟩ := hG
  obtain ⟨h, h1, _⟩ := ho
  cases f with
  | true => exact ⟨_, _, _, _, fun n => n, run_tri leX leT (L_okV rfl (leoLo_one true none)) (lf_Tn n m ds bs y) ⟨rfl, rfl, rfl, rfl, h, h1, trivial⟩ rfl, GrO.flat fun σ => rfl⟩
  | false => exact ⟨_, _, _, _, fun n => n, run_tri leX leT (L_okV rfl (leoLo_one false none)) (lf_Fn n m ds bs y) ⟨rfl, rfl, rfl, rfl, h, h1, trivial⟩ rfl, GrO.flat fun σ => rfl⟩
 ·rename_i ds n bs m f tp2
  simp only [oI, pI] at hG
  obtain ⟨rfl, rfl, rfl⟩ := hG
  obtain ⟨h, h1, _⟩ := ho
  have fin : ∀ {h0' : Hp}, lk h0' 20 = some ⟨.ow, byV y⟩ → GrO ⟨fun nx => .tuple ⟨[slN nx y.length, .bool true]⟩, [⟨.ow, byV y⟩]⟩ (.tuple ⟨[slN 20 y.length, .bool true]⟩) h0' (fun _ => 20) := fun hl => by
   refine ⟨fun nx => ?_, fun j r hj => ?_, fun i j hi hj _ => by simp at hi hj; omega⟩
   ·have e := f2s_slice0 (nx := nx) (k := 1) (g := fun _ => 20) (by omega) y.length
    simp only [renV] at e
    simp only [renV, renA, renL, slN, List.length_cons, List.length_nil, Nat.zero_add, e]
   ·match j, hj with
    | 0, hj => cases hj; exact ⟨byV_ren _, rfl, hl⟩
  cases f with
  | true => exact ⟨_, _, _, _, fun _ => 20, run_tri leX leT (L_okV rfl (leoLo_one true (some y))) (lf_Ts n m ds bs y) ⟨rfl, rfl, rfl, rfl, h, h1, trivial⟩ rfl, fin rfl⟩
  | false => exact ⟨_, _, _, _, fun _ => 20, run_tri leX leT (L_okV rfl (leoLo_one false (some y))) (lf_Fs n m ds bs y) ⟨rfl, rfl, rfl, rfl, h, h1, trivial⟩ rfl, fin rfl⟩
 ·cases hG
def rsTab : FuncId → List Nat := fun f => bif Nat.beq f 35 then [7] else bif Nat.beq f 43 then [9] else []
def rsSy : FuncId → Nat → Option Nat := orSy (lsSy 35 [(7, 0), (9, 0), (12, 0), (13, 0), (15, 32), (18, 0), (20, 32)]) (lsSy 43 [(6, 0), (8, 0), (9, 0)])
def rsV (L : LFun) (T : TFun) : Tv := ⟨T, cmpY, L, rsTab, rsSy, fun _ => [], fun _ => 0⟩
theorem rs_go (inr : Bool) (n i : Nat) (ds : List DV) : prjP [0, 3] 10 (codeZ (rsV noL noTz) Try.prog (runZ (rsV noL noTz) Try.prog 9) 35 inr 100000 (bodyIn Try.prog 35 2) (SL 23 [(0, saA n), (3, iV i)]) [(0, ⟨.sw ds, []⟩)] 10 [true, true]) =
 (let a3 := (↑i : Int); let a2 := (i * 3 + 0 + 0); let a5 := (intsOf (List.take (dLen ds a2) (dVals ds a2))); let a1 := (Int.toNat (a3 - (1 : Int)) * 3 + 0 + 0); let a4 := (intsOf (List.take (dLen ds a1) (dVals ds a1))); Res.ok ((Xt.normal, 23, [(0, Value.slice (some (Addr.mk 0 0 none)) n 18446744073709551616), (3, Value.int IntKind.i64 (↑(i + 1) : Int))], [(0, Rw.mk (Kd.sw ds) [])], 12, [], []), [], [decide (a3 < (↑n : Int)) = true, rg IntKind.i64 (a3 - (1 : Int)), (0 : Int) ≤ a3 - (1 : Int) ∧ a3 - (1 : Int) < (↑n : Int), ShOb Try.prog 23 false true ds (Int.toNat (a3 - (1 : Int)) * 3 + 0) 10, (0 : Int) ≤ a3 ∧ a3 < (↑n : Int), ShOb Try.prog 23 false true ds (i * 3 + 0) 11, dLen ds a1 ≤ List.length (dVals ds a1), List.take (dLen ds a1) (dVals ds a1) = List.map (Value.int IntKind.u8) a4, dLen ds a2 ≤ List.length (dVals ds a2), List.take (dLen ds a2) (dVals ds a2) = List.map (Value.int
 IntKind.u8) a5, Op.bytesLess (List.map (fun n => UInt8.ofNat (Int.toNat n)) a4) (List.map (fun n => UInt8.ofNat (Int.toNat n)) a5) = true, rg IntKind.i64 (↑(i + 1) :
 Int)])) := by kernel_rfl
theorem rs_no (inr : Bool) (n i : Nat) (ds : List DV) : prjP [2] 10 (codeZ (rsV noL noTz) Try.prog (runZ (rsV noL noTz) Try.prog 9) 35 inr 100000 (bodyIn Try.prog 35 2) (SL 23 [(0, saA n), (3, iV i)]) [(0, ⟨.sw ds, []⟩)] 10 [true, false]) =
 (let a3 := (↑i : Int); let a2 := (i * 3 + 0 + 0); let a5 := (intsOf (List.take (dLen ds a2) (dVals ds a2))); let a1 := (Int.toNat (a3 - (1 : Int)) * 3 + 0 + 0); let a4 := (intsOf (List.take (dLen ds a1) (dVals ds a1))); Res.ok ((Xt.ret, 23, [(2, Value.bool false)], [(0, Rw.mk (Kd.sw ds) [])], 12, [], []), [], [decide (a3 < (↑n : Int)) = true, rg IntKind.i64 (a3 - (1 : Int)), (0 : Int) ≤ a3 - (1 : Int) ∧ a3 - (1 : Int) < (↑n : Int), ShOb Try.prog 23 false true ds (Int.toNat (a3 - (1 : Int)) * 3 + 0) 10, (0 : Int) ≤ a3 ∧ a3 < (↑n : Int), ShOb Try.prog 23 false true ds (i * 3 + 0) 11, dLen ds a1 ≤ List.length (dVals ds a1), List.take (dLen ds a1) (dVals ds a1) = List.map (Value.int IntKind.u8) a4, dLen ds a2 ≤ List.length (dVals ds a2), List.take (dLen ds a2) (dVals ds a2) = List.map (Value.int IntKind.u8) a5, Op.bytesLess (List.map (fun n => UInt8.ofNat (Int.toNat n)) a4) (List.map (fun n => UInt8.ofNat (Int.toNat n)) a5) = false])) := by kernel_rfl
theorem rs_end (inr : Bool) (n i : Nat) (ds : List DV) : prjP [] 10 (codeZ (rsV noL noTz) Try.prog (runZ (rsV noL noTz) Try.prog 9) 35 inr 100000 (bodyIn Try.prog 35 2) (SL 23 [(0, saA n), (3, iV i)]) [(0, ⟨.sw ds, []⟩)] 10 [false]) =
 Res.ok ((Xt.exit 0, 23, [], [(0, Rw.mk (Kd.sw ds) [])], 10, [], []), [], [decide ((↑i : Int) < (↑n : Int)) = false]) := by kernel_rfl
theorem rsX {L : LFun} {T : TFun} : XOkZ (rsV L T) Try.prog := XOneZ.ok cmpY_ok rfl
theorem rsT {L : LFun} : TOkZ (rsV L noTz) Try.prog := noTz_okV rfl
theorem rsL {T : TFun} : LOkZ (rsV noL T) Try.prog := noL_okV rfl
theorem rt_by (l : List Int) : List.take l.length (byV l) = byV l := List.take_of_length_le (by rw [byV_len]; exact Nat.le_refl _)
theorem rs_loop {inr : Bool} {h0 : Hp} {ds : List DV} {ps : List Pr} {n : Nat} (hP : Prs ds ps) (hO : ∀ p ∈ ps, PrOk p) (hn : ps.length = n) (hn9 : n ≤ 9000000) : ∀ (r j : Nat), n ≤ j + 1 + r → j ≤ n →
  LRuns inr Try.prog (bodyIn Try.prog 35 2) 2 40 h0 23 [(0, saA n), (3, iV (j + 1))] [(0, ⟨.sw ds, []⟩)] 10 (bif asc (ps.drop j) then (.exit 0, [], [(0, ⟨.sw ds, []⟩)]) else (.ret, [(2, .bool false)], [(0, ⟨.sw ds, []⟩)]))
 | r, j, hr, hj => by
   by_cases he : j + 1 < n
   case neg =>
    have e : asc (ps.drop j) = true := by
     cases hd : ps.drop j with
     | nil => rfl
     | cons p l =>
      have := congrArg List.length hd
      rw [List.length_drop, List.length_cons] at this
      have : l = [] := List.eq_nil_of_length_eq_zero (by omega)
      rw [this]
      rfl
    rw [e]
    refine LRuns.exit (code_runsP rsX rsL (runZ_ok rsX rsT rsL mixed 9) mixed (rs_end inr n (j + 1) ds) ?_) (by intro e; cases e) rfl (by omega) (by omega) (fun n => n) ?_ ?_ rfl
    ·simp only [Alls, decide_eq_false_iff_not]
     exact ⟨by omega, trivial⟩
    ·trivial
    ·exact ⟨sw_row rfl rfl, trivial⟩
   have hi : j < ps.length := by omega
   have hi2 : j + 1 < ps.length := by omega
   have F := hP.facts (List.getElem?_eq_getElem hi)
   have G := hP.facts (List.getElem?_eq_getElem hi2)
   obtain ⟨p, hp⟩ : ∃ p, ps[j] = p := ⟨_, rfl⟩
   obtain ⟨q, hq⟩ : ∃ q, ps[j + 1] = q := ⟨_, rfl⟩
   rw [hp] at F
   rw [hq] at G
   have bp := (hO p (by rw [← hp]; exact List.getElem_mem hi)).1
   have bq := (hO q (by rw [← hq]; exact List.getElem_mem hi2)).1
   have hd : ps.drop j = p :: q :: ps.drop (j + 1 + 1) := by rw [List.drop_eq_getElem_cons hi, List.drop_eq_getElem_cons hi2, hp, hq]
   have hd2 : ps.drop (j + 1) = q :: ps.drop (j + 1 + 1) := by rw [List.drop_eq_getElem_cons hi2, hq]
   have ea : asc (ps.drop j) = (!decide (cmpI p.1 q.1 ≥ 0) && asc (ps.drop (j + 1))) := by rw [hd, hd2]; rfl
   have en : Int.toNat (((j + 1 : Nat) : Int) - 1) = j := by omega
   have f0 := F.l0
   have v0 := F.v0
   have f0' := G.l0
   have v0' := G.v0
   have o1 := F.o27 10
   have o2 := G.o27 11
   have cl := cmp_less p.1 q.1 bp bq
   have y1 := byV_bytI bp
   have y2 := byV_bytI bq
   have i0 := byV_ints p.1
   have i1 := byV_ints q.1
   obtain ⟨r, rfl⟩ : ∃ g, r = g + 1 := ⟨r - 1, by omega⟩
   rw [ea]
   by_cases hk : cmpI p.1 q.1 ≥ 0
   ·rw [decide_eq_true hk] at cl ⊢
    refine LRuns.exit (code_runsP rsX rsL (runZ_ok rsX rsT rsL mixed 9) mixed (rs_no inr n (j + 1) ds) ?_) (by intro e; cases e) rfl (by omega) (by omega) (fun n => n) ?_ ?_ rfl
    ·simp only [Alls, rg, decide_eq_true_eq, decide_eq_false_iff_not, Nat.add_zero, en, f0, v0, f0', v0', rt_by, byV_ints, byV_len]
     repeat' (with_reducible apply And.intro)
     all_goals first | omega | (with_reducible assumption) | (with_reducible exact trivial) | exact rfl | exact cl | skip
    ·exact ⟨rfl, rfl, trivial⟩
    ·exact ⟨sw_row rfl rfl, trivial⟩
   ·rw [decide_eq_false hk] at cl ⊢
    refine LRuns.step (code_runsP rsX rsL (runZ_ok rsX rsT rsL mixed 9) mixed (rs_go inr n (j + 1) ds) ?_) rfl (by omega) (by omega) (fun n => n) ?_ ?_ rfl (rs_loop hP hO hn hn9 r (j + 1) (by omega) (by omega))
    ·simp only [Alls, rg, decide_eq_true_eq, decide_eq_false_iff_not, Nat.add_zero, en, f0, v0, f0', v0', rt_by, byV_ints, byV_len]
     repeat' (with_reducible apply And.intro)
     all_goals first | omega | (with_reducible assumption) | (with_reducible exact trivial) | exact rfl | exact cl | skip
    ·exact ⟨rfl, rb_slg rfl rfl, rfl, rfl, trivial⟩
    ·exact ⟨sw_row rfl rfl, trivial⟩
def rsPk (live : List (Nat × Value)) (h : Hp) : Option (Nat × List DV) := match live, lk h 0 with | (_, .slice _ n _) :: _, some ⟨.sw ds, _⟩ => some (n, ds) | _, _ => none
def rsSp : LSpec := lspec rsPk (fun a => ([(0, saA a.1), (3, iV 1)], [(0, ⟨.sw a.2, []⟩)], 2)) (fun a tp => match tp with
 | b :: tp' => some ((bif b then .exit 0 else .ret, bif b then [] else [(2, .bool false)], [(0, ⟨.sw a.2, []⟩)], 40, []), tp', [SoOk a.2 a.1 b])
 | [] => none)
def rsLo (P : Program) : LFun := mkL 35 2 23 [0, 3] (bodyIn P 35 2) rsSp
theorem rsSp_ok : LSOk Try.prog 23 [0, 3] (bodyIn Try.prog 35 2) rsSp := by
 refine lspec_ok fun a tp xt l2 h2 nx2 d tp' ob hs ho inr ts hn hg => ?_
 obtain ⟨n, ds⟩ := a
 simp only at hs hg
 split at hs
 case h_2 => cases hs
 rename_i b _
 simp only [oI, pI] at hs
 obtain ⟨⟨rfl, rfl, rfl, rfl, rfl⟩, rfl, rfl⟩ := hs
 obtain ⟨h, _⟩ := ho
 have key := rs_loop (inr := inr) (h0 := [(0, ⟨.sw ds, []⟩)]) h.P h.O h.l h.m n 0 (by omega) (by omega)
 rw [List.drop_zero, h.a] at key
 cases b <;>
 ·refine LRuns.enter (N := 10) (l2 := [(0, saA n), (3, iV 1)]) hn hg (by omega) (by omega) (fun n => n) ?_ ?_ rfl key ?_
  ·exact ⟨rfl, rb_slg rfl rfl, rfl, rfl, trivial⟩
  ·exact ⟨sw_row rfl rfl, trivial⟩
  ·exact tidy_of (by omega) (fun m hm hd => rfl) rfl
theorem rsLo_one : LOne Try.prog (rsLo Try.prog) := mkL_ok rsSp_ok
theorem rs_t (n : Nat) (ds : List DV) : prjV (runZ (rsV (rsLo Try.prog) noTz) Try.prog 9 35 [saA n] [(0, ⟨.sw ds, []⟩)] 2 [true]) =
 (let a2 := (3, Value.int IntKind.i64 (1 : Int)); let a1 := (0, Value.slice (some (Addr.mk 0 0 none)) n 18446744073709551616); Res.ok (Value.bool true, [], [bodyIn Try.prog (35 : FuncId) 2 = bodyIn Try.prog (35 : FuncId) 2, [a1, a2] = [a1, a2], [(0, Rw.mk (Kd.sw ds) [])] = [(0, Rw.mk (Kd.sw ds) [])], 2 = 2, SoOk ds n true])) := by kernel_rfl
theorem rs_f (n : Nat) (ds : List DV) : prjV (runZ (rsV (rsLo Try.prog) noTz) Try.prog 9 35 [saA n] [(0, ⟨.sw ds, []⟩)] 2 [false]) =
 (let a2 := (3, Value.int IntKind.i64 (1 : Int)); let a1 := (0, Value.slice (some (Addr.mk 0 0 none)) n 18446744073709551616); Res.ok (Value.bool false, [], [bodyIn Try.prog (35 : FuncId) 2 = bodyIn Try.prog (35 : FuncId) 2, [a1, a2] = [a1, a2], [(0, Rw.mk (Kd.sw ds) [])] = [(0, Rw.mk (Kd.sw ds) [])], 2 = 2, SoOk ds n false])) := by kernel_rfl
def gRs : GSpecD := fun aL tp => match aL, tp with
 | [.dl ds n], b :: tp' => some (⟨fun _ => .bool b, []⟩, tp', [SoOk ds n b])
 | _, _ => none
theorem rs_gok : GOkD Try.prog 35 gRs := by
 intro aL tp gr tp' ob hG ho cs hc
 unfold gRs at hG
 split at hG
 case h_2 => cases hG
 rename_i ds n b tp2
 simp only [oI, pI] at hG
 obtain ⟨rfl, rfl, rfl⟩ := hG
 have h := ho.1
 cases b with
 | true =>
  obtain ⟨h', nx', d, T⟩ := run_val rsX rsT (L_okV rfl rsLo_one) (rs_t n ds) ⟨rfl, rfl, rfl, rfl, h, trivial⟩ rfl
  exact ⟨_, h', nx', d, fun n => n, T, GrD.flat fun σ => rfl⟩
 | false =>
  obtain ⟨h', nx', d, T⟩ := run_val rsX rsT (L_okV rfl rsLo_one) (rs_f n ds) ⟨rfl, rfl, rfl, rfl, h, trivial⟩ rfl
  exact ⟨_, h', nx', d, fun n => n, T, GrD.flat fun σ => rfl⟩
end Go.Proofs.Ytmoflcoijmmpjaa
