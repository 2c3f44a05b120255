/-
  Chapter 12: the statement MemtableParts: the law's runs.
-/
import Derived.Test.YtojakfnljopjbaaPtB
namespace Go.Proofs.Ytojakfnljopjbaa
set_option linter.unusedSimpArgs false
set_option linter.unusedVariables false
set_option linter.unusedSectionVars false
open Go Go.RowKit
def ptFin (ps : List Pr) : List Pr := ps.foldl (fun t p => layP t (puP p)) []
structure PtSt (ds : List DV) (n c c1 m1 c2 m2 c3 m3 : Nat) (k1 k2 k3 : List Value) (b : Bool) : Prop where
  B : PtOk ds (prsOf ds) n c c1 m1 c2 m2 c3 m3 k1 k2 k3
  e : (ptFin (prsOf ds)).isEmpty = b
structure PtA where
  n : Nat
  c : Nat
  c1 : Nat
  m1 : Nat
  c2 : Nat
  m2 : Nat
  c3 : Nat
  m3 : Nat
  ds : List DV
  k1 : List Value
  k2 : List Value
  k3 : List Value
def ptPk (live : List (Nat × Value)) (h : Hp) : Option PtA := match live, lk h 0 with
  | (_, .slice _ n c) :: (_, .slice _ m1 c1) :: (_, .slice _ m2 c2) :: (_, .slice _ m3 c3) :: _, some ⟨.sd ds, _⟩ => (match lk h 1, lk h 2, lk h 3 with
    | some ⟨_, k1⟩, some ⟨_, k2⟩, some ⟨_, k3⟩ => some ⟨n, c, c1, m1, c2, m2, c3, m3, ds, k1, k2, k3⟩
    | _, _, _ => none)
  | _, _ => none
def ptOut (ts : List Pr) (ds : List DV) (k1 k2 k3 : List Value) (b : Bool) : Hp := bif b then ptN ds k1 k2 k3 else ptW ts.length (cpD ts) ds k1 k2 k3
def ptSp : LSpec := lspec ptPk (fun a => (ptS a.n a.c a.c1 a.m1 a.c2 a.m2 a.c3 a.m3 0, ptN a.ds a.k1 a.k2 a.k3, 5)) (fun a tp => match tp with
  | b :: tp' => some ((.exit 0, ptE a.c1 a.m1 a.c2 a.m2 a.c3 a.m3, ptOut (ptFin (prsOf a.ds)) a.ds a.k1 a.k2 a.k3 b, 200, [4]), tp', [PtSt a.ds a.n a.c a.c1 a.m1 a.c2 a.m2 a.c3 a.m3 a.k1 a.k2 a.k3 b])
  | [] => none)
def ptLo (P : Program) : LFun := mkL 5 6 101 [0, 1, 2, 3, 9, 10, 11] (bodyIn P 5 6) ptSp
theorem ptSp_ok : LSOk Try.prog 101 [0, 1, 2, 3, 9, 10, 11] (bodyIn Try.prog 5 6) ptSp := by
  refine lspec_ok fun a tp xt l2 h2 nx2 d tp' ob hs ho inr ts hn hg => ?_
  obtain ⟨n, c, c1, m1, c2, m2, c3, m3, ds, k1, k2, k3⟩ := a
  simp only at hs hg
  split at hs
  case h_2 => cases hs
  rename_i b _
  simp only [Option.some.injEq, Prod.mk.injEq] at hs
  obtain ⟨⟨rfl, rfl, rfl, rfl, rfl⟩, rfl, rfl⟩ := hs
  obtain ⟨⟨hB, he⟩, _⟩ := ho
  (try simp only at hB he)
  have hcc : c < capBig := by have := hB.c; unfold capBig; omega
  have h1c : c1 < capBig := by have := hB.c1; unfold capBig; omega
  have h2c : c2 < capBig := by have := hB.c2; unfold capBig; omega
  have h3c : c3 < capBig := by have := hB.c3; unfold capBig; omega
  have key := pt_loop (inr := inr) (h0 := ptN ds k1 k2 k3) hB n 0 [] (by omega) Ti.nil
  have eF : ptHp (((prsOf ds).drop 0).foldl (fun t p => layP t (puP p)) []) ds k1 k2 k3 = ptOut (ptFin (prsOf ds)) ds k1 k2 k3 b := by
    rw [List.drop_zero, ← he]; rfl
  rw [eF] at key
  refine LRuns.enter (N := 100) (l2 := ptS n c c1 m1 c2 m2 c3 m3 0) (h2 := ptN ds k1 k2 k3) hn hg (by omega) (by omega) (fun n => n) ?_ ?_ rfl key ?_
  · exact ⟨rfl, rb_slc rfl hcc, rfl, rb_slc rfl h1c, rfl, rb_slc rfl h2c, rfl, rb_slc rfl h3c, rfl, rfl, rfl, rb_ptr rfl, rfl, rfl, trivial⟩
  · exact ⟨sh2_row (m := 4) rfl rfl rfl, sd_row (m := 0) rfl rfl, ol_row (m := 1) rfl rfl hB.K1.fl, ol_row (m := 2) rfl rfl hB.K2.fl, ol_row (m := 3) rfl rfl hB.K3.fl, trivial⟩
  · refine tidy_of (by omega) (fun m hm hd => ?_) (by cases b <;> rfl)
    have h4 : m ≠ 4 := fun e => hd (by simp [e])
    cases b with
    | true => rfl
    | false =>
      have hm2 : m < 5 := hm
      show lk ((80, _) :: _) m = _
      rw [lk_cons, if_neg (by omega)]
      simp only [ptN, lk_cons, if_neg (Ne.symm h4)]
def pfTab : FuncId → List Nat := fun f => bif Nat.beq f 5 then [57, 21, 26, 31, 38, 45, 50] else []
def pfSy (a b : Nat) : FuncId → Nat → Option Nat := lsSy 5 [(35, 0), (37, 0), (42, 0), (44, 0), (88, a), (90, b)]
def pfV (a b : Nat) (L : LFun) (T : TFun) : Tv := ⟨T, cmpY, L, pfTab, pfSy a b, fun _ => [], fun _ => 0⟩
def pfT : TFun := orTz (mkT 4 [] gTrueY) (orTz btwT pxTs)
theorem pf_e1 (n c c1 m1 c2 m2 c3 m3 : Nat) (ds : List DV) (k1 k2 k3 : List Value) : prjV (runZ (pfV 46 46 noL pfT) Try.prog 12 5 [.slice (some ⟨0, 0, none⟩) n c, .slice (some ⟨1, 0, none⟩) m1 c1, .slice (some ⟨2, 0, none⟩) m2 c2, .slice (some ⟨3, 0, none⟩) m3 c3] [(0, ⟨.sd ds, []⟩), (1, ⟨.old, k1⟩), (2, ⟨.old, k2⟩), (3, ⟨.old, k3⟩)] 4 [true]) =
  Res.ok (Value.bool true, [], [n = 0 → ds = [], LpOk ds n ∧ (decide ((↑n : Int) > (100 : Int)) || List.any (prsOf ds) big) = true]) := by kernel_rfl
theorem pf_e2 (n c c1 m1 c2 m2 c3 m3 : Nat) (ds : List DV) (k1 k2 k3 : List Value) : prjV (runZ (pfV 46 46 noL pfT) Try.prog 12 5 [.slice (some ⟨0, 0, none⟩) n c, .slice (some ⟨1, 0, none⟩) m1 c1, .slice (some ⟨2, 0, none⟩) m2 c2, .slice (some ⟨3, 0, none⟩) m3 c3] [(0, ⟨.sd ds, []⟩), (1, ⟨.old, k1⟩), (2, ⟨.old, k2⟩), (3, ⟨.old, k3⟩)] 4 [false, true]) =
  Res.ok (Value.bool true, [], [n = 0 → ds = [], LpOk ds n ∧ (decide ((↑n : Int) > (100 : Int)) || List.any (prsOf ds) big) = false, decide ((↑m1 : Int) > (300 : Int)) = true]) := by kernel_rfl
theorem pf_e3 (n c c1 m1 c2 m2 c3 m3 : Nat) (ds : List DV) (k1 k2 k3 : List Value) : prjV (runZ (pfV 46 46 noL pfT) Try.prog 12 5 [.slice (some ⟨0, 0, none⟩) n c, .slice (some ⟨1, 0, none⟩) m1 c1, .slice (some ⟨2, 0, none⟩) m2 c2, .slice (some ⟨3, 0, none⟩) m3 c3] [(0, ⟨.sd ds, []⟩), (1, ⟨.old, k1⟩), (2, ⟨.old, k2⟩), (3, ⟨.old, k3⟩)] 4 [false, false, true]) =
  Res.ok (Value.bool true, [], [n = 0 → ds = [], LpOk ds n ∧ (decide ((↑n : Int) > (100 : Int)) || List.any (prsOf ds) big) = false, decide ((↑m1 : Int) > (300 : Int)) = false, decide ((↑m2 : Int) > (300 : Int)) = true]) := by kernel_rfl
theorem pf_e4 (n c c1 m1 c2 m2 c3 m3 : Nat) (ds : List DV) (k1 k2 k3 : List Value) : prjV (runZ (pfV 46 46 noL pfT) Try.prog 12 5 [.slice (some ⟨0, 0, none⟩) n c, .slice (some ⟨1, 0, none⟩) m1 c1, .slice (some ⟨2, 0, none⟩) m2 c2, .slice (some ⟨3, 0, none⟩) m3 c3] [(0, ⟨.sd ds, []⟩), (1, ⟨.old, k1⟩), (2, ⟨.old, k2⟩), (3, ⟨.old, k3⟩)] 4 [false, false, false, true]) =
  Res.ok (Value.bool true, [], [n = 0 → ds = [], LpOk ds n ∧ (decide ((↑n : Int) > (100 : Int)) || List.any (prsOf ds) big) = false, decide ((↑m1 : Int) > (300 : Int)) = false, decide ((↑m2 : Int) > (300 : Int)) = false,
 decide ((↑m3 : Int) > (300 : Int)) = true]) := by kernel_rfl
theorem pf_e5 (n c c1 m1 c2 m2 c3 m3 : Nat) (ds : List DV) (k1 k2 k3 : List Value) : prjV (runZ (pfV 46 46 noL pfT) Try.prog 12 5 [.slice (some ⟨0, 0, none⟩) n c, .slice (some ⟨1, 0, none⟩) m1 c1, .slice (some ⟨2, 0, none⟩) m2 c2, .slice (some ⟨3, 0, none⟩) m3 c3] [(0, ⟨.sd ds, []⟩), (1, ⟨.old, k1⟩), (2, ⟨.old, k2⟩), (3, ⟨.old, k3⟩)] 4 [false, false, false, false, true]) =
  Res.ok (Value.bool true, [], [n = 0 → ds = [], LpOk ds n ∧ (decide ((↑n : Int) > (100 : Int)) || List.any (prsOf ds) big) = false, decide ((↑m1 : Int) > (300 : Int)) = false, decide ((↑m2 : Int) > (300 : Int)) = false,
 decide ((↑m3 : Int) > (300 : Int)) = false, m1 ≤ List.length k1, List.take m1 k1 = List.map (Value.int IntKind.u8) (intsOf (List.take m1 k1)), m2 ≤ List.length k2, List.take m2 k2 = List.map (Value.int IntKind.u8) (intsOf
 (List.take m2 k2)), (!(Op.bytesLess (List.map (fun n => UInt8.ofNat (Int.toNat n)) (intsOf (List.take m1 k1))) (List.map (fun n => UInt8.ofNat (Int.toNat n)) (intsOf (List.take m2 k2))) || strEq (strOfI (intsOf (List.take
 m1 k1))) (strOfI (intsOf (List.take m2 k2))))) = true]) := by kernel_rfl
theorem pf_e6 (n c c1 m1 c2 m2 c3 m3 : Nat) (ds : List DV) (k1 k2 k3 : List Value) : prjV (runZ (pfV 46 46 noL pfT) Try.prog 12 5 [.slice (some ⟨0, 0, none⟩) n c, .slice (some ⟨1, 0, none⟩) m1 c1, .slice (some ⟨2, 0, none⟩) m2 c2, .slice (some ⟨3, 0, none⟩) m3 c3] [(0, ⟨.sd ds, []⟩), (1, ⟨.old, k1⟩), (2, ⟨.old, k2⟩), (3, ⟨.old, k3⟩)] 4 [false, false, false, false, false, true]) =
  Res.ok (Value.bool true, [], [n = 0 → ds = [], LpOk ds n ∧ (decide ((↑n : Int) > (100 : Int)) || List.any (prsOf ds) big) = false, decide ((↑m1 : Int) > (300 : Int)) = false, decide ((↑m2 : Int) > (300 : Int)) = false,
 decide ((↑m3 : Int) > (300 : Int)) = false, m1 ≤ List.length k1, List.take m1 k1 = List.map (Value.int IntKind.u8) (intsOf (List.take m1 k1)), m2 ≤ List.length k2, List.take m2 k2 = List.map (Value.int IntKind.u8) (intsOf
 (List.take m2 k2)), (!(Op.bytesLess (List.map (fun n => UInt8.ofNat (Int.toNat n)) (intsOf (List.take m1 k1))) (List.map (fun n => UInt8.ofNat (Int.toNat n)) (intsOf (List.take m2 k2))) || strEq (strOfI (intsOf (List.take
 m1 k1))) (strOfI (intsOf (List.take m2 k2))))) = false, m2 ≤ List.length k2, List.take m2 k2 = List.map (Value.int IntKind.u8) (intsOf (List.take m2 k2)), m3 ≤ List.length k3, List.take m3 k3 = List.map (Value.int
 IntKind.u8) (intsOf (List.take m3 k3)), (!(Op.bytesLess (List.map (fun n => UInt8.ofNat (Int.toNat n)) (intsOf (List.take m2 k2))) (List.map (fun n => UInt8.ofNat (Int.toNat n)) (intsOf (List.take m3 k3))) || strEq
 (strOfI (intsOf (List.take m2 k2))) (strOfI (intsOf (List.take m3 k3))))) = true]) := by kernel_rfl
theorem pf_e7 (n c c1 m1 c2 m2 c3 m3 : Nat) (ds : List DV) (k1 k2 k3 : List Value) : prjV (runZ (pfV 46 46 noL pfT) Try.prog 12 5 [.slice (some ⟨0, 0, none⟩) n c, .slice (some ⟨1, 0, none⟩) m1 c1, .slice (some ⟨2, 0, none⟩) m2 c2, .slice (some ⟨3, 0, none⟩) m3 c3] [(0, ⟨.sd ds, []⟩), (1, ⟨.old, k1⟩), (2, ⟨.old, k2⟩), (3, ⟨.old, k3⟩)] 4 [false, false, false, false, false, false, true]) =
  Res.ok (Value.bool true, [], [n = 0 → ds = [], LpOk ds n ∧ (decide ((↑n : Int) > (100 : Int)) || List.any (prsOf ds) big) = false, decide ((↑m1 : Int) > (300 : Int)) = false, decide ((↑m2 : Int) > (300 : Int)) = false,
 decide ((↑m3 : Int) > (300 : Int)) = false, m1 ≤ List.length k1, List.take m1 k1 = List.map (Value.int IntKind.u8) (intsOf (List.take m1 k1)), m2 ≤ List.length k2, List.take m2 k2 = List.map (Value.int IntKind.u8) (intsOf
 (List.take m2 k2)), (!(Op.bytesLess (List.map (fun n => UInt8.ofNat (Int.toNat n)) (intsOf (List.take m1 k1))) (List.map (fun n => UInt8.ofNat (Int.toNat n)) (intsOf (List.take m2 k2))) || strEq (strOfI (intsOf (List.take
 m1 k1))) (strOfI (intsOf (List.take m2 k2))))) = false, m2 ≤ List.length k2, List.take m2 k2 = List.map (Value.int IntKind.u8) (intsOf (List.take m2 k2)), m3 ≤ List.length k3, List.take m3 k3 = List.map (Value.int
 IntKind.u8) (intsOf (List.take m3 k3)), (!(Op.bytesLess (List.map (fun n => UInt8.ofNat (Int.toNat n)) (intsOf (List.take m2 k2))) (List.map (fun n => UInt8.ofNat (Int.toNat n)) (intsOf (List.take m3 k3))) || strEq
 (strOfI (intsOf (List.take m2 k2))) (strOfI (intsOf (List.take m3 k3))))) = false, ((↑m2 : Int) == (0 : Int)) = true]) := by kernel_rfl
theorem pf_n (n c c1 m1 c2 m2 c3 m3 : Nat) (ds : List DV) (k1 k2 k3 : List Value) : prjV (runZ (pfV 0 0 (ptLo Try.prog) pfT) Try.prog 12 5 [.slice (some ⟨0, 0, none⟩) n c, .slice (some ⟨1, 0, none⟩) m1 c1, .slice (some ⟨2, 0, none⟩) m2 c2, .slice (some ⟨3, 0, none⟩) m3 c3] [(0, ⟨.sd ds, []⟩), (1, ⟨.old, k1⟩), (2, ⟨.old, k2⟩), (3, ⟨.old, k3⟩)] 4 [false, false, false, false, false, false, false, true, true, true, true, true, true]) =
  Res.ok (Value.bool true, [], ((fun (q0 q1 q2 q3 q4 q5 q6 : Prop) => [n = 0 → ds = [], LpOk ds n ∧ (decide ((↑n : Int) > (100 : Int)) || List.any (prsOf ds) big) = false, decide ((↑m1 : Int) > (300 : Int)) = false, decide
 ((↑m2 : Int) > (300 : Int)) = false, decide ((↑m3 : Int) > (300 : Int)) = false, m1 ≤ List.length k1, List.take m1 k1 = List.map (Value.int IntKind.u8) (intsOf (List.take m1 k1)), q0, q1, (!(Op.bytesLess (List.map (fun n
 => UInt8.ofNat (Int.toNat n)) (intsOf (List.take m1 k1))) (List.map (fun n => UInt8.ofNat (Int.toNat n)) (intsOf (List.take m2 k2))) || strEq (strOfI (intsOf (List.take m1 k1))) (strOfI (intsOf (List.take m2 k2))))) =
 false, q0, q1, m3 ≤ List.length k3, List.take m3 k3 = List.map (Value.int IntKind.u8) (intsOf (List.take m3 k3)), (!(Op.bytesLess (List.map (fun n => UInt8.ofNat (Int.toNat n)) (intsOf (List.take m2 k2))) (List.map (fun n
 => UInt8.ofNat (Int.toNat n)) (intsOf (List.take m3 k3))) || strEq (strOfI (intsOf (List.take m2 k2))) (strOfI (intsOf (List.take m3 k3))))) = false, ((↑m2 : Int) == (0 : Int)) = false, bodyIn Try.prog (5 : FuncId) 6 =
 bodyIn Try.prog (5 : FuncId) 6, [(0, Value.slice (some (Addr.mk 0 0 none)) n c), (1, Value.slice (some (Addr.mk 1 0 none)) m1 c1), (2, Value.slice (some (Addr.mk 2 0 none)) m2 c2), (3, Value.slice (some (Addr.mk 3 0
 none)) m3 c3), (9, Value.bool true), (10, Value.pointer (some (Addr.mk 4 0 none))), (11, Value.int IntKind.i64 (0 : Int))] = ptS n c c1 m1 c2 m2 c3 m3 0, (4, Rw.mk Kd.shut [Value.bool true, Value.slice none 0 0]) :: rowsN
 4 [] (rowsN 4 [] [(0, Rw.mk (Kd.sd ds) []), (1, Rw.mk Kd.old k1), (2, Rw.mk Kd.old k2), (3, Rw.mk Kd.old k3)]) = ptN ds k1 k2 k3, 5 = 5, PtSt ds n c c1 m1 c2 m2 c3 m3 k1 k2 k3 true, q2, q3, TbK [] 0 ∧ BytI m1 k1 ∧ BytI m2
 k2 ∧ true = true, q3, q4, TbK [] 0 ∧ BytI m2 k2 ∧ BytI m3 k3 ∧ true = true, q2, q4, TbK [] 0 ∧ BytI m1 k1 ∧ BytI m3 k3 ∧ true = true, q5, q6, q6, q5]) (m2 ≤ List.length k2) (List.take m2 k2 = List.map (Value.int
 IntKind.u8) (intsOf (List.take m2 k2))) ((∀ (τ : Sg), renL τ k1 = some k1) ∧ (PtA.m1 (PtA.mk n c c1 m1 c2 m2 c3 m3 ds k1 k2 k3) = 0 → k1 = [])) ((∀ (τ : Sg), renL τ k2 = some k2) ∧ (PtA.m2 (PtA.mk n c c1 m1 c2 m2 c3 m3 ds
 k1 k2 k3) = 0 → k2 = [])) ((∀ (τ : Sg), renL τ k3 = some k3) ∧ (PtA.m3 (PtA.mk n c c1 m1 c2 m2 c3 m3 ds k1 k2 k3) = 0 → k3 = [])) (SpOk [] [] 0 ∧ 0 = 0) (TbK [] 0 ∧ BytI 0 [] ∧ BytI 0 [] ∧ true = true))) := by kernel_rfl
theorem pf_tt (n c c1 m1 c2 m2 c3 m3 : Nat) (ds : List DV) (k1 k2 k3 : List Value) : prjV (runZ (pfV 0 0 (ptLo Try.prog) pfT) Try.prog 12 5 [.slice (some ⟨0, 0, none⟩) n c, .slice (some ⟨1, 0, none⟩) m1 c1, .slice (some ⟨2, 0, none⟩) m2 c2, .slice (some ⟨3, 0, none⟩) m3 c3] [(0, ⟨.sd ds, []⟩), (1, ⟨.old, k1⟩), (2, ⟨.old, k2⟩), (3, ⟨.old, k3⟩)] 4 [false, false, false, false, false, false, false, false, true, true, true, false, false]) =
  Res.ok (Value.bool true, [], ((fun (q0 q1 q2 q3 q4 q5 q6 q7 : Prop) => [n = 0 → ds = [], LpOk ds n ∧ (decide ((↑n : Int) > (100 : Int)) || List.any (prsOf ds) big) = false, decide ((↑m1 : Int) > (300 : Int)) = false,
 decide ((↑m2 : Int) > (300 : Int)) = false, decide ((↑m3 : Int) > (300 : Int)) = false, m1 ≤ List.length k1, List.take m1 k1 = List.map (Value.int IntKind.u8) (intsOf (List.take m1 k1)), q0, q1, (!(Op.bytesLess (List.map
 (fun n => UInt8.ofNat (Int.toNat n)) (intsOf (List.take m1 k1))) (List.map (fun n => UInt8.ofNat (Int.toNat n)) (intsOf (List.take m2 k2))) || strEq (strOfI (intsOf (List.take m1 k1))) (strOfI (intsOf (List.take m2
 k2))))) = false, q0, q1, m3 ≤ List.length k3, List.take m3 k3 = List.map (Value.int IntKind.u8) (intsOf (List.take m3 k3)), (!(Op.bytesLess (List.map (fun n => UInt8.ofNat (Int.toNat n)) (intsOf (List.take m2 k2)))
 (List.map (fun n => UInt8.ofNat (Int.toNat n)) (intsOf (List.take m3 k3))) || strEq (strOfI (intsOf (List.take m2 k2))) (strOfI (intsOf (List.take m3 k3))))) = false, ((↑m2 : Int) == (0 : Int)) = false, bodyIn Try.prog (5
 : FuncId) 6 = bodyIn Try.prog (5 : FuncId) 6, [(0, Value.slice (some (Addr.mk 0 0 none)) n c), (1, Value.slice (some (Addr.mk 1 0 none)) m1 c1), (2, Value.slice (some (Addr.mk 2 0 none)) m2 c2), (3, Value.slice (some
 (Addr.mk 3 0 none)) m3 c3), (9, Value.bool true), (10, Value.pointer (some (Addr.mk 4 0 none))), (11, Value.int IntKind.i64 (0 : Int))] = ptS n c c1 m1 c2 m2 c3 m3 0, (4, Rw.mk Kd.shut [Value.bool true, Value.slice none 0
 0]) :: rowsN 4 [] (rowsN 4 [] [(0, Rw.mk (Kd.sd ds) []), (1, Rw.mk Kd.old k1), (2, Rw.mk Kd.old k2), (3, Rw.mk Kd.old k3)]) = ptN ds k1 k2 k3, 5 = 5, PtSt ds n c c1 m1 c2 m2 c3 m3 k1 k2 k3 false, q2, q3, q4, TbK (cpD
 (ptFin (prsOf ds))) (List.length (ptFin (prsOf ds))) ∧ BytI m1 k1 ∧ BytI m2 k2 ∧ List.isEmpty (btw (prsOf (cpD (ptFin (prsOf ds)))) (intsOf k1) (intsOf k2)) = true, q2, q4, q5, TbK (cpD (ptFin (prsOf ds))) (List.length
 (ptFin (prsOf ds))) ∧ BytI m2 k2 ∧ BytI m3 k3 ∧ List.isEmpty (btw (prsOf (cpD (ptFin (prsOf ds)))) (intsOf k2) (intsOf k3)) = true, q2, q3, q5, TbK (cpD (ptFin (prsOf ds))) (List.length (ptFin (prsOf ds))) ∧ BytI m1 k1 ∧
 BytI m3 k3 ∧ List.isEmpty (btw (prsOf (cpD (ptFin (prsOf ds)))) (intsOf k1) (intsOf k3)) = true, SpOk [] [] 0 ∧ 0 = 0, q2, q6, q2, q6, q7, q7, SpOk (cpD (btw (prsOf (cpD (ptFin (prsOf ds)))) (intsOf []) (intsOf []))) (cpD
 (btw (prsOf (cpD (ptFin (prsOf ds)))) (intsOf []) (intsOf []))) (List.length (btw (prsOf (cpD (ptFin (prsOf ds)))) (intsOf []) (intsOf []))) ∧ List.length (btw (prsOf (cpD (ptFin (prsOf ds)))) (intsOf []) (intsOf [])) =
 List.length (btw (prsOf (cpD (ptFin (prsOf ds)))) (intsOf []) (intsOf []))]) (m2 ≤ List.length k2) (List.take m2 k2 = List.map (Value.int IntKind.u8) (intsOf (List.take m2 k2))) (capBig + 80 = capBig + 80 ∧ List.length
 (cpD (ptFin (prsOf ds))) = List.length (ptFin (prsOf ds)) * 3 ∧ 0 < 3) ((∀ (τ : Sg), renL τ k1 = some k1) ∧ (PtA.m1 (PtA.mk n c c1 m1 c2 m2 c3 m3 ds k1 k2 k3) = 0 → k1 = [])) ((∀ (τ : Sg), renL τ k2 = some k2) ∧ (PtA.m2
 (PtA.mk n c c1 m1 c2 m2 c3 m3 ds k1 k2 k3) = 0 → k2 = [])) ((∀ (τ : Sg), renL τ k3 = some k3) ∧ (PtA.m3 (PtA.mk n c c1 m1 c2 m2 c3 m3 ds k1 k2 k3) = 0 → k3 = [])) (TbK (cpD (ptFin (prsOf ds))) (List.length (ptFin (prsOf
 ds))) ∧ BytI 0 [] ∧ BytI 0 [] ∧ List.isEmpty (btw (prsOf (cpD (ptFin (prsOf ds)))) (intsOf []) (intsOf [])) = false) (List.length (btw (prsOf (cpD (ptFin (prsOf (PtA.ds (PtA.mk n c c1 m1 c2 m2 c3 m3 ds k1 k2 k3))))))
 (intsOf []) (intsOf [])) = 0 → cpD (btw (prsOf (cpD (ptFin (prsOf ds)))) (intsOf []) (intsOf [])) = []))) := by kernel_rfl
theorem pf_tf (n c c1 m1 c2 m2 c3 m3 : Nat) (ds : List DV) (k1 k2 k3 : List Value) : prjV (runZ (pfV 0 46 (ptLo Try.prog) pfT) Try.prog 12 5 [.slice (some ⟨0, 0, none⟩) n c, .slice (some ⟨1, 0, none⟩) m1 c1, .slice (some ⟨2, 0, none⟩) m2 c2, .slice (some ⟨3, 0, none⟩) m3 c3] [(0, ⟨.sd ds, []⟩), (1, ⟨.old, k1⟩), (2, ⟨.old, k2⟩), (3, ⟨.old, k3⟩)] 4 [false, false, false, false, false, false, false, false, true, false, false, false, false]) =
  Res.ok (Value.bool true, [], ((fun (q0 q1 q2 q3 q4 q5 q6 q7 : Prop) => [n = 0 → ds = [], LpOk ds n ∧ (decide ((↑n : Int) > (100 : Int)) || List.any (prsOf ds) big) = false, decide ((↑m1 : Int) > (300 : Int)) = false,
 decide ((↑m2 : Int) > (300 : Int)) = false, decide ((↑m3 : Int) > (300 : Int)) = false, m1 ≤ List.length k1, List.take m1 k1 = List.map (Value.int IntKind.u8) (intsOf (List.take m1 k1)), q0, q1, (!(Op.bytesLess (List.map
 (fun n => UInt8.ofNat (Int.toNat n)) (intsOf (List.take m1 k1))) (List.map (fun n => UInt8.ofNat (Int.toNat n)) (intsOf (List.take m2 k2))) || strEq (strOfI (intsOf (List.take m1 k1))) (strOfI (intsOf (List.take m2
 k2))))) = false, q0, q1, m3 ≤ List.length k3, List.take m3 k3 = List.map (Value.int IntKind.u8) (intsOf (List.take m3 k3)), (!(Op.bytesLess (List.map (fun n => UInt8.ofNat (Int.toNat n)) (intsOf (List.take m2 k2)))
 (List.map (fun n => UInt8.ofNat (Int.toNat n)) (intsOf (List.take m3 k3))) || strEq (strOfI (intsOf (List.take m2 k2))) (strOfI (intsOf (List.take m3 k3))))) = false, ((↑m2 : Int) == (0 : Int)) = false, bodyIn Try.prog (5
 : FuncId) 6 = bodyIn Try.prog (5 : FuncId) 6, [(0, Value.slice (some (Addr.mk 0 0 none)) n c), (1, Value.slice (some (Addr.mk 1 0 none)) m1 c1), (2, Value.slice (some (Addr.mk 2 0 none)) m2 c2), (3, Value.slice (some
 (Addr.mk 3 0 none)) m3 c3), (9, Value.bool true), (10, Value.pointer (some (Addr.mk 4 0 none))), (11, Value.int IntKind.i64 (0 : Int))] = ptS n c c1 m1 c2 m2 c3 m3 0, (4, Rw.mk Kd.shut [Value.bool true, Value.slice none 0
 0]) :: rowsN 4 [] (rowsN 4 [] [(0, Rw.mk (Kd.sd ds) []), (1, Rw.mk Kd.old k1), (2, Rw.mk Kd.old k2), (3, Rw.mk Kd.old k3)]) = ptN ds k1 k2 k3, 5 = 5, PtSt ds n c c1 m1 c2 m2 c3 m3 k1 k2 k3 false, q2, q3, q4, TbK (cpD
 (ptFin (prsOf ds))) (List.length (ptFin (prsOf ds))) ∧ BytI m1 k1 ∧ BytI m2 k2 ∧ List.isEmpty (btw (prsOf (cpD (ptFin (prsOf ds)))) (intsOf k1) (intsOf k2)) = true, q2, q4, q5, TbK (cpD (ptFin (prsOf ds))) (List.length
 (ptFin (prsOf ds))) ∧ BytI m2 k2 ∧ BytI m3 k3 ∧ List.isEmpty (btw (prsOf (cpD (ptFin (prsOf ds)))) (intsOf k2) (intsOf k3)) = false, q2, q3, q5, TbK (cpD (ptFin (prsOf ds))) (List.length (ptFin (prsOf ds))) ∧ BytI m1 k1 ∧
 BytI m3 k3 ∧ List.isEmpty (btw (prsOf (cpD (ptFin (prsOf ds)))) (intsOf k1) (intsOf k3)) = false, 0 < List.length (btw (prsOf (cpD (ptFin (prsOf ds)))) (intsOf k2) (intsOf k3)) ∧ List.length (btw (prsOf (cpD (ptFin (prsOf
 ds)))) (intsOf k2) (intsOf k3)) * 56 ≤ 140737488355328 ∧ List.length (btw (prsOf (cpD (ptFin (prsOf ds)))) (intsOf k2) (intsOf k3)) ≤ 9223372036854775807, 0 + List.length (btw (prsOf (cpD (ptFin (prsOf ds)))) (intsOf k2)
 (intsOf k3)) * 3 ≤ List.length (cpD (btw (prsOf (cpD (ptFin (prsOf ds)))) (intsOf k2) (intsOf k3))), DVones (List.take (List.length (btw (prsOf (cpD (ptFin (prsOf ds)))) (intsOf k2) (intsOf k3)) * 3) (List.drop 0 (cpD
 (btw (prsOf (cpD (ptFin (prsOf ds)))) (intsOf k2) (intsOf k3))))), List.length (btw (prsOf (cpD (ptFin (prsOf (PtA.ds (PtA.mk n c c1 m1 c2 m2 c3 m3 ds k1 k2 k3)))))) (intsOf (Rw.cs (Rw.mk Kd.old (PtA.k2 (PtA.mk n c c1 m1
 c2 m2 c3 m3 ds k1 k2 k3))))) (intsOf (Rw.cs (Rw.mk Kd.old (PtA.k3 (PtA.mk n c c1 m1 c2 m2 c3 m3 ds k1 k2 k3)))))) = 0 → List.take (List.length (btw (prsOf (cpD (ptFin (prsOf ds)))) (intsOf k2) (intsOf k3)) * 3) (List.drop
 0 (cpD (btw (prsOf (cpD (ptFin (prsOf ds)))) (intsOf k2) (intsOf k3)))) = [], List.length (btw (prsOf (cpD (ptFin (prsOf (PtA.ds (PtA.mk n c c1 m1 c2 m2 c3 m3 ds k1 k2 k3)))))) (intsOf (Rw.cs (Rw.mk Kd.old (PtA.k1 (PtA.mk
 n c c1 m1 c2 m2 c3 m3 ds k1 k2 k3))))) (intsOf (Rw.cs (Rw.mk Kd.old (PtA.k3 (PtA.mk n c c1 m1 c2 m2 c3 m3 ds k1 k2 k3)))))) = 0 → cpD (btw (prsOf (cpD (ptFin (prsOf ds)))) (intsOf k1) (intsOf k3)) = [], SpOk (List.take
 (List.length (btw (prsOf (cpD (ptFin (prsOf ds)))) (intsOf k2) (intsOf k3)) * 3) (List.drop 0 (cpD (btw (prsOf (cpD (ptFin (prsOf ds)))) (intsOf k2) (intsOf k3))))) (cpD (btw (prsOf (cpD (ptFin (prsOf ds)))) (intsOf k1)
 (intsOf k3))) (List.length (btw (prsOf (cpD (ptFin (prsOf ds)))) (intsOf k2) (intsOf k3))) ∧ List.length (btw (prsOf (cpD (ptFin (prsOf ds)))) (intsOf k1) (intsOf k3)) = List.length (btw (prsOf (cpD (ptFin (prsOf ds))))
 (intsOf k2) (intsOf k3)), q2, q6, q2, q6, q7, q7, SpOk (cpD (btw (prsOf (cpD (ptFin (prsOf ds)))) (intsOf []) (intsOf []))) (cpD (btw (prsOf (cpD (ptFin (prsOf ds)))) (intsOf []) (intsOf []))) (List.length (btw (prsOf
 (cpD (ptFin (prsOf ds)))) (intsOf []) (intsOf []))) ∧ List.length (btw (prsOf (cpD (ptFin (prsOf ds)))) (intsOf []) (intsOf [])) = List.length (btw (prsOf (cpD (ptFin (prsOf ds)))) (intsOf []) (intsOf []))]) (m2 ≤
 List.length k2) (List.take m2 k2 = List.map (Value.int IntKind.u8) (intsOf (List.take m2 k2))) (capBig + 80 = capBig + 80 ∧ List.length (cpD (ptFin (prsOf ds))) = List.length (ptFin (prsOf ds)) * 3 ∧ 0 < 3) ((∀ (τ : Sg),
 renL τ k1 = some k1) ∧ (PtA.m1 (PtA.mk n c c1 m1 c2 m2 c3 m3 ds k1 k2 k3) = 0 → k1 = [])) ((∀ (τ : Sg), renL τ k2 = some k2) ∧ (PtA.m2 (PtA.mk n c c1 m1 c2 m2 c3 m3 ds k1 k2 k3) = 0 → k2 = [])) ((∀ (τ : Sg), renL τ k3 =
 some k3) ∧ (PtA.m3 (PtA.mk n c c1 m1 c2 m2 c3 m3 ds k1 k2 k3) = 0 → k3 = [])) (TbK (cpD (ptFin (prsOf ds))) (List.length (ptFin (prsOf ds))) ∧ BytI 0 [] ∧ BytI 0 [] ∧ List.isEmpty (btw (prsOf (cpD (ptFin (prsOf ds))))
 (intsOf []) (intsOf [])) = false) (List.length (btw (prsOf (cpD (ptFin (prsOf (PtA.ds (PtA.mk n c c1 m1 c2 m2 c3 m3 ds k1 k2 k3)))))) (intsOf []) (intsOf [])) = 0 → cpD (btw (prsOf (cpD (ptFin (prsOf ds)))) (intsOf [])
 (intsOf [])) = []))) := by kernel_rfl
theorem pf_ft (n c c1 m1 c2 m2 c3 m3 : Nat) (ds : List DV) (k1 k2 k3 : List Value) : prjV (runZ (pfV 46 49 (ptLo Try.prog) pfT) Try.prog 12 5 [.slice (some ⟨0, 0, none⟩) n c, .slice (some ⟨1, 0, none⟩) m1 c1, .slice (some ⟨2, 0, none⟩) m2 c2, .slice (some ⟨3, 0, none⟩) m3 c3] [(0, ⟨.sd ds, []⟩), (1, ⟨.old, k1⟩), (2, ⟨.old, k2⟩), (3, ⟨.old, k3⟩)] 4 [false, false, false, false, false, false, false, false, false, true, false, false, false]) =
  Res.ok (Value.bool true, [], ((fun (q0 q1 q2 q3 q4 q5 q6 q7 : Prop) => [n = 0 → ds = [], LpOk ds n ∧ (decide ((↑n : Int) > (100 : Int)) || List.any (prsOf ds) big) = false, decide ((↑m1 : Int) > (300 : Int)) = false,
 decide ((↑m2 : Int) > (300 : Int)) = false, decide ((↑m3 : Int) > (300 : Int)) = false, m1 ≤ List.length k1, List.take m1 k1 = List.map (Value.int IntKind.u8) (intsOf (List.take m1 k1)), q0, q1, (!(Op.bytesLess (List.map
 (fun n => UInt8.ofNat (Int.toNat n)) (intsOf (List.take m1 k1))) (List.map (fun n => UInt8.ofNat (Int.toNat n)) (intsOf (List.take m2 k2))) || strEq (strOfI (intsOf (List.take m1 k1))) (strOfI (intsOf (List.take m2
 k2))))) = false, q0, q1, m3 ≤ List.length k3, List.take m3 k3 = List.map (Value.int IntKind.u8) (intsOf (List.take m3 k3)), (!(Op.bytesLess (List.map (fun n => UInt8.ofNat (Int.toNat n)) (intsOf (List.take m2 k2)))
 (List.map (fun n => UInt8.ofNat (Int.toNat n)) (intsOf (List.take m3 k3))) || strEq (strOfI (intsOf (List.take m2 k2))) (strOfI (intsOf (List.take m3 k3))))) = false, ((↑m2 : Int) == (0 : Int)) = false, bodyIn Try.prog (5
 : FuncId) 6 = bodyIn Try.prog (5 : FuncId) 6, [(0, Value.slice (some (Addr.mk 0 0 none)) n c), (1, Value.slice (some (Addr.mk 1 0 none)) m1 c1), (2, Value.slice (some (Addr.mk 2 0 none)) m2 c2), (3, Value.slice (some
 (Addr.mk 3 0 none)) m3 c3), (9, Value.bool true), (10, Value.pointer (some (Addr.mk 4 0 none))), (11, Value.int IntKind.i64 (0 : Int))] = ptS n c c1 m1 c2 m2 c3 m3 0, (4, Rw.mk Kd.shut [Value.bool true, Value.slice none 0
 0]) :: rowsN 4 [] (rowsN 4 [] [(0, Rw.mk (Kd.sd ds) []), (1, Rw.mk Kd.old k1), (2, Rw.mk Kd.old k2), (3, Rw.mk Kd.old k3)]) = ptN ds k1 k2 k3, 5 = 5, PtSt ds n c c1 m1 c2 m2 c3 m3 k1 k2 k3 false, q2, q3, q4, TbK (cpD
 (ptFin (prsOf ds))) (List.length (ptFin (prsOf ds))) ∧ BytI m1 k1 ∧ BytI m2 k2 ∧ List.isEmpty (btw (prsOf (cpD (ptFin (prsOf ds)))) (intsOf k1) (intsOf k2)) = false, q2, q4, q5, TbK (cpD (ptFin (prsOf ds))) (List.length
 (ptFin (prsOf ds))) ∧ BytI m2 k2 ∧ BytI m3 k3 ∧ List.isEmpty (btw (prsOf (cpD (ptFin (prsOf ds)))) (intsOf k2) (intsOf k3)) = true, q2, q3, q5, TbK (cpD (ptFin (prsOf ds))) (List.length (ptFin (prsOf ds))) ∧ BytI m1 k1 ∧
 BytI m3 k3 ∧ List.isEmpty (btw (prsOf (cpD (ptFin (prsOf ds)))) (intsOf k1) (intsOf k3)) = false, 0 < List.length (btw (prsOf (cpD (ptFin (prsOf ds)))) (intsOf k1) (intsOf k2)) ∧ List.length (btw (prsOf (cpD (ptFin (prsOf
 ds)))) (intsOf k1) (intsOf k2)) * 56 ≤ 140737488355328 ∧ List.length (btw (prsOf (cpD (ptFin (prsOf ds)))) (intsOf k1) (intsOf k2)) ≤ 9223372036854775807, 0 + List.length (btw (prsOf (cpD (ptFin (prsOf ds)))) (intsOf k1)
 (intsOf k2)) * 3 ≤ List.length (cpD (btw (prsOf (cpD (ptFin (prsOf ds)))) (intsOf k1) (intsOf k2))), DVones (List.take (List.length (btw (prsOf (cpD (ptFin (prsOf ds)))) (intsOf k1) (intsOf k2)) * 3) (List.drop 0 (cpD
 (btw (prsOf (cpD (ptFin (prsOf ds)))) (intsOf k1) (intsOf k2))))), capBig + 204 = capBig + 204 ∧ List.length (List.take (List.length (btw (prsOf (cpD (ptFin (prsOf ds)))) (intsOf k1) (intsOf k2)) * 3) (List.drop 0 (cpD
 (btw (prsOf (cpD (ptFin (prsOf ds)))) (intsOf k1) (intsOf k2))))) = List.length (btw (prsOf (cpD (ptFin (prsOf ds)))) (intsOf k1) (intsOf k2)) * 3, List.length (btw (prsOf (cpD (ptFin (prsOf (PtA.ds (PtA.mk n c c1 m1 c2
 m2 c3 m3 ds k1 k2 k3)))))) (intsOf (Rw.cs (Rw.mk Kd.old (PtA.k1 (PtA.mk n c c1 m1 c2 m2 c3 m3 ds k1 k2 k3))))) (intsOf (Rw.cs (Rw.mk Kd.old (PtA.k2 (PtA.mk n c c1 m1 c2 m2 c3 m3 ds k1 k2 k3)))))) = 0 → List.take
 (List.length (btw (prsOf (cpD (ptFin (prsOf ds)))) (intsOf k1) (intsOf k2)) * 3) (List.drop 0 (cpD (btw (prsOf (cpD (ptFin (prsOf ds)))) (intsOf k1) (intsOf k2)))) = [], List.length (btw (prsOf (cpD (ptFin (prsOf (PtA.ds
 (PtA.mk n c c1 m1 c2 m2 c3 m3 ds k1 k2 k3)))))) (intsOf (Rw.cs (Rw.mk Kd.old (PtA.k1 (PtA.mk n c c1 m1 c2 m2 c3 m3 ds k1 k2 k3))))) (intsOf (Rw.cs (Rw.mk Kd.old (PtA.k3 (PtA.mk n c c1 m1 c2 m2 c3 m3 ds k1 k2 k3)))))) = 0
 → cpD (btw (prsOf (cpD (ptFin (prsOf ds)))) (intsOf k1) (intsOf k3)) = [], SpOk (List.take (List.length (btw (prsOf (cpD (ptFin (prsOf ds)))) (intsOf k1) (intsOf k2)) * 3) (List.drop 0 (cpD (btw (prsOf (cpD (ptFin (prsOf
 ds)))) (intsOf k1) (intsOf k2))))) (cpD (btw (prsOf (cpD (ptFin (prsOf ds)))) (intsOf k1) (intsOf k3))) (List.length (btw (prsOf (cpD (ptFin (prsOf ds)))) (intsOf k1) (intsOf k2))) ∧ List.length (btw (prsOf (cpD (ptFin
 (prsOf ds)))) (intsOf k1) (intsOf k3)) = List.length (btw (prsOf (cpD (ptFin (prsOf ds)))) (intsOf k1) (intsOf k2)), q2, q6, q2, q6, q7, q7, SpOk (cpD (btw (prsOf (cpD (ptFin (prsOf ds)))) (intsOf []) (intsOf []))) (cpD
 (btw (prsOf (cpD (ptFin (prsOf ds)))) (intsOf []) (intsOf []))) (List.length (btw (prsOf (cpD (ptFin (prsOf ds)))) (intsOf []) (intsOf []))) ∧ List.length (btw (prsOf (cpD (ptFin (prsOf ds)))) (intsOf []) (intsOf [])) =
 List.length (btw (prsOf (cpD (ptFin (prsOf ds)))) (intsOf []) (intsOf []))]) (m2 ≤ List.length k2) (List.take m2 k2 = List.map (Value.int IntKind.u8) (intsOf (List.take m2 k2))) (capBig + 80 = capBig + 80 ∧ List.length
 (cpD (ptFin (prsOf ds))) = List.length (ptFin (prsOf ds)) * 3 ∧ 0 < 3) ((∀ (τ : Sg), renL τ k1 = some k1) ∧ (PtA.m1 (PtA.mk n c c1 m1 c2 m2 c3 m3 ds k1 k2 k3) = 0 → k1 = [])) ((∀ (τ : Sg), renL τ k2 = some k2) ∧ (PtA.m2
 (PtA.mk n c c1 m1 c2 m2 c3 m3 ds k1 k2 k3) = 0 → k2 = [])) ((∀ (τ : Sg), renL τ k3 = some k3) ∧ (PtA.m3 (PtA.mk n c c1 m1 c2 m2 c3 m3 ds k1 k2 k3) = 0 → k3 = [])) (TbK (cpD (ptFin (prsOf ds))) (List.length (ptFin (prsOf
 ds))) ∧ BytI 0 [] ∧ BytI 0 [] ∧ List.isEmpty (btw (prsOf (cpD (ptFin (prsOf ds)))) (intsOf []) (intsOf [])) = false) (List.length (btw (prsOf (cpD (ptFin (prsOf (PtA.ds (PtA.mk n c c1 m1 c2 m2 c3 m3 ds k1 k2 k3))))))
 (intsOf []) (intsOf [])) = 0 → cpD (btw (prsOf (cpD (ptFin (prsOf ds)))) (intsOf []) (intsOf [])) = []))) := by kernel_rfl
theorem pf_ff (n c c1 m1 c2 m2 c3 m3 : Nat) (ds : List DV) (k1 k2 k3 : List Value) : prjV (runZ (pfV 46 46 (ptLo Try.prog) pfT) Try.prog 12 5 [.slice (some ⟨0, 0, none⟩) n c, .slice (some ⟨1, 0, none⟩) m1 c1, .slice (some ⟨2, 0, none⟩) m2 c2, .slice (some ⟨3, 0, none⟩) m3 c3] [(0, ⟨.sd ds, []⟩), (1, ⟨.old, k1⟩), (2, ⟨.old, k2⟩), (3, ⟨.old, k3⟩)] 4 [false, false, false, false, false, false, false, false, false, false, false, false, false]) =
  Res.ok (Value.bool true, [], ((fun (q0 q1 q2 q3 q4 q5 q6 q7 : Prop) => [n = 0 → ds = [], LpOk ds n ∧ (decide ((↑n : Int) > (100 : Int)) || List.any (prsOf ds) big) = false, decide ((↑m1 : Int) > (300 : Int)) = false,
 decide ((↑m2 : Int) > (300 : Int)) = false, decide ((↑m3 : Int) > (300 : Int)) = false, m1 ≤ List.length k1, List.take m1 k1 = List.map (Value.int IntKind.u8) (intsOf (List.take m1 k1)), q0, q1, (!(Op.bytesLess (List.map
 (fun n => UInt8.ofNat (Int.toNat n)) (intsOf (List.take m1 k1))) (List.map (fun n => UInt8.ofNat (Int.toNat n)) (intsOf (List.take m2 k2))) || strEq (strOfI (intsOf (List.take m1 k1))) (strOfI (intsOf (List.take m2
 k2))))) = false, q0, q1, m3 ≤ List.length k3, List.take m3 k3 = List.map (Value.int IntKind.u8) (intsOf (List.take m3 k3)), (!(Op.bytesLess (List.map (fun n => UInt8.ofNat (Int.toNat n)) (intsOf (List.take m2 k2)))
 (List.map (fun n => UInt8.ofNat (Int.toNat n)) (intsOf (List.take m3 k3))) || strEq (strOfI (intsOf (List.take m2 k2))) (strOfI (intsOf (List.take m3 k3))))) = false, ((↑m2 : Int) == (0 : Int)) = false, bodyIn Try.prog (5
 : FuncId) 6 = bodyIn Try.prog (5 : FuncId) 6, [(0, Value.slice (some (Addr.mk 0 0 none)) n c), (1, Value.slice (some (Addr.mk 1 0 none)) m1 c1), (2, Value.slice (some (Addr.mk 2 0 none)) m2 c2), (3, Value.slice (some
 (Addr.mk 3 0 none)) m3 c3), (9, Value.bool true), (10, Value.pointer (some (Addr.mk 4 0 none))), (11, Value.int IntKind.i64 (0 : Int))] = ptS n c c1 m1 c2 m2 c3 m3 0, (4, Rw.mk Kd.shut [Value.bool true, Value.slice none 0
 0]) :: rowsN 4 [] (rowsN 4 [] [(0, Rw.mk (Kd.sd ds) []), (1, Rw.mk Kd.old k1), (2, Rw.mk Kd.old k2), (3, Rw.mk Kd.old k3)]) = ptN ds k1 k2 k3, 5 = 5, PtSt ds n c c1 m1 c2 m2 c3 m3 k1 k2 k3 false, q2, q3, q4, TbK (cpD
 (ptFin (prsOf ds))) (List.length (ptFin (prsOf ds))) ∧ BytI m1 k1 ∧ BytI m2 k2 ∧ List.isEmpty (btw (prsOf (cpD (ptFin (prsOf ds)))) (intsOf k1) (intsOf k2)) = false, q2, q4, q5, TbK (cpD (ptFin (prsOf ds))) (List.length
 (ptFin (prsOf ds))) ∧ BytI m2 k2 ∧ BytI m3 k3 ∧ List.isEmpty (btw (prsOf (cpD (ptFin (prsOf ds)))) (intsOf k2) (intsOf k3)) = false, q2, q3, q5, TbK (cpD (ptFin (prsOf ds))) (List.length (ptFin (prsOf ds))) ∧ BytI m1 k1 ∧
 BytI m3 k3 ∧ List.isEmpty (btw (prsOf (cpD (ptFin (prsOf ds)))) (intsOf k1) (intsOf k3)) = false, 0 < List.length (btw (prsOf (cpD (ptFin (prsOf ds)))) (intsOf k1) (intsOf k2)) ∧ List.length (btw (prsOf (cpD (ptFin (prsOf
 ds)))) (intsOf k1) (intsOf k2)) * 56 ≤ 140737488355328 ∧ List.length (btw (prsOf (cpD (ptFin (prsOf ds)))) (intsOf k1) (intsOf k2)) ≤ 9223372036854775807, 0 + List.length (btw (prsOf (cpD (ptFin (prsOf ds)))) (intsOf k1)
 (intsOf k2)) * 3 ≤ List.length (cpD (btw (prsOf (cpD (ptFin (prsOf ds)))) (intsOf k1) (intsOf k2))), DVones (List.take (List.length (btw (prsOf (cpD (ptFin (prsOf ds)))) (intsOf k1) (intsOf k2)) * 3) (List.drop 0 (cpD
 (btw (prsOf (cpD (ptFin (prsOf ds)))) (intsOf k1) (intsOf k2))))), capBig + 205 = capBig + 205 ∧ List.length (List.take (List.length (btw (prsOf (cpD (ptFin (prsOf ds)))) (intsOf k1) (intsOf k2)) * 3) (List.drop 0 (cpD
 (btw (prsOf (cpD (ptFin (prsOf ds)))) (intsOf k1) (intsOf k2))))) = List.length (btw (prsOf (cpD (ptFin (prsOf ds)))) (intsOf k1) (intsOf k2)) * 3, (List.length (btw (prsOf (cpD (ptFin (prsOf ds)))) (intsOf k1) (intsOf
 k2)) + List.length (btw (prsOf (cpD (ptFin (prsOf ds)))) (intsOf k2) (intsOf k3))) * 56 ≤ 140737488355328 ∧ List.length (btw (prsOf (cpD (ptFin (prsOf ds)))) (intsOf k1) (intsOf k2)) + List.length (btw (prsOf (cpD (ptFin
 (prsOf ds)))) (intsOf k2) (intsOf k3)) ≤ 9223372036854775807, 0 + List.length (btw (prsOf (cpD (ptFin (prsOf ds)))) (intsOf k2) (intsOf k3)) * 3 ≤ List.length (cpD (btw (prsOf (cpD (ptFin (prsOf ds)))) (intsOf k2) (intsOf
 k3))), DVones (List.take (List.length (btw (prsOf (cpD (ptFin (prsOf ds)))) (intsOf k2) (intsOf k3)) * 3) (List.drop 0 (cpD (btw (prsOf (cpD (ptFin (prsOf ds)))) (intsOf k2) (intsOf k3))))), List.length (btw (prsOf (cpD
 (ptFin (prsOf (PtA.ds (PtA.mk n c c1 m1 c2 m2 c3 m3 ds k1 k2 k3)))))) (intsOf (Rw.cs (Rw.mk Kd.old (PtA.k1 (PtA.mk n c c1 m1 c2 m2 c3 m3 ds k1 k2 k3))))) (intsOf (Rw.cs (Rw.mk Kd.old (PtA.k2 (PtA.mk n c c1 m1 c2 m2 c3 m3
 ds k1 k2 k3)))))) + List.length (btw (prsOf (cpD (ptFin (prsOf (PtA.ds (PtA.mk n c c1 m1 c2 m2 c3 m3 ds k1 k2 k3)))))) (intsOf (Rw.cs (Rw.mk Kd.old (PtA.k2 (PtA.mk n c c1 m1 c2 m2 c3 m3 ds k1 k2 k3))))) (intsOf (Rw.cs
 (Rw.mk Kd.old (PtA.k3 (PtA.mk n c c1 m1 c2 m2 c3 m3 ds k1 k2 k3)))))) = 0 → List.take (List.length (btw (prsOf (cpD (ptFin (prsOf ds)))) (intsOf k1) (intsOf k2)) * 3) (List.drop 0 (cpD (btw (prsOf (cpD (ptFin (prsOf
 ds)))) (intsOf k1) (intsOf k2)))) ++ List.take (List.length (btw (prsOf (cpD (ptFin (prsOf ds)))) (intsOf k2) (intsOf k3)) * 3) (List.drop 0 (cpD (btw (prsOf (cpD (ptFin (prsOf ds)))) (intsOf k2) (intsOf k3)))) = [],
 List.length (btw (prsOf (cpD (ptFin (prsOf (PtA.ds (PtA.mk n c c1 m1 c2 m2 c3 m3 ds k1 k2 k3)))))) (intsOf (Rw.cs (Rw.mk Kd.old (PtA.k1 (PtA.mk n c c1 m1 c2 m2 c3 m3 ds k1 k2 k3))))) (intsOf (Rw.cs (Rw.mk Kd.old (PtA.k3
 (PtA.mk n c c1 m1 c2 m2 c3 m3 ds k1 k2 k3)))))) = 0 → cpD (btw (prsOf (cpD (ptFin (prsOf ds)))) (intsOf k1) (intsOf k3)) = [], SpOk (List.take (List.length (btw (prsOf (cpD (ptFin (prsOf ds)))) (intsOf k1) (intsOf k2)) *
 3) (List.drop 0 (cpD (btw (prsOf (cpD (ptFin (prsOf ds)))) (intsOf k1) (intsOf k2)))) ++ List.take (List.length (btw (prsOf (cpD (ptFin (prsOf ds)))) (intsOf k2) (intsOf k3)) * 3) (List.drop 0 (cpD (btw (prsOf (cpD (ptFin
 (prsOf ds)))) (intsOf k2) (intsOf k3))))) (cpD (btw (prsOf (cpD (ptFin (prsOf ds)))) (intsOf k1) (intsOf k3))) (List.length (btw (prsOf (cpD (ptFin (prsOf ds)))) (intsOf k1) (intsOf k2)) + List.length (btw (prsOf (cpD
 (ptFin (prsOf ds)))) (intsOf k2) (intsOf k3))) ∧ List.length (btw (prsOf (cpD (ptFin (prsOf ds)))) (intsOf k1) (intsOf k3)) = List.length (btw (prsOf (cpD (ptFin (prsOf ds)))) (intsOf k1) (intsOf k2)) + List.length (btw
 (prsOf (cpD (ptFin (prsOf ds)))) (intsOf k2) (intsOf k3)), q2, q6, q2, q6, q7, q7, SpOk (cpD (btw (prsOf (cpD (ptFin (prsOf ds)))) (intsOf []) (intsOf []))) (cpD (btw (prsOf (cpD (ptFin (prsOf ds)))) (intsOf []) (intsOf
 []))) (List.length (btw (prsOf (cpD (ptFin (prsOf ds)))) (intsOf []) (intsOf []))) ∧ List.length (btw (prsOf (cpD (ptFin (prsOf ds)))) (intsOf []) (intsOf [])) = List.length (btw (prsOf (cpD (ptFin (prsOf ds)))) (intsOf
 []) (intsOf []))]) (m2 ≤ List.length k2) (List.take m2 k2 = List.map (Value.int IntKind.u8) (intsOf (List.take m2 k2))) (capBig + 80 = capBig + 80 ∧ List.length (cpD (ptFin (prsOf ds))) = List.length (ptFin (prsOf ds)) *
 3 ∧ 0 < 3) ((∀ (τ : Sg), renL τ k1 = some k1) ∧ (PtA.m1 (PtA.mk n c c1 m1 c2 m2 c3 m3 ds k1 k2 k3) = 0 → k1 = [])) ((∀ (τ : Sg), renL τ k2 = some k2) ∧ (PtA.m2 (PtA.mk n c c1 m1 c2 m2 c3 m3 ds k1 k2 k3) = 0 → k2 = []))
 ((∀ (τ : Sg), renL τ k3 = some k3) ∧ (PtA.m3 (PtA.mk n c c1 m1 c2 m2 c3 m3 ds k1 k2 k3) = 0 → k3 = [])) (TbK (cpD (ptFin (prsOf ds))) (List.length (ptFin (prsOf ds))) ∧ BytI 0 [] ∧ BytI 0 [] ∧ List.isEmpty (btw (prsOf
 (cpD (ptFin (prsOf ds)))) (intsOf []) (intsOf [])) = false) (List.length (btw (prsOf (cpD (ptFin (prsOf (PtA.ds (PtA.mk n c c1 m1 c2 m2 c3 m3 ds k1 k2 k3)))))) (intsOf []) (intsOf [])) = 0 → cpD (btw (prsOf (cpD (ptFin
 (prsOf ds)))) (intsOf []) (intsOf [])) = []))) := by kernel_rfl
end Go.Proofs.Ytojakfnljopjbaa
