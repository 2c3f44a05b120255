/-
  Chapter 12: the statement MemtableMap: its loops as they begin; the law's runs.
-/
import Derived.Test.YtojakfnljopjbaaMapD
namespace Go.Proofs.Ytojakfnljopjbaa
set_option linter.unusedSimpArgs false
set_option linter.unusedVariables false
set_option linter.unusedSectionVars false
open Go Go.RowKit
def mpFin (ps : List Pr) : MSt := ps.foldl stP ([], [])
structure MpSt (ds : List DV) (n c c1 m1 : Nat) (k1 : List Value) (b : Bool) : Prop where
  B : MpOk ds (prsOf ds) n c c1 m1 k1
  e : (mpFin (prsOf ds)).1.isEmpty = b
structure MpA where
  n : Nat
  c : Nat
  m1 : Nat
  c1 : Nat
  ds : List DV
  k1 : List Value
def mpPk (live : List (Nat × Value)) (h : Hp) : Option MpA := match live, lk h 0, lk h 1 with
  | (_, .slice _ n c) :: (_, .slice _ m1 c1) :: _, some ⟨.sd ds, _⟩, some ⟨_, k1⟩ => some ⟨n, c, m1, c1, ds, k1⟩
  | _, _, _ => none
def mpOE (c1 m1 x : Nat) (b : Bool) : List (Nat × Value) := [(1, .slice (some ⟨1, 0, none⟩) m1 c1), (5, .bool true), (6, .pointer (some ⟨2, 0, none⟩)), (7, bif b then .slice none 0 0 else laV x)]
def mpOut (s : MSt) (ds : List DV) (k1 : List Value) (b : Bool) : Hp := bif b then mpN ds k1 else mpW s.1.length (cpD s.1) (cpD s.2) ds k1
def mpSp : LSpec := lspec mpPk (fun a => (mpS a.n a.c a.m1 a.c1 0 (.slice none 0 0), mpN a.ds a.k1, 3)) (fun a tp => match tp with
  | b :: tp' => some ((.exit 0, mpOE a.c1 a.m1 (mpFin (prsOf a.ds)).2.length b, mpOut (mpFin (prsOf a.ds)) a.ds a.k1 b, 200, [2]), tp', [MpSt a.ds a.n a.c a.c1 a.m1 a.k1 b])
  | [] => none)
/-- The last one laid under a key. -/
def lsQ (ls : List Pr) (k : List Int) : Pr := (lastL ls k).getD ([], [], false)
structure MqSt (es ls ds : List DV) (k x m1 c1 : Nat) (k1 : List Value) (b : Bool) : Prop where
  B : ∃ ps n c, MpOk ds ps n c c1 m1 k1
  M : Mi (prsOf es, prsOf ls)
  e1 : cpD (prsOf es) = es
  e2 : cpD (prsOf ls) = ls
  fk : (prsOf es).length = k
  fx : (prsOf ls).length = x
  fm : x ≤ 100
  fb : (lastL (prsOf ls) (intsOf k1)).isSome = b
structure MqA where
  z : Bool
  m1 : Nat
  c1 : Nat
  k : Nat
  x : Nat
  es : List DV
  ls : List DV
  ds : List DV
  k1 : List Value
def mqPk (live : List (Nat × Value)) (h : Hp) : Option MqA := match live, lk h 0, lk h 1 with
  | (_, .slice _ m1 c1) :: _ :: _ :: (_, .slice none _ _) :: _, some ⟨.sd ds, _⟩, some ⟨_, k1⟩ => some ⟨true, m1, c1, 0, 0, [], [], ds, k1⟩
  | (_, .slice _ m1 c1) :: _ :: _ :: (_, .slice (some _) x _) :: _, some ⟨.sd ds, _⟩, some ⟨_, k1⟩ => (match lk h 80, lk h 81, lk h 2 with
    | some ⟨.dp _ _ es, _⟩, some ⟨.dp _ _ ls, _⟩, some ⟨_, [_, .slice _ k _]⟩ => some ⟨false, m1, c1, k, x, es, ls, ds, k1⟩
    | _, _, _ => none)
  | _, _, _ => none
def mzN (ds : List DV) (k1 : List Value) : Hp := (200, ⟨.shut, zPr⟩) :: mpN ds k1
def mzE (m1 c1 : Nat) : List (Nat × Value) := [(1, .slice (some ⟨1, 0, none⟩) m1 c1), (5, .bool true), (6, .pointer (some ⟨2, 0, none⟩)), (7, .slice none 0 0), (11, .pointer (some ⟨200, 0, none⟩)), (12, .bool false)]
def mqIn (a : MqA) : List (Nat × Value) × Hp × Nat := bif a.z then (mzE a.m1 a.c1 ++ [(13, iV 0)], mzN a.ds a.k1, 201) else (mqS a.m1 a.c1 0 a.x false, mqN a.k a.es a.ls a.ds a.k1, 201)
def mqSp : LSpec := lspec mqPk mqIn (fun a tp => bif a.z then some ((.exit 2, mzE a.m1 a.c1, mzN a.ds a.k1, 400, []), tp, [BytI a.m1 a.k1 ∧ a.c1 ≤ 9223372036854775807]) else (match tp with
  | b :: tp' => some ((.exit 2, mqE a.m1 a.c1 a.x b, bif b then mqY (lsQ (prsOf a.ls) (intsOf a.k1)) a.k a.es a.ls a.ds a.k1 else mqN a.k a.es a.ls a.ds a.k1, 400, [200]), tp', [MqSt a.es a.ls a.ds a.k a.x a.m1 a.c1 a.k1 b])
  | [] => none))
def mpLo (P : Program) : LFun := orL (mkL 8 7 128 [0, 1, 5, 6, 7, 8] (bodyIn P 8 7) mpSp) (mkL 8 19 128 [1, 5, 6, 7, 11, 12, 13] (bodyIn P 8 19) mqSp)
theorem mz_end (inr : Bool) (m1 c1 : Nat) (ds : List DV) (k1 : List Value) : prjP [1, 5, 6, 7, 11, 12] 300 (codeZ (mqV noL getT) Try.prog (runZ (mqV noL getT) Try.prog 12) 8 inr 100000 (bodyIn Try.prog 8 19) (SL 128 (mzE m1 c1 ++ [(13, iV 0)])) (mzN ds k1) 300 [false]) =
  Res.ok ((Xt.exit 2, 128, [(1, Value.slice (some (Addr.mk 1 0 none)) m1 c1), (5, Value.bool true), (6, Value.pointer (some (Addr.mk 2 0 none))), (7, Value.slice none 0 0), (11, Value.pointer (some (Addr.mk 200 0 none))),
 (12, Value.bool false)], [(200, Rw.mk Kd.shut [Value.slice none 0 0, Value.slice none 0 0, Value.bool false]), (2, Rw.mk Kd.shut [Value.bool true, Value.slice none 0 0]), (0, Rw.mk (Kd.sd ds) []), (1, Rw.mk Kd.old k1)],
 300, [], []), [], [false = false]) := by kernel_rfl
def mfTab : FuncId → List Nat := fun f => bif Nat.beq f 8 then [25, 119, 126] else bif Nat.beq f 31 then [9] else bif Nat.beq f 20 then [22] else []
def mfSy : FuncId → Nat → Option Nat := orSy (lsSy 8 []) (lsSy 31 [(6, 0), (8, 0), (9, 0)])
def mfV (L : LFun) (T : TFun) : Tv := ⟨T, cmpY, L, mfTab, mfSy, fun _ => [], fun _ => 0⟩
def mfT : TFun := orTz (mkT 4 [] gTrueY) (orTz btwT (orTz getT pxTs))
theorem mf_e1 (n c m1 c1 : Nat) (ds : List DV) (k1 : List Value) : prjV (runZ (mfV noL mfT) Try.prog 12 8 [.slice (some ⟨0, 0, none⟩) n c, .slice (some ⟨1, 0, none⟩) m1 c1] [(0, ⟨.sd ds, []⟩), (1, ⟨.old, k1⟩)] 2 [true]) =
  Res.ok (Value.bool true, [], [n = 0 → ds = [], LpOk ds n ∧ (decide ((↑n : Int) > (100 : Int)) || List.any (prsOf ds) big) = true]) := by kernel_rfl
theorem mf_e2 (n c m1 c1 : Nat) (ds : List DV) (k1 : List Value) : prjV (runZ (mfV noL mfT) Try.prog 12 8 [.slice (some ⟨0, 0, none⟩) n c, .slice (some ⟨1, 0, none⟩) m1 c1] [(0, ⟨.sd ds, []⟩), (1, ⟨.old, k1⟩)] 2 [false, true]) =
  Res.ok (Value.bool true, [], [n = 0 → ds = [], LpOk ds n ∧ (decide ((↑n : Int) > (100 : Int)) || List.any (prsOf ds) big) = false, decide ((↑m1 : Int) > (300 : Int)) = true]) := by kernel_rfl
theorem mf_n (n c m1 c1 : Nat) (ds : List DV) (k1 : List Value) : prjV (runZ (mfV (mpLo Try.prog) mfT) Try.prog 12 8 [.slice (some ⟨0, 0, none⟩) n c, .slice (some ⟨1, 0, none⟩) m1 c1] [(0, ⟨.sd ds, []⟩), (1, ⟨.old, k1⟩)] 2 [false, false, true, false, true, true, true]) =
  Res.ok (Value.bool true, [], [n = 0 → ds = [], LpOk ds n ∧ (decide ((↑n : Int) > (100 : Int)) || List.any (prsOf ds) big) = false, decide ((↑m1 : Int) > (300 : Int)) = false, bodyIn Try.prog (8 : FuncId) 7 = bodyIn
 Try.prog (8 : FuncId) 7, [(0, Value.slice (some (Addr.mk 0 0 none)) n c), (1, Value.slice (some (Addr.mk 1 0 none)) m1 c1), (5, Value.bool true), (6, Value.pointer (some (Addr.mk 2 0 none))), (7, Value.slice none 0 0),
 (8, Value.int IntKind.i64 (0 : Int))] = mpS n c m1 c1 0 (Value.slice none 0 0), (2, Rw.mk Kd.shut [Value.bool true, Value.slice none 0 0]) :: rowsN 2 [] (rowsN 2 [] [(0, Rw.mk (Kd.sd ds) []), (1, Rw.mk Kd.old k1)]) = mpN
 ds k1, 3 = 3, MpSt ds n c c1 m1 k1 true, bodyIn Try.prog (8 : FuncId) 19 = bodyIn Try.prog (8 : FuncId) 19, [(1, Value.slice (some (Addr.mk 1 0 none)) m1 c1), (5, Value.bool true), (6, Value.pointer (some (Addr.mk 2 0
 none))), (7, Value.slice none 0 0), (11, Value.pointer (some (Addr.mk 200 0 none))), (12, Value.bool false), (13, Value.int IntKind.i64 (0 : Int))] = mzE m1 c1 ++ [(13, Value.int IntKind.i64 (0 : Int))], [(200, Rw.mk
 Kd.shut [Value.slice none 0 0, Value.slice none 0 0, Value.bool false]), (2, Rw.mk Kd.shut [Value.bool true, Value.slice none 0 0]), (0, Rw.mk (Kd.sd ds) []), (1, Rw.mk Kd.old k1)] = mzN ds k1, 201 = 201, BytI m1 k1 ∧ c1
 ≤ 9223372036854775807, (∀ (τ : Sg), renL τ k1 = some k1) ∧ (MqA.m1 (MqA.mk true (MpA.m1 (MpA.mk n c m1 c1 ds k1)) (MpA.c1 (MpA.mk n c m1 c1 ds k1)) 0 0 [] [] (MpA.ds (MpA.mk n c m1 c1 ds k1)) (MpA.k1 (MpA.mk n c m1 c1 ds
 k1))) = 0 → k1 = []), TbK [] 0 ∧ BytI m1 k1 ∧ false = false, TbK [] 0 ∧ BytI 0 [] ∧ BytI 0 [] ∧ true = true, TbOk [] 0, true = true, true = true]) := by kernel_rfl
theorem mf_f (n c m1 c1 : Nat) (ds : List DV) (k1 : List Value) : prjV (runZ (mfV (mpLo Try.prog) mfT) Try.prog 12 8 [.slice (some ⟨0, 0, none⟩) n c, .slice (some ⟨1, 0, none⟩) m1 c1] [(0, ⟨.sd ds, []⟩), (1, ⟨.old, k1⟩)] 2 [false, false, false, false, false, false, true, true]) =
  Res.ok (Value.bool true, [], [n = 0 → ds = [], LpOk ds n ∧ (decide ((↑n : Int) > (100 : Int)) || List.any (prsOf ds) big) = false, decide ((↑m1 : Int) > (300 : Int)) = false, bodyIn Try.prog (8 : FuncId) 7 = bodyIn
 Try.prog (8 : FuncId) 7, [(0, Value.slice (some (Addr.mk 0 0 none)) n c), (1, Value.slice (some (Addr.mk 1 0 none)) m1 c1), (5, Value.bool true), (6, Value.pointer (some (Addr.mk 2 0 none))), (7, Value.slice none 0 0),
 (8, Value.int IntKind.i64 (0 : Int))] = mpS n c m1 c1 0 (Value.slice none 0 0), (2, Rw.mk Kd.shut [Value.bool true, Value.slice none 0 0]) :: rowsN 2 [] (rowsN 2 [] [(0, Rw.mk (Kd.sd ds) []), (1, Rw.mk Kd.old k1)]) = mpN
 ds k1, 3 = 3, MpSt ds n c c1 m1 k1 false, bodyIn Try.prog (8 : FuncId) 19 = bodyIn Try.prog (8 : FuncId) 19, [(1, Value.slice (some (Addr.mk 1 0 none)) m1 c1), (5, Value.bool true), (6, Value.pointer (some (Addr.mk 2 0
 none))), (7, Value.slice (some (Addr.mk 81 0 none)) (List.length (Prod.snd (mpFin (prsOf ds)))) (capBig + 81)), (11, Value.pointer (some (Addr.mk 200 0 none))), (12, Value.bool false), (13, Value.int IntKind.i64 (0 :
 Int))] = mqS m1 c1 0 (List.length (Prod.snd (mpFin (prsOf ds)))) false, [(200, Rw.mk Kd.shut [Value.slice none 0 0, Value.slice none 0 0, Value.bool false]), (80, Rw.mk (Kd.dp 3 [Value.slice none 0 0, Value.slice none 0
 0, Value.bool false] (cpD (Prod.fst (mpFin (prsOf ds))))) []), (81, Rw.mk (Kd.dp 3 [Value.slice none 0 0, Value.slice none 0 0, Value.bool false] (cpD (Prod.snd (mpFin (prsOf ds))))) []), (2, Rw.mk Kd.shut [Value.bool
 true, Value.slice (some (Addr.mk 80 0 none)) (List.length (Prod.fst (mpFin (prsOf ds)))) (capBig + 80)]), (0, Rw.mk (Kd.sd ds) []), (1, Rw.mk Kd.old k1)] = mqN (List.length (Prod.fst (mpFin (prsOf ds)))) (cpD (Prod.fst
 (mpFin (prsOf ds)))) (cpD (Prod.snd (mpFin (prsOf ds)))) ds k1, 201 = 201, MqSt (cpD (Prod.fst (mpFin (prsOf ds)))) (cpD (Prod.snd (mpFin (prsOf ds)))) ds (List.length (Prod.fst (mpFin (prsOf ds)))) (List.length (Prod.snd
 (mpFin (prsOf ds)))) m1 c1 k1 false, capBig + 80 = capBig + 80 ∧ List.length (cpD (Prod.fst (mpFin (prsOf ds)))) = List.length (Prod.fst (mpFin (prsOf ds))) * 3 ∧ 0 < 3, (∀ (τ : Sg), renL τ k1 = some k1) ∧ (MqA.m1 (MqA.mk
 false (MpA.m1 (MpA.mk n c m1 c1 ds k1)) (MpA.c1 (MpA.mk n c m1 c1 ds k1)) (List.length (Prod.fst (mpFin (prsOf (MpA.ds (MpA.mk n c m1 c1 ds k1)))))) (List.length (Prod.snd (mpFin (prsOf (MpA.ds (MpA.mk n c m1 c1 ds
 k1)))))) (cpD (Prod.fst (mpFin (prsOf (MpA.ds (MpA.mk n c m1 c1 ds k1)))))) (cpD (Prod.snd (mpFin (prsOf (MpA.ds (MpA.mk n c m1 c1 ds k1)))))) (MpA.ds (MpA.mk n c m1 c1 ds k1)) (MpA.k1 (MpA.mk n c m1 c1 ds k1))) = 0 → k1
 = []), TbK (cpD (Prod.fst (mpFin (prsOf ds)))) (List.length (Prod.fst (mpFin (prsOf ds)))) ∧ BytI m1 k1 ∧ hitP (prsOf (cpD (Prod.fst (mpFin (prsOf ds))))) (intsOf k1) = false, capBig + 80 = capBig + 80 ∧ List.length (cpD
 (Prod.fst (mpFin (prsOf ds)))) = List.length (Prod.fst (mpFin (prsOf ds))) * 3 ∧ 0 < 3, TbK (cpD (Prod.fst (mpFin (prsOf ds)))) (List.length (Prod.fst (mpFin (prsOf ds)))) ∧ BytI 0 [] ∧ BytI 0 [] ∧ List.isEmpty (btw
 (prsOf (cpD (Prod.fst (mpFin (prsOf ds))))) (intsOf []) (intsOf [])) = false, List.length (btw (prsOf (MqA.es (MqA.mk false (MpA.m1 (MpA.mk n c m1 c1 ds k1)) (MpA.c1 (MpA.mk n c m1 c1 ds k1)) (List.length (Prod.fst (mpFin
 (prsOf (MpA.ds (MpA.mk n c m1 c1 ds k1)))))) (List.length (Prod.snd (mpFin (prsOf (MpA.ds (MpA.mk n c m1 c1 ds k1)))))) (cpD (Prod.fst (mpFin (prsOf (MpA.ds (MpA.mk n c m1 c1 ds k1)))))) (cpD (Prod.snd (mpFin (prsOf
 (MpA.ds (MpA.mk n c m1 c1 ds k1)))))) (MpA.ds (MpA.mk n c m1 c1 ds k1)) (MpA.k1 (MpA.mk n c m1 c1 ds k1))))) (intsOf []) (intsOf [])) = 0 → cpD (btw (prsOf (cpD (Prod.fst (mpFin (prsOf ds))))) (intsOf []) (intsOf [])) =
 [], TbOk (cpD (btw (prsOf (cpD (Prod.fst (mpFin (prsOf ds))))) (intsOf []) (intsOf []))) (List.length (btw (prsOf (cpD (Prod.fst (mpFin (prsOf ds))))) (intsOf []) (intsOf []))), ((↑(List.length (btw (prsOf (cpD (Prod.fst
 (mpFin (prsOf ds))))) (intsOf []) (intsOf []))) : Int) == (↑(List.length (Prod.fst (mpFin (prsOf ds)))) : Int)) = true, decide ((↑(List.length (btw (prsOf (cpD (Prod.fst (mpFin (prsOf ds))))) (intsOf []) (intsOf []))) :
 Int) ≤ (↑(List.length (Prod.snd (mpFin (prsOf ds)))) : Int)) = true]) := by kernel_rfl
theorem mf_t (n c m1 c1 : Nat) (ds : List DV) (k1 : List Value) : prjV (runZ (mfV (mpLo Try.prog) mfT) Try.prog 12 8 [.slice (some ⟨0, 0, none⟩) n c, .slice (some ⟨1, 0, none⟩) m1 c1] [(0, ⟨.sd ds, []⟩), (1, ⟨.old, k1⟩)] 2 [false, false, false, true, true, true, true, true, false, true, true]) =
  Res.ok (Value.bool true, [], [n = 0 → ds = [], LpOk ds n ∧ (decide ((↑n : Int) > (100 : Int)) || List.any (prsOf ds) big) = false, decide ((↑m1 : Int) > (300 : Int)) = false, bodyIn Try.prog (8 : FuncId) 7 = bodyIn
 Try.prog (8 : FuncId) 7, [(0, Value.slice (some (Addr.mk 0 0 none)) n c), (1, Value.slice (some (Addr.mk 1 0 none)) m1 c1), (5, Value.bool true), (6, Value.pointer (some (Addr.mk 2 0 none))), (7, Value.slice none 0 0),
 (8, Value.int IntKind.i64 (0 : Int))] = mpS n c m1 c1 0 (Value.slice none 0 0), (2, Rw.mk Kd.shut [Value.bool true, Value.slice none 0 0]) :: rowsN 2 [] (rowsN 2 [] [(0, Rw.mk (Kd.sd ds) []), (1, Rw.mk Kd.old k1)]) = mpN
 ds k1, 3 = 3, MpSt ds n c c1 m1 k1 false, bodyIn Try.prog (8 : FuncId) 19 = bodyIn Try.prog (8 : FuncId) 19, [(1, Value.slice (some (Addr.mk 1 0 none)) m1 c1), (5, Value.bool true), (6, Value.pointer (some (Addr.mk 2 0
 none))), (7, Value.slice (some (Addr.mk 81 0 none)) (List.length (Prod.snd (mpFin (prsOf ds)))) (capBig + 81)), (11, Value.pointer (some (Addr.mk 200 0 none))), (12, Value.bool false), (13, Value.int IntKind.i64 (0 :
 Int))] = mqS m1 c1 0 (List.length (Prod.snd (mpFin (prsOf ds)))) false, [(200, Rw.mk Kd.shut [Value.slice none 0 0, Value.slice none 0 0, Value.bool false]), (80, Rw.mk (Kd.dp 3 [Value.slice none 0 0, Value.slice none 0
 0, Value.bool false] (cpD (Prod.fst (mpFin (prsOf ds))))) []), (81, Rw.mk (Kd.dp 3 [Value.slice none 0 0, Value.slice none 0 0, Value.bool false] (cpD (Prod.snd (mpFin (prsOf ds))))) []), (2, Rw.mk Kd.shut [Value.bool
 true, Value.slice (some (Addr.mk 80 0 none)) (List.length (Prod.fst (mpFin (prsOf ds)))) (capBig + 80)]), (0, Rw.mk (Kd.sd ds) []), (1, Rw.mk Kd.old k1)] = mqN (List.length (Prod.fst (mpFin (prsOf ds)))) (cpD (Prod.fst
 (mpFin (prsOf ds)))) (cpD (Prod.snd (mpFin (prsOf ds)))) ds k1, 201 = 201, MqSt (cpD (Prod.fst (mpFin (prsOf ds)))) (cpD (Prod.snd (mpFin (prsOf ds)))) ds (List.length (Prod.fst (mpFin (prsOf ds)))) (List.length (Prod.snd
 (mpFin (prsOf ds)))) m1 c1 k1 true, capBig + 80 = capBig + 80 ∧ List.length (cpD (Prod.fst (mpFin (prsOf ds)))) = List.length (Prod.fst (mpFin (prsOf ds))) * 3 ∧ 0 < 3, (∀ (τ : Sg), renL τ k1 = some k1) ∧ (MqA.m1 (MqA.mk
 false (MpA.m1 (MpA.mk n c m1 c1 ds k1)) (MpA.c1 (MpA.mk n c m1 c1 ds k1)) (List.length (Prod.fst (mpFin (prsOf (MpA.ds (MpA.mk n c m1 c1 ds k1)))))) (List.length (Prod.snd (mpFin (prsOf (MpA.ds (MpA.mk n c m1 c1 ds
 k1)))))) (cpD (Prod.fst (mpFin (prsOf (MpA.ds (MpA.mk n c m1 c1 ds k1)))))) (cpD (Prod.snd (mpFin (prsOf (MpA.ds (MpA.mk n c m1 c1 ds k1)))))) (MpA.ds (MpA.mk n c m1 c1 ds k1)) (MpA.k1 (MpA.mk n c m1 c1 ds k1))) = 0 → k1
 = []), TbK (cpD (Prod.fst (mpFin (prsOf ds)))) (List.length (Prod.fst (mpFin (prsOf ds)))) ∧ BytI m1 k1 ∧ hitP (prsOf (cpD (Prod.fst (mpFin (prsOf ds))))) (intsOf k1) = true, List.length (Prod.fst (atP (prsOf (cpD
 (Prod.fst (mpFin (prsOf ds))))) (intsOf k1))) ≤ List.length (byV (Prod.fst (atP (prsOf (cpD (Prod.fst (mpFin (prsOf ds))))) (intsOf k1)))), List.take (List.length (Prod.fst (atP (prsOf (cpD (Prod.fst (mpFin (prsOf ds)))))
 (intsOf k1)))) (byV (Prod.fst (atP (prsOf (cpD (Prod.fst (mpFin (prsOf ds))))) (intsOf k1)))) = List.map (Value.int IntKind.u8) (intsOf (List.take (List.length (Prod.fst (atP (prsOf (cpD (Prod.fst (mpFin (prsOf ds)))))
 (intsOf k1)))) (byV (Prod.fst (atP (prsOf (cpD (Prod.fst (mpFin (prsOf ds))))) (intsOf k1)))))), List.length (Prod.fst (lsQ (prsOf (cpD (Prod.snd (mpFin (prsOf ds))))) (intsOf k1))) ≤ List.length (byV (Prod.fst (lsQ
 (prsOf (cpD (Prod.snd (mpFin (prsOf ds))))) (intsOf k1)))), List.take (List.length (Prod.fst (lsQ (prsOf (cpD (Prod.snd (mpFin (prsOf ds))))) (intsOf k1)))) (byV (Prod.fst (lsQ (prsOf (cpD (Prod.snd (mpFin (prsOf ds)))))
 (intsOf k1)))) = List.map (Value.int IntKind.u8) (intsOf (List.take (List.length (Prod.fst (lsQ (prsOf (cpD (Prod.snd (mpFin (prsOf ds))))) (intsOf k1)))) (byV (Prod.fst (lsQ (prsOf (cpD (Prod.snd (mpFin (prsOf ds)))))
 (intsOf k1)))))), strEq (strOfI (intsOf (List.take (List.length (Prod.fst (atP (prsOf (cpD (Prod.fst (mpFin (prsOf ds))))) (intsOf k1)))) (byV (Prod.fst (atP (prsOf (cpD (Prod.fst (mpFin (prsOf ds))))) (intsOf k1)))))))
 (strOfI (intsOf (List.take (List.length (Prod.fst (lsQ (prsOf (cpD (Prod.snd (mpFin (prsOf ds))))) (intsOf k1)))) (byV (Prod.fst (lsQ (prsOf (cpD (Prod.snd (mpFin (prsOf ds))))) (intsOf k1))))))) = true, List.length
 (Prod.fst (Prod.snd (atP (prsOf (cpD (Prod.fst (mpFin (prsOf ds))))) (intsOf k1)))) ≤ List.length (byV (Prod.fst (Prod.snd (atP (prsOf (cpD (Prod.fst (mpFin (prsOf ds))))) (intsOf k1))))), List.take (List.length (Prod.fst
 (Prod.snd (atP (prsOf (cpD (Prod.fst (mpFin (prsOf ds))))) (intsOf k1))))) (byV (Prod.fst (Prod.snd (atP (prsOf (cpD (Prod.fst (mpFin (prsOf ds))))) (intsOf k1))))) = List.map (Value.int IntKind.u8) (intsOf (List.take
 (List.length (Prod.fst (Prod.snd (atP (prsOf (cpD (Prod.fst (mpFin (prsOf ds))))) (intsOf k1))))) (byV (Prod.fst (Prod.snd (atP (prsOf (cpD (Prod.fst (mpFin (prsOf ds))))) (intsOf k1))))))), List.length (Prod.fst
 (Prod.snd (lsQ (prsOf (cpD (Prod.snd (mpFin (prsOf ds))))) (intsOf k1)))) ≤ List.length (byV (Prod.fst (Prod.snd (lsQ (prsOf (cpD (Prod.snd (mpFin (prsOf ds))))) (intsOf k1))))), List.take (List.length (Prod.fst (Prod.snd
 (lsQ (prsOf (cpD (Prod.snd (mpFin (prsOf ds))))) (intsOf k1))))) (byV (Prod.fst (Prod.snd (lsQ (prsOf (cpD (Prod.snd (mpFin (prsOf ds))))) (intsOf k1))))) = List.map (Value.int IntKind.u8) (intsOf (List.take (List.length
 (Prod.fst (Prod.snd (lsQ (prsOf (cpD (Prod.snd (mpFin (prsOf ds))))) (intsOf k1))))) (byV (Prod.fst (Prod.snd (lsQ (prsOf (cpD (Prod.snd (mpFin (prsOf ds))))) (intsOf k1))))))), strEq (strOfI (intsOf (List.take
 (List.length (Prod.fst (Prod.snd (atP (prsOf (cpD (Prod.fst (mpFin (prsOf ds))))) (intsOf k1))))) (byV (Prod.fst (Prod.snd (atP (prsOf (cpD (Prod.fst (mpFin (prsOf ds))))) (intsOf k1)))))))) (strOfI (intsOf (List.take
 (List.length (Prod.fst (Prod.snd (lsQ (prsOf (cpD (Prod.snd (mpFin (prsOf ds))))) (intsOf k1))))) (byV (Prod.fst (Prod.snd (lsQ (prsOf (cpD (Prod.snd (mpFin (prsOf ds))))) (intsOf k1)))))))) = true, (Prod.snd (Prod.snd
 (atP (prsOf (cpD (Prod.fst (mpFin (prsOf ds))))) (intsOf k1))) == Prod.snd (Prod.snd (lsQ (prsOf (cpD (Prod.snd (mpFin (prsOf ds))))) (intsOf k1)))) = true, capBig + 80 = capBig + 80 ∧ List.length (cpD (Prod.fst (mpFin
 (prsOf ds)))) = List.length (Prod.fst (mpFin (prsOf ds))) * 3 ∧ 0 < 3, TbK (cpD (Prod.fst (mpFin (prsOf ds)))) (List.length (Prod.fst (mpFin (prsOf ds)))) ∧ BytI 0 [] ∧ BytI 0 [] ∧ List.isEmpty (btw (prsOf (cpD (Prod.fst
 (mpFin (prsOf ds))))) (intsOf []) (intsOf [])) = false, List.length (btw (prsOf (MqA.es (MqA.mk false (MpA.m1 (MpA.mk n c m1 c1 ds k1)) (MpA.c1 (MpA.mk n c m1 c1 ds k1)) (List.length (Prod.fst (mpFin (prsOf (MpA.ds
 (MpA.mk n c m1 c1 ds k1)))))) (List.length (Prod.snd (mpFin (prsOf (MpA.ds (MpA.mk n c m1 c1 ds k1)))))) (cpD (Prod.fst (mpFin (prsOf (MpA.ds (MpA.mk n c m1 c1 ds k1)))))) (cpD (Prod.snd (mpFin (prsOf (MpA.ds (MpA.mk n c
 m1 c1 ds k1)))))) (MpA.ds (MpA.mk n c m1 c1 ds k1)) (MpA.k1 (MpA.mk n c m1 c1 ds k1))))) (intsOf []) (intsOf [])) = 0 → cpD (btw (prsOf (cpD (Prod.fst (mpFin (prsOf ds))))) (intsOf []) (intsOf [])) = [], TbOk (cpD (btw
 (prsOf (cpD (Prod.fst (mpFin (prsOf ds))))) (intsOf []) (intsOf []))) (List.length (btw (prsOf (cpD (Prod.fst (mpFin (prsOf ds))))) (intsOf []) (intsOf []))), ((↑(List.length (btw (prsOf (cpD (Prod.fst (mpFin (prsOf
 ds))))) (intsOf []) (intsOf []))) : Int) == (↑(List.length (Prod.fst (mpFin (prsOf ds)))) : Int)) = true, decide ((↑(List.length (btw (prsOf (cpD (Prod.fst (mpFin (prsOf ds))))) (intsOf []) (intsOf []))) : Int) ≤
 (↑(List.length (Prod.snd (mpFin (prsOf ds)))) : Int)) = true]) := by kernel_rfl
end Go.Proofs.Ytojakfnljopjbaa
