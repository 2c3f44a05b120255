/-
  Chapter 12: the statement MemtableChecks: its loops as they begin; the law's runs.
-/
import Derived.Test.YtojakfnljopjbaaMdH
import Derived.Test.YtojakfnljopjbaaMdI
import Derived.Test.YtojakfnljopjbaaInsA
namespace Go.Proofs.Ytojakfnljopjbaa
set_option linter.unusedSimpArgs false
set_option linter.unusedVariables false
set_option linter.unusedSectionVars false
open Go Go.RowKit
def ucD : DV → DV
  | .sl l _ d => .sl l none d
  | .fl v => .fl v
def ucs (ds : List DV) : List DV := ds.map ucD
theorem ucs_prs : ∀ {ps : List Pr} {ds : List DV}, Prs ds ps → ucs ds = cpD ps
  | [], ds, h => by rw [show ds = [] from h]; rfl
  | p :: ps, ds, h => by
      obtain ⟨c1, c2, r, rfl, hr⟩ := h
      have ih := ucs_prs hr
      unfold ucs at ih ⊢
      rw [List.map_append, ih]
      rfl
structure PsL (ds : List DV) (n c : Nat) (ps : List Pr) : Prop where
  fP : Prs ds ps
  fO : ∀ p ∈ ps, PrOk p
  fn : ps.length = n
  fm : n ≤ 100
  fc : c ≤ 9223372036854775807
def PsBig (ds : List DV) (n c : Nat) (b : Bool) : Prop := ∃ ps, PsL ds n c ps ∧ ps.any big = b
def PsTwo (ds es : List DV) (n c : Nat) : Prop := ∃ ps, PsL ds n c ps ∧ Prs es ps
def PsAsc (ds es : List DV) (n : Nat) (b : Bool) : Prop := ∃ c ps, PsL ds n c ps ∧ Prs es ps ∧ asc ps = b
def PsAsr (ds : List DV) (n c : Nat) (b : Bool) : Prop := ∃ ps, PsL ds n c ps ∧ asc ps = b
def mdK1 (live : List (Nat × Value)) (h : Hp) : Option (Nat × Nat × List DV) := match live, lk h 0 with | (_, .slice _ n c) :: _, some ⟨.sd ds, _⟩ => some (n, c, ds) | _, _ => none
def mdK2 (live : List (Nat × Value)) (h : Hp) : Option (Nat × Nat × List DV × List DV) := match live, lk h 0, lk h 80 with | (_, .slice _ n c) :: _, some ⟨.sd ds, _⟩, some ⟨.dp _ _ es, _⟩ => some (n, c, ds, es) | _, _, _ => none
def mdK3 (live : List (Nat × Value)) (h : Hp) : Option (Nat × Nat × List DV × List DV) := match live, lk h 0, lk h 80 with | _ :: (_, .slice _ n c) :: _, some ⟨.sd ds, _⟩, some ⟨.dp _ _ es, _⟩ => some (n, c, ds, es) | _, _, _ => none
def lpSp : LSpec := lspec mdK1 (fun a => ([(0, sdV a.1 a.2.1), (5, iV 0)], [(0, ⟨.sd a.2.2, []⟩)], 1)) (fun a tp => match tp with
  | b :: tp' => some ((bif b then .ret else .exit 0, bif b then [(4, .bool true)] else [], [(0, ⟨.sd a.2.2, []⟩)], 20, []), tp', [PsBig a.2.2 a.1 a.2.1 b])
  | [] => none)
def cpSp : LSpec := lspec mdK1 (fun a => ([(0, sdV a.1 a.2.1), (3, .slice none 0 0), (4, iV 0)], [(0, ⟨.sd a.2.2, []⟩)], 20)) (fun a tp => some ((.exit 0, [(3, dpV a.1)], mdH a.2.2 (ucs a.2.2), 100, []), tp, [0 < a.1 ∧ PsBig a.2.2 a.1 a.2.1 false]))
def wSp : LSpec := lspec mdK2 (fun a => ([(0, sdV a.1 a.2.1), (3, dpV a.1), (4, iV 0)], mdH a.2.2.1 a.2.2.2, 100)) (fun a tp => some ((.exit 0, [(0, sdV a.1 a.2.1), (3, dpV a.1)], mdH a.2.2.1 a.2.2.2, 120, []), tp, [PsTwo a.2.2.1 a.2.2.2 a.1 a.2.1]))
def soSp : LSpec := lspec mdK2 (fun a => ([(0, dpV a.1), (3, iV 1)], mdH a.2.2.1 a.2.2.2, 120)) (fun a tp => match tp with
  | b :: tp' => some ((bif b then .exit 0 else .ret, bif b then [] else [(2, .bool false)], mdH a.2.2.1 a.2.2.2, 140, []), tp', [0 < a.1 ∧ PsAsc a.2.2.1 a.2.2.2 a.1 b])
  | [] => none)
def srSp : LSpec := lspec mdK2 (fun a => ([(0, sdV a.1 a.2.1), (3, iV 1)], mdH a.2.2.1 a.2.2.2, 140)) (fun a tp => match tp with
  | b :: tp' => some ((bif b then .exit 0 else .ret, bif b then [] else [(2, .bool false)], mdH a.2.2.1 a.2.2.2, 160, []), tp', [0 < a.1 ∧ PsAsr a.2.2.1 a.1 a.2.1 b])
  | [] => none)
def spSp : LSpec := lspec mdK3 (fun a => ([(0, dpV a.1), (1, sdV a.1 a.2.1), (5, iV 0)], mdH a.2.2.1 a.2.2.2, 160)) (fun a tp => some ((.exit 0, [], mdH a.2.2.1 a.2.2.2, 180, []), tp, [PsTwo a.2.2.1 a.2.2.2 a.1 a.2.1]))
def mdLo (P : Program) : LFun := orL (mkL 9 4 32 [0, 5] (bodyIn P 9 4) lpSp) (orL (mkL 10 3 33 [0, 3, 4] (bodyIn P 10 3) cpSp) (orL (mkL 3 5 39 [0, 3, 4] (bodyIn P 3 5) wSp) (orL (mkL 13 2 23 [0, 3] (bodyIn P 13 2) soSp) (orL (mkL 14 2 23 [0, 3] (bodyIn P 14 2) srSp) (mkL 15 4 27 [0, 1, 5] (bodyIn P 15 4) spSp)))))
def mdT1 : TFun := mkT 16 [] gTrueY
theorem md_long (n c : Nat) (ds : List DV) : prjV (runZ (mdV noL mdT1) Try.prog 12 3 [.slice (some ⟨0, 0, none⟩) n c] [(0, ⟨.sd ds, []⟩)] 1 [true]) =
  Res.ok (Value.bool true, [], [decide ((↑n : Int) > (100 : Int)) = true]) := by kernel_rfl
theorem md_none (n c : Nat) (ds : List DV) : prjV (runZ (mdV noL mdT1) Try.prog 12 3 [.slice (some ⟨0, 0, none⟩) n c] [(0, ⟨.sd ds, []⟩)] 1 [false, false, false, false, false, false, false, false]) =
  Res.ok (Value.bool true, [], [decide ((↑n : Int) > (100 : Int)) = false, decide ((0 : Int) < (↑n : Int)) = false, decide ((0 : Int) < (↑n : Int)) = false, decide ((0 : Int) < (↑n : Int)) = false, false = false, decide ((1
 : Int) < (↑n : Int)) = false, ((0 : Int) != (↑n : Int)) = false, false = false]) := by kernel_rfl
theorem md_big (n c : Nat) (ds : List DV) : prjV (runZ (mdV (mdLo Try.prog) mdT1) Try.prog 12 3 [.slice (some ⟨0, 0, none⟩) n c] [(0, ⟨.sd ds, []⟩)] 1 [false, true]) =
  Res.ok (Value.bool true, [], [decide ((↑n : Int) > (100 : Int)) = false, bodyIn Try.prog (9 : FuncId) 4 = bodyIn Try.prog (9 : FuncId) 4, [(0, Value.slice (some (Addr.mk 0 0 none)) n c), (5, Value.int IntKind.i64 (0 :
 Int))] = [(0, Value.slice (some (Addr.mk 0 0 none)) n c), (5, Value.int IntKind.i64 (0 : Int))], [(0, Rw.mk (Kd.sd ds) [])] = [(0, Rw.mk (Kd.sd ds) [])], 1 = 1, PsBig ds n c true]) := by kernel_rfl
theorem md_t (n c : Nat) (ds : List DV) : prjV (runZ (mdV (mdLo Try.prog) mdT1) Try.prog 12 3 [.slice (some ⟨0, 0, none⟩) n c] [(0, ⟨.sd ds, []⟩)] 1 [false, false, true, true, false]) =
  Res.ok (Value.bool true, [], ((fun (q0 q1 q2 : Prop) => [decide ((↑n : Int) > (100 : Int)) = false, bodyIn Try.prog (9 : FuncId) 4 = bodyIn Try.prog (9 : FuncId) 4, [(0, Value.slice (some (Addr.mk 0 0 none)) n c), (5,
 Value.int IntKind.i64 (0 : Int))] = [(0, Value.slice (some (Addr.mk 0 0 none)) n c), (5, Value.int IntKind.i64 (0 : Int))], q0, 1 = 1, PsBig ds n c false, bodyIn Try.prog (10 : FuncId) 3 = bodyIn Try.prog (10 : FuncId) 3,
 [(0, Value.slice (some (Addr.mk 0 0 none)) n c), (3, Value.slice none 0 0), (4, Value.int IntKind.i64 (0 : Int))] = [(0, Value.slice (some (Addr.mk 0 0 none)) n c), (3, Value.slice none 0 0), (4, Value.int IntKind.i64 (0
 : Int))], q0, 20 = 20, 0 < n ∧ PsBig ds n c false, bodyIn Try.prog (3 : FuncId) 5 = bodyIn Try.prog (3 : FuncId) 5, [(0, Value.slice (some (Addr.mk 0 0 none)) n c), (3, Value.slice (some (Addr.mk 80 0 none)) n (capBig +
 80)), (4, Value.int IntKind.i64 (0 : Int))] = [(0, Value.slice (some (Addr.mk 0 0 none)) n c), (3, Value.slice (some (Addr.mk 80 0 none)) n (capBig + 80)), (4, Value.int IntKind.i64 (0 : Int))], q1, 100 = 100, q2, bodyIn
 Try.prog (13 : FuncId) 2 = bodyIn Try.prog (13 : FuncId) 2, [(0, Value.slice (some (Addr.mk 80 0 none)) n (capBig + 80)), (3, Value.int IntKind.i64 (1 : Int))] = [(0, Value.slice (some (Addr.mk 80 0 none)) n (capBig +
 80)), (3, Value.int IntKind.i64 (1 : Int))], q1, 120 = 120, 0 < n ∧ PsAsc ds (ucs ds) n true, bodyIn Try.prog (14 : FuncId) 2 = bodyIn Try.prog (14 : FuncId) 2, [(0, Value.slice (some (Addr.mk 0 0 none)) n c), (3,
 Value.int IntKind.i64 (1 : Int))] = [(0, Value.slice (some (Addr.mk 0 0 none)) n c), (3, Value.int IntKind.i64 (1 : Int))], q1, 140 = 140, 0 < n ∧ PsAsr ds n c true, ((↑n : Int) != (↑n : Int)) = false, bodyIn Try.prog (15
 : FuncId) 4 = bodyIn Try.prog (15 : FuncId) 4, [(0, Value.slice (some (Addr.mk 80 0 none)) n (capBig + 80)), (1, Value.slice (some (Addr.mk 0 0 none)) n c), (5, Value.int IntKind.i64 (0 : Int))] = [(0, Value.slice (some
 (Addr.mk 80 0 none)) n (capBig + 80)), (1, Value.slice (some (Addr.mk 0 0 none)) n c), (5, Value.int IntKind.i64 (0 : Int))], q1, 160 = 160, q2]) ([(0, Rw.mk (Kd.sd ds) [])] = [(0, Rw.mk (Kd.sd ds) [])]) (mdH ds (ucs ds)
 = mdH ds (ucs ds)) (PsTwo ds (ucs ds) n c))) := by kernel_rfl
theorem md_f (n c : Nat) (ds : List DV) : prjV (runZ (mdV (mdLo Try.prog) mdT1) Try.prog 12 3 [.slice (some ⟨0, 0, none⟩) n c] [(0, ⟨.sd ds, []⟩)] 1 [false, false, false, false, false]) =
  Res.ok (Value.bool true, [], ((fun (q0 q1 q2 : Prop) => [decide ((↑n : Int) > (100 : Int)) = false, bodyIn Try.prog (9 : FuncId) 4 = bodyIn Try.prog (9 : FuncId) 4, [(0, Value.slice (some (Addr.mk 0 0 none)) n c), (5,
 Value.int IntKind.i64 (0 : Int))] = [(0, Value.slice (some (Addr.mk 0 0 none)) n c), (5, Value.int IntKind.i64 (0 : Int))], q0, 1 = 1, PsBig ds n c false, bodyIn Try.prog (10 : FuncId) 3 = bodyIn Try.prog (10 : FuncId) 3,
 [(0, Value.slice (some (Addr.mk 0 0 none)) n c), (3, Value.slice none 0 0), (4, Value.int IntKind.i64 (0 : Int))] = [(0, Value.slice (some (Addr.mk 0 0 none)) n c), (3, Value.slice none 0 0), (4, Value.int IntKind.i64 (0
 : Int))], q0, 20 = 20, 0 < n ∧ PsBig ds n c false, bodyIn Try.prog (3 : FuncId) 5 = bodyIn Try.prog (3 : FuncId) 5, [(0, Value.slice (some (Addr.mk 0 0 none)) n c), (3, Value.slice (some (Addr.mk 80 0 none)) n (capBig +
 80)), (4, Value.int IntKind.i64 (0 : Int))] = [(0, Value.slice (some (Addr.mk 0 0 none)) n c), (3, Value.slice (some (Addr.mk 80 0 none)) n (capBig + 80)), (4, Value.int IntKind.i64 (0 : Int))], q1, 100 = 100, q2, bodyIn
 Try.prog (13 : FuncId) 2 = bodyIn Try.prog (13 : FuncId) 2, [(0, Value.slice (some (Addr.mk 80 0 none)) n (capBig + 80)), (3, Value.int IntKind.i64 (1 : Int))] = [(0, Value.slice (some (Addr.mk 80 0 none)) n (capBig +
 80)), (3, Value.int IntKind.i64 (1 : Int))], q1, 120 = 120, 0 < n ∧ PsAsc ds (ucs ds) n false, bodyIn Try.prog (14 : FuncId) 2 = bodyIn Try.prog (14 : FuncId) 2, [(0, Value.slice (some (Addr.mk 0 0 none)) n c), (3,
 Value.int IntKind.i64 (1 : Int))] = [(0, Value.slice (some (Addr.mk 0 0 none)) n c), (3, Value.int IntKind.i64 (1 : Int))], q1, 140 = 140, 0 < n ∧ PsAsr ds n c false, ((↑n : Int) != (↑n : Int)) = false, bodyIn Try.prog
 (15 : FuncId) 4 = bodyIn Try.prog (15 : FuncId) 4, [(0, Value.slice (some (Addr.mk 80 0 none)) n (capBig + 80)), (1, Value.slice (some (Addr.mk 0 0 none)) n c), (5, Value.int IntKind.i64 (0 : Int))] = [(0, Value.slice
 (some (Addr.mk 80 0 none)) n (capBig + 80)), (1, Value.slice (some (Addr.mk 0 0 none)) n c), (5, Value.int IntKind.i64 (0 : Int))], q1, 160 = 160, q2]) ([(0, Rw.mk (Kd.sd ds) [])] = [(0, Rw.mk (Kd.sd ds) [])]) (mdH ds
 (ucs ds) = mdH ds (ucs ds)) (PsTwo ds (ucs ds) n c))) := by kernel_rfl
end Go.Proofs.Ytojakfnljopjbaa
