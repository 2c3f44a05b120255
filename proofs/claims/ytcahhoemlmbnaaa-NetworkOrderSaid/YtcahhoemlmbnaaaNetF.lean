/-
  Chapter 30: the statement NetworkOrder: its loops as they are entered; the whole law, run.
-/
import Derived.Test.YtcahhoemlmbnaaaNetE
namespace Go.Proofs.Ytcahhoemlmbnaaa
set_option linter.unusedSimpArgs false
set_option linter.unusedVariables false
set_option linter.unusedSectionVars false
open Go Go.RowKit
theorem l2z_end (inr : Bool) (L : Nat) (C : List Value) : prjZ [5, 6] (codeZ (netV noL) Try.prog (runZ (netV noL) Try.prog 9) 3 inr 100000 (l2B Try.prog) (SL 127 [(1, .slice none 0 0), (5, .bool true), (6, .pointer (some ⟨3, 0, none⟩)), (9, .int .i64 0)]) [(2, mpR), (3, netR (lsV 80 L) 0), (80, lsR C)] 81 [false]) =
  Res.ok ((Xt.exit 2, 127, [(5, Value.bool true), (6, Value.pointer (some (Addr.mk 3 0 none)))], [(2, Rw.mk (Kd.mp []) []), (3, Rw.mk Kd.shut [Value.int IntKind.i64 (2 : Int), Value.slice (some (Addr.mk 80 0 none)) L
 (capBig + 80), Value.map (some 2), Value.int IntKind.i64 (0 : Int)]), (80, Rw.mk (Kd.room 19 [Value.int IntKind.i64 (0 : Int), Value.int IntKind.i64 (0 : Int), Value.int IntKind.i64 (0 : Int), Value.int IntKind.i64 (0 :
 Int), Value.int IntKind.i64 (0 : Int), Value.int IntKind.i64 (0 : Int), Value.int IntKind.i64 (0 : Int), Value.int IntKind.i64 (0 : Int), Value.int IntKind.i64 (0 : Int), Value.int IntKind.i64 (0 : Int), Value.int
 IntKind.i64 (0 : Int), Value.int IntKind.u64 (0 : Int), Value.int IntKind.u64 (0 : Int), Value.int IntKind.i64 (0 : Int), Value.int IntKind.i64 (0 : Int), Value.int IntKind.u64 (0 : Int), Value.int IntKind.i64 (0 : Int),
 Value.int IntKind.i64 (0 : Int), Value.slice none 0 0]) C)], 81, [], []), [], [false = false]) := by kernel_rfl
def okS : List (Nat × Value) := [(5, .bool true), (6, .pointer (some ⟨3, 0, none⟩))]
def pkA (live : List (Nat × Value)) (h : Hp) : Option Int := match live with | (_, .int _ a) :: _ => some a | _ => none
def pkT (live : List (Nat × Value)) (h : Hp) : Option (Int × Nat × Nat) := match live with | (_, .int _ a) :: (_, .slice _ n c) :: _ => some (a, n, c) | _ => none
def pk2 (live : List (Nat × Value)) (h : Hp) : Option (Nat × Nat) := match live with | (_, .slice _ n c) :: _ => some (n, c) | _ => none
def pk0 (live : List (Nat × Value)) (h : Hp) : Option Unit := some ()
def sp1n (A : Nat) (CU : List Value) : LSpec := lspec pkA (fun a => (l1S a (.slice none 0 0) 0, [(3, netR (.slice none 0 0) 0), (2, mpR)], 4))
  (fun a tp => some ((.exit 0, (1, .slice none 0 0) :: okS, [(2, mpR), (3, netR (lsV 4 A) 0), (4, lsR CU)], 80, [3]), tp, [a = (A : Int) ∧ 0 < A ∧ A ≤ 40 ∧ CU = pks (ups A)]))
def sp1s (A : Nat) (CU ts : List Value) : LSpec := lspec pkT (fun a => (l1S a.1 (tkV a.2.1 a.2.2) 0, [(3, netR (.slice none 0 0) 0), (2, mpR), (1, ⟨.old, ts⟩)], 4))
  (fun a tp => some ((.exit 0, (1, tkV a.2.1 a.2.2) :: okS, [(2, mpR), (3, netR (lsV 4 A) 0), (4, lsR CU), (1, ⟨.old, ts⟩)], 80, [3]), tp, [a.1 = (A : Int) ∧ 0 < A ∧ A ≤ 40 ∧ CU = pks (ups A) ∧ Fl ts ∧ a.2.2 ≤ 9223372036854775807]))
def sp2n (A : Nat) (CU : List Value) : LSpec := lspec pk0 (fun _ => ([(1, .slice none 0 0), (5, .bool true), (6, .pointer (some ⟨3, 0, none⟩)), (9, .int .i64 0)], [(2, mpR), (3, netR (lsV 4 A) 0), (4, lsR CU)], 80))
  (fun _ tp => some ((.exit 2, okS, [(2, mpR), (3, netR (lsV 80 A) 0), (80, lsR CU)], 200, [3, 4]), tp, [CU = pks (ups A)]))
def Ok2 (ts : List Value) (n A : Nat) (CU CO : List Value) (Lo K : Nat) : Prop := Ints .i64 ts ∧ ts.length = n ∧ n ≤ 40 ∧ A ≤ 40 ∧ CU = pks (ups A) ∧ CO = pks (drp ts n 0 (ups A) 0).1 ∧ Lo = (drp ts n 0 (ups A) 0).1.length ∧ K = (drp ts n 0 (ups A) 0).2
def sp2s (A : Nat) (CU ts CO : List Value) (Lo K : Nat) : LSpec := lspec pk2 (fun a => (l2S a.1 a.2 0, [(2, mpR), (3, netR (lsV 4 A) 0), (4, lsR CU), (1, ⟨.old, ts⟩)], 80))
  (fun a tp => some ((.exit 2, okS, [(2, mpR), (3, netR (lsV 80 Lo) (K : Int)), (80, lsR CO), (1, ⟨.old, ts⟩)], 200, [3, 4]), tp, [Ok2 ts a.1 A CU CO Lo K, a.2 ≤ 9223372036854775807]))
def sp2z (ts : List Value) : LSpec := lspec pk2 (fun a => (l2S a.1 a.2 0, [(3, netR (.slice none 0 0) 0), (2, mpR), (1, ⟨.old, ts⟩)], 4))
  (fun a tp => some ((.exit 2, okS, [(2, mpR), (3, netR (.slice none 0 0) 0), (1, ⟨.old, ts⟩)], 200, []), tp, [Ints .i64 ts ∧ ts.length = a.1 ∧ a.1 ≤ 40, a.2 ≤ 9223372036854775807]))
def CoOk (CO : List Value) (Lo : Nat) : Prop := ∃ O, CO = pks O ∧ O.length = Lo ∧ Lo ≤ 40 ∧ Rise O
def spL (Lo : Nat) (CO : List Value) (K : Int) (tl : Hp) : LSpec := lspec pk0 (fun _ => (liS (.slice none 0 0) 80 Lo 0, (2, mpR) :: (3, netR (lsV 80 Lo) K) :: (80, lsR CO) :: tl, 200))
  (fun _ tp => match tp with
    | true :: tp' => some ((.exit 0, [(3, lsV 200 Lo)], [(2, mpR), (3, netR (lsV 80 Lo) K), (80, lsR CO), (200, lsR CO)], 300, [1]), tp', [CoOk CO Lo, 0 < Lo])
    | false :: tp' => some ((.exit 0, [(3, .slice none 0 0)], [(2, mpR), (3, netR (lsV 80 Lo) K), (80, lsR CO)], 300, [1]), tp', [CoOk CO Lo, Lo = 0])
    | [] => none)
def sp4 (Lo : Nat) (CO : List Value) (K : Int) : LSpec := lspec pk0 (fun _ => (l4S Lo 0, [(2, mpR), (3, netR (lsV 80 Lo) K), (80, lsR CO), (200, lsR CO)], 300))
  (fun _ tp => some ((.exit 4, okS ++ [(10, lsV 200 Lo)], l4H 0 Lo [] CO K, 400, [3, 80]), tp, [CoOk CO Lo, 0 < Lo]))
def noB1 (P : Program) (s : LSpec) : LFun := mkL 3 8 127 [0, 1, 5, 6, 8] (l1B P) s
def noB2 (P : Program) (s : LSpec) : LFun := mkL 3 13 127 [1, 5, 6, 9] (l2B P) s
def noB4 (P : Program) (s : LSpec) : LFun := mkL 3 18 127 [5, 6, 10, 11] (l4B P) s
def noBL (P : Program) (s : LSpec) : LFun := mkL 13 5 24 [3, 11, 12, 13] (liB P) s
theorem lw_n_neg (a : Int) : prjV (runZ (netV (noL)) Try.prog 12 3 [.int .i64 a, .slice none 0 0] [] 2 [true]) =
  Res.ok (Value.bool true, [], [decide (a < (0 : Int)) = true]) := by kernel_rfl
theorem lw_n_big (a : Int) : prjV (runZ (netV (noL)) Try.prog 12 3 [.int .i64 a, .slice none 0 0] [] 2 [false, true]) =
  Res.ok (Value.bool true, [], [decide (a < (0 : Int)) = false, decide (a > (40 : Int)) = true]) := by kernel_rfl
theorem lw_s_neg (a : Int) (ts : List Value) (n c : Nat) : prjV (runZ (netV (noL)) Try.prog 12 3 [.int .i64 a, .slice (some ⟨1, 0, none⟩) n c] [(1, ⟨.old, ts⟩)] 2 [true]) =
  Res.ok (Value.bool true, [], [decide (a < (0 : Int)) = true]) := by kernel_rfl
theorem lw_s_big (a : Int) (ts : List Value) (n c : Nat) : prjV (runZ (netV (noL)) Try.prog 12 3 [.int .i64 a, .slice (some ⟨1, 0, none⟩) n c] [(1, ⟨.old, ts⟩)] 2 [false, true]) =
  Res.ok (Value.bool true, [], [decide (a < (0 : Int)) = false, decide (a > (40 : Int)) = true]) := by kernel_rfl
theorem lw_s_long (a : Int) (ts : List Value) (n c : Nat) : prjV (runZ (netV (noL)) Try.prog 12 3 [.int .i64 a, .slice (some ⟨1, 0, none⟩) n c] [(1, ⟨.old, ts⟩)] 2 [false, false, true]) =
  Res.ok (Value.bool true, [], [decide (a < (0 : Int)) = false, decide (a > (40 : Int)) = false, decide ((↑n : Int) > (40 : Int)) = true]) := by kernel_rfl
theorem lw_n_zero (a : Int) : prjV (runZ (netV (noL)) Try.prog 12 3 [.int .i64 a, .slice none 0 0] [] 2 [false, false, false, false, false, false, false]) =
  Res.ok (Value.bool true, [], [decide (a < (0 : Int)) = false, decide (a > (40 : Int)) = false, false = false, decide ((0 : Int) < a) = false, false = false, false = false, false = false]) := by kernel_rfl
theorem lw_s_zero (a : Int) (ts : List Value) (n c : Nat) : prjV (runZ (netV (noB2 Try.prog (sp2z ts))) Try.prog 12 3 [.int .i64 a, .slice (some ⟨1, 0, none⟩) n c] [(1, ⟨.old, ts⟩)] 2 [false, false, false, false, false, false]) =
  Res.ok (Value.bool true, [], [decide (a < (0 : Int)) = false, decide (a > (40 : Int)) = false, decide ((↑n : Int) > (40 : Int)) = false, decide ((0 : Int) < a) = false, l2B Try.prog = l2B Try.prog, [(1, Value.slice (some
 (Addr.mk 1 0 none)) n c), (5, Value.bool true), (6, Value.pointer (some (Addr.mk 3 0 none))), (9, Value.int IntKind.i64 (0 : Int))] = l2S n c 0, (3, Rw.mk Kd.shut [Value.int IntKind.i64 (2 : Int), Value.slice none 0 0,
 Value.map (some 2), Value.int IntKind.i64 (0 : Int)]) :: (2, Rw.mk (Kd.mp []) []) :: rowsN 2 [] [(1, Rw.mk Kd.old ts)] = [(3, netR (Value.slice none 0 0) (0 : Int)), (2, mpR), (1, Rw.mk Kd.old ts)], 4 = 4, Ints
 IntKind.i64 ts ∧ List.length ts = n ∧ n ≤ 40, c ≤ 9223372036854775807, false = false, false = false]) := by kernel_rfl
theorem lw_n_more (a : Int) (A : Nat) (CU : List Value) : prjV (runZ (netV (orL (noB1 Try.prog (sp1n A CU)) (orL (noB2 Try.prog (sp2n A CU)) (orL (noBL Try.prog (spL A CU 0 [])) (noB4 Try.prog (sp4 A CU 0)))))) Try.prog 12 3 [.int .i64 a, .slice none 0 0] [] 2 [false, false, false, true]) =
  Res.ok (Value.bool true, [], [decide (a < (0 : Int)) = false, decide (a > (40 : Int)) = false, false = false, l1B Try.prog = l1B Try.prog, [(0, Value.int IntKind.i64 a), (1, Value.slice none 0 0), (5, Value.bool true),
 (6, Value.pointer (some (Addr.mk 3 0 none))), (8, Value.int IntKind.i64 (0 : Int))] = l1S a (Value.slice none 0 0) 0, (3, Rw.mk Kd.shut [Value.int IntKind.i64 (2 : Int), Value.slice none 0 0, Value.map (some 2), Value.int
 IntKind.i64 (0 : Int)]) :: (2, Rw.mk (Kd.mp []) []) :: rowsN 2 [] [] = [(3, netR (Value.slice none 0 0) (0 : Int)), (2, mpR)], 4 = 4, a = (↑A : Int) ∧ 0 < A ∧ A ≤ 40 ∧ CU = pks (ups A), l2B Try.prog = l2B Try.prog, [(1,
 Value.slice none 0 0), (5, Value.bool true), (6, Value.pointer (some (Addr.mk 3 0 none))), (9, Value.int IntKind.i64 (0 : Int))] = [(1, Value.slice none 0 0), (5, Value.bool true), (6, Value.pointer (some (Addr.mk 3 0
 none))), (9, Value.int IntKind.i64 (0 : Int))], [(2, mpR), (3, netR (Value.slice (some (Addr.mk 4 0 none)) A (capBig + 4)) (0 : Int)), (4, lsR CU)] = [(2, mpR), (3, netR (Value.slice (some (Addr.mk 4 0 none)) A (capBig +
 4)) (0 : Int)), (4, lsR CU)], 80 = 80, CU = pks (ups A), liB Try.prog = liB Try.prog, [(3, Value.slice none 0 0), (11, Value.slice (some (Addr.mk 80 0 none)) A (capBig + 80)), (12, Value.int IntKind.i64 (↑A : Int)), (13,
 Value.int IntKind.i64 (0 : Int))] = liS (Value.slice none 0 0) 80 A 0, [(2, mpR), (3, netR (Value.slice (some (Addr.mk 80 0 none)) A (capBig + 80)) (0 : Int)), (80, lsR CU)] = [(2, mpR), (3, netR (Value.slice (some
 (Addr.mk 80 0 none)) A (capBig + 80)) (0 : Int)), (80, lsR CU)], 200 = 200, CoOk CU A, 0 < A, l4B Try.prog = l4B Try.prog, [(5, Value.bool true), (6, Value.pointer (some (Addr.mk 3 0 none))), (10, Value.slice (some
 (Addr.mk 200 0 none)) A (capBig + 200)), (11, Value.int IntKind.i64 (0 : Int))] = l4S A 0, [(2, mpR), (3, netR (Value.slice (some (Addr.mk 80 0 none)) A (capBig + 80)) (0 : Int)), (80, lsR CU), (200, lsR CU)] = [(2, mpR),
 (3, netR (Value.slice (some (Addr.mk 80 0 none)) A (capBig + 80)) (0 : Int)), (80, lsR CU), (200, lsR CU)], 300 = 300, CoOk CU A, 0 < A]) := by kernel_rfl
theorem lw_s_more (a : Int) (A Lo K : Nat) (CU CO ts : List Value) (n c : Nat) : prjV (runZ (netV (orL (noB1 Try.prog (sp1s A CU ts)) (orL (noB2 Try.prog (sp2s A CU ts CO Lo K)) (orL (noBL Try.prog (spL Lo CO (K : Int) [(1, ⟨.old, ts⟩)])) (noB4 Try.prog (sp4 Lo CO (K : Int))))))) Try.prog 12 3 [.int .i64 a, .slice (some ⟨1, 0, none⟩) n c] [(1, ⟨.old, ts⟩)] 2 [false, false, false, true]) =
  Res.ok (Value.bool true, [], [decide (a < (0 : Int)) = false, decide (a > (40 : Int)) = false, decide ((↑n : Int) > (40 : Int)) = false, l1B Try.prog = l1B Try.prog, [(0, Value.int IntKind.i64 a), (1, Value.slice (some
 (Addr.mk 1 0 none)) n c), (5, Value.bool true), (6, Value.pointer (some (Addr.mk 3 0 none))), (8, Value.int IntKind.i64 (0 : Int))] = l1S a (Value.slice (some (Addr.mk 1 0 none)) n c) 0, (3, Rw.mk Kd.shut [Value.int
 IntKind.i64 (2 : Int), Value.slice none 0 0, Value.map (some 2), Value.int IntKind.i64 (0 : Int)]) :: (2, Rw.mk (Kd.mp []) []) :: rowsN 2 [] [(1, Rw.mk Kd.old ts)] = [(3, netR (Value.slice none 0 0) (0 : Int)), (2, mpR),
 (1, Rw.mk Kd.old ts)], 4 = 4, a = (↑A : Int) ∧ 0 < A ∧ A ≤ 40 ∧ CU = pks (ups A) ∧ Fl ts ∧ c ≤ 9223372036854775807, l2B Try.prog = l2B Try.prog, [(1, Value.slice (some (Addr.mk 1 0 none)) n c), (5, Value.bool true), (6,
 Value.pointer (some (Addr.mk 3 0 none))), (9, Value.int IntKind.i64 (0 : Int))] = l2S n c 0, [(2, mpR), (3, netR (Value.slice (some (Addr.mk 4 0 none)) A (capBig + 4)) (0 : Int)), (4, lsR CU), (1, Rw.mk Kd.old ts)] = [(2,
 mpR), (3, netR (Value.slice (some (Addr.mk 4 0 none)) A (capBig + 4)) (0 : Int)), (4, lsR CU), (1, Rw.mk Kd.old ts)], 80 = 80, Ok2 ts n A CU CO Lo K, c ≤ 9223372036854775807, liB Try.prog = liB Try.prog, [(3, Value.slice
 none 0 0), (11, Value.slice (some (Addr.mk 80 0 none)) Lo (capBig + 80)), (12, Value.int IntKind.i64 (↑Lo : Int)), (13, Value.int IntKind.i64 (0 : Int))] = liS (Value.slice none 0 0) 80 Lo 0, [(2, mpR), (3, netR
 (Value.slice (some (Addr.mk 80 0 none)) Lo (capBig + 80)) (↑K : Int)), (80, lsR CO), (1, Rw.mk Kd.old ts)] = [(2, mpR), (3, netR (Value.slice (some (Addr.mk 80 0 none)) Lo (capBig + 80)) (↑K : Int)), (80, lsR CO), (1,
 Rw.mk Kd.old ts)], 200 = 200, CoOk CO Lo, 0 < Lo, l4B Try.prog = l4B Try.prog, [(5, Value.bool true), (6, Value.pointer (some (Addr.mk 3 0 none))), (10, Value.slice (some (Addr.mk 200 0 none)) Lo (capBig + 200)), (11,
 Value.int IntKind.i64 (0 : Int))] = l4S Lo 0, [(2, mpR), (3, netR (Value.slice (some (Addr.mk 80 0 none)) Lo (capBig + 80)) (↑K : Int)), (80, lsR CO), (200, lsR CO)] = [(2, mpR), (3, netR (Value.slice (some (Addr.mk 80 0
 none)) Lo (capBig + 80)) (↑K : Int)), (80, lsR CO), (200, lsR CO)], 300 = 300, CoOk CO Lo, 0 < Lo]) := by kernel_rfl
theorem lw_s_none (a : Int) (A Lo K : Nat) (CU CO ts : List Value) (n c : Nat) : prjV (runZ (netV (orL (noB1 Try.prog (sp1s A CU ts)) (orL (noB2 Try.prog (sp2s A CU ts CO Lo K)) (noBL Try.prog (spL Lo CO (K : Int) [(1, ⟨.old, ts⟩)]))))) Try.prog 12 3 [.int .i64 a, .slice (some ⟨1, 0, none⟩) n c] [(1, ⟨.old, ts⟩)] 2 [false, false, false, false, false]) =
  Res.ok (Value.bool (bif true then (↑Lo : Int) == (0 : Int) else false), [], [decide (a < (0 : Int)) = false, decide (a > (40 : Int)) = false, decide ((↑n : Int) > (40 : Int)) = false, l1B Try.prog = l1B Try.prog, [(0,
 Value.int IntKind.i64 a), (1, Value.slice (some (Addr.mk 1 0 none)) n c), (5, Value.bool true), (6, Value.pointer (some (Addr.mk 3 0 none))), (8, Value.int IntKind.i64 (0 : Int))] = l1S a (Value.slice (some (Addr.mk 1 0
 none)) n c) 0, (3, Rw.mk Kd.shut [Value.int IntKind.i64 (2 : Int), Value.slice none 0 0, Value.map (some 2), Value.int IntKind.i64 (0 : Int)]) :: (2, Rw.mk (Kd.mp []) []) :: rowsN 2 [] [(1, Rw.mk Kd.old ts)] = [(3, netR
 (Value.slice none 0 0) (0 : Int)), (2, mpR), (1, Rw.mk Kd.old ts)], 4 = 4, a = (↑A : Int) ∧ 0 < A ∧ A ≤ 40 ∧ CU = pks (ups A) ∧ Fl ts ∧ c ≤ 9223372036854775807, l2B Try.prog = l2B Try.prog, [(1, Value.slice (some (Addr.mk
 1 0 none)) n c), (5, Value.bool true), (6, Value.pointer (some (Addr.mk 3 0 none))), (9, Value.int IntKind.i64 (0 : Int))] = l2S n c 0, [(2, mpR), (3, netR (Value.slice (some (Addr.mk 4 0 none)) A (capBig + 4)) (0 :
 Int)), (4, lsR CU), (1, Rw.mk Kd.old ts)] = [(2, mpR), (3, netR (Value.slice (some (Addr.mk 4 0 none)) A (capBig + 4)) (0 : Int)), (4, lsR CU), (1, Rw.mk Kd.old ts)], 80 = 80, Ok2 ts n A CU CO Lo K, c ≤
 9223372036854775807, liB Try.prog = liB Try.prog, [(3, Value.slice none 0 0), (11, Value.slice (some (Addr.mk 80 0 none)) Lo (capBig + 80)), (12, Value.int IntKind.i64 (↑Lo : Int)), (13, Value.int IntKind.i64 (0 : Int))]
 = liS (Value.slice none 0 0) 80 Lo 0, [(2, mpR), (3, netR (Value.slice (some (Addr.mk 80 0 none)) Lo (capBig + 80)) (↑K : Int)), (80, lsR CO), (1, Rw.mk Kd.old ts)] = [(2, mpR), (3, netR (Value.slice (some (Addr.mk 80 0
 none)) Lo (capBig + 80)) (↑K : Int)), (80, lsR CO), (1, Rw.mk Kd.old ts)], 200 = 200, CoOk CO Lo, Lo = 0, false = false]) := by kernel_rfl

/-! ### the loops as they are entered -/
theorem lk_nil (m : Nat) : lk [] m = none := rfl
theorem sp1n_ok (A : Nat) (CU : List Value) : LSOk Try.prog 127 [0, 1, 5, 6, 8] (l1B Try.prog) (sp1n A CU) := by
  refine lspec_ok fun a tp xt l2 h2 nx2 d tp' ob hs ho inr ts hn hg => ?_
  simp only at hs hg
  simp only [Option.some.injEq, Prod.mk.injEq] at hs
  obtain ⟨⟨rfl, rfl, rfl, rfl, rfl⟩, rfl, rfl⟩ := hs
  obtain ⟨⟨rfl, h1, h2, rfl⟩, _⟩ := ho
  have key := l1n_all (inr := inr) (h0 := [(3, netR (.slice none 0 0) 0), (2, mpR)]) h2 h1 0 trivial
  refine LRuns.enter (N := 4) (l2 := l1S (A : Int) (.slice none 0 0) 0) (h2 := [(2, mpR), (3, netR (.slice none 0 0) 0)]) hn hg (Nat.le_refl 4) (by omega) (fun n => n) ?_ ?_ rfl key ?_
  · exact ⟨rfl, rfl, rfl, rfl, rfl, rfl, rfl, rb_ptr rfl, rfl, rfl, trivial⟩
  · exact ⟨mp_row rfl rfl, net_row rfl rfl rfl rfl, trivial⟩
  ·
    refine tidy_of (by omega) (fun m hm hd => ?_) rfl
    (try simp only [List.mem_cons, List.not_mem_nil, or_false, not_or] at hd)
    have hm2 : m < 4 := hm
    simp only [l4H, lk_cons, lk_nil]
    repeat' split
    all_goals first | rfl | (exfalso; omega)
theorem sp1s_ok (A : Nat) (CU ys : List Value) : LSOk Try.prog 127 [0, 1, 5, 6, 8] (l1B Try.prog) (sp1s A CU ys) := by
  refine lspec_ok fun a tp xt l2 h2 nx2 d tp' ob hs ho inr ts hn hg => ?_
  obtain ⟨a, n, c⟩ := a
  simp only at hs hg
  simp only [Option.some.injEq, Prod.mk.injEq] at hs
  obtain ⟨⟨rfl, rfl, rfl, rfl, rfl⟩, rfl, rfl⟩ := hs
  obtain ⟨⟨rfl, h1, h2, rfl, h3, h4⟩, _⟩ := ho
  have key := l1s_all (inr := inr) (h0 := [(3, netR (.slice none 0 0) 0), (2, mpR), (1, ⟨.old, ys⟩)]) h2 h1 ys n c ⟨h3, h4⟩
  refine LRuns.enter (N := 4) (l2 := l1S (A : Int) (tkV n c) 0) (h2 := [(2, mpR), (3, netR (.slice none 0 0) 0), (1, ⟨.old, ys⟩)]) hn hg (Nat.le_refl 4) (by omega) (fun n => n) ?_ ?_ rfl key ?_
  · exact ⟨rfl, rfl, rfl, rb_slc rfl (by unfold capBig; omega), rfl, rfl, rfl, rb_ptr rfl, rfl, rfl, trivial⟩
  · exact ⟨mp_row rfl rfl, net_row rfl rfl rfl rfl, rb_old (by omega) rfl h3, trivial⟩
  ·
    refine tidy_of (by omega) (fun m hm hd => ?_) rfl
    (try simp only [List.mem_cons, List.not_mem_nil, or_false, not_or] at hd)
    have hm2 : m < 4 := hm
    simp only [l4H, lk_cons, lk_nil]
    repeat' split
    all_goals first | rfl | (exfalso; omega)
theorem sp2n_ok (A : Nat) (CU : List Value) : LSOk Try.prog 127 [1, 5, 6, 9] (l2B Try.prog) (sp2n A CU) := by
  refine lspec_ok fun a tp xt l2 h2 nx2 d tp' ob hs ho inr ts hn hg => ?_
  simp only at hs hg
  simp only [Option.some.injEq, Prod.mk.injEq] at hs
  obtain ⟨⟨rfl, rfl, rfl, rfl, rfl⟩, rfl, rfl⟩ := hs
  obtain ⟨rfl, _⟩ := ho
  have key : LRuns inr Try.prog (l2B Try.prog) 80 200 [(2, mpR), (3, netR (lsV 4 A) 0), (4, lsR (pks (ups A)))] 127 [(1, .slice none 0 0), (5, .bool true), (6, .pointer (some ⟨3, 0, none⟩)), (9, .int .i64 0)] [(2, mpR), (3, netR (lsV 80 A) 0), (80, lsR (pks (ups A)))] 81
      (.exit 2, okS, [(2, mpR), (3, netR (lsV 80 A) 0), (80, lsR (pks (ups A)))]) := by
    refine LRuns.exit (code_runs (netV_X _) netV_L (runZ_ok (netV_X _) (netV_T _) netV_L mixed 9) mixed (l2z_end inr A (pks (ups A))) ⟨rfl, trivial⟩) (by intro e; cases e) rfl (by omega) (by omega) (fun n => n) ?_ ?_ rfl
    · exact ⟨rfl, rfl, rfl, rb_ptr rfl, trivial⟩
    · exact ⟨mp_row rfl rfl, net_row rfl rfl rfl (rb_slg rfl rfl), ls_row (m := 80) rfl rfl rfl (pks_fl _), trivial⟩
  refine LRuns.enter (N := 81) hn hg (by omega) (by omega) (fun _ => 4) ?_ ?_ rfl key ?_
  · exact ⟨rfl, rfl, rfl, rfl, rfl, rb_ptr rfl, rfl, rfl, trivial⟩
  · exact ⟨mp_row rfl rfl, net_row rfl rfl rfl (rb_slg rfl rfl), ls_row (m := 4) rfl rfl rfl (pks_fl _), trivial⟩
  ·
    refine tidy_of (by omega) (fun m hm hd => ?_) rfl
    (try simp only [List.mem_cons, List.not_mem_nil, or_false, not_or] at hd)
    have hm2 : m < 80 := hm
    simp only [l4H, lk_cons, lk_nil]
    repeat' split
    all_goals first | rfl | (exfalso; omega)
theorem sp2s_ok (A : Nat) (CU ys CO : List Value) (Lo K : Nat) : LSOk Try.prog 127 [1, 5, 6, 9] (l2B Try.prog) (sp2s A CU ys CO Lo K) := by
  refine lspec_ok fun a tp xt l2 h2 nx2 d tp' ob hs ho inr ts hn hg => ?_
  obtain ⟨n, c⟩ := a
  simp only at hs hg
  simp only [Option.some.injEq, Prod.mk.injEq] at hs
  obtain ⟨⟨rfl, rfl, rfl, rfl, rfl⟩, rfl, rfl⟩ := hs
  obtain ⟨⟨h1, h2, h3, h4, rfl, rfl, rfl, rfl⟩, hc, _⟩ := ho
  (try simp only at h2 h3 hc)
  have key := l2_loop (inr := inr) (h0 := [(2, mpR), (3, netR (lsV 4 A) 0), (4, lsR (pks (ups A))), (1, ⟨.old, ys⟩)]) (c := c) h1 h2 hc h3 n 0 (ups A) 0 (by omega) (by rw [ups_len]; exact h4) (by omega)
  rw [ups_len] at key
  refine LRuns.enter (N := 81) (l2 := l2S n c 0) hn hg (by omega) (by omega) (fun _ => 4) ?_ ?_ rfl key ?_
  · exact ⟨rfl, rb_slc rfl (by unfold capBig; omega), rfl, rfl, rfl, rb_ptr rfl, rfl, rfl, trivial⟩
  · exact ⟨mp_row rfl rfl, net_row rfl rfl rfl (rb_slg rfl rfl), ls_row (m := 4) rfl rfl rfl (pks_fl _), rb_old (by omega) rfl h1.fl, trivial⟩
  ·
    refine tidy_of (by omega) (fun m hm hd => ?_) rfl
    (try simp only [List.mem_cons, List.not_mem_nil, or_false, not_or] at hd)
    have hm2 : m < 80 := hm
    simp only [l4H, lk_cons, lk_nil]
    repeat' split
    all_goals first | rfl | (exfalso; omega)
theorem sp2z_ok (ys : List Value) : LSOk Try.prog 127 [1, 5, 6, 9] (l2B Try.prog) (sp2z ys) := by
  refine lspec_ok fun a tp xt l2 h2 nx2 d tp' ob hs ho inr ts hn hg => ?_
  obtain ⟨n, c⟩ := a
  simp only at hs hg
  simp only [Option.some.injEq, Prod.mk.injEq] at hs
  obtain ⟨⟨rfl, rfl, rfl, rfl, rfl⟩, rfl, rfl⟩ := hs
  obtain ⟨⟨h1, h2, h3⟩, hc, _⟩ := ho
  (try simp only at h2 h3 hc)
  have key := l2n_loop (inr := inr) (h0 := [(3, netR (.slice none 0 0) 0), (2, mpR), (1, ⟨.old, ys⟩)]) (c := c) h1 h2 hc h3 n 0 (by omega)
  refine LRuns.enter (N := 4) (l2 := l2S n c 0) hn hg (Nat.le_refl 4) (by omega) (fun n => n) ?_ ?_ rfl key ?_
  · exact ⟨rfl, rb_slc rfl (by unfold capBig; omega), rfl, rfl, rfl, rb_ptr rfl, rfl, rfl, trivial⟩
  · exact ⟨mp_row rfl rfl, net_row rfl rfl rfl rfl, rb_old (by omega) rfl h1.fl, trivial⟩
  ·
    refine tidy_of (by omega) (fun m hm hd => ?_) rfl
    (try simp only [List.mem_cons, List.not_mem_nil, or_false, not_or] at hd)
    have hm2 : m < 4 := hm
    simp only [l4H, lk_cons, lk_nil]
    repeat' split
    all_goals first | rfl | (exfalso; omega)
theorem spLn_ok (Lo : Nat) (CO : List Value) (K : Int) (ys : List Value) : LSOk Try.prog 24 [3, 11, 12, 13] (liB Try.prog) (spL Lo CO K []) := by
  refine lspec_ok fun a tp xt l2 h2 nx2 d tp' ob hs ho inr ts hn hg => ?_
  simp only at hs hg
  split at hs
  · simp only [Option.some.injEq, Prod.mk.injEq] at hs
    obtain ⟨⟨rfl, rfl, rfl, rfl, rfl⟩, rfl, rfl⟩ := hs
    obtain ⟨⟨O, rfl, rfl, hO, hR⟩, h1, _⟩ := ho
    have key := li_all (inr := inr) (h0 := (2, mpR) :: (3, netR (lsV 80 O.length) K) :: (80, lsR (pks O)) :: []) (k := K) hO h1
    refine LRuns.enter (N := 200) (l2 := liS (.slice none 0 0) 80 O.length 0) hn hg (Nat.le_refl 200) (by omega) (fun n => n) ?_ ?_ rfl key ?_
    · exact ⟨rfl, rfl, rfl, rb_slg rfl rfl, rfl, rfl, rfl, rfl, trivial⟩
    · exact ⟨mp_row rfl rfl, net_row rfl rfl rfl (rb_slg rfl rfl), ls_row (m := 80) rfl rfl rfl (pks_fl _), trivial⟩
    ·
      refine tidy_of (by omega) (fun m hm hd => ?_) rfl
      (try simp only [List.mem_cons, List.not_mem_nil, or_false, not_or] at hd)
      have hm2 : m < 200 := hm
      simp only [l4H, lk_cons, lk_nil]
      repeat' split
      all_goals first | rfl | (exfalso; omega)
  · simp only [Option.some.injEq, Prod.mk.injEq] at hs
    obtain ⟨⟨rfl, rfl, rfl, rfl, rfl⟩, rfl, rfl⟩ := hs
    obtain ⟨⟨O, rfl, rfl, hO, hR⟩, h1, _⟩ := ho
    have key := li_none (inr := inr) (h0 := (2, mpR) :: (3, netR (lsV 80 O.length) K) :: (80, lsR (pks O)) :: []) (k := K) h1
    refine LRuns.enter (N := 200) (l2 := liS (.slice none 0 0) 80 O.length 0) hn hg (Nat.le_refl 200) (by omega) (fun n => n) ?_ ?_ rfl key ?_
    · exact ⟨rfl, rfl, rfl, rb_slg rfl rfl, rfl, rfl, rfl, rfl, trivial⟩
    · exact ⟨mp_row rfl rfl, net_row rfl rfl rfl (rb_slg rfl rfl), ls_row (m := 80) rfl rfl rfl (pks_fl _), trivial⟩
    ·
      refine tidy_of (by omega) (fun m hm hd => ?_) rfl
      (try simp only [List.mem_cons, List.not_mem_nil, or_false, not_or] at hd)
      have hm2 : m < 200 := hm
      simp only [l4H, lk_cons, lk_nil]
      repeat' split
      all_goals first | rfl | (exfalso; omega)
  · cases hs
theorem spLs_ok (Lo : Nat) (CO : List Value) (K : Int) (ys : List Value) : LSOk Try.prog 24 [3, 11, 12, 13] (liB Try.prog) (spL Lo CO K [(1, ⟨.old, ys⟩)]) := by
  refine lspec_ok fun a tp xt l2 h2 nx2 d tp' ob hs ho inr ts hn hg => ?_
  simp only at hs hg
  split at hs
  · simp only [Option.some.injEq, Prod.mk.injEq] at hs
    obtain ⟨⟨rfl, rfl, rfl, rfl, rfl⟩, rfl, rfl⟩ := hs
    obtain ⟨⟨O, rfl, rfl, hO, hR⟩, h1, _⟩ := ho
    have key := li_all (inr := inr) (h0 := (2, mpR) :: (3, netR (lsV 80 O.length) K) :: (80, lsR (pks O)) :: [(1, ⟨.old, ys⟩)]) (k := K) hO h1
    refine LRuns.enter (N := 200) (l2 := liS (.slice none 0 0) 80 O.length 0) hn hg (Nat.le_refl 200) (by omega) (fun n => n) ?_ ?_ rfl key ?_
    · exact ⟨rfl, rfl, rfl, rb_slg rfl rfl, rfl, rfl, rfl, rfl, trivial⟩
    · exact ⟨mp_row rfl rfl, net_row rfl rfl rfl (rb_slg rfl rfl), ls_row (m := 80) rfl rfl rfl (pks_fl _), trivial⟩
    ·
      refine tidy_of (by omega) (fun m hm hd => ?_) rfl
      (try simp only [List.mem_cons, List.not_mem_nil, or_false, not_or] at hd)
      have hm2 : m < 200 := hm
      simp only [l4H, lk_cons, lk_nil]
      repeat' split
      all_goals first | rfl | (exfalso; omega)
  · simp only [Option.some.injEq, Prod.mk.injEq] at hs
    obtain ⟨⟨rfl, rfl, rfl, rfl, rfl⟩, rfl, rfl⟩ := hs
    obtain ⟨⟨O, rfl, rfl, hO, hR⟩, h1, _⟩ := ho
    have key := li_none (inr := inr) (h0 := (2, mpR) :: (3, netR (lsV 80 O.length) K) :: (80, lsR (pks O)) :: [(1, ⟨.old, ys⟩)]) (k := K) h1
    refine LRuns.enter (N := 200) (l2 := liS (.slice none 0 0) 80 O.length 0) hn hg (Nat.le_refl 200) (by omega) (fun n => n) ?_ ?_ rfl key ?_
    · exact ⟨rfl, rfl, rfl, rb_slg rfl rfl, rfl, rfl, rfl, rfl, trivial⟩
    · exact ⟨mp_row rfl rfl, net_row rfl rfl rfl (rb_slg rfl rfl), ls_row (m := 80) rfl rfl rfl (pks_fl _), trivial⟩
    ·
      refine tidy_of (by omega) (fun m hm hd => ?_) rfl
      (try simp only [List.mem_cons, List.not_mem_nil, or_false, not_or] at hd)
      have hm2 : m < 200 := hm
      simp only [l4H, lk_cons, lk_nil]
      repeat' split
      all_goals first | rfl | (exfalso; omega)
  · cases hs
theorem sp4_ok (Lo : Nat) (CO : List Value) (K : Int) : LSOk Try.prog 127 [5, 6, 10, 11] (l4B Try.prog) (sp4 Lo CO K) := by
  refine lspec_ok fun a tp xt l2 h2 nx2 d tp' ob hs ho inr ts hn hg => ?_
  simp only at hs hg
  simp only [Option.some.injEq, Prod.mk.injEq] at hs
  obtain ⟨⟨rfl, rfl, rfl, rfl, rfl⟩, rfl, rfl⟩ := hs
  obtain ⟨⟨O, rfl, rfl, hO, hR⟩, h1, _⟩ := ho
  have key := l4_all (inr := inr) (h0 := [(2, mpR), (3, netR (lsV 80 O.length) K), (80, lsR (pks O)), (200, lsR (pks O))]) (k := K) hO hR h1
  refine LRuns.enter (N := 301) (l2 := l4S O.length 0) hn hg (by omega) (by omega) (fun _ => 80) ?_ ?_ rfl key ?_
  · exact ⟨rfl, rfl, rfl, rb_ptr rfl, rfl, rb_slg rfl rfl, rfl, rfl, trivial⟩
  · exact ⟨mp_row rfl rfl, net_row rfl rfl rfl (rb_slg rfl rfl), ls_row (m := 200) rfl rfl rfl (pks_fl _), ls_row (m := 80) rfl rfl rfl (pks_fl _), trivial⟩
  ·
    refine tidy_of (by omega) (fun m hm hd => ?_) rfl
    (try simp only [List.mem_cons, List.not_mem_nil, or_false, not_or] at hd)
    have hm2 : m < 300 := hm
    simp only [l4H, lk_cons, lk_nil]
    repeat' split
    all_goals first | rfl | (exfalso; omega)

/-! ### the whole law -/
theorem netL_of (L : LFun) (h : LOne Try.prog L) : LOkZ (netV L) Try.prog := L_okV rfl h
theorem no_run {L : LFun} (h : LOne Try.prog L) {k : Nat} {args : List Value} {hp : Hp} {nx : Nat} {tp tp' : Tape} {v : Value} {ob : List Prop} (e : prjV (runZ (netV L) Try.prog k 3 args hp nx tp) = .ok (v, tp', ob)) (ho : Alls ob) : ∃ h' nx' d, Tri Try.prog 3 args hp nx (v, h', nx', d) :=
  run_val (netV_X L) (netV_T L) (netL_of L h) e ho rfl
theorem drp_ok {ts : List Value} {n A : Nat} (hA : A ≤ 40) : CoOk (pks (drp ts n 0 (ups A) 0).1) (drp ts n 0 (ups A) 0).1.length := by
  obtain ⟨h1, h2⟩ := drp_rise ts n 0 (ups A) 0 (ups_rise A)
  rw [ups_len] at h2
  exact ⟨_, rfl, rfl, by omega, h1⟩
theorem ups_ok {A : Nat} (hA : A ≤ 40) : CoOk (pks (ups A)) A := ⟨_, rfl, ups_len A, hA, ups_rise A⟩
theorem order_n (a : Int) : ∃ h' nx' d, Tri Try.prog 3 [.int .i64 a, .slice none 0 0] [] 2 (.bool true, h', nx', d) := by
  by_cases h0 : a < 0
  · exact no_run noL_ok (lw_n_neg a) ⟨decide_eq_true h0, trivial⟩
  by_cases h1 : a > 40
  · exact no_run noL_ok (lw_n_big a) ⟨decide_eq_false h0, decide_eq_true h1, trivial⟩
  by_cases h2 : 0 < a
  · obtain ⟨A, rfl⟩ : ∃ A : Nat, a = (A : Int) := ⟨a.toNat, by omega⟩
    have hA : A ≤ 40 := by omega
    have hp : 0 < A := by omega
    exact no_run (orL_ok (mkL_ok (sp1n_ok A (pks (ups A)))) (orL_ok (mkL_ok (sp2n_ok A (pks (ups A)))) (orL_ok (mkL_ok (spLn_ok A (pks (ups A)) 0 [])) (mkL_ok (sp4_ok A (pks (ups A)) 0))))) (lw_n_more (A : Int) A (pks (ups A)))
      ⟨decide_eq_false h0, decide_eq_false h1, rfl, rfl, rfl, rfl, rfl, ⟨rfl, hp, hA, rfl⟩, rfl, rfl, rfl, rfl, rfl, rfl, rfl, rfl, rfl, ups_ok hA, hp, rfl, rfl, rfl, rfl, ups_ok hA, hp, trivial⟩
  · exact no_run noL_ok (lw_n_zero a) ⟨decide_eq_false h0, decide_eq_false h1, rfl, decide_eq_false h2, rfl, rfl, rfl, trivial⟩
theorem order_s (a : Int) {ts : List Value} {n c : Nat} (hT : Ints .i64 ts) (hl : ts.length = n) (hc : n ≤ c ∧ c ≤ 9223372036854775807) :
    ∃ h' nx' d, Tri Try.prog 3 [.int .i64 a, .slice (some ⟨1, 0, none⟩) n c] [(1, ⟨.old, ts⟩)] 2 (.bool true, h', nx', d) := by
  by_cases h0 : a < 0
  · exact no_run noL_ok (lw_s_neg a ts n c) ⟨decide_eq_true h0, trivial⟩
  by_cases h1 : a > 40
  · exact no_run noL_ok (lw_s_big a ts n c) ⟨decide_eq_false h0, decide_eq_true h1, trivial⟩
  by_cases h3 : (n : Int) > 40
  · exact no_run noL_ok (lw_s_long a ts n c) ⟨decide_eq_false h0, decide_eq_false h1, decide_eq_true h3, trivial⟩
  have hn : n ≤ 40 := by omega
  by_cases h2 : 0 < a
  · obtain ⟨A, rfl⟩ : ∃ A : Nat, a = (A : Int) := ⟨a.toNat, by omega⟩
    have hA : A ≤ 40 := by omega
    have hp : 0 < A := by omega
    obtain ⟨O, hO⟩ : ∃ O, (drp ts n 0 (ups A) 0).1 = O := ⟨_, rfl⟩
    obtain ⟨K, hK⟩ : ∃ K, (drp ts n 0 (ups A) 0).2 = K := ⟨_, rfl⟩
    have hok : Ok2 ts n A (pks (ups A)) (pks O) O.length K := ⟨hT, hl, hn, hA, rfl, by rw [hO], by rw [hO], hK.symm⟩
    have hco : CoOk (pks O) O.length := by have := drp_ok (ts := ts) (n := n) hA; rw [hO] at this; exact this
    by_cases h4 : 0 < O.length
    · exact no_run (orL_ok (mkL_ok (sp1s_ok A (pks (ups A)) ts)) (orL_ok (mkL_ok (sp2s_ok A (pks (ups A)) ts (pks O) O.length K)) (orL_ok (mkL_ok (spLs_ok O.length (pks O) (K : Int) ts)) (mkL_ok (sp4_ok O.length (pks O) (K : Int)))))) (lw_s_more (A : Int) A O.length K (pks (ups A)) (pks O) ts n c)
        ⟨decide_eq_false h0, decide_eq_false h1, decide_eq_false h3, rfl, rfl, rfl, rfl, ⟨rfl, hp, hA, rfl, hT.fl, hc.2⟩, rfl, rfl, rfl, rfl, hok, hc.2, rfl, rfl, rfl, rfl, hco, h4, rfl, rfl, rfl, rfl, hco, h4, trivial⟩
    · have h5 : O.length = 0 := by omega
      have R := no_run (orL_ok (mkL_ok (sp1s_ok A (pks (ups A)) ts)) (orL_ok (mkL_ok (sp2s_ok A (pks (ups A)) ts (pks O) O.length K)) (mkL_ok (spLs_ok O.length (pks O) (K : Int) ts)))) (lw_s_none (A : Int) A O.length K (pks (ups A)) (pks O) ts n c)
        ⟨decide_eq_false h0, decide_eq_false h1, decide_eq_false h3, rfl, rfl, rfl, rfl, ⟨rfl, hp, hA, rfl, hT.fl, hc.2⟩, rfl, rfl, rfl, rfl, hok, hc.2, rfl, rfl, rfl, rfl, hco, h5, rfl, trivial⟩
      rw [h5] at R
      exact R
  · exact no_run (mkL_ok (sp2z_ok ts)) (lw_s_zero a ts n c) ⟨decide_eq_false h0, decide_eq_false h1, decide_eq_false h3, decide_eq_false h2, rfl, rfl, rfl, rfl, ⟨hT, hl, hn⟩, hc.2, rfl, rfl, trivial⟩
end Go.Proofs.Ytcahhoemlmbnaaa
