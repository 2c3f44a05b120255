/-
  Chapter 26: the statement PipelineOrder: the law's loops, run (written by wip/tools/gen_poi.py).
-/
import Derived.Test.YthbcemcgbgoplaaPoH
namespace Go.Proofs.Ythbcemcgbgoplaa
set_option linter.unusedSimpArgs false
set_option linter.unusedVariables false
set_option linter.unusedSectionVars false
open Go Go.RowKit
def lwT (C' : List Value) (o : Int) (k : Nat) : TFun := orTz (mkT 7 [] gTrueY) (orTz (mkT 8 [.f, .f] gNw) (orTz (puT C') (orTz (okT C') (orTz (popT C' o) (orTz (hdT k) (mkT 12 [.f, .f] (gB2 FullIs)))))))
def lwTab : FuncId → List Nat := fun f => bif Nat.beq f 3 then [37, 41, 45, 49, 54, 61, 79, 94, 98, 102, 107, 118, 149, 172, 189, 197, 210] else []
def lwSy : FuncId → Nat → Option Nat := orSy (lsSy 3 [(58, 0), (63, 0), (67, 0), (74, 0), (75, 0), (100075, 0), (81, 0), (84, 0), (89, 0), (86, 0), (91, 0), (113, 0), (114, 0), (116, 0), (117, 7), (141, 0), (142, 0), (144, 0), (145, 0), (146, 0), (100146, 0), (153, 0), (154, 0), (171, 0), (181, 0), (209, 0)]) (lsSy 10 [(8, 0)])
def lwV (C' : List Value) (o : Int) (k : Nat) (L : LFun) : Tv := ⟨lwT C' o k, noXz, L, lwTab, lwSy, fun _ => [], fun _ => 0⟩
def pB1 (P : Program) : Code := bodyIn P 3 7
def pB2 (P : Program) : Code := bodyIn P 3 14
def pB3 (P : Program) : Code := bodyIn P 3 23
def i6 (x : Int) : Value := .int .i64 x
def hV (m : Nat) : Value := .slice (some ⟨6, 0, none⟩) m m
def p1S (n me f : Int) (m : Nat) (t : Value) (i : Nat) : List (Nat × Value) := [(0, .int .i64 n), (1, .int .i64 me), (2, .int .i64 f), (3, .int .i64 (m : Int)), (4, t), (11, .bool true), (12, pp 5 0), (14, hV m), (15, .int .i64 (i : Int))]
def p1X (n f : Int) (m : Nat) (t : Value) : List (Nat × Value) := [(0, .int .i64 n), (2, .int .i64 f), (3, .int .i64 (m : Int)), (4, t), (11, .bool true), (12, pp 5 0), (14, hV m)]
def tV (c d : Nat) : Value := .slice (some ⟨4, 0, none⟩) c d
def p2S (n f : Int) (m c d a i : Nat) : List (Nat × Value) := [(0, .int .i64 n), (2, .int .i64 f), (3, .int .i64 (m : Int)), (4, tV c d), (11, .bool true), (12, pp 5 0), (14, hV m), (16, .int .i64 (a : Int)), (17, .int .i64 (i : Int))]

theorem p1_nr (inr : Bool) (n me f : Int) (m i : Nat) (C H : List Value) (C' : List Value) (o : Int) (k : Nat) : prjZ [0, 1, 2, 3, 4, 11, 12, 14, 15] (codeZ (lwV C' o k noL) Try.prog (runZ (lwV C' o k noL) Try.prog 9) 3 inr 100000 (pB1 Try.prog) (SL 213 (p1S n me f m (.slice none 0 0) i)) [(6, ⟨.shut, H⟩), (5, ⟨.shut, C⟩)] 7 [true]) =
  Res.ok ((Xt.normal, 213, [(0, Value.int IntKind.i64 n), (1, Value.int IntKind.i64 me), (2, Value.int IntKind.i64 f), (3, Value.int IntKind.i64 (↑m : Int)), (4, Value.slice none 0 0), (11, Value.bool true), (12,
 Value.pointer (some (Addr.mk 5 0 none))), (14, Value.slice (some (Addr.mk 6 0 none)) m m), (15, Value.int IntKind.i64 (↑(i + 1) : Int))], [(5, Rw.mk Kd.shut C'), (6, Rw.mk Kd.shut (splice H i [Value.int IntKind.i64 (slI
 (1 : Int) me)]))], 9, [6, 5], []), [], [decide ((↑i : Int) < (↑m : Int)) = true, rg IntKind.i64 (adI f (↑i : Int)), rg IntKind.u64 (adI f (↑i : Int)), PuF C [Value.int IntKind.i64 (2 : Int), Value.int IntKind.i64 (0 :
 Int), Value.int IntKind.i64 (0 : Int), Value.int IntKind.i64 (2 : Int), Value.int IntKind.i64 (0 : Int), Value.int IntKind.i64 (adI f (↑i : Int)), Value.int IntKind.i64 (0 : Int), Value.int IntKind.i64 (0 : Int),
 Value.int IntKind.i64 (0 : Int), Value.int IntKind.u64 (0 : Int), Value.int IntKind.u64 (adI f (↑i : Int)), Value.int IntKind.i64 (0 : Int), Value.int IntKind.i64 (0 : Int), Value.int IntKind.u64 (0 : Int), Value.int
 IntKind.i64 (0 : Int), Value.int IntKind.i64 (0 : Int), Value.slice none 0 0] C', (0 : Int) ≤ me ∧ me ≤ (64 : Int) ∧ rg IntKind.i64 (slI (1 : Int) me), (0 : Int) ≤ (↑i : Int) ∧ (↑i : Int) < (↑m : Int), i + 1 ≤ List.length
 H, rg IntKind.i64 (↑(i + 1) : Int)]) := by kernel_rfl
theorem p1_ne (inr : Bool) (n me f : Int) (m i : Nat) (C H : List Value) (C' : List Value) (o : Int) (k : Nat) : prjZ [0, 2, 3, 4, 11, 12, 14] (codeZ (lwV C' o k noL) Try.prog (runZ (lwV C' o k noL) Try.prog 9) 3 inr 100000 (pB1 Try.prog) (SL 213 (p1S n me f m (.slice none 0 0) i)) [(6, ⟨.shut, H⟩), (5, ⟨.shut, C⟩)] 7 [false]) =
  Res.ok ((Xt.exit 0, 213, [(0, Value.int IntKind.i64 n), (2, Value.int IntKind.i64 f), (3, Value.int IntKind.i64 (↑m : Int)), (4, Value.slice none 0 0), (11, Value.bool true), (12, Value.pointer (some (Addr.mk 5 0 none))),
 (14, Value.slice (some (Addr.mk 6 0 none)) m m)], [(6, Rw.mk Kd.shut H), (5, Rw.mk Kd.shut C)], 7, [], []), [], [decide ((↑i : Int) < (↑m : Int)) = false]) := by kernel_rfl
theorem p1_sr (inr : Bool) (n me f : Int) (m i : Nat) (C H : List Value) (ns : List Value) (c d : Nat) (C' : List Value) (o : Int) (k : Nat) : prjZ [0, 1, 2, 3, 4, 11, 12, 14, 15] (codeZ (lwV C' o k noL) Try.prog (runZ (lwV C' o k noL) Try.prog 9) 3 inr 100000 (pB1 Try.prog) (SL 213 (p1S n me f m (tV c d) i)) [(6, ⟨.shut, H⟩), (5, ⟨.shut, C⟩), (4, ⟨.old, ns⟩)] 7 [true]) =
  Res.ok ((Xt.normal, 213, [(0, Value.int IntKind.i64 n), (1, Value.int IntKind.i64 me), (2, Value.int IntKind.i64 f), (3, Value.int IntKind.i64 (↑m : Int)), (4, Value.slice (some (Addr.mk 4 0 none)) c d), (11, Value.bool
 true), (12, Value.pointer (some (Addr.mk 5 0 none))), (14, Value.slice (some (Addr.mk 6 0 none)) m m), (15, Value.int IntKind.i64 (↑(i + 1) : Int))], [(5, Rw.mk Kd.shut C'), (6, Rw.mk Kd.shut (splice H i [Value.int
 IntKind.i64 (slI (1 : Int) me)])), (4, Rw.mk Kd.old ns)], 9, [6, 5], []), [], [decide ((↑i : Int) < (↑m : Int)) = true, rg IntKind.i64 (adI f (↑i : Int)), rg IntKind.u64 (adI f (↑i : Int)), PuF C [Value.int IntKind.i64 (2
 : Int), Value.int IntKind.i64 (0 : Int), Value.int IntKind.i64 (0 : Int), Value.int IntKind.i64 (2 : Int), Value.int IntKind.i64 (0 : Int), Value.int IntKind.i64 (adI f (↑i : Int)), Value.int IntKind.i64 (0 : Int),
 Value.int IntKind.i64 (0 : Int), Value.int IntKind.i64 (0 : Int), Value.int IntKind.u64 (0 : Int), Value.int IntKind.u64 (adI f (↑i : Int)), Value.int IntKind.i64 (0 : Int), Value.int IntKind.i64 (0 : Int), Value.int
 IntKind.u64 (0 : Int), Value.int IntKind.i64 (0 : Int), Value.int IntKind.i64 (0 : Int), Value.slice none 0 0] C', (0 : Int) ≤ me ∧ me ≤ (64 : Int) ∧ rg IntKind.i64 (slI (1 : Int) me), (0 : Int) ≤ (↑i : Int) ∧ (↑i : Int)
 < (↑m : Int), i + 1 ≤ List.length H, rg IntKind.i64 (↑(i + 1) : Int)]) := by kernel_rfl
theorem p1_se (inr : Bool) (n me f : Int) (m i : Nat) (C H : List Value) (ns : List Value) (c d : Nat) (C' : List Value) (o : Int) (k : Nat) : prjZ [0, 2, 3, 4, 11, 12, 14] (codeZ (lwV C' o k noL) Try.prog (runZ (lwV C' o k noL) Try.prog 9) 3 inr 100000 (pB1 Try.prog) (SL 213 (p1S n me f m (tV c d) i)) [(6, ⟨.shut, H⟩), (5, ⟨.shut, C⟩), (4, ⟨.old, ns⟩)] 7 [false]) =
  Res.ok ((Xt.exit 0, 213, [(0, Value.int IntKind.i64 n), (2, Value.int IntKind.i64 f), (3, Value.int IntKind.i64 (↑m : Int)), (4, Value.slice (some (Addr.mk 4 0 none)) c d), (11, Value.bool true), (12, Value.pointer (some
 (Addr.mk 5 0 none))), (14, Value.slice (some (Addr.mk 6 0 none)) m m)], [(6, Rw.mk Kd.shut H), (5, Rw.mk Kd.shut C), (4, Rw.mk Kd.old ns)], 7, [], []), [], [decide ((↑i : Int) < (↑m : Int)) = false]) := by kernel_rfl
theorem p3_r (inr : Bool) (n f : Int) (m c d a i : Nat) (C H ns : List Value) (C' : List Value) (o : Int) (k : Nat) : prjZ [0, 2, 3, 4, 11, 12, 14, 16, 17] (codeZ (lwV C' o k noL) Try.prog (runZ (lwV C' o k noL) Try.prog 9) 3 inr 100000 (pB3 Try.prog) (SL 213 (p2S n f m c d a i)) [(5, ⟨.shut, C⟩), (6, ⟨.shut, H⟩), (4, ⟨.old, ns⟩)] 42 [true, true, true, false]) =
  Res.ok ((Xt.normal, 213, [(0, Value.int IntKind.i64 n), (2, Value.int IntKind.i64 f), (3, Value.int IntKind.i64 (↑m : Int)), (4, Value.slice (some (Addr.mk 4 0 none)) c d), (11, Value.bool true), (12, Value.pointer (some
 (Addr.mk 5 0 none))), (14, Value.slice (some (Addr.mk 6 0 none)) m m), (16, Value.int IntKind.i64 (↑(a + 1) : Int)), (17, Value.int IntKind.i64 (↑i : Int))], [(43, Rw.mk Kd.shut [Value.int IntKind.i64 (2 : Int), Value.int
 IntKind.i64 (0 : Int), Value.int IntKind.i64 (0 : Int), Value.int IntKind.i64 (2 : Int), Value.int IntKind.i64 (0 : Int), Value.int IntKind.i64 o, Value.int IntKind.i64 (0 : Int), Value.int IntKind.i64 (0 : Int),
 Value.int IntKind.i64 (0 : Int), Value.int IntKind.u64 (0 : Int), Value.int IntKind.u64 o, Value.int IntKind.i64 (0 : Int), Value.int IntKind.i64 (0 : Int), Value.int IntKind.u64 (0 : Int), Value.int IntKind.i64 (0 :
 Int), Value.int IntKind.i64 (0 : Int), Value.slice none 0 0]), (5, Rw.mk Kd.shut C'), (6, Rw.mk Kd.shut H), (4, Rw.mk Kd.old ns)], 44, [43, 5], []), [], [decide ((↑a : Int) < (↑m : Int)) = true, (0 : Int) ≤ (↑a : Int) ∧
 (↑a : Int) < (↑m : Int), H[a]? = some (Value.int IntKind.i64 (intAt H a)), FullIs (intAt H a) n true, PoY C C' o, rg IntKind.i64 (adI f (↑a : Int)), (o != adI f (↑a : Int)) = false, rg IntKind.i64 (↑(a + 1) : Int)]) := by kernel_rfl
theorem p3_e1 (inr : Bool) (n f : Int) (m c d a i : Nat) (C H ns : List Value) (C' : List Value) (o : Int) (k : Nat) : prjZ [0, 2, 3, 4, 11, 12, 14, 16, 17] (codeZ (lwV C' o k noL) Try.prog (runZ (lwV C' o k noL) Try.prog 9) 3 inr 100000 (pB3 Try.prog) (SL 213 (p2S n f m c d a i)) [(5, ⟨.shut, C⟩), (6, ⟨.shut, H⟩), (4, ⟨.old, ns⟩)] 42 [false]) =
  Res.ok ((Xt.exit 4, 213, [(0, Value.int IntKind.i64 n), (2, Value.int IntKind.i64 f), (3, Value.int IntKind.i64 (↑m : Int)), (4, Value.slice (some (Addr.mk 4 0 none)) c d), (11, Value.bool true), (12, Value.pointer (some
 (Addr.mk 5 0 none))), (14, Value.slice (some (Addr.mk 6 0 none)) m m), (16, Value.int IntKind.i64 (↑a : Int)), (17, Value.int IntKind.i64 (↑i : Int))], [(5, Rw.mk Kd.shut C), (6, Rw.mk Kd.shut H), (4, Rw.mk Kd.old ns)],
 42, [], []), [], [decide ((↑a : Int) < (↑m : Int)) = false]) := by kernel_rfl
theorem p3_e2 (inr : Bool) (n f : Int) (m c d a i : Nat) (C H ns : List Value) (C' : List Value) (o : Int) (k : Nat) : prjZ [0, 2, 3, 4, 11, 12, 14, 16, 17] (codeZ (lwV C' o k noL) Try.prog (runZ (lwV C' o k noL) Try.prog 9) 3 inr 100000 (pB3 Try.prog) (SL 213 (p2S n f m c d a i)) [(5, ⟨.shut, C⟩), (6, ⟨.shut, H⟩), (4, ⟨.old, ns⟩)] 42 [true, false]) =
  Res.ok ((Xt.exit 4, 213, [(0, Value.int IntKind.i64 n), (2, Value.int IntKind.i64 f), (3, Value.int IntKind.i64 (↑m : Int)), (4, Value.slice (some (Addr.mk 4 0 none)) c d), (11, Value.bool true), (12, Value.pointer (some
 (Addr.mk 5 0 none))), (14, Value.slice (some (Addr.mk 6 0 none)) m m), (16, Value.int IntKind.i64 (↑a : Int)), (17, Value.int IntKind.i64 (↑i : Int))], [(5, Rw.mk Kd.shut C), (6, Rw.mk Kd.shut H), (4, Rw.mk Kd.old ns)],
 42, [], []), [], [decide ((↑a : Int) < (↑m : Int)) = true, (0 : Int) ≤ (↑a : Int) ∧ (↑a : Int) < (↑m : Int), H[a]? = some (Value.int IntKind.i64 (intAt H a)), FullIs (intAt H a) n false]) := by kernel_rfl
end Go.Proofs.Ythbcemcgbgoplaa
