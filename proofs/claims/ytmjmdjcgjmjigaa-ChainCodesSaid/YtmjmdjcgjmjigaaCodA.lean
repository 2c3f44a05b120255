/-
  Chapter 19: lists beside each other; lists that are lent; the codes that are not 0: contracts.
-/
import Derived.Test.YtmjmdjcgjmjigaaLentT
import Derived.Test.YtmjmdjcgjmjigaaResB
namespace Go.Proofs.Ytmjmdjcgjmjigaa
set_option linter.unusedSimpArgs false
set_option linter.unusedVariables false
set_option linter.unusedSectionVars false
open Go Go.RowKit

/-! ### lists beside each other -/
def eqlV (f : Nat) (L : LFun) : Tv := ⟨noTz, noXz, L, tbl f [10, 14, 25], allSy f [], fun _ => [], fun _ => 0⟩
def eqlC (P : Program) (f : Nat) : Code := bodyIn P f 4
def eqlSpec (ok : List Value → Nat → Prop) : LSpec := lspec (fun live h => match live, h with | [(_, .slice _ n c), (_, .slice _ _ d), _], [(_, r), _] => some (n, c, d, r.cs) | _, _ => none) (fun a => (eeS a.1 a.2.1 a.2.2.1 0, [(0, ⟨.old, a.2.2.2⟩), (1, ⟨.old, a.2.2.2⟩)], 2))
  (fun a tp => some ((.exit 0, [], [(0, ⟨.old, a.2.2.2⟩), (1, ⟨.old, a.2.2.2⟩)], 2, []), tp, [ok a.2.2.2 a.1, a.1 ≤ a.2.1 ∧ a.2.1 ≤ 9223372036854775807, a.1 ≤ a.2.2.1 ∧ a.2.2.1 ≤ 9223372036854775807]))
def eqlL (ok : List Value → Nat → Prop) (P : Program) (f : Nat) : LFun := mkL f 4 26 [0, 1, 5] (eqlC P f) (eqlSpec ok)
def sEqO (ok : List Value → Nat → Prop) : Spec2 := fun xs n ys m tp => some (⟨fun _ => .bool true, []⟩, tp, [ok xs n, ys = xs, m = n])
/-- Integers; bools; chains. -/
def okI (xs : List Value) (n : Nat) : Prop := Ints .i64 xs ∧ xs.length = n * 1
def okB (xs : List Value) (n : Nat) : Prop := Bols xs ∧ xs.length = n * 1
def okS (xs : List Value) (n : Nat) : Prop := (∃ l : List Spn, xs = spnCells l ∧ l.length = n)
theorem xi_more (inr : Bool) (xs : List Value) (n c d i : Nat) : prjZ [0, 1, 5] (codeZ (eqlV 19 noL) Try.prog (runZ (eqlV 19 noL) Try.prog 5) 19 inr 100000 (eqlC Try.prog 19) (SL 26 (eeS n c d i)) [(0, ⟨.old, xs⟩), (1, ⟨.old, xs⟩)] 2 [true, false]) =
  Res.ok ((Xt.normal, (26 : Nat), [((0 : Nat), Value.slice (some (Addr.mk (0 : Nat) (0 : Nat) none)) n c), ((1 : Nat), Value.slice (some (Addr.mk (1 : Nat) (0 : Nat) none)) n d), ((5 : Nat), Value.int IntKind.i64 (↑(i + (1
 : Nat)) : Int))], [((0 : Nat), Rw.mk Kd.old xs), ((1 : Nat), Rw.mk Kd.old xs)], (2 : Nat), [], []), [], [decide ((↑i : Int) < (↑n : Int)) = true, (0 : Int) ≤ (↑i : Int) ∧ (↑i : Int) < (↑n : Int), xs[i]? = some (Value.int
 IntKind.i64 (intAt xs i)), (0 : Int) ≤ (↑i : Int) ∧ (↑i : Int) < (↑n : Int), xs[i]? = some (Value.int IntKind.i64 (intAt xs i)), (intAt xs i != intAt xs i) = false, rg IntKind.i64 (↑(i + (1 : Nat)) : Int)]) := by kernel_rfl
theorem xi_done (inr : Bool) (xs : List Value) (n c d i : Nat) : prjZ [0] (codeZ (eqlV 19 noL) Try.prog (runZ (eqlV 19 noL) Try.prog 5) 19 inr 100000 (eqlC Try.prog 19) (SL 26 (eeS n c d i)) [(0, ⟨.old, xs⟩), (1, ⟨.old, xs⟩)] 2 [false]) =
  Res.ok ((Xt.exit (0 : Nat), (26 : Nat), [((0 : Nat), Value.slice (some (Addr.mk (0 : Nat) (0 : Nat) none)) n c)], [((0 : Nat), Rw.mk Kd.old xs), ((1 : Nat), Rw.mk Kd.old xs)], (2 : Nat), [], []), [], [decide ((↑i : Int) <
 (↑n : Int)) = false]) := by kernel_rfl
theorem xi_ss (xs : List Value) (n c d : Nat) : runZ (eqlV 19 (eqlL okI Try.prog 19)) Try.prog 5 19 [.slice (some ⟨0, 0, none⟩) n c, .slice (some ⟨1, 0, none⟩) n d] [(0, ⟨.old, xs⟩), (1, ⟨.old, xs⟩)] 2 [false] =
  Res.ok ((Value.bool true, [((0 : Nat), Rw.mk Kd.old xs), ((1 : Nat), Rw.mk Kd.old xs)], (2 : Nat), []), [], [((↑n : Int) != (↑n : Int)) = false, eqlC Try.prog (19 : Nat) = eqlC Try.prog (19 : Nat), [((0 : Nat),
 Value.slice (some (Addr.mk (0 : Nat) (0 : Nat) none)) n c), ((1 : Nat), Value.slice (some (Addr.mk (1 : Nat) (0 : Nat) none)) n d), ((5 : Nat), Value.int IntKind.i64 (0 : Int))] = eeS n c d (0 : Nat), [((0 : Nat), Rw.mk
 Kd.old xs), ((1 : Nat), Rw.mk Kd.old xs)] = [((0 : Nat), Rw.mk Kd.old xs), ((1 : Nat), Rw.mk Kd.old xs)], (2 : Nat) = (2 : Nat), okI xs n, n ≤ c ∧ c ≤ (9223372036854775807 : Nat), n ≤ d ∧ d ≤ (9223372036854775807 : Nat)]) := by kernel_rfl
theorem xi_nn  : runZ (eqlV 19 noL) Try.prog 5 19 [.slice none 0 0, .slice none 0 0] [] 2 [false, false] =
  Res.ok ((Value.bool true, [], (2 : Nat), []), [], [false = false, false = false]) := by kernel_rfl
theorem xi_sn (xs : List Value) (c : Nat) : runZ (eqlV 19 noL) Try.prog 5 19 [.slice (some ⟨0, 0, none⟩) 0 c, .slice none 0 0] [(0, ⟨.old, xs⟩)] 2 [false, false] =
  Res.ok ((Value.bool true, [((0 : Nat), Rw.mk Kd.old xs)], (2 : Nat), []), [], [false = false, false = false]) := by kernel_rfl
theorem xi_ns (ys : List Value) (d : Nat) : runZ (eqlV 19 noL) Try.prog 5 19 [.slice none 0 0, .slice (some ⟨1, 0, none⟩) 0 d] [(1, ⟨.old, ys⟩)] 2 [false, false] =
  Res.ok ((Value.bool true, [((1 : Nat), Rw.mk Kd.old ys)], (2 : Nat), []), [], [false = false, false = false]) := by kernel_rfl
theorem xb_more (inr : Bool) (xs : List Value) (n c d i : Nat) : prjZ [0, 1, 5] (codeZ (eqlV 38 noL) Try.prog (runZ (eqlV 38 noL) Try.prog 5) 38 inr 100000 (eqlC Try.prog 38) (SL 26 (eeS n c d i)) [(0, ⟨.old, xs⟩), (1, ⟨.old, xs⟩)] 2 [true, false]) =
  Res.ok ((Xt.normal, (26 : Nat), [((0 : Nat), Value.slice (some (Addr.mk (0 : Nat) (0 : Nat) none)) n c), ((1 : Nat), Value.slice (some (Addr.mk (1 : Nat) (0 : Nat) none)) n d), ((5 : Nat), Value.int IntKind.i64 (↑(i + (1
 : Nat)) : Int))], [((0 : Nat), Rw.mk Kd.old xs), ((1 : Nat), Rw.mk Kd.old xs)], (2 : Nat), [], []), [], [decide ((↑i : Int) < (↑n : Int)) = true, (0 : Int) ≤ (↑i : Int) ∧ (↑i : Int) < (↑n : Int), xs[i]? = some (Value.bool
 (boolAt xs i)), (0 : Int) ≤ (↑i : Int) ∧ (↑i : Int) < (↑n : Int), xs[i]? = some (Value.bool (boolAt xs i)), (!boolAt xs i == boolAt xs i) = false, rg IntKind.i64 (↑(i + (1 : Nat)) : Int)]) := by kernel_rfl
theorem xb_done (inr : Bool) (xs : List Value) (n c d i : Nat) : prjZ [0] (codeZ (eqlV 38 noL) Try.prog (runZ (eqlV 38 noL) Try.prog 5) 38 inr 100000 (eqlC Try.prog 38) (SL 26 (eeS n c d i)) [(0, ⟨.old, xs⟩), (1, ⟨.old, xs⟩)] 2 [false]) =
  Res.ok ((Xt.exit (0 : Nat), (26 : Nat), [((0 : Nat), Value.slice (some (Addr.mk (0 : Nat) (0 : Nat) none)) n c)], [((0 : Nat), Rw.mk Kd.old xs), ((1 : Nat), Rw.mk Kd.old xs)], (2 : Nat), [], []), [], [decide ((↑i : Int) <
 (↑n : Int)) = false]) := by kernel_rfl
theorem xb_ss (xs : List Value) (n c d : Nat) : runZ (eqlV 38 (eqlL okB Try.prog 38)) Try.prog 5 38 [.slice (some ⟨0, 0, none⟩) n c, .slice (some ⟨1, 0, none⟩) n d] [(0, ⟨.old, xs⟩), (1, ⟨.old, xs⟩)] 2 [false] =
  Res.ok ((Value.bool true, [((0 : Nat), Rw.mk Kd.old xs), ((1 : Nat), Rw.mk Kd.old xs)], (2 : Nat), []), [], [((↑n : Int) != (↑n : Int)) = false, eqlC Try.prog (38 : Nat) = eqlC Try.prog (38 : Nat), [((0 : Nat),
 Value.slice (some (Addr.mk (0 : Nat) (0 : Nat) none)) n c), ((1 : Nat), Value.slice (some (Addr.mk (1 : Nat) (0 : Nat) none)) n d), ((5 : Nat), Value.int IntKind.i64 (0 : Int))] = eeS n c d (0 : Nat), [((0 : Nat), Rw.mk
 Kd.old xs), ((1 : Nat), Rw.mk Kd.old xs)] = [((0 : Nat), Rw.mk Kd.old xs), ((1 : Nat), Rw.mk Kd.old xs)], (2 : Nat) = (2 : Nat), okB xs n, n ≤ c ∧ c ≤ (9223372036854775807 : Nat), n ≤ d ∧ d ≤ (9223372036854775807 : Nat)]) := by kernel_rfl
theorem xb_nn  : runZ (eqlV 38 noL) Try.prog 5 38 [.slice none 0 0, .slice none 0 0] [] 2 [false, false] =
  Res.ok ((Value.bool true, [], (2 : Nat), []), [], [false = false, false = false]) := by kernel_rfl
theorem xb_sn (xs : List Value) (c : Nat) : runZ (eqlV 38 noL) Try.prog 5 38 [.slice (some ⟨0, 0, none⟩) 0 c, .slice none 0 0] [(0, ⟨.old, xs⟩)] 2 [false, false] =
  Res.ok ((Value.bool true, [((0 : Nat), Rw.mk Kd.old xs)], (2 : Nat), []), [], [false = false, false = false]) := by kernel_rfl
theorem xb_ns (ys : List Value) (d : Nat) : runZ (eqlV 38 noL) Try.prog 5 38 [.slice none 0 0, .slice (some ⟨1, 0, none⟩) 0 d] [(1, ⟨.old, ys⟩)] 2 [false, false] =
  Res.ok ((Value.bool true, [((1 : Nat), Rw.mk Kd.old ys)], (2 : Nat), []), [], [false = false, false = false]) := by kernel_rfl
theorem xs_more (inr : Bool) (xs : List Value) (n c d i : Nat) : prjZ [0, 1, 5] (codeZ (eqlV 20 noL) Try.prog (runZ (eqlV 20 noL) Try.prog 5) 20 inr 100000 (eqlC Try.prog 20) (SL 26 (eeS n c d i)) [(0, ⟨.old, xs⟩), (1, ⟨.old, xs⟩)] 2 [true, false]) =
  Res.ok ((Xt.normal, (26 : Nat), [((0 : Nat), Value.slice (some (Addr.mk (0 : Nat) (0 : Nat) none)) n c), ((1 : Nat), Value.slice (some (Addr.mk (1 : Nat) (0 : Nat) none)) n d), ((5 : Nat), Value.int IntKind.i64 (↑(i + (1
 : Nat)) : Int))], [((0 : Nat), Rw.mk Kd.old xs), ((1 : Nat), Rw.mk Kd.old xs)], (2 : Nat), [], []), [], [decide ((↑i : Int) < (↑n : Int)) = true, (0 : Int) ≤ (↑i : Int) ∧ (↑i : Int) < (↑n : Int), List.take (3 : Nat)
 (List.drop (i * (3 : Nat)) xs) = [Value.int IntKind.i64 (intAt xs (i * (3 : Nat))), Value.int IntKind.i64 (intAt xs (i * (3 : Nat) + (1 : Nat))), Value.bool (boolAt xs (i * (3 : Nat) + (1 : Nat) + (1 : Nat)))], (0 : Int)
 ≤ (↑i : Int) ∧ (↑i : Int) < (↑n : Int), List.take (3 : Nat) (List.drop (i * (3 : Nat)) xs) = [Value.int IntKind.i64 (intAt xs (i * (3 : Nat))), Value.int IntKind.i64 (intAt xs (i * (3 : Nat) + (1 : Nat))), Value.bool
 (boolAt xs (i * (3 : Nat) + (1 : Nat) + (1 : Nat)))], (!(intAt xs (i * (3 : Nat)) == intAt xs (i * (3 : Nat)) && (intAt xs (i * (3 : Nat) + (1 : Nat)) == intAt xs (i * (3 : Nat) + (1 : Nat)) && (boolAt xs (i * (3 : Nat) +
 (1 : Nat) + (1 : Nat)) == boolAt xs (i * (3 : Nat) + (1 : Nat) + (1 : Nat)) && true)))) = false, rg IntKind.i64 (↑(i + (1 : Nat)) : Int)]) := by kernel_rfl
theorem xs_done (inr : Bool) (xs : List Value) (n c d i : Nat) : prjZ [0] (codeZ (eqlV 20 noL) Try.prog (runZ (eqlV 20 noL) Try.prog 5) 20 inr 100000 (eqlC Try.prog 20) (SL 26 (eeS n c d i)) [(0, ⟨.old, xs⟩), (1, ⟨.old, xs⟩)] 2 [false]) =
  Res.ok ((Xt.exit (0 : Nat), (26 : Nat), [((0 : Nat), Value.slice (some (Addr.mk (0 : Nat) (0 : Nat) none)) n c)], [((0 : Nat), Rw.mk Kd.old xs), ((1 : Nat), Rw.mk Kd.old xs)], (2 : Nat), [], []), [], [decide ((↑i : Int) <
 (↑n : Int)) = false]) := by kernel_rfl
theorem xs_ss (xs : List Value) (n c d : Nat) : runZ (eqlV 20 (eqlL okS Try.prog 20)) Try.prog 5 20 [.slice (some ⟨0, 0, none⟩) n c, .slice (some ⟨1, 0, none⟩) n d] [(0, ⟨.old, xs⟩), (1, ⟨.old, xs⟩)] 2 [false] =
  Res.ok ((Value.bool true, [((0 : Nat), Rw.mk Kd.old xs), ((1 : Nat), Rw.mk Kd.old xs)], (2 : Nat), []), [], [((↑n : Int) != (↑n : Int)) = false, eqlC Try.prog (20 : Nat) = eqlC Try.prog (20 : Nat), [((0 : Nat),
 Value.slice (some (Addr.mk (0 : Nat) (0 : Nat) none)) n c), ((1 : Nat), Value.slice (some (Addr.mk (1 : Nat) (0 : Nat) none)) n d), ((5 : Nat), Value.int IntKind.i64 (0 : Int))] = eeS n c d (0 : Nat), [((0 : Nat), Rw.mk
 Kd.old xs), ((1 : Nat), Rw.mk Kd.old xs)] = [((0 : Nat), Rw.mk Kd.old xs), ((1 : Nat), Rw.mk Kd.old xs)], (2 : Nat) = (2 : Nat), okS xs n, n ≤ c ∧ c ≤ (9223372036854775807 : Nat), n ≤ d ∧ d ≤ (9223372036854775807 : Nat)]) := by kernel_rfl
theorem xs_nn  : runZ (eqlV 20 noL) Try.prog 5 20 [.slice none 0 0, .slice none 0 0] [] 2 [false, false] =
  Res.ok ((Value.bool true, [], (2 : Nat), []), [], [false = false, false = false]) := by kernel_rfl
theorem xs_sn (xs : List Value) (c : Nat) : runZ (eqlV 20 noL) Try.prog 5 20 [.slice (some ⟨0, 0, none⟩) 0 c, .slice none 0 0] [(0, ⟨.old, xs⟩)] 2 [false, false] =
  Res.ok ((Value.bool true, [((0 : Nat), Rw.mk Kd.old xs)], (2 : Nat), []), [], [false = false, false = false]) := by kernel_rfl
theorem xs_ns (ys : List Value) (d : Nat) : runZ (eqlV 20 noL) Try.prog 5 20 [.slice none 0 0, .slice (some ⟨1, 0, none⟩) 0 d] [(1, ⟨.old, ys⟩)] 2 [false, false] =
  Res.ok ((Value.bool true, [((1 : Nat), Rw.mk Kd.old ys)], (2 : Nat), []), [], [false = false, false = false]) := by kernel_rfl
/-! ### lists that are lent -/
def leV (f : Nat) : Tv := ⟨noTz, noXz, noL, tbl f [17], allSy f [], fun _ => [], fun _ => 0⟩
theorem lb_s (xs : List Value) (n c : Nat) : prjR 1 (runZ (leV 16) Try.prog 5 16 [.slice (some ⟨0, 0, none⟩) n c] [(0, ⟨.old, xs⟩)] 1 [true, true, true, false]) =
  Res.ok ((Value.slice (some (Addr.mk (1 : Nat) (0 : Nat) none)) n (n + (3 : Nat)), Rw.mk Kd.shut (splice (splice (splice (splice (zrep [Value.bool false] (n + (3 : Nat))) (0 : Nat) (List.take (Nat.min n (n + (3 : Nat)))
 (List.take n xs))) n [Value.bool ((↑(n % (2 : Nat)) : Int) == (0 : Int))]) (n + (1 : Nat)) [Value.bool ((↑((n + (1 : Nat)) % (2 : Nat)) : Int) == (0 : Int))]) (n + (1 : Nat) + (1 : Nat)) [Value.bool ((↑((n + (1 : Nat) +
 (1 : Nat)) % (2 : Nat)) : Int) == (0 : Int))])), [], [rg IntKind.i64 (↑(n + (3 : Nat)) : Int), (0 : Int) ≤ (↑(n + (3 : Nat)) : Int) ∧ (↑(n + (3 : Nat)) : Int) ≤ (↑(n + (3 : Nat)) : Int) ∧ (1 : Int) * (↑(n + (3 : Nat)) :
 Int) ≤ (281474976710656 : Int) ∧ (↑(n + (3 : Nat)) : Int) ≤ (9223372036854775807 : Int), List.length (List.take (Nat.min n (n + (3 : Nat))) (List.take n xs)) ≤ List.length (zrep [Value.bool false] (n + (3 : Nat))), n ≤
 List.length xs, all1 (List.take n xs) = true, decide ((↑n : Int) < (↑(n + (3 : Nat)) : Int)) = true, (0 : Int) ≤ (↑n : Int) ∧ (0 : Int) < (2 : Int), (0 : Int) ≤ (↑n : Int) ∧ (↑n : Int) < (↑(n + (3 : Nat)) : Int), n + (1 :
 Nat) ≤ List.length (splice (zrep [Value.bool false] (n + (3 : Nat))) (0 : Nat) (List.take (Nat.min n (n + (3 : Nat))) (List.take n xs))), rg IntKind.i64 (↑(n + (1 : Nat)) : Int), decide ((↑(n + (1 : Nat)) : Int) < (↑(n +
 (3 : Nat)) : Int)) = true, (0 : Int) ≤ (↑(n + (1 : Nat)) : Int) ∧ (0 : Int) < (2 : Int), (0 : Int) ≤ (↑(n + (1 : Nat)) : Int) ∧ (↑(n + (1 : Nat)) : Int) < (↑(n + (3 : Nat)) : Int), n + (1 : Nat) + (1 : Nat) ≤ List.length
 (splice (splice (zrep [Value.bool false] (n + (3 : Nat))) (0 : Nat) (List.take (Nat.min n (n + (3 : Nat))) (List.take n xs))) n [Value.bool ((↑(n % (2 : Nat)) : Int) == (0 : Int))]), rg IntKind.i64 (↑(n + (1 : Nat) + (1 :
 Nat)) : Int), decide ((↑(n + (1 : Nat) + (1 : Nat)) : Int) < (↑(n + (3 : Nat)) : Int)) = true, (0 : Int) ≤ (↑(n + (1 : Nat) + (1 : Nat)) : Int) ∧ (0 : Int) < (2 : Int), (0 : Int) ≤ (↑(n + (1 : Nat) + (1 : Nat)) : Int) ∧
 (↑(n + (1 : Nat) + (1 : Nat)) : Int) < (↑(n + (3 : Nat)) : Int), n + (1 : Nat) + (1 : Nat) + (1 : Nat) ≤ List.length (splice (splice (splice (zrep [Value.bool false] (n + (3 : Nat))) (0 : Nat) (List.take (Nat.min n (n +
 (3 : Nat))) (List.take n xs))) n [Value.bool ((↑(n % (2 : Nat)) : Int) == (0 : Int))]) (n + (1 : Nat)) [Value.bool ((↑((n + (1 : Nat)) % (2 : Nat)) : Int) == (0 : Int))]), rg IntKind.i64 (↑(n + (1 : Nat) + (1 : Nat) + (1
 : Nat)) : Int), decide ((↑(n + (1 : Nat) + (1 : Nat) + (1 : Nat)) : Int) < (↑(n + (3 : Nat)) : Int)) = false, n + (3 : Nat) < (18446744073709551616 : Nat), (0 : Int) ≤ (↑n : Int) ∧ (↑n : Int) ≤ (↑(n + (3 : Nat)) : Int)]) := by kernel_rfl
theorem lb_n  : prjR 1 (runZ (leV 16) Try.prog 5 16 [.slice none 0 0] [] 1 [true, true, true, false]) =
  Res.ok ((Value.slice (some (Addr.mk (1 : Nat) (0 : Nat) none)) (0 : Nat) (3 : Nat), Rw.mk Kd.shut [Value.bool true, Value.bool false, Value.bool true]), [], [rg IntKind.i64 (3 : Int), (0 : Int) ≤ (3 : Int) ∧ (3 : Int) ≤
 (3 : Int) ∧ (3 : Int) ≤ (281474976710656 : Int) ∧ (3 : Int) ≤ (9223372036854775807 : Int), (0 : Nat) ≤ (3 : Nat), true = true, (0 : Int) ≤ (0 : Int) ∧ (0 : Int) < (2 : Int), (0 : Int) ≤ (0 : Int) ∧ (0 : Int) < (3 : Int),
 (1 : Nat) ≤ (3 : Nat), rg IntKind.i64 (1 : Int), true = true, (0 : Int) ≤ (1 : Int) ∧ (0 : Int) < (2 : Int), (0 : Int) ≤ (1 : Int) ∧ (1 : Int) < (3 : Int), (2 : Nat) ≤ (3 : Nat), rg IntKind.i64 (2 : Int), true = true, (0
 : Int) ≤ (2 : Int) ∧ (0 : Int) < (2 : Int), (0 : Int) ≤ (2 : Int) ∧ (2 : Int) < (3 : Int), (3 : Nat) ≤ (3 : Nat), rg IntKind.i64 (3 : Int), false = false, (3 : Nat) < (18446744073709551616 : Nat), (0 : Int) ≤ (0 : Int) ∧
 (0 : Int) ≤ (3 : Int)]) := by kernel_rfl
theorem ly_s (xs : List Value) (n c : Nat) : prjR 1 (runZ (leV 17) Try.prog 5 17 [.slice (some ⟨0, 0, none⟩) n c] [(0, ⟨.old, xs⟩)] 1 [true, true, true, false]) =
  Res.ok ((Value.slice (some (Addr.mk (1 : Nat) (0 : Nat) none)) n (n + (3 : Nat)), Rw.mk Kd.shut (splice (splice (splice (splice (zrep [Value.int IntKind.i64 (0 : Int)] (n + (3 : Nat))) (0 : Nat) (List.take (Nat.min n (n +
 (3 : Nat))) (List.take n xs))) n [Value.int IntKind.i64 (Int.negSucc (nat_lit 76) - (↑n : Int))]) (n + (1 : Nat)) [Value.int IntKind.i64 (Int.negSucc (nat_lit 76) - (↑(n + (1 : Nat)) : Int))]) (n + (1 : Nat) + (1 : Nat))
 [Value.int IntKind.i64 (Int.negSucc (nat_lit 76) - (↑(n + (1 : Nat) + (1 : Nat)) : Int))])), [], [rg IntKind.i64 (↑(n + (3 : Nat)) : Int), (0 : Int) ≤ (↑(n + (3 : Nat)) : Int) ∧ (↑(n + (3 : Nat)) : Int) ≤ (↑(n + (3 :
 Nat)) : Int) ∧ (8 : Int) * (↑(n + (3 : Nat)) : Int) ≤ (281474976710656 : Int) ∧ (↑(n + (3 : Nat)) : Int) ≤ (9223372036854775807 : Int), List.length (List.take (Nat.min n (n + (3 : Nat))) (List.take n xs)) ≤ List.length
 (zrep [Value.int IntKind.i64 (0 : Int)] (n + (3 : Nat))), n ≤ List.length xs, all1 (List.take n xs) = true, decide ((↑n : Int) < (↑(n + (3 : Nat)) : Int)) = true, rg IntKind.i64 (Int.negSucc (nat_lit 76) - (↑n : Int)), (0
 : Int) ≤ (↑n : Int) ∧ (↑n : Int) < (↑(n + (3 : Nat)) : Int), n + (1 : Nat) ≤ List.length (splice (zrep [Value.int IntKind.i64 (0 : Int)] (n + (3 : Nat))) (0 : Nat) (List.take (Nat.min n (n + (3 : Nat))) (List.take n
 xs))), rg IntKind.i64 (↑(n + (1 : Nat)) : Int), decide ((↑(n + (1 : Nat)) : Int) < (↑(n + (3 : Nat)) : Int)) = true, rg IntKind.i64 (Int.negSucc (nat_lit 76) - (↑(n + (1 : Nat)) : Int)), (0 : Int) ≤ (↑(n + (1 : Nat)) :
 Int) ∧ (↑(n + (1 : Nat)) : Int) < (↑(n + (3 : Nat)) : Int), n + (1 : Nat) + (1 : Nat) ≤ List.length (splice (splice (zrep [Value.int IntKind.i64 (0 : Int)] (n + (3 : Nat))) (0 : Nat) (List.take (Nat.min n (n + (3 : Nat)))
 (List.take n xs))) n [Value.int IntKind.i64 (Int.negSucc (nat_lit 76) - (↑n : Int))]), rg IntKind.i64 (↑(n + (1 : Nat) + (1 : Nat)) : Int), decide ((↑(n + (1 : Nat) + (1 : Nat)) : Int) < (↑(n + (3 : Nat)) : Int)) = true,
 rg IntKind.i64 (Int.negSucc (nat_lit 76) - (↑(n + (1 : Nat) + (1 : Nat)) : Int)), (0 : Int) ≤ (↑(n + (1 : Nat) + (1 : Nat)) : Int) ∧ (↑(n + (1 : Nat) + (1 : Nat)) : Int) < (↑(n + (3 : Nat)) : Int), n + (1 : Nat) + (1 :
 Nat) + (1 : Nat) ≤ List.length (splice (splice (splice (zrep [Value.int IntKind.i64 (0 : Int)] (n + (3 : Nat))) (0 : Nat) (List.take (Nat.min n (n + (3 : Nat))) (List.take n xs))) n [Value.int IntKind.i64 (Int.negSucc
 (nat_lit 76) - (↑n : Int))]) (n + (1 : Nat)) [Value.int IntKind.i64 (Int.negSucc (nat_lit 76) - (↑(n + (1 : Nat)) : Int))]), rg IntKind.i64 (↑(n + (1 : Nat) + (1 : Nat) + (1 : Nat)) : Int), decide ((↑(n + (1 : Nat) + (1 :
 Nat) + (1 : Nat)) : Int) < (↑(n + (3 : Nat)) : Int)) = false, n + (3 : Nat) < (18446744073709551616 : Nat), (0 : Int) ≤ (↑n : Int) ∧ (↑n : Int) ≤ (↑(n + (3 : Nat)) : Int)]) := by kernel_rfl
theorem ly_n  : prjR 1 (runZ (leV 17) Try.prog 5 17 [.slice none 0 0] [] 1 [true, true, true, false]) =
  Res.ok ((Value.slice (some (Addr.mk (1 : Nat) (0 : Nat) none)) (0 : Nat) (3 : Nat), Rw.mk Kd.shut [Value.int IntKind.i64 (Int.negSucc (nat_lit 76)), Value.int IntKind.i64 (Int.negSucc (nat_lit 76) - (1 : Int)), Value.int
 IntKind.i64 (Int.negSucc (nat_lit 76) - (2 : Int))]), [], [rg IntKind.i64 (3 : Int), (0 : Int) ≤ (3 : Int) ∧ (3 : Int) ≤ (3 : Int) ∧ (24 : Int) ≤ (281474976710656 : Int) ∧ (3 : Int) ≤ (9223372036854775807 : Int), (0 :
 Nat) ≤ (3 : Nat), true = true, rg IntKind.i64 (Int.negSucc (nat_lit 76)), (0 : Int) ≤ (0 : Int) ∧ (0 : Int) < (3 : Int), (1 : Nat) ≤ (3 : Nat), rg IntKind.i64 (1 : Int), true = true, rg IntKind.i64 (Int.negSucc (nat_lit
 76) - (1 : Int)), (0 : Int) ≤ (1 : Int) ∧ (1 : Int) < (3 : Int), (2 : Nat) ≤ (3 : Nat), rg IntKind.i64 (2 : Int), true = true, rg IntKind.i64 (Int.negSucc (nat_lit 76) - (2 : Int)), (0 : Int) ≤ (2 : Int) ∧ (2 : Int) < (3
 : Int), (3 : Nat) ≤ (3 : Nat), rg IntKind.i64 (3 : Int), false = false, (3 : Nat) < (18446744073709551616 : Nat), (0 : Int) ≤ (0 : Int) ∧ (0 : Int) ≤ (3 : Int)]) := by kernel_rfl
/-! ### codes that are not 0 -/
def rlV (L : LFun) : Tv := ⟨noTz, noXz, L, fun f => bif Nat.beq f 23 then [9, 14] else bif Nat.beq f 24 then [8, 15] else [], orSy (allSy 23 []) (allSy 24 []), fun _ => [], fun _ => 0⟩
def riB (P : Program) : Code := bodyIn P 23 3
def rrB (P : Program) : Code := bodyIn P 24 3
def riS (n c i : Nat) (out : Value) : List (Nat × Value) := [(3, out), (6, .slice (some ⟨0, 0, none⟩) n c), (7, .int .i64 (n : Int)), (8, .int .i64 (i : Int))]
def rrS (n c i : Nat) (out : Value) : List (Nat × Value) := [(0, .slice (some ⟨0, 0, none⟩) n c), (3, out), (4, .int .i64 (i : Int))]
def rtRow (ys : List Value) : Rw := ⟨.room 2 [.int .i64 0, .int .i64 0], ys⟩
theorem ri_zero0 (inr : Bool) (xs : List Value) (n c i : Nat) : prjZ [3, 6, 7, 8] (codeZ (rlV noL) Try.prog (runZ (rlV noL) Try.prog 5) 23 inr 100000 (riB Try.prog) (SL 23 (riS n c i (.slice none 0 0))) [(0, ⟨.old, xs⟩)] 1 [true, false]) =
  Res.ok ((Xt.normal, (23 : Nat), [((3 : Nat), Value.slice none (0 : Nat) (0 : Nat)), ((6 : Nat), Value.slice (some (Addr.mk (0 : Nat) (0 : Nat) none)) n c), ((7 : Nat), Value.int IntKind.i64 (↑n : Int)), ((8 : Nat),
 Value.int IntKind.i64 (↑(i + (1 : Nat)) : Int))], [((0 : Nat), Rw.mk Kd.old xs)], (1 : Nat), [], []), [], [decide ((↑i : Int) < (↑n : Int)) = true, (0 : Int) ≤ (↑i : Int) ∧ (↑i : Int) < (↑n : Int), xs[i]? = some
 (Value.int IntKind.i64 (intAt xs i)), (intAt xs i != (0 : Int)) = false, rg IntKind.i64 (↑(i + (1 : Nat)) : Int)]) := by kernel_rfl
theorem ri_more0 (inr : Bool) (xs : List Value) (n c i : Nat) : prjZ [3, 6, 7, 8] (codeZ (rlV noL) Try.prog (runZ (rlV noL) Try.prog 5) 23 inr 100000 (riB Try.prog) (SL 23 (riS n c i (.slice none 0 0))) [(0, ⟨.old, xs⟩)] 1 [true, true]) =
  Res.ok ((Xt.normal, (23 : Nat), [((3 : Nat), Value.slice (some (Addr.mk (2 : Nat) (0 : Nat) none)) (1 : Nat) (capBig + (2 : Nat))), ((6 : Nat), Value.slice (some (Addr.mk (0 : Nat) (0 : Nat) none)) n c), ((7 : Nat),
 Value.int IntKind.i64 (↑n : Int)), ((8 : Nat), Value.int IntKind.i64 (↑(i + (1 : Nat)) : Int))], [((2 : Nat), Rw.mk (Kd.room (2 : Nat) [Value.int IntKind.i64 (0 : Int), Value.int IntKind.i64 (0 : Int)]) [Value.int
 IntKind.i64 (↑i : Int), Value.int IntKind.i64 (intAt xs i)]), ((1 : Nat), Rw.mk Kd.shut [Value.int IntKind.i64 (↑i : Int), Value.int IntKind.i64 (intAt xs i)]), ((0 : Nat), Rw.mk Kd.old xs)], (3 : Nat), [], []), [],
 [decide ((↑i : Int) < (↑n : Int)) = true, (0 : Int) ≤ (↑i : Int) ∧ (↑i : Int) < (↑n : Int), xs[i]? = some (Value.int IntKind.i64 (intAt xs i)), (intAt xs i != (0 : Int)) = true, (1 : Nat) ≠ (0 : Nat), (16 : Nat) ≤
 (140737488355328 : Nat) ∧ (1 : Nat) ≤ (9223372036854775807 : Nat), (2 : Nat) ≤ (2 : Nat), true = true, rg IntKind.i64 (↑(i + (1 : Nat)) : Int)]) := by kernel_rfl
theorem ri_zero1 (inr : Bool) (xs ys : List Value) (n c i m : Nat) : prjZ [3, 6, 7, 8] (codeZ (rlV noL) Try.prog (runZ (rlV noL) Try.prog 5) 23 inr 100000 (riB Try.prog) (SL 23 (riS n c i (.slice (some ⟨1, 0, none⟩) m (capBig + 1)))) [(0, ⟨.old, xs⟩), (1, rtRow ys)] 2 [true, false]) =
  Res.ok ((Xt.normal, (23 : Nat), [((3 : Nat), Value.slice (some (Addr.mk (1 : Nat) (0 : Nat) none)) m (capBig + (1 : Nat))), ((6 : Nat), Value.slice (some (Addr.mk (0 : Nat) (0 : Nat) none)) n c), ((7 : Nat), Value.int
 IntKind.i64 (↑n : Int)), ((8 : Nat), Value.int IntKind.i64 (↑(i + (1 : Nat)) : Int))], [((0 : Nat), Rw.mk Kd.old xs), ((1 : Nat), Rw.mk (Kd.room (2 : Nat) [Value.int IntKind.i64 (0 : Int), Value.int IntKind.i64 (0 :
 Int)]) ys)], (2 : Nat), [], []), [], [decide ((↑i : Int) < (↑n : Int)) = true, (0 : Int) ≤ (↑i : Int) ∧ (↑i : Int) < (↑n : Int), xs[i]? = some (Value.int IntKind.i64 (intAt xs i)), (intAt xs i != (0 : Int)) = false, rg
 IntKind.i64 (↑(i + (1 : Nat)) : Int)]) := by kernel_rfl
theorem ri_more1 (inr : Bool) (xs ys : List Value) (n c i m : Nat) : prjZ [3, 6, 7, 8] (codeZ (rlV noL) Try.prog (runZ (rlV noL) Try.prog 5) 23 inr 100000 (riB Try.prog) (SL 23 (riS n c i (.slice (some ⟨1, 0, none⟩) m (capBig + 1)))) [(0, ⟨.old, xs⟩), (1, rtRow ys)] 2 [true, true]) =
  Res.ok ((Xt.normal, (23 : Nat), [((3 : Nat), Value.slice (some (Addr.mk (3 : Nat) (0 : Nat) none)) (m + (1 : Nat)) (capBig + (3 : Nat))), ((6 : Nat), Value.slice (some (Addr.mk (0 : Nat) (0 : Nat) none)) n c), ((7 : Nat),
 Value.int IntKind.i64 (↑n : Int)), ((8 : Nat), Value.int IntKind.i64 (↑(i + (1 : Nat)) : Int))], [((3 : Nat), Rw.mk (Kd.room (2 : Nat) [Value.int IntKind.i64 (0 : Int), Value.int IntKind.i64 (0 : Int)]) (ys ++ [Value.int
 IntKind.i64 (↑i : Int), Value.int IntKind.i64 (intAt xs i)])), ((2 : Nat), Rw.mk Kd.shut [Value.int IntKind.i64 (↑i : Int), Value.int IntKind.i64 (intAt xs i)]), ((0 : Nat), Rw.mk Kd.old xs)], (4 : Nat), [(1 : Nat)], []),
 [], [decide ((↑i : Int) < (↑n : Int)) = true, (0 : Int) ≤ (↑i : Int) ∧ (↑i : Int) < (↑n : Int), xs[i]? = some (Value.int IntKind.i64 (intAt xs i)), (intAt xs i != (0 : Int)) = true, capBig + (1 : Nat) = capBig + (1 :
 Nat), List.length ys = m * (2 : Nat), (m + (1 : Nat)) * (16 : Nat) ≤ (140737488355328 : Nat) ∧ m + (1 : Nat) ≤ (9223372036854775807 : Nat), (2 : Nat) ≤ (2 : Nat), true = true, rg IntKind.i64 (↑(i + (1 : Nat)) : Int)]) := by kernel_rfl
theorem ri_done0 (inr : Bool) (xs : List Value) (n c i : Nat) : prjZ [3] (codeZ (rlV noL) Try.prog (runZ (rlV noL) Try.prog 5) 23 inr 100000 (riB Try.prog) (SL 23 (riS n c i (.slice none 0 0))) [(0, ⟨.old, xs⟩)] 1 [false]) =
  Res.ok ((Xt.exit (0 : Nat), (23 : Nat), [((3 : Nat), Value.slice none (0 : Nat) (0 : Nat))], [((0 : Nat), Rw.mk Kd.old xs)], (1 : Nat), [], []), [], [decide ((↑i : Int) < (↑n : Int)) = false]) := by kernel_rfl
theorem ri_done1 (inr : Bool) (xs ys : List Value) (n c i m : Nat) : prjZ [3] (codeZ (rlV noL) Try.prog (runZ (rlV noL) Try.prog 5) 23 inr 100000 (riB Try.prog) (SL 23 (riS n c i (.slice (some ⟨1, 0, none⟩) m (capBig + 1)))) [(0, ⟨.old, xs⟩), (1, rtRow ys)] 2 [false]) =
  Res.ok ((Xt.exit (0 : Nat), (23 : Nat), [((3 : Nat), Value.slice (some (Addr.mk (1 : Nat) (0 : Nat) none)) m (capBig + (1 : Nat)))], [((0 : Nat), Rw.mk Kd.old xs), ((1 : Nat), Rw.mk (Kd.room (2 : Nat) [Value.int
 IntKind.i64 (0 : Int), Value.int IntKind.i64 (0 : Int)]) ys)], (2 : Nat), [], []), [], [decide ((↑i : Int) < (↑n : Int)) = false]) := by kernel_rfl
theorem rr_zero0 (inr : Bool) (xs : List Value) (n c i : Nat) : prjZ [0, 3, 4] (codeZ (rlV noL) Try.prog (runZ (rlV noL) Try.prog 5) 24 inr 100000 (rrB Try.prog) (SL 26 (rrS n c i (.slice none 0 0))) [(0, ⟨.old, xs⟩)] 1 [true, false]) =
  Res.ok ((Xt.normal, (26 : Nat), [((0 : Nat), Value.slice (some (Addr.mk (0 : Nat) (0 : Nat) none)) n c), ((3 : Nat), Value.slice none (0 : Nat) (0 : Nat)), ((4 : Nat), Value.int IntKind.i64 (↑(i + (1 : Nat)) : Int))],
 [((0 : Nat), Rw.mk Kd.old xs)], (1 : Nat), [], []), [], [decide ((↑i : Int) < (↑n : Int)) = true, (0 : Int) ≤ (↑i : Int) ∧ (↑i : Int) < (↑n : Int), xs[i]? = some (Value.int IntKind.i64 (intAt xs i)), (intAt xs i != (0 :
 Int)) = false, rg IntKind.i64 (↑(i + (1 : Nat)) : Int)]) := by kernel_rfl
theorem rr_more0 (inr : Bool) (xs : List Value) (n c i : Nat) : prjZ [0, 3, 4] (codeZ (rlV noL) Try.prog (runZ (rlV noL) Try.prog 5) 24 inr 100000 (rrB Try.prog) (SL 26 (rrS n c i (.slice none 0 0))) [(0, ⟨.old, xs⟩)] 1 [true, true]) =
  Res.ok ((Xt.normal, (26 : Nat), [((0 : Nat), Value.slice (some (Addr.mk (0 : Nat) (0 : Nat) none)) n c), ((3 : Nat), Value.slice (some (Addr.mk (2 : Nat) (0 : Nat) none)) (1 : Nat) (capBig + (2 : Nat))), ((4 : Nat),
 Value.int IntKind.i64 (↑(i + (1 : Nat)) : Int))], [((2 : Nat), Rw.mk (Kd.room (2 : Nat) [Value.int IntKind.i64 (0 : Int), Value.int IntKind.i64 (0 : Int)]) [Value.int IntKind.i64 (↑i : Int), Value.int IntKind.i64 (intAt
 xs i)]), ((1 : Nat), Rw.mk Kd.shut [Value.int IntKind.i64 (↑i : Int), Value.int IntKind.i64 (intAt xs i)]), ((0 : Nat), Rw.mk Kd.old xs)], (3 : Nat), [], []), [], [decide ((↑i : Int) < (↑n : Int)) = true, (0 : Int) ≤ (↑i
 : Int) ∧ (↑i : Int) < (↑n : Int), xs[i]? = some (Value.int IntKind.i64 (intAt xs i)), (intAt xs i != (0 : Int)) = true, (0 : Int) ≤ (↑i : Int) ∧ (↑i : Int) < (↑n : Int), xs[i]? = some (Value.int IntKind.i64 (intAt xs i)),
 (1 : Nat) ≠ (0 : Nat), (16 : Nat) ≤ (140737488355328 : Nat) ∧ (1 : Nat) ≤ (9223372036854775807 : Nat), (2 : Nat) ≤ (2 : Nat), true = true, rg IntKind.i64 (↑(i + (1 : Nat)) : Int)]) := by kernel_rfl
theorem rr_zero1 (inr : Bool) (xs ys : List Value) (n c i m : Nat) : prjZ [0, 3, 4] (codeZ (rlV noL) Try.prog (runZ (rlV noL) Try.prog 5) 24 inr 100000 (rrB Try.prog) (SL 26 (rrS n c i (.slice (some ⟨1, 0, none⟩) m (capBig + 1)))) [(0, ⟨.old, xs⟩), (1, rtRow ys)] 2 [true, false]) =
  Res.ok ((Xt.normal, (26 : Nat), [((0 : Nat), Value.slice (some (Addr.mk (0 : Nat) (0 : Nat) none)) n c), ((3 : Nat), Value.slice (some (Addr.mk (1 : Nat) (0 : Nat) none)) m (capBig + (1 : Nat))), ((4 : Nat), Value.int
 IntKind.i64 (↑(i + (1 : Nat)) : Int))], [((0 : Nat), Rw.mk Kd.old xs), ((1 : Nat), Rw.mk (Kd.room (2 : Nat) [Value.int IntKind.i64 (0 : Int), Value.int IntKind.i64 (0 : Int)]) ys)], (2 : Nat), [], []), [], [decide ((↑i :
 Int) < (↑n : Int)) = true, (0 : Int) ≤ (↑i : Int) ∧ (↑i : Int) < (↑n : Int), xs[i]? = some (Value.int IntKind.i64 (intAt xs i)), (intAt xs i != (0 : Int)) = false, rg IntKind.i64 (↑(i + (1 : Nat)) : Int)]) := by kernel_rfl
theorem rr_more1 (inr : Bool) (xs ys : List Value) (n c i m : Nat) : prjZ [0, 3, 4] (codeZ (rlV noL) Try.prog (runZ (rlV noL) Try.prog 5) 24 inr 100000 (rrB Try.prog) (SL 26 (rrS n c i (.slice (some ⟨1, 0, none⟩) m (capBig + 1)))) [(0, ⟨.old, xs⟩), (1, rtRow ys)] 2 [true, true]) =
  Res.ok ((Xt.normal, (26 : Nat), [((0 : Nat), Value.slice (some (Addr.mk (0 : Nat) (0 : Nat) none)) n c), ((3 : Nat), Value.slice (some (Addr.mk (3 : Nat) (0 : Nat) none)) (m + (1 : Nat)) (capBig + (3 : Nat))), ((4 : Nat),
 Value.int IntKind.i64 (↑(i + (1 : Nat)) : Int))], [((3 : Nat), Rw.mk (Kd.room (2 : Nat) [Value.int IntKind.i64 (0 : Int), Value.int IntKind.i64 (0 : Int)]) (ys ++ [Value.int IntKind.i64 (↑i : Int), Value.int IntKind.i64
 (intAt xs i)])), ((2 : Nat), Rw.mk Kd.shut [Value.int IntKind.i64 (↑i : Int), Value.int IntKind.i64 (intAt xs i)]), ((0 : Nat), Rw.mk Kd.old xs)], (4 : Nat), [(1 : Nat)], []), [], [decide ((↑i : Int) < (↑n : Int)) = true,
 (0 : Int) ≤ (↑i : Int) ∧ (↑i : Int) < (↑n : Int), xs[i]? = some (Value.int IntKind.i64 (intAt xs i)), (intAt xs i != (0 : Int)) = true, (0 : Int) ≤ (↑i : Int) ∧ (↑i : Int) < (↑n : Int), xs[i]? = some (Value.int
 IntKind.i64 (intAt xs i)), capBig + (1 : Nat) = capBig + (1 : Nat), List.length ys = m * (2 : Nat), (m + (1 : Nat)) * (16 : Nat) ≤ (140737488355328 : Nat) ∧ m + (1 : Nat) ≤ (9223372036854775807 : Nat), (2 : Nat) ≤ (2 :
 Nat), true = true, rg IntKind.i64 (↑(i + (1 : Nat)) : Int)]) := by kernel_rfl
theorem rr_done0 (inr : Bool) (xs : List Value) (n c i : Nat) : prjZ [3] (codeZ (rlV noL) Try.prog (runZ (rlV noL) Try.prog 5) 24 inr 100000 (rrB Try.prog) (SL 26 (rrS n c i (.slice none 0 0))) [(0, ⟨.old, xs⟩)] 1 [false]) =
  Res.ok ((Xt.exit (0 : Nat), (26 : Nat), [((3 : Nat), Value.slice none (0 : Nat) (0 : Nat))], [((0 : Nat), Rw.mk Kd.old xs)], (1 : Nat), [], []), [], [decide ((↑i : Int) < (↑n : Int)) = false]) := by kernel_rfl
theorem rr_done1 (inr : Bool) (xs ys : List Value) (n c i m : Nat) : prjZ [3] (codeZ (rlV noL) Try.prog (runZ (rlV noL) Try.prog 5) 24 inr 100000 (rrB Try.prog) (SL 26 (rrS n c i (.slice (some ⟨1, 0, none⟩) m (capBig + 1)))) [(0, ⟨.old, xs⟩), (1, rtRow ys)] 2 [false]) =
  Res.ok ((Xt.exit (0 : Nat), (26 : Nat), [((3 : Nat), Value.slice (some (Addr.mk (1 : Nat) (0 : Nat) none)) m (capBig + (1 : Nat)))], [((0 : Nat), Rw.mk Kd.old xs), ((1 : Nat), Rw.mk (Kd.room (2 : Nat) [Value.int
 IntKind.i64 (0 : Int), Value.int IntKind.i64 (0 : Int)]) ys)], (2 : Nat), [], []), [], [decide ((↑i : Int) < (↑n : Int)) = false]) := by kernel_rfl
def nzN (xs : List Value) : Nat → Nat → Nat
  | _, 0 => 0
  | i, k + 1 => bif intAt xs i != 0 then nzN xs (i + 1) k + 1 else nzN xs (i + 1) k
def nzL (xs : List Value) : Nat → Nat → List Value
  | _, 0 => []
  | i, k + 1 => bif intAt xs i != 0 then .int .i64 (i : Int) :: .int .i64 (intAt xs i) :: nzL xs (i + 1) k else nzL xs (i + 1) k
def nzSpec (S : Nat → Nat → List (Nat × Value)) : LSpec := lspec (fun live h => match live, h with | [(_, .slice _ n c), _, _], [(_, r)] => some (n, c, r.cs) | [_, (_, .slice _ n c), _, _], [(_, r)] => some (n, c, r.cs) | _, _ => none) (fun a => (S a.1 a.2.1, [(0, ⟨.old, a.2.2⟩)], 1))
  (fun a tp => match tp with
    | true :: tp' => some ((.exit 0, [(3, .slice none 0 0)], [(0, ⟨.old, a.2.2⟩)], 9, []), tp', [nzN a.2.2 0 a.1 = 0, okI a.2.2 a.1, a.1 ≤ 1000, a.1 ≤ a.2.1 ∧ a.2.1 ≤ 9223372036854775807])
    | false :: tp' => some ((.exit 0, [(3, .slice (some ⟨1, 0, none⟩) (nzN a.2.2 0 a.1) (capBig + 1))], [(0, ⟨.old, a.2.2⟩), (1, rtRow (nzL a.2.2 0 a.1))], 9, []), tp', [nzN a.2.2 0 a.1 ≠ 0, okI a.2.2 a.1, a.1 ≤ 1000, a.1 ≤ a.2.1 ∧ a.2.1 ≤ 9223372036854775807])
    | [] => none)
def sNz : Spec1 := fun xs n tp => match tp with
  | true :: tp' => some (⟨fun _ => .slice none 0 0, []⟩, tp', [Ints .i64 xs, n ≤ 1000, nzN xs 0 n = 0])
  | false :: tp' => some (⟨fun nx => .slice (some ⟨nx, 0, none⟩) (nzN xs 0 n) (capBig + nx), [rtRow (nzL xs 0 n)]⟩, tp', [Ints .i64 xs, n ≤ 1000, nzN xs 0 n ≠ 0])
  | [] => none
def nzLw (P : Program) : LFun := orL (mkL 23 3 23 [3, 6, 7, 8] (riB P) (nzSpec fun n c => riS n c 0 (.slice none 0 0))) (mkL 24 3 26 [0, 3, 4] (rrB P) (nzSpec fun n c => rrS n c 0 (.slice none 0 0)))
theorem ri_z (xs : List Value) (n c : Nat) : runZ (rlV (nzLw Try.prog)) Try.prog 5 23 [.slice (some ⟨0, 0, none⟩) n c] [(0, ⟨.old, xs⟩)] 1 [true] =
  Res.ok ((Value.slice none (0 : Nat) (0 : Nat), [((0 : Nat), Rw.mk Kd.old xs)], (9 : Nat), []), [], [riB Try.prog = riB Try.prog, [((3 : Nat), Value.slice none (0 : Nat) (0 : Nat)), ((6 : Nat), Value.slice (some (Addr.mk
 (0 : Nat) (0 : Nat) none)) n c), ((7 : Nat), Value.int IntKind.i64 (↑n : Int)), ((8 : Nat), Value.int IntKind.i64 (0 : Int))] = riS n c (0 : Nat) (Value.slice none (0 : Nat) (0 : Nat)), [((0 : Nat), Rw.mk Kd.old xs)] =
 [((0 : Nat), Rw.mk Kd.old xs)], (1 : Nat) = (1 : Nat), nzN xs (0 : Nat) n = (0 : Nat), okI xs n, n ≤ (1000 : Nat), n ≤ c ∧ c ≤ (9223372036854775807 : Nat)]) := by kernel_rfl
theorem ri_w (xs : List Value) (n c : Nat) : runZ (rlV (nzLw Try.prog)) Try.prog 5 23 [.slice (some ⟨0, 0, none⟩) n c] [(0, ⟨.old, xs⟩)] 1 [false] =
  Res.ok ((Value.slice (some (Addr.mk (1 : Nat) (0 : Nat) none)) (nzN xs (0 : Nat) n) (capBig + (1 : Nat)), [((0 : Nat), Rw.mk Kd.old xs), ((1 : Nat), Rw.mk (Kd.room (2 : Nat) [Value.int IntKind.i64 (0 : Int), Value.int
 IntKind.i64 (0 : Int)]) (nzL xs (0 : Nat) n))], (9 : Nat), []), [], [riB Try.prog = riB Try.prog, [((3 : Nat), Value.slice none (0 : Nat) (0 : Nat)), ((6 : Nat), Value.slice (some (Addr.mk (0 : Nat) (0 : Nat) none)) n c),
 ((7 : Nat), Value.int IntKind.i64 (↑n : Int)), ((8 : Nat), Value.int IntKind.i64 (0 : Int))] = riS n c (0 : Nat) (Value.slice none (0 : Nat) (0 : Nat)), [((0 : Nat), Rw.mk Kd.old xs)] = [((0 : Nat), Rw.mk Kd.old xs)], (1
 : Nat) = (1 : Nat), nzN xs (0 : Nat) n ≠ (0 : Nat), okI xs n, n ≤ (1000 : Nat), n ≤ c ∧ c ≤ (9223372036854775807 : Nat)]) := by kernel_rfl
theorem ri_n  : runZ (rlV noL) Try.prog 5 23 [.slice none 0 0] [] 1 [false, false] =
  Res.ok ((Value.slice none (0 : Nat) (0 : Nat), [], (1 : Nat), []), [false], [false = false]) := by kernel_rfl
theorem rr_z (xs : List Value) (n c : Nat) : runZ (rlV (nzLw Try.prog)) Try.prog 5 24 [.slice (some ⟨0, 0, none⟩) n c] [(0, ⟨.old, xs⟩)] 1 [true] =
  Res.ok ((Value.slice none (0 : Nat) (0 : Nat), [((0 : Nat), Rw.mk Kd.old xs)], (9 : Nat), []), [], [rrB Try.prog = rrB Try.prog, [((0 : Nat), Value.slice (some (Addr.mk (0 : Nat) (0 : Nat) none)) n c), ((3 : Nat),
 Value.slice none (0 : Nat) (0 : Nat)), ((4 : Nat), Value.int IntKind.i64 (0 : Int))] = rrS n c (0 : Nat) (Value.slice none (0 : Nat) (0 : Nat)), [((0 : Nat), Rw.mk Kd.old xs)] = [((0 : Nat), Rw.mk Kd.old xs)], (1 : Nat) =
 (1 : Nat), nzN xs (0 : Nat) n = (0 : Nat), okI xs n, n ≤ (1000 : Nat), n ≤ c ∧ c ≤ (9223372036854775807 : Nat)]) := by kernel_rfl
theorem rr_w (xs : List Value) (n c : Nat) : runZ (rlV (nzLw Try.prog)) Try.prog 5 24 [.slice (some ⟨0, 0, none⟩) n c] [(0, ⟨.old, xs⟩)] 1 [false] =
  Res.ok ((Value.slice (some (Addr.mk (1 : Nat) (0 : Nat) none)) (nzN xs (0 : Nat) n) (capBig + (1 : Nat)), [((0 : Nat), Rw.mk Kd.old xs), ((1 : Nat), Rw.mk (Kd.room (2 : Nat) [Value.int IntKind.i64 (0 : Int), Value.int
 IntKind.i64 (0 : Int)]) (nzL xs (0 : Nat) n))], (9 : Nat), []), [], [rrB Try.prog = rrB Try.prog, [((0 : Nat), Value.slice (some (Addr.mk (0 : Nat) (0 : Nat) none)) n c), ((3 : Nat), Value.slice none (0 : Nat) (0 : Nat)),
 ((4 : Nat), Value.int IntKind.i64 (0 : Int))] = rrS n c (0 : Nat) (Value.slice none (0 : Nat) (0 : Nat)), [((0 : Nat), Rw.mk Kd.old xs)] = [((0 : Nat), Rw.mk Kd.old xs)], (1 : Nat) = (1 : Nat), nzN xs (0 : Nat) n ≠ (0 :
 Nat), okI xs n, n ≤ (1000 : Nat), n ≤ c ∧ c ≤ (9223372036854775807 : Nat)]) := by kernel_rfl
theorem rr_n  : runZ (rlV noL) Try.prog 5 24 [.slice none 0 0] [] 1 [false, false] =
  Res.ok ((Value.slice none (0 : Nat) (0 : Nat), [], (1 : Nat), []), [false], [false = false]) := by kernel_rfl
/-! ### lists beside each other: what holds -/
theorem Bols.fl {xs : List Value} (h : Bols xs) : Fl xs := by rw [h]; exact fl_bols _
theorem spn_at {l : List Spn} : ∀ {i : Nat} (hi : i < l.length), ((spnCells l).drop (i * 3)).take 3 = [.int .i64 ((l[i]).1 : Int), .int .i64 ((l[i]).2.1 : Int), .bool (l[i]).2.2] := by
  induction l with
  | nil => intro i hi; simp at hi
  | cons x l ih =>
    intro i hi
    have e : spnCells (x :: l) = [.int .i64 (x.1 : Int), .int .i64 (x.2.1 : Int), .bool x.2.2] ++ spnCells l := by simp [spnCells]
    rw [e]
    cases i with
    | zero => rfl
    | succ i =>
      rw [show (i + 1) * 3 = 3 + i * 3 by omega, ← List.drop_drop]
      exact ih (by simpa using hi)
theorem spn_get {l : List Spn} {i : Nat} (hi : i < l.length) : intAt (spnCells l) (i * 3) = ((l[i]).1 : Int) ∧ intAt (spnCells l) (i * 3 + 1) = ((l[i]).2.1 : Int) ∧ boolAt (spnCells l) (i * 3 + 1 + 1) = (l[i]).2.2 := by
  have h := spn_at hi
  have g : ∀ j, j < 3 → (spnCells l)[i * 3 + j]? = ([.int .i64 ((l[i]).1 : Int), .int .i64 ((l[i]).2.1 : Int), .bool (l[i]).2.2] : List Value)[j]? := fun j hj => by
    rw [← h, List.getElem?_take_of_lt hj, List.getElem?_drop]
  have g0 := g 0 (by omega)
  have g1 := g 1 (by omega)
  have g2 := g 2 (by omega)
  rw [Nat.add_zero] at g0
  refine ⟨by unfold intAt; rw [g0]; rfl, by unfold intAt; rw [g1]; rfl, by unfold boolAt; rw [show i * 3 + 1 + 1 = i * 3 + 2 by omega, g2]; rfl⟩
theorem okS.take3 {xs : List Value} {n i : Nat} (h : okS xs n) (hi : i < n) : (xs.drop (i * 3)).take 3 = [.int .i64 (intAt xs (i * 3)), .int .i64 (intAt xs (i * 3 + 1)), .bool (boolAt xs (i * 3 + 1 + 1))] := by
  obtain ⟨l, rfl, rfl⟩ := h
  obtain ⟨e1, e2, e3⟩ := spn_get hi
  rw [e1, e2, e3]
  exact spn_at hi
theorem xi_loop {inr : Bool} {h0 : Hp} {xs : List Value} {n c d : Nat} (hx : okI xs n) (hc : n ≤ c ∧ c ≤ 9223372036854775807) (hd : n ≤ d ∧ d ≤ 9223372036854775807) : ∀ (k i : Nat), i + k = n →
    LRuns inr Try.prog (eqlC Try.prog 19) 2 2 h0 26 (eeS n c d i) [(0, ⟨.old, xs⟩), (1, ⟨.old, xs⟩)] 2 (.exit 0, [], [(0, ⟨.old, xs⟩), (1, ⟨.old, xs⟩)])
  | 0, i, hk => by
      have hX : XOkZ (eqlV 19 noL) Try.prog := noXz_ok rfl
      have hT : TOkZ (eqlV 19 noL) Try.prog := noTz_okV rfl
      have hL : LOkZ (eqlV 19 noL) Try.prog := noL_okV rfl
      have hfl : Fl xs := hx.1.fl
      refine LRuns.exit (code_runs hX hL (runZ_ok hX hT hL mixed 5) mixed (xi_done inr xs n c d i) ?_) (by intro e; cases e) rfl (by omega) (by omega) (fun n => n) trivial ?_ rfl
      · simp only [Alls, decide_eq_false_iff_not]
        repeat' (first | with_reducible exact trivial | with_reducible apply And.intro)
        all_goals first | with_reducible assumption | omega | with_reducible rfl | (skip)
      · exact ⟨rb_old (by omega) rfl hfl, rb_old (by omega) rfl hfl, trivial⟩
  | k + 1, i, hk => by
      have hX : XOkZ (eqlV 19 noL) Try.prog := noXz_ok rfl
      have hT : TOkZ (eqlV 19 noL) Try.prog := noTz_okV rfl
      have hL : LOkZ (eqlV 19 noL) Try.prog := noL_okV rfl
      have hfl : Fl xs := hx.1.fl
      have g3 := hx.1.get (i := i) (by have := hx.2; omega)
      have hb : (!boolAt xs i == boolAt xs i) = false := by cases boolAt xs i <;> rfl
      refine LRuns.step (code_runs hX hL (runZ_ok hX hT hL mixed 5) mixed (xi_more inr xs n c d i) ?_) rfl (by omega) (by omega) (fun n => n) ?_ ?_ rfl (xi_loop hx hc hd k (i + 1) (by omega))
      · simp only [Alls, decide_eq_true_eq, rg, beq_self_eq_true, Bool.and_self, Bool.not_true, bne_self_eq_false]
        repeat' (first | with_reducible exact trivial | with_reducible apply And.intro)
        all_goals first | with_reducible assumption | omega | with_reducible rfl | (first | exact g3 | exact hb | (have := hc.2; omega))
      · exact ⟨rfl, rb_slc rfl (by unfold capBig; omega), rfl, rb_slc rfl (by unfold capBig; omega), rfl, rfl, trivial⟩
      · exact ⟨rb_old (by omega) rfl hfl, rb_old (by omega) rfl hfl, trivial⟩
theorem xi_spec_ok : LSOk Try.prog 26 [0, 1, 5] (eqlC Try.prog 19) (eqlSpec okI) := by
  refine lspec_ok fun a tp xt l2 h2 nx2 d tp' ob hs ho inr ts hn hg => ?_
  obtain ⟨n, c, e, xs⟩ := a
  simp only at hs hg
  simp only [Option.some.injEq, Prod.mk.injEq] at hs
  obtain ⟨⟨rfl, rfl, rfl, rfl, rfl⟩, rfl, rfl⟩ := hs
  obtain ⟨hx, hc, hd, _⟩ := ho
  have hfl : Fl xs := hx.1.fl
  have key := xi_loop (inr := inr) (h0 := [(0, ⟨.old, xs⟩), (1, ⟨.old, xs⟩)]) hx hc hd n 0 (by omega)
  refine LRuns.enter (l2 := eeS n c e 0) (h := [(0, ⟨.old, xs⟩), (1, ⟨.old, xs⟩)]) (h2 := [(0, ⟨.old, xs⟩), (1, ⟨.old, xs⟩)]) hn hg (Nat.le_refl 2) (by omega) (fun n => n) ?_ ⟨rb_old (by omega) rfl hfl, rb_old (by omega) rfl hfl, trivial⟩ rfl key ?_
  · exact ⟨rfl, rb_slc rfl (by unfold capBig; omega), rfl, rb_slc rfl (by unfold capBig; omega), rfl, rfl, trivial⟩
  · exact tidy_of (by omega) (fun n hn hd => rfl) rfl
theorem xi_gok {sz : Nat} : GOk Try.prog 19 [.s sz, .s sz] (gSS (sEqO okI)) := by
  have hX : ∀ L, XOkZ (eqlV 19 L) Try.prog := fun L => noXz_ok rfl
  have hT : ∀ L, TOkZ (eqlV 19 L) Try.prog := fun L => noTz_okV rfl
  have hL : LOkZ (eqlV 19 (eqlL okI Try.prog 19)) Try.prog := L_okV rfl (mkL_ok xi_spec_ok)
  have hL0 : LOkZ (eqlV 19 noL) Try.prog := noL_okV rfl
  refine gSS_ok (fun tp gr tp' ob hG ho => ?_) (fun xs n c tp gr tp' ob hG ho hf hl hc => ?_) (fun ys m d tp gr tp' ob hG ho hf hl hc => ?_) (fun xs n c ys m d tp gr tp' ob hG ho hf hl hc hf2 hl2 hc2 => ?_) <;> (
    unfold sEqO at hG
    simp only [Option.some.injEq, Prod.mk.injEq] at hG
    obtain ⟨rfl, rfl, rfl⟩ := hG
    obtain ⟨hx, h1, h2, _⟩ := ho)
  · exact ⟨_, _, _, _, fun n => n, run_tri (hX _) (hT _) hL0 xi_nn (by simp [Alls]) rfl, GrIs.flat fun σ => rfl⟩
  · subst h2
    exact ⟨_, _, _, _, fun n => n, run_tri (hX _) (hT _) hL0 (xi_sn xs c) (by simp [Alls]) rfl, GrIs.flat fun σ => rfl⟩
  · subst h2
    exact ⟨_, _, _, _, fun n => n, run_tri (hX _) (hT _) hL0 (xi_ns ys d) (by simp [Alls]) rfl, GrIs.flat fun σ => rfl⟩
  · subst h2
    subst h1
    refine ⟨_, _, _, _, fun n => n, run_tri (hX _) (hT _) hL (xi_ss ys m c d) ?_ rfl, GrIs.flat fun σ => rfl⟩
    have hne : (((m : Nat) : Int) != (m : Int)) = false := by simp
    simp only [Alls]
    repeat' (first | with_reducible exact trivial | with_reducible apply And.intro)
    all_goals first | with_reducible assumption | omega | with_reducible rfl | (rfl)
theorem xb_loop {inr : Bool} {h0 : Hp} {xs : List Value} {n c d : Nat} (hx : okB xs n) (hc : n ≤ c ∧ c ≤ 9223372036854775807) (hd : n ≤ d ∧ d ≤ 9223372036854775807) : ∀ (k i : Nat), i + k = n →
    LRuns inr Try.prog (eqlC Try.prog 38) 2 2 h0 26 (eeS n c d i) [(0, ⟨.old, xs⟩), (1, ⟨.old, xs⟩)] 2 (.exit 0, [], [(0, ⟨.old, xs⟩), (1, ⟨.old, xs⟩)])
  | 0, i, hk => by
      have hX : XOkZ (eqlV 38 noL) Try.prog := noXz_ok rfl
      have hT : TOkZ (eqlV 38 noL) Try.prog := noTz_okV rfl
      have hL : LOkZ (eqlV 38 noL) Try.prog := noL_okV rfl
      have hfl : Fl xs := hx.1.fl
      refine LRuns.exit (code_runs hX hL (runZ_ok hX hT hL mixed 5) mixed (xb_done inr xs n c d i) ?_) (by intro e; cases e) rfl (by omega) (by omega) (fun n => n) trivial ?_ rfl
      · simp only [Alls, decide_eq_false_iff_not]
        repeat' (first | with_reducible exact trivial | with_reducible apply And.intro)
        all_goals first | with_reducible assumption | omega | with_reducible rfl | (skip)
      · exact ⟨rb_old (by omega) rfl hfl, rb_old (by omega) rfl hfl, trivial⟩
  | k + 1, i, hk => by
      have hX : XOkZ (eqlV 38 noL) Try.prog := noXz_ok rfl
      have hT : TOkZ (eqlV 38 noL) Try.prog := noTz_okV rfl
      have hL : LOkZ (eqlV 38 noL) Try.prog := noL_okV rfl
      have hfl : Fl xs := hx.1.fl
      have g3 := hx.1.get (i := i) (by have := hx.2; omega)
      have hb : (!boolAt xs i == boolAt xs i) = false := by cases boolAt xs i <;> rfl
      refine LRuns.step (code_runs hX hL (runZ_ok hX hT hL mixed 5) mixed (xb_more inr xs n c d i) ?_) rfl (by omega) (by omega) (fun n => n) ?_ ?_ rfl (xb_loop hx hc hd k (i + 1) (by omega))
      · simp only [Alls, decide_eq_true_eq, rg, beq_self_eq_true, Bool.and_self, Bool.not_true, bne_self_eq_false]
        repeat' (first | with_reducible exact trivial | with_reducible apply And.intro)
        all_goals first | with_reducible assumption | omega | with_reducible rfl | (first | exact g3 | exact hb | (have := hc.2; omega))
      · exact ⟨rfl, rb_slc rfl (by unfold capBig; omega), rfl, rb_slc rfl (by unfold capBig; omega), rfl, rfl, trivial⟩
      · exact ⟨rb_old (by omega) rfl hfl, rb_old (by omega) rfl hfl, trivial⟩
theorem xb_spec_ok : LSOk Try.prog 26 [0, 1, 5] (eqlC Try.prog 38) (eqlSpec okB) := by
  refine lspec_ok fun a tp xt l2 h2 nx2 d tp' ob hs ho inr ts hn hg => ?_
  obtain ⟨n, c, e, xs⟩ := a
  simp only at hs hg
  simp only [Option.some.injEq, Prod.mk.injEq] at hs
  obtain ⟨⟨rfl, rfl, rfl, rfl, rfl⟩, rfl, rfl⟩ := hs
  obtain ⟨hx, hc, hd, _⟩ := ho
  have hfl : Fl xs := hx.1.fl
  have key := xb_loop (inr := inr) (h0 := [(0, ⟨.old, xs⟩), (1, ⟨.old, xs⟩)]) hx hc hd n 0 (by omega)
  refine LRuns.enter (l2 := eeS n c e 0) (h := [(0, ⟨.old, xs⟩), (1, ⟨.old, xs⟩)]) (h2 := [(0, ⟨.old, xs⟩), (1, ⟨.old, xs⟩)]) hn hg (Nat.le_refl 2) (by omega) (fun n => n) ?_ ⟨rb_old (by omega) rfl hfl, rb_old (by omega) rfl hfl, trivial⟩ rfl key ?_
  · exact ⟨rfl, rb_slc rfl (by unfold capBig; omega), rfl, rb_slc rfl (by unfold capBig; omega), rfl, rfl, trivial⟩
  · exact tidy_of (by omega) (fun n hn hd => rfl) rfl
theorem xb_gok {sz : Nat} : GOk Try.prog 38 [.s sz, .s sz] (gSS (sEqO okB)) := by
  have hX : ∀ L, XOkZ (eqlV 38 L) Try.prog := fun L => noXz_ok rfl
  have hT : ∀ L, TOkZ (eqlV 38 L) Try.prog := fun L => noTz_okV rfl
  have hL : LOkZ (eqlV 38 (eqlL okB Try.prog 38)) Try.prog := L_okV rfl (mkL_ok xb_spec_ok)
  have hL0 : LOkZ (eqlV 38 noL) Try.prog := noL_okV rfl
  refine gSS_ok (fun tp gr tp' ob hG ho => ?_) (fun xs n c tp gr tp' ob hG ho hf hl hc => ?_) (fun ys m d tp gr tp' ob hG ho hf hl hc => ?_) (fun xs n c ys m d tp gr tp' ob hG ho hf hl hc hf2 hl2 hc2 => ?_) <;> (
    unfold sEqO at hG
    simp only [Option.some.injEq, Prod.mk.injEq] at hG
    obtain ⟨rfl, rfl, rfl⟩ := hG
    obtain ⟨hx, h1, h2, _⟩ := ho)
  · exact ⟨_, _, _, _, fun n => n, run_tri (hX _) (hT _) hL0 xb_nn (by simp [Alls]) rfl, GrIs.flat fun σ => rfl⟩
  · subst h2
    exact ⟨_, _, _, _, fun n => n, run_tri (hX _) (hT _) hL0 (xb_sn xs c) (by simp [Alls]) rfl, GrIs.flat fun σ => rfl⟩
  · subst h2
    exact ⟨_, _, _, _, fun n => n, run_tri (hX _) (hT _) hL0 (xb_ns ys d) (by simp [Alls]) rfl, GrIs.flat fun σ => rfl⟩
  · subst h2
    subst h1
    refine ⟨_, _, _, _, fun n => n, run_tri (hX _) (hT _) hL (xb_ss ys m c d) ?_ rfl, GrIs.flat fun σ => rfl⟩
    have hne : (((m : Nat) : Int) != (m : Int)) = false := by simp
    simp only [Alls]
    repeat' (first | with_reducible exact trivial | with_reducible apply And.intro)
    all_goals first | with_reducible assumption | omega | with_reducible rfl | (rfl)
theorem xs_loop {inr : Bool} {h0 : Hp} {xs : List Value} {n c d : Nat} (hx : okS xs n) (hc : n ≤ c ∧ c ≤ 9223372036854775807) (hd : n ≤ d ∧ d ≤ 9223372036854775807) : ∀ (k i : Nat), i + k = n →
    LRuns inr Try.prog (eqlC Try.prog 20) 2 2 h0 26 (eeS n c d i) [(0, ⟨.old, xs⟩), (1, ⟨.old, xs⟩)] 2 (.exit 0, [], [(0, ⟨.old, xs⟩), (1, ⟨.old, xs⟩)])
  | 0, i, hk => by
      have hX : XOkZ (eqlV 20 noL) Try.prog := noXz_ok rfl
      have hT : TOkZ (eqlV 20 noL) Try.prog := noTz_okV rfl
      have hL : LOkZ (eqlV 20 noL) Try.prog := noL_okV rfl
      have hfl : Fl xs := (by obtain ⟨l, rfl, _⟩ := hx; exact spnCells_Fl l)
      refine LRuns.exit (code_runs hX hL (runZ_ok hX hT hL mixed 5) mixed (xs_done inr xs n c d i) ?_) (by intro e; cases e) rfl (by omega) (by omega) (fun n => n) trivial ?_ rfl
      · simp only [Alls, decide_eq_false_iff_not]
        repeat' (first | with_reducible exact trivial | with_reducible apply And.intro)
        all_goals first | with_reducible assumption | omega | with_reducible rfl | (skip)
      · exact ⟨rb_old (by omega) rfl hfl, rb_old (by omega) rfl hfl, trivial⟩
  | k + 1, i, hk => by
      have hX : XOkZ (eqlV 20 noL) Try.prog := noXz_ok rfl
      have hT : TOkZ (eqlV 20 noL) Try.prog := noTz_okV rfl
      have hL : LOkZ (eqlV 20 noL) Try.prog := noL_okV rfl
      have hfl : Fl xs := (by obtain ⟨l, rfl, _⟩ := hx; exact spnCells_Fl l)
      have g3 := hx.take3 (i := i) (by omega)
      have hb : (!boolAt xs i == boolAt xs i) = false := by cases boolAt xs i <;> rfl
      refine LRuns.step (code_runs hX hL (runZ_ok hX hT hL mixed 5) mixed (xs_more inr xs n c d i) ?_) rfl (by omega) (by omega) (fun n => n) ?_ ?_ rfl (xs_loop hx hc hd k (i + 1) (by omega))
      · simp only [Alls, decide_eq_true_eq, rg, beq_self_eq_true, Bool.and_self, Bool.not_true, bne_self_eq_false]
        repeat' (first | with_reducible exact trivial | with_reducible apply And.intro)
        all_goals first | with_reducible assumption | omega | with_reducible rfl | (first | exact g3 | exact hb | (have := hc.2; omega))
      · exact ⟨rfl, rb_slc rfl (by unfold capBig; omega), rfl, rb_slc rfl (by unfold capBig; omega), rfl, rfl, trivial⟩
      · exact ⟨rb_old (by omega) rfl hfl, rb_old (by omega) rfl hfl, trivial⟩
theorem xs_spec_ok : LSOk Try.prog 26 [0, 1, 5] (eqlC Try.prog 20) (eqlSpec okS) := by
  refine lspec_ok fun a tp xt l2 h2 nx2 d tp' ob hs ho inr ts hn hg => ?_
  obtain ⟨n, c, e, xs⟩ := a
  simp only at hs hg
  simp only [Option.some.injEq, Prod.mk.injEq] at hs
  obtain ⟨⟨rfl, rfl, rfl, rfl, rfl⟩, rfl, rfl⟩ := hs
  obtain ⟨hx, hc, hd, _⟩ := ho
  have hfl : Fl xs := (by obtain ⟨l, rfl, _⟩ := hx; exact spnCells_Fl l)
  have key := xs_loop (inr := inr) (h0 := [(0, ⟨.old, xs⟩), (1, ⟨.old, xs⟩)]) hx hc hd n 0 (by omega)
  refine LRuns.enter (l2 := eeS n c e 0) (h := [(0, ⟨.old, xs⟩), (1, ⟨.old, xs⟩)]) (h2 := [(0, ⟨.old, xs⟩), (1, ⟨.old, xs⟩)]) hn hg (Nat.le_refl 2) (by omega) (fun n => n) ?_ ⟨rb_old (by omega) rfl hfl, rb_old (by omega) rfl hfl, trivial⟩ rfl key ?_
  · exact ⟨rfl, rb_slc rfl (by unfold capBig; omega), rfl, rb_slc rfl (by unfold capBig; omega), rfl, rfl, trivial⟩
  · exact tidy_of (by omega) (fun n hn hd => rfl) rfl
theorem xs_gok {sz : Nat} : GOk Try.prog 20 [.s sz, .s sz] (gSS (sEqO okS)) := by
  have hX : ∀ L, XOkZ (eqlV 20 L) Try.prog := fun L => noXz_ok rfl
  have hT : ∀ L, TOkZ (eqlV 20 L) Try.prog := fun L => noTz_okV rfl
  have hL : LOkZ (eqlV 20 (eqlL okS Try.prog 20)) Try.prog := L_okV rfl (mkL_ok xs_spec_ok)
  have hL0 : LOkZ (eqlV 20 noL) Try.prog := noL_okV rfl
  refine gSS_ok (fun tp gr tp' ob hG ho => ?_) (fun xs n c tp gr tp' ob hG ho hf hl hc => ?_) (fun ys m d tp gr tp' ob hG ho hf hl hc => ?_) (fun xs n c ys m d tp gr tp' ob hG ho hf hl hc hf2 hl2 hc2 => ?_) <;> (
    unfold sEqO at hG
    simp only [Option.some.injEq, Prod.mk.injEq] at hG
    obtain ⟨rfl, rfl, rfl⟩ := hG
    obtain ⟨hx, h1, h2, _⟩ := ho)
  · exact ⟨_, _, _, _, fun n => n, run_tri (hX _) (hT _) hL0 xs_nn (by simp [Alls]) rfl, GrIs.flat fun σ => rfl⟩
  · subst h2
    exact ⟨_, _, _, _, fun n => n, run_tri (hX _) (hT _) hL0 (xs_sn xs c) (by simp [Alls]) rfl, GrIs.flat fun σ => rfl⟩
  · subst h2
    exact ⟨_, _, _, _, fun n => n, run_tri (hX _) (hT _) hL0 (xs_ns ys d) (by simp [Alls]) rfl, GrIs.flat fun σ => rfl⟩
  · subst h2
    subst h1
    refine ⟨_, _, _, _, fun n => n, run_tri (hX _) (hT _) hL (xs_ss ys m c d) ?_ rfl, GrIs.flat fun σ => rfl⟩
    have hne : (((m : Nat) : Int) != (m : Int)) = false := by simp
    simp only [Alls]
    repeat' (first | with_reducible exact trivial | with_reducible apply And.intro)
    all_goals first | with_reducible assumption | omega | with_reducible rfl | (rfl)
end Go.Proofs.Ytmjmdjcgjmjigaa
