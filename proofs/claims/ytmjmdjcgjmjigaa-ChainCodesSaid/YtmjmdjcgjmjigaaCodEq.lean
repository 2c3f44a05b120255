/-
  Chapter 19: the document's Codes: what is run.
-/
import Derived.Test.YtmjmdjcgjmjigaaCodBq
namespace Go.Proofs.Ytmjmdjcgjmjigaa
set_option linter.unusedSimpArgs false
set_option linter.unusedVariables false
set_option linter.unusedSectionVars false
open Go Go.RowKit

def rcT : TFun := orTz (mkT 21 [.s 1] (gS sSr)) (mkT 37 [.s 1, .f] gRf)
def rcV (L : LFun) : Tv := ⟨rcT, noXz, L, tbl 18 [16, 25, 35, 44, 58, 66, 73], allSy 18 [], fun _ => [], fun _ => 0⟩
def riC (P : Program) : Code := bodyIn P 18 15
def roC (P : Program) : Code := bodyIn P 18 6
def riT (n c d m k : Nat) (at_ code : Int) (i : Int) : List (Nat × Value) := [(0, .slice (some ⟨0, 0, none⟩) n c), (1, .slice (some ⟨1, 0, none⟩) n d), (6, .slice (some ⟨2, 0, none⟩) n n), (7, .slice (some ⟨3, 0, none⟩) m (capBig + 3)), (8, .int .i64 (k : Int)), (9, .int .i64 at_), (10, .int .i64 code), (11, .int .i64 i)]
def roT (n c d m k : Nat) : List (Nat × Value) := [(0, .slice (some ⟨0, 0, none⟩) n c), (1, .slice (some ⟨1, 0, none⟩) n d), (6, .slice (some ⟨2, 0, none⟩) n n), (7, .slice (some ⟨3, 0, none⟩) m (capBig + 3)), (8, .int .i64 (k : Int))]
def rcH (xs ys cs ss : List Value) : Hp := [(3, spRow ss), (2, ⟨.shut, cs⟩), (0, ⟨.old, xs⟩), (1, ⟨.old, ys⟩)]
theorem ic_more (inr : Bool) (xs ys cs ss : List Value) (n c d m k : Nat) (at_ code i : Int) : prjZ [0, 1, 6, 7, 8, 9, 10, 11] (codeZ (rcV noL) Try.prog (runZ (rcV noL) Try.prog 5) 18 inr 100000 (riC Try.prog) (SL 79 (riT n c d m k at_ code i)) (rcH xs ys cs ss) 4 [true, true]) =
  Res.ok ((Xt.normal, (79 : Nat), [((0 : Nat), Value.slice (some (Addr.mk (0 : Nat) (0 : Nat) none)) n c), ((1 : Nat), Value.slice (some (Addr.mk (1 : Nat) (0 : Nat) none)) n d), ((6 : Nat), Value.slice (some (Addr.mk (2 :
 Nat) (0 : Nat) none)) n n), ((7 : Nat), Value.slice (some (Addr.mk (3 : Nat) (0 : Nat) none)) m (capBig + (3 : Nat))), ((8 : Nat), Value.int IntKind.i64 (↑k : Int)), ((9 : Nat), Value.int IntKind.i64 at_), ((10 : Nat),
 Value.int IntKind.i64 code), ((11 : Nat), Value.int IntKind.i64 (adI i (1 : Int)))], [((3 : Nat), Rw.mk (Kd.room (3 : Nat) [Value.int IntKind.i64 (0 : Int), Value.int IntKind.i64 (0 : Int), Value.bool false]) ss), ((2 :
 Nat), Rw.mk Kd.shut (splice cs (Int.toNat i) [Value.int IntKind.i64 (1 : Int)])), ((0 : Nat), Rw.mk Kd.old xs), ((1 : Nat), Rw.mk Kd.old ys)], (4 : Nat), [(2 : Nat)], []), [], [decide (at_ ≥ (0 : Int)) = true, (0 : Int) ≤
 (↑k : Int) ∧ (↑k : Int) < (↑m : Int), ss[k * (3 : Nat) + (1 : Nat)]? = some (Value.int IntKind.i64 (intAt ss (k * (3 : Nat) + (1 : Nat)))), (bif true then decide (i < intAt ss (k * (3 : Nat) + (1 : Nat))) else false) =
 true, (0 : Int) ≤ i ∧ i < (↑n : Int), Int.toNat i + (1 : Nat) ≤ List.length cs, rg IntKind.i64 (adI i (1 : Int))]) := by kernel_rfl
theorem ic_done (inr : Bool) (xs ys cs ss : List Value) (n c d m k : Nat) (at_ code i : Int) : prjZ [0, 1, 6, 7, 8, 9, 10] (codeZ (rcV noL) Try.prog (runZ (rcV noL) Try.prog 5) 18 inr 100000 (riC Try.prog) (SL 79 (riT n c d m k at_ code i)) (rcH xs ys cs ss) 4 [true, false]) =
  Res.ok ((Xt.exit (2 : Nat), (79 : Nat), [((0 : Nat), Value.slice (some (Addr.mk (0 : Nat) (0 : Nat) none)) n c), ((1 : Nat), Value.slice (some (Addr.mk (1 : Nat) (0 : Nat) none)) n d), ((6 : Nat), Value.slice (some
 (Addr.mk (2 : Nat) (0 : Nat) none)) n n), ((7 : Nat), Value.slice (some (Addr.mk (3 : Nat) (0 : Nat) none)) m (capBig + (3 : Nat))), ((8 : Nat), Value.int IntKind.i64 (↑k : Int)), ((9 : Nat), Value.int IntKind.i64 at_),
 ((10 : Nat), Value.int IntKind.i64 code)], [((3 : Nat), Rw.mk (Kd.room (3 : Nat) [Value.int IntKind.i64 (0 : Int), Value.int IntKind.i64 (0 : Int), Value.bool false]) ss), ((2 : Nat), Rw.mk Kd.shut cs), ((0 : Nat), Rw.mk
 Kd.old xs), ((1 : Nat), Rw.mk Kd.old ys)], (4 : Nat), [], []), [], [decide (at_ ≥ (0 : Int)) = true, (0 : Int) ≤ (↑k : Int) ∧ (↑k : Int) < (↑m : Int), ss[k * (3 : Nat) + (1 : Nat)]? = some (Value.int IntKind.i64 (intAt ss
 (k * (3 : Nat) + (1 : Nat)))), (bif true then decide (i < intAt ss (k * (3 : Nat) + (1 : Nat))) else false) = false]) := by kernel_rfl
theorem ic_none (inr : Bool) (xs ys cs ss : List Value) (n c d m k : Nat) (at_ code i : Int) : prjZ [0, 1, 6, 7, 8, 9, 10] (codeZ (rcV noL) Try.prog (runZ (rcV noL) Try.prog 5) 18 inr 100000 (riC Try.prog) (SL 79 (riT n c d m k at_ code i)) (rcH xs ys cs ss) 4 [false, false]) =
  Res.ok ((Xt.exit (2 : Nat), (79 : Nat), [((0 : Nat), Value.slice (some (Addr.mk (0 : Nat) (0 : Nat) none)) n c), ((1 : Nat), Value.slice (some (Addr.mk (1 : Nat) (0 : Nat) none)) n d), ((6 : Nat), Value.slice (some
 (Addr.mk (2 : Nat) (0 : Nat) none)) n n), ((7 : Nat), Value.slice (some (Addr.mk (3 : Nat) (0 : Nat) none)) m (capBig + (3 : Nat))), ((8 : Nat), Value.int IntKind.i64 (↑k : Int)), ((9 : Nat), Value.int IntKind.i64 at_),
 ((10 : Nat), Value.int IntKind.i64 code)], [((3 : Nat), Rw.mk (Kd.room (3 : Nat) [Value.int IntKind.i64 (0 : Int), Value.int IntKind.i64 (0 : Int), Value.bool false]) ss), ((2 : Nat), Rw.mk Kd.shut cs), ((0 : Nat), Rw.mk
 Kd.old xs), ((1 : Nat), Rw.mk Kd.old ys)], (4 : Nat), [], []), [], [decide (at_ ≥ (0 : Int)) = false, false = false]) := by kernel_rfl
def riO (n c d m k : Nat) (at_ code : Int) : List (Nat × Value) := [(0, .slice (some ⟨0, 0, none⟩) n c), (1, .slice (some ⟨1, 0, none⟩) n d), (6, .slice (some ⟨2, 0, none⟩) n n), (7, .slice (some ⟨3, 0, none⟩) m (capBig + 3)), (8, .int .i64 (k : Int)), (9, .int .i64 at_), (10, .int .i64 code)]
/-- From one place to another, all is 1. -/
def fillc (cs : List Value) (f i : Nat) : List Value := cs.take f ++ (List.replicate (i - f) (.int .i64 1) ++ cs.drop i)
structure IcA where
  n : Nat
  c : Nat
  d : Nat
  m : Nat
  k : Nat
  a : Int
  code : Int
  i : Int
  xs : List Value
  ys : List Value
  cs : List Value
  ss : List Value
def icTo (q : IcA) : Int := intAt q.ss (q.k * 3 + 1)
structure IcOk (q : IcA) : Prop where
  x : Bols q.xs
  y : Ints .i64 q.ys
  z : okI q.cs q.n
  s : okS q.ss q.m
  k : q.k < q.m
  i : 0 ≤ q.i ∧ q.i ≤ icTo q ∧ icTo q ≤ (q.n : Int)
  n : q.n ≤ 1000
  m : q.m ≤ 1000
  c : q.n ≤ q.c ∧ q.c ≤ 9223372036854775807
  d : q.n ≤ q.d ∧ q.d ≤ 9223372036854775807
def icSpec : LSpec := lspec (fun live h => match live, h with | [(_, .slice _ n c), (_, .slice _ _ d), _, (_, .slice _ m _), (_, .int _ k), (_, .int _ a), (_, .int _ code), (_, .int _ i)], [(_, r3), (_, r2), (_, r0), (_, r1)] => some ⟨n, c, d, m, k.toNat, a, code, i, r0.cs, r1.cs, r2.cs, r3.cs⟩ | _, _ => none) (fun (q : IcA) => (riT q.n q.c q.d q.m q.k q.a q.code q.i, rcH q.xs q.ys q.cs q.ss, 4))
  (fun q tp => match tp with
    | true :: tp' => some ((.exit 2, riO q.n q.c q.d q.m q.k q.a q.code, rcH q.xs q.ys q.cs q.ss, 9, []), tp', [q.a < 0, IcOk q])
    | false :: tp' => some ((.exit 2, riO q.n q.c q.d q.m q.k q.a q.code, rcH q.xs q.ys (fillc q.cs q.i.toNat (icTo q).toNat) q.ss, 9, [2]), tp', [0 ≤ q.a, IcOk q])
    | [] => none)
def icL (P : Program) : LFun := mkL 18 15 79 [0, 1, 6, 7, 8, 9, 10, 11] (riC P) icSpec
theorem oc_done (inr : Bool) (xs ys cs ss : List Value) (n c d m k : Nat) : prjZ [6] (codeZ (rcV (icL Try.prog)) Try.prog (runZ (rcV (icL Try.prog)) Try.prog 5) 18 inr 100000 (roC Try.prog) (SL 79 (roT n c d m k)) (rcH xs ys cs ss) 4 [false]) =
  Res.ok ((Xt.exit (0 : Nat), (79 : Nat), [((6 : Nat), Value.slice (some (Addr.mk (2 : Nat) (0 : Nat) none)) n n)], [((3 : Nat), Rw.mk (Kd.room (3 : Nat) [Value.int IntKind.i64 (0 : Int), Value.int IntKind.i64 (0 : Int),
 Value.bool false]) ss), ((2 : Nat), Rw.mk Kd.shut cs), ((0 : Nat), Rw.mk Kd.old xs), ((1 : Nat), Rw.mk Kd.old ys)], (4 : Nat), [], []), [], [decide ((↑k : Int) < (↑m : Int)) = false]) := by kernel_rfl
theorem oc_1 (inr : Bool) (xs ys cs ss : List Value) (n c d m k : Nat) : prjZ [0, 1, 6, 7, 8] (codeZ (rcV (icL Try.prog)) Try.prog (runZ (rcV (icL Try.prog)) Try.prog 5) 18 inr 100000 (roC Try.prog) (SL 79 (roT n c d m k)) (rcH xs ys cs ss) 4 ([true] ++ [false, false] ++ [true] ++ [false])) =
  Res.ok ((Xt.normal, (79 : Nat), [((0 : Nat), Value.slice (some (Addr.mk (0 : Nat) (0 : Nat) none)) n c), ((1 : Nat), Value.slice (some (Addr.mk (1 : Nat) (0 : Nat) none)) n d), ((6 : Nat), Value.slice (some (Addr.mk (2 :
 Nat) (0 : Nat) none)) n n), ((7 : Nat), Value.slice (some (Addr.mk (3 : Nat) (0 : Nat) none)) m (capBig + (3 : Nat))), ((8 : Nat), Value.int IntKind.i64 (↑(k + (1 : Nat)) : Int))], [((3 : Nat), Rw.mk (Kd.room (3 : Nat)
 [Value.int IntKind.i64 (0 : Int), Value.int IntKind.i64 (0 : Int), Value.bool false]) ss), ((2 : Nat), Rw.mk Kd.shut cs), ((0 : Nat), Rw.mk Kd.old xs), ((1 : Nat), Rw.mk Kd.old ys)], (9 : Nat), [], []), [], [decide ((↑k :
 Int) < (↑m : Int)) = true, (0 : Int) ≤ (↑k : Int) ∧ (↑k : Int) < (↑m : Int), List.take (3 : Nat) (List.drop (k * (3 : Nat)) ss) = [Value.int IntKind.i64 (intAt ss (k * (3 : Nat))), Value.int IntKind.i64 (intAt ss (k * (3
 : Nat) + (1 : Nat))), Value.bool (boolAt ss (k * (3 : Nat) + (1 : Nat) + (1 : Nat)))], n ≤ d ∧ d ≤ (9223372036854775807 : Nat), n ≤ List.length ys, Fl (List.take n ys), okI (List.take n ys) (avLen (Av.sl (List.take n ys)
 n)), (0 : Int) ≤ intAt ss (k * (3 : Nat)) ∧ intAt ss (k * (3 : Nat)) ≤ intAt ss (k * (3 : Nat) + (1 : Nat)) ∧ intAt ss (k * (3 : Nat) + (1 : Nat)) ≤ (↑(avLen (Av.sl (List.take n ys) n)) : Int), avLen (Av.sl (List.take n
 ys) n) ≤ (1000 : Nat), decide (rfF (List.take n ys) (intAt ss (k * (3 : Nat))) (Int.toNat (intAt ss (k * (3 : Nat) + (1 : Nat)) - intAt ss (k * (3 : Nat)))) ≥ (0 : Int)) = false, (0 : Int) ≤ (↑k : Int) ∧ (↑k : Int) < (↑m
 : Int), ss[k * (3 : Nat) + (2 : Nat)]? = some (Value.bool (boolAt ss (k * (3 : Nat) + (2 : Nat)))), boolAt ss (k * (3 : Nat) + (2 : Nat)) = false, (0 : Int) ≤ (↑k : Int) ∧ (↑k : Int) < (↑m : Int), ss[k * (3 : Nat) + (0 :
 Nat)]? = some (Value.int IntKind.i64 (intAt ss (k * (3 : Nat) + (0 : Nat)))), riC Try.prog = riC Try.prog, [((0 : Nat), Value.slice (some (Addr.mk (0 : Nat) (0 : Nat) none)) n c), ((1 : Nat), Value.slice (some (Addr.mk (1
 : Nat) (0 : Nat) none)) n d), ((6 : Nat), Value.slice (some (Addr.mk (2 : Nat) (0 : Nat) none)) n n), ((7 : Nat), Value.slice (some (Addr.mk (3 : Nat) (0 : Nat) none)) m (capBig + (3 : Nat))), ((8 : Nat), Value.int
 IntKind.i64 (↑k : Int)), ((9 : Nat), Value.int IntKind.i64 (rfF (List.take n ys) (intAt ss (k * (3 : Nat))) (Int.toNat (intAt ss (k * (3 : Nat) + (1 : Nat)) - intAt ss (k * (3 : Nat)))))), ((10 : Nat), Value.int
 IntKind.i64 (0 : Int)), ((11 : Nat), Value.int IntKind.i64 (intAt ss (k * (3 : Nat) + (0 : Nat))))] = riT n c d m k (rfF (List.take n ys) (intAt ss (k * (3 : Nat))) (Int.toNat (intAt ss (k * (3 : Nat) + (1 : Nat)) - intAt
 ss (k * (3 : Nat))))) (0 : Int) (intAt ss (k * (3 : Nat) + (0 : Nat))), rowsN (4 : Nat) [] (rcH xs ys cs ss) = rcH xs ys cs ss, (4 : Nat) = (4 : Nat), rfF (List.take n ys) (intAt ss (k * (3 : Nat))) (Int.toNat (intAt ss
 (k * (3 : Nat) + (1 : Nat)) - intAt ss (k * (3 : Nat)))) < (0 : Int), IcOk (IcA.mk n c d m k (rfF (List.take n ys) (intAt ss (k * (3 : Nat))) (Int.toNat (intAt ss (k * (3 : Nat) + (1 : Nat)) - intAt ss (k * (3 : Nat)))))
 (0 : Int) (intAt ss (k * (3 : Nat) + (0 : Nat))) xs ys cs ss), decide (rfF (List.take n ys) (intAt ss (k * (3 : Nat))) (Int.toNat (intAt ss (k * (3 : Nat) + (1 : Nat)) - intAt ss (k * (3 : Nat)))) ≥ (0 : Int)) = false, rg
 IntKind.i64 (↑(k + (1 : Nat)) : Int)]) := by kernel_rfl
theorem oc_2 (inr : Bool) (xs ys cs ss : List Value) (n c d m k : Nat) : prjZ [0, 1, 6, 7, 8] (codeZ (rcV (icL Try.prog)) Try.prog (runZ (rcV (icL Try.prog)) Try.prog 5) 18 inr 100000 (roC Try.prog) (SL 79 (roT n c d m k)) (rcH xs ys cs ss) 4 ([true] ++ [true, false] ++ [false] ++ [true])) =
  Res.ok ((Xt.normal, (79 : Nat), [((0 : Nat), Value.slice (some (Addr.mk (0 : Nat) (0 : Nat) none)) n c), ((1 : Nat), Value.slice (some (Addr.mk (1 : Nat) (0 : Nat) none)) n d), ((6 : Nat), Value.slice (some (Addr.mk (2 :
 Nat) (0 : Nat) none)) n n), ((7 : Nat), Value.slice (some (Addr.mk (3 : Nat) (0 : Nat) none)) m (capBig + (3 : Nat))), ((8 : Nat), Value.int IntKind.i64 (↑(k + (1 : Nat)) : Int))], [((3 : Nat), Rw.mk (Kd.room (3 : Nat)
 [Value.int IntKind.i64 (0 : Int), Value.int IntKind.i64 (0 : Int), Value.bool false]) ss), ((2 : Nat), Rw.mk Kd.shut (splice (fillc cs (Int.toNat (intAt ss (k * (3 : Nat) + (0 : Nat)))) (Int.toNat (icTo (IcA.mk n c d m k
 (rfF (List.take n ys) (intAt ss (k * (3 : Nat))) (Int.toNat (intAt ss (k * (3 : Nat) + (1 : Nat)) - intAt ss (k * (3 : Nat))))) (intAt ys (Int.toNat (rfF (List.take n ys) (intAt ss (k * (3 : Nat))) (Int.toNat (intAt ss (k
 * (3 : Nat) + (1 : Nat)) - intAt ss (k * (3 : Nat))))))) (intAt ss (k * (3 : Nat) + (0 : Nat))) xs ys cs ss)))) (Int.toNat (rfF (List.take n ys) (intAt ss (k * (3 : Nat))) (Int.toNat (intAt ss (k * (3 : Nat) + (1 : Nat))
 - intAt ss (k * (3 : Nat)))))) [Value.int IntKind.i64 (intAt ys (Int.toNat (rfF (List.take n ys) (intAt ss (k * (3 : Nat))) (Int.toNat (intAt ss (k * (3 : Nat) + (1 : Nat)) - intAt ss (k * (3 : Nat)))))))])), ((0 : Nat),
 Rw.mk Kd.old xs), ((1 : Nat), Rw.mk Kd.old ys)], (9 : Nat), [(2 : Nat), (2 : Nat)], []), [], [decide ((↑k : Int) < (↑m : Int)) = true, (0 : Int) ≤ (↑k : Int) ∧ (↑k : Int) < (↑m : Int), List.take (3 : Nat) (List.drop (k *
 (3 : Nat)) ss) = [Value.int IntKind.i64 (intAt ss (k * (3 : Nat))), Value.int IntKind.i64 (intAt ss (k * (3 : Nat) + (1 : Nat))), Value.bool (boolAt ss (k * (3 : Nat) + (1 : Nat) + (1 : Nat)))], n ≤ d ∧ d ≤
 (9223372036854775807 : Nat), n ≤ List.length ys, Fl (List.take n ys), okI (List.take n ys) (avLen (Av.sl (List.take n ys) n)), (0 : Int) ≤ intAt ss (k * (3 : Nat)) ∧ intAt ss (k * (3 : Nat)) ≤ intAt ss (k * (3 : Nat) + (1
 : Nat)) ∧ intAt ss (k * (3 : Nat) + (1 : Nat)) ≤ (↑(avLen (Av.sl (List.take n ys) n)) : Int), avLen (Av.sl (List.take n ys) n) ≤ (1000 : Nat), decide (rfF (List.take n ys) (intAt ss (k * (3 : Nat))) (Int.toNat (intAt ss
 (k * (3 : Nat) + (1 : Nat)) - intAt ss (k * (3 : Nat)))) ≥ (0 : Int)) = true, (0 : Int) ≤ rfF (List.take n ys) (intAt ss (k * (3 : Nat))) (Int.toNat (intAt ss (k * (3 : Nat) + (1 : Nat)) - intAt ss (k * (3 : Nat)))) ∧ rfF
 (List.take n ys) (intAt ss (k * (3 : Nat))) (Int.toNat (intAt ss (k * (3 : Nat) + (1 : Nat)) - intAt ss (k * (3 : Nat)))) < (↑n : Int), ys[Int.toNat (rfF (List.take n ys) (intAt ss (k * (3 : Nat))) (Int.toNat (intAt ss (k
 * (3 : Nat) + (1 : Nat)) - intAt ss (k * (3 : Nat)))))]? = some (Value.int IntKind.i64 (intAt ys (Int.toNat (rfF (List.take n ys) (intAt ss (k * (3 : Nat))) (Int.toNat (intAt ss (k * (3 : Nat) + (1 : Nat)) - intAt ss (k *
 (3 : Nat)))))))), (0 : Int) ≤ (↑k : Int) ∧ (↑k : Int) < (↑m : Int), ss[k * (3 : Nat) + (2 : Nat)]? = some (Value.bool (boolAt ss (k * (3 : Nat) + (2 : Nat)))), boolAt ss (k * (3 : Nat) + (2 : Nat)) = false, (0 : Int) ≤
 (↑k : Int) ∧ (↑k : Int) < (↑m : Int), ss[k * (3 : Nat) + (0 : Nat)]? = some (Value.int IntKind.i64 (intAt ss (k * (3 : Nat) + (0 : Nat)))), riC Try.prog = riC Try.prog, [((0 : Nat), Value.slice (some (Addr.mk (0 : Nat) (0
 : Nat) none)) n c), ((1 : Nat), Value.slice (some (Addr.mk (1 : Nat) (0 : Nat) none)) n d), ((6 : Nat), Value.slice (some (Addr.mk (2 : Nat) (0 : Nat) none)) n n), ((7 : Nat), Value.slice (some (Addr.mk (3 : Nat) (0 :
 Nat) none)) m (capBig + (3 : Nat))), ((8 : Nat), Value.int IntKind.i64 (↑k : Int)), ((9 : Nat), Value.int IntKind.i64 (rfF (List.take n ys) (intAt ss (k * (3 : Nat))) (Int.toNat (intAt ss (k * (3 : Nat) + (1 : Nat)) -
 intAt ss (k * (3 : Nat)))))), ((10 : Nat), Value.int IntKind.i64 (intAt ys (Int.toNat (rfF (List.take n ys) (intAt ss (k * (3 : Nat))) (Int.toNat (intAt ss (k * (3 : Nat) + (1 : Nat)) - intAt ss (k * (3 : Nat)))))))),
 ((11 : Nat), Value.int IntKind.i64 (intAt ss (k * (3 : Nat) + (0 : Nat))))] = riT n c d m k (rfF (List.take n ys) (intAt ss (k * (3 : Nat))) (Int.toNat (intAt ss (k * (3 : Nat) + (1 : Nat)) - intAt ss (k * (3 : Nat)))))
 (intAt ys (Int.toNat (rfF (List.take n ys) (intAt ss (k * (3 : Nat))) (Int.toNat (intAt ss (k * (3 : Nat) + (1 : Nat)) - intAt ss (k * (3 : Nat))))))) (intAt ss (k * (3 : Nat) + (0 : Nat))), rowsN (4 : Nat) [] (rcH xs ys
 cs ss) = rcH xs ys cs ss, (4 : Nat) = (4 : Nat), (0 : Int) ≤ rfF (List.take n ys) (intAt ss (k * (3 : Nat))) (Int.toNat (intAt ss (k * (3 : Nat) + (1 : Nat)) - intAt ss (k * (3 : Nat)))), IcOk (IcA.mk n c d m k (rfF
 (List.take n ys) (intAt ss (k * (3 : Nat))) (Int.toNat (intAt ss (k * (3 : Nat) + (1 : Nat)) - intAt ss (k * (3 : Nat))))) (intAt ys (Int.toNat (rfF (List.take n ys) (intAt ss (k * (3 : Nat))) (Int.toNat (intAt ss (k * (3
 : Nat) + (1 : Nat)) - intAt ss (k * (3 : Nat))))))) (intAt ss (k * (3 : Nat) + (0 : Nat))) xs ys cs ss), decide (rfF (List.take n ys) (intAt ss (k * (3 : Nat))) (Int.toNat (intAt ss (k * (3 : Nat) + (1 : Nat)) - intAt ss
 (k * (3 : Nat)))) ≥ (0 : Int)) = true, (0 : Int) ≤ rfF (List.take n ys) (intAt ss (k * (3 : Nat))) (Int.toNat (intAt ss (k * (3 : Nat) + (1 : Nat)) - intAt ss (k * (3 : Nat)))) ∧ rfF (List.take n ys) (intAt ss (k * (3 :
 Nat))) (Int.toNat (intAt ss (k * (3 : Nat) + (1 : Nat)) - intAt ss (k * (3 : Nat)))) < (↑n : Int), Int.toNat (rfF (List.take n ys) (intAt ss (k * (3 : Nat))) (Int.toNat (intAt ss (k * (3 : Nat) + (1 : Nat)) - intAt ss (k
 * (3 : Nat))))) + (1 : Nat) ≤ List.length (fillc cs (Int.toNat (intAt ss (k * (3 : Nat) + (0 : Nat)))) (Int.toNat (icTo (IcA.mk n c d m k (rfF (List.take n ys) (intAt ss (k * (3 : Nat))) (Int.toNat (intAt ss (k * (3 :
 Nat) + (1 : Nat)) - intAt ss (k * (3 : Nat))))) (intAt ys (Int.toNat (rfF (List.take n ys) (intAt ss (k * (3 : Nat))) (Int.toNat (intAt ss (k * (3 : Nat) + (1 : Nat)) - intAt ss (k * (3 : Nat))))))) (intAt ss (k * (3 :
 Nat) + (0 : Nat))) xs ys cs ss)))), rg IntKind.i64 (↑(k + (1 : Nat)) : Int)]) := by kernel_rfl
theorem oc_3 (inr : Bool) (xs ys cs ss : List Value) (n c d m k : Nat) : prjZ [0, 1, 6, 7, 8] (codeZ (rcV (icL Try.prog)) Try.prog (runZ (rcV (icL Try.prog)) Try.prog 5) 18 inr 100000 (roC Try.prog) (SL 79 (roT n c d m k)) (rcH xs ys cs ss) 4 ([true] ++ [false, true] ++ [false] ++ [true])) =
  Res.ok ((Xt.normal, (79 : Nat), [((0 : Nat), Value.slice (some (Addr.mk (0 : Nat) (0 : Nat) none)) n c), ((1 : Nat), Value.slice (some (Addr.mk (1 : Nat) (0 : Nat) none)) n d), ((6 : Nat), Value.slice (some (Addr.mk (2 :
 Nat) (0 : Nat) none)) n n), ((7 : Nat), Value.slice (some (Addr.mk (3 : Nat) (0 : Nat) none)) m (capBig + (3 : Nat))), ((8 : Nat), Value.int IntKind.i64 (↑(k + (1 : Nat)) : Int))], [((3 : Nat), Rw.mk (Kd.room (3 : Nat)
 [Value.int IntKind.i64 (0 : Int), Value.int IntKind.i64 (0 : Int), Value.bool false]) ss), ((2 : Nat), Rw.mk Kd.shut (splice (fillc cs (Int.toNat (intAt ss (k * (3 : Nat) + (0 : Nat)))) (Int.toNat (icTo (IcA.mk n c d m k
 (intAt ss (k * (3 : Nat) + (1 : Nat)) - (1 : Int)) (2 : Int) (intAt ss (k * (3 : Nat) + (0 : Nat))) xs ys cs ss)))) (Int.toNat (intAt ss (k * (3 : Nat) + (1 : Nat)) - (1 : Int))) [Value.int IntKind.i64 (2 : Int)])), ((0 :
 Nat), Rw.mk Kd.old xs), ((1 : Nat), Rw.mk Kd.old ys)], (9 : Nat), [(2 : Nat), (2 : Nat)], []), [], [decide ((↑k : Int) < (↑m : Int)) = true, (0 : Int) ≤ (↑k : Int) ∧ (↑k : Int) < (↑m : Int), List.take (3 : Nat) (List.drop
 (k * (3 : Nat)) ss) = [Value.int IntKind.i64 (intAt ss (k * (3 : Nat))), Value.int IntKind.i64 (intAt ss (k * (3 : Nat) + (1 : Nat))), Value.bool (boolAt ss (k * (3 : Nat) + (1 : Nat) + (1 : Nat)))], n ≤ d ∧ d ≤
 (9223372036854775807 : Nat), n ≤ List.length ys, Fl (List.take n ys), okI (List.take n ys) (avLen (Av.sl (List.take n ys) n)), (0 : Int) ≤ intAt ss (k * (3 : Nat)) ∧ intAt ss (k * (3 : Nat)) ≤ intAt ss (k * (3 : Nat) + (1
 : Nat)) ∧ intAt ss (k * (3 : Nat) + (1 : Nat)) ≤ (↑(avLen (Av.sl (List.take n ys) n)) : Int), avLen (Av.sl (List.take n ys) n) ≤ (1000 : Nat), decide (rfF (List.take n ys) (intAt ss (k * (3 : Nat))) (Int.toNat (intAt ss
 (k * (3 : Nat) + (1 : Nat)) - intAt ss (k * (3 : Nat)))) ≥ (0 : Int)) = false, (0 : Int) ≤ (↑k : Int) ∧ (↑k : Int) < (↑m : Int), ss[k * (3 : Nat) + (2 : Nat)]? = some (Value.bool (boolAt ss (k * (3 : Nat) + (2 : Nat)))),
 boolAt ss (k * (3 : Nat) + (2 : Nat)) = true, (0 : Int) ≤ (↑k : Int) ∧ (↑k : Int) < (↑m : Int), ss[k * (3 : Nat) + (1 : Nat)]? = some (Value.int IntKind.i64 (intAt ss (k * (3 : Nat) + (1 : Nat)))), rg IntKind.i64 (intAt
 ss (k * (3 : Nat) + (1 : Nat)) - (1 : Int)), (0 : Int) ≤ (↑k : Int) ∧ (↑k : Int) < (↑m : Int), ss[k * (3 : Nat) + (0 : Nat)]? = some (Value.int IntKind.i64 (intAt ss (k * (3 : Nat) + (0 : Nat)))), riC Try.prog = riC
 Try.prog, [((0 : Nat), Value.slice (some (Addr.mk (0 : Nat) (0 : Nat) none)) n c), ((1 : Nat), Value.slice (some (Addr.mk (1 : Nat) (0 : Nat) none)) n d), ((6 : Nat), Value.slice (some (Addr.mk (2 : Nat) (0 : Nat) none))
 n n), ((7 : Nat), Value.slice (some (Addr.mk (3 : Nat) (0 : Nat) none)) m (capBig + (3 : Nat))), ((8 : Nat), Value.int IntKind.i64 (↑k : Int)), ((9 : Nat), Value.int IntKind.i64 (intAt ss (k * (3 : Nat) + (1 : Nat)) - (1
 : Int))), ((10 : Nat), Value.int IntKind.i64 (2 : Int)), ((11 : Nat), Value.int IntKind.i64 (intAt ss (k * (3 : Nat) + (0 : Nat))))] = riT n c d m k (intAt ss (k * (3 : Nat) + (1 : Nat)) - (1 : Int)) (2 : Int) (intAt ss
 (k * (3 : Nat) + (0 : Nat))), rowsN (4 : Nat) [] (rcH xs ys cs ss) = rcH xs ys cs ss, (4 : Nat) = (4 : Nat), (0 : Int) ≤ intAt ss (k * (3 : Nat) + (1 : Nat)) - (1 : Int), IcOk (IcA.mk n c d m k (intAt ss (k * (3 : Nat) +
 (1 : Nat)) - (1 : Int)) (2 : Int) (intAt ss (k * (3 : Nat) + (0 : Nat))) xs ys cs ss), decide (intAt ss (k * (3 : Nat) + (1 : Nat)) - (1 : Int) ≥ (0 : Int)) = true, (0 : Int) ≤ intAt ss (k * (3 : Nat) + (1 : Nat)) - (1 :
 Int) ∧ intAt ss (k * (3 : Nat) + (1 : Nat)) - (1 : Int) < (↑n : Int), Int.toNat (intAt ss (k * (3 : Nat) + (1 : Nat)) - (1 : Int)) + (1 : Nat) ≤ List.length (fillc cs (Int.toNat (intAt ss (k * (3 : Nat) + (0 : Nat))))
 (Int.toNat (icTo (IcA.mk n c d m k (intAt ss (k * (3 : Nat) + (1 : Nat)) - (1 : Int)) (2 : Int) (intAt ss (k * (3 : Nat) + (0 : Nat))) xs ys cs ss)))), rg IntKind.i64 (↑(k + (1 : Nat)) : Int)]) := by kernel_rfl
theorem oc_4 (inr : Bool) (xs ys cs ss : List Value) (n c d m k : Nat) : prjZ [0, 1, 6, 7, 8] (codeZ (rcV (icL Try.prog)) Try.prog (runZ (rcV (icL Try.prog)) Try.prog 5) 18 inr 100000 (roC Try.prog) (SL 79 (roT n c d m k)) (rcH xs ys cs ss) 4 ([true] ++ [true, true] ++ [false] ++ [true])) =
  Res.ok ((Xt.normal, (79 : Nat), [((0 : Nat), Value.slice (some (Addr.mk (0 : Nat) (0 : Nat) none)) n c), ((1 : Nat), Value.slice (some (Addr.mk (1 : Nat) (0 : Nat) none)) n d), ((6 : Nat), Value.slice (some (Addr.mk (2 :
 Nat) (0 : Nat) none)) n n), ((7 : Nat), Value.slice (some (Addr.mk (3 : Nat) (0 : Nat) none)) m (capBig + (3 : Nat))), ((8 : Nat), Value.int IntKind.i64 (↑(k + (1 : Nat)) : Int))], [((3 : Nat), Rw.mk (Kd.room (3 : Nat)
 [Value.int IntKind.i64 (0 : Int), Value.int IntKind.i64 (0 : Int), Value.bool false]) ss), ((2 : Nat), Rw.mk Kd.shut (splice (fillc cs (Int.toNat (intAt ss (k * (3 : Nat) + (0 : Nat)))) (Int.toNat (icTo (IcA.mk n c d m k
 (intAt ss (k * (3 : Nat) + (1 : Nat)) - (1 : Int)) (2 : Int) (intAt ss (k * (3 : Nat) + (0 : Nat))) xs ys cs ss)))) (Int.toNat (intAt ss (k * (3 : Nat) + (1 : Nat)) - (1 : Int))) [Value.int IntKind.i64 (2 : Int)])), ((0 :
 Nat), Rw.mk Kd.old xs), ((1 : Nat), Rw.mk Kd.old ys)], (9 : Nat), [(2 : Nat), (2 : Nat)], []), [], [decide ((↑k : Int) < (↑m : Int)) = true, (0 : Int) ≤ (↑k : Int) ∧ (↑k : Int) < (↑m : Int), List.take (3 : Nat) (List.drop
 (k * (3 : Nat)) ss) = [Value.int IntKind.i64 (intAt ss (k * (3 : Nat))), Value.int IntKind.i64 (intAt ss (k * (3 : Nat) + (1 : Nat))), Value.bool (boolAt ss (k * (3 : Nat) + (1 : Nat) + (1 : Nat)))], n ≤ d ∧ d ≤
 (9223372036854775807 : Nat), n ≤ List.length ys, Fl (List.take n ys), okI (List.take n ys) (avLen (Av.sl (List.take n ys) n)), (0 : Int) ≤ intAt ss (k * (3 : Nat)) ∧ intAt ss (k * (3 : Nat)) ≤ intAt ss (k * (3 : Nat) + (1
 : Nat)) ∧ intAt ss (k * (3 : Nat) + (1 : Nat)) ≤ (↑(avLen (Av.sl (List.take n ys) n)) : Int), avLen (Av.sl (List.take n ys) n) ≤ (1000 : Nat), decide (rfF (List.take n ys) (intAt ss (k * (3 : Nat))) (Int.toNat (intAt ss
 (k * (3 : Nat) + (1 : Nat)) - intAt ss (k * (3 : Nat)))) ≥ (0 : Int)) = true, (0 : Int) ≤ rfF (List.take n ys) (intAt ss (k * (3 : Nat))) (Int.toNat (intAt ss (k * (3 : Nat) + (1 : Nat)) - intAt ss (k * (3 : Nat)))) ∧ rfF
 (List.take n ys) (intAt ss (k * (3 : Nat))) (Int.toNat (intAt ss (k * (3 : Nat) + (1 : Nat)) - intAt ss (k * (3 : Nat)))) < (↑n : Int), ys[Int.toNat (rfF (List.take n ys) (intAt ss (k * (3 : Nat))) (Int.toNat (intAt ss (k
 * (3 : Nat) + (1 : Nat)) - intAt ss (k * (3 : Nat)))))]? = some (Value.int IntKind.i64 (intAt ys (Int.toNat (rfF (List.take n ys) (intAt ss (k * (3 : Nat))) (Int.toNat (intAt ss (k * (3 : Nat) + (1 : Nat)) - intAt ss (k *
 (3 : Nat)))))))), (0 : Int) ≤ (↑k : Int) ∧ (↑k : Int) < (↑m : Int), ss[k * (3 : Nat) + (2 : Nat)]? = some (Value.bool (boolAt ss (k * (3 : Nat) + (2 : Nat)))), boolAt ss (k * (3 : Nat) + (2 : Nat)) = true, (0 : Int) ≤ (↑k
 : Int) ∧ (↑k : Int) < (↑m : Int), ss[k * (3 : Nat) + (1 : Nat)]? = some (Value.int IntKind.i64 (intAt ss (k * (3 : Nat) + (1 : Nat)))), rg IntKind.i64 (intAt ss (k * (3 : Nat) + (1 : Nat)) - (1 : Int)), (0 : Int) ≤ (↑k :
 Int) ∧ (↑k : Int) < (↑m : Int), ss[k * (3 : Nat) + (0 : Nat)]? = some (Value.int IntKind.i64 (intAt ss (k * (3 : Nat) + (0 : Nat)))), riC Try.prog = riC Try.prog, [((0 : Nat), Value.slice (some (Addr.mk (0 : Nat) (0 :
 Nat) none)) n c), ((1 : Nat), Value.slice (some (Addr.mk (1 : Nat) (0 : Nat) none)) n d), ((6 : Nat), Value.slice (some (Addr.mk (2 : Nat) (0 : Nat) none)) n n), ((7 : Nat), Value.slice (some (Addr.mk (3 : Nat) (0 : Nat)
 none)) m (capBig + (3 : Nat))), ((8 : Nat), Value.int IntKind.i64 (↑k : Int)), ((9 : Nat), Value.int IntKind.i64 (intAt ss (k * (3 : Nat) + (1 : Nat)) - (1 : Int))), ((10 : Nat), Value.int IntKind.i64 (2 : Int)), ((11 :
 Nat), Value.int IntKind.i64 (intAt ss (k * (3 : Nat) + (0 : Nat))))] = riT n c d m k (intAt ss (k * (3 : Nat) + (1 : Nat)) - (1 : Int)) (2 : Int) (intAt ss (k * (3 : Nat) + (0 : Nat))), rowsN (4 : Nat) [] (rcH xs ys cs
 ss) = rcH xs ys cs ss, (4 : Nat) = (4 : Nat), (0 : Int) ≤ intAt ss (k * (3 : Nat) + (1 : Nat)) - (1 : Int), IcOk (IcA.mk n c d m k (intAt ss (k * (3 : Nat) + (1 : Nat)) - (1 : Int)) (2 : Int) (intAt ss (k * (3 : Nat) + (0
 : Nat))) xs ys cs ss), decide (intAt ss (k * (3 : Nat) + (1 : Nat)) - (1 : Int) ≥ (0 : Int)) = true, (0 : Int) ≤ intAt ss (k * (3 : Nat) + (1 : Nat)) - (1 : Int) ∧ intAt ss (k * (3 : Nat) + (1 : Nat)) - (1 : Int) < (↑n :
 Int), Int.toNat (intAt ss (k * (3 : Nat) + (1 : Nat)) - (1 : Int)) + (1 : Nat) ≤ List.length (fillc cs (Int.toNat (intAt ss (k * (3 : Nat) + (0 : Nat)))) (Int.toNat (icTo (IcA.mk n c d m k (intAt ss (k * (3 : Nat) + (1 :
 Nat)) - (1 : Int)) (2 : Int) (intAt ss (k * (3 : Nat) + (0 : Nat))) xs ys cs ss)))), rg IntKind.i64 (↑(k + (1 : Nat)) : Int)]) := by kernel_rfl
end Go.Proofs.Ytmjmdjcgjmjigaa
/-
  Chapter 19: the document's Codes: plain laws, and its inner loop.
-/
namespace Go.Proofs.Ytmjmdjcgjmjigaa
set_option linter.unusedSimpArgs false
set_option linter.unusedVariables false
set_option linter.unusedSectionVars false
open Go Go.RowKit

theorem ints_getD {ys : List Value} (h : Ints .i64 ys) (i : Nat) : (intsOf ys).getD i 0 = intAt ys i := by
  have e : intAt ((intsOf ys).map (Value.int .i64)) i = (intsOf ys).getD i 0 := by
    unfold intAt
    rw [List.getElem?_map, List.getD_eq_getElem?_getD]
    cases (intsOf ys)[i]? <;> rfl
  rw [← e, ← h]
theorem rfF_findF {ys : List Value} (h : Ints .i64 ys) : ∀ (d i : Nat), rfF ys (i : Int) d = (findF (intsOf ys) i d).1
  | 0, i => rfl
  | d + 1, i => by
      have ih := rfF_findF h d (i + 1)
      simp only [rfF, findF, Int.toNat_natCast]
      rw [← ints_getD h]
      by_cases hz : (intsOf ys).getD i 0 = 0
      · rw [if_pos hz]
        simp only [hz, bne_self_eq_false, cond_false]
        exact ih
      · rw [if_neg hz]
        have : ((intsOf ys).getD i 0 != 0) = true := by rw [bne_iff_ne]; exact hz
        simp only [this, cond_true]
theorem findF_at (own : List Int) : ∀ (d i : Nat), ((findF own i d).1 = -1 ∧ (findF own i d).2 = 0) ∨ ∃ a : Nat, (findF own i d).1 = (a : Int) ∧ (findF own i d).2 = own.getD a 0 ∧ i ≤ a ∧ a < i + d
  | 0, i => .inl ⟨rfl, rfl⟩
  | d + 1, i => by
      unfold findF
      by_cases hz : own.getD i 0 = 0
      · rw [if_pos hz]
        rcases findF_at own d (i + 1) with h | ⟨a, h1, h2, h3, h4⟩
        · exact .inl h
        · exact .inr ⟨a, h1, h2, by omega, by omega⟩
      · rw [if_neg hz]
        exact .inr ⟨i, rfl, rfl, by omega, by omega⟩
theorem chunk_at {a f m : Nat} {code : Int} (h1 : f ≤ a) (h2 : a < f + m) : ((List.range m).map fun j => codeAt (a : Int) code ((f + j : Nat) : Int)) = List.replicate (a - f) 1 ++ (code :: List.replicate (f + m - (a + 1)) 1) := by
  refine List.ext_getElem (by simp; omega) fun i g1 g2 => ?_
  simp only [List.getElem_map, List.getElem_range, codeAt]
  rw [if_neg (by omega)]
  by_cases h : i < a - f
  · rw [List.getElem_append_left (by simpa using h), List.getElem_replicate, if_neg (by omega)]
  · rw [List.getElem_append_right (by simpa using Nat.le_of_not_lt h)]
    by_cases e : f + i = a
    · have e0 : i - (List.replicate (a - f) (1 : Int)).length = 0 := by rw [List.length_replicate]; omega
      rw [if_pos (by omega)]
      simp only [e0, List.getElem_cons_zero]
    · have e0 : ¬ i - (List.replicate (a - f) (1 : Int)).length = 0 := by rw [List.length_replicate]; omega
      rw [if_neg (by omega), List.getElem_cons, dif_neg e0, List.getElem_replicate]
theorem chunk_no {a : Int} {f m : Nat} {code : Int} (h : a < 0) : ((List.range m).map fun j => codeAt a code ((f + j : Nat) : Int)) = List.replicate m 0 := by
  refine List.ext_getElem (by simp) fun i g1 g2 => ?_
  simp only [List.getElem_map, List.getElem_range, codeAt, if_pos h, List.getElem_replicate]
theorem Ints.take {k : IntKind} {l : List Value} (h : Ints k l) (n : Nat) : Ints k (l.take n) := by unfold Ints; rw [intsOf_take, List.map_take, ← h]
theorem Ints.drop {k : IntKind} {l : List Value} (h : Ints k l) (n : Nat) : Ints k (l.drop n) := by unfold Ints; rw [intsOf_drop, List.map_drop, ← h]
theorem Ints.rep (n : Nat) (x : Int) : Ints .i64 (List.replicate n (.int .i64 x)) := by
  have : List.replicate n (Value.int .i64 x) = (List.replicate n x).map (Value.int .i64) := by rw [List.map_replicate]
  rw [this]; exact Ints.of
theorem fillc_self (cs : List Value) (f : Nat) : fillc cs f f = cs := by unfold fillc; rw [Nat.sub_self]; exact List.take_append_drop f cs
theorem fillc_len {cs : List Value} {f i : Nat} (h1 : f ≤ i) (h2 : i ≤ cs.length) : (fillc cs f i).length = cs.length := by
  unfold fillc
  rw [List.length_append, List.length_append, List.length_take, List.length_replicate, List.length_drop]
  omega
theorem fillc_Ints {cs : List Value} (h : Ints .i64 cs) (f i : Nat) : Ints .i64 (fillc cs f i) := (h.take f).app ((Ints.rep _ _).app (h.drop i))
theorem fillc_step {cs : List Value} {f i : Nat} (h1 : f ≤ i) (h2 : i < cs.length) : splice (fillc cs f i) i [.int .i64 1] = fillc cs f (i + 1) := by
  unfold fillc
  rw [← List.append_assoc, splice_at (by rw [List.length_append, List.length_take, List.length_replicate]; omega) (by rw [List.length_drop]; simp; omega)]
  rw [List.length_singleton, List.drop_drop, show i + 1 - f = (i - f) + 1 by omega, List.replicate_succ']
  simp only [List.append_assoc]
theorem spn_cell {l : List Spn} {i : Nat} (hi : i < l.length) : (spnCells l)[i * 3]? = some (.int .i64 (intAt (spnCells l) (i * 3))) ∧ (spnCells l)[i * 3 + 1]? = some (.int .i64 (intAt (spnCells l) (i * 3 + 1))) ∧ (spnCells l)[i * 3 + 2]? = some (.bool (boolAt (spnCells l) (i * 3 + 2))) := by
  obtain ⟨e1, e2, e3⟩ := spn_get hi
  have h := spn_at hi
  have g : ∀ j, j < 3 → (spnCells l)[i * 3 + j]? = ([.int .i64 ((l[i]).1 : Int), .int .i64 ((l[i]).2.1 : Int), .bool (l[i]).2.2] : List Value)[j]? := fun j hj => by
    rw [← h, List.getElem?_take_of_lt hj, List.getElem?_drop]
  have g0 := g 0 (by omega)
  have g1 := g 1 (by omega)
  have g2 := g 2 (by omega)
  rw [Nat.add_zero] at g0
  rw [e1, e2, show i * 3 + 2 = i * 3 + 1 + 1 by omega, e3]
  exact ⟨g0, g1, g2⟩
theorem rcT_one : TOneZ Try.prog rcT := orTz_ok (mkT_one sr_gok) (mkT_one rf_gok)
theorem ic_loop {inr : Bool} {h0 : Hp} {n c d m k : Nat} {a code i0 : Int} {xs ys cs ss : List Value} (H : IcOk ⟨n, c, d, m, k, a, code, i0, xs, ys, cs, ss⟩) (ha : 0 ≤ a) : ∀ (e j : Nat), (j : Int) + (e : Int) = intAt ss (k * 3 + 1) → i0.toNat ≤ j →
    LRuns inr Try.prog (riC Try.prog) 4 9 h0 79 (riT n c d m k a code (j : Int)) (rcH xs ys (fillc cs i0.toNat j) ss) 4 (.exit 2, riO n c d m k a code, rcH xs ys (fillc cs i0.toNat (intAt ss (k * 3 + 1)).toNat) ss) := by
  obtain ⟨hx, hy, ⟨hz, hzl⟩, ⟨L, rfl, hm⟩, hk, ⟨hi1, hi2, hi3⟩, hn, hm1, hc, hd⟩ := H
  simp only [icTo] at hx hy hz hzl hm hk hi1 hi2 hi3 hn hm1 hc hd
  have fx := hx.fl
  have fy := hy.fl
  have fs := spnCells_Fl L
  obtain ⟨g0, g1, g2⟩ := spn_cell (l := L) (i := k) (by omega)
  intro e
  induction e with
  | zero =>
    intro j hj hij
    have hX : XOkZ (rcV noL) Try.prog := noXz_ok rfl
    have hT : TOkZ (rcV noL) Try.prog := T_okV rfl rcT_one
    have hL : LOkZ (rcV noL) Try.prog := noL_okV rfl
    have ej : (intAt (spnCells L) (k * 3 + 1)).toNat = j := by omega
    rw [ej]
    have ff := (fillc_Ints hz i0.toNat j).fl
    refine LRuns.exit (code_runs hX hL (runZ_ok hX hT hL mixed 5) mixed (ic_done inr xs ys (fillc cs i0.toNat j) (spnCells L) n c d m k a code (j : Int)) ?_) (by intro e; cases e) rfl (by omega) (by omega) (fun n => n) ⟨rfl, rb_slc rfl (by unfold capBig; omega), rfl, rb_slc rfl (by unfold capBig; omega), rfl, rb_slc rfl (by unfold capBig; omega), rfl, rb_slg rfl rfl, rfl, rfl, rfl, rfl, rfl, rfl, trivial⟩ ?_ rfl
    · simp only [Alls, cond_true]
      repeat' (first | with_reducible exact trivial | with_reducible apply And.intro)
      all_goals first | with_reducible assumption | omega | with_reducible rfl | (first | exact g1 | (simp only [decide_eq_true_eq]; omega) | (simp only [decide_eq_false_iff_not]; omega))
    · exact ⟨rb_row (m := 3) rfl rfl rfl rfl fs, rb_row (m := 2) rfl rfl rfl rfl ff, rb_old (by omega) rfl fx, rb_old (by omega) rfl fy, trivial⟩
  | succ e ih =>
    intro j hj hij
    have hX : XOkZ (rcV noL) Try.prog := noXz_ok rfl
    have hT : TOkZ (rcV noL) Try.prog := T_okV rfl rcT_one
    have hL : LOkZ (rcV noL) Try.prog := noL_okV rfl
    have hjn : j < cs.length := by omega
    have ff := (fillc_Ints hz i0.toNat j).fl
    have ff2 := (fillc_Ints hz i0.toNat (j + 1)).fl
    have hfl := fillc_len (f := i0.toNat) hij (Nat.le_of_lt hjn)
    have nx := ih (j + 1) (by omega) (by omega)
    refine LRuns.step (code_runs hX hL (runZ_ok hX hT hL mixed 5) mixed (ic_more inr xs ys (fillc cs i0.toNat j) (spnCells L) n c d m k a code (j : Int)) ?_) rfl (by omega) (by omega) (fun n => n) ?_ ?_ rfl nx
    · simp only [Alls, cond_true, adI_eq, rg, Int.toNat_natCast]
      repeat' (first | with_reducible exact trivial | with_reducible apply And.intro)
      all_goals first | with_reducible assumption | omega | with_reducible rfl | (first | exact g1 | (simp only [decide_eq_true_eq]; omega) | (simp only [decide_eq_false_iff_not]; omega))
    · exact ⟨rfl, rb_slc rfl (by unfold capBig; omega), rfl, rb_slc rfl (by unfold capBig; omega), rfl, rb_slc rfl (by unfold capBig; omega), rfl, rb_slg rfl rfl, rfl, rfl, rfl, rfl, rfl, rfl, rfl, (by simp only [renV, adI_eq]; rfl), trivial⟩
    · exact ⟨rb_row (m := 3) rfl rfl rfl rfl fs, rb_row (m := 2) rfl rfl rfl (by rw [Int.toNat_natCast]; exact fillc_step hij hjn) ff2, rb_old (by omega) rfl fx, rb_old (by omega) rfl fy, trivial⟩
theorem ic_spec_ok : LSOk Try.prog 79 [0, 1, 6, 7, 8, 9, 10, 11] (riC Try.prog) icSpec := by
  refine lspec_ok fun q tp xt l2 h2 nx2 d0 tp' ob hs ho inr ts hn hg => ?_
  obtain ⟨n, c, d, m, k, a, code, i0, xs, ys, cs, ss⟩ := q
  split at hs
  case h_3 => cases hs
  all_goals (
    simp only [Option.some.injEq, Prod.mk.injEq] at hs
    obtain ⟨⟨rfl, rfl, rfl, rfl, rfl⟩, rfl, rfl⟩ := hs
    obtain ⟨ha, H, _⟩ := ho
    (try simp only at ha)
    have H0 := H
    obtain ⟨hx, hy, ⟨hz, hzl⟩, ⟨L, rfl, hm⟩, hk, ⟨hi1, hi2, hi3⟩, hn1, hm1, hc, hd⟩ := H
    simp only [icTo] at hx hy hz hzl hm hk hi1 hi2 hi3 hn1 hm1 hc hd
    have fx := hx.fl
    have fy := hy.fl
    have fz := hz.fl
    have fs := spnCells_Fl L)
  ·
    have hX : XOkZ (rcV noL) Try.prog := noXz_ok rfl
    have hT : TOkZ (rcV noL) Try.prog := T_okV rfl rcT_one
    have hL : LOkZ (rcV noL) Try.prog := noL_okV rfl
    have key : LRuns inr Try.prog (riC Try.prog) 4 9 (rcH xs ys cs (spnCells L)) 79 (riT n c d m k a code i0) (rcH xs ys cs (spnCells L)) 4 (.exit 2, riO n c d m k a code, rcH xs ys cs (spnCells L)) := by
      refine LRuns.exit (code_runs hX hL (runZ_ok hX hT hL mixed 5) mixed (ic_none inr xs ys cs (spnCells L) n c d m k a code i0) ?_) (by intro e; cases e) rfl (by omega) (by omega) (fun n => n) ⟨rfl, rb_slc rfl (by unfold capBig; omega), rfl, rb_slc rfl (by unfold capBig; omega), rfl, rb_slc rfl (by unfold capBig; omega), rfl, rb_slg rfl rfl, rfl, rfl, rfl, rfl, rfl, rfl, trivial⟩ ?_ rfl
      · simp only [Alls, decide_eq_false_iff_not]
        repeat' (first | with_reducible exact trivial | with_reducible apply And.intro)
        all_goals first | with_reducible assumption | omega | with_reducible rfl | (skip)
      · exact ⟨rb_row (m := 3) rfl rfl rfl rfl fs, rb_row (m := 2) rfl rfl rfl rfl fz, rb_old (by omega) rfl fx, rb_old (by omega) rfl fy, trivial⟩
    refine LRuns.enter (l2 := riT n c d m k a code i0) (h := rcH xs ys cs (spnCells L)) (h2 := rcH xs ys cs (spnCells L)) hn hg (Nat.le_refl 4) (by omega) (fun n => n) ⟨rfl, rb_slc rfl (by unfold capBig; omega), rfl, rb_slc rfl (by unfold capBig; omega), rfl, rb_slc rfl (by unfold capBig; omega), rfl, rb_slg rfl rfl, rfl, rfl, rfl, rfl, rfl, rfl, rfl, rfl, trivial⟩ ⟨rb_row (m := 3) rfl rfl rfl rfl fs, rb_row (m := 2) rfl rfl rfl rfl fz, rb_old (by omega) rfl fx, rb_old (by omega) rfl fy, trivial⟩ rfl key ?_
    exact tidy_of (by omega) (fun n hn hd => rfl) rfl
  · have key := ic_loop (inr := inr) (h0 := rcH xs ys cs (spnCells L)) H0 ha (intAt (spnCells L) (k * 3 + 1) - i0).toNat i0.toNat (by omega) (Nat.le_refl _)
    rw [fillc_self, show ((i0.toNat : Nat) : Int) = i0 by omega] at key
    refine LRuns.enter (l2 := riT n c d m k a code i0) (h := rcH xs ys cs (spnCells L)) (h2 := rcH xs ys cs (spnCells L)) hn hg (Nat.le_refl 4) (by omega) (fun n => n) ⟨rfl, rb_slc rfl (by unfold capBig; omega), rfl, rb_slc rfl (by unfold capBig; omega), rfl, rb_slc rfl (by unfold capBig; omega), rfl, rb_slg rfl rfl, rfl, rfl, rfl, rfl, rfl, rfl, rfl, rfl, trivial⟩ ⟨rb_row (m := 3) rfl rfl rfl rfl fs, rb_row (m := 2) rfl rfl rfl rfl fz, rb_old (by omega) rfl fx, rb_old (by omega) rfl fy, trivial⟩ rfl key ?_
    refine tidy_of (by omega) (fun n hn hd => ?_) rfl
    simp only [List.mem_singleton] at hd
    have e2 : ∀ (x r r' : Rw) (t : Hp), lk ((3, x) :: (2, r) :: t) n = lk ((3, x) :: (2, r') :: t) n := fun x r r' t => by
      rw [lk_cons, lk_cons, lk_cons, lk_cons, if_neg (Ne.symm hd), if_neg (Ne.symm hd)]
    exact e2 _ _ _ _
end Go.Proofs.Ytmjmdjcgjmjigaa
/-
  Chapter 19: the document's Codes: a contract.
-/
namespace Go.Proofs.Ytmjmdjcgjmjigaa
set_option linter.unusedSimpArgs false
set_option linter.unusedVariables false
set_option linter.unusedSectionVars false
open Go Go.RowKit

def zro (m : Nat) : List Value := List.replicate m (.int .i64 0)
theorem zro_Ints (m : Nat) : Ints .i64 (zro m) := Ints.rep m 0
theorem cellsOf_app (k : IntKind) (a b : List Int) : cellsOf k (a ++ b) = cellsOf k a ++ cellsOf k b := by simp [cellsOf]
theorem cellsOf_rep (k : IntKind) (m : Nat) (x : Int) : cellsOf k (List.replicate m x) = List.replicate m (.int k x) := by simp [cellsOf]
theorem cellsOf_Ints (k : IntKind) (l : List Int) : Ints k (cellsOf k l) := Ints.of
theorem chunk_zero {own : List Int} {f t n : Nat} {o : Bool} (h : (failedV own (f, t, o)).1 < 0) (h1 : f ≤ t) (h2 : t ≤ n) : zro (n - f) = cellsOf .i64 (chunkV own (f, t, o)) ++ zro (n - t) := by
  unfold chunkV
  simp only
  rw [chunk_no h, cellsOf_rep]
  unfold zro
  rw [List.replicate_append_replicate, show t - f + (n - t) = n - f by omega]
theorem chunk_fill {own : List Int} {P : List Value} {f t n a : Nat} {o : Bool} {code : Int} (h : (failedV own (f, t, o)).1 = (a : Int)) (hc : (failedV own (f, t, o)).2 = code) (hP : P.length = f) (h0 : f ≤ a) (h1 : a < t) (h2 : t ≤ n) :
    splice (fillc (P ++ zro (n - f)) f t) a [.int .i64 code] = P ++ (cellsOf .i64 (chunkV own (f, t, o)) ++ zro (n - t)) := by
  have e1 : fillc (P ++ zro (n - f)) f t = (P ++ List.replicate (a - f) (.int .i64 1)) ++ (List.replicate (t - a) (.int .i64 1) ++ zro (n - t)) := by
    unfold fillc zro
    rw [List.take_left' hP, List.drop_append, List.drop_eq_nil_of_le (by omega), List.nil_append, List.drop_replicate, hP, show n - f - (t - f) = n - t by omega, show t - f = (a - f) + (t - a) by omega, ← List.replicate_append_replicate]
    simp only [List.append_assoc]
  rw [e1, splice_at (by rw [List.length_append, List.length_replicate, hP]; omega) (by simp; omega)]
  have e2 : (List.replicate (t - a) (Value.int .i64 1) ++ zro (n - t)).drop [Value.int .i64 code].length = List.replicate (t - (a + 1)) (.int .i64 1) ++ zro (n - t) := by
    rw [show t - a = (t - (a + 1)) + 1 by omega, List.replicate_succ]; rfl
  rw [e2]
  have e3 : cellsOf .i64 (chunkV own (f, t, o)) = List.replicate (a - f) (.int .i64 1) ++ (.int .i64 code :: List.replicate (t - (a + 1)) (.int .i64 1)) := by
    unfold chunkV
    simp only [h, hc]
    rw [chunk_at h0 (by omega), cellsOf_app, cellsOf_rep, show f + (t - f) - (a + 1) = t - (a + 1) by omega]
    have : cellsOf .i64 (code :: List.replicate (t - (a + 1)) 1) = .int .i64 code :: cellsOf .i64 (List.replicate (t - (a + 1)) 1) := rfl
    rw [this, cellsOf_rep]
  rw [e3]
  simp only [List.append_assoc, List.singleton_append, List.cons_append, List.nil_append]
def stC (own : List Int) (n : Nat) (pre : List Spn) (a : Nat) : List Value := cellsOf .i64 (pre.flatMap (chunkV own)) ++ zro (n - a)
theorem stC_Ints (own : List Int) (n : Nat) (pre : List Spn) (a : Nat) : Ints .i64 (stC own n pre a) := (cellsOf_Ints _ _).app (zro_Ints _)
theorem stC_len {own : List Int} {n : Nat} {pre : List Spn} {a : Nat} (h : (pre.flatMap (chunkV own)).length = a) (h2 : a ≤ n) : (stC own n pre a).length = n := by
  unfold stC zro cellsOf
  rw [List.length_append, List.length_map, List.length_replicate, h]; omega
theorem stC_next {own : List Int} {n : Nat} {pre : List Spn} {x : Spn} {t : Nat} : stC own n (pre ++ [x]) t = cellsOf .i64 (pre.flatMap (chunkV own)) ++ (cellsOf .i64 (chunkV own x) ++ zro (n - t)) := by
  unfold stC
  rw [List.flatMap_append, cellsOf_app, List.append_assoc]
  simp only [List.flatMap_cons, List.flatMap_nil, List.append_nil]
theorem ro_loop {inr : Bool} {h0 : Hp} {n c d m : Nat} {xs ys : List Value} {L : List Spn} (hx : Bols xs) (hxl : xs.length = n) (hy : Ints .i64 ys) (hyl : ys.length = n) (hn : n ≤ 1000) (hm : L.length = m) (hm1 : m ≤ 1000) (hc : n ≤ c ∧ c ≤ 9223372036854775807) (hd : n ≤ d ∧ d ≤ 9223372036854775807) :
    ∀ (rest pre : List Spn) (f k : Nat), L = pre ++ rest → k = pre.length → Tiles (boolsOf xs) f rest → (pre.flatMap (chunkV (intsOf ys))).length = f → f ≤ n →
    LRuns inr Try.prog (roC Try.prog) 4 20 h0 79 (roT n c d m k) (rcH xs ys (stC (intsOf ys) n pre f) (spnCells L)) 4 (.exit 0, [(6, .slice (some ⟨2, 0, none⟩) n n)], rcH xs ys (cellsOf .i64 (L.flatMap (chunkV (intsOf ys)))) (spnCells L)) := by
  have fx := hx.fl
  have fy := hy.fl
  have fs := spnCells_Fl L
  have hbl : (boolsOf xs).length = n := by simp [boolsOf, hxl]
  intro rest
  induction rest with
  | nil =>
    intro pre f k hL0 hk hti hlen hfn
    have hX : XOkZ (rcV (icL Try.prog)) Try.prog := noXz_ok rfl
    have hT : TOkZ (rcV (icL Try.prog)) Try.prog := T_okV rfl rcT_one
    have hL : LOkZ (rcV (icL Try.prog)) Try.prog := L_okV rfl (mkL_ok ic_spec_ok)
    simp only [Tiles] at hti
    have hfn' : f = n := by omega
    have hpre : L = pre := by rw [hL0, List.append_nil]
    have e : stC (intsOf ys) n pre f = cellsOf .i64 (L.flatMap (chunkV (intsOf ys))) := by
      unfold stC zro
      rw [hfn', Nat.sub_self, List.replicate_zero, List.append_nil, hpre]
    rw [e]
    refine LRuns.exit (code_runs hX hL (runZ_ok hX hT hL mixed 5) mixed (oc_done inr xs ys _ (spnCells L) n c d m k) ?_) (by intro e; cases e) rfl (by omega) (by omega) (fun n => n) ?_ ?_ rfl
    · simp only [Alls, decide_eq_false_iff_not]
      have : k = m := by rw [hk, ← hm, hpre]
      repeat' (first | with_reducible exact trivial | with_reducible apply And.intro)
      all_goals first | with_reducible assumption | omega | with_reducible rfl | (skip)
    · exact ⟨rfl, rb_slc rfl (by unfold capBig; omega), trivial⟩
    · exact ⟨rb_row (m := 3) rfl rfl rfl rfl fs, rb_row (m := 2) rfl rfl rfl rfl (cellsOf_Ints _ _).fl, rb_old (by omega) rfl fx, rb_old (by omega) rfl fy, trivial⟩
  | cons x rest ih =>
    intro pre f k hL0 hk hti hlen hfn
    have hX : XOkZ (rcV (icL Try.prog)) Try.prog := noXz_ok rfl
    have hT : TOkZ (rcV (icL Try.prog)) Try.prog := T_okV rfl rcT_one
    have hL : LOkZ (rcV (icL Try.prog)) Try.prog := L_okV rfl (mkL_ok ic_spec_ok)
    obtain ⟨xf, t, o⟩ := x
    obtain ⟨h5, hft, htn, _, hti2⟩ := hti
    simp only at h5 hft htn hti2
    subst h5
    rw [hbl] at htn
    have hkm : k < L.length := by rw [hL0, hk]; simp
    have hLk : L[k] = (xf, t, o) := by
      have : L[k]? = some (xf, t, o) := by rw [hL0, hk, List.getElem?_append_right (Nat.le_refl _), Nat.sub_self]; rfl
      rw [List.getElem?_eq_getElem hkm] at this
      exact Option.some.inj this
    obtain ⟨i0, i1, i2⟩ := spn_get hkm
    rw [hLk] at i0 i1 i2
    simp only at i0 i1 i2
    have i3 : boolAt (spnCells L) (k * 3 + 2) = o := i2
    obtain ⟨c0, c1, c2⟩ := spn_cell hkm
    rw [i0] at c0
    rw [i1] at c1
    rw [i3] at c2
    have h3 := spn_at hkm
    rw [hLk] at h3
    simp only at h3
    have ex : ys.take n = ys := take_len hyl
    have hoky : okI ys n := ⟨hy, by omega⟩
    have e0 : ((t : Int) - (xf : Int)).toNat = t - xf := by omega
    have hsl := stC_len (n := n) hlen hfn
    have hic : ∀ (a code : Int), IcOk ⟨n, c, d, m, k, a, code, (xf : Int), xs, ys, stC (intsOf ys) n pre xf, spnCells L⟩ := fun a code =>
      ⟨hx, hy, ⟨stC_Ints _ _ _ _, by simp only; omega⟩, ⟨L, rfl, hm⟩, by simp only; omega, by simp only [icTo, i1]; omega, hn, hm1, hc, hd⟩
    have hlen2 : ((pre ++ [(xf, t, o)]).flatMap (chunkV (intsOf ys))).length = t := by
      rw [List.flatMap_append, List.length_append, hlen]
      simp only [List.flatMap_cons, List.flatMap_nil, List.append_nil, chunkV_len]
      omega
    have nx := ih (pre ++ [(xf, t, o)]) t (k + 1) (by rw [hL0, List.append_assoc]; rfl) (by rw [hk]; simp) hti2 hlen2 htn
    have hP : (cellsOf .i64 (pre.flatMap (chunkV (intsOf ys)))).length = xf := by unfold cellsOf; rw [List.length_map, hlen]
    have hfl := fillc_len (cs := stC (intsOf ys) n pre xf) (f := xf) (i := t) (by omega) (by omega)
    have hrf0 := rfF_findF hy (t - xf) xf
    cases o with
    | false =>
      have hfv : failedV (intsOf ys) (xf, t, false) = findF (intsOf ys) xf (t - xf) := rfl
      rcases findF_at (intsOf ys) (t - xf) xf with ⟨q1, q2⟩ | ⟨a, q1, q2, q3, q4⟩
      · have hrf : rfF ys (xf : Int) (t - xf) = -1 := by rw [hrf0, q1]
        have hto : True := trivial
        have c4 : True := trivial
        generalize hf : xf = f at *
        refine LRuns.step (l2 := roT n c d m (k + 1)) (code_runs hX hL (runZ_ok hX hT hL mixed 5) mixed (oc_1 inr xs ys (stC (intsOf ys) n pre f) (spnCells L) n c d m k) ?_) rfl (by omega) (by omega) (fun n => n) ?_ ?_ rfl nx
        · simp only [Alls, Nat.add_zero, i0, i1, i2, i3, ex, e0, hrf, Int.toNat_natCast, cond_true, avLen]
          repeat' (first | with_reducible exact trivial | with_reducible apply And.intro)
          all_goals first | with_reducible assumption | omega | with_reducible rfl | (first | exact c0 | exact c1 | exact c2 | exact h3 | exact c4 | exact hic _ _ | exact hoky | (simp only [decide_eq_true_eq]; omega) | (simp only [decide_eq_false_iff_not]; omega) | (simp only [icTo, i1, rg]; omega) | (simp only [icTo, i1, Int.toNat_natCast, hfl, hto]; omega) | rfl)
        · exact ⟨rfl, rb_slc rfl (by unfold capBig; omega), rfl, rb_slc rfl (by unfold capBig; omega), rfl, rb_slc rfl (by unfold capBig; omega), rfl, rb_slg rfl rfl, rfl, rfl, trivial⟩
        · refine ⟨rb_row (m := 3) rfl rfl rfl rfl fs, rb_row (m := 2) rfl rfl rfl ?_ (stC_Ints _ _ _ _).fl, rb_old (by omega) rfl fx, rb_old (by omega) rfl fy, trivial⟩
          (try simp only [icTo, Nat.add_zero, i0, i1, i2, i3, ex, e0, hrf, Int.toNat_natCast, hto])
          rw [stC_next]
          unfold stC; rw [chunk_zero (o := false) (own := intsOf ys) (f := f) (t := t) (n := n) (by rw [hfv, q1]; omega) (by omega) htn]
      · have hrf : rfF ys (xf : Int) (t - xf) = (a : Int) := by rw [hrf0, q1]
        have hto : True := trivial
        have c4 := hy.get (i := a) (by omega)
        have hcode : (failedV (intsOf ys) (xf, t, false)).2 = intAt ys a := by rw [hfv, q2, ints_getD hy]
        generalize hf : xf = f at *
        refine LRuns.step (l2 := roT n c d m (k + 1)) (code_runs hX hL (runZ_ok hX hT hL mixed 5) mixed (oc_2 inr xs ys (stC (intsOf ys) n pre f) (spnCells L) n c d m k) ?_) rfl (by omega) (by omega) (fun n => n) ?_ ?_ rfl nx
        · simp only [Alls, Nat.add_zero, i0, i1, i2, i3, ex, e0, hrf, Int.toNat_natCast, cond_true, avLen]
          repeat' (first | with_reducible exact trivial | with_reducible apply And.intro)
          all_goals first | with_reducible assumption | omega | with_reducible rfl | (first | exact c0 | exact c1 | exact c2 | exact h3 | exact c4 | exact hic _ _ | exact hoky | (simp only [decide_eq_true_eq]; omega) | (simp only [decide_eq_false_iff_not]; omega) | (simp only [icTo, i1, rg]; omega) | (simp only [icTo, i1, Int.toNat_natCast, hfl, hto]; omega) | rfl)
        · exact ⟨rfl, rb_slc rfl (by unfold capBig; omega), rfl, rb_slc rfl (by unfold capBig; omega), rfl, rb_slc rfl (by unfold capBig; omega), rfl, rb_slg rfl rfl, rfl, rfl, trivial⟩
        · refine ⟨rb_row (m := 3) rfl rfl rfl rfl fs, rb_row (m := 2) rfl rfl rfl ?_ (stC_Ints _ _ _ _).fl, rb_old (by omega) rfl fx, rb_old (by omega) rfl fy, trivial⟩
          (try simp only [icTo, Nat.add_zero, i0, i1, i2, i3, ex, e0, hrf, Int.toNat_natCast, hto])
          rw [stC_next]
          exact chunk_fill (by rw [hfv, q1]) hcode hP q3 (by omega) htn
    | true =>
      have hfv : failedV (intsOf ys) (xf, t, true) = ((t : Int) - 1, 2) := rfl
      have hto : ((t : Int) - 1).toNat = t - 1 := by omega
      have hat : (failedV (intsOf ys) (xf, t, true)).1 = ((t - 1 : Nat) : Int) := by rw [hfv]; simp only; omega
      rcases findF_at (intsOf ys) (t - xf) xf with ⟨q1, q2⟩ | ⟨a, q1, q2, q3, q4⟩
      · have hrf : rfF ys (xf : Int) (t - xf) = -1 := by rw [hrf0, q1]
        have c4 : True := trivial
        generalize hf : xf = f at *
        refine LRuns.step (l2 := roT n c d m (k + 1)) (code_runs hX hL (runZ_ok hX hT hL mixed 5) mixed (oc_3 inr xs ys (stC (intsOf ys) n pre f) (spnCells L) n c d m k) ?_) rfl (by omega) (by omega) (fun n => n) ?_ ?_ rfl nx
        · simp only [Alls, Nat.add_zero, i0, i1, i2, i3, ex, e0, hrf, Int.toNat_natCast, cond_true, avLen]
          repeat' (first | with_reducible exact trivial | with_reducible apply And.intro)
          all_goals first | with_reducible assumption | omega | with_reducible rfl | (first | exact c0 | exact c1 | exact c2 | exact h3 | exact c4 | exact hic _ _ | exact hoky | (simp only [decide_eq_true_eq]; omega) | (simp only [decide_eq_false_iff_not]; omega) | (simp only [icTo, i1, rg]; omega) | (simp only [icTo, i1, Int.toNat_natCast, hfl, hto]; omega) | rfl)
        · exact ⟨rfl, rb_slc rfl (by unfold capBig; omega), rfl, rb_slc rfl (by unfold capBig; omega), rfl, rb_slc rfl (by unfold capBig; omega), rfl, rb_slg rfl rfl, rfl, rfl, trivial⟩
        · refine ⟨rb_row (m := 3) rfl rfl rfl rfl fs, rb_row (m := 2) rfl rfl rfl ?_ (stC_Ints _ _ _ _).fl, rb_old (by omega) rfl fx, rb_old (by omega) rfl fy, trivial⟩
          (try simp only [icTo, Nat.add_zero, i0, i1, i2, i3, ex, e0, hrf, Int.toNat_natCast, hto])
          rw [stC_next]
          exact chunk_fill hat (by rw [hfv]) hP (by omega) (by omega) htn
      · have hrf : rfF ys (xf : Int) (t - xf) = (a : Int) := by rw [hrf0, q1]
        have c4 := hy.get (i := a) (by omega)
        generalize hf : xf = f at *
        refine LRuns.step (l2 := roT n c d m (k + 1)) (code_runs hX hL (runZ_ok hX hT hL mixed 5) mixed (oc_4 inr xs ys (stC (intsOf ys) n pre f) (spnCells L) n c d m k) ?_) rfl (by omega) (by omega) (fun n => n) ?_ ?_ rfl nx
        · simp only [Alls, Nat.add_zero, i0, i1, i2, i3, ex, e0, hrf, Int.toNat_natCast, cond_true, avLen]
          repeat' (first | with_reducible exact trivial | with_reducible apply And.intro)
          all_goals first | with_reducible assumption | omega | with_reducible rfl | (first | exact c0 | exact c1 | exact c2 | exact h3 | exact c4 | exact hic _ _ | exact hoky | (simp only [decide_eq_true_eq]; omega) | (simp only [decide_eq_false_iff_not]; omega) | (simp only [icTo, i1, rg]; omega) | (simp only [icTo, i1, Int.toNat_natCast, hfl, hto]; omega) | rfl)
        · exact ⟨rfl, rb_slc rfl (by unfold capBig; omega), rfl, rb_slc rfl (by unfold capBig; omega), rfl, rb_slc rfl (by unfold capBig; omega), rfl, rb_slg rfl rfl, rfl, rfl, trivial⟩
        · refine ⟨rb_row (m := 3) rfl rfl rfl rfl fs, rb_row (m := 2) rfl rfl rfl ?_ (stC_Ints _ _ _ _).fl, rb_old (by omega) rfl fx, rb_old (by omega) rfl fy, trivial⟩
          (try simp only [icTo, Nat.add_zero, i0, i1, i2, i3, ex, e0, hrf, Int.toNat_natCast, hto])
          rw [stC_next]
          exact chunk_fill hat (by rw [hfv]) hP (by omega) (by omega) htn
end Go.Proofs.Ytmjmdjcgjmjigaa
/-
  Chapter 19: Codes, the document's and the program's, by contracts.
-/
namespace Go.Proofs.Ytmjmdjcgjmjigaa
set_option linter.unusedSimpArgs false
set_option linter.unusedVariables false
set_option linter.unusedSectionVars false
open Go Go.RowKit

structure RoA where
  n : Nat
  c : Nat
  d : Nat
  m : Nat
  xs : List Value
  ys : List Value
  cs : List Value
  ss : List Value
structure RoOk (q : RoA) : Prop where
  x : okB q.xs q.n
  y : okI q.ys q.n
  z : q.cs = zro q.n
  s : q.ss = spL q.xs
  m : q.m = spN q.xs
  n : q.n ≤ 1000
  c : q.n ≤ q.c ∧ q.c ≤ 9223372036854775807
  d : q.n ≤ q.d ∧ q.d ≤ 9223372036854775807
def roSpec : LSpec := lspec (fun live h => match live, h with | [(_, .slice _ n c), (_, .slice _ _ d), _, (_, .slice _ m _), _], [(_, r3), (_, r2), (_, r0), (_, r1)] => some ⟨n, c, d, m, r0.cs, r1.cs, r2.cs, r3.cs⟩ | _, _ => none) (fun (q : RoA) => (roT q.n q.c q.d q.m 0, rcH q.xs q.ys q.cs q.ss, 4))
  (fun q tp => some ((.exit 0, [(6, .slice (some ⟨2, 0, none⟩) q.n q.n)], rcH q.xs q.ys (cdL q.xs q.ys) q.ss, 20, [2]), tp, [RoOk q]))
def roL (P : Program) : LFun := mkL 18 6 79 [0, 1, 6, 7, 8] (roC P) roSpec
def ciV : Tv := ⟨noTz, noXz, noL, tbl 12 [15], lsSy 12 [(15, 0)], fun _ => [], fun _ => 0⟩
theorem ci_xss (xs ys : List Value) (n m c d : Nat) : prjV (runZ ciV Try.prog 5 12 [.slice (some ⟨0, 0, none⟩) n c, .slice (some ⟨1, 0, none⟩) m d] [(0, ⟨.old, xs⟩), (1, ⟨.old, ys⟩)] 2 [true]) =
  Res.ok (Value.tuple (Array.mk [Value.slice none (0 : Nat) (0 : Nat), Value.int IntKind.i64 (2 : Int)]), [], [((↑n : Int) != (↑m : Int)) = true]) := by kernel_rfl
theorem ci_xsn (xs : List Value) (n c : Nat) : prjV (runZ ciV Try.prog 5 12 [.slice (some ⟨0, 0, none⟩) n c, .slice none 0 0] [(0, ⟨.old, xs⟩)] 2 [true]) =
  Res.ok (Value.tuple (Array.mk [Value.slice none (0 : Nat) (0 : Nat), Value.int IntKind.i64 (2 : Int)]), [], [((↑n : Int) != (0 : Int)) = true]) := by kernel_rfl
theorem ci_xns (ys : List Value) (m d : Nat) : prjV (runZ ciV Try.prog 5 12 [.slice none 0 0, .slice (some ⟨1, 0, none⟩) m d] [(1, ⟨.old, ys⟩)] 2 [true]) =
  Res.ok (Value.tuple (Array.mk [Value.slice none (0 : Nat) (0 : Nat), Value.int IntKind.i64 (2 : Int)]), [], [((0 : Int) != (↑m : Int)) = true]) := by kernel_rfl
theorem rc_xss (xs ys : List Value) (n m c d : Nat) : prjV (runZ (rcV noL) Try.prog 5 18 [.slice (some ⟨0, 0, none⟩) n c, .slice (some ⟨1, 0, none⟩) m d] [(0, ⟨.old, xs⟩), (1, ⟨.old, ys⟩)] 2 [true]) =
  Res.ok (Value.tuple (Array.mk [Value.slice none (0 : Nat) (0 : Nat), Value.int IntKind.i64 (2 : Int)]), [], [((↑n : Int) != (↑m : Int)) = true]) := by kernel_rfl
theorem rc_xsn (xs : List Value) (n c : Nat) : prjV (runZ (rcV noL) Try.prog 5 18 [.slice (some ⟨0, 0, none⟩) n c, .slice none 0 0] [(0, ⟨.old, xs⟩)] 2 [true]) =
  Res.ok (Value.tuple (Array.mk [Value.slice none (0 : Nat) (0 : Nat), Value.int IntKind.i64 (2 : Int)]), [], [((↑n : Int) != (0 : Int)) = true]) := by kernel_rfl
theorem rc_xns (ys : List Value) (m d : Nat) : prjV (runZ (rcV noL) Try.prog 5 18 [.slice none 0 0, .slice (some ⟨1, 0, none⟩) m d] [(1, ⟨.old, ys⟩)] 2 [true]) =
  Res.ok (Value.tuple (Array.mk [Value.slice none (0 : Nat) (0 : Nat), Value.int IntKind.i64 (2 : Int)]), [], [((0 : Int) != (↑m : Int)) = true]) := by kernel_rfl
theorem rc_nn  : prjR 2 (runZ (rcV noL) Try.prog 5 18 [.slice none 0 0, .slice none 0 0] [] 2 [false, true, false]) =
  Res.ok ((Value.tuple (Array.mk [Value.slice (some (Addr.mk (2 : Nat) (0 : Nat) none)) (0 : Nat) (0 : Nat), Value.int IntKind.i64 (0 : Int)]), Rw.mk Kd.shut []), [], [false = false, (0 : Int) ≤ (0 : Int) ∧ (0 : Int) ≤ (0 :
 Int) ∧ (0 : Int) ≤ (281474976710656 : Int) ∧ (0 : Int) ≤ (9223372036854775807 : Int), (0 : Nat) = (0 : Nat), false = false]) := by kernel_rfl
theorem rc_en (xs : List Value) (c : Nat) : prjR 2 (runZ (rcV noL) Try.prog 5 18 [.slice (some ⟨0, 0, none⟩) 0 c, .slice none 0 0] [(0, ⟨.old, xs⟩)] 2 [false, true, false]) =
  Res.ok ((Value.tuple (Array.mk [Value.slice (some (Addr.mk (2 : Nat) (0 : Nat) none)) (0 : Nat) (0 : Nat), Value.int IntKind.i64 (0 : Int)]), Rw.mk Kd.shut []), [], [false = false, (0 : Int) ≤ (0 : Int) ∧ (0 : Int) ≤ (0 :
 Int) ∧ (0 : Int) ≤ (281474976710656 : Int) ∧ (0 : Int) ≤ (9223372036854775807 : Int), (0 : Nat) ≤ c ∧ c ≤ (9223372036854775807 : Nat), (0 : Nat) ≤ List.length xs, Fl [], (0 : Nat) = (0 : Nat), false = false]) := by kernel_rfl
theorem rc_nf (ys : List Value) (d : Nat) : prjR 2 (runZ (rcV noL) Try.prog 5 18 [.slice none 0 0, .slice (some ⟨1, 0, none⟩) 0 d] [(1, ⟨.old, ys⟩)] 2 [false, true, false]) =
  Res.ok ((Value.tuple (Array.mk [Value.slice (some (Addr.mk (2 : Nat) (0 : Nat) none)) (0 : Nat) (0 : Nat), Value.int IntKind.i64 (0 : Int)]), Rw.mk Kd.shut []), [], [false = false, (0 : Int) ≤ (0 : Int) ∧ (0 : Int) ≤ (0 :
 Int) ∧ (0 : Int) ≤ (281474976710656 : Int) ∧ (0 : Int) ≤ (9223372036854775807 : Int), (0 : Nat) = (0 : Nat), false = false]) := by kernel_rfl
theorem rc_ef (xs ys : List Value) (c d : Nat) : prjR 2 (runZ (rcV noL) Try.prog 5 18 [.slice (some ⟨0, 0, none⟩) 0 c, .slice (some ⟨1, 0, none⟩) 0 d] [(0, ⟨.old, xs⟩), (1, ⟨.old, ys⟩)] 2 [false, true, false]) =
  Res.ok ((Value.tuple (Array.mk [Value.slice (some (Addr.mk (2 : Nat) (0 : Nat) none)) (0 : Nat) (0 : Nat), Value.int IntKind.i64 (0 : Int)]), Rw.mk Kd.shut []), [], [false = false, (0 : Int) ≤ (0 : Int) ∧ (0 : Int) ≤ (0 :
 Int) ∧ (0 : Int) ≤ (281474976710656 : Int) ∧ (0 : Int) ≤ (9223372036854775807 : Int), (0 : Nat) ≤ c ∧ c ≤ (9223372036854775807 : Nat), (0 : Nat) ≤ List.length xs, Fl [], (0 : Nat) = (0 : Nat), false = false]) := by kernel_rfl
theorem rc_ok (xs ys : List Value) (n c d : Nat) : prjR 2 (runZ (rcV (roL Try.prog)) Try.prog 5 18 [.slice (some ⟨0, 0, none⟩) n c, .slice (some ⟨1, 0, none⟩) n d] [(0, ⟨.old, xs⟩), (1, ⟨.old, ys⟩)] 2 [false, false]) =
  Res.ok ((Value.tuple (Array.mk [Value.slice (some (Addr.mk (2 : Nat) (0 : Nat) none)) n n, Value.int IntKind.i64 (0 : Int)]), Rw.mk Kd.shut (cdL xs ys)), [], [((↑n : Int) != (↑n : Int)) = false, (0 : Int) ≤ (↑n : Int) ∧
 (↑n : Int) ≤ (↑n : Int) ∧ (8 : Int) * (↑n : Int) ≤ (281474976710656 : Int) ∧ (↑n : Int) ≤ (9223372036854775807 : Int), n ≤ c ∧ c ≤ (9223372036854775807 : Nat), n ≤ List.length xs, Fl (List.take n xs), (0 : Nat) < avLen
 (Av.sl (List.take n xs) n), avLen (Av.sl (List.take n xs) n) ≤ (1000 : Nat), Bols (List.take n xs), roC Try.prog = roC Try.prog, [((0 : Nat), Value.slice (some (Addr.mk (0 : Nat) (0 : Nat) none)) n c), ((1 : Nat),
 Value.slice (some (Addr.mk (1 : Nat) (0 : Nat) none)) n d), ((6 : Nat), Value.slice (some (Addr.mk (2 : Nat) (0 : Nat) none)) n n), ((7 : Nat), Value.slice (some (Addr.mk (3 : Nat) (0 : Nat) none)) (spN (List.take n xs))
 (capBig + (3 : Nat))), ((8 : Nat), Value.int IntKind.i64 (0 : Int))] = roT n c d (spN (List.take n xs)) (0 : Nat), rowsN (3 : Nat) [spRow (spL (List.take n xs))] [((2 : Nat), Rw.mk Kd.shut (zrep [Value.int IntKind.i64 (0
 : Int)] n)), ((0 : Nat), Rw.mk Kd.old xs), ((1 : Nat), Rw.mk Kd.old ys)] = rcH xs ys (zrep [Value.int IntKind.i64 (0 : Int)] n) (spL (List.take n xs)), (4 : Nat) = (4 : Nat), RoOk (RoA.mk n c d (spN (List.take n xs)) xs
 ys (zrep [Value.int IntKind.i64 (0 : Int)] n) (spL (List.take n xs)))]) := by kernel_rfl
theorem ro_spec_ok : LSOk Try.prog 79 [0, 1, 6, 7, 8] (roC Try.prog) roSpec := by
  refine lspec_ok fun q tp xt l2 h2 nx2 d0 tp' ob hs ho inr ts hn hg => ?_
  obtain ⟨n, c, d, m, xs, ys, cs, ss⟩ := q
  simp only [Option.some.injEq, Prod.mk.injEq] at hs
  obtain ⟨⟨rfl, rfl, rfl, rfl, rfl⟩, rfl, rfl⟩ := hs
  obtain ⟨⟨⟨hx, hxl⟩, ⟨hy, hyl⟩, hz, hss, hm, hn1, hc, hd⟩, _⟩ := ho
  simp only at hx hxl hy hyl hz hss hm hn1 hc hd
  subst hz
  subst hss
  subst hm
  have hbl : (boolsOf xs).length = n := by simp [boolsOf]; omega
  have hm1 : (spansOf (boolsOf xs)).length ≤ 1000 := by
    have := spansFrom_len (boolsOf xs) 0 0
    unfold spansOf; omega
  have fx := hx.fl
  have fy := hy.fl
  have fz := (zro_Ints n).fl
  have fs : Fl (spL xs) := spnCells_Fl _
  have key := ro_loop (inr := inr) (h0 := rcH xs ys (zro n) (spL xs)) hx (by omega) hy (by omega) hn1 rfl hm1 hc hd (spansOf (boolsOf xs)) [] 0 0 rfl rfl (tiles_of _) rfl (Nat.zero_le _)
  have e : stC (intsOf ys) n [] 0 = zro n := rfl
  rw [e] at key
  refine LRuns.enter (l2 := roT n c d (spN xs) 0) (h := rcH xs ys (zro n) (spL xs)) (h2 := rcH xs ys (zro n) (spL xs)) hn hg (Nat.le_refl 4) (by omega) (fun n => n) ?_ ⟨rb_row (m := 3) rfl rfl rfl rfl fs, rb_row (m := 2) rfl rfl rfl rfl fz, rb_old (by omega) rfl fx, rb_old (by omega) rfl fy, trivial⟩ rfl key ?_
  · exact ⟨rfl, rb_slc rfl (by unfold capBig; omega), rfl, rb_slc rfl (by unfold capBig; omega), rfl, rb_slc rfl (by unfold capBig; omega), rfl, rb_slg rfl rfl, rfl, rfl, trivial⟩
  · refine tidy_of (by omega) (fun n hn hd => ?_) rfl
    simp only [List.mem_singleton] at hd
    have e2 : ∀ (x r r' : Rw) (t : Hp), lk ((3, x) :: (2, r) :: t) n = lk ((3, x) :: (2, r') :: t) n := fun x r r' t => by
      rw [lk_cons, lk_cons, lk_cons, lk_cons, if_neg (Ne.symm hd), if_neg (Ne.symm hd)]
    exact e2 _ _ _ _
theorem run_rowv {V : Tv} (hX : XOkZ V Try.prog) (hT : TOkZ V Try.prog) (hL : LOkZ V Try.prog) {k m : Nat} {f : FuncId} {args : List Value} {h : Hp} {nx : Nat} {tp tp' : Tape} {v : Value} {r : Rw} {ob : List Prop} (e : prjR m (runZ V Try.prog k f args h nx tp) = .ok ((v, r), tp', ob)) (ho : Alls ob) (hf : Nat.blt f yBig = true) : ∃ h' nx' d, Tri Try.prog f args h nx (v, h', nx', d) ∧ lk h' m = some r := run_row hX hT hL e ho hf
/-- A new slice of a row of its own, in a value. -/
theorem GrIs.oneV {V : Value → Value} (hV : ∀ σ v v', renV σ v = some v' → renV σ (V v) = some (V v')) {n c : Nat} {kd : Kd} {cs : List Value} {h0' : Hp} {m : Nat} (hl : lk h0' m = some ⟨kd, cs⟩) (hf : Fl cs) (hk : plainKd kd = true) (ho : kd ≠ .old) (hc : c ≤ 9223372036854775807) :
    GrIs ⟨fun nx => V (.slice (some ⟨nx, 0, none⟩) n c), [⟨kd, cs⟩]⟩ (V (.slice (some ⟨m, 0, none⟩) n c)) h0' (fun _ => m) := by
  refine ⟨fun nx => hV _ _ _ ?_, fun j r hj => ?_, fun i j hi hj _ => ?_⟩
  · have hb : (f2s nx 1 fun _ => m).b nx = some (m, 0) := by simp [f2s]
    have := renV_slice_mk (l := n) (c := c) (c' := c) (o := 0) hb (by unfold cpR; rw [if_pos (by unfold capBig; omega)])
    simpa using this
  · match j, hj with
    | 0, hj => cases hj; exact ⟨hf, hk, ho, hl⟩
  · simp at hi hj; omega
def tup0 (v : Value) : Value := .tuple ⟨[v, .int .i64 0]⟩
theorem tup0_ren : ∀ σ v v', renV σ v = some v' → renV σ (tup0 v) = some (tup0 v') := fun σ v v' h => renV_tuple_mk (renL_mk h (renL_mk (by simp only [renV]) rfl))
def cdBad : Value := .tuple ⟨[.slice none 0 0, .int .i64 2]⟩
def sRc : Spec2 := fun xs n ys m tp => match tp with
  | true :: tp => some (⟨fun _ => cdBad, []⟩, tp, [n ≠ m])
  | false :: true :: tp => some (⟨fun nx => tup0 (.slice (some ⟨nx, 0, none⟩) 0 0), [⟨.shut, []⟩]⟩, tp, [n = 0, m = 0])
  | false :: false :: tp => some (⟨fun nx => tup0 (.slice (some ⟨nx, 0, none⟩) n n), [⟨.shut, cdL xs ys⟩]⟩, tp, [0 < n, n ≤ 1000, m = n, Bols xs, Ints .i64 ys])
  | _ => none
def sCi : Spec2 := fun xs n ys m tp => match tp with
  | true :: tp => some (⟨fun _ => cdBad, []⟩, tp, [n ≠ m])
  | false :: tp => sCd xs n ys m tp
  | [] => none
theorem ran_bad {P : Program} {f : FuncId} {args : List Value} {h : Hp} {nx : Nat} (H : ∃ h' nx' d, Tri P f args h nx (cdBad, h', nx', d)) : Ran P f args h nx ⟨fun _ => cdBad, []⟩ := by
  obtain ⟨h', nx', d, T⟩ := H
  exact ⟨_, _, _, _, fun n => n, T, GrIs.flat fun σ => rfl⟩
theorem ran_tup {P : Program} {f : FuncId} {args : List Value} {h : Hp} {nx n c m : Nat} {cs : List Value} (H : ∃ h' nx' d, Tri P f args h nx (tup0 (.slice (some ⟨m, 0, none⟩) n c), h', nx', d) ∧ lk h' m = some ⟨.shut, cs⟩) (hf : Fl cs) (hc : c ≤ 9223372036854775807) :
    Ran P f args h nx ⟨fun nx => tup0 (.slice (some ⟨nx, 0, none⟩) n c), [⟨.shut, cs⟩]⟩ := by
  obtain ⟨h', nx', d, T, hl⟩ := H
  exact ⟨_, _, _, _, fun _ => m, T, GrIs.oneV tup0_ren hl hf rfl (fun e => by cases e) hc⟩
theorem ne_b {n m : Nat} (h : n ≠ m) : ((n : Int) != (m : Int)) = true := by simp only [bne_iff_ne, ne_eq]; omega
theorem ne_b0 {n : Nat} (h : n ≠ 0) : ((n : Int) != 0) = true := by simp only [bne_iff_ne, ne_eq]; omega
theorem ne_0b {m : Nat} (h : 0 ≠ m) : ((0 : Int) != (m : Int)) = true := by simp only [bne_iff_ne, ne_eq]; omega
theorem rc_gok : GOk Try.prog 18 [.s 1, .s 1] (gSS sRc) := by
  have hX : ∀ L, XOkZ (rcV L) Try.prog := fun L => noXz_ok rfl
  have hT : ∀ L, TOkZ (rcV L) Try.prog := fun L => T_okV rfl rcT_one
  have hL : LOkZ (rcV (roL Try.prog)) Try.prog := L_okV rfl (mkL_ok ro_spec_ok)
  have hL0 : LOkZ (rcV noL) Try.prog := noL_okV rfl
  refine gSS_ok (fun tp gr tp' ob hG ho => ?_) (fun xs n c tp gr tp' ob hG ho hf hl hc => ?_) (fun ys m d tp gr tp' ob hG ho hf hl hc => ?_) (fun xs n c ys m d tp gr tp' ob hG ho hf hl hc hf2 hl2 hc2 => ?_) <;> (
    unfold sRc at hG
    split at hG
    case h_4 => cases hG
    all_goals (simp only [Option.some.injEq, Prod.mk.injEq] at hG; obtain ⟨rfl, rfl, rfl⟩ := hG))
  · exact absurd rfl ho.1
  · refine ran_tup (run_row (hX _) (hT _) hL0 rc_nn ?_ rfl) (Fl.of rfl) (by omega)
    simp [Alls]
  · exact absurd ho.1 (by omega)
  · exact ran_bad (run_val (hX _) (hT _) hL0 (rc_xsn xs n c) ⟨ne_b0 ho.1, trivial⟩ rfl)
  · obtain ⟨rfl, _, _⟩ := ho
    refine ran_tup (run_row (hX _) (hT _) hL0 (rc_en xs c) ?_ rfl) (Fl.of rfl) (by omega)
    simp only [Alls]
    repeat' (first | with_reducible exact trivial | with_reducible apply And.intro)
    all_goals first | with_reducible assumption | omega | with_reducible rfl | (exact Fl.of rfl)
  · obtain ⟨h1, _, h2, _⟩ := ho
    omega
  · exact ran_bad (run_val (hX _) (hT _) hL0 (rc_xns ys m d) ⟨ne_0b ho.1, trivial⟩ rfl)
  · obtain ⟨_, rfl, _⟩ := ho
    refine ran_tup (run_row (hX _) (hT _) hL0 (rc_nf ys d) ?_ rfl) (Fl.of rfl) (by omega)
    simp only [Alls]
    repeat' (first | with_reducible exact trivial | with_reducible apply And.intro)
    all_goals first | with_reducible assumption | omega | with_reducible rfl | (skip)
  · exact absurd ho.1 (by omega)
  · exact ran_bad (run_val (hX _) (hT _) hL0 (rc_xss xs ys n m c d) ⟨ne_b ho.1, trivial⟩ rfl)
  · obtain ⟨rfl, rfl, _⟩ := ho
    refine ran_tup (run_row (hX _) (hT _) hL0 (rc_ef xs ys c d) ?_ rfl) (Fl.of rfl) (by omega)
    simp only [Alls]
    repeat' (first | with_reducible exact trivial | with_reducible apply And.intro)
    all_goals first | with_reducible assumption | omega | with_reducible rfl | (exact Fl.of rfl)
  · obtain ⟨h1, h2, rfl, hx, hy, _⟩ := ho
    have ex : xs.take m = xs := take_len (by omega)
    have hne : (((m : Nat) : Int) != (m : Int)) = false := by simp
    have fx := hx.fl
    have hro : RoOk ⟨m, c, d, spN xs, xs, ys, zrep [.int .i64 0] m, spL xs⟩ := ⟨⟨hx, hl⟩, ⟨hy, hl2⟩, rfl, rfl, rfl, h2, hc, hc2⟩
    refine ran_tup (run_row (hX _) (hT _) hL (rc_ok xs ys m c d) ?_ rfl) (Fl.ints _ _) (by omega)
    simp only [Alls, ex, avLen]
    repeat' (first | with_reducible exact trivial | with_reducible apply And.intro)
    all_goals first | with_reducible assumption | omega | with_reducible rfl | (first | exact hro | rfl)
theorem ci_gok : GOk Try.prog 12 [.s 1, .s 1] (gSS sCi) := by
  have hX : XOkZ ciV Try.prog := noXz_ok rfl
  have hT : TOkZ ciV Try.prog := noTz_okV rfl
  have hL : LOkZ ciV Try.prog := noL_okV rfl
  intro av tp gr tp' ob hG ho hP caps hcap
  cases tp with
  | nil =>
    unfold gSS at hG
    split at hG
    · split at hG
      · simp [sCi] at hG
      · cases hG
    · cases hG
  | cons t tp =>
    cases t with
    | false =>
      refine cd_gok av tp gr tp' ob ?_ ho hP caps hcap
      unfold gSS at hG ⊢
      split at hG
      · split at hG
        · exact hG
        · cases hG
      · cases hG
    | true =>
      refine gSS_ok (S := fun xs n ys m tp => match tp with | true :: tp => some (⟨fun _ => cdBad, []⟩, tp, [n ≠ m]) | _ => none) ?_ ?_ ?_ ?_ av (true :: tp) gr tp' ob ?_ ho hP caps hcap
      case refine_5 =>
        unfold gSS at hG ⊢
        split at hG
        · split at hG
          · exact hG
          · cases hG
        · cases hG
      · intro tp gr tp' ob hG ho
        split at hG
        case h_2 => cases hG
        simp only [Option.some.injEq, Prod.mk.injEq] at hG
        obtain ⟨rfl, rfl, rfl⟩ := hG
        exact absurd rfl ho.1
      · intro xs n c tp gr tp' ob hG ho hf hl hc
        split at hG
        case h_2 => cases hG
        simp only [Option.some.injEq, Prod.mk.injEq] at hG
        obtain ⟨rfl, rfl, rfl⟩ := hG
        exact ran_bad (run_val hX hT hL (ci_xsn xs n c) ⟨ne_b0 ho.1, trivial⟩ rfl)
      · intro ys m d tp gr tp' ob hG ho hf hl hc
        split at hG
        case h_2 => cases hG
        simp only [Option.some.injEq, Prod.mk.injEq] at hG
        obtain ⟨rfl, rfl, rfl⟩ := hG
        exact ran_bad (run_val hX hT hL (ci_xns ys m d) ⟨ne_0b ho.1, trivial⟩ rfl)
      · intro xs n c ys m d tp gr tp' ob hG ho hf hl hc hf2 hl2 hc2
        split at hG
        case h_2 => cases hG
        simp only [Option.some.injEq, Prod.mk.injEq] at hG
        obtain ⟨rfl, rfl, rfl⟩ := hG
        exact ran_bad (run_val hX hT hL (ci_xss xs ys n m c d) ⟨ne_b ho.1, trivial⟩ rfl)
end Go.Proofs.Ytmjmdjcgjmjigaa
