/-
  Chapter 19: the statement ChainCodes, run at lists that are nil; its own call.
-/
import Derived.Test.YtmjmdjcgjmjigaaCodL
namespace Go.Proofs.Ytmjmdjcgjmjigaa
set_option linter.unusedSimpArgs false
set_option linter.unusedVariables false
set_option linter.unusedSectionVars false
open Go Go.RowKit

theorem cc_sn_l1 (xs : List Value) (n c : Nat) : prjV (runZ ccV Try.prog 5 6 [.slice (some ⟨0, 0, none⟩) n c, .slice none 0 0] [(0, ⟨.old, xs⟩)] 2 [true, true]) =
  Res.ok (Value.bool true, [], [decide ((↑n : Int) > (200 : Int)) = true, true = true]) := by kernel_rfl
theorem cc_ns_l2 (ys : List Value) (m d : Nat) : prjV (runZ ccV Try.prog 5 6 [.slice none 0 0, .slice (some ⟨1, 0, none⟩) m d] [(1, ⟨.old, ys⟩)] 2 [false, true]) =
  Res.ok (Value.bool true, [], [false = false, (bif false then true else decide ((↑m : Int) > (200 : Int))) = true]) := by kernel_rfl
theorem cc_sn_e (xs : List Value) (n c : Nat) : prjV (runZ ccV Try.prog 5 6 [.slice (some ⟨0, 0, none⟩) n c, .slice none 0 0] [(0, ⟨.old, xs⟩)] 2 ([false, false] ++ [false, true] ++ [false, true] ++ [false, false] ++ [true, true] ++ [false] ++ [true, true] ++ [false, true, true])) =
  Res.ok (Value.bool true, [], [decide ((↑n : Int) > (200 : Int)) = false, false = false, n ≤ c ∧ c ≤ (9223372036854775807 : Nat), n ≤ List.length xs, Fl (List.take n xs), okB (List.take n xs) n, n ≤ (1000000 : Nat), okI []
 (0 : Nat), (0 : Nat) ≤ (1000000 : Nat), n ≤ n + (3 : Nat) ∧ n + (3 : Nat) ≤ (9223372036854775807 : Nat), n ≤ List.length (List.take n xs ++ [Value.bool ((↑(n % (2 : Nat)) : Int) == (0 : Int)), Value.bool ((↑((n + (1 :
 Nat)) % (2 : Nat)) : Int) == (0 : Int)), Value.bool ((↑((n + (1 : Nat) + (1 : Nat)) % (2 : Nat)) : Int) == (0 : Int))]), Fl (List.take n (List.take n xs ++ [Value.bool ((↑(n % (2 : Nat)) : Int) == (0 : Int)), Value.bool
 ((↑((n + (1 : Nat)) % (2 : Nat)) : Int) == (0 : Int)), Value.bool ((↑((n + (1 : Nat) + (1 : Nat)) % (2 : Nat)) : Int) == (0 : Int))])), (0 : Nat) ≤ (3 : Nat) ∧ (3 : Nat) ≤ (9223372036854775807 : Nat), (0 : Nat) ≤ (3 :
 Nat), Fl [], avLen (Av.sl (List.take n (List.take n xs ++ [Value.bool ((↑(n % (2 : Nat)) : Int) == (0 : Int)), Value.bool ((↑((n + (1 : Nat)) % (2 : Nat)) : Int) == (0 : Int)), Value.bool ((↑((n + (1 : Nat) + (1 : Nat)) %
 (2 : Nat)) : Int) == (0 : Int))])) n) = (0 : Nat), (0 : Nat) = (0 : Nat), n ≤ c ∧ c ≤ (9223372036854775807 : Nat), n ≤ List.length xs, Fl (List.take n xs), n = (0 : Nat), (0 : Nat) = (0 : Nat), (0 : Nat) ≤ (0 : Nat) ∧ (0
 : Nat) ≤ (9223372036854775807 : Nat), (0 : Nat) ≤ (0 : Nat), Fl [], okI [] (0 : Nat), ([] : List Value) = [], (0 : Nat) = (0 : Nat), false = false, false = false, n ≤ n + (3 : Nat) ∧ n + (3 : Nat) ≤ (9223372036854775807 :
 Nat), n ≤ List.length (List.take n xs ++ [Value.bool ((↑(n % (2 : Nat)) : Int) == (0 : Int)), Value.bool ((↑((n + (1 : Nat)) % (2 : Nat)) : Int) == (0 : Int)), Value.bool ((↑((n + (1 : Nat) + (1 : Nat)) % (2 : Nat)) :
 Int) == (0 : Int))]), Fl (List.take n (List.take n xs ++ [Value.bool ((↑(n % (2 : Nat)) : Int) == (0 : Int)), Value.bool ((↑((n + (1 : Nat)) % (2 : Nat)) : Int) == (0 : Int)), Value.bool ((↑((n + (1 : Nat) + (1 : Nat)) %
 (2 : Nat)) : Int) == (0 : Int))])), avLen (Av.sl (List.take n (List.take n xs ++ [Value.bool ((↑(n % (2 : Nat)) : Int) == (0 : Int)), Value.bool ((↑((n + (1 : Nat)) % (2 : Nat)) : Int) == (0 : Int)), Value.bool ((↑((n +
 (1 : Nat) + (1 : Nat)) % (2 : Nat)) : Int) == (0 : Int))])) n) = (0 : Nat), n ≤ c ∧ c ≤ (9223372036854775807 : Nat), n ≤ List.length xs, Fl (List.take n xs), n = (0 : Nat), okS [] (0 : Nat), ([] : List Value) = [], (0 :
 Nat) = (0 : Nat), false = false, (0 : Nat) ≤ (3 : Nat) ∧ (3 : Nat) ≤ (9223372036854775807 : Nat), (0 : Nat) ≤ (3 : Nat), Fl [], Ints IntKind.i64 [], (0 : Nat) ≤ (1000 : Nat), (0 : Nat) = (0 : Nat), Ints IntKind.i64 [], (0
 : Nat) ≤ (1000 : Nat), (0 : Nat) = (0 : Nat), Ints IntKind.i64 [], ([] : List Value) = [], (0 : Nat) = (0 : Nat), false = false, n + (3 : Nat) ≤ (9223372036854775807 : Nat), n + (3 : Nat) ≤ List.length (List.take n xs ++
 [Value.bool ((↑(n % (2 : Nat)) : Int) == (0 : Int)), Value.bool ((↑((n + (1 : Nat)) % (2 : Nat)) : Int) == (0 : Int)), Value.bool ((↑((n + (1 : Nat) + (1 : Nat)) % (2 : Nat)) : Int) == (0 : Int))]), Fl (List.take (n + (3
 : Nat)) (List.take n xs ++ [Value.bool ((↑(n % (2 : Nat)) : Int) == (0 : Int)), Value.bool ((↑((n + (1 : Nat)) % (2 : Nat)) : Int) == (0 : Int)), Value.bool ((↑((n + (1 : Nat) + (1 : Nat)) % (2 : Nat)) : Int) == (0 :
 Int))])), n ≤ c ∧ c ≤ (9223372036854775807 : Nat), n ≤ List.length xs, Fl (List.take n xs), List.take (n + (3 : Nat)) (List.take n xs ++ [Value.bool ((↑(n % (2 : Nat)) : Int) == (0 : Int)), Value.bool ((↑((n + (1 : Nat))
 % (2 : Nat)) : Int) == (0 : Int)), Value.bool ((↑((n + (1 : Nat) + (1 : Nat)) % (2 : Nat)) : Int) == (0 : Int))]) = List.take n xs ++ [Value.bool ((↑(n % (2 : Nat)) : Int) == (0 : Int)), Value.bool ((↑((n + (1 : Nat)) %
 (2 : Nat)) : Int) == (0 : Int)), Value.bool ((↑((n + (1 : Nat) + (1 : Nat)) % (2 : Nat)) : Int) == (0 : Int))], okB (List.take n xs) n, n = n, n + (3 : Nat) = n + (3 : Nat), n ≤ (1000000 : Nat), true = true, (3 : Nat) ≤
 (9223372036854775807 : Nat), (3 : Nat) ≤ (3 : Nat), Fl [Value.int IntKind.i64 (Int.negSucc (nat_lit 76)), Value.int IntKind.i64 (Int.negSucc (nat_lit 76) - (1 : Int)), Value.int IntKind.i64 (Int.negSucc (nat_lit 76) - (2
 : Int))], [Value.int IntKind.i64 (Int.negSucc (nat_lit 76)), Value.int IntKind.i64 (Int.negSucc (nat_lit 76) - (1 : Int)), Value.int IntKind.i64 (Int.negSucc (nat_lit 76) - (2 : Int))] = [Value.int IntKind.i64
 (Int.negSucc (nat_lit 76)), Value.int IntKind.i64 (Int.negSucc (nat_lit 76) - (1 : Int)), Value.int IntKind.i64 (Int.negSucc (nat_lit 76) - (2 : Int))], okI [] (0 : Nat), (0 : Nat) = (0 : Nat), (3 : Nat) = (3 : Nat), (0 :
 Nat) ≤ (1000000 : Nat), true = true]) := by kernel_rfl
theorem cc_sn_x (xs : List Value) (n c : Nat) : prjV (runZ ccV Try.prog 5 6 [.slice (some ⟨0, 0, none⟩) n c, .slice none 0 0] [(0, ⟨.old, xs⟩)] 2 ([false, false] ++ [true] ++ [true] ++ [false, false] ++ [false, false] ++ [false] ++ [true, true] ++ [false, true, true])) =
  Res.ok (Value.bool true, [], [decide ((↑n : Int) > (200 : Int)) = false, false = false, n ≤ c ∧ c ≤ (9223372036854775807 : Nat), n ≤ List.length xs, Fl (List.take n xs), okB (List.take n xs) n, n ≤ (1000000 : Nat), okI []
 (0 : Nat), (0 : Nat) ≤ (1000000 : Nat), n ≤ n + (3 : Nat) ∧ n + (3 : Nat) ≤ (9223372036854775807 : Nat), n ≤ List.length (List.take n xs ++ [Value.bool ((↑(n % (2 : Nat)) : Int) == (0 : Int)), Value.bool ((↑((n + (1 :
 Nat)) % (2 : Nat)) : Int) == (0 : Int)), Value.bool ((↑((n + (1 : Nat) + (1 : Nat)) % (2 : Nat)) : Int) == (0 : Int))]), Fl (List.take n (List.take n xs ++ [Value.bool ((↑(n % (2 : Nat)) : Int) == (0 : Int)), Value.bool
 ((↑((n + (1 : Nat)) % (2 : Nat)) : Int) == (0 : Int)), Value.bool ((↑((n + (1 : Nat) + (1 : Nat)) % (2 : Nat)) : Int) == (0 : Int))])), (0 : Nat) ≤ (3 : Nat) ∧ (3 : Nat) ≤ (9223372036854775807 : Nat), (0 : Nat) ≤ (3 :
 Nat), Fl [], avLen (Av.sl (List.take n (List.take n xs ++ [Value.bool ((↑(n % (2 : Nat)) : Int) == (0 : Int)), Value.bool ((↑((n + (1 : Nat)) % (2 : Nat)) : Int) == (0 : Int)), Value.bool ((↑((n + (1 : Nat) + (1 : Nat)) %
 (2 : Nat)) : Int) == (0 : Int))])) n) ≠ (0 : Nat), n ≤ c ∧ c ≤ (9223372036854775807 : Nat), n ≤ List.length xs, Fl (List.take n xs), n ≠ (0 : Nat), okI [] (0 : Nat), ([] : List Value) = [], (0 : Nat) = (0 : Nat), false =
 false, false = false, n ≤ n + (3 : Nat) ∧ n + (3 : Nat) ≤ (9223372036854775807 : Nat), n ≤ List.length (List.take n xs ++ [Value.bool ((↑(n % (2 : Nat)) : Int) == (0 : Int)), Value.bool ((↑((n + (1 : Nat)) % (2 : Nat)) :
 Int) == (0 : Int)), Value.bool ((↑((n + (1 : Nat) + (1 : Nat)) % (2 : Nat)) : Int) == (0 : Int))]), Fl (List.take n (List.take n xs ++ [Value.bool ((↑(n % (2 : Nat)) : Int) == (0 : Int)), Value.bool ((↑((n + (1 : Nat)) %
 (2 : Nat)) : Int) == (0 : Int)), Value.bool ((↑((n + (1 : Nat) + (1 : Nat)) % (2 : Nat)) : Int) == (0 : Int))])), (0 : Nat) < avLen (Av.sl (List.take n (List.take n xs ++ [Value.bool ((↑(n % (2 : Nat)) : Int) == (0 :
 Int)), Value.bool ((↑((n + (1 : Nat)) % (2 : Nat)) : Int) == (0 : Int)), Value.bool ((↑((n + (1 : Nat) + (1 : Nat)) % (2 : Nat)) : Int) == (0 : Int))])) n), avLen (Av.sl (List.take n (List.take n xs ++ [Value.bool ((↑(n %
 (2 : Nat)) : Int) == (0 : Int)), Value.bool ((↑((n + (1 : Nat)) % (2 : Nat)) : Int) == (0 : Int)), Value.bool ((↑((n + (1 : Nat) + (1 : Nat)) % (2 : Nat)) : Int) == (0 : Int))])) n) ≤ (1000 : Nat), Bols (List.take n
 (List.take n xs ++ [Value.bool ((↑(n % (2 : Nat)) : Int) == (0 : Int)), Value.bool ((↑((n + (1 : Nat)) % (2 : Nat)) : Int) == (0 : Int)), Value.bool ((↑((n + (1 : Nat) + (1 : Nat)) % (2 : Nat)) : Int) == (0 : Int))])), n
 ≤ c ∧ c ≤ (9223372036854775807 : Nat), n ≤ List.length xs, Fl (List.take n xs), (0 : Nat) < n, n ≤ (1000 : Nat), Bols (List.take n xs), capBig + (4 : Nat) = capBig + (4 : Nat), spN (List.take n (List.take n xs ++
 [Value.bool ((↑(n % (2 : Nat)) : Int) == (0 : Int)), Value.bool ((↑((n + (1 : Nat)) % (2 : Nat)) : Int) == (0 : Int)), Value.bool ((↑((n + (1 : Nat) + (1 : Nat)) % (2 : Nat)) : Int) == (0 : Int))])) ≤ spN (List.take n
 (List.take n xs ++ [Value.bool ((↑(n % (2 : Nat)) : Int) == (0 : Int)), Value.bool ((↑((n + (1 : Nat)) % (2 : Nat)) : Int) == (0 : Int)), Value.bool ((↑((n + (1 : Nat) + (1 : Nat)) % (2 : Nat)) : Int) == (0 : Int))])),
 spN (List.take n (List.take n xs ++ [Value.bool ((↑(n % (2 : Nat)) : Int) == (0 : Int)), Value.bool ((↑((n + (1 : Nat)) % (2 : Nat)) : Int) == (0 : Int)), Value.bool ((↑((n + (1 : Nat) + (1 : Nat)) % (2 : Nat)) : Int) ==
 (0 : Int))])) * (3 : Nat) ≤ List.length (spL (List.take n (List.take n xs ++ [Value.bool ((↑(n % (2 : Nat)) : Int) == (0 : Int)), Value.bool ((↑((n + (1 : Nat)) % (2 : Nat)) : Int) == (0 : Int)), Value.bool ((↑((n + (1 :
 Nat) + (1 : Nat)) % (2 : Nat)) : Int) == (0 : Int))]))), Fl (List.take (spN (List.take n (List.take n xs ++ [Value.bool ((↑(n % (2 : Nat)) : Int) == (0 : Int)), Value.bool ((↑((n + (1 : Nat)) % (2 : Nat)) : Int) == (0 :
 Int)), Value.bool ((↑((n + (1 : Nat) + (1 : Nat)) % (2 : Nat)) : Int) == (0 : Int))])) * (3 : Nat)) (spL (List.take n (List.take n xs ++ [Value.bool ((↑(n % (2 : Nat)) : Int) == (0 : Int)), Value.bool ((↑((n + (1 : Nat))
 % (2 : Nat)) : Int) == (0 : Int)), Value.bool ((↑((n + (1 : Nat) + (1 : Nat)) % (2 : Nat)) : Int) == (0 : Int))])))), capBig + (5 : Nat) = capBig + (5 : Nat), spN (List.take n xs) * (3 : Nat) ≤ List.length (spL (List.take
 n xs)), (0 : Nat) < (3 : Nat), spN (List.take n xs) * (3 : Nat) ≤ List.length (spL (List.take n xs)), Fl (List.take (spN (List.take n xs) * (3 : Nat)) (spL (List.take n xs))), okS (List.take (spN (List.take n (List.take n
 xs ++ [Value.bool ((↑(n % (2 : Nat)) : Int) == (0 : Int)), Value.bool ((↑((n + (1 : Nat)) % (2 : Nat)) : Int) == (0 : Int)), Value.bool ((↑((n + (1 : Nat) + (1 : Nat)) % (2 : Nat)) : Int) == (0 : Int))])) * (3 : Nat))
 (spL (List.take n (List.take n xs ++ [Value.bool ((↑(n % (2 : Nat)) : Int) == (0 : Int)), Value.bool ((↑((n + (1 : Nat)) % (2 : Nat)) : Int) == (0 : Int)), Value.bool ((↑((n + (1 : Nat) + (1 : Nat)) % (2 : Nat)) : Int) ==
 (0 : Int))])))) (avLen (Av.sl (List.take (spN (List.take n (List.take n xs ++ [Value.bool ((↑(n % (2 : Nat)) : Int) == (0 : Int)), Value.bool ((↑((n + (1 : Nat)) % (2 : Nat)) : Int) == (0 : Int)), Value.bool ((↑((n + (1 :
 Nat) + (1 : Nat)) % (2 : Nat)) : Int) == (0 : Int))])) * (3 : Nat)) (spL (List.take n (List.take n xs ++ [Value.bool ((↑(n % (2 : Nat)) : Int) == (0 : Int)), Value.bool ((↑((n + (1 : Nat)) % (2 : Nat)) : Int) == (0 :
 Int)), Value.bool ((↑((n + (1 : Nat) + (1 : Nat)) % (2 : Nat)) : Int) == (0 : Int))])))) (spN (List.take n (List.take n xs ++ [Value.bool ((↑(n % (2 : Nat)) : Int) == (0 : Int)), Value.bool ((↑((n + (1 : Nat)) % (2 :
 Nat)) : Int) == (0 : Int)), Value.bool ((↑((n + (1 : Nat) + (1 : Nat)) % (2 : Nat)) : Int) == (0 : Int))]))))), List.take (spN (List.take n xs) * (3 : Nat)) (spL (List.take n xs)) = List.take (spN (List.take n (List.take
 n xs ++ [Value.bool ((↑(n % (2 : Nat)) : Int) == (0 : Int)), Value.bool ((↑((n + (1 : Nat)) % (2 : Nat)) : Int) == (0 : Int)), Value.bool ((↑((n + (1 : Nat) + (1 : Nat)) % (2 : Nat)) : Int) == (0 : Int))])) * (3 : Nat))
 (spL (List.take n (List.take n xs ++ [Value.bool ((↑(n % (2 : Nat)) : Int) == (0 : Int)), Value.bool ((↑((n + (1 : Nat)) % (2 : Nat)) : Int) == (0 : Int)), Value.bool ((↑((n + (1 : Nat) + (1 : Nat)) % (2 : Nat)) : Int) ==
 (0 : Int))]))), avLen (Av.sl (List.take (spN (List.take n xs) * (3 : Nat)) (spL (List.take n xs))) (spN (List.take n xs))) = avLen (Av.sl (List.take (spN (List.take n (List.take n xs ++ [Value.bool ((↑(n % (2 : Nat)) :
 Int) == (0 : Int)), Value.bool ((↑((n + (1 : Nat)) % (2 : Nat)) : Int) == (0 : Int)), Value.bool ((↑((n + (1 : Nat) + (1 : Nat)) % (2 : Nat)) : Int) == (0 : Int))])) * (3 : Nat)) (spL (List.take n (List.take n xs ++
 [Value.bool ((↑(n % (2 : Nat)) : Int) == (0 : Int)), Value.bool ((↑((n + (1 : Nat)) % (2 : Nat)) : Int) == (0 : Int)), Value.bool ((↑((n + (1 : Nat) + (1 : Nat)) % (2 : Nat)) : Int) == (0 : Int))])))) (spN (List.take n
 (List.take n xs ++ [Value.bool ((↑(n % (2 : Nat)) : Int) == (0 : Int)), Value.bool ((↑((n + (1 : Nat)) % (2 : Nat)) : Int) == (0 : Int)), Value.bool ((↑((n + (1 : Nat) + (1 : Nat)) % (2 : Nat)) : Int) == (0 : Int))])))),
 false = false, (0 : Nat) ≤ (3 : Nat) ∧ (3 : Nat) ≤ (9223372036854775807 : Nat), (0 : Nat) ≤ (3 : Nat), Fl [], Ints IntKind.i64 [], (0 : Nat) ≤ (1000 : Nat), (0 : Nat) = (0 : Nat), Ints IntKind.i64 [], (0 : Nat) ≤ (1000 :
 Nat), (0 : Nat) = (0 : Nat), Ints IntKind.i64 [], ([] : List Value) = [], (0 : Nat) = (0 : Nat), false = false, n + (3 : Nat) ≤ (9223372036854775807 : Nat), n + (3 : Nat) ≤ List.length (List.take n xs ++ [Value.bool ((↑(n
 % (2 : Nat)) : Int) == (0 : Int)), Value.bool ((↑((n + (1 : Nat)) % (2 : Nat)) : Int) == (0 : Int)), Value.bool ((↑((n + (1 : Nat) + (1 : Nat)) % (2 : Nat)) : Int) == (0 : Int))]), Fl (List.take (n + (3 : Nat)) (List.take
 n xs ++ [Value.bool ((↑(n % (2 : Nat)) : Int) == (0 : Int)), Value.bool ((↑((n + (1 : Nat)) % (2 : Nat)) : Int) == (0 : Int)), Value.bool ((↑((n + (1 : Nat) + (1 : Nat)) % (2 : Nat)) : Int) == (0 : Int))])), n ≤ c ∧ c ≤
 (9223372036854775807 : Nat), n ≤ List.length xs, Fl (List.take n xs), List.take (n + (3 : Nat)) (List.take n xs ++ [Value.bool ((↑(n % (2 : Nat)) : Int) == (0 : Int)), Value.bool ((↑((n + (1 : Nat)) % (2 : Nat)) : Int) ==
 (0 : Int)), Value.bool ((↑((n + (1 : Nat) + (1 : Nat)) % (2 : Nat)) : Int) == (0 : Int))]) = List.take n xs ++ [Value.bool ((↑(n % (2 : Nat)) : Int) == (0 : Int)), Value.bool ((↑((n + (1 : Nat)) % (2 : Nat)) : Int) == (0
 : Int)), Value.bool ((↑((n + (1 : Nat) + (1 : Nat)) % (2 : Nat)) : Int) == (0 : Int))], okB (List.take n xs) n, n = n, n + (3 : Nat) = n + (3 : Nat), n ≤ (1000000 : Nat), true = true, (3 : Nat) ≤ (9223372036854775807 :
 Nat), (3 : Nat) ≤ (3 : Nat), Fl [Value.int IntKind.i64 (Int.negSucc (nat_lit 76)), Value.int IntKind.i64 (Int.negSucc (nat_lit 76) - (1 : Int)), Value.int IntKind.i64 (Int.negSucc (nat_lit 76) - (2 : Int))], [Value.int
 IntKind.i64 (Int.negSucc (nat_lit 76)), Value.int IntKind.i64 (Int.negSucc (nat_lit 76) - (1 : Int)), Value.int IntKind.i64 (Int.negSucc (nat_lit 76) - (2 : Int))] = [Value.int IntKind.i64 (Int.negSucc (nat_lit 76)),
 Value.int IntKind.i64 (Int.negSucc (nat_lit 76) - (1 : Int)), Value.int IntKind.i64 (Int.negSucc (nat_lit 76) - (2 : Int))], okI [] (0 : Nat), (0 : Nat) = (0 : Nat), (3 : Nat) = (3 : Nat), (0 : Nat) ≤ (1000000 : Nat),
 true = true]) := by kernel_rfl
theorem cc_ns_e (ys : List Value) (m d : Nat) : prjV (runZ ccV Try.prog 5 6 [.slice none 0 0, .slice (some ⟨1, 0, none⟩) m d] [(1, ⟨.old, ys⟩)] 2 ([false, false] ++ [false, true] ++ [false, true] ++ [false, false] ++ [true, true] ++ [false] ++ [true, true] ++ [false, true, true])) =
  Res.ok (Value.bool true, [], [false = false, (bif false then true else decide ((↑m : Int) > (200 : Int))) = false, okB [] (0 : Nat), (0 : Nat) ≤ (1000000 : Nat), m ≤ d ∧ d ≤ (9223372036854775807 : Nat), m ≤ List.length
 ys, Fl (List.take m ys), okI (List.take m ys) m, m ≤ (1000000 : Nat), (0 : Nat) ≤ (3 : Nat) ∧ (3 : Nat) ≤ (9223372036854775807 : Nat), (0 : Nat) ≤ (3 : Nat), Fl [], m ≤ m + (3 : Nat) ∧ m + (3 : Nat) ≤ (9223372036854775807
 : Nat), m ≤ List.length (List.take m ys ++ [Value.int IntKind.i64 (Int.negSucc (nat_lit 76) - (↑m : Int)), Value.int IntKind.i64 (Int.negSucc (nat_lit 76) - (↑(m + (1 : Nat)) : Int)), Value.int IntKind.i64 (Int.negSucc
 (nat_lit 76) - (↑(m + (1 : Nat) + (1 : Nat)) : Int))]), Fl (List.take m (List.take m ys ++ [Value.int IntKind.i64 (Int.negSucc (nat_lit 76) - (↑m : Int)), Value.int IntKind.i64 (Int.negSucc (nat_lit 76) - (↑(m + (1 :
 Nat)) : Int)), Value.int IntKind.i64 (Int.negSucc (nat_lit 76) - (↑(m + (1 : Nat) + (1 : Nat)) : Int))])), (0 : Nat) = (0 : Nat), avLen (Av.sl (List.take m (List.take m ys ++ [Value.int IntKind.i64 (Int.negSucc (nat_lit
 76) - (↑m : Int)), Value.int IntKind.i64 (Int.negSucc (nat_lit 76) - (↑(m + (1 : Nat)) : Int)), Value.int IntKind.i64 (Int.negSucc (nat_lit 76) - (↑(m + (1 : Nat) + (1 : Nat)) : Int))])) m) = (0 : Nat), m ≤ d ∧ d ≤
 (9223372036854775807 : Nat), m ≤ List.length ys, Fl (List.take m ys), (0 : Nat) = (0 : Nat), m = (0 : Nat), (0 : Nat) ≤ (0 : Nat) ∧ (0 : Nat) ≤ (9223372036854775807 : Nat), (0 : Nat) ≤ (0 : Nat), Fl [], okI [] (0 : Nat),
 ([] : List Value) = [], (0 : Nat) = (0 : Nat), false = false, false = false, (0 : Nat) ≤ (3 : Nat) ∧ (3 : Nat) ≤ (9223372036854775807 : Nat), (0 : Nat) ≤ (3 : Nat), Fl [], (0 : Nat) = (0 : Nat), (0 : Nat) = (0 : Nat), okS
 [] (0 : Nat), ([] : List Value) = [], (0 : Nat) = (0 : Nat), false = false, m ≤ m + (3 : Nat) ∧ m + (3 : Nat) ≤ (9223372036854775807 : Nat), m ≤ List.length (List.take m ys ++ [Value.int IntKind.i64 (Int.negSucc (nat_lit
 76) - (↑m : Int)), Value.int IntKind.i64 (Int.negSucc (nat_lit 76) - (↑(m + (1 : Nat)) : Int)), Value.int IntKind.i64 (Int.negSucc (nat_lit 76) - (↑(m + (1 : Nat) + (1 : Nat)) : Int))]), Fl (List.take m (List.take m ys ++
 [Value.int IntKind.i64 (Int.negSucc (nat_lit 76) - (↑m : Int)), Value.int IntKind.i64 (Int.negSucc (nat_lit 76) - (↑(m + (1 : Nat)) : Int)), Value.int IntKind.i64 (Int.negSucc (nat_lit 76) - (↑(m + (1 : Nat) + (1 : Nat))
 : Int))])), Ints IntKind.i64 (List.take m (List.take m ys ++ [Value.int IntKind.i64 (Int.negSucc (nat_lit 76) - (↑m : Int)), Value.int IntKind.i64 (Int.negSucc (nat_lit 76) - (↑(m + (1 : Nat)) : Int)), Value.int
 IntKind.i64 (Int.negSucc (nat_lit 76) - (↑(m + (1 : Nat) + (1 : Nat)) : Int))])), avLen (Av.sl (List.take m (List.take m ys ++ [Value.int IntKind.i64 (Int.negSucc (nat_lit 76) - (↑m : Int)), Value.int IntKind.i64
 (Int.negSucc (nat_lit 76) - (↑(m + (1 : Nat)) : Int)), Value.int IntKind.i64 (Int.negSucc (nat_lit 76) - (↑(m + (1 : Nat) + (1 : Nat)) : Int))])) m) ≤ (1000 : Nat), nzN (List.take m (List.take m ys ++ [Value.int
 IntKind.i64 (Int.negSucc (nat_lit 76) - (↑m : Int)), Value.int IntKind.i64 (Int.negSucc (nat_lit 76) - (↑(m + (1 : Nat)) : Int)), Value.int IntKind.i64 (Int.negSucc (nat_lit 76) - (↑(m + (1 : Nat) + (1 : Nat)) : Int))]))
 (0 : Nat) (avLen (Av.sl (List.take m (List.take m ys ++ [Value.int IntKind.i64 (Int.negSucc (nat_lit 76) - (↑m : Int)), Value.int IntKind.i64 (Int.negSucc (nat_lit 76) - (↑(m + (1 : Nat)) : Int)), Value.int IntKind.i64
 (Int.negSucc (nat_lit 76) - (↑(m + (1 : Nat) + (1 : Nat)) : Int))])) m)) = (0 : Nat), m ≤ d ∧ d ≤ (9223372036854775807 : Nat), m ≤ List.length ys, Fl (List.take m ys), Ints IntKind.i64 (List.take m ys), m ≤ (1000 : Nat),
 nzN (List.take m ys) (0 : Nat) m = (0 : Nat), Ints IntKind.i64 [], ([] : List Value) = [], (0 : Nat) = (0 : Nat), false = false, (3 : Nat) ≤ (9223372036854775807 : Nat), (3 : Nat) ≤ (3 : Nat), Fl [Value.bool true,
 Value.bool false, Value.bool true], [Value.bool true, Value.bool false, Value.bool true] = [Value.bool true, Value.bool false, Value.bool true], okB [] (0 : Nat), (0 : Nat) = (0 : Nat), (3 : Nat) = (3 : Nat), (0 : Nat) ≤
 (1000000 : Nat), true = true, m + (3 : Nat) ≤ (9223372036854775807 : Nat), m + (3 : Nat) ≤ List.length (List.take m ys ++ [Value.int IntKind.i64 (Int.negSucc (nat_lit 76) - (↑m : Int)), Value.int IntKind.i64 (Int.negSucc
 (nat_lit 76) - (↑(m + (1 : Nat)) : Int)), Value.int IntKind.i64 (Int.negSucc (nat_lit 76) - (↑(m + (1 : Nat) + (1 : Nat)) : Int))]), Fl (List.take (m + (3 : Nat)) (List.take m ys ++ [Value.int IntKind.i64 (Int.negSucc
 (nat_lit 76) - (↑m : Int)), Value.int IntKind.i64 (Int.negSucc (nat_lit 76) - (↑(m + (1 : Nat)) : Int)), Value.int IntKind.i64 (Int.negSucc (nat_lit 76) - (↑(m + (1 : Nat) + (1 : Nat)) : Int))])), m ≤ d ∧ d ≤
 (9223372036854775807 : Nat), m ≤ List.length ys, Fl (List.take m ys), List.take (m + (3 : Nat)) (List.take m ys ++ [Value.int IntKind.i64 (Int.negSucc (nat_lit 76) - (↑m : Int)), Value.int IntKind.i64 (Int.negSucc
 (nat_lit 76) - (↑(m + (1 : Nat)) : Int)), Value.int IntKind.i64 (Int.negSucc (nat_lit 76) - (↑(m + (1 : Nat) + (1 : Nat)) : Int))]) = List.take m ys ++ [Value.int IntKind.i64 (Int.negSucc (nat_lit 76) - (↑m : Int)),
 Value.int IntKind.i64 (Int.negSucc (nat_lit 76) - (↑(m + (1 : Nat)) : Int)), Value.int IntKind.i64 (Int.negSucc (nat_lit 76) - (↑(m + (1 : Nat) + (1 : Nat)) : Int))], okI (List.take m ys) m, m = m, m + (3 : Nat) = m + (3
 : Nat), m ≤ (1000000 : Nat), true = true]) := by kernel_rfl
theorem cc_ns_xz (ys : List Value) (m d : Nat) : prjV (runZ ccV Try.prog 5 6 [.slice none 0 0, .slice (some ⟨1, 0, none⟩) m d] [(1, ⟨.old, ys⟩)] 2 ([false, false] ++ [true] ++ [true] ++ [false, false] ++ [true, true] ++ [false] ++ [true, true] ++ [false, true, true])) =
  Res.ok (Value.bool true, [], [false = false, (bif false then true else decide ((↑m : Int) > (200 : Int))) = false, okB [] (0 : Nat), (0 : Nat) ≤ (1000000 : Nat), m ≤ d ∧ d ≤ (9223372036854775807 : Nat), m ≤ List.length
 ys, Fl (List.take m ys), okI (List.take m ys) m, m ≤ (1000000 : Nat), (0 : Nat) ≤ (3 : Nat) ∧ (3 : Nat) ≤ (9223372036854775807 : Nat), (0 : Nat) ≤ (3 : Nat), Fl [], m ≤ m + (3 : Nat) ∧ m + (3 : Nat) ≤ (9223372036854775807
 : Nat), m ≤ List.length (List.take m ys ++ [Value.int IntKind.i64 (Int.negSucc (nat_lit 76) - (↑m : Int)), Value.int IntKind.i64 (Int.negSucc (nat_lit 76) - (↑(m + (1 : Nat)) : Int)), Value.int IntKind.i64 (Int.negSucc
 (nat_lit 76) - (↑(m + (1 : Nat) + (1 : Nat)) : Int))]), Fl (List.take m (List.take m ys ++ [Value.int IntKind.i64 (Int.negSucc (nat_lit 76) - (↑m : Int)), Value.int IntKind.i64 (Int.negSucc (nat_lit 76) - (↑(m + (1 :
 Nat)) : Int)), Value.int IntKind.i64 (Int.negSucc (nat_lit 76) - (↑(m + (1 : Nat) + (1 : Nat)) : Int))])), (0 : Nat) ≠ avLen (Av.sl (List.take m (List.take m ys ++ [Value.int IntKind.i64 (Int.negSucc (nat_lit 76) - (↑m :
 Int)), Value.int IntKind.i64 (Int.negSucc (nat_lit 76) - (↑(m + (1 : Nat)) : Int)), Value.int IntKind.i64 (Int.negSucc (nat_lit 76) - (↑(m + (1 : Nat) + (1 : Nat)) : Int))])) m), m ≤ d ∧ d ≤ (9223372036854775807 : Nat), m
 ≤ List.length ys, Fl (List.take m ys), (0 : Nat) ≠ m, okI [] (0 : Nat), ([] : List Value) = [], (0 : Nat) = (0 : Nat), false = false, false = false, (0 : Nat) ≤ (3 : Nat) ∧ (3 : Nat) ≤ (9223372036854775807 : Nat), (0 :
 Nat) ≤ (3 : Nat), Fl [], (0 : Nat) = (0 : Nat), (0 : Nat) = (0 : Nat), okS [] (0 : Nat), ([] : List Value) = [], (0 : Nat) = (0 : Nat), false = false, m ≤ m + (3 : Nat) ∧ m + (3 : Nat) ≤ (9223372036854775807 : Nat), m ≤
 List.length (List.take m ys ++ [Value.int IntKind.i64 (Int.negSucc (nat_lit 76) - (↑m : Int)), Value.int IntKind.i64 (Int.negSucc (nat_lit 76) - (↑(m + (1 : Nat)) : Int)), Value.int IntKind.i64 (Int.negSucc (nat_lit 76) -
 (↑(m + (1 : Nat) + (1 : Nat)) : Int))]), Fl (List.take m (List.take m ys ++ [Value.int IntKind.i64 (Int.negSucc (nat_lit 76) - (↑m : Int)), Value.int IntKind.i64 (Int.negSucc (nat_lit 76) - (↑(m + (1 : Nat)) : Int)),
 Value.int IntKind.i64 (Int.negSucc (nat_lit 76) - (↑(m + (1 : Nat) + (1 : Nat)) : Int))])), Ints IntKind.i64 (List.take m (List.take m ys ++ [Value.int IntKind.i64 (Int.negSucc (nat_lit 76) - (↑m : Int)), Value.int
 IntKind.i64 (Int.negSucc (nat_lit 76) - (↑(m + (1 : Nat)) : Int)), Value.int IntKind.i64 (Int.negSucc (nat_lit 76) - (↑(m + (1 : Nat) + (1 : Nat)) : Int))])), avLen (Av.sl (List.take m (List.take m ys ++ [Value.int
 IntKind.i64 (Int.negSucc (nat_lit 76) - (↑m : Int)), Value.int IntKind.i64 (Int.negSucc (nat_lit 76) - (↑(m + (1 : Nat)) : Int)), Value.int IntKind.i64 (Int.negSucc (nat_lit 76) - (↑(m + (1 : Nat) + (1 : Nat)) : Int))]))
 m) ≤ (1000 : Nat), nzN (List.take m (List.take m ys ++ [Value.int IntKind.i64 (Int.negSucc (nat_lit 76) - (↑m : Int)), Value.int IntKind.i64 (Int.negSucc (nat_lit 76) - (↑(m + (1 : Nat)) : Int)), Value.int IntKind.i64
 (Int.negSucc (nat_lit 76) - (↑(m + (1 : Nat) + (1 : Nat)) : Int))])) (0 : Nat) (avLen (Av.sl (List.take m (List.take m ys ++ [Value.int IntKind.i64 (Int.negSucc (nat_lit 76) - (↑m : Int)), Value.int IntKind.i64
 (Int.negSucc (nat_lit 76) - (↑(m + (1 : Nat)) : Int)), Value.int IntKind.i64 (Int.negSucc (nat_lit 76) - (↑(m + (1 : Nat) + (1 : Nat)) : Int))])) m)) = (0 : Nat), m ≤ d ∧ d ≤ (9223372036854775807 : Nat), m ≤ List.length
 ys, Fl (List.take m ys), Ints IntKind.i64 (List.take m ys), m ≤ (1000 : Nat), nzN (List.take m ys) (0 : Nat) m = (0 : Nat), Ints IntKind.i64 [], ([] : List Value) = [], (0 : Nat) = (0 : Nat), false = false, (3 : Nat) ≤
 (9223372036854775807 : Nat), (3 : Nat) ≤ (3 : Nat), Fl [Value.bool true, Value.bool false, Value.bool true], [Value.bool true, Value.bool false, Value.bool true] = [Value.bool true, Value.bool false, Value.bool true], okB
 [] (0 : Nat), (0 : Nat) = (0 : Nat), (3 : Nat) = (3 : Nat), (0 : Nat) ≤ (1000000 : Nat), true = true, m + (3 : Nat) ≤ (9223372036854775807 : Nat), m + (3 : Nat) ≤ List.length (List.take m ys ++ [Value.int IntKind.i64
 (Int.negSucc (nat_lit 76) - (↑m : Int)), Value.int IntKind.i64 (Int.negSucc (nat_lit 76) - (↑(m + (1 : Nat)) : Int)), Value.int IntKind.i64 (Int.negSucc (nat_lit 76) - (↑(m + (1 : Nat) + (1 : Nat)) : Int))]), Fl
 (List.take (m + (3 : Nat)) (List.take m ys ++ [Value.int IntKind.i64 (Int.negSucc (nat_lit 76) - (↑m : Int)), Value.int IntKind.i64 (Int.negSucc (nat_lit 76) - (↑(m + (1 : Nat)) : Int)), Value.int IntKind.i64 (Int.negSucc
 (nat_lit 76) - (↑(m + (1 : Nat) + (1 : Nat)) : Int))])), m ≤ d ∧ d ≤ (9223372036854775807 : Nat), m ≤ List.length ys, Fl (List.take m ys), List.take (m + (3 : Nat)) (List.take m ys ++ [Value.int IntKind.i64 (Int.negSucc
 (nat_lit 76) - (↑m : Int)), Value.int IntKind.i64 (Int.negSucc (nat_lit 76) - (↑(m + (1 : Nat)) : Int)), Value.int IntKind.i64 (Int.negSucc (nat_lit 76) - (↑(m + (1 : Nat) + (1 : Nat)) : Int))]) = List.take m ys ++
 [Value.int IntKind.i64 (Int.negSucc (nat_lit 76) - (↑m : Int)), Value.int IntKind.i64 (Int.negSucc (nat_lit 76) - (↑(m + (1 : Nat)) : Int)), Value.int IntKind.i64 (Int.negSucc (nat_lit 76) - (↑(m + (1 : Nat) + (1 : Nat))
 : Int))], okI (List.take m ys) m, m = m, m + (3 : Nat) = m + (3 : Nat), m ≤ (1000000 : Nat), true = true]) := by kernel_rfl
theorem cc_ns_xw (ys : List Value) (m d : Nat) : prjV (runZ ccV Try.prog 5 6 [.slice none 0 0, .slice (some ⟨1, 0, none⟩) m d] [(1, ⟨.old, ys⟩)] 2 ([false, false] ++ [true] ++ [true] ++ [false, false] ++ [true, true] ++ [false] ++ [false, false] ++ [false, true, true])) =
  Res.ok (Value.bool true, [], [false = false, (bif false then true else decide ((↑m : Int) > (200 : Int))) = false, okB [] (0 : Nat), (0 : Nat) ≤ (1000000 : Nat), m ≤ d ∧ d ≤ (9223372036854775807 : Nat), m ≤ List.length
 ys, Fl (List.take m ys), okI (List.take m ys) m, m ≤ (1000000 : Nat), (0 : Nat) ≤ (3 : Nat) ∧ (3 : Nat) ≤ (9223372036854775807 : Nat), (0 : Nat) ≤ (3 : Nat), Fl [], m ≤ m + (3 : Nat) ∧ m + (3 : Nat) ≤ (9223372036854775807
 : Nat), m ≤ List.length (List.take m ys ++ [Value.int IntKind.i64 (Int.negSucc (nat_lit 76) - (↑m : Int)), Value.int IntKind.i64 (Int.negSucc (nat_lit 76) - (↑(m + (1 : Nat)) : Int)), Value.int IntKind.i64 (Int.negSucc
 (nat_lit 76) - (↑(m + (1 : Nat) + (1 : Nat)) : Int))]), Fl (List.take m (List.take m ys ++ [Value.int IntKind.i64 (Int.negSucc (nat_lit 76) - (↑m : Int)), Value.int IntKind.i64 (Int.negSucc (nat_lit 76) - (↑(m + (1 :
 Nat)) : Int)), Value.int IntKind.i64 (Int.negSucc (nat_lit 76) - (↑(m + (1 : Nat) + (1 : Nat)) : Int))])), (0 : Nat) ≠ avLen (Av.sl (List.take m (List.take m ys ++ [Value.int IntKind.i64 (Int.negSucc (nat_lit 76) - (↑m :
 Int)), Value.int IntKind.i64 (Int.negSucc (nat_lit 76) - (↑(m + (1 : Nat)) : Int)), Value.int IntKind.i64 (Int.negSucc (nat_lit 76) - (↑(m + (1 : Nat) + (1 : Nat)) : Int))])) m), m ≤ d ∧ d ≤ (9223372036854775807 : Nat), m
 ≤ List.length ys, Fl (List.take m ys), (0 : Nat) ≠ m, okI [] (0 : Nat), ([] : List Value) = [], (0 : Nat) = (0 : Nat), false = false, false = false, (0 : Nat) ≤ (3 : Nat) ∧ (3 : Nat) ≤ (9223372036854775807 : Nat), (0 :
 Nat) ≤ (3 : Nat), Fl [], (0 : Nat) = (0 : Nat), (0 : Nat) = (0 : Nat), okS [] (0 : Nat), ([] : List Value) = [], (0 : Nat) = (0 : Nat), false = false, m ≤ m + (3 : Nat) ∧ m + (3 : Nat) ≤ (9223372036854775807 : Nat), m ≤
 List.length (List.take m ys ++ [Value.int IntKind.i64 (Int.negSucc (nat_lit 76) - (↑m : Int)), Value.int IntKind.i64 (Int.negSucc (nat_lit 76) - (↑(m + (1 : Nat)) : Int)), Value.int IntKind.i64 (Int.negSucc (nat_lit 76) -
 (↑(m + (1 : Nat) + (1 : Nat)) : Int))]), Fl (List.take m (List.take m ys ++ [Value.int IntKind.i64 (Int.negSucc (nat_lit 76) - (↑m : Int)), Value.int IntKind.i64 (Int.negSucc (nat_lit 76) - (↑(m + (1 : Nat)) : Int)),
 Value.int IntKind.i64 (Int.negSucc (nat_lit 76) - (↑(m + (1 : Nat) + (1 : Nat)) : Int))])), Ints IntKind.i64 (List.take m (List.take m ys ++ [Value.int IntKind.i64 (Int.negSucc (nat_lit 76) - (↑m : Int)), Value.int
 IntKind.i64 (Int.negSucc (nat_lit 76) - (↑(m + (1 : Nat)) : Int)), Value.int IntKind.i64 (Int.negSucc (nat_lit 76) - (↑(m + (1 : Nat) + (1 : Nat)) : Int))])), avLen (Av.sl (List.take m (List.take m ys ++ [Value.int
 IntKind.i64 (Int.negSucc (nat_lit 76) - (↑m : Int)), Value.int IntKind.i64 (Int.negSucc (nat_lit 76) - (↑(m + (1 : Nat)) : Int)), Value.int IntKind.i64 (Int.negSucc (nat_lit 76) - (↑(m + (1 : Nat) + (1 : Nat)) : Int))]))
 m) ≤ (1000 : Nat), nzN (List.take m (List.take m ys ++ [Value.int IntKind.i64 (Int.negSucc (nat_lit 76) - (↑m : Int)), Value.int IntKind.i64 (Int.negSucc (nat_lit 76) - (↑(m + (1 : Nat)) : Int)), Value.int IntKind.i64
 (Int.negSucc (nat_lit 76) - (↑(m + (1 : Nat) + (1 : Nat)) : Int))])) (0 : Nat) (avLen (Av.sl (List.take m (List.take m ys ++ [Value.int IntKind.i64 (Int.negSucc (nat_lit 76) - (↑m : Int)), Value.int IntKind.i64
 (Int.negSucc (nat_lit 76) - (↑(m + (1 : Nat)) : Int)), Value.int IntKind.i64 (Int.negSucc (nat_lit 76) - (↑(m + (1 : Nat) + (1 : Nat)) : Int))])) m)) ≠ (0 : Nat), m ≤ d ∧ d ≤ (9223372036854775807 : Nat), m ≤ List.length
 ys, Fl (List.take m ys), Ints IntKind.i64 (List.take m ys), m ≤ (1000 : Nat), nzN (List.take m ys) (0 : Nat) m ≠ (0 : Nat), capBig + (4 : Nat) = capBig + (4 : Nat), nzN (List.take m (List.take m ys ++ [Value.int
 IntKind.i64 (Int.negSucc (nat_lit 76) - (↑m : Int)), Value.int IntKind.i64 (Int.negSucc (nat_lit 76) - (↑(m + (1 : Nat)) : Int)), Value.int IntKind.i64 (Int.negSucc (nat_lit 76) - (↑(m + (1 : Nat) + (1 : Nat)) : Int))]))
 (0 : Nat) (avLen (Av.sl (List.take m (List.take m ys ++ [Value.int IntKind.i64 (Int.negSucc (nat_lit 76) - (↑m : Int)), Value.int IntKind.i64 (Int.negSucc (nat_lit 76) - (↑(m + (1 : Nat)) : Int)), Value.int IntKind.i64
 (Int.negSucc (nat_lit 76) - (↑(m + (1 : Nat) + (1 : Nat)) : Int))])) m)) * (2 : Nat) ≤ List.length (nzL (List.take m (List.take m ys ++ [Value.int IntKind.i64 (Int.negSucc (nat_lit 76) - (↑m : Int)), Value.int IntKind.i64
 (Int.negSucc (nat_lit 76) - (↑(m + (1 : Nat)) : Int)), Value.int IntKind.i64 (Int.negSucc (nat_lit 76) - (↑(m + (1 : Nat) + (1 : Nat)) : Int))])) (0 : Nat) (avLen (Av.sl (List.take m (List.take m ys ++ [Value.int
 IntKind.i64 (Int.negSucc (nat_lit 76) - (↑m : Int)), Value.int IntKind.i64 (Int.negSucc (nat_lit 76) - (↑(m + (1 : Nat)) : Int)), Value.int IntKind.i64 (Int.negSucc (nat_lit 76) - (↑(m + (1 : Nat) + (1 : Nat)) : Int))]))
 m))), (0 : Nat) < (2 : Nat), nzN (List.take m (List.take m ys ++ [Value.int IntKind.i64 (Int.negSucc (nat_lit 76) - (↑m : Int)), Value.int IntKind.i64 (Int.negSucc (nat_lit 76) - (↑(m + (1 : Nat)) : Int)), Value.int
 IntKind.i64 (Int.negSucc (nat_lit 76) - (↑(m + (1 : Nat) + (1 : Nat)) : Int))])) (0 : Nat) (avLen (Av.sl (List.take m (List.take m ys ++ [Value.int IntKind.i64 (Int.negSucc (nat_lit 76) - (↑m : Int)), Value.int
 IntKind.i64 (Int.negSucc (nat_lit 76) - (↑(m + (1 : Nat)) : Int)), Value.int IntKind.i64 (Int.negSucc (nat_lit 76) - (↑(m + (1 : Nat) + (1 : Nat)) : Int))])) m)) * (2 : Nat) ≤ List.length (nzL (List.take m (List.take m ys
 ++ [Value.int IntKind.i64 (Int.negSucc (nat_lit 76) - (↑m : Int)), Value.int IntKind.i64 (Int.negSucc (nat_lit 76) - (↑(m + (1 : Nat)) : Int)), Value.int IntKind.i64 (Int.negSucc (nat_lit 76) - (↑(m + (1 : Nat) + (1 :
 Nat)) : Int))])) (0 : Nat) (avLen (Av.sl (List.take m (List.take m ys ++ [Value.int IntKind.i64 (Int.negSucc (nat_lit 76) - (↑m : Int)), Value.int IntKind.i64 (Int.negSucc (nat_lit 76) - (↑(m + (1 : Nat)) : Int)),
 Value.int IntKind.i64 (Int.negSucc (nat_lit 76) - (↑(m + (1 : Nat) + (1 : Nat)) : Int))])) m))), Fl (List.take (nzN (List.take m (List.take m ys ++ [Value.int IntKind.i64 (Int.negSucc (nat_lit 76) - (↑m : Int)), Value.int
 IntKind.i64 (Int.negSucc (nat_lit 76) - (↑(m + (1 : Nat)) : Int)), Value.int IntKind.i64 (Int.negSucc (nat_lit 76) - (↑(m + (1 : Nat) + (1 : Nat)) : Int))])) (0 : Nat) (avLen (Av.sl (List.take m (List.take m ys ++
 [Value.int IntKind.i64 (Int.negSucc (nat_lit 76) - (↑m : Int)), Value.int IntKind.i64 (Int.negSucc (nat_lit 76) - (↑(m + (1 : Nat)) : Int)), Value.int IntKind.i64 (Int.negSucc (nat_lit 76) - (↑(m + (1 : Nat) + (1 : Nat))
 : Int))])) m)) * (2 : Nat)) (nzL (List.take m (List.take m ys ++ [Value.int IntKind.i64 (Int.negSucc (nat_lit 76) - (↑m : Int)), Value.int IntKind.i64 (Int.negSucc (nat_lit 76) - (↑(m + (1 : Nat)) : Int)), Value.int
 IntKind.i64 (Int.negSucc (nat_lit 76) - (↑(m + (1 : Nat) + (1 : Nat)) : Int))])) (0 : Nat) (avLen (Av.sl (List.take m (List.take m ys ++ [Value.int IntKind.i64 (Int.negSucc (nat_lit 76) - (↑m : Int)), Value.int
 IntKind.i64 (Int.negSucc (nat_lit 76) - (↑(m + (1 : Nat)) : Int)), Value.int IntKind.i64 (Int.negSucc (nat_lit 76) - (↑(m + (1 : Nat) + (1 : Nat)) : Int))])) m)))), capBig + (5 : Nat) = capBig + (5 : Nat), nzN (List.take
 m ys) (0 : Nat) m * (2 : Nat) ≤ List.length (nzL (List.take m ys) (0 : Nat) m), (0 : Nat) < (2 : Nat), nzN (List.take m ys) (0 : Nat) m * (2 : Nat) ≤ List.length (nzL (List.take m ys) (0 : Nat) m), Fl (List.take (nzN
 (List.take m ys) (0 : Nat) m * (2 : Nat)) (nzL (List.take m ys) (0 : Nat) m)), Ints IntKind.i64 (List.take (nzN (List.take m (List.take m ys ++ [Value.int IntKind.i64 (Int.negSucc (nat_lit 76) - (↑m : Int)), Value.int
 IntKind.i64 (Int.negSucc (nat_lit 76) - (↑(m + (1 : Nat)) : Int)), Value.int IntKind.i64 (Int.negSucc (nat_lit 76) - (↑(m + (1 : Nat) + (1 : Nat)) : Int))])) (0 : Nat) (avLen (Av.sl (List.take m (List.take m ys ++
 [Value.int IntKind.i64 (Int.negSucc (nat_lit 76) - (↑m : Int)), Value.int IntKind.i64 (Int.negSucc (nat_lit 76) - (↑(m + (1 : Nat)) : Int)), Value.int IntKind.i64 (Int.negSucc (nat_lit 76) - (↑(m + (1 : Nat) + (1 : Nat))
 : Int))])) m)) * (2 : Nat)) (nzL (List.take m (List.take m ys ++ [Value.int IntKind.i64 (Int.negSucc (nat_lit 76) - (↑m : Int)), Value.int IntKind.i64 (Int.negSucc (nat_lit 76) - (↑(m + (1 : Nat)) : Int)), Value.int
 IntKind.i64 (Int.negSucc (nat_lit 76) - (↑(m + (1 : Nat) + (1 : Nat)) : Int))])) (0 : Nat) (avLen (Av.sl (List.take m (List.take m ys ++ [Value.int IntKind.i64 (Int.negSucc (nat_lit 76) - (↑m : Int)), Value.int
 IntKind.i64 (Int.negSucc (nat_lit 76) - (↑(m + (1 : Nat)) : Int)), Value.int IntKind.i64 (Int.negSucc (nat_lit 76) - (↑(m + (1 : Nat) + (1 : Nat)) : Int))])) m)))), List.take (nzN (List.take m ys) (0 : Nat) m * (2 : Nat))
 (nzL (List.take m ys) (0 : Nat) m) = List.take (nzN (List.take m (List.take m ys ++ [Value.int IntKind.i64 (Int.negSucc (nat_lit 76) - (↑m : Int)), Value.int IntKind.i64 (Int.negSucc (nat_lit 76) - (↑(m + (1 : Nat)) :
 Int)), Value.int IntKind.i64 (Int.negSucc (nat_lit 76) - (↑(m + (1 : Nat) + (1 : Nat)) : Int))])) (0 : Nat) (avLen (Av.sl (List.take m (List.take m ys ++ [Value.int IntKind.i64 (Int.negSucc (nat_lit 76) - (↑m : Int)),
 Value.int IntKind.i64 (Int.negSucc (nat_lit 76) - (↑(m + (1 : Nat)) : Int)), Value.int IntKind.i64 (Int.negSucc (nat_lit 76) - (↑(m + (1 : Nat) + (1 : Nat)) : Int))])) m)) * (2 : Nat)) (nzL (List.take m (List.take m ys ++
 [Value.int IntKind.i64 (Int.negSucc (nat_lit 76) - (↑m : Int)), Value.int IntKind.i64 (Int.negSucc (nat_lit 76) - (↑(m + (1 : Nat)) : Int)), Value.int IntKind.i64 (Int.negSucc (nat_lit 76) - (↑(m + (1 : Nat) + (1 : Nat))
 : Int))])) (0 : Nat) (avLen (Av.sl (List.take m (List.take m ys ++ [Value.int IntKind.i64 (Int.negSucc (nat_lit 76) - (↑m : Int)), Value.int IntKind.i64 (Int.negSucc (nat_lit 76) - (↑(m + (1 : Nat)) : Int)), Value.int
 IntKind.i64 (Int.negSucc (nat_lit 76) - (↑(m + (1 : Nat) + (1 : Nat)) : Int))])) m))), avLen (Av.sl (List.take (nzN (List.take m ys) (0 : Nat) m * (2 : Nat)) (nzL (List.take m ys) (0 : Nat) m)) (nzN (List.take m ys) (0 :
 Nat) m)) = avLen (Av.sl (List.take (nzN (List.take m (List.take m ys ++ [Value.int IntKind.i64 (Int.negSucc (nat_lit 76) - (↑m : Int)), Value.int IntKind.i64 (Int.negSucc (nat_lit 76) - (↑(m + (1 : Nat)) : Int)),
 Value.int IntKind.i64 (Int.negSucc (nat_lit 76) - (↑(m + (1 : Nat) + (1 : Nat)) : Int))])) (0 : Nat) (avLen (Av.sl (List.take m (List.take m ys ++ [Value.int IntKind.i64 (Int.negSucc (nat_lit 76) - (↑m : Int)), Value.int
 IntKind.i64 (Int.negSucc (nat_lit 76) - (↑(m + (1 : Nat)) : Int)), Value.int IntKind.i64 (Int.negSucc (nat_lit 76) - (↑(m + (1 : Nat) + (1 : Nat)) : Int))])) m)) * (2 : Nat)) (nzL (List.take m (List.take m ys ++
 [Value.int IntKind.i64 (Int.negSucc (nat_lit 76) - (↑m : Int)), Value.int IntKind.i64 (Int.negSucc (nat_lit 76) - (↑(m + (1 : Nat)) : Int)), Value.int IntKind.i64 (Int.negSucc (nat_lit 76) - (↑(m + (1 : Nat) + (1 : Nat))
 : Int))])) (0 : Nat) (avLen (Av.sl (List.take m (List.take m ys ++ [Value.int IntKind.i64 (Int.negSucc (nat_lit 76) - (↑m : Int)), Value.int IntKind.i64 (Int.negSucc (nat_lit 76) - (↑(m + (1 : Nat)) : Int)), Value.int
 IntKind.i64 (Int.negSucc (nat_lit 76) - (↑(m + (1 : Nat) + (1 : Nat)) : Int))])) m)))) (nzN (List.take m (List.take m ys ++ [Value.int IntKind.i64 (Int.negSucc (nat_lit 76) - (↑m : Int)), Value.int IntKind.i64
 (Int.negSucc (nat_lit 76) - (↑(m + (1 : Nat)) : Int)), Value.int IntKind.i64 (Int.negSucc (nat_lit 76) - (↑(m + (1 : Nat) + (1 : Nat)) : Int))])) (0 : Nat) (avLen (Av.sl (List.take m (List.take m ys ++ [Value.int
 IntKind.i64 (Int.negSucc (nat_lit 76) - (↑m : Int)), Value.int IntKind.i64 (Int.negSucc (nat_lit 76) - (↑(m + (1 : Nat)) : Int)), Value.int IntKind.i64 (Int.negSucc (nat_lit 76) - (↑(m + (1 : Nat) + (1 : Nat)) : Int))]))
 m)))), false = false, (3 : Nat) ≤ (9223372036854775807 : Nat), (3 : Nat) ≤ (3 : Nat), Fl [Value.bool true, Value.bool false, Value.bool true], [Value.bool true, Value.bool false, Value.bool true] = [Value.bool true,
 Value.bool false, Value.bool true], okB [] (0 : Nat), (0 : Nat) = (0 : Nat), (3 : Nat) = (3 : Nat), (0 : Nat) ≤ (1000000 : Nat), true = true, m + (3 : Nat) ≤ (9223372036854775807 : Nat), m + (3 : Nat) ≤ List.length
 (List.take m ys ++ [Value.int IntKind.i64 (Int.negSucc (nat_lit 76) - (↑m : Int)), Value.int IntKind.i64 (Int.negSucc (nat_lit 76) - (↑(m + (1 : Nat)) : Int)), Value.int IntKind.i64 (Int.negSucc (nat_lit 76) - (↑(m + (1 :
 Nat) + (1 : Nat)) : Int))]), Fl (List.take (m + (3 : Nat)) (List.take m ys ++ [Value.int IntKind.i64 (Int.negSucc (nat_lit 76) - (↑m : Int)), Value.int IntKind.i64 (Int.negSucc (nat_lit 76) - (↑(m + (1 : Nat)) : Int)),
 Value.int IntKind.i64 (Int.negSucc (nat_lit 76) - (↑(m + (1 : Nat) + (1 : Nat)) : Int))])), m ≤ d ∧ d ≤ (9223372036854775807 : Nat), m ≤ List.length ys, Fl (List.take m ys), List.take (m + (3 : Nat)) (List.take m ys ++
 [Value.int IntKind.i64 (Int.negSucc (nat_lit 76) - (↑m : Int)), Value.int IntKind.i64 (Int.negSucc (nat_lit 76) - (↑(m + (1 : Nat)) : Int)), Value.int IntKind.i64 (Int.negSucc (nat_lit 76) - (↑(m + (1 : Nat) + (1 : Nat))
 : Int))]) = List.take m ys ++ [Value.int IntKind.i64 (Int.negSucc (nat_lit 76) - (↑m : Int)), Value.int IntKind.i64 (Int.negSucc (nat_lit 76) - (↑(m + (1 : Nat)) : Int)), Value.int IntKind.i64 (Int.negSucc (nat_lit 76) -
 (↑(m + (1 : Nat) + (1 : Nat)) : Int))], okI (List.take m ys) m, m = m, m + (3 : Nat) = m + (3 : Nat), m ≤ (1000000 : Nat), true = true]) := by kernel_rfl
theorem cc_nn  : prjV (runZ ccV Try.prog 5 6 [.slice none 0 0, .slice none 0 0] [] 2 ([false, false] ++ [false, true] ++ [false, true] ++ [false, false] ++ [true, true] ++ [false] ++ [true, true] ++ [false, true, true])) =
  Res.ok (Value.bool true, [], [false = false, false = false, okB [] (0 : Nat), (0 : Nat) ≤ (1000000 : Nat), okI [] (0 : Nat), (0 : Nat) ≤ (1000000 : Nat), (0 : Nat) ≤ (3 : Nat) ∧ (3 : Nat) ≤ (9223372036854775807 : Nat), (0
 : Nat) ≤ (3 : Nat), Fl [], (0 : Nat) ≤ (3 : Nat) ∧ (3 : Nat) ≤ (9223372036854775807 : Nat), (0 : Nat) ≤ (3 : Nat), Fl [], (0 : Nat) = (0 : Nat), (0 : Nat) = (0 : Nat), (0 : Nat) = (0 : Nat), (0 : Nat) = (0 : Nat), (0 :
 Nat) ≤ (0 : Nat) ∧ (0 : Nat) ≤ (9223372036854775807 : Nat), (0 : Nat) ≤ (0 : Nat), Fl [], okI [] (0 : Nat), ([] : List Value) = [], (0 : Nat) = (0 : Nat), false = false, false = false, (0 : Nat) ≤ (3 : Nat) ∧ (3 : Nat) ≤
 (9223372036854775807 : Nat), (0 : Nat) ≤ (3 : Nat), Fl [], (0 : Nat) = (0 : Nat), (0 : Nat) = (0 : Nat), okS [] (0 : Nat), ([] : List Value) = [], (0 : Nat) = (0 : Nat), false = false, (0 : Nat) ≤ (3 : Nat) ∧ (3 : Nat) ≤
 (9223372036854775807 : Nat), (0 : Nat) ≤ (3 : Nat), Fl [], Ints IntKind.i64 [], (0 : Nat) ≤ (1000 : Nat), (0 : Nat) = (0 : Nat), Ints IntKind.i64 [], (0 : Nat) ≤ (1000 : Nat), (0 : Nat) = (0 : Nat), Ints IntKind.i64 [],
 ([] : List Value) = [], (0 : Nat) = (0 : Nat), false = false, (3 : Nat) ≤ (9223372036854775807 : Nat), (3 : Nat) ≤ (3 : Nat), Fl [Value.bool true, Value.bool false, Value.bool true], [Value.bool true, Value.bool false,
 Value.bool true] = [Value.bool true, Value.bool false, Value.bool true], okB [] (0 : Nat), (0 : Nat) = (0 : Nat), (3 : Nat) = (3 : Nat), (0 : Nat) ≤ (1000000 : Nat), true = true, (3 : Nat) ≤ (9223372036854775807 : Nat),
 (3 : Nat) ≤ (3 : Nat), Fl [Value.int IntKind.i64 (Int.negSucc (nat_lit 76)), Value.int IntKind.i64 (Int.negSucc (nat_lit 76) - (1 : Int)), Value.int IntKind.i64 (Int.negSucc (nat_lit 76) - (2 : Int))], [Value.int
 IntKind.i64 (Int.negSucc (nat_lit 76)), Value.int IntKind.i64 (Int.negSucc (nat_lit 76) - (1 : Int)), Value.int IntKind.i64 (Int.negSucc (nat_lit 76) - (2 : Int))] = [Value.int IntKind.i64 (Int.negSucc (nat_lit 76)),
 Value.int IntKind.i64 (Int.negSucc (nat_lit 76) - (1 : Int)), Value.int IntKind.i64 (Int.negSucc (nat_lit 76) - (2 : Int))], okI [] (0 : Nat), (0 : Nat) = (0 : Nat), (3 : Nat) = (3 : Nat), (0 : Nat) ≤ (1000000 : Nat),
 true = true]) := by kernel_rfl
set_option maxHeartbeats 2000000 in
theorem cc_sn {xs : List Value} {n c : Nat} (hx : Bols xs) (hxl : xs.length = n * 1) (hc : n ≤ c ∧ c ≤ 9223372036854775807) :
    RunsTrue Try.prog 6 [.slice (some ⟨0, 0, none⟩) n c, .slice none 0 0] [(0, ⟨.old, xs⟩)] 2 := by
  have oks0 : okS [] 0 := ⟨[], rfl, rfl⟩
  have fx := hx.fl
  have hX : XOkZ ccV Try.prog := noXz_ok rfl
  have hT : TOkZ ccV Try.prog := T_okV rfl ccT_one
  have hL : LOkZ ccV Try.prog := noL_okV rfl
  have hxl' : xs.length = n := by omega
  have ex1 : xs.take n = xs := take_len hxl'
  have lx3 : (xs ++ mkB3 n).length = n + 3 := ok_app3 hxl' rfl
  have ex2 : (xs ++ mkB3 n).take n = xs := List.take_left' hxl'
  have ex3 : (xs ++ mkB3 n).take (n + 3) = xs ++ mkB3 n := take_len lx3
  have fx3 := (hx.app (mkB3_bols n)).fl
  have bx3 := hx.app (mkB3_bols n)
  have qx : n ≤ (xs ++ mkB3 n).length := by omega
  have qx3 : n + 3 ≤ (xs ++ mkB3 n).length := Nat.le_of_eq lx3.symm
  have es : (spL xs).take (spN xs * 3) = spL xs := take_len (spnCells_len _)
  have fs : Fl (spL xs) := spnCells_Fl _
  have ls : spN xs * 3 ≤ (spL xs).length := Nat.le_of_eq (spnCells_len _).symm
  have oks : okS (spL xs) (spN xs) := ⟨_, rfl, rfl⟩
  have ey1 : True := trivial
  have ey2 : True := trivial
  have ey3 : True := trivial
  have ec : True := trivial
  have er : True := trivial
  have okc : True := trivial
  have hy : True := trivial
  have hyl : True := trivial
  have i0 : Ints .i64 [] := rfl
  have oi0 : okI [] 0 := ⟨rfl, rfl⟩
  have fm : Fl (mkI3 0) := (mkI3_ints 0).fl
  unfold mkB3 at ex2 ex3 lx3 fx3 bx3 qx qx3
  by_cases h1 : n ≤ 200
  case neg =>
    have g1 : decide ((n : Int) > 200) = true := by simp only [decide_eq_true_eq]; omega
    exact run_val hX hT hL (cc_sn_l1 xs n c) (by simp only [Alls, g1, cond_true, and_self]) rfl
  have g1 : decide ((n : Int) > 200) = false := by simp only [decide_eq_false_iff_not]; omega
  have g2 : True := trivial
  have k0 : True := trivial
  have k1 : True := trivial
  by_cases k2 : n = 0
  ·
    refine run_val hX hT hL (cc_sn_e xs n c) ?_ rfl
    simp only [Alls, avLen, ex1, ex2, ex3, ey1, ey2, ey3, es, ec, er, Nat.zero_mul, Nat.zero_add, List.take_zero, List.length_nil, List.nil_append, cond_false, cond_true]
    repeat' (first | with_reducible exact trivial | with_reducible apply And.intro)
    all_goals first | with_reducible assumption | omega | with_reducible rfl | (first | exact k0 | exact k1 | exact g1 | exact g2 | exact ⟨hx, hxl⟩ | exact ⟨hy, hyl⟩ | exact okc | exact oks | exact oks0 | exact rfl | exact ⟨rfl, rfl⟩ | exact Fl.of rfl | exact decide_eq_true rfl)
  ·
    refine run_val hX hT hL (cc_sn_x xs n c) ?_ rfl
    simp only [Alls, avLen, ex1, ex2, ex3, ey1, ey2, ey3, es, ec, er, Nat.zero_mul, Nat.zero_add, List.take_zero, List.length_nil, List.nil_append, cond_false, cond_true]
    repeat' (first | with_reducible exact trivial | with_reducible apply And.intro)
    all_goals first | with_reducible assumption | omega | with_reducible rfl | (first | exact k0 | exact k1 | exact g1 | exact g2 | exact ⟨hx, hxl⟩ | exact ⟨hy, hyl⟩ | exact okc | exact oks | exact oks0 | exact rfl | exact ⟨rfl, rfl⟩ | exact Fl.of rfl | exact decide_eq_true rfl)
set_option maxHeartbeats 2000000 in
theorem cc_ns {ys : List Value} {m d : Nat} (hy : Ints .i64 ys) (hyl : ys.length = m * 1) (hd : m ≤ d ∧ d ≤ 9223372036854775807) :
    RunsTrue Try.prog 6 [.slice none 0 0, .slice (some ⟨1, 0, none⟩) m d] [(1, ⟨.old, ys⟩)] 2 := by
  have oks0 : okS [] 0 := ⟨[], rfl, rfl⟩
  have fy := hy.fl
  have hX : XOkZ ccV Try.prog := noXz_ok rfl
  have hT : TOkZ ccV Try.prog := T_okV rfl ccT_one
  have hL : LOkZ ccV Try.prog := noL_okV rfl
  have hyl' : ys.length = m := by omega
  have ey1 : ys.take m = ys := take_len hyl'
  have ly3 : (ys ++ mkI3 m).length = m + 3 := ok_app3 hyl' rfl
  have ey2 : (ys ++ mkI3 m).take m = ys := List.take_left' hyl'
  have ey3 : (ys ++ mkI3 m).take (m + 3) = ys ++ mkI3 m := take_len ly3
  have fy3 := (hy.app (mkI3_ints m)).fl
  have iy3 := hy.app (mkI3_ints m)
  have qy : m ≤ (ys ++ mkI3 m).length := by omega
  have qy3 : m + 3 ≤ (ys ++ mkI3 m).length := Nat.le_of_eq ly3.symm
  have er : (nzL ys 0 m).take (nzN ys 0 m * 2) = nzL ys 0 m := take_len (nzL_len ys m 0)
  have ir := nzL_Ints ys m 0
  have fr := ir.fl
  have lr : nzN ys 0 m * 2 ≤ (nzL ys 0 m).length := Nat.le_of_eq (nzL_len ys m 0).symm
  have nr := nzN_le ys m 0
  have ex1 : True := trivial
  have ex2 : True := trivial
  have ex3 : True := trivial
  have es : True := trivial
  have ec : True := trivial
  have okc : True := trivial
  have oks : True := trivial
  have hx : True := trivial
  have hxl : True := trivial
  have ob0 : okB [] 0 := ⟨rfl, rfl⟩
  have fm : Fl (mkB3 0) := (mkB3_bols 0).fl
  unfold mkI3 at ey2 ey3 ly3 fy3 iy3 qy qy3
  by_cases h2 : m ≤ 200
  case neg =>
    have g2 : decide ((m : Int) > 200) = true := by simp only [decide_eq_true_eq]; omega
    exact run_val hX hT hL (cc_ns_l2 ys m d) (by simp only [Alls, g2, cond_false, and_self]) rfl
  have g2 : decide ((m : Int) > 200) = false := by simp only [decide_eq_false_iff_not]; omega
  have g1 : True := trivial
  have k1 : True := trivial
  by_cases k0 : nzN ys 0 m = 0
  · by_cases k2 : m = 0
    ·
      refine run_val hX hT hL (cc_ns_e ys m d) ?_ rfl
      simp only [Alls, avLen, ex1, ex2, ex3, ey1, ey2, ey3, es, ec, er, Nat.zero_mul, Nat.zero_add, List.take_zero, List.length_nil, List.nil_append, cond_false, cond_true]
      repeat' (first | with_reducible exact trivial | with_reducible apply And.intro)
      all_goals first | with_reducible assumption | omega | with_reducible rfl | (first | exact k0 | exact k1 | exact g1 | exact g2 | exact ⟨hx, hxl⟩ | exact ⟨hy, hyl⟩ | exact okc | exact oks | exact oks0 | exact rfl | exact ⟨rfl, rfl⟩ | exact Fl.of rfl | exact decide_eq_true rfl)
    · have k3 : 0 ≠ m := fun e => k2 e.symm
      refine run_val hX hT hL (cc_ns_xz ys m d) ?_ rfl
      simp only [Alls, avLen, ex1, ex2, ex3, ey1, ey2, ey3, es, ec, er, Nat.zero_mul, Nat.zero_add, List.take_zero, List.length_nil, List.nil_append, cond_false, cond_true]
      repeat' (first | with_reducible exact trivial | with_reducible apply And.intro)
      all_goals first | with_reducible assumption | omega | with_reducible rfl | (first | exact k0 | exact k1 | exact g1 | exact g2 | exact ⟨hx, hxl⟩ | exact ⟨hy, hyl⟩ | exact okc | exact oks | exact oks0 | exact rfl | exact ⟨rfl, rfl⟩ | exact Fl.of rfl | exact decide_eq_true rfl)
  · have k2 : m ≠ 0 := fun e => k0 (nz_nil e ys)
    have k3 : 0 ≠ m := fun e => k2 e.symm
    refine run_val hX hT hL (cc_ns_xw ys m d) ?_ rfl
    simp only [Alls, avLen, ex1, ex2, ex3, ey1, ey2, ey3, es, ec, er, Nat.zero_mul, Nat.zero_add, List.take_zero, List.length_nil, List.nil_append, cond_false, cond_true]
    repeat' (first | with_reducible exact trivial | with_reducible apply And.intro)
    all_goals first | with_reducible assumption | omega | with_reducible rfl | (first | exact k0 | exact k1 | exact g1 | exact g2 | exact ⟨hx, hxl⟩ | exact ⟨hy, hyl⟩ | exact okc | exact oks | exact oks0 | exact rfl | exact ⟨rfl, rfl⟩ | exact Fl.of rfl | exact decide_eq_true rfl)
theorem cc_nil : RunsTrue Try.prog 6 [.slice none 0 0, .slice none 0 0] [] 2 := by
  have oks0 : okS [] 0 := ⟨[], rfl, rfl⟩
  have hX : XOkZ ccV Try.prog := noXz_ok rfl
  have hT : TOkZ ccV Try.prog := T_okV rfl ccT_one
  have hL : LOkZ ccV Try.prog := noL_okV rfl
  refine run_val hX hT hL cc_nn ?_ rfl
  simp only [Alls]
  repeat' (first | with_reducible exact trivial | with_reducible apply And.intro)
  all_goals first | with_reducible assumption | omega | with_reducible rfl | (first | exact oks0 | exact rfl | exact ⟨rfl, rfl⟩ | exact Fl.of rfl | exact decide_eq_true rfl)
theorem ccodes_any {W : World} {v0 v1 : Value} {a0 a1 : Av} {q0 q1 : Option (Addr × Nat)} {bs : List Bool} {z1 : List (List Int)} (h0 : (a0 = .fl (.slice none 0 0) ∧ bs = []) ∨ a0 = .sl (boolCells bs) bs.length) (h1 : (a1 = .fl (.slice none 0 0) ∧ z1 = []) ∨ a1 = .sl (z1.map (cellsK [.i64])).flatten z1.length)
    (A0 : AvAt a0 v0 q0) (A1 : AvAt a1 v1 q1) (L0 : Lies W a0 q0) (L1 : Lies W a1 q1) (w1 : ∀ zs ∈ z1, AllWf [.i64] zs) :
    Calls Try.prog 6 #[v0, v1] W fun e w' => e = .returned (.bool true) ∧ Ext W w' := by
  have b1 : Ints .i64 (z1.map (cellsK [.i64])).flatten := flat_Ints (m := 1) w1
  have l1 : ((z1.map (cellsK [.i64])).flatten).length = z1.length * 1 := flat_len w1
  have l0 : (boolCells bs).length = bs.length * 1 := by simp [boolCells]
  refine calls_sl (avs := [a0, a1]) (vs := [v0, v1]) (ps := [q0, q1]) ⟨A0, A1, trivial⟩ ⟨L0, L1, trivial⟩ (fun σ => rfl) fun cs hcs => ?_
  obtain ⟨c, d, rfl⟩ := caps2 hcs
  rcases h0 with ⟨rfl, rfl⟩ | rfl <;> rcases h1 with ⟨rfl, rfl⟩ | rfl
  · exact cc_nil
  · exact cc_ns b1 l1 hcs.1
  · exact cc_sn (Bols.of bs) l0 hcs.1
  · exact cc_ss (Bols.of bs) l0 hcs.1 b1 l1 hcs.2.1
end Go.Proofs.Ytmjmdjcgjmjigaa
