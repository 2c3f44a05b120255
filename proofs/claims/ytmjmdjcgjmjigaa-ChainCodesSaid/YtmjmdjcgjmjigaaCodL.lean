/-
  Chapter 19: the statement ChainCodes, run at any lists.
-/
import Derived.Test.YtmjmdjcgjmjigaaCodEq
namespace Go.Proofs.Ytmjmdjcgjmjigaa
set_option linter.unusedSimpArgs false
set_option linter.unusedVariables false
set_option linter.unusedSectionVars false
open Go Go.RowKit

def ccT : TFun := orTz (mkT 10 [] gTrueY) (orTz (mkT 16 [.s 1] (gS (sLe okB mkB3))) (orTz (mkT 17 [.s 1] (gS (sLe okI mkI3))) (orTz (mkT 25 [.c 1, .s 1] (gKp okB mkB3)) (orTz (mkT 26 [.c 1, .s 1] (gKp okI mkI3)) (orTz (mkT 12 [.s 1, .s 1] (gSS sCi)) (orTz (mkT 18 [.s 1, .s 1] (gSS sRc)) (orTz (mkT 19 [.s 1, .s 1] (gSS (sEqO okI)))
  (orTz (mkT 11 [.s 1] (gS sSp)) (orTz (mkT 21 [.s 1] (gS sSr)) (orTz (mkT 20 [.s 3, .s 3] (gSS (sEqO okS))) (orTz (mkT 23 [.s 1] (gS sNz)) (orTz (mkT 24 [.s 1] (gS sNz)) (mkT 22 [.s 2, .s 2] (gSS sEq))))))))))))))
theorem ccT_one : TOneZ Try.prog ccT := orTz_ok (mkT_one aw_gok) (orTz_ok (mkT_one lb_gok) (orTz_ok (mkT_one ly_gok) (orTz_ok (mkT_one kb_gok) (orTz_ok (mkT_one ky_gok) (orTz_ok (mkT_one ci_gok) (orTz_ok (mkT_one rc_gok) (orTz_ok (mkT_one xi_gok)
  (orTz_ok (mkT_one sp_gok) (orTz_ok (mkT_one sr_gok) (orTz_ok (mkT_one xs_gok) (orTz_ok (mkT_one ri_gok) (orTz_ok (mkT_one rr_gok) (mkT_one qe_gok)))))))))))))
def ccV : Tv := ⟨ccT, noXz, noL, tbl 6 [14, 18, 39, 44, 52, 59, 63, 68], allSy 6 [], fun _ => [], fun _ => 0⟩
theorem cc_ss_l1 (xs ys : List Value) (n m c d : Nat) : prjV (runZ ccV Try.prog 5 6 [.slice (some ⟨0, 0, none⟩) n c, .slice (some ⟨1, 0, none⟩) m d] [(0, ⟨.old, xs⟩), (1, ⟨.old, ys⟩)] 2 [true, true]) =
  Res.ok (Value.bool true, [], [decide ((↑n : Int) > (200 : Int)) = true, true = true]) := by kernel_rfl
theorem cc_ss_l2 (xs ys : List Value) (n m c d : Nat) : prjV (runZ ccV Try.prog 5 6 [.slice (some ⟨0, 0, none⟩) n c, .slice (some ⟨1, 0, none⟩) m d] [(0, ⟨.old, xs⟩), (1, ⟨.old, ys⟩)] 2 [false, true]) =
  Res.ok (Value.bool true, [], [decide ((↑n : Int) > (200 : Int)) = false, (bif false then true else decide ((↑m : Int) > (200 : Int))) = true]) := by kernel_rfl
theorem cc_ss_e (xs ys : List Value) (n m c d : Nat) : prjV (runZ ccV Try.prog 5 6 [.slice (some ⟨0, 0, none⟩) n c, .slice (some ⟨1, 0, none⟩) m d] [(0, ⟨.old, xs⟩), (1, ⟨.old, ys⟩)] 2 ([false, false] ++ [false, true] ++ [false, true] ++ [false, false] ++ [true, true] ++ [false] ++ [true, true] ++ [false, true, true])) =
  Res.ok (Value.bool true, [], [decide ((↑n : Int) > (200 : Int)) = false, (bif false then true else decide ((↑m : Int) > (200 : Int))) = false, n ≤ c ∧ c ≤ (9223372036854775807 : Nat), n ≤ List.length xs, Fl (List.take n
 xs), okB (List.take n xs) n, n ≤ (1000000 : Nat), m ≤ d ∧ d ≤ (9223372036854775807 : Nat), m ≤ List.length ys, Fl (List.take m ys), okI (List.take m ys) m, m ≤ (1000000 : Nat), n ≤ n + (3 : Nat) ∧ n + (3 : Nat) ≤
 (9223372036854775807 : Nat), n ≤ List.length (List.take n xs ++ [Value.bool ((↑(n % (2 : Nat)) : Int) == (0 : Int)), Value.bool ((↑((n + (1 : Nat)) % (2 : Nat)) : Int) == (0 : Int)), Value.bool ((↑((n + (1 : Nat) + (1 :
 Nat)) % (2 : Nat)) : Int) == (0 : Int))]), Fl (List.take n (List.take n xs ++ [Value.bool ((↑(n % (2 : Nat)) : Int) == (0 : Int)), Value.bool ((↑((n + (1 : Nat)) % (2 : Nat)) : Int) == (0 : Int)), Value.bool ((↑((n + (1 :
 Nat) + (1 : Nat)) % (2 : Nat)) : Int) == (0 : Int))])), m ≤ m + (3 : Nat) ∧ m + (3 : Nat) ≤ (9223372036854775807 : Nat), m ≤ List.length (List.take m ys ++ [Value.int IntKind.i64 (Int.negSucc (nat_lit 76) - (↑m : Int)),
 Value.int IntKind.i64 (Int.negSucc (nat_lit 76) - (↑(m + (1 : Nat)) : Int)), Value.int IntKind.i64 (Int.negSucc (nat_lit 76) - (↑(m + (1 : Nat) + (1 : Nat)) : Int))]), Fl (List.take m (List.take m ys ++ [Value.int
 IntKind.i64 (Int.negSucc (nat_lit 76) - (↑m : Int)), Value.int IntKind.i64 (Int.negSucc (nat_lit 76) - (↑(m + (1 : Nat)) : Int)), Value.int IntKind.i64 (Int.negSucc (nat_lit 76) - (↑(m + (1 : Nat) + (1 : Nat)) : Int))])),
 avLen (Av.sl (List.take n (List.take n xs ++ [Value.bool ((↑(n % (2 : Nat)) : Int) == (0 : Int)), Value.bool ((↑((n + (1 : Nat)) % (2 : Nat)) : Int) == (0 : Int)), Value.bool ((↑((n + (1 : Nat) + (1 : Nat)) % (2 : Nat)) :
 Int) == (0 : Int))])) n) = (0 : Nat), avLen (Av.sl (List.take m (List.take m ys ++ [Value.int IntKind.i64 (Int.negSucc (nat_lit 76) - (↑m : Int)), Value.int IntKind.i64 (Int.negSucc (nat_lit 76) - (↑(m + (1 : Nat)) :
 Int)), Value.int IntKind.i64 (Int.negSucc (nat_lit 76) - (↑(m + (1 : Nat) + (1 : Nat)) : Int))])) m) = (0 : Nat), n ≤ c ∧ c ≤ (9223372036854775807 : Nat), n ≤ List.length xs, Fl (List.take n xs), m ≤ d ∧ d ≤
 (9223372036854775807 : Nat), m ≤ List.length ys, Fl (List.take m ys), n = (0 : Nat), m = (0 : Nat), (0 : Nat) ≤ (0 : Nat) ∧ (0 : Nat) ≤ (9223372036854775807 : Nat), (0 : Nat) ≤ (0 : Nat), Fl [], okI [] (0 : Nat), ([] :
 List Value) = [], (0 : Nat) = (0 : Nat), false = false, false = false, n ≤ n + (3 : Nat) ∧ n + (3 : Nat) ≤ (9223372036854775807 : Nat), n ≤ List.length (List.take n xs ++ [Value.bool ((↑(n % (2 : Nat)) : Int) == (0 :
 Int)), Value.bool ((↑((n + (1 : Nat)) % (2 : Nat)) : Int) == (0 : Int)), Value.bool ((↑((n + (1 : Nat) + (1 : Nat)) % (2 : Nat)) : Int) == (0 : Int))]), Fl (List.take n (List.take n xs ++ [Value.bool ((↑(n % (2 : Nat)) :
 Int) == (0 : Int)), Value.bool ((↑((n + (1 : Nat)) % (2 : Nat)) : Int) == (0 : Int)), Value.bool ((↑((n + (1 : Nat) + (1 : Nat)) % (2 : Nat)) : Int) == (0 : Int))])), avLen (Av.sl (List.take n (List.take n xs ++
 [Value.bool ((↑(n % (2 : Nat)) : Int) == (0 : Int)), Value.bool ((↑((n + (1 : Nat)) % (2 : Nat)) : Int) == (0 : Int)), Value.bool ((↑((n + (1 : Nat) + (1 : Nat)) % (2 : Nat)) : Int) == (0 : Int))])) n) = (0 : Nat), n ≤ c
 ∧ c ≤ (9223372036854775807 : Nat), n ≤ List.length xs, Fl (List.take n xs), n = (0 : Nat), okS [] (0 : Nat), ([] : List Value) = [], (0 : Nat) = (0 : Nat), false = false, m ≤ m + (3 : Nat) ∧ m + (3 : Nat) ≤
 (9223372036854775807 : Nat), m ≤ List.length (List.take m ys ++ [Value.int IntKind.i64 (Int.negSucc (nat_lit 76) - (↑m : Int)), Value.int IntKind.i64 (Int.negSucc (nat_lit 76) - (↑(m + (1 : Nat)) : Int)), Value.int
 IntKind.i64 (Int.negSucc (nat_lit 76) - (↑(m + (1 : Nat) + (1 : Nat)) : Int))]), Fl (List.take m (List.take m ys ++ [Value.int IntKind.i64 (Int.negSucc (nat_lit 76) - (↑m : Int)), Value.int IntKind.i64 (Int.negSucc
 (nat_lit 76) - (↑(m + (1 : Nat)) : Int)), Value.int IntKind.i64 (Int.negSucc (nat_lit 76) - (↑(m + (1 : Nat) + (1 : Nat)) : Int))])), Ints IntKind.i64 (List.take m (List.take m ys ++ [Value.int IntKind.i64 (Int.negSucc
 (nat_lit 76) - (↑m : Int)), Value.int IntKind.i64 (Int.negSucc (nat_lit 76) - (↑(m + (1 : Nat)) : Int)), Value.int IntKind.i64 (Int.negSucc (nat_lit 76) - (↑(m + (1 : Nat) + (1 : Nat)) : Int))])), avLen (Av.sl (List.take
 m (List.take m ys ++ [Value.int IntKind.i64 (Int.negSucc (nat_lit 76) - (↑m : Int)), Value.int IntKind.i64 (Int.negSucc (nat_lit 76) - (↑(m + (1 : Nat)) : Int)), Value.int IntKind.i64 (Int.negSucc (nat_lit 76) - (↑(m + (1
 : Nat) + (1 : Nat)) : Int))])) m) ≤ (1000 : Nat), nzN (List.take m (List.take m ys ++ [Value.int IntKind.i64 (Int.negSucc (nat_lit 76) - (↑m : Int)), Value.int IntKind.i64 (Int.negSucc (nat_lit 76) - (↑(m + (1 : Nat)) :
 Int)), Value.int IntKind.i64 (Int.negSucc (nat_lit 76) - (↑(m + (1 : Nat) + (1 : Nat)) : Int))])) (0 : Nat) (avLen (Av.sl (List.take m (List.take m ys ++ [Value.int IntKind.i64 (Int.negSucc (nat_lit 76) - (↑m : Int)),
 Value.int IntKind.i64 (Int.negSucc (nat_lit 76) - (↑(m + (1 : Nat)) : Int)), Value.int IntKind.i64 (Int.negSucc (nat_lit 76) - (↑(m + (1 : Nat) + (1 : Nat)) : Int))])) m)) = (0 : Nat), m ≤ d ∧ d ≤ (9223372036854775807 :
 Nat), m ≤ List.length ys, Fl (List.take m ys), Ints IntKind.i64 (List.take m ys), m ≤ (1000 : Nat), nzN (List.take m ys) (0 : Nat) m = (0 : Nat), Ints IntKind.i64 [], ([] : List Value) = [], (0 : Nat) = (0 : Nat), false =
 false, n + (3 : Nat) ≤ (9223372036854775807 : Nat), n + (3 : Nat) ≤ List.length (List.take n xs ++ [Value.bool ((↑(n % (2 : Nat)) : Int) == (0 : Int)), Value.bool ((↑((n + (1 : Nat)) % (2 : Nat)) : Int) == (0 : Int)),
 Value.bool ((↑((n + (1 : Nat) + (1 : Nat)) % (2 : Nat)) : Int) == (0 : Int))]), Fl (List.take (n + (3 : Nat)) (List.take n xs ++ [Value.bool ((↑(n % (2 : Nat)) : Int) == (0 : Int)), Value.bool ((↑((n + (1 : Nat)) % (2 :
 Nat)) : Int) == (0 : Int)), Value.bool ((↑((n + (1 : Nat) + (1 : Nat)) % (2 : Nat)) : Int) == (0 : Int))])), n ≤ c ∧ c ≤ (9223372036854775807 : Nat), n ≤ List.length xs, Fl (List.take n xs), List.take (n + (3 : Nat))
 (List.take n xs ++ [Value.bool ((↑(n % (2 : Nat)) : Int) == (0 : Int)), Value.bool ((↑((n + (1 : Nat)) % (2 : Nat)) : Int) == (0 : Int)), Value.bool ((↑((n + (1 : Nat) + (1 : Nat)) % (2 : Nat)) : Int) == (0 : Int))]) =
 List.take n xs ++ [Value.bool ((↑(n % (2 : Nat)) : Int) == (0 : Int)), Value.bool ((↑((n + (1 : Nat)) % (2 : Nat)) : Int) == (0 : Int)), Value.bool ((↑((n + (1 : Nat) + (1 : Nat)) % (2 : Nat)) : Int) == (0 : Int))], okB
 (List.take n xs) n, n = n, n + (3 : Nat) = n + (3 : Nat), n ≤ (1000000 : Nat), true = true, m + (3 : Nat) ≤ (9223372036854775807 : Nat), m + (3 : Nat) ≤ List.length (List.take m ys ++ [Value.int IntKind.i64 (Int.negSucc
 (nat_lit 76) - (↑m : Int)), Value.int IntKind.i64 (Int.negSucc (nat_lit 76) - (↑(m + (1 : Nat)) : Int)), Value.int IntKind.i64 (Int.negSucc (nat_lit 76) - (↑(m + (1 : Nat) + (1 : Nat)) : Int))]), Fl (List.take (m + (3 :
 Nat)) (List.take m ys ++ [Value.int IntKind.i64 (Int.negSucc (nat_lit 76) - (↑m : Int)), Value.int IntKind.i64 (Int.negSucc (nat_lit 76) - (↑(m + (1 : Nat)) : Int)), Value.int IntKind.i64 (Int.negSucc (nat_lit 76) - (↑(m
 + (1 : Nat) + (1 : Nat)) : Int))])), m ≤ d ∧ d ≤ (9223372036854775807 : Nat), m ≤ List.length ys, Fl (List.take m ys), List.take (m + (3 : Nat)) (List.take m ys ++ [Value.int IntKind.i64 (Int.negSucc (nat_lit 76) - (↑m :
 Int)), Value.int IntKind.i64 (Int.negSucc (nat_lit 76) - (↑(m + (1 : Nat)) : Int)), Value.int IntKind.i64 (Int.negSucc (nat_lit 76) - (↑(m + (1 : Nat) + (1 : Nat)) : Int))]) = List.take m ys ++ [Value.int IntKind.i64
 (Int.negSucc (nat_lit 76) - (↑m : Int)), Value.int IntKind.i64 (Int.negSucc (nat_lit 76) - (↑(m + (1 : Nat)) : Int)), Value.int IntKind.i64 (Int.negSucc (nat_lit 76) - (↑(m + (1 : Nat) + (1 : Nat)) : Int))], okI
 (List.take m ys) m, m = m, m + (3 : Nat) = m + (3 : Nat), m ≤ (1000000 : Nat), true = true]) := by kernel_rfl
theorem cc_ss_xtz (xs ys : List Value) (n m c d : Nat) : prjV (runZ ccV Try.prog 5 6 [.slice (some ⟨0, 0, none⟩) n c, .slice (some ⟨1, 0, none⟩) m d] [(0, ⟨.old, xs⟩), (1, ⟨.old, ys⟩)] 2 ([false, false] ++ [true] ++ [true] ++ [false, false] ++ [true, true] ++ [false] ++ [true, true] ++ [false, true, true])) =
  Res.ok (Value.bool true, [], [decide ((↑n : Int) > (200 : Int)) = false, (bif false then true else decide ((↑m : Int) > (200 : Int))) = false, n ≤ c ∧ c ≤ (9223372036854775807 : Nat), n ≤ List.length xs, Fl (List.take n
 xs), okB (List.take n xs) n, n ≤ (1000000 : Nat), m ≤ d ∧ d ≤ (9223372036854775807 : Nat), m ≤ List.length ys, Fl (List.take m ys), okI (List.take m ys) m, m ≤ (1000000 : Nat), n ≤ n + (3 : Nat) ∧ n + (3 : Nat) ≤
 (9223372036854775807 : Nat), n ≤ List.length (List.take n xs ++ [Value.bool ((↑(n % (2 : Nat)) : Int) == (0 : Int)), Value.bool ((↑((n + (1 : Nat)) % (2 : Nat)) : Int) == (0 : Int)), Value.bool ((↑((n + (1 : Nat) + (1 :
 Nat)) % (2 : Nat)) : Int) == (0 : Int))]), Fl (List.take n (List.take n xs ++ [Value.bool ((↑(n % (2 : Nat)) : Int) == (0 : Int)), Value.bool ((↑((n + (1 : Nat)) % (2 : Nat)) : Int) == (0 : Int)), Value.bool ((↑((n + (1 :
 Nat) + (1 : Nat)) % (2 : Nat)) : Int) == (0 : Int))])), m ≤ m + (3 : Nat) ∧ m + (3 : Nat) ≤ (9223372036854775807 : Nat), m ≤ List.length (List.take m ys ++ [Value.int IntKind.i64 (Int.negSucc (nat_lit 76) - (↑m : Int)),
 Value.int IntKind.i64 (Int.negSucc (nat_lit 76) - (↑(m + (1 : Nat)) : Int)), Value.int IntKind.i64 (Int.negSucc (nat_lit 76) - (↑(m + (1 : Nat) + (1 : Nat)) : Int))]), Fl (List.take m (List.take m ys ++ [Value.int
 IntKind.i64 (Int.negSucc (nat_lit 76) - (↑m : Int)), Value.int IntKind.i64 (Int.negSucc (nat_lit 76) - (↑(m + (1 : Nat)) : Int)), Value.int IntKind.i64 (Int.negSucc (nat_lit 76) - (↑(m + (1 : Nat) + (1 : Nat)) : Int))])),
 avLen (Av.sl (List.take n (List.take n xs ++ [Value.bool ((↑(n % (2 : Nat)) : Int) == (0 : Int)), Value.bool ((↑((n + (1 : Nat)) % (2 : Nat)) : Int) == (0 : Int)), Value.bool ((↑((n + (1 : Nat) + (1 : Nat)) % (2 : Nat)) :
 Int) == (0 : Int))])) n) ≠ avLen (Av.sl (List.take m (List.take m ys ++ [Value.int IntKind.i64 (Int.negSucc (nat_lit 76) - (↑m : Int)), Value.int IntKind.i64 (Int.negSucc (nat_lit 76) - (↑(m + (1 : Nat)) : Int)),
 Value.int IntKind.i64 (Int.negSucc (nat_lit 76) - (↑(m + (1 : Nat) + (1 : Nat)) : Int))])) m), n ≤ c ∧ c ≤ (9223372036854775807 : Nat), n ≤ List.length xs, Fl (List.take n xs), m ≤ d ∧ d ≤ (9223372036854775807 : Nat), m ≤
 List.length ys, Fl (List.take m ys), n ≠ m, okI [] (0 : Nat), ([] : List Value) = [], (0 : Nat) = (0 : Nat), false = false, false = false, n ≤ n + (3 : Nat) ∧ n + (3 : Nat) ≤ (9223372036854775807 : Nat), n ≤ List.length
 (List.take n xs ++ [Value.bool ((↑(n % (2 : Nat)) : Int) == (0 : Int)), Value.bool ((↑((n + (1 : Nat)) % (2 : Nat)) : Int) == (0 : Int)), Value.bool ((↑((n + (1 : Nat) + (1 : Nat)) % (2 : Nat)) : Int) == (0 : Int))]), Fl
 (List.take n (List.take n xs ++ [Value.bool ((↑(n % (2 : Nat)) : Int) == (0 : Int)), Value.bool ((↑((n + (1 : Nat)) % (2 : Nat)) : Int) == (0 : Int)), Value.bool ((↑((n + (1 : Nat) + (1 : Nat)) % (2 : Nat)) : Int) == (0 :
 Int))])), avLen (Av.sl (List.take n (List.take n xs ++ [Value.bool ((↑(n % (2 : Nat)) : Int) == (0 : Int)), Value.bool ((↑((n + (1 : Nat)) % (2 : Nat)) : Int) == (0 : Int)), Value.bool ((↑((n + (1 : Nat) + (1 : Nat)) % (2
 : Nat)) : Int) == (0 : Int))])) n) = (0 : Nat), n ≤ c ∧ c ≤ (9223372036854775807 : Nat), n ≤ List.length xs, Fl (List.take n xs), n = (0 : Nat), okS [] (0 : Nat), ([] : List Value) = [], (0 : Nat) = (0 : Nat), false =
 false, m ≤ m + (3 : Nat) ∧ m + (3 : Nat) ≤ (9223372036854775807 : Nat), m ≤ List.length (List.take m ys ++ [Value.int IntKind.i64 (Int.negSucc (nat_lit 76) - (↑m : Int)), Value.int IntKind.i64 (Int.negSucc (nat_lit 76) -
 (↑(m + (1 : Nat)) : Int)), Value.int IntKind.i64 (Int.negSucc (nat_lit 76) - (↑(m + (1 : Nat) + (1 : Nat)) : Int))]), Fl (List.take m (List.take m ys ++ [Value.int IntKind.i64 (Int.negSucc (nat_lit 76) - (↑m : Int)),
 Value.int IntKind.i64 (Int.negSucc (nat_lit 76) - (↑(m + (1 : Nat)) : Int)), Value.int IntKind.i64 (Int.negSucc (nat_lit 76) - (↑(m + (1 : Nat) + (1 : Nat)) : Int))])), Ints IntKind.i64 (List.take m (List.take m ys ++
 [Value.int IntKind.i64 (Int.negSucc (nat_lit 76) - (↑m : Int)), Value.int IntKind.i64 (Int.negSucc (nat_lit 76) - (↑(m + (1 : Nat)) : Int)), Value.int IntKind.i64 (Int.negSucc (nat_lit 76) - (↑(m + (1 : Nat) + (1 : Nat))
 : Int))])), avLen (Av.sl (List.take m (List.take m ys ++ [Value.int IntKind.i64 (Int.negSucc (nat_lit 76) - (↑m : Int)), Value.int IntKind.i64 (Int.negSucc (nat_lit 76) - (↑(m + (1 : Nat)) : Int)), Value.int IntKind.i64
 (Int.negSucc (nat_lit 76) - (↑(m + (1 : Nat) + (1 : Nat)) : Int))])) m) ≤ (1000 : Nat), nzN (List.take m (List.take m ys ++ [Value.int IntKind.i64 (Int.negSucc (nat_lit 76) - (↑m : Int)), Value.int IntKind.i64
 (Int.negSucc (nat_lit 76) - (↑(m + (1 : Nat)) : Int)), Value.int IntKind.i64 (Int.negSucc (nat_lit 76) - (↑(m + (1 : Nat) + (1 : Nat)) : Int))])) (0 : Nat) (avLen (Av.sl (List.take m (List.take m ys ++ [Value.int
 IntKind.i64 (Int.negSucc (nat_lit 76) - (↑m : Int)), Value.int IntKind.i64 (Int.negSucc (nat_lit 76) - (↑(m + (1 : Nat)) : Int)), Value.int IntKind.i64 (Int.negSucc (nat_lit 76) - (↑(m + (1 : Nat) + (1 : Nat)) : Int))]))
 m)) = (0 : Nat), m ≤ d ∧ d ≤ (9223372036854775807 : Nat), m ≤ List.length ys, Fl (List.take m ys), Ints IntKind.i64 (List.take m ys), m ≤ (1000 : Nat), nzN (List.take m ys) (0 : Nat) m = (0 : Nat), Ints IntKind.i64 [],
 ([] : List Value) = [], (0 : Nat) = (0 : Nat), false = false, n + (3 : Nat) ≤ (9223372036854775807 : Nat), n + (3 : Nat) ≤ List.length (List.take n xs ++ [Value.bool ((↑(n % (2 : Nat)) : Int) == (0 : Int)), Value.bool
 ((↑((n + (1 : Nat)) % (2 : Nat)) : Int) == (0 : Int)), Value.bool ((↑((n + (1 : Nat) + (1 : Nat)) % (2 : Nat)) : Int) == (0 : Int))]), Fl (List.take (n + (3 : Nat)) (List.take n xs ++ [Value.bool ((↑(n % (2 : Nat)) : Int)
 == (0 : Int)), Value.bool ((↑((n + (1 : Nat)) % (2 : Nat)) : Int) == (0 : Int)), Value.bool ((↑((n + (1 : Nat) + (1 : Nat)) % (2 : Nat)) : Int) == (0 : Int))])), n ≤ c ∧ c ≤ (9223372036854775807 : Nat), n ≤ List.length
 xs, Fl (List.take n xs), List.take (n + (3 : Nat)) (List.take n xs ++ [Value.bool ((↑(n % (2 : Nat)) : Int) == (0 : Int)), Value.bool ((↑((n + (1 : Nat)) % (2 : Nat)) : Int) == (0 : Int)), Value.bool ((↑((n + (1 : Nat) +
 (1 : Nat)) % (2 : Nat)) : Int) == (0 : Int))]) = List.take n xs ++ [Value.bool ((↑(n % (2 : Nat)) : Int) == (0 : Int)), Value.bool ((↑((n + (1 : Nat)) % (2 : Nat)) : Int) == (0 : Int)), Value.bool ((↑((n + (1 : Nat) + (1
 : Nat)) % (2 : Nat)) : Int) == (0 : Int))], okB (List.take n xs) n, n = n, n + (3 : Nat) = n + (3 : Nat), n ≤ (1000000 : Nat), true = true, m + (3 : Nat) ≤ (9223372036854775807 : Nat), m + (3 : Nat) ≤ List.length
 (List.take m ys ++ [Value.int IntKind.i64 (Int.negSucc (nat_lit 76) - (↑m : Int)), Value.int IntKind.i64 (Int.negSucc (nat_lit 76) - (↑(m + (1 : Nat)) : Int)), Value.int IntKind.i64 (Int.negSucc (nat_lit 76) - (↑(m + (1 :
 Nat) + (1 : Nat)) : Int))]), Fl (List.take (m + (3 : Nat)) (List.take m ys ++ [Value.int IntKind.i64 (Int.negSucc (nat_lit 76) - (↑m : Int)), Value.int IntKind.i64 (Int.negSucc (nat_lit 76) - (↑(m + (1 : Nat)) : Int)),
 Value.int IntKind.i64 (Int.negSucc (nat_lit 76) - (↑(m + (1 : Nat) + (1 : Nat)) : Int))])), m ≤ d ∧ d ≤ (9223372036854775807 : Nat), m ≤ List.length ys, Fl (List.take m ys), List.take (m + (3 : Nat)) (List.take m ys ++
 [Value.int IntKind.i64 (Int.negSucc (nat_lit 76) - (↑m : Int)), Value.int IntKind.i64 (Int.negSucc (nat_lit 76) - (↑(m + (1 : Nat)) : Int)), Value.int IntKind.i64 (Int.negSucc (nat_lit 76) - (↑(m + (1 : Nat) + (1 : Nat))
 : Int))]) = List.take m ys ++ [Value.int IntKind.i64 (Int.negSucc (nat_lit 76) - (↑m : Int)), Value.int IntKind.i64 (Int.negSucc (nat_lit 76) - (↑(m + (1 : Nat)) : Int)), Value.int IntKind.i64 (Int.negSucc (nat_lit 76) -
 (↑(m + (1 : Nat) + (1 : Nat)) : Int))], okI (List.take m ys) m, m = m, m + (3 : Nat) = m + (3 : Nat), m ≤ (1000000 : Nat), true = true]) := by kernel_rfl
theorem cc_ss_xtw (xs ys : List Value) (n m c d : Nat) : prjV (runZ ccV Try.prog 5 6 [.slice (some ⟨0, 0, none⟩) n c, .slice (some ⟨1, 0, none⟩) m d] [(0, ⟨.old, xs⟩), (1, ⟨.old, ys⟩)] 2 ([false, false] ++ [true] ++ [true] ++ [false, false] ++ [true, true] ++ [false] ++ [false, false] ++ [false, true, true])) =
  Res.ok (Value.bool true, [], [decide ((↑n : Int) > (200 : Int)) = false, (bif false then true else decide ((↑m : Int) > (200 : Int))) = false, n ≤ c ∧ c ≤ (9223372036854775807 : Nat), n ≤ List.length xs, Fl (List.take n
 xs), okB (List.take n xs) n, n ≤ (1000000 : Nat), m ≤ d ∧ d ≤ (9223372036854775807 : Nat), m ≤ List.length ys, Fl (List.take m ys), okI (List.take m ys) m, m ≤ (1000000 : Nat), n ≤ n + (3 : Nat) ∧ n + (3 : Nat) ≤
 (9223372036854775807 : Nat), n ≤ List.length (List.take n xs ++ [Value.bool ((↑(n % (2 : Nat)) : Int) == (0 : Int)), Value.bool ((↑((n + (1 : Nat)) % (2 : Nat)) : Int) == (0 : Int)), Value.bool ((↑((n + (1 : Nat) + (1 :
 Nat)) % (2 : Nat)) : Int) == (0 : Int))]), Fl (List.take n (List.take n xs ++ [Value.bool ((↑(n % (2 : Nat)) : Int) == (0 : Int)), Value.bool ((↑((n + (1 : Nat)) % (2 : Nat)) : Int) == (0 : Int)), Value.bool ((↑((n + (1 :
 Nat) + (1 : Nat)) % (2 : Nat)) : Int) == (0 : Int))])), m ≤ m + (3 : Nat) ∧ m + (3 : Nat) ≤ (9223372036854775807 : Nat), m ≤ List.length (List.take m ys ++ [Value.int IntKind.i64 (Int.negSucc (nat_lit 76) - (↑m : Int)),
 Value.int IntKind.i64 (Int.negSucc (nat_lit 76) - (↑(m + (1 : Nat)) : Int)), Value.int IntKind.i64 (Int.negSucc (nat_lit 76) - (↑(m + (1 : Nat) + (1 : Nat)) : Int))]), Fl (List.take m (List.take m ys ++ [Value.int
 IntKind.i64 (Int.negSucc (nat_lit 76) - (↑m : Int)), Value.int IntKind.i64 (Int.negSucc (nat_lit 76) - (↑(m + (1 : Nat)) : Int)), Value.int IntKind.i64 (Int.negSucc (nat_lit 76) - (↑(m + (1 : Nat) + (1 : Nat)) : Int))])),
 avLen (Av.sl (List.take n (List.take n xs ++ [Value.bool ((↑(n % (2 : Nat)) : Int) == (0 : Int)), Value.bool ((↑((n + (1 : Nat)) % (2 : Nat)) : Int) == (0 : Int)), Value.bool ((↑((n + (1 : Nat) + (1 : Nat)) % (2 : Nat)) :
 Int) == (0 : Int))])) n) ≠ avLen (Av.sl (List.take m (List.take m ys ++ [Value.int IntKind.i64 (Int.negSucc (nat_lit 76) - (↑m : Int)), Value.int IntKind.i64 (Int.negSucc (nat_lit 76) - (↑(m + (1 : Nat)) : Int)),
 Value.int IntKind.i64 (Int.negSucc (nat_lit 76) - (↑(m + (1 : Nat) + (1 : Nat)) : Int))])) m), n ≤ c ∧ c ≤ (9223372036854775807 : Nat), n ≤ List.length xs, Fl (List.take n xs), m ≤ d ∧ d ≤ (9223372036854775807 : Nat), m ≤
 List.length ys, Fl (List.take m ys), n ≠ m, okI [] (0 : Nat), ([] : List Value) = [], (0 : Nat) = (0 : Nat), false = false, false = false, n ≤ n + (3 : Nat) ∧ n + (3 : Nat) ≤ (9223372036854775807 : Nat), n ≤ List.length
 (List.take n xs ++ [Value.bool ((↑(n % (2 : Nat)) : Int) == (0 : Int)), Value.bool ((↑((n + (1 : Nat)) % (2 : Nat)) : Int) == (0 : Int)), Value.bool ((↑((n + (1 : Nat) + (1 : Nat)) % (2 : Nat)) : Int) == (0 : Int))]), Fl
 (List.take n (List.take n xs ++ [Value.bool ((↑(n % (2 : Nat)) : Int) == (0 : Int)), Value.bool ((↑((n + (1 : Nat)) % (2 : Nat)) : Int) == (0 : Int)), Value.bool ((↑((n + (1 : Nat) + (1 : Nat)) % (2 : Nat)) : Int) == (0 :
 Int))])), avLen (Av.sl (List.take n (List.take n xs ++ [Value.bool ((↑(n % (2 : Nat)) : Int) == (0 : Int)), Value.bool ((↑((n + (1 : Nat)) % (2 : Nat)) : Int) == (0 : Int)), Value.bool ((↑((n + (1 : Nat) + (1 : Nat)) % (2
 : Nat)) : Int) == (0 : Int))])) n) = (0 : Nat), n ≤ c ∧ c ≤ (9223372036854775807 : Nat), n ≤ List.length xs, Fl (List.take n xs), n = (0 : Nat), okS [] (0 : Nat), ([] : List Value) = [], (0 : Nat) = (0 : Nat), false =
 false, m ≤ m + (3 : Nat) ∧ m + (3 : Nat) ≤ (9223372036854775807 : Nat), m ≤ List.length (List.take m ys ++ [Value.int IntKind.i64 (Int.negSucc (nat_lit 76) - (↑m : Int)), Value.int IntKind.i64 (Int.negSucc (nat_lit 76) -
 (↑(m + (1 : Nat)) : Int)), Value.int IntKind.i64 (Int.negSucc (nat_lit 76) - (↑(m + (1 : Nat) + (1 : Nat)) : Int))]), Fl (List.take m (List.take m ys ++ [Value.int IntKind.i64 (Int.negSucc (nat_lit 76) - (↑m : Int)),
 Value.int IntKind.i64 (Int.negSucc (nat_lit 76) - (↑(m + (1 : Nat)) : Int)), Value.int IntKind.i64 (Int.negSucc (nat_lit 76) - (↑(m + (1 : Nat) + (1 : Nat)) : Int))])), Ints IntKind.i64 (List.take m (List.take m ys ++
 [Value.int IntKind.i64 (Int.negSucc (nat_lit 76) - (↑m : Int)), Value.int IntKind.i64 (Int.negSucc (nat_lit 76) - (↑(m + (1 : Nat)) : Int)), Value.int IntKind.i64 (Int.negSucc (nat_lit 76) - (↑(m + (1 : Nat) + (1 : Nat))
 : Int))])), avLen (Av.sl (List.take m (List.take m ys ++ [Value.int IntKind.i64 (Int.negSucc (nat_lit 76) - (↑m : Int)), Value.int IntKind.i64 (Int.negSucc (nat_lit 76) - (↑(m + (1 : Nat)) : Int)), Value.int IntKind.i64
 (Int.negSucc (nat_lit 76) - (↑(m + (1 : Nat) + (1 : Nat)) : Int))])) m) ≤ (1000 : Nat), nzN (List.take m (List.take m ys ++ [Value.int IntKind.i64 (Int.negSucc (nat_lit 76) - (↑m : Int)), Value.int IntKind.i64
 (Int.negSucc (nat_lit 76) - (↑(m + (1 : Nat)) : Int)), Value.int IntKind.i64 (Int.negSucc (nat_lit 76) - (↑(m + (1 : Nat) + (1 : Nat)) : Int))])) (0 : Nat) (avLen (Av.sl (List.take m (List.take m ys ++ [Value.int
 IntKind.i64 (Int.negSucc (nat_lit 76) - (↑m : Int)), Value.int IntKind.i64 (Int.negSucc (nat_lit 76) - (↑(m + (1 : Nat)) : Int)), Value.int IntKind.i64 (Int.negSucc (nat_lit 76) - (↑(m + (1 : Nat) + (1 : Nat)) : Int))]))
 m)) ≠ (0 : Nat), m ≤ d ∧ d ≤ (9223372036854775807 : Nat), m ≤ List.length ys, Fl (List.take m ys), Ints IntKind.i64 (List.take m ys), m ≤ (1000 : Nat), nzN (List.take m ys) (0 : Nat) m ≠ (0 : Nat), capBig + (4 : Nat) =
 capBig + (4 : Nat), nzN (List.take m (List.take m ys ++ [Value.int IntKind.i64 (Int.negSucc (nat_lit 76) - (↑m : Int)), Value.int IntKind.i64 (Int.negSucc (nat_lit 76) - (↑(m + (1 : Nat)) : Int)), Value.int IntKind.i64
 (Int.negSucc (nat_lit 76) - (↑(m + (1 : Nat) + (1 : Nat)) : Int))])) (0 : Nat) (avLen (Av.sl (List.take m (List.take m ys ++ [Value.int IntKind.i64 (Int.negSucc (nat_lit 76) - (↑m : Int)), Value.int IntKind.i64
 (Int.negSucc (nat_lit 76) - (↑(m + (1 : Nat)) : Int)), Value.int IntKind.i64 (Int.negSucc (nat_lit 76) - (↑(m + (1 : Nat) + (1 : Nat)) : Int))])) m)) * (2 : Nat) ≤ List.length (nzL (List.take m (List.take m ys ++
 [Value.int IntKind.i64 (Int.negSucc (nat_lit 76) - (↑m : Int)), Value.int IntKind.i64 (Int.negSucc (nat_lit 76) - (↑(m + (1 : Nat)) : Int)), Value.int IntKind.i64 (Int.negSucc (nat_lit 76) - (↑(m + (1 : Nat) + (1 : Nat))
 : Int))])) (0 : Nat) (avLen (Av.sl (List.take m (List.take m ys ++ [Value.int IntKind.i64 (Int.negSucc (nat_lit 76) - (↑m : Int)), Value.int IntKind.i64 (Int.negSucc (nat_lit 76) - (↑(m + (1 : Nat)) : Int)), Value.int
 IntKind.i64 (Int.negSucc (nat_lit 76) - (↑(m + (1 : Nat) + (1 : Nat)) : Int))])) m))), (0 : Nat) < (2 : Nat), nzN (List.take m (List.take m ys ++ [Value.int IntKind.i64 (Int.negSucc (nat_lit 76) - (↑m : Int)), Value.int
 IntKind.i64 (Int.negSucc (nat_lit 76) - (↑(m + (1 : Nat)) : Int)), Value.int IntKind.i64 (Int.negSucc (nat_lit 76) - (↑(m + (1 : Nat) + (1 : Nat)) : Int))])) (0 : Nat) (avLen (Av.sl (List.take m (List.take m ys ++
 [Value.int IntKind.i64 (Int.negSucc (nat_lit 76) - (↑m : Int)), Value.int IntKind.i64 (Int.negSucc (nat_lit 76) - (↑(m + (1 : Nat)) : Int)), Value.int IntKind.i64 (Int.negSucc (nat_lit 76) - (↑(m + (1 : Nat) + (1 : Nat))
 : Int))])) m)) * (2 : Nat) ≤ List.length (nzL (List.take m (List.take m ys ++ [Value.int IntKind.i64 (Int.negSucc (nat_lit 76) - (↑m : Int)), Value.int IntKind.i64 (Int.negSucc (nat_lit 76) - (↑(m + (1 : Nat)) : Int)),
 Value.int IntKind.i64 (Int.negSucc (nat_lit 76) - (↑(m + (1 : Nat) + (1 : Nat)) : Int))])) (0 : Nat) (avLen (Av.sl (List.take m (List.take m ys ++ [Value.int IntKind.i64 (Int.negSucc (nat_lit 76) - (↑m : Int)), Value.int
 IntKind.i64 (Int.negSucc (nat_lit 76) - (↑(m + (1 : Nat)) : Int)), Value.int IntKind.i64 (Int.negSucc (nat_lit 76) - (↑(m + (1 : Nat) + (1 : Nat)) : Int))])) m))), Fl (List.take (nzN (List.take m (List.take m ys ++
 [Value.int IntKind.i64 (Int.negSucc (nat_lit 76) - (↑m : Int)), Value.int IntKind.i64 (Int.negSucc (nat_lit 76) - (↑(m + (1 : Nat)) : Int)), Value.int IntKind.i64 (Int.negSucc (nat_lit 76) - (↑(m + (1 : Nat) + (1 : Nat))
 : Int))])) (0 : Nat) (avLen (Av.sl (List.take m (List.take m ys ++ [Value.int IntKind.i64 (Int.negSucc (nat_lit 76) - (↑m : Int)), Value.int IntKind.i64 (Int.negSucc (nat_lit 76) - (↑(m + (1 : Nat)) : Int)), Value.int
 IntKind.i64 (Int.negSucc (nat_lit 76) - (↑(m + (1 : Nat) + (1 : Nat)) : Int))])) m)) * (2 : Nat)) (nzL (List.take m (List.take m ys ++ [Value.int IntKind.i64 (Int.negSucc (nat_lit 76) - (↑m : Int)), Value.int IntKind.i64
 (Int.negSucc (nat_lit 76) - (↑(m + (1 : Nat)) : Int)), Value.int IntKind.i64 (Int.negSucc (nat_lit 76) - (↑(m + (1 : Nat) + (1 : Nat)) : Int))])) (0 : Nat) (avLen (Av.sl (List.take m (List.take m ys ++ [Value.int
 IntKind.i64 (Int.negSucc (nat_lit 76) - (↑m : Int)), Value.int IntKind.i64 (Int.negSucc (nat_lit 76) - (↑(m + (1 : Nat)) : Int)), Value.int IntKind.i64 (Int.negSucc (nat_lit 76) - (↑(m + (1 : Nat) + (1 : Nat)) : Int))]))
 m)))), capBig + (5 : Nat) = capBig + (5 : Nat), nzN (List.take m ys) (0 : Nat) m * (2 : Nat) ≤ List.length (nzL (List.take m ys) (0 : Nat) m), (0 : Nat) < (2 : Nat), nzN (List.take m ys) (0 : Nat) m * (2 : Nat) ≤
 List.length (nzL (List.take m ys) (0 : Nat) m), Fl (List.take (nzN (List.take m ys) (0 : Nat) m * (2 : Nat)) (nzL (List.take m ys) (0 : Nat) m)), Ints IntKind.i64 (List.take (nzN (List.take m (List.take m ys ++ [Value.int
 IntKind.i64 (Int.negSucc (nat_lit 76) - (↑m : Int)), Value.int IntKind.i64 (Int.negSucc (nat_lit 76) - (↑(m + (1 : Nat)) : Int)), Value.int IntKind.i64 (Int.negSucc (nat_lit 76) - (↑(m + (1 : Nat) + (1 : Nat)) : Int))]))
 (0 : Nat) (avLen (Av.sl (List.take m (List.take m ys ++ [Value.int IntKind.i64 (Int.negSucc (nat_lit 76) - (↑m : Int)), Value.int IntKind.i64 (Int.negSucc (nat_lit 76) - (↑(m + (1 : Nat)) : Int)), Value.int IntKind.i64
 (Int.negSucc (nat_lit 76) - (↑(m + (1 : Nat) + (1 : Nat)) : Int))])) m)) * (2 : Nat)) (nzL (List.take m (List.take m ys ++ [Value.int IntKind.i64 (Int.negSucc (nat_lit 76) - (↑m : Int)), Value.int IntKind.i64 (Int.negSucc
 (nat_lit 76) - (↑(m + (1 : Nat)) : Int)), Value.int IntKind.i64 (Int.negSucc (nat_lit 76) - (↑(m + (1 : Nat) + (1 : Nat)) : Int))])) (0 : Nat) (avLen (Av.sl (List.take m (List.take m ys ++ [Value.int IntKind.i64
 (Int.negSucc (nat_lit 76) - (↑m : Int)), Value.int IntKind.i64 (Int.negSucc (nat_lit 76) - (↑(m + (1 : Nat)) : Int)), Value.int IntKind.i64 (Int.negSucc (nat_lit 76) - (↑(m + (1 : Nat) + (1 : Nat)) : Int))])) m)))),
 List.take (nzN (List.take m ys) (0 : Nat) m * (2 : Nat)) (nzL (List.take m ys) (0 : Nat) m) = List.take (nzN (List.take m (List.take m ys ++ [Value.int IntKind.i64 (Int.negSucc (nat_lit 76) - (↑m : Int)), Value.int
 IntKind.i64 (Int.negSucc (nat_lit 76) - (↑(m + (1 : Nat)) : Int)), Value.int IntKind.i64 (Int.negSucc (nat_lit 76) - (↑(m + (1 : Nat) + (1 : Nat)) : Int))])) (0 : Nat) (avLen (Av.sl (List.take m (List.take m ys ++
 [Value.int IntKind.i64 (Int.negSucc (nat_lit 76) - (↑m : Int)), Value.int IntKind.i64 (Int.negSucc (nat_lit 76) - (↑(m + (1 : Nat)) : Int)), Value.int IntKind.i64 (Int.negSucc (nat_lit 76) - (↑(m + (1 : Nat) + (1 : Nat))
 : Int))])) m)) * (2 : Nat)) (nzL (List.take m (List.take m ys ++ [Value.int IntKind.i64 (Int.negSucc (nat_lit 76) - (↑m : Int)), Value.int IntKind.i64 (Int.negSucc (nat_lit 76) - (↑(m + (1 : Nat)) : Int)), Value.int
 IntKind.i64 (Int.negSucc (nat_lit 76) - (↑(m + (1 : Nat) + (1 : Nat)) : Int))])) (0 : Nat) (avLen (Av.sl (List.take m (List.take m ys ++ [Value.int IntKind.i64 (Int.negSucc (nat_lit 76) - (↑m : Int)), Value.int
 IntKind.i64 (Int.negSucc (nat_lit 76) - (↑(m + (1 : Nat)) : Int)), Value.int IntKind.i64 (Int.negSucc (nat_lit 76) - (↑(m + (1 : Nat) + (1 : Nat)) : Int))])) m))), avLen (Av.sl (List.take (nzN (List.take m ys) (0 : Nat) m
 * (2 : Nat)) (nzL (List.take m ys) (0 : Nat) m)) (nzN (List.take m ys) (0 : Nat) m)) = avLen (Av.sl (List.take (nzN (List.take m (List.take m ys ++ [Value.int IntKind.i64 (Int.negSucc (nat_lit 76) - (↑m : Int)), Value.int
 IntKind.i64 (Int.negSucc (nat_lit 76) - (↑(m + (1 : Nat)) : Int)), Value.int IntKind.i64 (Int.negSucc (nat_lit 76) - (↑(m + (1 : Nat) + (1 : Nat)) : Int))])) (0 : Nat) (avLen (Av.sl (List.take m (List.take m ys ++
 [Value.int IntKind.i64 (Int.negSucc (nat_lit 76) - (↑m : Int)), Value.int IntKind.i64 (Int.negSucc (nat_lit 76) - (↑(m + (1 : Nat)) : Int)), Value.int IntKind.i64 (Int.negSucc (nat_lit 76) - (↑(m + (1 : Nat) + (1 : Nat))
 : Int))])) m)) * (2 : Nat)) (nzL (List.take m (List.take m ys ++ [Value.int IntKind.i64 (Int.negSucc (nat_lit 76) - (↑m : Int)), Value.int IntKind.i64 (Int.negSucc (nat_lit 76) - (↑(m + (1 : Nat)) : Int)), Value.int
 IntKind.i64 (Int.negSucc (nat_lit 76) - (↑(m + (1 : Nat) + (1 : Nat)) : Int))])) (0 : Nat) (avLen (Av.sl (List.take m (List.take m ys ++ [Value.int IntKind.i64 (Int.negSucc (nat_lit 76) - (↑m : Int)), Value.int
 IntKind.i64 (Int.negSucc (nat_lit 76) - (↑(m + (1 : Nat)) : Int)), Value.int IntKind.i64 (Int.negSucc (nat_lit 76) - (↑(m + (1 : Nat) + (1 : Nat)) : Int))])) m)))) (nzN (List.take m (List.take m ys ++ [Value.int
 IntKind.i64 (Int.negSucc (nat_lit 76) - (↑m : Int)), Value.int IntKind.i64 (Int.negSucc (nat_lit 76) - (↑(m + (1 : Nat)) : Int)), Value.int IntKind.i64 (Int.negSucc (nat_lit 76) - (↑(m + (1 : Nat) + (1 : Nat)) : Int))]))
 (0 : Nat) (avLen (Av.sl (List.take m (List.take m ys ++ [Value.int IntKind.i64 (Int.negSucc (nat_lit 76) - (↑m : Int)), Value.int IntKind.i64 (Int.negSucc (nat_lit 76) - (↑(m + (1 : Nat)) : Int)), Value.int IntKind.i64
 (Int.negSucc (nat_lit 76) - (↑(m + (1 : Nat) + (1 : Nat)) : Int))])) m)))), false = false, n + (3 : Nat) ≤ (9223372036854775807 : Nat), n + (3 : Nat) ≤ List.length (List.take n xs ++ [Value.bool ((↑(n % (2 : Nat)) : Int)
 == (0 : Int)), Value.bool ((↑((n + (1 : Nat)) % (2 : Nat)) : Int) == (0 : Int)), Value.bool ((↑((n + (1 : Nat) + (1 : Nat)) % (2 : Nat)) : Int) == (0 : Int))]), Fl (List.take (n + (3 : Nat)) (List.take n xs ++ [Value.bool
 ((↑(n % (2 : Nat)) : Int) == (0 : Int)), Value.bool ((↑((n + (1 : Nat)) % (2 : Nat)) : Int) == (0 : Int)), Value.bool ((↑((n + (1 : Nat) + (1 : Nat)) % (2 : Nat)) : Int) == (0 : Int))])), n ≤ c ∧ c ≤ (9223372036854775807
 : Nat), n ≤ List.length xs, Fl (List.take n xs), List.take (n + (3 : Nat)) (List.take n xs ++ [Value.bool ((↑(n % (2 : Nat)) : Int) == (0 : Int)), Value.bool ((↑((n + (1 : Nat)) % (2 : Nat)) : Int) == (0 : Int)),
 Value.bool ((↑((n + (1 : Nat) + (1 : Nat)) % (2 : Nat)) : Int) == (0 : Int))]) = List.take n xs ++ [Value.bool ((↑(n % (2 : Nat)) : Int) == (0 : Int)), Value.bool ((↑((n + (1 : Nat)) % (2 : Nat)) : Int) == (0 : Int)),
 Value.bool ((↑((n + (1 : Nat) + (1 : Nat)) % (2 : Nat)) : Int) == (0 : Int))], okB (List.take n xs) n, n = n, n + (3 : Nat) = n + (3 : Nat), n ≤ (1000000 : Nat), true = true, m + (3 : Nat) ≤ (9223372036854775807 : Nat), m
 + (3 : Nat) ≤ List.length (List.take m ys ++ [Value.int IntKind.i64 (Int.negSucc (nat_lit 76) - (↑m : Int)), Value.int IntKind.i64 (Int.negSucc (nat_lit 76) - (↑(m + (1 : Nat)) : Int)), Value.int IntKind.i64 (Int.negSucc
 (nat_lit 76) - (↑(m + (1 : Nat) + (1 : Nat)) : Int))]), Fl (List.take (m + (3 : Nat)) (List.take m ys ++ [Value.int IntKind.i64 (Int.negSucc (nat_lit 76) - (↑m : Int)), Value.int IntKind.i64 (Int.negSucc (nat_lit 76) -
 (↑(m + (1 : Nat)) : Int)), Value.int IntKind.i64 (Int.negSucc (nat_lit 76) - (↑(m + (1 : Nat) + (1 : Nat)) : Int))])), m ≤ d ∧ d ≤ (9223372036854775807 : Nat), m ≤ List.length ys, Fl (List.take m ys), List.take (m + (3 :
 Nat)) (List.take m ys ++ [Value.int IntKind.i64 (Int.negSucc (nat_lit 76) - (↑m : Int)), Value.int IntKind.i64 (Int.negSucc (nat_lit 76) - (↑(m + (1 : Nat)) : Int)), Value.int IntKind.i64 (Int.negSucc (nat_lit 76) - (↑(m
 + (1 : Nat) + (1 : Nat)) : Int))]) = List.take m ys ++ [Value.int IntKind.i64 (Int.negSucc (nat_lit 76) - (↑m : Int)), Value.int IntKind.i64 (Int.negSucc (nat_lit 76) - (↑(m + (1 : Nat)) : Int)), Value.int IntKind.i64
 (Int.negSucc (nat_lit 76) - (↑(m + (1 : Nat) + (1 : Nat)) : Int))], okI (List.take m ys) m, m = m, m + (3 : Nat) = m + (3 : Nat), m ≤ (1000000 : Nat), true = true]) := by kernel_rfl
theorem cc_ss_xfz (xs ys : List Value) (n m c d : Nat) : prjV (runZ ccV Try.prog 5 6 [.slice (some ⟨0, 0, none⟩) n c, .slice (some ⟨1, 0, none⟩) m d] [(0, ⟨.old, xs⟩), (1, ⟨.old, ys⟩)] 2 ([false, false] ++ [true] ++ [true] ++ [false, false] ++ [false, false] ++ [false] ++ [true, true] ++ [false, true, true])) =
  Res.ok (Value.bool true, [], [decide ((↑n : Int) > (200 : Int)) = false, (bif false then true else decide ((↑m : Int) > (200 : Int))) = false, n ≤ c ∧ c ≤ (9223372036854775807 : Nat), n ≤ List.length xs, Fl (List.take n
 xs), okB (List.take n xs) n, n ≤ (1000000 : Nat), m ≤ d ∧ d ≤ (9223372036854775807 : Nat), m ≤ List.length ys, Fl (List.take m ys), okI (List.take m ys) m, m ≤ (1000000 : Nat), n ≤ n + (3 : Nat) ∧ n + (3 : Nat) ≤
 (9223372036854775807 : Nat), n ≤ List.length (List.take n xs ++ [Value.bool ((↑(n % (2 : Nat)) : Int) == (0 : Int)), Value.bool ((↑((n + (1 : Nat)) % (2 : Nat)) : Int) == (0 : Int)), Value.bool ((↑((n + (1 : Nat) + (1 :
 Nat)) % (2 : Nat)) : Int) == (0 : Int))]), Fl (List.take n (List.take n xs ++ [Value.bool ((↑(n % (2 : Nat)) : Int) == (0 : Int)), Value.bool ((↑((n + (1 : Nat)) % (2 : Nat)) : Int) == (0 : Int)), Value.bool ((↑((n + (1 :
 Nat) + (1 : Nat)) % (2 : Nat)) : Int) == (0 : Int))])), m ≤ m + (3 : Nat) ∧ m + (3 : Nat) ≤ (9223372036854775807 : Nat), m ≤ List.length (List.take m ys ++ [Value.int IntKind.i64 (Int.negSucc (nat_lit 76) - (↑m : Int)),
 Value.int IntKind.i64 (Int.negSucc (nat_lit 76) - (↑(m + (1 : Nat)) : Int)), Value.int IntKind.i64 (Int.negSucc (nat_lit 76) - (↑(m + (1 : Nat) + (1 : Nat)) : Int))]), Fl (List.take m (List.take m ys ++ [Value.int
 IntKind.i64 (Int.negSucc (nat_lit 76) - (↑m : Int)), Value.int IntKind.i64 (Int.negSucc (nat_lit 76) - (↑(m + (1 : Nat)) : Int)), Value.int IntKind.i64 (Int.negSucc (nat_lit 76) - (↑(m + (1 : Nat) + (1 : Nat)) : Int))])),
 avLen (Av.sl (List.take n (List.take n xs ++ [Value.bool ((↑(n % (2 : Nat)) : Int) == (0 : Int)), Value.bool ((↑((n + (1 : Nat)) % (2 : Nat)) : Int) == (0 : Int)), Value.bool ((↑((n + (1 : Nat) + (1 : Nat)) % (2 : Nat)) :
 Int) == (0 : Int))])) n) ≠ avLen (Av.sl (List.take m (List.take m ys ++ [Value.int IntKind.i64 (Int.negSucc (nat_lit 76) - (↑m : Int)), Value.int IntKind.i64 (Int.negSucc (nat_lit 76) - (↑(m + (1 : Nat)) : Int)),
 Value.int IntKind.i64 (Int.negSucc (nat_lit 76) - (↑(m + (1 : Nat) + (1 : Nat)) : Int))])) m), n ≤ c ∧ c ≤ (9223372036854775807 : Nat), n ≤ List.length xs, Fl (List.take n xs), m ≤ d ∧ d ≤ (9223372036854775807 : Nat), m ≤
 List.length ys, Fl (List.take m ys), n ≠ m, okI [] (0 : Nat), ([] : List Value) = [], (0 : Nat) = (0 : Nat), false = false, false = false, n ≤ n + (3 : Nat) ∧ n + (3 : Nat) ≤ (9223372036854775807 : Nat), n ≤ List.length
 (List.take n xs ++ [Value.bool ((↑(n % (2 : Nat)) : Int) == (0 : Int)), Value.bool ((↑((n + (1 : Nat)) % (2 : Nat)) : Int) == (0 : Int)), Value.bool ((↑((n + (1 : Nat) + (1 : Nat)) % (2 : Nat)) : Int) == (0 : Int))]), Fl
 (List.take n (List.take n xs ++ [Value.bool ((↑(n % (2 : Nat)) : Int) == (0 : Int)), Value.bool ((↑((n + (1 : Nat)) % (2 : Nat)) : Int) == (0 : Int)), Value.bool ((↑((n + (1 : Nat) + (1 : Nat)) % (2 : Nat)) : Int) == (0 :
 Int))])), (0 : Nat) < avLen (Av.sl (List.take n (List.take n xs ++ [Value.bool ((↑(n % (2 : Nat)) : Int) == (0 : Int)), Value.bool ((↑((n + (1 : Nat)) % (2 : Nat)) : Int) == (0 : Int)), Value.bool ((↑((n + (1 : Nat) + (1
 : Nat)) % (2 : Nat)) : Int) == (0 : Int))])) n), avLen (Av.sl (List.take n (List.take n xs ++ [Value.bool ((↑(n % (2 : Nat)) : Int) == (0 : Int)), Value.bool ((↑((n + (1 : Nat)) % (2 : Nat)) : Int) == (0 : Int)),
 Value.bool ((↑((n + (1 : Nat) + (1 : Nat)) % (2 : Nat)) : Int) == (0 : Int))])) n) ≤ (1000 : Nat), Bols (List.take n (List.take n xs ++ [Value.bool ((↑(n % (2 : Nat)) : Int) == (0 : Int)), Value.bool ((↑((n + (1 : Nat)) %
 (2 : Nat)) : Int) == (0 : Int)), Value.bool ((↑((n + (1 : Nat) + (1 : Nat)) % (2 : Nat)) : Int) == (0 : Int))])), n ≤ c ∧ c ≤ (9223372036854775807 : Nat), n ≤ List.length xs, Fl (List.take n xs), (0 : Nat) < n, n ≤ (1000
 : Nat), Bols (List.take n xs), capBig + (4 : Nat) = capBig + (4 : Nat), spN (List.take n (List.take n xs ++ [Value.bool ((↑(n % (2 : Nat)) : Int) == (0 : Int)), Value.bool ((↑((n + (1 : Nat)) % (2 : Nat)) : Int) == (0 :
 Int)), Value.bool ((↑((n + (1 : Nat) + (1 : Nat)) % (2 : Nat)) : Int) == (0 : Int))])) ≤ spN (List.take n (List.take n xs ++ [Value.bool ((↑(n % (2 : Nat)) : Int) == (0 : Int)), Value.bool ((↑((n + (1 : Nat)) % (2 : Nat))
 : Int) == (0 : Int)), Value.bool ((↑((n + (1 : Nat) + (1 : Nat)) % (2 : Nat)) : Int) == (0 : Int))])), spN (List.take n (List.take n xs ++ [Value.bool ((↑(n % (2 : Nat)) : Int) == (0 : Int)), Value.bool ((↑((n + (1 :
 Nat)) % (2 : Nat)) : Int) == (0 : Int)), Value.bool ((↑((n + (1 : Nat) + (1 : Nat)) % (2 : Nat)) : Int) == (0 : Int))])) * (3 : Nat) ≤ List.length (spL (List.take n (List.take n xs ++ [Value.bool ((↑(n % (2 : Nat)) : Int)
 == (0 : Int)), Value.bool ((↑((n + (1 : Nat)) % (2 : Nat)) : Int) == (0 : Int)), Value.bool ((↑((n + (1 : Nat) + (1 : Nat)) % (2 : Nat)) : Int) == (0 : Int))]))), Fl (List.take (spN (List.take n (List.take n xs ++
 [Value.bool ((↑(n % (2 : Nat)) : Int) == (0 : Int)), Value.bool ((↑((n + (1 : Nat)) % (2 : Nat)) : Int) == (0 : Int)), Value.bool ((↑((n + (1 : Nat) + (1 : Nat)) % (2 : Nat)) : Int) == (0 : Int))])) * (3 : Nat)) (spL
 (List.take n (List.take n xs ++ [Value.bool ((↑(n % (2 : Nat)) : Int) == (0 : Int)), Value.bool ((↑((n + (1 : Nat)) % (2 : Nat)) : Int) == (0 : Int)), Value.bool ((↑((n + (1 : Nat) + (1 : Nat)) % (2 : Nat)) : Int) == (0 :
 Int))])))), capBig + (5 : Nat) = capBig + (5 : Nat), spN (List.take n xs) * (3 : Nat) ≤ List.length (spL (List.take n xs)), (0 : Nat) < (3 : Nat), spN (List.take n xs) * (3 : Nat) ≤ List.length (spL (List.take n xs)), Fl
 (List.take (spN (List.take n xs) * (3 : Nat)) (spL (List.take n xs))), okS (List.take (spN (List.take n (List.take n xs ++ [Value.bool ((↑(n % (2 : Nat)) : Int) == (0 : Int)), Value.bool ((↑((n + (1 : Nat)) % (2 : Nat)) :
 Int) == (0 : Int)), Value.bool ((↑((n + (1 : Nat) + (1 : Nat)) % (2 : Nat)) : Int) == (0 : Int))])) * (3 : Nat)) (spL (List.take n (List.take n xs ++ [Value.bool ((↑(n % (2 : Nat)) : Int) == (0 : Int)), Value.bool ((↑((n
 + (1 : Nat)) % (2 : Nat)) : Int) == (0 : Int)), Value.bool ((↑((n + (1 : Nat) + (1 : Nat)) % (2 : Nat)) : Int) == (0 : Int))])))) (avLen (Av.sl (List.take (spN (List.take n (List.take n xs ++ [Value.bool ((↑(n % (2 :
 Nat)) : Int) == (0 : Int)), Value.bool ((↑((n + (1 : Nat)) % (2 : Nat)) : Int) == (0 : Int)), Value.bool ((↑((n + (1 : Nat) + (1 : Nat)) % (2 : Nat)) : Int) == (0 : Int))])) * (3 : Nat)) (spL (List.take n (List.take n xs
 ++ [Value.bool ((↑(n % (2 : Nat)) : Int) == (0 : Int)), Value.bool ((↑((n + (1 : Nat)) % (2 : Nat)) : Int) == (0 : Int)), Value.bool ((↑((n + (1 : Nat) + (1 : Nat)) % (2 : Nat)) : Int) == (0 : Int))])))) (spN (List.take n
 (List.take n xs ++ [Value.bool ((↑(n % (2 : Nat)) : Int) == (0 : Int)), Value.bool ((↑((n + (1 : Nat)) % (2 : Nat)) : Int) == (0 : Int)), Value.bool ((↑((n + (1 : Nat) + (1 : Nat)) % (2 : Nat)) : Int) == (0 : Int))]))))),
 List.take (spN (List.take n xs) * (3 : Nat)) (spL (List.take n xs)) = List.take (spN (List.take n (List.take n xs ++ [Value.bool ((↑(n % (2 : Nat)) : Int) == (0 : Int)), Value.bool ((↑((n + (1 : Nat)) % (2 : Nat)) : Int)
 == (0 : Int)), Value.bool ((↑((n + (1 : Nat) + (1 : Nat)) % (2 : Nat)) : Int) == (0 : Int))])) * (3 : Nat)) (spL (List.take n (List.take n xs ++ [Value.bool ((↑(n % (2 : Nat)) : Int) == (0 : Int)), Value.bool ((↑((n + (1
 : Nat)) % (2 : Nat)) : Int) == (0 : Int)), Value.bool ((↑((n + (1 : Nat) + (1 : Nat)) % (2 : Nat)) : Int) == (0 : Int))]))), avLen (Av.sl (List.take (spN (List.take n xs) * (3 : Nat)) (spL (List.take n xs))) (spN
 (List.take n xs))) = avLen (Av.sl (List.take (spN (List.take n (List.take n xs ++ [Value.bool ((↑(n % (2 : Nat)) : Int) == (0 : Int)), Value.bool ((↑((n + (1 : Nat)) % (2 : Nat)) : Int) == (0 : Int)), Value.bool ((↑((n +
 (1 : Nat) + (1 : Nat)) % (2 : Nat)) : Int) == (0 : Int))])) * (3 : Nat)) (spL (List.take n (List.take n xs ++ [Value.bool ((↑(n % (2 : Nat)) : Int) == (0 : Int)), Value.bool ((↑((n + (1 : Nat)) % (2 : Nat)) : Int) == (0 :
 Int)), Value.bool ((↑((n + (1 : Nat) + (1 : Nat)) % (2 : Nat)) : Int) == (0 : Int))])))) (spN (List.take n (List.take n xs ++ [Value.bool ((↑(n % (2 : Nat)) : Int) == (0 : Int)), Value.bool ((↑((n + (1 : Nat)) % (2 :
 Nat)) : Int) == (0 : Int)), Value.bool ((↑((n + (1 : Nat) + (1 : Nat)) % (2 : Nat)) : Int) == (0 : Int))])))), false = false, m ≤ m + (3 : Nat) ∧ m + (3 : Nat) ≤ (9223372036854775807 : Nat), m ≤ List.length (List.take m
 ys ++ [Value.int IntKind.i64 (Int.negSucc (nat_lit 76) - (↑m : Int)), Value.int IntKind.i64 (Int.negSucc (nat_lit 76) - (↑(m + (1 : Nat)) : Int)), Value.int IntKind.i64 (Int.negSucc (nat_lit 76) - (↑(m + (1 : Nat) + (1 :
 Nat)) : Int))]), Fl (List.take m (List.take m ys ++ [Value.int IntKind.i64 (Int.negSucc (nat_lit 76) - (↑m : Int)), Value.int IntKind.i64 (Int.negSucc (nat_lit 76) - (↑(m + (1 : Nat)) : Int)), Value.int IntKind.i64
 (Int.negSucc (nat_lit 76) - (↑(m + (1 : Nat) + (1 : Nat)) : Int))])), Ints IntKind.i64 (List.take m (List.take m ys ++ [Value.int IntKind.i64 (Int.negSucc (nat_lit 76) - (↑m : Int)), Value.int IntKind.i64 (Int.negSucc
 (nat_lit 76) - (↑(m + (1 : Nat)) : Int)), Value.int IntKind.i64 (Int.negSucc (nat_lit 76) - (↑(m + (1 : Nat) + (1 : Nat)) : Int))])), avLen (Av.sl (List.take m (List.take m ys ++ [Value.int IntKind.i64 (Int.negSucc
 (nat_lit 76) - (↑m : Int)), Value.int IntKind.i64 (Int.negSucc (nat_lit 76) - (↑(m + (1 : Nat)) : Int)), Value.int IntKind.i64 (Int.negSucc (nat_lit 76) - (↑(m + (1 : Nat) + (1 : Nat)) : Int))])) m) ≤ (1000 : Nat), nzN
 (List.take m (List.take m ys ++ [Value.int IntKind.i64 (Int.negSucc (nat_lit 76) - (↑m : Int)), Value.int IntKind.i64 (Int.negSucc (nat_lit 76) - (↑(m + (1 : Nat)) : Int)), Value.int IntKind.i64 (Int.negSucc (nat_lit 76)
 - (↑(m + (1 : Nat) + (1 : Nat)) : Int))])) (0 : Nat) (avLen (Av.sl (List.take m (List.take m ys ++ [Value.int IntKind.i64 (Int.negSucc (nat_lit 76) - (↑m : Int)), Value.int IntKind.i64 (Int.negSucc (nat_lit 76) - (↑(m +
 (1 : Nat)) : Int)), Value.int IntKind.i64 (Int.negSucc (nat_lit 76) - (↑(m + (1 : Nat) + (1 : Nat)) : Int))])) m)) = (0 : Nat), m ≤ d ∧ d ≤ (9223372036854775807 : Nat), m ≤ List.length ys, Fl (List.take m ys), Ints
 IntKind.i64 (List.take m ys), m ≤ (1000 : Nat), nzN (List.take m ys) (0 : Nat) m = (0 : Nat), Ints IntKind.i64 [], ([] : List Value) = [], (0 : Nat) = (0 : Nat), false = false, n + (3 : Nat) ≤ (9223372036854775807 : Nat),
 n + (3 : Nat) ≤ List.length (List.take n xs ++ [Value.bool ((↑(n % (2 : Nat)) : Int) == (0 : Int)), Value.bool ((↑((n + (1 : Nat)) % (2 : Nat)) : Int) == (0 : Int)), Value.bool ((↑((n + (1 : Nat) + (1 : Nat)) % (2 : Nat))
 : Int) == (0 : Int))]), Fl (List.take (n + (3 : Nat)) (List.take n xs ++ [Value.bool ((↑(n % (2 : Nat)) : Int) == (0 : Int)), Value.bool ((↑((n + (1 : Nat)) % (2 : Nat)) : Int) == (0 : Int)), Value.bool ((↑((n + (1 : Nat)
 + (1 : Nat)) % (2 : Nat)) : Int) == (0 : Int))])), n ≤ c ∧ c ≤ (9223372036854775807 : Nat), n ≤ List.length xs, Fl (List.take n xs), List.take (n + (3 : Nat)) (List.take n xs ++ [Value.bool ((↑(n % (2 : Nat)) : Int) == (0
 : Int)), Value.bool ((↑((n + (1 : Nat)) % (2 : Nat)) : Int) == (0 : Int)), Value.bool ((↑((n + (1 : Nat) + (1 : Nat)) % (2 : Nat)) : Int) == (0 : Int))]) = List.take n xs ++ [Value.bool ((↑(n % (2 : Nat)) : Int) == (0 :
 Int)), Value.bool ((↑((n + (1 : Nat)) % (2 : Nat)) : Int) == (0 : Int)), Value.bool ((↑((n + (1 : Nat) + (1 : Nat)) % (2 : Nat)) : Int) == (0 : Int))], okB (List.take n xs) n, n = n, n + (3 : Nat) = n + (3 : Nat), n ≤
 (1000000 : Nat), true = true, m + (3 : Nat) ≤ (9223372036854775807 : Nat), m + (3 : Nat) ≤ List.length (List.take m ys ++ [Value.int IntKind.i64 (Int.negSucc (nat_lit 76) - (↑m : Int)), Value.int IntKind.i64 (Int.negSucc
 (nat_lit 76) - (↑(m + (1 : Nat)) : Int)), Value.int IntKind.i64 (Int.negSucc (nat_lit 76) - (↑(m + (1 : Nat) + (1 : Nat)) : Int))]), Fl (List.take (m + (3 : Nat)) (List.take m ys ++ [Value.int IntKind.i64 (Int.negSucc
 (nat_lit 76) - (↑m : Int)), Value.int IntKind.i64 (Int.negSucc (nat_lit 76) - (↑(m + (1 : Nat)) : Int)), Value.int IntKind.i64 (Int.negSucc (nat_lit 76) - (↑(m + (1 : Nat) + (1 : Nat)) : Int))])), m ≤ d ∧ d ≤
 (9223372036854775807 : Nat), m ≤ List.length ys, Fl (List.take m ys), List.take (m + (3 : Nat)) (List.take m ys ++ [Value.int IntKind.i64 (Int.negSucc (nat_lit 76) - (↑m : Int)), Value.int IntKind.i64 (Int.negSucc
 (nat_lit 76) - (↑(m + (1 : Nat)) : Int)), Value.int IntKind.i64 (Int.negSucc (nat_lit 76) - (↑(m + (1 : Nat) + (1 : Nat)) : Int))]) = List.take m ys ++ [Value.int IntKind.i64 (Int.negSucc (nat_lit 76) - (↑m : Int)),
 Value.int IntKind.i64 (Int.negSucc (nat_lit 76) - (↑(m + (1 : Nat)) : Int)), Value.int IntKind.i64 (Int.negSucc (nat_lit 76) - (↑(m + (1 : Nat) + (1 : Nat)) : Int))], okI (List.take m ys) m, m = m, m + (3 : Nat) = m + (3
 : Nat), m ≤ (1000000 : Nat), true = true]) := by kernel_rfl
theorem cc_ss_xfw (xs ys : List Value) (n m c d : Nat) : prjV (runZ ccV Try.prog 5 6 [.slice (some ⟨0, 0, none⟩) n c, .slice (some ⟨1, 0, none⟩) m d] [(0, ⟨.old, xs⟩), (1, ⟨.old, ys⟩)] 2 ([false, false] ++ [true] ++ [true] ++ [false, false] ++ [false, false] ++ [false] ++ [false, false] ++ [false, true, true])) =
  Res.ok (Value.bool true, [], [decide ((↑n : Int) > (200 : Int)) = false, (bif false then true else decide ((↑m : Int) > (200 : Int))) = false, n ≤ c ∧ c ≤ (9223372036854775807 : Nat), n ≤ List.length xs, Fl (List.take n
 xs), okB (List.take n xs) n, n ≤ (1000000 : Nat), m ≤ d ∧ d ≤ (9223372036854775807 : Nat), m ≤ List.length ys, Fl (List.take m ys), okI (List.take m ys) m, m ≤ (1000000 : Nat), n ≤ n + (3 : Nat) ∧ n + (3 : Nat) ≤
 (9223372036854775807 : Nat), n ≤ List.length (List.take n xs ++ [Value.bool ((↑(n % (2 : Nat)) : Int) == (0 : Int)), Value.bool ((↑((n + (1 : Nat)) % (2 : Nat)) : Int) == (0 : Int)), Value.bool ((↑((n + (1 : Nat) + (1 :
 Nat)) % (2 : Nat)) : Int) == (0 : Int))]), Fl (List.take n (List.take n xs ++ [Value.bool ((↑(n % (2 : Nat)) : Int) == (0 : Int)), Value.bool ((↑((n + (1 : Nat)) % (2 : Nat)) : Int) == (0 : Int)), Value.bool ((↑((n + (1 :
 Nat) + (1 : Nat)) % (2 : Nat)) : Int) == (0 : Int))])), m ≤ m + (3 : Nat) ∧ m + (3 : Nat) ≤ (9223372036854775807 : Nat), m ≤ List.length (List.take m ys ++ [Value.int IntKind.i64 (Int.negSucc (nat_lit 76) - (↑m : Int)),
 Value.int IntKind.i64 (Int.negSucc (nat_lit 76) - (↑(m + (1 : Nat)) : Int)), Value.int IntKind.i64 (Int.negSucc (nat_lit 76) - (↑(m + (1 : Nat) + (1 : Nat)) : Int))]), Fl (List.take m (List.take m ys ++ [Value.int
 IntKind.i64 (Int.negSucc (nat_lit 76) - (↑m : Int)), Value.int IntKind.i64 (Int.negSucc (nat_lit 76) - (↑(m + (1 : Nat)) : Int)), Value.int IntKind.i64 (Int.negSucc (nat_lit 76) - (↑(m + (1 : Nat) + (1 : Nat)) : Int))])),
 avLen (Av.sl (List.take n (List.take n xs ++ [Value.bool ((↑(n % (2 : Nat)) : Int) == (0 : Int)), Value.bool ((↑((n + (1 : Nat)) % (2 : Nat)) : Int) == (0 : Int)), Value.bool ((↑((n + (1 : Nat) + (1 : Nat)) % (2 : Nat)) :
 Int) == (0 : Int))])) n) ≠ avLen (Av.sl (List.take m (List.take m ys ++ [Value.int IntKind.i64 (Int.negSucc (nat_lit 76) - (↑m : Int)), Value.int IntKind.i64 (Int.negSucc (nat_lit 76) - (↑(m + (1 : Nat)) : Int)),
 Value.int IntKind.i64 (Int.negSucc (nat_lit 76) - (↑(m + (1 : Nat) + (1 : Nat)) : Int))])) m), n ≤ c ∧ c ≤ (9223372036854775807 : Nat), n ≤ List.length xs, Fl (List.take n xs), m ≤ d ∧ d ≤ (9223372036854775807 : Nat), m ≤
 List.length ys, Fl (List.take m ys), n ≠ m, okI [] (0 : Nat), ([] : List Value) = [], (0 : Nat) = (0 : Nat), false = false, false = false, n ≤ n + (3 : Nat) ∧ n + (3 : Nat) ≤ (9223372036854775807 : Nat), n ≤ List.length
 (List.take n xs ++ [Value.bool ((↑(n % (2 : Nat)) : Int) == (0 : Int)), Value.bool ((↑((n + (1 : Nat)) % (2 : Nat)) : Int) == (0 : Int)), Value.bool ((↑((n + (1 : Nat) + (1 : Nat)) % (2 : Nat)) : Int) == (0 : Int))]), Fl
 (List.take n (List.take n xs ++ [Value.bool ((↑(n % (2 : Nat)) : Int) == (0 : Int)), Value.bool ((↑((n + (1 : Nat)) % (2 : Nat)) : Int) == (0 : Int)), Value.bool ((↑((n + (1 : Nat) + (1 : Nat)) % (2 : Nat)) : Int) == (0 :
 Int))])), (0 : Nat) < avLen (Av.sl (List.take n (List.take n xs ++ [Value.bool ((↑(n % (2 : Nat)) : Int) == (0 : Int)), Value.bool ((↑((n + (1 : Nat)) % (2 : Nat)) : Int) == (0 : Int)), Value.bool ((↑((n + (1 : Nat) + (1
 : Nat)) % (2 : Nat)) : Int) == (0 : Int))])) n), avLen (Av.sl (List.take n (List.take n xs ++ [Value.bool ((↑(n % (2 : Nat)) : Int) == (0 : Int)), Value.bool ((↑((n + (1 : Nat)) % (2 : Nat)) : Int) == (0 : Int)),
 Value.bool ((↑((n + (1 : Nat) + (1 : Nat)) % (2 : Nat)) : Int) == (0 : Int))])) n) ≤ (1000 : Nat), Bols (List.take n (List.take n xs ++ [Value.bool ((↑(n % (2 : Nat)) : Int) == (0 : Int)), Value.bool ((↑((n + (1 : Nat)) %
 (2 : Nat)) : Int) == (0 : Int)), Value.bool ((↑((n + (1 : Nat) + (1 : Nat)) % (2 : Nat)) : Int) == (0 : Int))])), n ≤ c ∧ c ≤ (9223372036854775807 : Nat), n ≤ List.length xs, Fl (List.take n xs), (0 : Nat) < n, n ≤ (1000
 : Nat), Bols (List.take n xs), capBig + (4 : Nat) = capBig + (4 : Nat), spN (List.take n (List.take n xs ++ [Value.bool ((↑(n % (2 : Nat)) : Int) == (0 : Int)), Value.bool ((↑((n + (1 : Nat)) % (2 : Nat)) : Int) == (0 :
 Int)), Value.bool ((↑((n + (1 : Nat) + (1 : Nat)) % (2 : Nat)) : Int) == (0 : Int))])) ≤ spN (List.take n (List.take n xs ++ [Value.bool ((↑(n % (2 : Nat)) : Int) == (0 : Int)), Value.bool ((↑((n + (1 : Nat)) % (2 : Nat))
 : Int) == (0 : Int)), Value.bool ((↑((n + (1 : Nat) + (1 : Nat)) % (2 : Nat)) : Int) == (0 : Int))])), spN (List.take n (List.take n xs ++ [Value.bool ((↑(n % (2 : Nat)) : Int) == (0 : Int)), Value.bool ((↑((n + (1 :
 Nat)) % (2 : Nat)) : Int) == (0 : Int)), Value.bool ((↑((n + (1 : Nat) + (1 : Nat)) % (2 : Nat)) : Int) == (0 : Int))])) * (3 : Nat) ≤ List.length (spL (List.take n (List.take n xs ++ [Value.bool ((↑(n % (2 : Nat)) : Int)
 == (0 : Int)), Value.bool ((↑((n + (1 : Nat)) % (2 : Nat)) : Int) == (0 : Int)), Value.bool ((↑((n + (1 : Nat) + (1 : Nat)) % (2 : Nat)) : Int) == (0 : Int))]))), Fl (List.take (spN (List.take n (List.take n xs ++
 [Value.bool ((↑(n % (2 : Nat)) : Int) == (0 : Int)), Value.bool ((↑((n + (1 : Nat)) % (2 : Nat)) : Int) == (0 : Int)), Value.bool ((↑((n + (1 : Nat) + (1 : Nat)) % (2 : Nat)) : Int) == (0 : Int))])) * (3 : Nat)) (spL
 (List.take n (List.take n xs ++ [Value.bool ((↑(n % (2 : Nat)) : Int) == (0 : Int)), Value.bool ((↑((n + (1 : Nat)) % (2 : Nat)) : Int) == (0 : Int)), Value.bool ((↑((n + (1 : Nat) + (1 : Nat)) % (2 : Nat)) : Int) == (0 :
 Int))])))), capBig + (5 : Nat) = capBig + (5 : Nat), spN (List.take n xs) * (3 : Nat) ≤ List.length (spL (List.take n xs)), (0 : Nat) < (3 : Nat), spN (List.take n xs) * (3 : Nat) ≤ List.length (spL (List.take n xs)), Fl
 (List.take (spN (List.take n xs) * (3 : Nat)) (spL (List.take n xs))), okS (List.take (spN (List.take n (List.take n xs ++ [Value.bool ((↑(n % (2 : Nat)) : Int) == (0 : Int)), Value.bool ((↑((n + (1 : Nat)) % (2 : Nat)) :
 Int) == (0 : Int)), Value.bool ((↑((n + (1 : Nat) + (1 : Nat)) % (2 : Nat)) : Int) == (0 : Int))])) * (3 : Nat)) (spL (List.take n (List.take n xs ++ [Value.bool ((↑(n % (2 : Nat)) : Int) == (0 : Int)), Value.bool ((↑((n
 + (1 : Nat)) % (2 : Nat)) : Int) == (0 : Int)), Value.bool ((↑((n + (1 : Nat) + (1 : Nat)) % (2 : Nat)) : Int) == (0 : Int))])))) (avLen (Av.sl (List.take (spN (List.take n (List.take n xs ++ [Value.bool ((↑(n % (2 :
 Nat)) : Int) == (0 : Int)), Value.bool ((↑((n + (1 : Nat)) % (2 : Nat)) : Int) == (0 : Int)), Value.bool ((↑((n + (1 : Nat) + (1 : Nat)) % (2 : Nat)) : Int) == (0 : Int))])) * (3 : Nat)) (spL (List.take n (List.take n xs
 ++ [Value.bool ((↑(n % (2 : Nat)) : Int) == (0 : Int)), Value.bool ((↑((n + (1 : Nat)) % (2 : Nat)) : Int) == (0 : Int)), Value.bool ((↑((n + (1 : Nat) + (1 : Nat)) % (2 : Nat)) : Int) == (0 : Int))])))) (spN (List.take n
 (List.take n xs ++ [Value.bool ((↑(n % (2 : Nat)) : Int) == (0 : Int)), Value.bool ((↑((n + (1 : Nat)) % (2 : Nat)) : Int) == (0 : Int)), Value.bool ((↑((n + (1 : Nat) + (1 : Nat)) % (2 : Nat)) : Int) == (0 : Int))]))))),
 List.take (spN (List.take n xs) * (3 : Nat)) (spL (List.take n xs)) = List.take (spN (List.take n (List.take n xs ++ [Value.bool ((↑(n % (2 : Nat)) : Int) == (0 : Int)), Value.bool ((↑((n + (1 : Nat)) % (2 : Nat)) : Int)
 == (0 : Int)), Value.bool ((↑((n + (1 : Nat) + (1 : Nat)) % (2 : Nat)) : Int) == (0 : Int))])) * (3 : Nat)) (spL (List.take n (List.take n xs ++ [Value.bool ((↑(n % (2 : Nat)) : Int) == (0 : Int)), Value.bool ((↑((n + (1
 : Nat)) % (2 : Nat)) : Int) == (0 : Int)), Value.bool ((↑((n + (1 : Nat) + (1 : Nat)) % (2 : Nat)) : Int) == (0 : Int))]))), avLen (Av.sl (List.take (spN (List.take n xs) * (3 : Nat)) (spL (List.take n xs))) (spN
 (List.take n xs))) = avLen (Av.sl (List.take (spN (List.take n (List.take n xs ++ [Value.bool ((↑(n % (2 : Nat)) : Int) == (0 : Int)), Value.bool ((↑((n + (1 : Nat)) % (2 : Nat)) : Int) == (0 : Int)), Value.bool ((↑((n +
 (1 : Nat) + (1 : Nat)) % (2 : Nat)) : Int) == (0 : Int))])) * (3 : Nat)) (spL (List.take n (List.take n xs ++ [Value.bool ((↑(n % (2 : Nat)) : Int) == (0 : Int)), Value.bool ((↑((n + (1 : Nat)) % (2 : Nat)) : Int) == (0 :
 Int)), Value.bool ((↑((n + (1 : Nat) + (1 : Nat)) % (2 : Nat)) : Int) == (0 : Int))])))) (spN (List.take n (List.take n xs ++ [Value.bool ((↑(n % (2 : Nat)) : Int) == (0 : Int)), Value.bool ((↑((n + (1 : Nat)) % (2 :
 Nat)) : Int) == (0 : Int)), Value.bool ((↑((n + (1 : Nat) + (1 : Nat)) % (2 : Nat)) : Int) == (0 : Int))])))), false = false, m ≤ m + (3 : Nat) ∧ m + (3 : Nat) ≤ (9223372036854775807 : Nat), m ≤ List.length (List.take m
 ys ++ [Value.int IntKind.i64 (Int.negSucc (nat_lit 76) - (↑m : Int)), Value.int IntKind.i64 (Int.negSucc (nat_lit 76) - (↑(m + (1 : Nat)) : Int)), Value.int IntKind.i64 (Int.negSucc (nat_lit 76) - (↑(m + (1 : Nat) + (1 :
 Nat)) : Int))]), Fl (List.take m (List.take m ys ++ [Value.int IntKind.i64 (Int.negSucc (nat_lit 76) - (↑m : Int)), Value.int IntKind.i64 (Int.negSucc (nat_lit 76) - (↑(m + (1 : Nat)) : Int)), Value.int IntKind.i64
 (Int.negSucc (nat_lit 76) - (↑(m + (1 : Nat) + (1 : Nat)) : Int))])), Ints IntKind.i64 (List.take m (List.take m ys ++ [Value.int IntKind.i64 (Int.negSucc (nat_lit 76) - (↑m : Int)), Value.int IntKind.i64 (Int.negSucc
 (nat_lit 76) - (↑(m + (1 : Nat)) : Int)), Value.int IntKind.i64 (Int.negSucc (nat_lit 76) - (↑(m + (1 : Nat) + (1 : Nat)) : Int))])), avLen (Av.sl (List.take m (List.take m ys ++ [Value.int IntKind.i64 (Int.negSucc
 (nat_lit 76) - (↑m : Int)), Value.int IntKind.i64 (Int.negSucc (nat_lit 76) - (↑(m + (1 : Nat)) : Int)), Value.int IntKind.i64 (Int.negSucc (nat_lit 76) - (↑(m + (1 : Nat) + (1 : Nat)) : Int))])) m) ≤ (1000 : Nat), nzN
 (List.take m (List.take m ys ++ [Value.int IntKind.i64 (Int.negSucc (nat_lit 76) - (↑m : Int)), Value.int IntKind.i64 (Int.negSucc (nat_lit 76) - (↑(m + (1 : Nat)) : Int)), Value.int IntKind.i64 (Int.negSucc (nat_lit 76)
 - (↑(m + (1 : Nat) + (1 : Nat)) : Int))])) (0 : Nat) (avLen (Av.sl (List.take m (List.take m ys ++ [Value.int IntKind.i64 (Int.negSucc (nat_lit 76) - (↑m : Int)), Value.int IntKind.i64 (Int.negSucc (nat_lit 76) - (↑(m +
 (1 : Nat)) : Int)), Value.int IntKind.i64 (Int.negSucc (nat_lit 76) - (↑(m + (1 : Nat) + (1 : Nat)) : Int))])) m)) ≠ (0 : Nat), m ≤ d ∧ d ≤ (9223372036854775807 : Nat), m ≤ List.length ys, Fl (List.take m ys), Ints
 IntKind.i64 (List.take m ys), m ≤ (1000 : Nat), nzN (List.take m ys) (0 : Nat) m ≠ (0 : Nat), capBig + (6 : Nat) = capBig + (6 : Nat), nzN (List.take m (List.take m ys ++ [Value.int IntKind.i64 (Int.negSucc (nat_lit 76) -
 (↑m : Int)), Value.int IntKind.i64 (Int.negSucc (nat_lit 76) - (↑(m + (1 : Nat)) : Int)), Value.int IntKind.i64 (Int.negSucc (nat_lit 76) - (↑(m + (1 : Nat) + (1 : Nat)) : Int))])) (0 : Nat) (avLen (Av.sl (List.take m
 (List.take m ys ++ [Value.int IntKind.i64 (Int.negSucc (nat_lit 76) - (↑m : Int)), Value.int IntKind.i64 (Int.negSucc (nat_lit 76) - (↑(m + (1 : Nat)) : Int)), Value.int IntKind.i64 (Int.negSucc (nat_lit 76) - (↑(m + (1 :
 Nat) + (1 : Nat)) : Int))])) m)) * (2 : Nat) ≤ List.length (nzL (List.take m (List.take m ys ++ [Value.int IntKind.i64 (Int.negSucc (nat_lit 76) - (↑m : Int)), Value.int IntKind.i64 (Int.negSucc (nat_lit 76) - (↑(m + (1 :
 Nat)) : Int)), Value.int IntKind.i64 (Int.negSucc (nat_lit 76) - (↑(m + (1 : Nat) + (1 : Nat)) : Int))])) (0 : Nat) (avLen (Av.sl (List.take m (List.take m ys ++ [Value.int IntKind.i64 (Int.negSucc (nat_lit 76) - (↑m :
 Int)), Value.int IntKind.i64 (Int.negSucc (nat_lit 76) - (↑(m + (1 : Nat)) : Int)), Value.int IntKind.i64 (Int.negSucc (nat_lit 76) - (↑(m + (1 : Nat) + (1 : Nat)) : Int))])) m))), (0 : Nat) < (2 : Nat), nzN (List.take m
 (List.take m ys ++ [Value.int IntKind.i64 (Int.negSucc (nat_lit 76) - (↑m : Int)), Value.int IntKind.i64 (Int.negSucc (nat_lit 76) - (↑(m + (1 : Nat)) : Int)), Value.int IntKind.i64 (Int.negSucc (nat_lit 76) - (↑(m + (1 :
 Nat) + (1 : Nat)) : Int))])) (0 : Nat) (avLen (Av.sl (List.take m (List.take m ys ++ [Value.int IntKind.i64 (Int.negSucc (nat_lit 76) - (↑m : Int)), Value.int IntKind.i64 (Int.negSucc (nat_lit 76) - (↑(m + (1 : Nat)) :
 Int)), Value.int IntKind.i64 (Int.negSucc (nat_lit 76) - (↑(m + (1 : Nat) + (1 : Nat)) : Int))])) m)) * (2 : Nat) ≤ List.length (nzL (List.take m (List.take m ys ++ [Value.int IntKind.i64 (Int.negSucc (nat_lit 76) - (↑m :
 Int)), Value.int IntKind.i64 (Int.negSucc (nat_lit 76) - (↑(m + (1 : Nat)) : Int)), Value.int IntKind.i64 (Int.negSucc (nat_lit 76) - (↑(m + (1 : Nat) + (1 : Nat)) : Int))])) (0 : Nat) (avLen (Av.sl (List.take m
 (List.take m ys ++ [Value.int IntKind.i64 (Int.negSucc (nat_lit 76) - (↑m : Int)), Value.int IntKind.i64 (Int.negSucc (nat_lit 76) - (↑(m + (1 : Nat)) : Int)), Value.int IntKind.i64 (Int.negSucc (nat_lit 76) - (↑(m + (1 :
 Nat) + (1 : Nat)) : Int))])) m))), Fl (List.take (nzN (List.take m (List.take m ys ++ [Value.int IntKind.i64 (Int.negSucc (nat_lit 76) - (↑m : Int)), Value.int IntKind.i64 (Int.negSucc (nat_lit 76) - (↑(m + (1 : Nat)) :
 Int)), Value.int IntKind.i64 (Int.negSucc (nat_lit 76) - (↑(m + (1 : Nat) + (1 : Nat)) : Int))])) (0 : Nat) (avLen (Av.sl (List.take m (List.take m ys ++ [Value.int IntKind.i64 (Int.negSucc (nat_lit 76) - (↑m : Int)),
 Value.int IntKind.i64 (Int.negSucc (nat_lit 76) - (↑(m + (1 : Nat)) : Int)), Value.int IntKind.i64 (Int.negSucc (nat_lit 76) - (↑(m + (1 : Nat) + (1 : Nat)) : Int))])) m)) * (2 : Nat)) (nzL (List.take m (List.take m ys ++
 [Value.int IntKind.i64 (Int.negSucc (nat_lit 76) - (↑m : Int)), Value.int IntKind.i64 (Int.negSucc (nat_lit 76) - (↑(m + (1 : Nat)) : Int)), Value.int IntKind.i64 (Int.negSucc (nat_lit 76) - (↑(m + (1 : Nat) + (1 : Nat))
 : Int))])) (0 : Nat) (avLen (Av.sl (List.take m (List.take m ys ++ [Value.int IntKind.i64 (Int.negSucc (nat_lit 76) - (↑m : Int)), Value.int IntKind.i64 (Int.negSucc (nat_lit 76) - (↑(m + (1 : Nat)) : Int)), Value.int
 IntKind.i64 (Int.negSucc (nat_lit 76) - (↑(m + (1 : Nat) + (1 : Nat)) : Int))])) m)))), capBig + (7 : Nat) = capBig + (7 : Nat), nzN (List.take m ys) (0 : Nat) m * (2 : Nat) ≤ List.length (nzL (List.take m ys) (0 : Nat)
 m), (0 : Nat) < (2 : Nat), nzN (List.take m ys) (0 : Nat) m * (2 : Nat) ≤ List.length (nzL (List.take m ys) (0 : Nat) m), Fl (List.take (nzN (List.take m ys) (0 : Nat) m * (2 : Nat)) (nzL (List.take m ys) (0 : Nat) m)),
 Ints IntKind.i64 (List.take (nzN (List.take m (List.take m ys ++ [Value.int IntKind.i64 (Int.negSucc (nat_lit 76) - (↑m : Int)), Value.int IntKind.i64 (Int.negSucc (nat_lit 76) - (↑(m + (1 : Nat)) : Int)), Value.int
 IntKind.i64 (Int.negSucc (nat_lit 76) - (↑(m + (1 : Nat) + (1 : Nat)) : Int))])) (0 : Nat) (avLen (Av.sl (List.take m (List.take m ys ++ [Value.int IntKind.i64 (Int.negSucc (nat_lit 76) - (↑m : Int)), Value.int
 IntKind.i64 (Int.negSucc (nat_lit 76) - (↑(m + (1 : Nat)) : Int)), Value.int IntKind.i64 (Int.negSucc (nat_lit 76) - (↑(m + (1 : Nat) + (1 : Nat)) : Int))])) m)) * (2 : Nat)) (nzL (List.take m (List.take m ys ++
 [Value.int IntKind.i64 (Int.negSucc (nat_lit 76) - (↑m : Int)), Value.int IntKind.i64 (Int.negSucc (nat_lit 76) - (↑(m + (1 : Nat)) : Int)), Value.int IntKind.i64 (Int.negSucc (nat_lit 76) - (↑(m + (1 : Nat) + (1 : Nat))
 : Int))])) (0 : Nat) (avLen (Av.sl (List.take m (List.take m ys ++ [Value.int IntKind.i64 (Int.negSucc (nat_lit 76) - (↑m : Int)), Value.int IntKind.i64 (Int.negSucc (nat_lit 76) - (↑(m + (1 : Nat)) : Int)), Value.int
 IntKind.i64 (Int.negSucc (nat_lit 76) - (↑(m + (1 : Nat) + (1 : Nat)) : Int))])) m)))), List.take (nzN (List.take m ys) (0 : Nat) m * (2 : Nat)) (nzL (List.take m ys) (0 : Nat) m) = List.take (nzN (List.take m (List.take
 m ys ++ [Value.int IntKind.i64 (Int.negSucc (nat_lit 76) - (↑m : Int)), Value.int IntKind.i64 (Int.negSucc (nat_lit 76) - (↑(m + (1 : Nat)) : Int)), Value.int IntKind.i64 (Int.negSucc (nat_lit 76) - (↑(m + (1 : Nat) + (1
 : Nat)) : Int))])) (0 : Nat) (avLen (Av.sl (List.take m (List.take m ys ++ [Value.int IntKind.i64 (Int.negSucc (nat_lit 76) - (↑m : Int)), Value.int IntKind.i64 (Int.negSucc (nat_lit 76) - (↑(m + (1 : Nat)) : Int)),
 Value.int IntKind.i64 (Int.negSucc (nat_lit 76) - (↑(m + (1 : Nat) + (1 : Nat)) : Int))])) m)) * (2 : Nat)) (nzL (List.take m (List.take m ys ++ [Value.int IntKind.i64 (Int.negSucc (nat_lit 76) - (↑m : Int)), Value.int
 IntKind.i64 (Int.negSucc (nat_lit 76) - (↑(m + (1 : Nat)) : Int)), Value.int IntKind.i64 (Int.negSucc (nat_lit 76) - (↑(m + (1 : Nat) + (1 : Nat)) : Int))])) (0 : Nat) (avLen (Av.sl (List.take m (List.take m ys ++
 [Value.int IntKind.i64 (Int.negSucc (nat_lit 76) - (↑m : Int)), Value.int IntKind.i64 (Int.negSucc (nat_lit 76) - (↑(m + (1 : Nat)) : Int)), Value.int IntKind.i64 (Int.negSucc (nat_lit 76) - (↑(m + (1 : Nat) + (1 : Nat))
 : Int))])) m))), avLen (Av.sl (List.take (nzN (List.take m ys) (0 : Nat) m * (2 : Nat)) (nzL (List.take m ys) (0 : Nat) m)) (nzN (List.take m ys) (0 : Nat) m)) = avLen (Av.sl (List.take (nzN (List.take m (List.take m ys
 ++ [Value.int IntKind.i64 (Int.negSucc (nat_lit 76) - (↑m : Int)), Value.int IntKind.i64 (Int.negSucc (nat_lit 76) - (↑(m + (1 : Nat)) : Int)), Value.int IntKind.i64 (Int.negSucc (nat_lit 76) - (↑(m + (1 : Nat) + (1 :
 Nat)) : Int))])) (0 : Nat) (avLen (Av.sl (List.take m (List.take m ys ++ [Value.int IntKind.i64 (Int.negSucc (nat_lit 76) - (↑m : Int)), Value.int IntKind.i64 (Int.negSucc (nat_lit 76) - (↑(m + (1 : Nat)) : Int)),
 Value.int IntKind.i64 (Int.negSucc (nat_lit 76) - (↑(m + (1 : Nat) + (1 : Nat)) : Int))])) m)) * (2 : Nat)) (nzL (List.take m (List.take m ys ++ [Value.int IntKind.i64 (Int.negSucc (nat_lit 76) - (↑m : Int)), Value.int
 IntKind.i64 (Int.negSucc (nat_lit 76) - (↑(m + (1 : Nat)) : Int)), Value.int IntKind.i64 (Int.negSucc (nat_lit 76) - (↑(m + (1 : Nat) + (1 : Nat)) : Int))])) (0 : Nat) (avLen (Av.sl (List.take m (List.take m ys ++
 [Value.int IntKind.i64 (Int.negSucc (nat_lit 76) - (↑m : Int)), Value.int IntKind.i64 (Int.negSucc (nat_lit 76) - (↑(m + (1 : Nat)) : Int)), Value.int IntKind.i64 (Int.negSucc (nat_lit 76) - (↑(m + (1 : Nat) + (1 : Nat))
 : Int))])) m)))) (nzN (List.take m (List.take m ys ++ [Value.int IntKind.i64 (Int.negSucc (nat_lit 76) - (↑m : Int)), Value.int IntKind.i64 (Int.negSucc (nat_lit 76) - (↑(m + (1 : Nat)) : Int)), Value.int IntKind.i64
 (Int.negSucc (nat_lit 76) - (↑(m + (1 : Nat) + (1 : Nat)) : Int))])) (0 : Nat) (avLen (Av.sl (List.take m (List.take m ys ++ [Value.int IntKind.i64 (Int.negSucc (nat_lit 76) - (↑m : Int)), Value.int IntKind.i64
 (Int.negSucc (nat_lit 76) - (↑(m + (1 : Nat)) : Int)), Value.int IntKind.i64 (Int.negSucc (nat_lit 76) - (↑(m + (1 : Nat) + (1 : Nat)) : Int))])) m)))), false = false, n + (3 : Nat) ≤ (9223372036854775807 : Nat), n + (3 :
 Nat) ≤ List.length (List.take n xs ++ [Value.bool ((↑(n % (2 : Nat)) : Int) == (0 : Int)), Value.bool ((↑((n + (1 : Nat)) % (2 : Nat)) : Int) == (0 : Int)), Value.bool ((↑((n + (1 : Nat) + (1 : Nat)) % (2 : Nat)) : Int)
 == (0 : Int))]), Fl (List.take (n + (3 : Nat)) (List.take n xs ++ [Value.bool ((↑(n % (2 : Nat)) : Int) == (0 : Int)), Value.bool ((↑((n + (1 : Nat)) % (2 : Nat)) : Int) == (0 : Int)), Value.bool ((↑((n + (1 : Nat) + (1 :
 Nat)) % (2 : Nat)) : Int) == (0 : Int))])), n ≤ c ∧ c ≤ (9223372036854775807 : Nat), n ≤ List.length xs, Fl (List.take n xs), List.take (n + (3 : Nat)) (List.take n xs ++ [Value.bool ((↑(n % (2 : Nat)) : Int) == (0 :
 Int)), Value.bool ((↑((n + (1 : Nat)) % (2 : Nat)) : Int) == (0 : Int)), Value.bool ((↑((n + (1 : Nat) + (1 : Nat)) % (2 : Nat)) : Int) == (0 : Int))]) = List.take n xs ++ [Value.bool ((↑(n % (2 : Nat)) : Int) == (0 :
 Int)), Value.bool ((↑((n + (1 : Nat)) % (2 : Nat)) : Int) == (0 : Int)), Value.bool ((↑((n + (1 : Nat) + (1 : Nat)) % (2 : Nat)) : Int) == (0 : Int))], okB (List.take n xs) n, n = n, n + (3 : Nat) = n + (3 : Nat), n ≤
 (1000000 : Nat), true = true, m + (3 : Nat) ≤ (9223372036854775807 : Nat), m + (3 : Nat) ≤ List.length (List.take m ys ++ [Value.int IntKind.i64 (Int.negSucc (nat_lit 76) - (↑m : Int)), Value.int IntKind.i64 (Int.negSucc
 (nat_lit 76) - (↑(m + (1 : Nat)) : Int)), Value.int IntKind.i64 (Int.negSucc (nat_lit 76) - (↑(m + (1 : Nat) + (1 : Nat)) : Int))]), Fl (List.take (m + (3 : Nat)) (List.take m ys ++ [Value.int IntKind.i64 (Int.negSucc
 (nat_lit 76) - (↑m : Int)), Value.int IntKind.i64 (Int.negSucc (nat_lit 76) - (↑(m + (1 : Nat)) : Int)), Value.int IntKind.i64 (Int.negSucc (nat_lit 76) - (↑(m + (1 : Nat) + (1 : Nat)) : Int))])), m ≤ d ∧ d ≤
 (9223372036854775807 : Nat), m ≤ List.length ys, Fl (List.take m ys), List.take (m + (3 : Nat)) (List.take m ys ++ [Value.int IntKind.i64 (Int.negSucc (nat_lit 76) - (↑m : Int)), Value.int IntKind.i64 (Int.negSucc
 (nat_lit 76) - (↑(m + (1 : Nat)) : Int)), Value.int IntKind.i64 (Int.negSucc (nat_lit 76) - (↑(m + (1 : Nat) + (1 : Nat)) : Int))]) = List.take m ys ++ [Value.int IntKind.i64 (Int.negSucc (nat_lit 76) - (↑m : Int)),
 Value.int IntKind.i64 (Int.negSucc (nat_lit 76) - (↑(m + (1 : Nat)) : Int)), Value.int IntKind.i64 (Int.negSucc (nat_lit 76) - (↑(m + (1 : Nat) + (1 : Nat)) : Int))], okI (List.take m ys) m, m = m, m + (3 : Nat) = m + (3
 : Nat), m ≤ (1000000 : Nat), true = true]) := by kernel_rfl
theorem cc_ss_qz (xs ys : List Value) (n m c d : Nat) : prjV (runZ ccV Try.prog 5 6 [.slice (some ⟨0, 0, none⟩) n c, .slice (some ⟨1, 0, none⟩) m d] [(0, ⟨.old, xs⟩), (1, ⟨.old, ys⟩)] 2 ([false, false] ++ [false, false] ++ [false, false] ++ [false, false] ++ [false, false] ++ [false] ++ [true, true] ++ [false, true, true])) =
  Res.ok (Value.bool true, [], [decide ((↑n : Int) > (200 : Int)) = false, (bif false then true else decide ((↑m : Int) > (200 : Int))) = false, n ≤ c ∧ c ≤ (9223372036854775807 : Nat), n ≤ List.length xs, Fl (List.take n
 xs), okB (List.take n xs) n, n ≤ (1000000 : Nat), m ≤ d ∧ d ≤ (9223372036854775807 : Nat), m ≤ List.length ys, Fl (List.take m ys), okI (List.take m ys) m, m ≤ (1000000 : Nat), n ≤ n + (3 : Nat) ∧ n + (3 : Nat) ≤
 (9223372036854775807 : Nat), n ≤ List.length (List.take n xs ++ [Value.bool ((↑(n % (2 : Nat)) : Int) == (0 : Int)), Value.bool ((↑((n + (1 : Nat)) % (2 : Nat)) : Int) == (0 : Int)), Value.bool ((↑((n + (1 : Nat) + (1 :
 Nat)) % (2 : Nat)) : Int) == (0 : Int))]), Fl (List.take n (List.take n xs ++ [Value.bool ((↑(n % (2 : Nat)) : Int) == (0 : Int)), Value.bool ((↑((n + (1 : Nat)) % (2 : Nat)) : Int) == (0 : Int)), Value.bool ((↑((n + (1 :
 Nat) + (1 : Nat)) % (2 : Nat)) : Int) == (0 : Int))])), m ≤ m + (3 : Nat) ∧ m + (3 : Nat) ≤ (9223372036854775807 : Nat), m ≤ List.length (List.take m ys ++ [Value.int IntKind.i64 (Int.negSucc (nat_lit 76) - (↑m : Int)),
 Value.int IntKind.i64 (Int.negSucc (nat_lit 76) - (↑(m + (1 : Nat)) : Int)), Value.int IntKind.i64 (Int.negSucc (nat_lit 76) - (↑(m + (1 : Nat) + (1 : Nat)) : Int))]), Fl (List.take m (List.take m ys ++ [Value.int
 IntKind.i64 (Int.negSucc (nat_lit 76) - (↑m : Int)), Value.int IntKind.i64 (Int.negSucc (nat_lit 76) - (↑(m + (1 : Nat)) : Int)), Value.int IntKind.i64 (Int.negSucc (nat_lit 76) - (↑(m + (1 : Nat) + (1 : Nat)) : Int))])),
 (0 : Nat) < avLen (Av.sl (List.take n (List.take n xs ++ [Value.bool ((↑(n % (2 : Nat)) : Int) == (0 : Int)), Value.bool ((↑((n + (1 : Nat)) % (2 : Nat)) : Int) == (0 : Int)), Value.bool ((↑((n + (1 : Nat) + (1 : Nat)) %
 (2 : Nat)) : Int) == (0 : Int))])) n), avLen (Av.sl (List.take n (List.take n xs ++ [Value.bool ((↑(n % (2 : Nat)) : Int) == (0 : Int)), Value.bool ((↑((n + (1 : Nat)) % (2 : Nat)) : Int) == (0 : Int)), Value.bool ((↑((n
 + (1 : Nat) + (1 : Nat)) % (2 : Nat)) : Int) == (0 : Int))])) n) ≤ (1000 : Nat), avLen (Av.sl (List.take m (List.take m ys ++ [Value.int IntKind.i64 (Int.negSucc (nat_lit 76) - (↑m : Int)), Value.int IntKind.i64
 (Int.negSucc (nat_lit 76) - (↑(m + (1 : Nat)) : Int)), Value.int IntKind.i64 (Int.negSucc (nat_lit 76) - (↑(m + (1 : Nat) + (1 : Nat)) : Int))])) m) = avLen (Av.sl (List.take n (List.take n xs ++ [Value.bool ((↑(n % (2 :
 Nat)) : Int) == (0 : Int)), Value.bool ((↑((n + (1 : Nat)) % (2 : Nat)) : Int) == (0 : Int)), Value.bool ((↑((n + (1 : Nat) + (1 : Nat)) % (2 : Nat)) : Int) == (0 : Int))])) n), Bols (List.take n (List.take n xs ++
 [Value.bool ((↑(n % (2 : Nat)) : Int) == (0 : Int)), Value.bool ((↑((n + (1 : Nat)) % (2 : Nat)) : Int) == (0 : Int)), Value.bool ((↑((n + (1 : Nat) + (1 : Nat)) % (2 : Nat)) : Int) == (0 : Int))])), Ints IntKind.i64
 (List.take m (List.take m ys ++ [Value.int IntKind.i64 (Int.negSucc (nat_lit 76) - (↑m : Int)), Value.int IntKind.i64 (Int.negSucc (nat_lit 76) - (↑(m + (1 : Nat)) : Int)), Value.int IntKind.i64 (Int.negSucc (nat_lit 76)
 - (↑(m + (1 : Nat) + (1 : Nat)) : Int))])), n ≤ c ∧ c ≤ (9223372036854775807 : Nat), n ≤ List.length xs, Fl (List.take n xs), m ≤ d ∧ d ≤ (9223372036854775807 : Nat), m ≤ List.length ys, Fl (List.take m ys), (0 : Nat) <
 n, n ≤ (1000 : Nat), m = n, Bols (List.take n xs), Ints IntKind.i64 (List.take m ys), capBig + (4 : Nat) = capBig + (4 : Nat), avLen (Av.sl (List.take n (List.take n xs ++ [Value.bool ((↑(n % (2 : Nat)) : Int) == (0 :
 Int)), Value.bool ((↑((n + (1 : Nat)) % (2 : Nat)) : Int) == (0 : Int)), Value.bool ((↑((n + (1 : Nat) + (1 : Nat)) % (2 : Nat)) : Int) == (0 : Int))])) n) ≤ avLen (Av.sl (List.take n (List.take n xs ++ [Value.bool ((↑(n
 % (2 : Nat)) : Int) == (0 : Int)), Value.bool ((↑((n + (1 : Nat)) % (2 : Nat)) : Int) == (0 : Int)), Value.bool ((↑((n + (1 : Nat) + (1 : Nat)) % (2 : Nat)) : Int) == (0 : Int))])) n), avLen (Av.sl (List.take n (List.take
 n xs ++ [Value.bool ((↑(n % (2 : Nat)) : Int) == (0 : Int)), Value.bool ((↑((n + (1 : Nat)) % (2 : Nat)) : Int) == (0 : Int)), Value.bool ((↑((n + (1 : Nat) + (1 : Nat)) % (2 : Nat)) : Int) == (0 : Int))])) n) ≤
 List.length (cdL (List.take n (List.take n xs ++ [Value.bool ((↑(n % (2 : Nat)) : Int) == (0 : Int)), Value.bool ((↑((n + (1 : Nat)) % (2 : Nat)) : Int) == (0 : Int)), Value.bool ((↑((n + (1 : Nat) + (1 : Nat)) % (2 :
 Nat)) : Int) == (0 : Int))])) (List.take m (List.take m ys ++ [Value.int IntKind.i64 (Int.negSucc (nat_lit 76) - (↑m : Int)), Value.int IntKind.i64 (Int.negSucc (nat_lit 76) - (↑(m + (1 : Nat)) : Int)), Value.int
 IntKind.i64 (Int.negSucc (nat_lit 76) - (↑(m + (1 : Nat) + (1 : Nat)) : Int))]))), Fl (List.take (avLen (Av.sl (List.take n (List.take n xs ++ [Value.bool ((↑(n % (2 : Nat)) : Int) == (0 : Int)), Value.bool ((↑((n + (1 :
 Nat)) % (2 : Nat)) : Int) == (0 : Int)), Value.bool ((↑((n + (1 : Nat) + (1 : Nat)) % (2 : Nat)) : Int) == (0 : Int))])) n)) (cdL (List.take n (List.take n xs ++ [Value.bool ((↑(n % (2 : Nat)) : Int) == (0 : Int)),
 Value.bool ((↑((n + (1 : Nat)) % (2 : Nat)) : Int) == (0 : Int)), Value.bool ((↑((n + (1 : Nat) + (1 : Nat)) % (2 : Nat)) : Int) == (0 : Int))])) (List.take m (List.take m ys ++ [Value.int IntKind.i64 (Int.negSucc
 (nat_lit 76) - (↑m : Int)), Value.int IntKind.i64 (Int.negSucc (nat_lit 76) - (↑(m + (1 : Nat)) : Int)), Value.int IntKind.i64 (Int.negSucc (nat_lit 76) - (↑(m + (1 : Nat) + (1 : Nat)) : Int))])))), n ≤ n ∧ n ≤
 (9223372036854775807 : Nat), n ≤ List.length (cdL (List.take n xs) (List.take m ys)), Fl (List.take n (cdL (List.take n xs) (List.take m ys))), okI (List.take (avLen (Av.sl (List.take n (List.take n xs ++ [Value.bool
 ((↑(n % (2 : Nat)) : Int) == (0 : Int)), Value.bool ((↑((n + (1 : Nat)) % (2 : Nat)) : Int) == (0 : Int)), Value.bool ((↑((n + (1 : Nat) + (1 : Nat)) % (2 : Nat)) : Int) == (0 : Int))])) n)) (cdL (List.take n (List.take n
 xs ++ [Value.bool ((↑(n % (2 : Nat)) : Int) == (0 : Int)), Value.bool ((↑((n + (1 : Nat)) % (2 : Nat)) : Int) == (0 : Int)), Value.bool ((↑((n + (1 : Nat) + (1 : Nat)) % (2 : Nat)) : Int) == (0 : Int))])) (List.take m
 (List.take m ys ++ [Value.int IntKind.i64 (Int.negSucc (nat_lit 76) - (↑m : Int)), Value.int IntKind.i64 (Int.negSucc (nat_lit 76) - (↑(m + (1 : Nat)) : Int)), Value.int IntKind.i64 (Int.negSucc (nat_lit 76) - (↑(m + (1 :
 Nat) + (1 : Nat)) : Int))])))) (avLen (Av.sl (List.take (avLen (Av.sl (List.take n (List.take n xs ++ [Value.bool ((↑(n % (2 : Nat)) : Int) == (0 : Int)), Value.bool ((↑((n + (1 : Nat)) % (2 : Nat)) : Int) == (0 : Int)),
 Value.bool ((↑((n + (1 : Nat) + (1 : Nat)) % (2 : Nat)) : Int) == (0 : Int))])) n)) (cdL (List.take n (List.take n xs ++ [Value.bool ((↑(n % (2 : Nat)) : Int) == (0 : Int)), Value.bool ((↑((n + (1 : Nat)) % (2 : Nat)) :
 Int) == (0 : Int)), Value.bool ((↑((n + (1 : Nat) + (1 : Nat)) % (2 : Nat)) : Int) == (0 : Int))])) (List.take m (List.take m ys ++ [Value.int IntKind.i64 (Int.negSucc (nat_lit 76) - (↑m : Int)), Value.int IntKind.i64
 (Int.negSucc (nat_lit 76) - (↑(m + (1 : Nat)) : Int)), Value.int IntKind.i64 (Int.negSucc (nat_lit 76) - (↑(m + (1 : Nat) + (1 : Nat)) : Int))])))) (avLen (Av.sl (List.take n (List.take n xs ++ [Value.bool ((↑(n % (2 :
 Nat)) : Int) == (0 : Int)), Value.bool ((↑((n + (1 : Nat)) % (2 : Nat)) : Int) == (0 : Int)), Value.bool ((↑((n + (1 : Nat) + (1 : Nat)) % (2 : Nat)) : Int) == (0 : Int))])) n)))), List.take n (cdL (List.take n xs)
 (List.take m ys)) = List.take (avLen (Av.sl (List.take n (List.take n xs ++ [Value.bool ((↑(n % (2 : Nat)) : Int) == (0 : Int)), Value.bool ((↑((n + (1 : Nat)) % (2 : Nat)) : Int) == (0 : Int)), Value.bool ((↑((n + (1 :
 Nat) + (1 : Nat)) % (2 : Nat)) : Int) == (0 : Int))])) n)) (cdL (List.take n (List.take n xs ++ [Value.bool ((↑(n % (2 : Nat)) : Int) == (0 : Int)), Value.bool ((↑((n + (1 : Nat)) % (2 : Nat)) : Int) == (0 : Int)),
 Value.bool ((↑((n + (1 : Nat) + (1 : Nat)) % (2 : Nat)) : Int) == (0 : Int))])) (List.take m (List.take m ys ++ [Value.int IntKind.i64 (Int.negSucc (nat_lit 76) - (↑m : Int)), Value.int IntKind.i64 (Int.negSucc (nat_lit
 76) - (↑(m + (1 : Nat)) : Int)), Value.int IntKind.i64 (Int.negSucc (nat_lit 76) - (↑(m + (1 : Nat) + (1 : Nat)) : Int))]))), avLen (Av.sl (List.take n (cdL (List.take n xs) (List.take m ys))) n) = avLen (Av.sl (List.take
 (avLen (Av.sl (List.take n (List.take n xs ++ [Value.bool ((↑(n % (2 : Nat)) : Int) == (0 : Int)), Value.bool ((↑((n + (1 : Nat)) % (2 : Nat)) : Int) == (0 : Int)), Value.bool ((↑((n + (1 : Nat) + (1 : Nat)) % (2 : Nat))
 : Int) == (0 : Int))])) n)) (cdL (List.take n (List.take n xs ++ [Value.bool ((↑(n % (2 : Nat)) : Int) == (0 : Int)), Value.bool ((↑((n + (1 : Nat)) % (2 : Nat)) : Int) == (0 : Int)), Value.bool ((↑((n + (1 : Nat) + (1 :
 Nat)) % (2 : Nat)) : Int) == (0 : Int))])) (List.take m (List.take m ys ++ [Value.int IntKind.i64 (Int.negSucc (nat_lit 76) - (↑m : Int)), Value.int IntKind.i64 (Int.negSucc (nat_lit 76) - (↑(m + (1 : Nat)) : Int)),
 Value.int IntKind.i64 (Int.negSucc (nat_lit 76) - (↑(m + (1 : Nat) + (1 : Nat)) : Int))])))) (avLen (Av.sl (List.take n (List.take n xs ++ [Value.bool ((↑(n % (2 : Nat)) : Int) == (0 : Int)), Value.bool ((↑((n + (1 :
 Nat)) % (2 : Nat)) : Int) == (0 : Int)), Value.bool ((↑((n + (1 : Nat) + (1 : Nat)) % (2 : Nat)) : Int) == (0 : Int))])) n))), false = false, false = false, n ≤ n + (3 : Nat) ∧ n + (3 : Nat) ≤ (9223372036854775807 : Nat),
 n ≤ List.length (List.take n xs ++ [Value.bool ((↑(n % (2 : Nat)) : Int) == (0 : Int)), Value.bool ((↑((n + (1 : Nat)) % (2 : Nat)) : Int) == (0 : Int)), Value.bool ((↑((n + (1 : Nat) + (1 : Nat)) % (2 : Nat)) : Int) ==
 (0 : Int))]), Fl (List.take n (List.take n xs ++ [Value.bool ((↑(n % (2 : Nat)) : Int) == (0 : Int)), Value.bool ((↑((n + (1 : Nat)) % (2 : Nat)) : Int) == (0 : Int)), Value.bool ((↑((n + (1 : Nat) + (1 : Nat)) % (2 :
 Nat)) : Int) == (0 : Int))])), (0 : Nat) < avLen (Av.sl (List.take n (List.take n xs ++ [Value.bool ((↑(n % (2 : Nat)) : Int) == (0 : Int)), Value.bool ((↑((n + (1 : Nat)) % (2 : Nat)) : Int) == (0 : Int)), Value.bool
 ((↑((n + (1 : Nat) + (1 : Nat)) % (2 : Nat)) : Int) == (0 : Int))])) n), avLen (Av.sl (List.take n (List.take n xs ++ [Value.bool ((↑(n % (2 : Nat)) : Int) == (0 : Int)), Value.bool ((↑((n + (1 : Nat)) % (2 : Nat)) : Int)
 == (0 : Int)), Value.bool ((↑((n + (1 : Nat) + (1 : Nat)) % (2 : Nat)) : Int) == (0 : Int))])) n) ≤ (1000 : Nat), Bols (List.take n (List.take n xs ++ [Value.bool ((↑(n % (2 : Nat)) : Int) == (0 : Int)), Value.bool ((↑((n
 + (1 : Nat)) % (2 : Nat)) : Int) == (0 : Int)), Value.bool ((↑((n + (1 : Nat) + (1 : Nat)) % (2 : Nat)) : Int) == (0 : Int))])), n ≤ c ∧ c ≤ (9223372036854775807 : Nat), n ≤ List.length xs, Fl (List.take n xs), (0 : Nat)
 < n, n ≤ (1000 : Nat), Bols (List.take n xs), capBig + (6 : Nat) = capBig + (6 : Nat), spN (List.take n (List.take n xs ++ [Value.bool ((↑(n % (2 : Nat)) : Int) == (0 : Int)), Value.bool ((↑((n + (1 : Nat)) % (2 : Nat)) :
 Int) == (0 : Int)), Value.bool ((↑((n + (1 : Nat) + (1 : Nat)) % (2 : Nat)) : Int) == (0 : Int))])) ≤ spN (List.take n (List.take n xs ++ [Value.bool ((↑(n % (2 : Nat)) : Int) == (0 : Int)), Value.bool ((↑((n + (1 : Nat))
 % (2 : Nat)) : Int) == (0 : Int)), Value.bool ((↑((n + (1 : Nat) + (1 : Nat)) % (2 : Nat)) : Int) == (0 : Int))])), spN (List.take n (List.take n xs ++ [Value.bool ((↑(n % (2 : Nat)) : Int) == (0 : Int)), Value.bool
 ((↑((n + (1 : Nat)) % (2 : Nat)) : Int) == (0 : Int)), Value.bool ((↑((n + (1 : Nat) + (1 : Nat)) % (2 : Nat)) : Int) == (0 : Int))])) * (3 : Nat) ≤ List.length (spL (List.take n (List.take n xs ++ [Value.bool ((↑(n % (2
 : Nat)) : Int) == (0 : Int)), Value.bool ((↑((n + (1 : Nat)) % (2 : Nat)) : Int) == (0 : Int)), Value.bool ((↑((n + (1 : Nat) + (1 : Nat)) % (2 : Nat)) : Int) == (0 : Int))]))), Fl (List.take (spN (List.take n (List.take
 n xs ++ [Value.bool ((↑(n % (2 : Nat)) : Int) == (0 : Int)), Value.bool ((↑((n + (1 : Nat)) % (2 : Nat)) : Int) == (0 : Int)), Value.bool ((↑((n + (1 : Nat) + (1 : Nat)) % (2 : Nat)) : Int) == (0 : Int))])) * (3 : Nat))
 (spL (List.take n (List.take n xs ++ [Value.bool ((↑(n % (2 : Nat)) : Int) == (0 : Int)), Value.bool ((↑((n + (1 : Nat)) % (2 : Nat)) : Int) == (0 : Int)), Value.bool ((↑((n + (1 : Nat) + (1 : Nat)) % (2 : Nat)) : Int) ==
 (0 : Int))])))), capBig + (7 : Nat) = capBig + (7 : Nat), spN (List.take n xs) * (3 : Nat) ≤ List.length (spL (List.take n xs)), (0 : Nat) < (3 : Nat), spN (List.take n xs) * (3 : Nat) ≤ List.length (spL (List.take n
 xs)), Fl (List.take (spN (List.take n xs) * (3 : Nat)) (spL (List.take n xs))), okS (List.take (spN (List.take n (List.take n xs ++ [Value.bool ((↑(n % (2 : Nat)) : Int) == (0 : Int)), Value.bool ((↑((n + (1 : Nat)) % (2
 : Nat)) : Int) == (0 : Int)), Value.bool ((↑((n + (1 : Nat) + (1 : Nat)) % (2 : Nat)) : Int) == (0 : Int))])) * (3 : Nat)) (spL (List.take n (List.take n xs ++ [Value.bool ((↑(n % (2 : Nat)) : Int) == (0 : Int)),
 Value.bool ((↑((n + (1 : Nat)) % (2 : Nat)) : Int) == (0 : Int)), Value.bool ((↑((n + (1 : Nat) + (1 : Nat)) % (2 : Nat)) : Int) == (0 : Int))])))) (avLen (Av.sl (List.take (spN (List.take n (List.take n xs ++ [Value.bool
 ((↑(n % (2 : Nat)) : Int) == (0 : Int)), Value.bool ((↑((n + (1 : Nat)) % (2 : Nat)) : Int) == (0 : Int)), Value.bool ((↑((n + (1 : Nat) + (1 : Nat)) % (2 : Nat)) : Int) == (0 : Int))])) * (3 : Nat)) (spL (List.take n
 (List.take n xs ++ [Value.bool ((↑(n % (2 : Nat)) : Int) == (0 : Int)), Value.bool ((↑((n + (1 : Nat)) % (2 : Nat)) : Int) == (0 : Int)), Value.bool ((↑((n + (1 : Nat) + (1 : Nat)) % (2 : Nat)) : Int) == (0 : Int))]))))
 (spN (List.take n (List.take n xs ++ [Value.bool ((↑(n % (2 : Nat)) : Int) == (0 : Int)), Value.bool ((↑((n + (1 : Nat)) % (2 : Nat)) : Int) == (0 : Int)), Value.bool ((↑((n + (1 : Nat) + (1 : Nat)) % (2 : Nat)) : Int) ==
 (0 : Int))]))))), List.take (spN (List.take n xs) * (3 : Nat)) (spL (List.take n xs)) = List.take (spN (List.take n (List.take n xs ++ [Value.bool ((↑(n % (2 : Nat)) : Int) == (0 : Int)), Value.bool ((↑((n + (1 : Nat)) %
 (2 : Nat)) : Int) == (0 : Int)), Value.bool ((↑((n + (1 : Nat) + (1 : Nat)) % (2 : Nat)) : Int) == (0 : Int))])) * (3 : Nat)) (spL (List.take n (List.take n xs ++ [Value.bool ((↑(n % (2 : Nat)) : Int) == (0 : Int)),
 Value.bool ((↑((n + (1 : Nat)) % (2 : Nat)) : Int) == (0 : Int)), Value.bool ((↑((n + (1 : Nat) + (1 : Nat)) % (2 : Nat)) : Int) == (0 : Int))]))), avLen (Av.sl (List.take (spN (List.take n xs) * (3 : Nat)) (spL
 (List.take n xs))) (spN (List.take n xs))) = avLen (Av.sl (List.take (spN (List.take n (List.take n xs ++ [Value.bool ((↑(n % (2 : Nat)) : Int) == (0 : Int)), Value.bool ((↑((n + (1 : Nat)) % (2 : Nat)) : Int) == (0 :
 Int)), Value.bool ((↑((n + (1 : Nat) + (1 : Nat)) % (2 : Nat)) : Int) == (0 : Int))])) * (3 : Nat)) (spL (List.take n (List.take n xs ++ [Value.bool ((↑(n % (2 : Nat)) : Int) == (0 : Int)), Value.bool ((↑((n + (1 : Nat))
 % (2 : Nat)) : Int) == (0 : Int)), Value.bool ((↑((n + (1 : Nat) + (1 : Nat)) % (2 : Nat)) : Int) == (0 : Int))])))) (spN (List.take n (List.take n xs ++ [Value.bool ((↑(n % (2 : Nat)) : Int) == (0 : Int)), Value.bool
 ((↑((n + (1 : Nat)) % (2 : Nat)) : Int) == (0 : Int)), Value.bool ((↑((n + (1 : Nat) + (1 : Nat)) % (2 : Nat)) : Int) == (0 : Int))])))), false = false, m ≤ m + (3 : Nat) ∧ m + (3 : Nat) ≤ (9223372036854775807 : Nat), m ≤
 List.length (List.take m ys ++ [Value.int IntKind.i64 (Int.negSucc (nat_lit 76) - (↑m : Int)), Value.int IntKind.i64 (Int.negSucc (nat_lit 76) - (↑(m + (1 : Nat)) : Int)), Value.int IntKind.i64 (Int.negSucc (nat_lit 76) -
 (↑(m + (1 : Nat) + (1 : Nat)) : Int))]), Fl (List.take m (List.take m ys ++ [Value.int IntKind.i64 (Int.negSucc (nat_lit 76) - (↑m : Int)), Value.int IntKind.i64 (Int.negSucc (nat_lit 76) - (↑(m + (1 : Nat)) : Int)),
 Value.int IntKind.i64 (Int.negSucc (nat_lit 76) - (↑(m + (1 : Nat) + (1 : Nat)) : Int))])), Ints IntKind.i64 (List.take m (List.take m ys ++ [Value.int IntKind.i64 (Int.negSucc (nat_lit 76) - (↑m : Int)), Value.int
 IntKind.i64 (Int.negSucc (nat_lit 76) - (↑(m + (1 : Nat)) : Int)), Value.int IntKind.i64 (Int.negSucc (nat_lit 76) - (↑(m + (1 : Nat) + (1 : Nat)) : Int))])), avLen (Av.sl (List.take m (List.take m ys ++ [Value.int
 IntKind.i64 (Int.negSucc (nat_lit 76) - (↑m : Int)), Value.int IntKind.i64 (Int.negSucc (nat_lit 76) - (↑(m + (1 : Nat)) : Int)), Value.int IntKind.i64 (Int.negSucc (nat_lit 76) - (↑(m + (1 : Nat) + (1 : Nat)) : Int))]))
 m) ≤ (1000 : Nat), nzN (List.take m (List.take m ys ++ [Value.int IntKind.i64 (Int.negSucc (nat_lit 76) - (↑m : Int)), Value.int IntKind.i64 (Int.negSucc (nat_lit 76) - (↑(m + (1 : Nat)) : Int)), Value.int IntKind.i64
 (Int.negSucc (nat_lit 76) - (↑(m + (1 : Nat) + (1 : Nat)) : Int))])) (0 : Nat) (avLen (Av.sl (List.take m (List.take m ys ++ [Value.int IntKind.i64 (Int.negSucc (nat_lit 76) - (↑m : Int)), Value.int IntKind.i64
 (Int.negSucc (nat_lit 76) - (↑(m + (1 : Nat)) : Int)), Value.int IntKind.i64 (Int.negSucc (nat_lit 76) - (↑(m + (1 : Nat) + (1 : Nat)) : Int))])) m)) = (0 : Nat), m ≤ d ∧ d ≤ (9223372036854775807 : Nat), m ≤ List.length
 ys, Fl (List.take m ys), Ints IntKind.i64 (List.take m ys), m ≤ (1000 : Nat), nzN (List.take m ys) (0 : Nat) m = (0 : Nat), Ints IntKind.i64 [], ([] : List Value) = [], (0 : Nat) = (0 : Nat), false = false, n + (3 : Nat)
 ≤ (9223372036854775807 : Nat), n + (3 : Nat) ≤ List.length (List.take n xs ++ [Value.bool ((↑(n % (2 : Nat)) : Int) == (0 : Int)), Value.bool ((↑((n + (1 : Nat)) % (2 : Nat)) : Int) == (0 : Int)), Value.bool ((↑((n + (1 :
 Nat) + (1 : Nat)) % (2 : Nat)) : Int) == (0 : Int))]), Fl (List.take (n + (3 : Nat)) (List.take n xs ++ [Value.bool ((↑(n % (2 : Nat)) : Int) == (0 : Int)), Value.bool ((↑((n + (1 : Nat)) % (2 : Nat)) : Int) == (0 :
 Int)), Value.bool ((↑((n + (1 : Nat) + (1 : Nat)) % (2 : Nat)) : Int) == (0 : Int))])), n ≤ c ∧ c ≤ (9223372036854775807 : Nat), n ≤ List.length xs, Fl (List.take n xs), List.take (n + (3 : Nat)) (List.take n xs ++
 [Value.bool ((↑(n % (2 : Nat)) : Int) == (0 : Int)), Value.bool ((↑((n + (1 : Nat)) % (2 : Nat)) : Int) == (0 : Int)), Value.bool ((↑((n + (1 : Nat) + (1 : Nat)) % (2 : Nat)) : Int) == (0 : Int))]) = List.take n xs ++
 [Value.bool ((↑(n % (2 : Nat)) : Int) == (0 : Int)), Value.bool ((↑((n + (1 : Nat)) % (2 : Nat)) : Int) == (0 : Int)), Value.bool ((↑((n + (1 : Nat) + (1 : Nat)) % (2 : Nat)) : Int) == (0 : Int))], okB (List.take n xs) n,
 n = n, n + (3 : Nat) = n + (3 : Nat), n ≤ (1000000 : Nat), true = true, m + (3 : Nat) ≤ (9223372036854775807 : Nat), m + (3 : Nat) ≤ List.length (List.take m ys ++ [Value.int IntKind.i64 (Int.negSucc (nat_lit 76) - (↑m :
 Int)), Value.int IntKind.i64 (Int.negSucc (nat_lit 76) - (↑(m + (1 : Nat)) : Int)), Value.int IntKind.i64 (Int.negSucc (nat_lit 76) - (↑(m + (1 : Nat) + (1 : Nat)) : Int))]), Fl (List.take (m + (3 : Nat)) (List.take m ys
 ++ [Value.int IntKind.i64 (Int.negSucc (nat_lit 76) - (↑m : Int)), Value.int IntKind.i64 (Int.negSucc (nat_lit 76) - (↑(m + (1 : Nat)) : Int)), Value.int IntKind.i64 (Int.negSucc (nat_lit 76) - (↑(m + (1 : Nat) + (1 :
 Nat)) : Int))])), m ≤ d ∧ d ≤ (9223372036854775807 : Nat), m ≤ List.length ys, Fl (List.take m ys), List.take (m + (3 : Nat)) (List.take m ys ++ [Value.int IntKind.i64 (Int.negSucc (nat_lit 76) - (↑m : Int)), Value.int
 IntKind.i64 (Int.negSucc (nat_lit 76) - (↑(m + (1 : Nat)) : Int)), Value.int IntKind.i64 (Int.negSucc (nat_lit 76) - (↑(m + (1 : Nat) + (1 : Nat)) : Int))]) = List.take m ys ++ [Value.int IntKind.i64 (Int.negSucc (nat_lit
 76) - (↑m : Int)), Value.int IntKind.i64 (Int.negSucc (nat_lit 76) - (↑(m + (1 : Nat)) : Int)), Value.int IntKind.i64 (Int.negSucc (nat_lit 76) - (↑(m + (1 : Nat) + (1 : Nat)) : Int))], okI (List.take m ys) m, m = m, m +
 (3 : Nat) = m + (3 : Nat), m ≤ (1000000 : Nat), true = true]) := by kernel_rfl
theorem cc_ss_qw (xs ys : List Value) (n m c d : Nat) : prjV (runZ ccV Try.prog 5 6 [.slice (some ⟨0, 0, none⟩) n c, .slice (some ⟨1, 0, none⟩) m d] [(0, ⟨.old, xs⟩), (1, ⟨.old, ys⟩)] 2 ([false, false] ++ [false, false] ++ [false, false] ++ [false, false] ++ [false, false] ++ [false] ++ [false, false] ++ [false, true, true])) =
  Res.ok (Value.bool true, [], [decide ((↑n : Int) > (200 : Int)) = false, (bif false then true else decide ((↑m : Int) > (200 : Int))) = false, n ≤ c ∧ c ≤ (9223372036854775807 : Nat), n ≤ List.length xs, Fl (List.take n
 xs), okB (List.take n xs) n, n ≤ (1000000 : Nat), m ≤ d ∧ d ≤ (9223372036854775807 : Nat), m ≤ List.length ys, Fl (List.take m ys), okI (List.take m ys) m, m ≤ (1000000 : Nat), n ≤ n + (3 : Nat) ∧ n + (3 : Nat) ≤
 (9223372036854775807 : Nat), n ≤ List.length (List.take n xs ++ [Value.bool ((↑(n % (2 : Nat)) : Int) == (0 : Int)), Value.bool ((↑((n + (1 : Nat)) % (2 : Nat)) : Int) == (0 : Int)), Value.bool ((↑((n + (1 : Nat) + (1 :
 Nat)) % (2 : Nat)) : Int) == (0 : Int))]), Fl (List.take n (List.take n xs ++ [Value.bool ((↑(n % (2 : Nat)) : Int) == (0 : Int)), Value.bool ((↑((n + (1 : Nat)) % (2 : Nat)) : Int) == (0 : Int)), Value.bool ((↑((n + (1 :
 Nat) + (1 : Nat)) % (2 : Nat)) : Int) == (0 : Int))])), m ≤ m + (3 : Nat) ∧ m + (3 : Nat) ≤ (9223372036854775807 : Nat), m ≤ List.length (List.take m ys ++ [Value.int IntKind.i64 (Int.negSucc (nat_lit 76) - (↑m : Int)),
 Value.int IntKind.i64 (Int.negSucc (nat_lit 76) - (↑(m + (1 : Nat)) : Int)), Value.int IntKind.i64 (Int.negSucc (nat_lit 76) - (↑(m + (1 : Nat) + (1 : Nat)) : Int))]), Fl (List.take m (List.take m ys ++ [Value.int
 IntKind.i64 (Int.negSucc (nat_lit 76) - (↑m : Int)), Value.int IntKind.i64 (Int.negSucc (nat_lit 76) - (↑(m + (1 : Nat)) : Int)), Value.int IntKind.i64 (Int.negSucc (nat_lit 76) - (↑(m + (1 : Nat) + (1 : Nat)) : Int))])),
 (0 : Nat) < avLen (Av.sl (List.take n (List.take n xs ++ [Value.bool ((↑(n % (2 : Nat)) : Int) == (0 : Int)), Value.bool ((↑((n + (1 : Nat)) % (2 : Nat)) : Int) == (0 : Int)), Value.bool ((↑((n + (1 : Nat) + (1 : Nat)) %
 (2 : Nat)) : Int) == (0 : Int))])) n), avLen (Av.sl (List.take n (List.take n xs ++ [Value.bool ((↑(n % (2 : Nat)) : Int) == (0 : Int)), Value.bool ((↑((n + (1 : Nat)) % (2 : Nat)) : Int) == (0 : Int)), Value.bool ((↑((n
 + (1 : Nat) + (1 : Nat)) % (2 : Nat)) : Int) == (0 : Int))])) n) ≤ (1000 : Nat), avLen (Av.sl (List.take m (List.take m ys ++ [Value.int IntKind.i64 (Int.negSucc (nat_lit 76) - (↑m : Int)), Value.int IntKind.i64
 (Int.negSucc (nat_lit 76) - (↑(m + (1 : Nat)) : Int)), Value.int IntKind.i64 (Int.negSucc (nat_lit 76) - (↑(m + (1 : Nat) + (1 : Nat)) : Int))])) m) = avLen (Av.sl (List.take n (List.take n xs ++ [Value.bool ((↑(n % (2 :
 Nat)) : Int) == (0 : Int)), Value.bool ((↑((n + (1 : Nat)) % (2 : Nat)) : Int) == (0 : Int)), Value.bool ((↑((n + (1 : Nat) + (1 : Nat)) % (2 : Nat)) : Int) == (0 : Int))])) n), Bols (List.take n (List.take n xs ++
 [Value.bool ((↑(n % (2 : Nat)) : Int) == (0 : Int)), Value.bool ((↑((n + (1 : Nat)) % (2 : Nat)) : Int) == (0 : Int)), Value.bool ((↑((n + (1 : Nat) + (1 : Nat)) % (2 : Nat)) : Int) == (0 : Int))])), Ints IntKind.i64
 (List.take m (List.take m ys ++ [Value.int IntKind.i64 (Int.negSucc (nat_lit 76) - (↑m : Int)), Value.int IntKind.i64 (Int.negSucc (nat_lit 76) - (↑(m + (1 : Nat)) : Int)), Value.int IntKind.i64 (Int.negSucc (nat_lit 76)
 - (↑(m + (1 : Nat) + (1 : Nat)) : Int))])), n ≤ c ∧ c ≤ (9223372036854775807 : Nat), n ≤ List.length xs, Fl (List.take n xs), m ≤ d ∧ d ≤ (9223372036854775807 : Nat), m ≤ List.length ys, Fl (List.take m ys), (0 : Nat) <
 n, n ≤ (1000 : Nat), m = n, Bols (List.take n xs), Ints IntKind.i64 (List.take m ys), capBig + (4 : Nat) = capBig + (4 : Nat), avLen (Av.sl (List.take n (List.take n xs ++ [Value.bool ((↑(n % (2 : Nat)) : Int) == (0 :
 Int)), Value.bool ((↑((n + (1 : Nat)) % (2 : Nat)) : Int) == (0 : Int)), Value.bool ((↑((n + (1 : Nat) + (1 : Nat)) % (2 : Nat)) : Int) == (0 : Int))])) n) ≤ avLen (Av.sl (List.take n (List.take n xs ++ [Value.bool ((↑(n
 % (2 : Nat)) : Int) == (0 : Int)), Value.bool ((↑((n + (1 : Nat)) % (2 : Nat)) : Int) == (0 : Int)), Value.bool ((↑((n + (1 : Nat) + (1 : Nat)) % (2 : Nat)) : Int) == (0 : Int))])) n), avLen (Av.sl (List.take n (List.take
 n xs ++ [Value.bool ((↑(n % (2 : Nat)) : Int) == (0 : Int)), Value.bool ((↑((n + (1 : Nat)) % (2 : Nat)) : Int) == (0 : Int)), Value.bool ((↑((n + (1 : Nat) + (1 : Nat)) % (2 : Nat)) : Int) == (0 : Int))])) n) ≤
 List.length (cdL (List.take n (List.take n xs ++ [Value.bool ((↑(n % (2 : Nat)) : Int) == (0 : Int)), Value.bool ((↑((n + (1 : Nat)) % (2 : Nat)) : Int) == (0 : Int)), Value.bool ((↑((n + (1 : Nat) + (1 : Nat)) % (2 :
 Nat)) : Int) == (0 : Int))])) (List.take m (List.take m ys ++ [Value.int IntKind.i64 (Int.negSucc (nat_lit 76) - (↑m : Int)), Value.int IntKind.i64 (Int.negSucc (nat_lit 76) - (↑(m + (1 : Nat)) : Int)), Value.int
 IntKind.i64 (Int.negSucc (nat_lit 76) - (↑(m + (1 : Nat) + (1 : Nat)) : Int))]))), Fl (List.take (avLen (Av.sl (List.take n (List.take n xs ++ [Value.bool ((↑(n % (2 : Nat)) : Int) == (0 : Int)), Value.bool ((↑((n + (1 :
 Nat)) % (2 : Nat)) : Int) == (0 : Int)), Value.bool ((↑((n + (1 : Nat) + (1 : Nat)) % (2 : Nat)) : Int) == (0 : Int))])) n)) (cdL (List.take n (List.take n xs ++ [Value.bool ((↑(n % (2 : Nat)) : Int) == (0 : Int)),
 Value.bool ((↑((n + (1 : Nat)) % (2 : Nat)) : Int) == (0 : Int)), Value.bool ((↑((n + (1 : Nat) + (1 : Nat)) % (2 : Nat)) : Int) == (0 : Int))])) (List.take m (List.take m ys ++ [Value.int IntKind.i64 (Int.negSucc
 (nat_lit 76) - (↑m : Int)), Value.int IntKind.i64 (Int.negSucc (nat_lit 76) - (↑(m + (1 : Nat)) : Int)), Value.int IntKind.i64 (Int.negSucc (nat_lit 76) - (↑(m + (1 : Nat) + (1 : Nat)) : Int))])))), n ≤ n ∧ n ≤
 (9223372036854775807 : Nat), n ≤ List.length (cdL (List.take n xs) (List.take m ys)), Fl (List.take n (cdL (List.take n xs) (List.take m ys))), okI (List.take (avLen (Av.sl (List.take n (List.take n xs ++ [Value.bool
 ((↑(n % (2 : Nat)) : Int) == (0 : Int)), Value.bool ((↑((n + (1 : Nat)) % (2 : Nat)) : Int) == (0 : Int)), Value.bool ((↑((n + (1 : Nat) + (1 : Nat)) % (2 : Nat)) : Int) == (0 : Int))])) n)) (cdL (List.take n (List.take n
 xs ++ [Value.bool ((↑(n % (2 : Nat)) : Int) == (0 : Int)), Value.bool ((↑((n + (1 : Nat)) % (2 : Nat)) : Int) == (0 : Int)), Value.bool ((↑((n + (1 : Nat) + (1 : Nat)) % (2 : Nat)) : Int) == (0 : Int))])) (List.take m
 (List.take m ys ++ [Value.int IntKind.i64 (Int.negSucc (nat_lit 76) - (↑m : Int)), Value.int IntKind.i64 (Int.negSucc (nat_lit 76) - (↑(m + (1 : Nat)) : Int)), Value.int IntKind.i64 (Int.negSucc (nat_lit 76) - (↑(m + (1 :
 Nat) + (1 : Nat)) : Int))])))) (avLen (Av.sl (List.take (avLen (Av.sl (List.take n (List.take n xs ++ [Value.bool ((↑(n % (2 : Nat)) : Int) == (0 : Int)), Value.bool ((↑((n + (1 : Nat)) % (2 : Nat)) : Int) == (0 : Int)),
 Value.bool ((↑((n + (1 : Nat) + (1 : Nat)) % (2 : Nat)) : Int) == (0 : Int))])) n)) (cdL (List.take n (List.take n xs ++ [Value.bool ((↑(n % (2 : Nat)) : Int) == (0 : Int)), Value.bool ((↑((n + (1 : Nat)) % (2 : Nat)) :
 Int) == (0 : Int)), Value.bool ((↑((n + (1 : Nat) + (1 : Nat)) % (2 : Nat)) : Int) == (0 : Int))])) (List.take m (List.take m ys ++ [Value.int IntKind.i64 (Int.negSucc (nat_lit 76) - (↑m : Int)), Value.int IntKind.i64
 (Int.negSucc (nat_lit 76) - (↑(m + (1 : Nat)) : Int)), Value.int IntKind.i64 (Int.negSucc (nat_lit 76) - (↑(m + (1 : Nat) + (1 : Nat)) : Int))])))) (avLen (Av.sl (List.take n (List.take n xs ++ [Value.bool ((↑(n % (2 :
 Nat)) : Int) == (0 : Int)), Value.bool ((↑((n + (1 : Nat)) % (2 : Nat)) : Int) == (0 : Int)), Value.bool ((↑((n + (1 : Nat) + (1 : Nat)) % (2 : Nat)) : Int) == (0 : Int))])) n)))), List.take n (cdL (List.take n xs)
 (List.take m ys)) = List.take (avLen (Av.sl (List.take n (List.take n xs ++ [Value.bool ((↑(n % (2 : Nat)) : Int) == (0 : Int)), Value.bool ((↑((n + (1 : Nat)) % (2 : Nat)) : Int) == (0 : Int)), Value.bool ((↑((n + (1 :
 Nat) + (1 : Nat)) % (2 : Nat)) : Int) == (0 : Int))])) n)) (cdL (List.take n (List.take n xs ++ [Value.bool ((↑(n % (2 : Nat)) : Int) == (0 : Int)), Value.bool ((↑((n + (1 : Nat)) % (2 : Nat)) : Int) == (0 : Int)),
 Value.bool ((↑((n + (1 : Nat) + (1 : Nat)) % (2 : Nat)) : Int) == (0 : Int))])) (List.take m (List.take m ys ++ [Value.int IntKind.i64 (Int.negSucc (nat_lit 76) - (↑m : Int)), Value.int IntKind.i64 (Int.negSucc (nat_lit
 76) - (↑(m + (1 : Nat)) : Int)), Value.int IntKind.i64 (Int.negSucc (nat_lit 76) - (↑(m + (1 : Nat) + (1 : Nat)) : Int))]))), avLen (Av.sl (List.take n (cdL (List.take n xs) (List.take m ys))) n) = avLen (Av.sl (List.take
 (avLen (Av.sl (List.take n (List.take n xs ++ [Value.bool ((↑(n % (2 : Nat)) : Int) == (0 : Int)), Value.bool ((↑((n + (1 : Nat)) % (2 : Nat)) : Int) == (0 : Int)), Value.bool ((↑((n + (1 : Nat) + (1 : Nat)) % (2 : Nat))
 : Int) == (0 : Int))])) n)) (cdL (List.take n (List.take n xs ++ [Value.bool ((↑(n % (2 : Nat)) : Int) == (0 : Int)), Value.bool ((↑((n + (1 : Nat)) % (2 : Nat)) : Int) == (0 : Int)), Value.bool ((↑((n + (1 : Nat) + (1 :
 Nat)) % (2 : Nat)) : Int) == (0 : Int))])) (List.take m (List.take m ys ++ [Value.int IntKind.i64 (Int.negSucc (nat_lit 76) - (↑m : Int)), Value.int IntKind.i64 (Int.negSucc (nat_lit 76) - (↑(m + (1 : Nat)) : Int)),
 Value.int IntKind.i64 (Int.negSucc (nat_lit 76) - (↑(m + (1 : Nat) + (1 : Nat)) : Int))])))) (avLen (Av.sl (List.take n (List.take n xs ++ [Value.bool ((↑(n % (2 : Nat)) : Int) == (0 : Int)), Value.bool ((↑((n + (1 :
 Nat)) % (2 : Nat)) : Int) == (0 : Int)), Value.bool ((↑((n + (1 : Nat) + (1 : Nat)) % (2 : Nat)) : Int) == (0 : Int))])) n))), false = false, false = false, n ≤ n + (3 : Nat) ∧ n + (3 : Nat) ≤ (9223372036854775807 : Nat),
 n ≤ List.length (List.take n xs ++ [Value.bool ((↑(n % (2 : Nat)) : Int) == (0 : Int)), Value.bool ((↑((n + (1 : Nat)) % (2 : Nat)) : Int) == (0 : Int)), Value.bool ((↑((n + (1 : Nat) + (1 : Nat)) % (2 : Nat)) : Int) ==
 (0 : Int))]), Fl (List.take n (List.take n xs ++ [Value.bool ((↑(n % (2 : Nat)) : Int) == (0 : Int)), Value.bool ((↑((n + (1 : Nat)) % (2 : Nat)) : Int) == (0 : Int)), Value.bool ((↑((n + (1 : Nat) + (1 : Nat)) % (2 :
 Nat)) : Int) == (0 : Int))])), (0 : Nat) < avLen (Av.sl (List.take n (List.take n xs ++ [Value.bool ((↑(n % (2 : Nat)) : Int) == (0 : Int)), Value.bool ((↑((n + (1 : Nat)) % (2 : Nat)) : Int) == (0 : Int)), Value.bool
 ((↑((n + (1 : Nat) + (1 : Nat)) % (2 : Nat)) : Int) == (0 : Int))])) n), avLen (Av.sl (List.take n (List.take n xs ++ [Value.bool ((↑(n % (2 : Nat)) : Int) == (0 : Int)), Value.bool ((↑((n + (1 : Nat)) % (2 : Nat)) : Int)
 == (0 : Int)), Value.bool ((↑((n + (1 : Nat) + (1 : Nat)) % (2 : Nat)) : Int) == (0 : Int))])) n) ≤ (1000 : Nat), Bols (List.take n (List.take n xs ++ [Value.bool ((↑(n % (2 : Nat)) : Int) == (0 : Int)), Value.bool ((↑((n
 + (1 : Nat)) % (2 : Nat)) : Int) == (0 : Int)), Value.bool ((↑((n + (1 : Nat) + (1 : Nat)) % (2 : Nat)) : Int) == (0 : Int))])), n ≤ c ∧ c ≤ (9223372036854775807 : Nat), n ≤ List.length xs, Fl (List.take n xs), (0 : Nat)
 < n, n ≤ (1000 : Nat), Bols (List.take n xs), capBig + (6 : Nat) = capBig + (6 : Nat), spN (List.take n (List.take n xs ++ [Value.bool ((↑(n % (2 : Nat)) : Int) == (0 : Int)), Value.bool ((↑((n + (1 : Nat)) % (2 : Nat)) :
 Int) == (0 : Int)), Value.bool ((↑((n + (1 : Nat) + (1 : Nat)) % (2 : Nat)) : Int) == (0 : Int))])) ≤ spN (List.take n (List.take n xs ++ [Value.bool ((↑(n % (2 : Nat)) : Int) == (0 : Int)), Value.bool ((↑((n + (1 : Nat))
 % (2 : Nat)) : Int) == (0 : Int)), Value.bool ((↑((n + (1 : Nat) + (1 : Nat)) % (2 : Nat)) : Int) == (0 : Int))])), spN (List.take n (List.take n xs ++ [Value.bool ((↑(n % (2 : Nat)) : Int) == (0 : Int)), Value.bool
 ((↑((n + (1 : Nat)) % (2 : Nat)) : Int) == (0 : Int)), Value.bool ((↑((n + (1 : Nat) + (1 : Nat)) % (2 : Nat)) : Int) == (0 : Int))])) * (3 : Nat) ≤ List.length (spL (List.take n (List.take n xs ++ [Value.bool ((↑(n % (2
 : Nat)) : Int) == (0 : Int)), Value.bool ((↑((n + (1 : Nat)) % (2 : Nat)) : Int) == (0 : Int)), Value.bool ((↑((n + (1 : Nat) + (1 : Nat)) % (2 : Nat)) : Int) == (0 : Int))]))), Fl (List.take (spN (List.take n (List.take
 n xs ++ [Value.bool ((↑(n % (2 : Nat)) : Int) == (0 : Int)), Value.bool ((↑((n + (1 : Nat)) % (2 : Nat)) : Int) == (0 : Int)), Value.bool ((↑((n + (1 : Nat) + (1 : Nat)) % (2 : Nat)) : Int) == (0 : Int))])) * (3 : Nat))
 (spL (List.take n (List.take n xs ++ [Value.bool ((↑(n % (2 : Nat)) : Int) == (0 : Int)), Value.bool ((↑((n + (1 : Nat)) % (2 : Nat)) : Int) == (0 : Int)), Value.bool ((↑((n + (1 : Nat) + (1 : Nat)) % (2 : Nat)) : Int) ==
 (0 : Int))])))), capBig + (7 : Nat) = capBig + (7 : Nat), spN (List.take n xs) * (3 : Nat) ≤ List.length (spL (List.take n xs)), (0 : Nat) < (3 : Nat), spN (List.take n xs) * (3 : Nat) ≤ List.length (spL (List.take n
 xs)), Fl (List.take (spN (List.take n xs) * (3 : Nat)) (spL (List.take n xs))), okS (List.take (spN (List.take n (List.take n xs ++ [Value.bool ((↑(n % (2 : Nat)) : Int) == (0 : Int)), Value.bool ((↑((n + (1 : Nat)) % (2
 : Nat)) : Int) == (0 : Int)), Value.bool ((↑((n + (1 : Nat) + (1 : Nat)) % (2 : Nat)) : Int) == (0 : Int))])) * (3 : Nat)) (spL (List.take n (List.take n xs ++ [Value.bool ((↑(n % (2 : Nat)) : Int) == (0 : Int)),
 Value.bool ((↑((n + (1 : Nat)) % (2 : Nat)) : Int) == (0 : Int)), Value.bool ((↑((n + (1 : Nat) + (1 : Nat)) % (2 : Nat)) : Int) == (0 : Int))])))) (avLen (Av.sl (List.take (spN (List.take n (List.take n xs ++ [Value.bool
 ((↑(n % (2 : Nat)) : Int) == (0 : Int)), Value.bool ((↑((n + (1 : Nat)) % (2 : Nat)) : Int) == (0 : Int)), Value.bool ((↑((n + (1 : Nat) + (1 : Nat)) % (2 : Nat)) : Int) == (0 : Int))])) * (3 : Nat)) (spL (List.take n
 (List.take n xs ++ [Value.bool ((↑(n % (2 : Nat)) : Int) == (0 : Int)), Value.bool ((↑((n + (1 : Nat)) % (2 : Nat)) : Int) == (0 : Int)), Value.bool ((↑((n + (1 : Nat) + (1 : Nat)) % (2 : Nat)) : Int) == (0 : Int))]))))
 (spN (List.take n (List.take n xs ++ [Value.bool ((↑(n % (2 : Nat)) : Int) == (0 : Int)), Value.bool ((↑((n + (1 : Nat)) % (2 : Nat)) : Int) == (0 : Int)), Value.bool ((↑((n + (1 : Nat) + (1 : Nat)) % (2 : Nat)) : Int) ==
 (0 : Int))]))))), List.take (spN (List.take n xs) * (3 : Nat)) (spL (List.take n xs)) = List.take (spN (List.take n (List.take n xs ++ [Value.bool ((↑(n % (2 : Nat)) : Int) == (0 : Int)), Value.bool ((↑((n + (1 : Nat)) %
 (2 : Nat)) : Int) == (0 : Int)), Value.bool ((↑((n + (1 : Nat) + (1 : Nat)) % (2 : Nat)) : Int) == (0 : Int))])) * (3 : Nat)) (spL (List.take n (List.take n xs ++ [Value.bool ((↑(n % (2 : Nat)) : Int) == (0 : Int)),
 Value.bool ((↑((n + (1 : Nat)) % (2 : Nat)) : Int) == (0 : Int)), Value.bool ((↑((n + (1 : Nat) + (1 : Nat)) % (2 : Nat)) : Int) == (0 : Int))]))), avLen (Av.sl (List.take (spN (List.take n xs) * (3 : Nat)) (spL
 (List.take n xs))) (spN (List.take n xs))) = avLen (Av.sl (List.take (spN (List.take n (List.take n xs ++ [Value.bool ((↑(n % (2 : Nat)) : Int) == (0 : Int)), Value.bool ((↑((n + (1 : Nat)) % (2 : Nat)) : Int) == (0 :
 Int)), Value.bool ((↑((n + (1 : Nat) + (1 : Nat)) % (2 : Nat)) : Int) == (0 : Int))])) * (3 : Nat)) (spL (List.take n (List.take n xs ++ [Value.bool ((↑(n % (2 : Nat)) : Int) == (0 : Int)), Value.bool ((↑((n + (1 : Nat))
 % (2 : Nat)) : Int) == (0 : Int)), Value.bool ((↑((n + (1 : Nat) + (1 : Nat)) % (2 : Nat)) : Int) == (0 : Int))])))) (spN (List.take n (List.take n xs ++ [Value.bool ((↑(n % (2 : Nat)) : Int) == (0 : Int)), Value.bool
 ((↑((n + (1 : Nat)) % (2 : Nat)) : Int) == (0 : Int)), Value.bool ((↑((n + (1 : Nat) + (1 : Nat)) % (2 : Nat)) : Int) == (0 : Int))])))), false = false, m ≤ m + (3 : Nat) ∧ m + (3 : Nat) ≤ (9223372036854775807 : Nat), m ≤
 List.length (List.take m ys ++ [Value.int IntKind.i64 (Int.negSucc (nat_lit 76) - (↑m : Int)), Value.int IntKind.i64 (Int.negSucc (nat_lit 76) - (↑(m + (1 : Nat)) : Int)), Value.int IntKind.i64 (Int.negSucc (nat_lit 76) -
 (↑(m + (1 : Nat) + (1 : Nat)) : Int))]), Fl (List.take m (List.take m ys ++ [Value.int IntKind.i64 (Int.negSucc (nat_lit 76) - (↑m : Int)), Value.int IntKind.i64 (Int.negSucc (nat_lit 76) - (↑(m + (1 : Nat)) : Int)),
 Value.int IntKind.i64 (Int.negSucc (nat_lit 76) - (↑(m + (1 : Nat) + (1 : Nat)) : Int))])), Ints IntKind.i64 (List.take m (List.take m ys ++ [Value.int IntKind.i64 (Int.negSucc (nat_lit 76) - (↑m : Int)), Value.int
 IntKind.i64 (Int.negSucc (nat_lit 76) - (↑(m + (1 : Nat)) : Int)), Value.int IntKind.i64 (Int.negSucc (nat_lit 76) - (↑(m + (1 : Nat) + (1 : Nat)) : Int))])), avLen (Av.sl (List.take m (List.take m ys ++ [Value.int
 IntKind.i64 (Int.negSucc (nat_lit 76) - (↑m : Int)), Value.int IntKind.i64 (Int.negSucc (nat_lit 76) - (↑(m + (1 : Nat)) : Int)), Value.int IntKind.i64 (Int.negSucc (nat_lit 76) - (↑(m + (1 : Nat) + (1 : Nat)) : Int))]))
 m) ≤ (1000 : Nat), nzN (List.take m (List.take m ys ++ [Value.int IntKind.i64 (Int.negSucc (nat_lit 76) - (↑m : Int)), Value.int IntKind.i64 (Int.negSucc (nat_lit 76) - (↑(m + (1 : Nat)) : Int)), Value.int IntKind.i64
 (Int.negSucc (nat_lit 76) - (↑(m + (1 : Nat) + (1 : Nat)) : Int))])) (0 : Nat) (avLen (Av.sl (List.take m (List.take m ys ++ [Value.int IntKind.i64 (Int.negSucc (nat_lit 76) - (↑m : Int)), Value.int IntKind.i64
 (Int.negSucc (nat_lit 76) - (↑(m + (1 : Nat)) : Int)), Value.int IntKind.i64 (Int.negSucc (nat_lit 76) - (↑(m + (1 : Nat) + (1 : Nat)) : Int))])) m)) ≠ (0 : Nat), m ≤ d ∧ d ≤ (9223372036854775807 : Nat), m ≤ List.length
 ys, Fl (List.take m ys), Ints IntKind.i64 (List.take m ys), m ≤ (1000 : Nat), nzN (List.take m ys) (0 : Nat) m ≠ (0 : Nat), capBig + (8 : Nat) = capBig + (8 : Nat), nzN (List.take m (List.take m ys ++ [Value.int
 IntKind.i64 (Int.negSucc (nat_lit 76) - (↑m : Int)), Value.int IntKind.i64 (Int.negSucc (nat_lit 76) - (↑(m + (1 : Nat)) : Int)), Value.int IntKind.i64 (Int.negSucc (nat_lit 76) - (↑(m + (1 : Nat) + (1 : Nat)) : Int))]))
 (0 : Nat) (avLen (Av.sl (List.take m (List.take m ys ++ [Value.int IntKind.i64 (Int.negSucc (nat_lit 76) - (↑m : Int)), Value.int IntKind.i64 (Int.negSucc (nat_lit 76) - (↑(m + (1 : Nat)) : Int)), Value.int IntKind.i64
 (Int.negSucc (nat_lit 76) - (↑(m + (1 : Nat) + (1 : Nat)) : Int))])) m)) * (2 : Nat) ≤ List.length (nzL (List.take m (List.take m ys ++ [Value.int IntKind.i64 (Int.negSucc (nat_lit 76) - (↑m : Int)), Value.int IntKind.i64
 (Int.negSucc (nat_lit 76) - (↑(m + (1 : Nat)) : Int)), Value.int IntKind.i64 (Int.negSucc (nat_lit 76) - (↑(m + (1 : Nat) + (1 : Nat)) : Int))])) (0 : Nat) (avLen (Av.sl (List.take m (List.take m ys ++ [Value.int
 IntKind.i64 (Int.negSucc (nat_lit 76) - (↑m : Int)), Value.int IntKind.i64 (Int.negSucc (nat_lit 76) - (↑(m + (1 : Nat)) : Int)), Value.int IntKind.i64 (Int.negSucc (nat_lit 76) - (↑(m + (1 : Nat) + (1 : Nat)) : Int))]))
 m))), (0 : Nat) < (2 : Nat), nzN (List.take m (List.take m ys ++ [Value.int IntKind.i64 (Int.negSucc (nat_lit 76) - (↑m : Int)), Value.int IntKind.i64 (Int.negSucc (nat_lit 76) - (↑(m + (1 : Nat)) : Int)), Value.int
 IntKind.i64 (Int.negSucc (nat_lit 76) - (↑(m + (1 : Nat) + (1 : Nat)) : Int))])) (0 : Nat) (avLen (Av.sl (List.take m (List.take m ys ++ [Value.int IntKind.i64 (Int.negSucc (nat_lit 76) - (↑m : Int)), Value.int
 IntKind.i64 (Int.negSucc (nat_lit 76) - (↑(m + (1 : Nat)) : Int)), Value.int IntKind.i64 (Int.negSucc (nat_lit 76) - (↑(m + (1 : Nat) + (1 : Nat)) : Int))])) m)) * (2 : Nat) ≤ List.length (nzL (List.take m (List.take m ys
 ++ [Value.int IntKind.i64 (Int.negSucc (nat_lit 76) - (↑m : Int)), Value.int IntKind.i64 (Int.negSucc (nat_lit 76) - (↑(m + (1 : Nat)) : Int)), Value.int IntKind.i64 (Int.negSucc (nat_lit 76) - (↑(m + (1 : Nat) + (1 :
 Nat)) : Int))])) (0 : Nat) (avLen (Av.sl (List.take m (List.take m ys ++ [Value.int IntKind.i64 (Int.negSucc (nat_lit 76) - (↑m : Int)), Value.int IntKind.i64 (Int.negSucc (nat_lit 76) - (↑(m + (1 : Nat)) : Int)),
 Value.int IntKind.i64 (Int.negSucc (nat_lit 76) - (↑(m + (1 : Nat) + (1 : Nat)) : Int))])) m))), Fl (List.take (nzN (List.take m (List.take m ys ++ [Value.int IntKind.i64 (Int.negSucc (nat_lit 76) - (↑m : Int)), Value.int
 IntKind.i64 (Int.negSucc (nat_lit 76) - (↑(m + (1 : Nat)) : Int)), Value.int IntKind.i64 (Int.negSucc (nat_lit 76) - (↑(m + (1 : Nat) + (1 : Nat)) : Int))])) (0 : Nat) (avLen (Av.sl (List.take m (List.take m ys ++
 [Value.int IntKind.i64 (Int.negSucc (nat_lit 76) - (↑m : Int)), Value.int IntKind.i64 (Int.negSucc (nat_lit 76) - (↑(m + (1 : Nat)) : Int)), Value.int IntKind.i64 (Int.negSucc (nat_lit 76) - (↑(m + (1 : Nat) + (1 : Nat))
 : Int))])) m)) * (2 : Nat)) (nzL (List.take m (List.take m ys ++ [Value.int IntKind.i64 (Int.negSucc (nat_lit 76) - (↑m : Int)), Value.int IntKind.i64 (Int.negSucc (nat_lit 76) - (↑(m + (1 : Nat)) : Int)), Value.int
 IntKind.i64 (Int.negSucc (nat_lit 76) - (↑(m + (1 : Nat) + (1 : Nat)) : Int))])) (0 : Nat) (avLen (Av.sl (List.take m (List.take m ys ++ [Value.int IntKind.i64 (Int.negSucc (nat_lit 76) - (↑m : Int)), Value.int
 IntKind.i64 (Int.negSucc (nat_lit 76) - (↑(m + (1 : Nat)) : Int)), Value.int IntKind.i64 (Int.negSucc (nat_lit 76) - (↑(m + (1 : Nat) + (1 : Nat)) : Int))])) m)))), capBig + (9 : Nat) = capBig + (9 : Nat), nzN (List.take
 m ys) (0 : Nat) m * (2 : Nat) ≤ List.length (nzL (List.take m ys) (0 : Nat) m), (0 : Nat) < (2 : Nat), nzN (List.take m ys) (0 : Nat) m * (2 : Nat) ≤ List.length (nzL (List.take m ys) (0 : Nat) m), Fl (List.take (nzN
 (List.take m ys) (0 : Nat) m * (2 : Nat)) (nzL (List.take m ys) (0 : Nat) m)), Ints IntKind.i64 (List.take (nzN (List.take m (List.take m ys ++ [Value.int IntKind.i64 (Int.negSucc (nat_lit 76) - (↑m : Int)), Value.int
 IntKind.i64 (Int.negSucc (nat_lit 76) - (↑(m + (1 : Nat)) : Int)), Value.int IntKind.i64 (Int.negSucc (nat_lit 76) - (↑(m + (1 : Nat) + (1 : Nat)) : Int))])) (0 : Nat) (avLen (Av.sl (List.take m (List.take m ys ++
 [Value.int IntKind.i64 (Int.negSucc (nat_lit 76) - (↑m : Int)), Value.int IntKind.i64 (Int.negSucc (nat_lit 76) - (↑(m + (1 : Nat)) : Int)), Value.int IntKind.i64 (Int.negSucc (nat_lit 76) - (↑(m + (1 : Nat) + (1 : Nat))
 : Int))])) m)) * (2 : Nat)) (nzL (List.take m (List.take m ys ++ [Value.int IntKind.i64 (Int.negSucc (nat_lit 76) - (↑m : Int)), Value.int IntKind.i64 (Int.negSucc (nat_lit 76) - (↑(m + (1 : Nat)) : Int)), Value.int
 IntKind.i64 (Int.negSucc (nat_lit 76) - (↑(m + (1 : Nat) + (1 : Nat)) : Int))])) (0 : Nat) (avLen (Av.sl (List.take m (List.take m ys ++ [Value.int IntKind.i64 (Int.negSucc (nat_lit 76) - (↑m : Int)), Value.int
 IntKind.i64 (Int.negSucc (nat_lit 76) - (↑(m + (1 : Nat)) : Int)), Value.int IntKind.i64 (Int.negSucc (nat_lit 76) - (↑(m + (1 : Nat) + (1 : Nat)) : Int))])) m)))), List.take (nzN (List.take m ys) (0 : Nat) m * (2 : Nat))
 (nzL (List.take m ys) (0 : Nat) m) = List.take (nzN (List.take m (List.take m ys ++ [Value.int IntKind.i64 (Int.negSucc (nat_lit 76) - (↑m : Int)), Value.int IntKind.i64 (Int.negSucc (nat_lit 76) - (↑(m + (1 : Nat)) :
 Int)), Value.int IntKind.i64 (Int.negSucc (nat_lit 76) - (↑(m + (1 : Nat) + (1 : Nat)) : Int))])) (0 : Nat) (avLen (Av.sl (List.take m (List.take m ys ++ [Value.int IntKind.i64 (Int.negSucc (nat_lit 76) - (↑m : Int)),
 Value.int IntKind.i64 (Int.negSucc (nat_lit 76) - (↑(m + (1 : Nat)) : Int)), Value.int IntKind.i64 (Int.negSucc (nat_lit 76) - (↑(m + (1 : Nat) + (1 : Nat)) : Int))])) m)) * (2 : Nat)) (nzL (List.take m (List.take m ys ++
 [Value.int IntKind.i64 (Int.negSucc (nat_lit 76) - (↑m : Int)), Value.int IntKind.i64 (Int.negSucc (nat_lit 76) - (↑(m + (1 : Nat)) : Int)), Value.int IntKind.i64 (Int.negSucc (nat_lit 76) - (↑(m + (1 : Nat) + (1 : Nat))
 : Int))])) (0 : Nat) (avLen (Av.sl (List.take m (List.take m ys ++ [Value.int IntKind.i64 (Int.negSucc (nat_lit 76) - (↑m : Int)), Value.int IntKind.i64 (Int.negSucc (nat_lit 76) - (↑(m + (1 : Nat)) : Int)), Value.int
 IntKind.i64 (Int.negSucc (nat_lit 76) - (↑(m + (1 : Nat) + (1 : Nat)) : Int))])) m))), avLen (Av.sl (List.take (nzN (List.take m ys) (0 : Nat) m * (2 : Nat)) (nzL (List.take m ys) (0 : Nat) m)) (nzN (List.take m ys) (0 :
 Nat) m)) = avLen (Av.sl (List.take (nzN (List.take m (List.take m ys ++ [Value.int IntKind.i64 (Int.negSucc (nat_lit 76) - (↑m : Int)), Value.int IntKind.i64 (Int.negSucc (nat_lit 76) - (↑(m + (1 : Nat)) : Int)),
 Value.int IntKind.i64 (Int.negSucc (nat_lit 76) - (↑(m + (1 : Nat) + (1 : Nat)) : Int))])) (0 : Nat) (avLen (Av.sl (List.take m (List.take m ys ++ [Value.int IntKind.i64 (Int.negSucc (nat_lit 76) - (↑m : Int)), Value.int
 IntKind.i64 (Int.negSucc (nat_lit 76) - (↑(m + (1 : Nat)) : Int)), Value.int IntKind.i64 (Int.negSucc (nat_lit 76) - (↑(m + (1 : Nat) + (1 : Nat)) : Int))])) m)) * (2 : Nat)) (nzL (List.take m (List.take m ys ++
 [Value.int IntKind.i64 (Int.negSucc (nat_lit 76) - (↑m : Int)), Value.int IntKind.i64 (Int.negSucc (nat_lit 76) - (↑(m + (1 : Nat)) : Int)), Value.int IntKind.i64 (Int.negSucc (nat_lit 76) - (↑(m + (1 : Nat) + (1 : Nat))
 : Int))])) (0 : Nat) (avLen (Av.sl (List.take m (List.take m ys ++ [Value.int IntKind.i64 (Int.negSucc (nat_lit 76) - (↑m : Int)), Value.int IntKind.i64 (Int.negSucc (nat_lit 76) - (↑(m + (1 : Nat)) : Int)), Value.int
 IntKind.i64 (Int.negSucc (nat_lit 76) - (↑(m + (1 : Nat) + (1 : Nat)) : Int))])) m)))) (nzN (List.take m (List.take m ys ++ [Value.int IntKind.i64 (Int.negSucc (nat_lit 76) - (↑m : Int)), Value.int IntKind.i64
 (Int.negSucc (nat_lit 76) - (↑(m + (1 : Nat)) : Int)), Value.int IntKind.i64 (Int.negSucc (nat_lit 76) - (↑(m + (1 : Nat) + (1 : Nat)) : Int))])) (0 : Nat) (avLen (Av.sl (List.take m (List.take m ys ++ [Value.int
 IntKind.i64 (Int.negSucc (nat_lit 76) - (↑m : Int)), Value.int IntKind.i64 (Int.negSucc (nat_lit 76) - (↑(m + (1 : Nat)) : Int)), Value.int IntKind.i64 (Int.negSucc (nat_lit 76) - (↑(m + (1 : Nat) + (1 : Nat)) : Int))]))
 m)))), false = false, n + (3 : Nat) ≤ (9223372036854775807 : Nat), n + (3 : Nat) ≤ List.length (List.take n xs ++ [Value.bool ((↑(n % (2 : Nat)) : Int) == (0 : Int)), Value.bool ((↑((n + (1 : Nat)) % (2 : Nat)) : Int) ==
 (0 : Int)), Value.bool ((↑((n + (1 : Nat) + (1 : Nat)) % (2 : Nat)) : Int) == (0 : Int))]), Fl (List.take (n + (3 : Nat)) (List.take n xs ++ [Value.bool ((↑(n % (2 : Nat)) : Int) == (0 : Int)), Value.bool ((↑((n + (1 :
 Nat)) % (2 : Nat)) : Int) == (0 : Int)), Value.bool ((↑((n + (1 : Nat) + (1 : Nat)) % (2 : Nat)) : Int) == (0 : Int))])), n ≤ c ∧ c ≤ (9223372036854775807 : Nat), n ≤ List.length xs, Fl (List.take n xs), List.take (n + (3
 : Nat)) (List.take n xs ++ [Value.bool ((↑(n % (2 : Nat)) : Int) == (0 : Int)), Value.bool ((↑((n + (1 : Nat)) % (2 : Nat)) : Int) == (0 : Int)), Value.bool ((↑((n + (1 : Nat) + (1 : Nat)) % (2 : Nat)) : Int) == (0 :
 Int))]) = List.take n xs ++ [Value.bool ((↑(n % (2 : Nat)) : Int) == (0 : Int)), Value.bool ((↑((n + (1 : Nat)) % (2 : Nat)) : Int) == (0 : Int)), Value.bool ((↑((n + (1 : Nat) + (1 : Nat)) % (2 : Nat)) : Int) == (0 :
 Int))], okB (List.take n xs) n, n = n, n + (3 : Nat) = n + (3 : Nat), n ≤ (1000000 : Nat), true = true, m + (3 : Nat) ≤ (9223372036854775807 : Nat), m + (3 : Nat) ≤ List.length (List.take m ys ++ [Value.int IntKind.i64
 (Int.negSucc (nat_lit 76) - (↑m : Int)), Value.int IntKind.i64 (Int.negSucc (nat_lit 76) - (↑(m + (1 : Nat)) : Int)), Value.int IntKind.i64 (Int.negSucc (nat_lit 76) - (↑(m + (1 : Nat) + (1 : Nat)) : Int))]), Fl
 (List.take (m + (3 : Nat)) (List.take m ys ++ [Value.int IntKind.i64 (Int.negSucc (nat_lit 76) - (↑m : Int)), Value.int IntKind.i64 (Int.negSucc (nat_lit 76) - (↑(m + (1 : Nat)) : Int)), Value.int IntKind.i64 (Int.negSucc
 (nat_lit 76) - (↑(m + (1 : Nat) + (1 : Nat)) : Int))])), m ≤ d ∧ d ≤ (9223372036854775807 : Nat), m ≤ List.length ys, Fl (List.take m ys), List.take (m + (3 : Nat)) (List.take m ys ++ [Value.int IntKind.i64 (Int.negSucc
 (nat_lit 76) - (↑m : Int)), Value.int IntKind.i64 (Int.negSucc (nat_lit 76) - (↑(m + (1 : Nat)) : Int)), Value.int IntKind.i64 (Int.negSucc (nat_lit 76) - (↑(m + (1 : Nat) + (1 : Nat)) : Int))]) = List.take m ys ++
 [Value.int IntKind.i64 (Int.negSucc (nat_lit 76) - (↑m : Int)), Value.int IntKind.i64 (Int.negSucc (nat_lit 76) - (↑(m + (1 : Nat)) : Int)), Value.int IntKind.i64 (Int.negSucc (nat_lit 76) - (↑(m + (1 : Nat) + (1 : Nat))
 : Int))], okI (List.take m ys) m, m = m, m + (3 : Nat) = m + (3 : Nat), m ≤ (1000000 : Nat), true = true]) := by kernel_rfl
theorem cdL_len {xs ys : List Value} : (cdL xs ys).length = xs.length := by
  unfold cdL cellsOf
  rw [List.length_map, codesV_size]
  simp [boolsOf]
theorem nz_nil {n : Nat} (h : n = 0) (xs : List Value) : nzN xs 0 n = 0 := by subst h; rfl
set_option maxHeartbeats 2000000 in
theorem cc_ss {xs ys : List Value} {n m c d : Nat} (hx : Bols xs) (hxl : xs.length = n * 1) (hc : n ≤ c ∧ c ≤ 9223372036854775807) (hy : Ints .i64 ys) (hyl : ys.length = m * 1) (hd : m ≤ d ∧ d ≤ 9223372036854775807) :
    RunsTrue Try.prog 6 [.slice (some ⟨0, 0, none⟩) n c, .slice (some ⟨1, 0, none⟩) m d] [(0, ⟨.old, xs⟩), (1, ⟨.old, ys⟩)] 2 := by
  have oks0 : okS [] 0 := ⟨[], rfl, rfl⟩
  have fx := hx.fl
  have fy := hy.fl
  have hX : XOkZ ccV Try.prog := noXz_ok rfl
  have hT : TOkZ ccV Try.prog := T_okV rfl ccT_one
  have hL : LOkZ ccV Try.prog := noL_okV rfl
  have hxl' : xs.length = n := by omega
  have hyl' : ys.length = m := by omega
  have ex1 : xs.take n = xs := take_len hxl'
  have ey1 : ys.take m = ys := take_len hyl'
  have lx3 : (xs ++ mkB3 n).length = n + 3 := ok_app3 hxl' rfl
  have ly3 : (ys ++ mkI3 m).length = m + 3 := ok_app3 hyl' rfl
  have ex2 : (xs ++ mkB3 n).take n = xs := List.take_left' hxl'
  have ey2 : (ys ++ mkI3 m).take m = ys := List.take_left' hyl'
  have ex3 : (xs ++ mkB3 n).take (n + 3) = xs ++ mkB3 n := take_len lx3
  have ey3 : (ys ++ mkI3 m).take (m + 3) = ys ++ mkI3 m := take_len ly3
  have fx3 := (hx.app (mkB3_bols n)).fl
  have fy3 := (hy.app (mkI3_ints m)).fl
  have bx3 := hx.app (mkB3_bols n)
  have iy3 := hy.app (mkI3_ints m)
  have qx : n ≤ (xs ++ mkB3 n).length := by omega
  have qy : m ≤ (ys ++ mkI3 m).length := by omega
  have qx3 : n + 3 ≤ (xs ++ mkB3 n).length := Nat.le_of_eq lx3.symm
  have qy3 : m + 3 ≤ (ys ++ mkI3 m).length := Nat.le_of_eq ly3.symm
  have es : (spL xs).take (spN xs * 3) = spL xs := take_len (spnCells_len _)
  have fs : Fl (spL xs) := spnCells_Fl _
  have ls : spN xs * 3 ≤ (spL xs).length := Nat.le_of_eq (spnCells_len _).symm
  have oks : okS (spL xs) (spN xs) := ⟨_, rfl, rfl⟩
  have ec : (cdL xs ys).take n = cdL xs ys := take_len (by rw [cdL_len]; exact hxl')
  have fc : Fl (cdL xs ys) := Fl.ints _ _
  have lc : n ≤ (cdL xs ys).length := by rw [cdL_len]; omega
  have okc : okI (cdL xs ys) n := ⟨cellsOf_Ints _ _, by rw [cdL_len]; omega⟩
  have er : (nzL ys 0 m).take (nzN ys 0 m * 2) = nzL ys 0 m := take_len (nzL_len ys m 0)
  have ir := nzL_Ints ys m 0
  have fr := ir.fl
  have lr : nzN ys 0 m * 2 ≤ (nzL ys 0 m).length := Nat.le_of_eq (nzL_len ys m 0).symm
  have nr := nzN_le ys m 0
  unfold mkB3 at ex2 ex3 lx3 fx3 bx3 qx qx3
  unfold mkI3 at ey2 ey3 ly3 fy3 iy3 qy qy3
  by_cases h1 : n ≤ 200
  case neg =>
    have g1 : decide ((n : Int) > 200) = true := by simp only [decide_eq_true_eq]; omega
    exact run_val hX hT hL (cc_ss_l1 xs ys n m c d) (by simp only [Alls, g1, cond_true, and_self]) rfl
  have g1 : decide ((n : Int) > 200) = false := by simp only [decide_eq_false_iff_not]; omega
  by_cases h2 : m ≤ 200
  case neg =>
    have g2 : decide ((m : Int) > 200) = true := by simp only [decide_eq_true_eq]; omega
    exact run_val hX hT hL (cc_ss_l2 xs ys n m c d) (by simp only [Alls, g1, g2, cond_false, and_self]) rfl
  have g2 : decide ((m : Int) > 200) = false := by simp only [decide_eq_false_iff_not]; omega
  by_cases k0 : nzN ys 0 m = 0
  · by_cases k1 : n = m
    · have k1' := k1.symm
      by_cases k2 : n = 0
      · have k3 : m = 0 := by omega
        refine run_val hX hT hL (cc_ss_e xs ys n m c d) ?_ rfl
        simp only [Alls, avLen, ex1, ex2, ex3, ey1, ey2, ey3, es, ec, er, Nat.zero_mul, Nat.zero_add, List.take_zero, List.length_nil, List.nil_append, cond_false, cond_true]
        repeat' (first | with_reducible exact trivial | with_reducible apply And.intro)
        all_goals first | with_reducible assumption | omega | with_reducible rfl | (first | exact k0 | exact k1 | exact g1 | exact g2 | exact ⟨hx, hxl⟩ | exact ⟨hy, hyl⟩ | exact okc | exact oks | exact oks0 | exact rfl | exact ⟨rfl, rfl⟩ | exact Fl.of rfl | exact decide_eq_true rfl)
      · subst k1
        refine run_val hX hT hL (cc_ss_qz xs ys n n c d) ?_ rfl
        simp only [Alls, avLen, ex1, ex2, ex3, ey1, ey2, ey3, es, ec, er, Nat.zero_mul, Nat.zero_add, List.take_zero, List.length_nil, List.nil_append, cond_false, cond_true]
        repeat' (first | with_reducible exact trivial | with_reducible apply And.intro)
        all_goals first | with_reducible assumption | omega | with_reducible rfl | (first | exact k0 | exact k1 | exact g1 | exact g2 | exact ⟨hx, hxl⟩ | exact ⟨hy, hyl⟩ | exact okc | exact oks | exact oks0 | exact rfl | exact ⟨rfl, rfl⟩ | exact Fl.of rfl | exact decide_eq_true rfl)
    · by_cases k2 : n = 0
      ·
        refine run_val hX hT hL (cc_ss_xtz xs ys n m c d) ?_ rfl
        simp only [Alls, avLen, ex1, ex2, ex3, ey1, ey2, ey3, es, ec, er, Nat.zero_mul, Nat.zero_add, List.take_zero, List.length_nil, List.nil_append, cond_false, cond_true]
        repeat' (first | with_reducible exact trivial | with_reducible apply And.intro)
        all_goals first | with_reducible assumption | omega | with_reducible rfl | (first | exact k0 | exact k1 | exact g1 | exact g2 | exact ⟨hx, hxl⟩ | exact ⟨hy, hyl⟩ | exact okc | exact oks | exact oks0 | exact rfl | exact ⟨rfl, rfl⟩ | exact Fl.of rfl | exact decide_eq_true rfl)
      ·
        refine run_val hX hT hL (cc_ss_xfz xs ys n m c d) ?_ rfl
        simp only [Alls, avLen, ex1, ex2, ex3, ey1, ey2, ey3, es, ec, er, Nat.zero_mul, Nat.zero_add, List.take_zero, List.length_nil, List.nil_append, cond_false, cond_true]
        repeat' (first | with_reducible exact trivial | with_reducible apply And.intro)
        all_goals first | with_reducible assumption | omega | with_reducible rfl | (first | exact k0 | exact k1 | exact g1 | exact g2 | exact ⟨hx, hxl⟩ | exact ⟨hy, hyl⟩ | exact okc | exact oks | exact oks0 | exact rfl | exact ⟨rfl, rfl⟩ | exact Fl.of rfl | exact decide_eq_true rfl)
  · by_cases k1 : n = m
    · have k2 : n ≠ 0 := fun e => k0 (nz_nil (by omega) ys)
      subst k1
      refine run_val hX hT hL (cc_ss_qw xs ys n n c d) ?_ rfl
      simp only [Alls, avLen, ex1, ex2, ex3, ey1, ey2, ey3, es, ec, er, Nat.zero_mul, Nat.zero_add, List.take_zero, List.length_nil, List.nil_append, cond_false, cond_true]
      repeat' (first | with_reducible exact trivial | with_reducible apply And.intro)
      all_goals first | with_reducible assumption | omega | with_reducible rfl | (first | exact k0 | exact k1 | exact g1 | exact g2 | exact ⟨hx, hxl⟩ | exact ⟨hy, hyl⟩ | exact okc | exact oks | exact oks0 | exact rfl | exact ⟨rfl, rfl⟩ | exact Fl.of rfl | exact decide_eq_true rfl)
    · by_cases k2 : n = 0
      ·
        refine run_val hX hT hL (cc_ss_xtw xs ys n m c d) ?_ rfl
        simp only [Alls, avLen, ex1, ex2, ex3, ey1, ey2, ey3, es, ec, er, Nat.zero_mul, Nat.zero_add, List.take_zero, List.length_nil, List.nil_append, cond_false, cond_true]
        repeat' (first | with_reducible exact trivial | with_reducible apply And.intro)
        all_goals first | with_reducible assumption | omega | with_reducible rfl | (first | exact k0 | exact k1 | exact g1 | exact g2 | exact ⟨hx, hxl⟩ | exact ⟨hy, hyl⟩ | exact okc | exact oks | exact oks0 | exact rfl | exact ⟨rfl, rfl⟩ | exact Fl.of rfl | exact decide_eq_true rfl)
      ·
        refine run_val hX hT hL (cc_ss_xfw xs ys n m c d) ?_ rfl
        simp only [Alls, avLen, ex1, ex2, ex3, ey1, ey2, ey3, es, ec, er, Nat.zero_mul, Nat.zero_add, List.take_zero, List.length_nil, List.nil_append, cond_false, cond_true]
        repeat' (first | with_reducible exact trivial | with_reducible apply And.intro)
        all_goals first | with_reducible assumption | omega | with_reducible rfl | (first | exact k0 | exact k1 | exact g1 | exact g2 | exact ⟨hx, hxl⟩ | exact ⟨hy, hyl⟩ | exact okc | exact oks | exact oks0 | exact rfl | exact ⟨rfl, rfl⟩ | exact Fl.of rfl | exact decide_eq_true rfl)
end Go.Proofs.Ytmjmdjcgjmjigaa
