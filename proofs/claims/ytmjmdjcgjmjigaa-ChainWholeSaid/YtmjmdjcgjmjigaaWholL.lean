/-
  Chapter 19: the statement ChainWhole, run at any lists.
-/
import Derived.Test.YtmjmdjcgjmjigaaLentT
import Derived.Test.YtmjmdjcgjmjigaaResB
namespace Go.Proofs.Ytmjmdjcgjmjigaa
set_option linter.unusedSimpArgs false
set_option linter.unusedVariables false
set_option linter.unusedSectionVars false
open Go Go.RowKit

def whT : TFun := orTz (mkT 10 [] gTrueY) (orTz (mkT 11 [.s 1] (gS sSp)) (mkT 12 [.s 1, .s 1] (gSS sCd)))
theorem whT_one : TOneZ Try.prog whT := orTz_ok (mkT_one aw_gok) (orTz_ok (mkT_one sp_gok) (mkT_one cd_gok))
def whV (L : LFun) : Tv := ⟨whT, noXz, L, fun f => bif Nat.beq f 3 then [17, 23, 41, 46, 55, 63, 73, 91, 105, 113, 118, 125, 131, 139, 145, 148, 162, 166, 173, 176, 187, 196] else [], allSy 3 [], fun _ => [], fun _ => 0⟩
def whB (P : Program) : Code := bodyIn P 3 10
def wiB (P : Program) : Code := bodyIn P 3 17
def woS (n c d N k : Nat) (at_ : Int) : List (Nat × Value) := [(0, .slice (some ⟨0, 0, none⟩) n c), (1, .slice (some ⟨1, 0, none⟩) n d), (5, .bool true), (6, .slice (some ⟨2, 0, none⟩) N (capBig + 2)), (7, .slice (some ⟨3, 0, none⟩) n (capBig + 3)), (9, .int .i64 at_), (10, .int .i64 (k : Int))]
def woH (xs ys sp cd : List Value) : Hp := [(3, lentR cd), (2, lentR sp), (0, ⟨.old, xs⟩), (1, ⟨.old, ys⟩)]
def wiS (n c d N k : Nat) (at_ : Int) (i dn nm : Nat) : List (Nat × Value) := [(0, .slice (some ⟨0, 0, none⟩) n c), (1, .slice (some ⟨1, 0, none⟩) n d), (5, .bool true), (6, .slice (some ⟨2, 0, none⟩) N (capBig + 2)), (7, .slice (some ⟨3, 0, none⟩) n (capBig + 3)), (9, .int .i64 at_), (10, .int .i64 (k : Int)), (11, .int .i64 (dn : Int)), (12, .int .i64 (nm : Int)), (13, .int .i64 (i : Int))]
theorem wi_zt (inr : Bool) (xs ys sp cd : List Value) (n c d N k : Nat) (at_ : Int) (i dn nm : Nat) : prjZ [0, 1, 5, 6, 7, 9, 10, 11, 12, 13] (codeZ (whV noL) Try.prog (runZ (whV noL) Try.prog 5) 3 inr 100000 (wiB Try.prog) (SL 198 (wiS n c d N k at_ i dn nm)) (woH xs ys sp cd) 4 [true, true, false, true, false, true, false]) =
Res.ok
  ((Xt.normal, (198 : Nat),
      [((0 : Nat), Value.slice (some (Addr.mk (0 : Nat) (0 : Nat) none)) n c),
        ((1 : Nat), Value.slice (some (Addr.mk (1 : Nat) (0 : Nat) none)) n d), ((5 : Nat), Value.bool true),
        ((6 : Nat), Value.slice (some (Addr.mk (2 : Nat) (0 : Nat) none)) N (capBig + (2 : Nat))),
        ((7 : Nat), Value.slice (some (Addr.mk (3 : Nat) (0 : Nat) none)) n (capBig + (3 : Nat))),
        ((9 : Nat), Value.int IntKind.i64 at_), ((10 : Nat), Value.int IntKind.i64 (↑k : Int)),
        ((11 : Nat), Value.int IntKind.i64 (↑(dn + (1 : Nat)) : Int)), ((12 : Nat), Value.int IntKind.i64 (↑nm : Int)),
        ((13 : Nat), Value.int IntKind.i64 (↑(i + (1 : Nat)) : Int))],
      [((3 : Nat), Rw.mk Kd.lent cd), ((2 : Nat), Rw.mk Kd.lent sp), ((0 : Nat), Rw.mk Kd.old xs),
        ((1 : Nat), Rw.mk Kd.old ys)],
      (4 : Nat), [], []),
    [],
    [(0 : Int) ≤ (↑k : Int) ∧ (↑k : Int) < (↑N : Int),
      sp[k * (3 : Nat) + (1 : Nat)]? = some (Value.int IntKind.i64 (intAt sp (k * (3 : Nat) + (1 : Nat)))),
      decide ((↑i : Int) < intAt sp (k * (3 : Nat) + (1 : Nat))) = true,
      (0 : Int) ≤ (↑i : Int) ∧ (↑i : Int) < (↑n : Int), xs[i]? = some (Value.bool (boolAt xs i)),
      (0 : Int) ≤ (↑k : Int) ∧ (↑k : Int) < (↑N : Int),
      sp[k * (3 : Nat) + (1 : Nat)]? = some (Value.int IntKind.i64 (intAt sp (k * (3 : Nat) + (1 : Nat)))),
      rg IntKind.i64 (intAt sp (k * (3 : Nat) + (1 : Nat)) - (1 : Int)),
      decide ((↑i : Int) < intAt sp (k * (3 : Nat) + (1 : Nat)) - (1 : Int)) = true, (!boolAt xs i == true) = false,
      (0 : Int) ≤ (↑i : Int) ∧ (↑i : Int) < (↑n : Int), cd[i]? = some (Value.int IntKind.i64 (intAt cd i)),
      (intAt cd i == (0 : Int)) = true, rg IntKind.i64 (↑(dn + (1 : Nat)) : Int),
      (0 : Int) ≤ (↑i : Int) ∧ (↑i : Int) < (↑n : Int), cd[i]? = some (Value.int IntKind.i64 (intAt cd i)),
      (intAt cd i != (0 : Int)) = false, (0 : Int) ≤ (↑i : Int) ∧ (↑i : Int) < (↑n : Int),
      cd[i]? = some (Value.int IntKind.i64 (intAt cd i)), (intAt cd i == (0 : Int)) = true,
      (0 : Int) ≤ (↑i : Int) ∧ (↑i : Int) < (↑n : Int), ys[i]? = some (Value.int IntKind.i64 (intAt ys i)),
      (intAt ys i != (0 : Int)) = false, rg IntKind.i64 (↑(i + (1 : Nat)) : Int)]) := by kernel_rfl
theorem wi_zf (inr : Bool) (xs ys sp cd : List Value) (n c d N k : Nat) (at_ : Int) (i dn nm : Nat) : prjZ [0, 1, 5, 6, 7, 9, 10, 11, 12, 13] (codeZ (whV noL) Try.prog (runZ (whV noL) Try.prog 5) 3 inr 100000 (wiB Try.prog) (SL 198 (wiS n c d N k at_ i dn nm)) (woH xs ys sp cd) 4 [true, false, false, true, false, true, false]) =
Res.ok
  ((Xt.normal, (198 : Nat),
      [((0 : Nat), Value.slice (some (Addr.mk (0 : Nat) (0 : Nat) none)) n c),
        ((1 : Nat), Value.slice (some (Addr.mk (1 : Nat) (0 : Nat) none)) n d), ((5 : Nat), Value.bool true),
        ((6 : Nat), Value.slice (some (Addr.mk (2 : Nat) (0 : Nat) none)) N (capBig + (2 : Nat))),
        ((7 : Nat), Value.slice (some (Addr.mk (3 : Nat) (0 : Nat) none)) n (capBig + (3 : Nat))),
        ((9 : Nat), Value.int IntKind.i64 at_), ((10 : Nat), Value.int IntKind.i64 (↑k : Int)),
        ((11 : Nat), Value.int IntKind.i64 (↑(dn + (1 : Nat)) : Int)), ((12 : Nat), Value.int IntKind.i64 (↑nm : Int)),
        ((13 : Nat), Value.int IntKind.i64 (↑(i + (1 : Nat)) : Int))],
      [((3 : Nat), Rw.mk Kd.lent cd), ((2 : Nat), Rw.mk Kd.lent sp), ((0 : Nat), Rw.mk Kd.old xs),
        ((1 : Nat), Rw.mk Kd.old ys)],
      (4 : Nat), [], []),
    [],
    [(0 : Int) ≤ (↑k : Int) ∧ (↑k : Int) < (↑N : Int),
      sp[k * (3 : Nat) + (1 : Nat)]? = some (Value.int IntKind.i64 (intAt sp (k * (3 : Nat) + (1 : Nat)))),
      decide ((↑i : Int) < intAt sp (k * (3 : Nat) + (1 : Nat))) = true,
      (0 : Int) ≤ (↑i : Int) ∧ (↑i : Int) < (↑n : Int), xs[i]? = some (Value.bool (boolAt xs i)),
      (0 : Int) ≤ (↑k : Int) ∧ (↑k : Int) < (↑N : Int),
      sp[k * (3 : Nat) + (1 : Nat)]? = some (Value.int IntKind.i64 (intAt sp (k * (3 : Nat) + (1 : Nat)))),
      rg IntKind.i64 (intAt sp (k * (3 : Nat) + (1 : Nat)) - (1 : Int)),
      decide ((↑i : Int) < intAt sp (k * (3 : Nat) + (1 : Nat)) - (1 : Int)) = false,
      (0 : Int) ≤ (↑k : Int) ∧ (↑k : Int) < (↑N : Int),
      sp[k * (3 : Nat) + (2 : Nat)]? = some (Value.bool (boolAt sp (k * (3 : Nat) + (2 : Nat)))),
      (!boolAt xs i == bif false then true else boolAt sp (k * (3 : Nat) + (2 : Nat))) = false,
      (0 : Int) ≤ (↑i : Int) ∧ (↑i : Int) < (↑n : Int), cd[i]? = some (Value.int IntKind.i64 (intAt cd i)),
      (intAt cd i == (0 : Int)) = true, rg IntKind.i64 (↑(dn + (1 : Nat)) : Int),
      (0 : Int) ≤ (↑i : Int) ∧ (↑i : Int) < (↑n : Int), cd[i]? = some (Value.int IntKind.i64 (intAt cd i)),
      (intAt cd i != (0 : Int)) = false, (0 : Int) ≤ (↑i : Int) ∧ (↑i : Int) < (↑n : Int),
      cd[i]? = some (Value.int IntKind.i64 (intAt cd i)), (intAt cd i == (0 : Int)) = true,
      (0 : Int) ≤ (↑i : Int) ∧ (↑i : Int) < (↑n : Int), ys[i]? = some (Value.int IntKind.i64 (intAt ys i)),
      (intAt ys i != (0 : Int)) = false, rg IntKind.i64 (↑(i + (1 : Nat)) : Int)]) := by kernel_rfl
theorem wi_ot (inr : Bool) (xs ys sp cd : List Value) (n c d N k : Nat) (at_ : Int) (i dn nm : Nat) : prjZ [0, 1, 5, 6, 7, 9, 10, 11, 12, 13] (codeZ (whV noL) Try.prog (runZ (whV noL) Try.prog 5) 3 inr 100000 (wiB Try.prog) (SL 198 (wiS n c d N k at_ i dn nm)) (woH xs ys sp cd) 4 [true, true, false, false, true, false, false]) =
Res.ok
  ((Xt.normal, (198 : Nat),
      [((0 : Nat), Value.slice (some (Addr.mk (0 : Nat) (0 : Nat) none)) n c),
        ((1 : Nat), Value.slice (some (Addr.mk (1 : Nat) (0 : Nat) none)) n d), ((5 : Nat), Value.bool true),
        ((6 : Nat), Value.slice (some (Addr.mk (2 : Nat) (0 : Nat) none)) N (capBig + (2 : Nat))),
        ((7 : Nat), Value.slice (some (Addr.mk (3 : Nat) (0 : Nat) none)) n (capBig + (3 : Nat))),
        ((9 : Nat), Value.int IntKind.i64 at_), ((10 : Nat), Value.int IntKind.i64 (↑k : Int)),
        ((11 : Nat), Value.int IntKind.i64 (↑dn : Int)), ((12 : Nat), Value.int IntKind.i64 (↑nm : Int)),
        ((13 : Nat), Value.int IntKind.i64 (↑(i + (1 : Nat)) : Int))],
      [((3 : Nat), Rw.mk Kd.lent cd), ((2 : Nat), Rw.mk Kd.lent sp), ((0 : Nat), Rw.mk Kd.old xs),
        ((1 : Nat), Rw.mk Kd.old ys)],
      (4 : Nat), [], []),
    [],
    [(0 : Int) ≤ (↑k : Int) ∧ (↑k : Int) < (↑N : Int),
      sp[k * (3 : Nat) + (1 : Nat)]? = some (Value.int IntKind.i64 (intAt sp (k * (3 : Nat) + (1 : Nat)))),
      decide ((↑i : Int) < intAt sp (k * (3 : Nat) + (1 : Nat))) = true,
      (0 : Int) ≤ (↑i : Int) ∧ (↑i : Int) < (↑n : Int), xs[i]? = some (Value.bool (boolAt xs i)),
      (0 : Int) ≤ (↑k : Int) ∧ (↑k : Int) < (↑N : Int),
      sp[k * (3 : Nat) + (1 : Nat)]? = some (Value.int IntKind.i64 (intAt sp (k * (3 : Nat) + (1 : Nat)))),
      rg IntKind.i64 (intAt sp (k * (3 : Nat) + (1 : Nat)) - (1 : Int)),
      decide ((↑i : Int) < intAt sp (k * (3 : Nat) + (1 : Nat)) - (1 : Int)) = true, (!boolAt xs i == true) = false,
      (0 : Int) ≤ (↑i : Int) ∧ (↑i : Int) < (↑n : Int), cd[i]? = some (Value.int IntKind.i64 (intAt cd i)),
      (intAt cd i == (0 : Int)) = false, (0 : Int) ≤ (↑i : Int) ∧ (↑i : Int) < (↑n : Int),
      cd[i]? = some (Value.int IntKind.i64 (intAt cd i)), (intAt cd i != (0 : Int)) = true,
      (0 : Int) ≤ (↑i : Int) ∧ (↑i : Int) < (↑n : Int), cd[i]? = some (Value.int IntKind.i64 (intAt cd i)),
      (intAt cd i != (1 : Int)) = false, (0 : Int) ≤ (↑i : Int) ∧ (↑i : Int) < (↑n : Int),
      cd[i]? = some (Value.int IntKind.i64 (intAt cd i)), (intAt cd i == (0 : Int)) = false,
      rg IntKind.i64 (↑(i + (1 : Nat)) : Int)]) := by kernel_rfl
theorem wi_of (inr : Bool) (xs ys sp cd : List Value) (n c d N k : Nat) (at_ : Int) (i dn nm : Nat) : prjZ [0, 1, 5, 6, 7, 9, 10, 11, 12, 13] (codeZ (whV noL) Try.prog (runZ (whV noL) Try.prog 5) 3 inr 100000 (wiB Try.prog) (SL 198 (wiS n c d N k at_ i dn nm)) (woH xs ys sp cd) 4 [true, false, false, false, true, false, false]) =
Res.ok
  ((Xt.normal, (198 : Nat),
      [((0 : Nat), Value.slice (some (Addr.mk (0 : Nat) (0 : Nat) none)) n c),
        ((1 : Nat), Value.slice (some (Addr.mk (1 : Nat) (0 : Nat) none)) n d), ((5 : Nat), Value.bool true),
        ((6 : Nat), Value.slice (some (Addr.mk (2 : Nat) (0 : Nat) none)) N (capBig + (2 : Nat))),
        ((7 : Nat), Value.slice (some (Addr.mk (3 : Nat) (0 : Nat) none)) n (capBig + (3 : Nat))),
        ((9 : Nat), Value.int IntKind.i64 at_), ((10 : Nat), Value.int IntKind.i64 (↑k : Int)),
        ((11 : Nat), Value.int IntKind.i64 (↑dn : Int)), ((12 : Nat), Value.int IntKind.i64 (↑nm : Int)),
        ((13 : Nat), Value.int IntKind.i64 (↑(i + (1 : Nat)) : Int))],
      [((3 : Nat), Rw.mk Kd.lent cd), ((2 : Nat), Rw.mk Kd.lent sp), ((0 : Nat), Rw.mk Kd.old xs),
        ((1 : Nat), Rw.mk Kd.old ys)],
      (4 : Nat), [], []),
    [],
    [(0 : Int) ≤ (↑k : Int) ∧ (↑k : Int) < (↑N : Int),
      sp[k * (3 : Nat) + (1 : Nat)]? = some (Value.int IntKind.i64 (intAt sp (k * (3 : Nat) + (1 : Nat)))),
      decide ((↑i : Int) < intAt sp (k * (3 : Nat) + (1 : Nat))) = true,
      (0 : Int) ≤ (↑i : Int) ∧ (↑i : Int) < (↑n : Int), xs[i]? = some (Value.bool (boolAt xs i)),
      (0 : Int) ≤ (↑k : Int) ∧ (↑k : Int) < (↑N : Int),
      sp[k * (3 : Nat) + (1 : Nat)]? = some (Value.int IntKind.i64 (intAt sp (k * (3 : Nat) + (1 : Nat)))),
      rg IntKind.i64 (intAt sp (k * (3 : Nat) + (1 : Nat)) - (1 : Int)),
      decide ((↑i : Int) < intAt sp (k * (3 : Nat) + (1 : Nat)) - (1 : Int)) = false,
      (0 : Int) ≤ (↑k : Int) ∧ (↑k : Int) < (↑N : Int),
      sp[k * (3 : Nat) + (2 : Nat)]? = some (Value.bool (boolAt sp (k * (3 : Nat) + (2 : Nat)))),
      (!boolAt xs i == bif false then true else boolAt sp (k * (3 : Nat) + (2 : Nat))) = false,
      (0 : Int) ≤ (↑i : Int) ∧ (↑i : Int) < (↑n : Int), cd[i]? = some (Value.int IntKind.i64 (intAt cd i)),
      (intAt cd i == (0 : Int)) = false, (0 : Int) ≤ (↑i : Int) ∧ (↑i : Int) < (↑n : Int),
      cd[i]? = some (Value.int IntKind.i64 (intAt cd i)), (intAt cd i != (0 : Int)) = true,
      (0 : Int) ≤ (↑i : Int) ∧ (↑i : Int) < (↑n : Int), cd[i]? = some (Value.int IntKind.i64 (intAt cd i)),
      (intAt cd i != (1 : Int)) = false, (0 : Int) ≤ (↑i : Int) ∧ (↑i : Int) < (↑n : Int),
      cd[i]? = some (Value.int IntKind.i64 (intAt cd i)), (intAt cd i == (0 : Int)) = false,
      rg IntKind.i64 (↑(i + (1 : Nat)) : Int)]) := by kernel_rfl
theorem wi_nt (inr : Bool) (xs ys sp cd : List Value) (n c d N k : Nat) (at_ : Int) (i dn nm : Nat) : prjZ [0, 1, 5, 6, 7, 9, 10, 11, 12, 13] (codeZ (whV noL) Try.prog (runZ (whV noL) Try.prog 5) 3 inr 100000 (wiB Try.prog) (SL 198 (wiS n c d N k at_ i dn nm)) (woH xs ys sp cd) 4 [true, true, false, false, true, true, false]) =
Res.ok
  ((Xt.normal, (198 : Nat),
      [((0 : Nat), Value.slice (some (Addr.mk (0 : Nat) (0 : Nat) none)) n c),
        ((1 : Nat), Value.slice (some (Addr.mk (1 : Nat) (0 : Nat) none)) n d), ((5 : Nat), Value.bool true),
        ((6 : Nat), Value.slice (some (Addr.mk (2 : Nat) (0 : Nat) none)) N (capBig + (2 : Nat))),
        ((7 : Nat), Value.slice (some (Addr.mk (3 : Nat) (0 : Nat) none)) n (capBig + (3 : Nat))),
        ((9 : Nat), Value.int IntKind.i64 at_), ((10 : Nat), Value.int IntKind.i64 (↑k : Int)),
        ((11 : Nat), Value.int IntKind.i64 (↑dn : Int)), ((12 : Nat), Value.int IntKind.i64 (↑(nm + (1 : Nat)) : Int)),
        ((13 : Nat), Value.int IntKind.i64 (↑(i + (1 : Nat)) : Int))],
      [((3 : Nat), Rw.mk Kd.lent cd), ((2 : Nat), Rw.mk Kd.lent sp), ((0 : Nat), Rw.mk Kd.old xs),
        ((1 : Nat), Rw.mk Kd.old ys)],
      (4 : Nat), [], []),
    [],
    [(0 : Int) ≤ (↑k : Int) ∧ (↑k : Int) < (↑N : Int),
      sp[k * (3 : Nat) + (1 : Nat)]? = some (Value.int IntKind.i64 (intAt sp (k * (3 : Nat) + (1 : Nat)))),
      decide ((↑i : Int) < intAt sp (k * (3 : Nat) + (1 : Nat))) = true,
      (0 : Int) ≤ (↑i : Int) ∧ (↑i : Int) < (↑n : Int), xs[i]? = some (Value.bool (boolAt xs i)),
      (0 : Int) ≤ (↑k : Int) ∧ (↑k : Int) < (↑N : Int),
      sp[k * (3 : Nat) + (1 : Nat)]? = some (Value.int IntKind.i64 (intAt sp (k * (3 : Nat) + (1 : Nat)))),
      rg IntKind.i64 (intAt sp (k * (3 : Nat) + (1 : Nat)) - (1 : Int)),
      decide ((↑i : Int) < intAt sp (k * (3 : Nat) + (1 : Nat)) - (1 : Int)) = true, (!boolAt xs i == true) = false,
      (0 : Int) ≤ (↑i : Int) ∧ (↑i : Int) < (↑n : Int), cd[i]? = some (Value.int IntKind.i64 (intAt cd i)),
      (intAt cd i == (0 : Int)) = false, (0 : Int) ≤ (↑i : Int) ∧ (↑i : Int) < (↑n : Int),
      cd[i]? = some (Value.int IntKind.i64 (intAt cd i)), (intAt cd i != (0 : Int)) = true,
      (0 : Int) ≤ (↑i : Int) ∧ (↑i : Int) < (↑n : Int), cd[i]? = some (Value.int IntKind.i64 (intAt cd i)),
      (intAt cd i != (1 : Int)) = true, rg IntKind.i64 (↑(nm + (1 : Nat)) : Int),
      (0 : Int) ≤ (↑i : Int) ∧ (↑i : Int) < (↑n : Int), cd[i]? = some (Value.int IntKind.i64 (intAt cd i)),
      (intAt cd i == (0 : Int)) = false, rg IntKind.i64 (↑(i + (1 : Nat)) : Int)]) := by kernel_rfl
theorem wi_nf (inr : Bool) (xs ys sp cd : List Value) (n c d N k : Nat) (at_ : Int) (i dn nm : Nat) : prjZ [0, 1, 5, 6, 7, 9, 10, 11, 12, 13] (codeZ (whV noL) Try.prog (runZ (whV noL) Try.prog 5) 3 inr 100000 (wiB Try.prog) (SL 198 (wiS n c d N k at_ i dn nm)) (woH xs ys sp cd) 4 [true, false, false, false, true, true, false]) =
Res.ok
  ((Xt.normal, (198 : Nat),
      [((0 : Nat), Value.slice (some (Addr.mk (0 : Nat) (0 : Nat) none)) n c),
        ((1 : Nat), Value.slice (some (Addr.mk (1 : Nat) (0 : Nat) none)) n d), ((5 : Nat), Value.bool true),
        ((6 : Nat), Value.slice (some (Addr.mk (2 : Nat) (0 : Nat) none)) N (capBig + (2 : Nat))),
        ((7 : Nat), Value.slice (some (Addr.mk (3 : Nat) (0 : Nat) none)) n (capBig + (3 : Nat))),
        ((9 : Nat), Value.int IntKind.i64 at_), ((10 : Nat), Value.int IntKind.i64 (↑k : Int)),
        ((11 : Nat), Value.int IntKind.i64 (↑dn : Int)), ((12 : Nat), Value.int IntKind.i64 (↑(nm + (1 : Nat)) : Int)),
        ((13 : Nat), Value.int IntKind.i64 (↑(i + (1 : Nat)) : Int))],
      [((3 : Nat), Rw.mk Kd.lent cd), ((2 : Nat), Rw.mk Kd.lent sp), ((0 : Nat), Rw.mk Kd.old xs),
        ((1 : Nat), Rw.mk Kd.old ys)],
      (4 : Nat), [], []),
    [],
    [(0 : Int) ≤ (↑k : Int) ∧ (↑k : Int) < (↑N : Int),
      sp[k * (3 : Nat) + (1 : Nat)]? = some (Value.int IntKind.i64 (intAt sp (k * (3 : Nat) + (1 : Nat)))),
      decide ((↑i : Int) < intAt sp (k * (3 : Nat) + (1 : Nat))) = true,
      (0 : Int) ≤ (↑i : Int) ∧ (↑i : Int) < (↑n : Int), xs[i]? = some (Value.bool (boolAt xs i)),
      (0 : Int) ≤ (↑k : Int) ∧ (↑k : Int) < (↑N : Int),
      sp[k * (3 : Nat) + (1 : Nat)]? = some (Value.int IntKind.i64 (intAt sp (k * (3 : Nat) + (1 : Nat)))),
      rg IntKind.i64 (intAt sp (k * (3 : Nat) + (1 : Nat)) - (1 : Int)),
      decide ((↑i : Int) < intAt sp (k * (3 : Nat) + (1 : Nat)) - (1 : Int)) = false,
      (0 : Int) ≤ (↑k : Int) ∧ (↑k : Int) < (↑N : Int),
      sp[k * (3 : Nat) + (2 : Nat)]? = some (Value.bool (boolAt sp (k * (3 : Nat) + (2 : Nat)))),
      (!boolAt xs i == bif false then true else boolAt sp (k * (3 : Nat) + (2 : Nat))) = false,
      (0 : Int) ≤ (↑i : Int) ∧ (↑i : Int) < (↑n : Int), cd[i]? = some (Value.int IntKind.i64 (intAt cd i)),
      (intAt cd i == (0 : Int)) = false, (0 : Int) ≤ (↑i : Int) ∧ (↑i : Int) < (↑n : Int),
      cd[i]? = some (Value.int IntKind.i64 (intAt cd i)), (intAt cd i != (0 : Int)) = true,
      (0 : Int) ≤ (↑i : Int) ∧ (↑i : Int) < (↑n : Int), cd[i]? = some (Value.int IntKind.i64 (intAt cd i)),
      (intAt cd i != (1 : Int)) = true, rg IntKind.i64 (↑(nm + (1 : Nat)) : Int),
      (0 : Int) ≤ (↑i : Int) ∧ (↑i : Int) < (↑n : Int), cd[i]? = some (Value.int IntKind.i64 (intAt cd i)),
      (intAt cd i == (0 : Int)) = false, rg IntKind.i64 (↑(i + (1 : Nat)) : Int)]) := by kernel_rfl
theorem wi_done (inr : Bool) (xs ys sp cd : List Value) (n c d N k : Nat) (at_ : Int) (i dn nm : Nat) : prjZ [0, 1, 5, 6, 7, 9, 10, 11, 12] (codeZ (whV noL) Try.prog (runZ (whV noL) Try.prog 5) 3 inr 100000 (wiB Try.prog) (SL 198 (wiS n c d N k at_ i dn nm)) (woH xs ys sp cd) 4 [false]) =
Res.ok
  ((Xt.exit (2 : Nat), (198 : Nat),
      [((0 : Nat), Value.slice (some (Addr.mk (0 : Nat) (0 : Nat) none)) n c),
        ((1 : Nat), Value.slice (some (Addr.mk (1 : Nat) (0 : Nat) none)) n d), ((5 : Nat), Value.bool true),
        ((6 : Nat), Value.slice (some (Addr.mk (2 : Nat) (0 : Nat) none)) N (capBig + (2 : Nat))),
        ((7 : Nat), Value.slice (some (Addr.mk (3 : Nat) (0 : Nat) none)) n (capBig + (3 : Nat))),
        ((9 : Nat), Value.int IntKind.i64 at_), ((10 : Nat), Value.int IntKind.i64 (↑k : Int)),
        ((11 : Nat), Value.int IntKind.i64 (↑dn : Int)), ((12 : Nat), Value.int IntKind.i64 (↑nm : Int))],
      [((3 : Nat), Rw.mk Kd.lent cd), ((2 : Nat), Rw.mk Kd.lent sp), ((0 : Nat), Rw.mk Kd.old xs),
        ((1 : Nat), Rw.mk Kd.old ys)],
      (4 : Nat), [], []),
    [],
    [(0 : Int) ≤ (↑k : Int) ∧ (↑k : Int) < (↑N : Int),
      sp[k * (3 : Nat) + (1 : Nat)]? = some (Value.int IntKind.i64 (intAt sp (k * (3 : Nat) + (1 : Nat)))),
      decide ((↑i : Int) < intAt sp (k * (3 : Nat) + (1 : Nat))) = false]) := by kernel_rfl
def czN (cd : List Value) : Nat → Nat → Nat
  | _, 0 => 0
  | i, r + 1 => (if intAt cd i = 0 then 1 else 0) + czN cd (i + 1) r
def cnN (cd : List Value) : Nat → Nat → Nat
  | _, 0 => 0
  | i, r + 1 => (if intAt cd i ≠ 0 ∧ intAt cd i ≠ 1 then 1 else 0) + cnN cd (i + 1) r
/-- What is known of the lists. -/
structure WhF (xs ys sp cd : List Value) (n c d N : Nat) : Prop where
  bx : Bols xs
  lx : xs.length = n
  iy : Ints .i64 ys
  ly : ys.length = n
  ic : Ints .i64 cd
  lc : cd.length = n
  fs : Fl sp
  ls : sp.length = N * 3
  hn : n ≤ 200
  hN : N ≤ 1000
  hc : n ≤ c ∧ c ≤ 9223372036854775807
  hd : n ≤ d ∧ d ≤ 9223372036854775807
  g0 : ∀ k, k < N → sp[k * 3]? = some (.int .i64 (intAt sp (k * 3)))
  g1 : ∀ k, k < N → sp[k * 3 + 1]? = some (.int .i64 (intAt sp (k * 3 + 1)))
  g2 : ∀ k, k < N → sp[k * 3 + 2]? = some (.bool (boolAt sp (k * 3 + 2)))
  rg0 : ∀ k, k < N → 0 ≤ intAt sp (k * 3) ∧ intAt sp (k * 3) < intAt sp (k * 3 + 1) ∧ intAt sp (k * 3 + 1) ≤ n
  el : ∀ k, k < N → ∀ i : Nat, intAt sp (k * 3) ≤ i → (i : Int) < intAt sp (k * 3 + 1) → boolAt xs i = (decide ((i : Int) + 1 < intAt sp (k * 3 + 1)) || boolAt sp (k * 3 + 2)) ∧ (intAt cd i = 0 → intAt ys i = 0)
  first : 0 < N → intAt sp (0 * 3) = 0
  next : ∀ k, k + 1 < N → intAt sp ((k + 1) * 3) = intAt sp (k * 3 + 1)
  last : ∀ k, k + 1 = N → intAt sp (k * 3 + 1) = n
  grp : ∀ k, k < N → ((∀ i : Nat, intAt sp (k * 3) ≤ i → (i : Int) < intAt sp (k * 3 + 1) → intAt cd i = 0) ∧ boolAt sp (k * 3 + 2) = false) ∨
    ((∀ i : Nat, intAt sp (k * 3) ≤ i → (i : Int) < intAt sp (k * 3 + 1) → intAt cd i ≠ 0) ∧ (∃ q : Int, ∀ i : Nat, intAt sp (k * 3) ≤ i → (i : Int) < intAt sp (k * 3 + 1) → (i : Int) ≠ q → intAt cd i = 1) ∧ (boolAt sp (k * 3 + 2) = true → intAt cd (intAt sp (k * 3 + 1) - 1).toNat = 2))
theorem cz_all {cd : List Value} : ∀ (r i : Nat), (∀ j, i ≤ j → j < i + r → intAt cd j = 0) → czN cd i r = r ∧ cnN cd i r = 0
  | 0, i, _ => ⟨rfl, rfl⟩
  | r + 1, i, h => by
      obtain ⟨h1, h2⟩ := cz_all r (i + 1) fun j a b => h j (by omega) (by omega)
      have h0 := h i (by omega) (by omega)
      have e1 : czN cd i (r + 1) = 1 + czN cd (i + 1) r := by simp [czN, h0]
      have e2 : cnN cd i (r + 1) = cnN cd (i + 1) r := by simp [cnN, h0]
      omega
theorem cz_none {cd : List Value} : ∀ (r i : Nat), (∀ j, i ≤ j → j < i + r → intAt cd j ≠ 0) → czN cd i r = 0
  | 0, i, _ => rfl
  | r + 1, i, h => by
      have h1 := cz_none r (i + 1) fun j a b => h j (by omega) (by omega)
      have h0 := h i (by omega) (by omega)
      simp only [czN, h1, h0, if_false]
theorem cn_none {cd : List Value} : ∀ (r i : Nat), (∀ j, i ≤ j → j < i + r → intAt cd j = 1) → cnN cd i r = 0
  | 0, i, _ => rfl
  | r + 1, i, h => by
      have h1 := cn_none r (i + 1) fun j a b => h j (by omega) (by omega)
      have h0 := h i (by omega) (by omega)
      simp only [cnN, h1, h0, ne_eq, not_true_eq_false, and_false, if_false]
theorem cn_one {cd : List Value} {q : Int} : ∀ (r i : Nat), (∀ j, i ≤ j → j < i + r → (j : Int) ≠ q → intAt cd j = 1) → cnN cd i r ≤ 1
  | 0, i, _ => Nat.zero_le _
  | r + 1, i, h => by
      by_cases hq : (i : Int) = q
      · have h1 := cn_none r (i + 1) fun j a b => h j (by omega) (by omega) (by omega)
        simp only [cnN, h1]
        split <;> omega
      · have h1 := cn_one r (i + 1) fun j a b c => h j (by omega) (by omega) c
        have h0 := h i (by omega) (by omega) hq
        simp only [cnN, h0, ne_eq, not_true_eq_false, and_false, if_false]
        omega
theorem wo_rows {xs ys sp cd : List Value} {n c d N : Nat} (F : WhF xs ys sp cd n c d N) {h0 : Hp} : RbL 4 4 (fun n => n) h0 (woH xs ys sp cd) (woH xs ys sp cd) :=
  ⟨rb_row (m := 3) rfl rfl rfl rfl F.ic.fl, rb_row (m := 2) rfl rfl rfl rfl F.fs, rb_old (by omega) rfl (by rw [F.bx]; exact fl_bols _), rb_old (by omega) rfl F.iy.fl, trivial⟩
theorem wi_loop {inr : Bool} {h0 : Hp} {xs ys sp cd : List Value} {n c d N k : Nat} {at_ : Int} (F : WhF xs ys sp cd n c d N) (hk : k < N) : ∀ (r i dn nm : Nat), (i : Int) + r = intAt sp (k * 3 + 1) → intAt sp (k * 3) ≤ i → dn ≤ i → nm ≤ i →
    LRuns inr Try.prog (wiB Try.prog) 4 4 h0 198 (wiS n c d N k at_ i dn nm) (woH xs ys sp cd) 4
      (.exit 2, [(0, .slice (some ⟨0, 0, none⟩) n c), (1, .slice (some ⟨1, 0, none⟩) n d), (5, .bool true), (6, .slice (some ⟨2, 0, none⟩) N (capBig + 2)), (7, .slice (some ⟨3, 0, none⟩) n (capBig + 3)), (9, .int .i64 at_), (10, .int .i64 (k : Int)), (11, .int .i64 ((dn + czN cd i r : Nat) : Int)), (12, .int .i64 ((nm + cnN cd i r : Nat) : Int))], woH xs ys sp cd)
  | 0, i, dn, nm, hi, hf, hdn, hnm => by
      have hX : XOkZ (whV noL) Try.prog := noXz_ok rfl
      have hT : TOkZ (whV noL) Try.prog := T_okV rfl whT_one
      have hL : LOkZ (whV noL) Try.prog := noL_okV rfl
      have hc := F.hc
      have hd := F.hd
      have g1 := F.g1 k hk
      refine LRuns.exit (code_runs hX hL (runZ_ok hX hT hL mixed 5) mixed (wi_done inr xs ys sp cd n c d N k at_ i dn nm) ?_) (by intro e; cases e) rfl (Nat.le_refl _) (by omega) (fun n => n) ?_ (wo_rows F) rfl
      ·
        repeat' (first | exact alls_nil | refine alls_cons ?_ ?_)
        all_goals first | with_reducible assumption | omega | (simp only [decide_eq_true_eq, decide_eq_false_iff_not, rg]; omega) | (simp [hi]; done)
      · exact ⟨rfl, rb_slc rfl (by unfold capBig; omega), rfl, rb_slc rfl (by unfold capBig; omega), rfl, rfl, rfl, rb_slg rfl rfl, rfl, rb_slg rfl rfl, rfl, rfl, rfl, rfl, rfl, rfl, rfl, rfl, trivial⟩
  | r + 1, i, dn, nm, hi, hf, hdn, hnm => by
      have hX : XOkZ (whV noL) Try.prog := noXz_ok rfl
      have hT : TOkZ (whV noL) Try.prog := T_okV rfl whT_one
      have hL : LOkZ (whV noL) Try.prog := noL_okV rfl
      have hc := F.hc
      have hd := F.hd
      have hn := F.hn
      have g1 := F.g1 k hk
      have g2 := F.g2 k hk
      obtain ⟨r0, r1, r2⟩ := F.rg0 k hk
      have gx := F.bx.get (i := i) (by rw [F.lx]; omega)
      have gc := F.ic.get (i := i) (by rw [F.lc]; omega)
      have gy := F.iy.get (i := i) (by rw [F.ly]; omega)
      obtain ⟨eb, ez⟩ := F.el k hk i hf (by omega)
      by_cases hz : intAt cd i = 0
      · have hy := ez hz
        have nx := wi_loop (inr := inr) (h0 := h0) (at_ := at_) F hk r (i + 1) (dn + 1) nm (by omega) (by omega) (by omega) (by omega)
        rw [show dn + 1 + czN cd (i + 1) r = dn + czN cd i (r + 1) by simp only [czN, hz, if_true]; omega, show nm + cnN cd (i + 1) r = nm + cnN cd i (r + 1) by simp only [cnN, hz, ne_eq, not_true_eq_false, false_and, if_false]; omega] at nx
        by_cases hb : (i : Int) + 1 < intAt sp (k * 3 + 1)
        · have eb1 : boolAt xs i = true := by rw [eb, decide_eq_true hb]; rfl
          refine LRuns.step (code_runs hX hL (runZ_ok hX hT hL mixed 5) mixed (wi_zt inr xs ys sp cd n c d N k at_ i dn nm) ?_) rfl (Nat.le_refl _) (by omega) (fun n => n) ?_ (wo_rows F) rfl nx
          ·
            repeat' (first | exact alls_nil | refine alls_cons ?_ ?_)
            all_goals first | with_reducible assumption | omega | (simp only [decide_eq_true_eq, decide_eq_false_iff_not, rg]; omega) | (simp [eb1, hz, hy]; done)
          · exact ⟨rfl, rb_slc rfl (by unfold capBig; omega), rfl, rb_slc rfl (by unfold capBig; omega), rfl, rfl, rfl, rb_slg rfl rfl, rfl, rb_slg rfl rfl, rfl, rfl, rfl, rfl, rfl, rfl, rfl, rfl, rfl, rfl, trivial⟩
        · have eb1 : boolAt xs i = boolAt sp (k * 3 + 2) := by rw [eb, decide_eq_false hb]; rfl
          refine LRuns.step (code_runs hX hL (runZ_ok hX hT hL mixed 5) mixed (wi_zf inr xs ys sp cd n c d N k at_ i dn nm) ?_) rfl (Nat.le_refl _) (by omega) (fun n => n) ?_ (wo_rows F) rfl nx
          ·
            repeat' (first | exact alls_nil | refine alls_cons ?_ ?_)
            all_goals first | with_reducible assumption | omega | (simp only [decide_eq_true_eq, decide_eq_false_iff_not, rg]; omega) | (simp [eb1, hz, hy]; done)
          · exact ⟨rfl, rb_slc rfl (by unfold capBig; omega), rfl, rb_slc rfl (by unfold capBig; omega), rfl, rfl, rfl, rb_slg rfl rfl, rfl, rb_slg rfl rfl, rfl, rfl, rfl, rfl, rfl, rfl, rfl, rfl, rfl, rfl, trivial⟩
      · by_cases ho : intAt cd i = 1
        · have nx := wi_loop (inr := inr) (h0 := h0) (at_ := at_) F hk r (i + 1) dn nm (by omega) (by omega) (by omega) (by omega)
          rw [show dn + czN cd (i + 1) r = dn + czN cd i (r + 1) by simp only [czN, hz, if_false]; omega, show nm + cnN cd (i + 1) r = nm + cnN cd i (r + 1) by simp only [cnN, ho, ne_eq, not_true_eq_false, and_false, if_false]; omega] at nx
          by_cases hb : (i : Int) + 1 < intAt sp (k * 3 + 1)
          · have eb1 : boolAt xs i = true := by rw [eb, decide_eq_true hb]; rfl
            refine LRuns.step (code_runs hX hL (runZ_ok hX hT hL mixed 5) mixed (wi_ot inr xs ys sp cd n c d N k at_ i dn nm) ?_) rfl (Nat.le_refl _) (by omega) (fun n => n) ?_ (wo_rows F) rfl nx
            ·
              repeat' (first | exact alls_nil | refine alls_cons ?_ ?_)
              all_goals first | with_reducible assumption | omega | (simp only [decide_eq_true_eq, decide_eq_false_iff_not, rg]; omega) | (simp [eb1, hz, ho]; done)
            · exact ⟨rfl, rb_slc rfl (by unfold capBig; omega), rfl, rb_slc rfl (by unfold capBig; omega), rfl, rfl, rfl, rb_slg rfl rfl, rfl, rb_slg rfl rfl, rfl, rfl, rfl, rfl, rfl, rfl, rfl, rfl, rfl, rfl, trivial⟩
          · have eb1 : boolAt xs i = boolAt sp (k * 3 + 2) := by rw [eb, decide_eq_false hb]; rfl
            refine LRuns.step (code_runs hX hL (runZ_ok hX hT hL mixed 5) mixed (wi_of inr xs ys sp cd n c d N k at_ i dn nm) ?_) rfl (Nat.le_refl _) (by omega) (fun n => n) ?_ (wo_rows F) rfl nx
            ·
              repeat' (first | exact alls_nil | refine alls_cons ?_ ?_)
              all_goals first | with_reducible assumption | omega | (simp only [decide_eq_true_eq, decide_eq_false_iff_not, rg]; omega) | (simp [eb1, hz, ho]; done)
            · exact ⟨rfl, rb_slc rfl (by unfold capBig; omega), rfl, rb_slc rfl (by unfold capBig; omega), rfl, rfl, rfl, rb_slg rfl rfl, rfl, rb_slg rfl rfl, rfl, rfl, rfl, rfl, rfl, rfl, rfl, rfl, rfl, rfl, trivial⟩
        · have nx := wi_loop (inr := inr) (h0 := h0) (at_ := at_) F hk r (i + 1) dn (nm + 1) (by omega) (by omega) (by omega) (by omega)
          rw [show dn + czN cd (i + 1) r = dn + czN cd i (r + 1) by simp only [czN, hz, if_false]; omega, show nm + 1 + cnN cd (i + 1) r = nm + cnN cd i (r + 1) by simp only [cnN, hz, ho, ne_eq, not_false_eq_true, and_self, if_true]; omega] at nx
          by_cases hb : (i : Int) + 1 < intAt sp (k * 3 + 1)
          · have eb1 : boolAt xs i = true := by rw [eb, decide_eq_true hb]; rfl
            refine LRuns.step (code_runs hX hL (runZ_ok hX hT hL mixed 5) mixed (wi_nt inr xs ys sp cd n c d N k at_ i dn nm) ?_) rfl (Nat.le_refl _) (by omega) (fun n => n) ?_ (wo_rows F) rfl nx
            ·
              repeat' (first | exact alls_nil | refine alls_cons ?_ ?_)
              all_goals first | with_reducible assumption | omega | (simp only [decide_eq_true_eq, decide_eq_false_iff_not, rg]; omega) | (simp [eb1, hz, ho]; done)
            · exact ⟨rfl, rb_slc rfl (by unfold capBig; omega), rfl, rb_slc rfl (by unfold capBig; omega), rfl, rfl, rfl, rb_slg rfl rfl, rfl, rb_slg rfl rfl, rfl, rfl, rfl, rfl, rfl, rfl, rfl, rfl, rfl, rfl, trivial⟩
          · have eb1 : boolAt xs i = boolAt sp (k * 3 + 2) := by rw [eb, decide_eq_false hb]; rfl
            refine LRuns.step (code_runs hX hL (runZ_ok hX hT hL mixed 5) mixed (wi_nf inr xs ys sp cd n c d N k at_ i dn nm) ?_) rfl (Nat.le_refl _) (by omega) (fun n => n) ?_ (wo_rows F) rfl nx
            ·
              repeat' (first | exact alls_nil | refine alls_cons ?_ ?_)
              all_goals first | with_reducible assumption | omega | (simp only [decide_eq_true_eq, decide_eq_false_iff_not, rg]; omega) | (simp [eb1, hz, ho]; done)
            · exact ⟨rfl, rb_slc rfl (by unfold capBig; omega), rfl, rb_slc rfl (by unfold capBig; omega), rfl, rfl, rfl, rb_slg rfl rfl, rfl, rb_slg rfl rfl, rfl, rfl, rfl, rfl, rfl, rfl, rfl, rfl, rfl, rfl, trivial⟩
structure WiA where
  n : Nat
  c : Nat
  d : Nat
  N : Nat
  k : Nat
  i : Nat
  at_ : Int
  xs : List Value
  ys : List Value
  sp : List Value
  cd : List Value
def dnC (sp cd : List Value) (k i : Nat) : Nat := czN cd i ((intAt sp (k * 3 + 1)).toNat - i)
def nmC (sp cd : List Value) (k i : Nat) : Nat := cnN cd i ((intAt sp (k * 3 + 1)).toNat - i)
def wiSpec : LSpec := lspec (fun live h => match live, h with
    | [(_, .slice _ n c), (_, .slice _ _ d), _, (_, .slice _ N _), _, (_, .int _ at_), (_, .int _ kv), _, _, (_, .int _ iv)], [(_, ⟨_, cd⟩), (_, ⟨_, sp⟩), (_, ⟨_, xs⟩), (_, ⟨_, ys⟩)] => some (⟨n, c, d, N, kv.toNat, iv.toNat, at_, xs, ys, sp, cd⟩ : WiA)
    | _, _ => none) (fun a => (wiS a.n a.c a.d a.N a.k a.at_ a.i 0 0, woH a.xs a.ys a.sp a.cd, 4))
  (fun a tp => some ((.exit 2, [(0, .slice (some ⟨0, 0, none⟩) a.n a.c), (1, .slice (some ⟨1, 0, none⟩) a.n a.d), (5, .bool true), (6, .slice (some ⟨2, 0, none⟩) a.N (capBig + 2)), (7, .slice (some ⟨3, 0, none⟩) a.n (capBig + 3)), (9, .int .i64 a.at_), (10, .int .i64 (a.k : Int)), (11, .int .i64 ((dnC a.sp a.cd a.k a.i : Nat) : Int)), (12, .int .i64 ((nmC a.sp a.cd a.k a.i : Nat) : Int))], woH a.xs a.ys a.sp a.cd, 4, []), tp, [WhF a.xs a.ys a.sp a.cd a.n a.c a.d a.N, a.k < a.N, (a.i : Int) = intAt a.sp (a.k * 3)]))
def wiL (P : Program) : LFun := mkL 3 17 198 [0, 1, 5, 6, 7, 9, 10, 11, 12, 13] (wiB P) wiSpec
theorem wi_spec_ok : LSOk Try.prog 198 [0, 1, 5, 6, 7, 9, 10, 11, 12, 13] (wiB Try.prog) wiSpec := by
  refine lspec_ok fun a tp xt l2 h2 nx2 d tp' ob hs ho inr ts hn hg => ?_
  obtain ⟨n, c, d, N, k, i, at_, xs, ys, sp, cd⟩ := a
  simp only at hs hg
  simp only [Option.some.injEq, Prod.mk.injEq] at hs
  obtain ⟨⟨rfl, rfl, rfl, rfl, rfl⟩, rfl, rfl⟩ := hs
  obtain ⟨F, hk, hi, _⟩ := ho
  have hc := F.hc
  have hd := F.hd
  obtain ⟨r0, r1, r2⟩ := F.rg0 k hk
  have key := wi_loop (inr := inr) (h0 := woH xs ys sp cd) (at_ := at_) F hk ((intAt sp (k * 3 + 1)).toNat - i) i 0 0 (by omega) (by omega) (Nat.zero_le _) (Nat.zero_le _)
  rw [Nat.zero_add, Nat.zero_add] at key
  refine LRuns.enter (l2 := wiS n c d N k at_ i 0 0) hn hg (Nat.le_refl 4) (Nat.le_refl 4) (fun n => n) ?_ (wo_rows F) rfl key ?_
  · exact ⟨rfl, rb_slc rfl (by unfold capBig; omega), rfl, rb_slc rfl (by unfold capBig; omega), rfl, rfl, rfl, rb_slg rfl rfl, rfl, rb_slg rfl rfl, rfl, rfl, rfl, rfl, rfl, rfl, rfl, rfl, rfl, rfl, trivial⟩
  · exact tidy_of (Nat.le_refl _) (fun n hn hd => rfl) rfl
theorem wo_nn (inr : Bool) (xs ys sp cd : List Value) (n c d N k : Nat) (at_ : Int) : prjZ [0, 1, 5, 6, 7, 9, 10] (codeZ (whV (wiL Try.prog)) Try.prog (runZ (whV noL) Try.prog 5) 3 inr 100000 (whB Try.prog) (SL 198 (woS n c d N k at_)) (woH xs ys sp cd) 4 [true, false, false, false, true, false, false, false]) =
Res.ok
  ((Xt.normal, (198 : Nat),
      [((0 : Nat), Value.slice (some (Addr.mk (0 : Nat) (0 : Nat) none)) n c),
        ((1 : Nat), Value.slice (some (Addr.mk (1 : Nat) (0 : Nat) none)) n d), ((5 : Nat), Value.bool true),
        ((6 : Nat), Value.slice (some (Addr.mk (2 : Nat) (0 : Nat) none)) N (capBig + (2 : Nat))),
        ((7 : Nat), Value.slice (some (Addr.mk (3 : Nat) (0 : Nat) none)) n (capBig + (3 : Nat))),
        ((9 : Nat), Value.int IntKind.i64 (intAt sp (k * (3 : Nat) + (1 : Nat)))),
        ((10 : Nat), Value.int IntKind.i64 (↑(k + (1 : Nat)) : Int))],
      [((3 : Nat), Rw.mk Kd.lent cd), ((2 : Nat), Rw.mk Kd.lent sp), ((0 : Nat), Rw.mk Kd.old xs),
        ((1 : Nat), Rw.mk Kd.old ys)],
      (4 : Nat), [], []),
    [],
    [decide ((↑k : Int) < (↑N : Int)) = true, (0 : Int) ≤ (↑k : Int) ∧ (↑k : Int) < (↑N : Int),
      sp[k * (3 : Nat) + (0 : Nat)]? = some (Value.int IntKind.i64 (intAt sp (k * (3 : Nat) + (0 : Nat)))),
      (intAt sp (k * (3 : Nat) + (0 : Nat)) != at_) = false, (0 : Int) ≤ (↑k : Int) ∧ (↑k : Int) < (↑N : Int),
      sp[k * (3 : Nat) + (1 : Nat)]? = some (Value.int IntKind.i64 (intAt sp (k * (3 : Nat) + (1 : Nat)))),
      decide (intAt sp (k * (3 : Nat) + (1 : Nat)) ≤ at_) = false, (0 : Int) ≤ (↑k : Int) ∧ (↑k : Int) < (↑N : Int),
      sp[k * (3 : Nat) + (1 : Nat)]? = some (Value.int IntKind.i64 (intAt sp (k * (3 : Nat) + (1 : Nat)))),
      decide (intAt sp (k * (3 : Nat) + (1 : Nat)) > (↑n : Int)) = false,
      (0 : Int) ≤ (↑k : Int) ∧ (↑k : Int) < (↑N : Int),
      sp[k * (3 : Nat) + (1 : Nat)]? = some (Value.int IntKind.i64 (intAt sp (k * (3 : Nat) + (1 : Nat)))),
      (0 : Int) ≤ (↑k : Int) ∧ (↑k : Int) < (↑N : Int),
      sp[k * (3 : Nat) + (0 : Nat)]? = some (Value.int IntKind.i64 (intAt sp (k * (3 : Nat) + (0 : Nat)))),
      wiB Try.prog = wiB Try.prog,
      [((0 : Nat), Value.slice (some (Addr.mk (0 : Nat) (0 : Nat) none)) n c),
          ((1 : Nat), Value.slice (some (Addr.mk (1 : Nat) (0 : Nat) none)) n d), ((5 : Nat), Value.bool true),
          ((6 : Nat), Value.slice (some (Addr.mk (2 : Nat) (0 : Nat) none)) N (capBig + (2 : Nat))),
          ((7 : Nat), Value.slice (some (Addr.mk (3 : Nat) (0 : Nat) none)) n (capBig + (3 : Nat))),
          ((9 : Nat), Value.int IntKind.i64 (intAt sp (k * (3 : Nat) + (1 : Nat)))),
          ((10 : Nat), Value.int IntKind.i64 (↑k : Int)), ((11 : Nat), Value.int IntKind.i64 (0 : Int)),
          ((12 : Nat), Value.int IntKind.i64 (0 : Int)),
          ((13 : Nat), Value.int IntKind.i64 (intAt sp (k * (3 : Nat) + (0 : Nat))))] =
        wiS n c d N k (intAt sp (k * (3 : Nat) + (1 : Nat))) (Int.toNat (intAt sp (k * (3 : Nat) + (0 : Nat))))
          (0 : Nat) (0 : Nat),
      woH xs ys sp cd = woH xs ys sp cd, (4 : Nat) = (4 : Nat), WhF xs ys sp cd n c d N, k < N,
      (↑(Int.toNat (intAt sp (k * (3 : Nat) + (0 : Nat)))) : Int) = intAt sp (k * (3 : Nat)),
      ((↑(dnC sp cd k (Int.toNat (intAt sp (k * (3 : Nat) + (0 : Nat))))) : Int) != (0 : Int)) = true,
      (0 : Int) ≤ (↑k : Int) ∧ (↑k : Int) < (↑N : Int),
      sp[k * (3 : Nat) + (1 : Nat)]? = some (Value.int IntKind.i64 (intAt sp (k * (3 : Nat) + (1 : Nat)))),
      (0 : Int) ≤ (↑k : Int) ∧ (↑k : Int) < (↑N : Int),
      sp[k * (3 : Nat) + (0 : Nat)]? = some (Value.int IntKind.i64 (intAt sp (k * (3 : Nat) + (0 : Nat)))),
      rg IntKind.i64 (intAt sp (k * (3 : Nat) + (1 : Nat)) - intAt sp (k * (3 : Nat) + (0 : Nat))),
      ((↑(dnC sp cd k (Int.toNat (intAt sp (k * (3 : Nat) + (0 : Nat))))) : Int) !=
          intAt sp (k * (3 : Nat) + (1 : Nat)) - intAt sp (k * (3 : Nat) + (0 : Nat))) =
        false,
      decide ((↑(nmC sp cd k (Int.toNat (intAt sp (k * (3 : Nat) + (0 : Nat))))) : Int) > (1 : Int)) = false,
      (0 : Int) ≤ (↑k : Int) ∧ (↑k : Int) < (↑N : Int),
      sp[k * (3 : Nat) + (2 : Nat)]? = some (Value.bool (boolAt sp (k * (3 : Nat) + (2 : Nat)))),
      boolAt sp (k * (3 : Nat) + (2 : Nat)) = false, rg IntKind.i64 (↑(k + (1 : Nat)) : Int)]) := by kernel_rfl
theorem wo_zn (inr : Bool) (xs ys sp cd : List Value) (n c d N k : Nat) (at_ : Int) : prjZ [0, 1, 5, 6, 7, 9, 10] (codeZ (whV (wiL Try.prog)) Try.prog (runZ (whV noL) Try.prog 5) 3 inr 100000 (whB Try.prog) (SL 198 (woS n c d N k at_)) (woH xs ys sp cd) 4 [true, false, false, false, false, false, false]) =
Res.ok
  ((Xt.normal, (198 : Nat),
      [((0 : Nat), Value.slice (some (Addr.mk (0 : Nat) (0 : Nat) none)) n c),
        ((1 : Nat), Value.slice (some (Addr.mk (1 : Nat) (0 : Nat) none)) n d), ((5 : Nat), Value.bool true),
        ((6 : Nat), Value.slice (some (Addr.mk (2 : Nat) (0 : Nat) none)) N (capBig + (2 : Nat))),
        ((7 : Nat), Value.slice (some (Addr.mk (3 : Nat) (0 : Nat) none)) n (capBig + (3 : Nat))),
        ((9 : Nat), Value.int IntKind.i64 (intAt sp (k * (3 : Nat) + (1 : Nat)))),
        ((10 : Nat), Value.int IntKind.i64 (↑(k + (1 : Nat)) : Int))],
      [((3 : Nat), Rw.mk Kd.lent cd), ((2 : Nat), Rw.mk Kd.lent sp), ((0 : Nat), Rw.mk Kd.old xs),
        ((1 : Nat), Rw.mk Kd.old ys)],
      (4 : Nat), [], []),
    [],
    [decide ((↑k : Int) < (↑N : Int)) = true, (0 : Int) ≤ (↑k : Int) ∧ (↑k : Int) < (↑N : Int),
      sp[k * (3 : Nat) + (0 : Nat)]? = some (Value.int IntKind.i64 (intAt sp (k * (3 : Nat) + (0 : Nat)))),
      (intAt sp (k * (3 : Nat) + (0 : Nat)) != at_) = false, (0 : Int) ≤ (↑k : Int) ∧ (↑k : Int) < (↑N : Int),
      sp[k * (3 : Nat) + (1 : Nat)]? = some (Value.int IntKind.i64 (intAt sp (k * (3 : Nat) + (1 : Nat)))),
      decide (intAt sp (k * (3 : Nat) + (1 : Nat)) ≤ at_) = false, (0 : Int) ≤ (↑k : Int) ∧ (↑k : Int) < (↑N : Int),
      sp[k * (3 : Nat) + (1 : Nat)]? = some (Value.int IntKind.i64 (intAt sp (k * (3 : Nat) + (1 : Nat)))),
      decide (intAt sp (k * (3 : Nat) + (1 : Nat)) > (↑n : Int)) = false,
      (0 : Int) ≤ (↑k : Int) ∧ (↑k : Int) < (↑N : Int),
      sp[k * (3 : Nat) + (1 : Nat)]? = some (Value.int IntKind.i64 (intAt sp (k * (3 : Nat) + (1 : Nat)))),
      (0 : Int) ≤ (↑k : Int) ∧ (↑k : Int) < (↑N : Int),
      sp[k * (3 : Nat) + (0 : Nat)]? = some (Value.int IntKind.i64 (intAt sp (k * (3 : Nat) + (0 : Nat)))),
      wiB Try.prog = wiB Try.prog,
      [((0 : Nat), Value.slice (some (Addr.mk (0 : Nat) (0 : Nat) none)) n c),
          ((1 : Nat), Value.slice (some (Addr.mk (1 : Nat) (0 : Nat) none)) n d), ((5 : Nat), Value.bool true),
          ((6 : Nat), Value.slice (some (Addr.mk (2 : Nat) (0 : Nat) none)) N (capBig + (2 : Nat))),
          ((7 : Nat), Value.slice (some (Addr.mk (3 : Nat) (0 : Nat) none)) n (capBig + (3 : Nat))),
          ((9 : Nat), Value.int IntKind.i64 (intAt sp (k * (3 : Nat) + (1 : Nat)))),
          ((10 : Nat), Value.int IntKind.i64 (↑k : Int)), ((11 : Nat), Value.int IntKind.i64 (0 : Int)),
          ((12 : Nat), Value.int IntKind.i64 (0 : Int)),
          ((13 : Nat), Value.int IntKind.i64 (intAt sp (k * (3 : Nat) + (0 : Nat))))] =
        wiS n c d N k (intAt sp (k * (3 : Nat) + (1 : Nat))) (Int.toNat (intAt sp (k * (3 : Nat) + (0 : Nat))))
          (0 : Nat) (0 : Nat),
      woH xs ys sp cd = woH xs ys sp cd, (4 : Nat) = (4 : Nat), WhF xs ys sp cd n c d N, k < N,
      (↑(Int.toNat (intAt sp (k * (3 : Nat) + (0 : Nat)))) : Int) = intAt sp (k * (3 : Nat)),
      ((↑(dnC sp cd k (Int.toNat (intAt sp (k * (3 : Nat) + (0 : Nat))))) : Int) != (0 : Int)) = false,
      decide ((↑(nmC sp cd k (Int.toNat (intAt sp (k * (3 : Nat) + (0 : Nat))))) : Int) > (1 : Int)) = false,
      (0 : Int) ≤ (↑k : Int) ∧ (↑k : Int) < (↑N : Int),
      sp[k * (3 : Nat) + (2 : Nat)]? = some (Value.bool (boolAt sp (k * (3 : Nat) + (2 : Nat)))),
      boolAt sp (k * (3 : Nat) + (2 : Nat)) = false, rg IntKind.i64 (↑(k + (1 : Nat)) : Int)]) := by kernel_rfl
theorem wo_zo (inr : Bool) (xs ys sp cd : List Value) (n c d N k : Nat) (at_ : Int) : prjZ [0, 1, 5, 6, 7, 9, 10] (codeZ (whV (wiL Try.prog)) Try.prog (runZ (whV noL) Try.prog 5) 3 inr 100000 (whB Try.prog) (SL 198 (woS n c d N k at_)) (woH xs ys sp cd) 4 [true, false, false, false, false, false, true, false, false]) =
Res.ok
  ((Xt.normal, (198 : Nat),
      [((0 : Nat), Value.slice (some (Addr.mk (0 : Nat) (0 : Nat) none)) n c),
        ((1 : Nat), Value.slice (some (Addr.mk (1 : Nat) (0 : Nat) none)) n d), ((5 : Nat), Value.bool true),
        ((6 : Nat), Value.slice (some (Addr.mk (2 : Nat) (0 : Nat) none)) N (capBig + (2 : Nat))),
        ((7 : Nat), Value.slice (some (Addr.mk (3 : Nat) (0 : Nat) none)) n (capBig + (3 : Nat))),
        ((9 : Nat), Value.int IntKind.i64 (intAt sp (k * (3 : Nat) + (1 : Nat)))),
        ((10 : Nat), Value.int IntKind.i64 (↑(k + (1 : Nat)) : Int))],
      [((3 : Nat), Rw.mk Kd.lent cd), ((2 : Nat), Rw.mk Kd.lent sp), ((0 : Nat), Rw.mk Kd.old xs),
        ((1 : Nat), Rw.mk Kd.old ys)],
      (4 : Nat), [], []),
    [],
    [decide ((↑k : Int) < (↑N : Int)) = true, (0 : Int) ≤ (↑k : Int) ∧ (↑k : Int) < (↑N : Int),
      sp[k * (3 : Nat) + (0 : Nat)]? = some (Value.int IntKind.i64 (intAt sp (k * (3 : Nat) + (0 : Nat)))),
      (intAt sp (k * (3 : Nat) + (0 : Nat)) != at_) = false, (0 : Int) ≤ (↑k : Int) ∧ (↑k : Int) < (↑N : Int),
      sp[k * (3 : Nat) + (1 : Nat)]? = some (Value.int IntKind.i64 (intAt sp (k * (3 : Nat) + (1 : Nat)))),
      decide (intAt sp (k * (3 : Nat) + (1 : Nat)) ≤ at_) = false, (0 : Int) ≤ (↑k : Int) ∧ (↑k : Int) < (↑N : Int),
      sp[k * (3 : Nat) + (1 : Nat)]? = some (Value.int IntKind.i64 (intAt sp (k * (3 : Nat) + (1 : Nat)))),
      decide (intAt sp (k * (3 : Nat) + (1 : Nat)) > (↑n : Int)) = false,
      (0 : Int) ≤ (↑k : Int) ∧ (↑k : Int) < (↑N : Int),
      sp[k * (3 : Nat) + (1 : Nat)]? = some (Value.int IntKind.i64 (intAt sp (k * (3 : Nat) + (1 : Nat)))),
      (0 : Int) ≤ (↑k : Int) ∧ (↑k : Int) < (↑N : Int),
      sp[k * (3 : Nat) + (0 : Nat)]? = some (Value.int IntKind.i64 (intAt sp (k * (3 : Nat) + (0 : Nat)))),
      wiB Try.prog = wiB Try.prog,
      [((0 : Nat), Value.slice (some (Addr.mk (0 : Nat) (0 : Nat) none)) n c),
          ((1 : Nat), Value.slice (some (Addr.mk (1 : Nat) (0 : Nat) none)) n d), ((5 : Nat), Value.bool true),
          ((6 : Nat), Value.slice (some (Addr.mk (2 : Nat) (0 : Nat) none)) N (capBig + (2 : Nat))),
          ((7 : Nat), Value.slice (some (Addr.mk (3 : Nat) (0 : Nat) none)) n (capBig + (3 : Nat))),
          ((9 : Nat), Value.int IntKind.i64 (intAt sp (k * (3 : Nat) + (1 : Nat)))),
          ((10 : Nat), Value.int IntKind.i64 (↑k : Int)), ((11 : Nat), Value.int IntKind.i64 (0 : Int)),
          ((12 : Nat), Value.int IntKind.i64 (0 : Int)),
          ((13 : Nat), Value.int IntKind.i64 (intAt sp (k * (3 : Nat) + (0 : Nat))))] =
        wiS n c d N k (intAt sp (k * (3 : Nat) + (1 : Nat))) (Int.toNat (intAt sp (k * (3 : Nat) + (0 : Nat))))
          (0 : Nat) (0 : Nat),
      woH xs ys sp cd = woH xs ys sp cd, (4 : Nat) = (4 : Nat), WhF xs ys sp cd n c d N, k < N,
      (↑(Int.toNat (intAt sp (k * (3 : Nat) + (0 : Nat)))) : Int) = intAt sp (k * (3 : Nat)),
      ((↑(dnC sp cd k (Int.toNat (intAt sp (k * (3 : Nat) + (0 : Nat))))) : Int) != (0 : Int)) = false,
      decide ((↑(nmC sp cd k (Int.toNat (intAt sp (k * (3 : Nat) + (0 : Nat))))) : Int) > (1 : Int)) = false,
      (0 : Int) ≤ (↑k : Int) ∧ (↑k : Int) < (↑N : Int),
      sp[k * (3 : Nat) + (2 : Nat)]? = some (Value.bool (boolAt sp (k * (3 : Nat) + (2 : Nat)))),
      boolAt sp (k * (3 : Nat) + (2 : Nat)) = true,
      decide ((↑(dnC sp cd k (Int.toNat (intAt sp (k * (3 : Nat) + (0 : Nat))))) : Int) > (0 : Int)) = false,
      (0 : Int) ≤ (↑k : Int) ∧ (↑k : Int) < (↑N : Int),
      sp[k * (3 : Nat) + (1 : Nat)]? = some (Value.int IntKind.i64 (intAt sp (k * (3 : Nat) + (1 : Nat)))),
      rg IntKind.i64 (intAt sp (k * (3 : Nat) + (1 : Nat)) - (1 : Int)),
      (0 : Int) ≤ intAt sp (k * (3 : Nat) + (1 : Nat)) - (1 : Int) ∧
        intAt sp (k * (3 : Nat) + (1 : Nat)) - (1 : Int) < (↑n : Int),
      cd[Int.toNat (intAt sp (k * (3 : Nat) + (1 : Nat)) - (1 : Int))]? =
        some (Value.int IntKind.i64 (intAt cd (Int.toNat (intAt sp (k * (3 : Nat) + (1 : Nat)) - (1 : Int))))),
      (intAt cd (Int.toNat (intAt sp (k * (3 : Nat) + (1 : Nat)) - (1 : Int))) != (2 : Int)) = false,
      rg IntKind.i64 (↑(k + (1 : Nat)) : Int)]) := by kernel_rfl
theorem wo_done (inr : Bool) (xs ys sp cd : List Value) (n c d N k : Nat) (at_ : Int) : prjZ [5, 7, 9] (codeZ (whV (wiL Try.prog)) Try.prog (runZ (whV noL) Try.prog 5) 3 inr 100000 (whB Try.prog) (SL 198 (woS n c d N k at_)) (woH xs ys sp cd) 4 [false]) =
Res.ok
  ((Xt.exit (0 : Nat), (198 : Nat),
      [((5 : Nat), Value.bool true),
        ((7 : Nat), Value.slice (some (Addr.mk (3 : Nat) (0 : Nat) none)) n (capBig + (3 : Nat))),
        ((9 : Nat), Value.int IntKind.i64 at_)],
      [((3 : Nat), Rw.mk Kd.lent cd), ((2 : Nat), Rw.mk Kd.lent sp), ((0 : Nat), Rw.mk Kd.old xs),
        ((1 : Nat), Rw.mk Kd.old ys)],
      (4 : Nat), [], []),
    [], [decide ((↑k : Int) < (↑N : Int)) = false]) := by kernel_rfl
theorem wo_loop {inr : Bool} {h0 : Hp} {xs ys sp cd : List Value} {n c d N : Nat} (F : WhF xs ys sp cd n c d N) : ∀ (r k : Nat) (at_ : Int), k + r = N → (k < N → at_ = intAt sp (k * 3)) → (k = N → at_ = n) →
    LRuns inr Try.prog (whB Try.prog) 4 4 h0 198 (woS n c d N k at_) (woH xs ys sp cd) 4
      (.exit 0, [(5, .bool true), (7, .slice (some ⟨3, 0, none⟩) n (capBig + 3)), (9, .int .i64 (n : Int))], woH xs ys sp cd)
  | 0, k, at_, hk, h1, h2 => by
      have hX : XOkZ (whV (wiL Try.prog)) Try.prog := noXz_ok rfl
      have hX0 : XOkZ (whV noL) Try.prog := noXz_ok rfl
      have hT0 : TOkZ (whV noL) Try.prog := T_okV rfl whT_one
      have hL0 : LOkZ (whV noL) Try.prog := noL_okV rfl
      have hL : LOkZ (whV (wiL Try.prog)) Try.prog := L_okV rfl (mkL_ok wi_spec_ok)
      obtain rfl := h2 (by omega)
      refine LRuns.exit (code_runs hX hL (runZ_ok hX0 hT0 hL0 mixed 5) mixed (wo_done inr xs ys sp cd n c d N k n) ?_) (by intro e; cases e) rfl (Nat.le_refl _) (by omega) (fun n => n) ?_ (wo_rows F) rfl
      · simp only [Alls, decide_eq_false_iff_not]
        repeat' (first | with_reducible exact trivial | with_reducible apply And.intro)
        all_goals first | with_reducible assumption | omega | with_reducible rfl | (skip)
      · exact ⟨rfl, rfl, rfl, rb_slg rfl rfl, rfl, rfl, trivial⟩
  | r + 1, k, at_, hk, h1, h2 => by
      have hX : XOkZ (whV (wiL Try.prog)) Try.prog := noXz_ok rfl
      have hX0 : XOkZ (whV noL) Try.prog := noXz_ok rfl
      have hT0 : TOkZ (whV noL) Try.prog := T_okV rfl whT_one
      have hL0 : LOkZ (whV noL) Try.prog := noL_okV rfl
      have hL : LOkZ (whV (wiL Try.prog)) Try.prog := L_okV rfl (mkL_ok wi_spec_ok)
      have hkN : k < N := by omega
      have hc := F.hc
      have hd := F.hd
      have hn := F.hn
      have hN := F.hN
      have g0 := F.g0 k hkN
      have g1 := F.g1 k hkN
      have g2 := F.g2 k hkN
      obtain ⟨r0, r1, r2⟩ := F.rg0 k hkN
      have ha := h1 hkN
      have eF : (((intAt sp (k * 3)).toNat : Nat) : Int) = intAt sp (k * 3) := by omega
      have nx := wo_loop (inr := inr) (h0 := h0) F r (k + 1) (intAt sp (k * 3 + 1)) (by omega) (fun h => (F.next k h).symm) (fun h => F.last k h)
      have gl := F.ic.get (i := (intAt sp (k * 3 + 1) - 1).toNat) (by rw [F.lc]; omega)
      rcases F.grp k hkN with ⟨p1, p2⟩ | ⟨p1, ⟨q, p2⟩, p3⟩
      · obtain ⟨e1, e2⟩ := cz_all (cd := cd) ((intAt sp (k * 3 + 1)).toNat - (intAt sp (k * 3)).toNat) (intAt sp (k * 3)).toNat fun j a b => p1 j (by omega) (by omega)
        have e1' : dnC sp cd k (intAt sp (k * 3)).toNat = (intAt sp (k * 3 + 1)).toNat - (intAt sp (k * 3)).toNat := e1
        have e2' : nmC sp cd k (intAt sp (k * 3)).toNat = 0 := e2
        refine LRuns.step (code_runs hX hL (runZ_ok hX0 hT0 hL0 mixed 5) mixed (wo_nn inr xs ys sp cd n c d N k at_) ?_) rfl (Nat.le_refl _) (by omega) (fun n => n) ?_ (wo_rows F) rfl nx
        ·
          repeat' (first | exact alls_nil | refine alls_cons ?_ ?_)
          all_goals (try simp only [Nat.add_zero])
          all_goals first | with_reducible assumption | omega | (simp only [decide_eq_true_eq, decide_eq_false_iff_not, rg]; omega) | (simp only [bne_iff_ne, ne_eq, bne_eq_false_iff_eq]; omega) | (unfold wiS; rw [eF]; rfl) | rfl
        · exact ⟨rfl, rb_slc rfl (by unfold capBig; omega), rfl, rb_slc rfl (by unfold capBig; omega), rfl, rfl, rfl, rb_slg rfl rfl, rfl, rb_slg rfl rfl, rfl, rfl, rfl, rfl, trivial⟩
      · have e1 := cz_none (cd := cd) ((intAt sp (k * 3 + 1)).toNat - (intAt sp (k * 3)).toNat) (intAt sp (k * 3)).toNat fun j a b => p1 j (by omega) (by omega)
        have e2 := cn_one (cd := cd) (q := q) ((intAt sp (k * 3 + 1)).toNat - (intAt sp (k * 3)).toNat) (intAt sp (k * 3)).toNat fun j a b c => p2 j (by omega) (by omega) c
        have e1' : dnC sp cd k (intAt sp (k * 3)).toNat = 0 := e1
        have e2' : nmC sp cd k (intAt sp (k * 3)).toNat ≤ 1 := e2
        cases po : boolAt sp (k * 3 + 2)
        ·
          refine LRuns.step (code_runs hX hL (runZ_ok hX0 hT0 hL0 mixed 5) mixed (wo_zn inr xs ys sp cd n c d N k at_) ?_) rfl (Nat.le_refl _) (by omega) (fun n => n) ?_ (wo_rows F) rfl nx
          ·
            repeat' (first | exact alls_nil | refine alls_cons ?_ ?_)
            all_goals (try simp only [Nat.add_zero])
            all_goals first | with_reducible assumption | omega | (simp only [decide_eq_true_eq, decide_eq_false_iff_not, rg]; omega) | (simp only [bne_iff_ne, ne_eq, bne_eq_false_iff_eq]; omega) | (unfold wiS; rw [eF]; rfl) | rfl
          · exact ⟨rfl, rb_slc rfl (by unfold capBig; omega), rfl, rb_slc rfl (by unfold capBig; omega), rfl, rfl, rfl, rb_slg rfl rfl, rfl, rb_slg rfl rfl, rfl, rfl, rfl, rfl, trivial⟩
        · have p4 := p3 po
          refine LRuns.step (code_runs hX hL (runZ_ok hX0 hT0 hL0 mixed 5) mixed (wo_zo inr xs ys sp cd n c d N k at_) ?_) rfl (Nat.le_refl _) (by omega) (fun n => n) ?_ (wo_rows F) rfl nx
          ·
            repeat' (first | exact alls_nil | refine alls_cons ?_ ?_)
            all_goals (try simp only [Nat.add_zero])
            all_goals first | with_reducible assumption | omega | (simp only [decide_eq_true_eq, decide_eq_false_iff_not, rg]; omega) | (simp only [bne_iff_ne, ne_eq, bne_eq_false_iff_eq]; omega) | (unfold wiS; rw [eF]; rfl) | rfl
          · exact ⟨rfl, rb_slc rfl (by unfold capBig; omega), rfl, rb_slc rfl (by unfold capBig; omega), rfl, rfl, rfl, rb_slg rfl rfl, rfl, rb_slg rfl rfl, rfl, rfl, rfl, rfl, trivial⟩
structure WoA where
  n : Nat
  c : Nat
  d : Nat
  N : Nat
  xs : List Value
  ys : List Value
  sp : List Value
  cd : List Value
def woSpec : LSpec := lspec (fun live h => match live, h with
    | [(_, .slice _ n c), (_, .slice _ _ d), _, (_, .slice _ N _), _, _, _], [(_, ⟨_, cd⟩), (_, ⟨_, sp⟩), (_, ⟨_, xs⟩), (_, ⟨_, ys⟩)] => some (⟨n, c, d, N, xs, ys, sp, cd⟩ : WoA)
    | _, _ => none) (fun a => (woS a.n a.c a.d a.N 0 0, woH a.xs a.ys a.sp a.cd, 4))
  (fun a tp => some ((.exit 0, [(5, .bool true), (7, .slice (some ⟨3, 0, none⟩) a.n (capBig + 3)), (9, .int .i64 (a.n : Int))], woH a.xs a.ys a.sp a.cd, 4, []), tp, [WhF a.xs a.ys a.sp a.cd a.n a.c a.d a.N, 0 < a.N]))
def woL (P : Program) : LFun := mkL 3 10 198 [0, 1, 5, 6, 7, 9, 10] (whB P) woSpec
theorem wo_spec_ok : LSOk Try.prog 198 [0, 1, 5, 6, 7, 9, 10] (whB Try.prog) woSpec := by
  refine lspec_ok fun a tp xt l2 h2 nx2 d tp' ob hs ho inr ts hn hg => ?_
  obtain ⟨n, c, d, N, xs, ys, sp, cd⟩ := a
  simp only at hs hg
  simp only [Option.some.injEq, Prod.mk.injEq] at hs
  obtain ⟨⟨rfl, rfl, rfl, rfl, rfl⟩, rfl, rfl⟩ := hs
  obtain ⟨F, hp, _⟩ := ho
  have hc := F.hc
  have hd := F.hd
  have hf := F.first hp
  have key := wo_loop (inr := inr) (h0 := woH xs ys sp cd) F N 0 0 (by omega) (fun _ => hf.symm) (fun h => by have hp2 : 0 < N := hp; omega)
  refine LRuns.enter (l2 := woS n c d N 0 0) hn hg (Nat.le_refl 4) (Nat.le_refl 4) (fun n => n) ?_ (wo_rows F) rfl key ?_
  · exact ⟨rfl, rb_slc rfl (by unfold capBig; omega), rfl, rb_slc rfl (by unfold capBig; omega), rfl, rfl, rfl, rb_slg rfl rfl, rfl, rb_slg rfl rfl, rfl, rfl, rfl, rfl, trivial⟩
  · exact tidy_of (Nat.le_refl _) (fun n hn hd => rfl) rfl
theorem wh_x (xs ys : List Value) (n c d : Nat) : runZ (whV (woL Try.prog)) Try.prog 5 3 [.slice (some ⟨0, 0, none⟩) n c, .slice (some ⟨1, 0, none⟩) n d] [(0, ⟨.old, xs⟩), (1, ⟨.old, ys⟩)] 2 [false, false, false, false, false, true] =
Res.ok
  ((Value.bool true, [((0 : Nat), Rw.mk Kd.old xs), ((1 : Nat), Rw.mk Kd.old ys)], (4 : Nat), []), [],
    [decide ((↑n : Int) > (200 : Int)) = false, ((↑n : Int) != (↑n : Int)) = false,
      n ≤ c ∧ c ≤ (9223372036854775807 : Nat), n ≤ List.length xs, Fl (List.take n xs),
      (0 : Nat) < avLen (Av.sl (List.take n xs) n), avLen (Av.sl (List.take n xs) n) ≤ (1000 : Nat),
      Bols (List.take n xs), n ≤ c ∧ c ≤ (9223372036854775807 : Nat), n ≤ List.length xs, Fl (List.take n xs),
      n ≤ d ∧ d ≤ (9223372036854775807 : Nat), n ≤ List.length ys, Fl (List.take n ys),
      (0 : Nat) < avLen (Av.sl (List.take n xs) n), avLen (Av.sl (List.take n xs) n) ≤ (1000 : Nat),
      avLen (Av.sl (List.take n ys) n) = avLen (Av.sl (List.take n xs) n), Bols (List.take n xs),
      Ints IntKind.i64 (List.take n ys), ((↑(avLen (Av.sl (List.take n xs) n)) : Int) != (↑n : Int)) = false,
      whB Try.prog = whB Try.prog,
      [((0 : Nat), Value.slice (some (Addr.mk (0 : Nat) (0 : Nat) none)) n c),
          ((1 : Nat), Value.slice (some (Addr.mk (1 : Nat) (0 : Nat) none)) n d), ((5 : Nat), Value.bool true),
          ((6 : Nat),
            Value.slice (some (Addr.mk (2 : Nat) (0 : Nat) none)) (spN (List.take n xs)) (capBig + (2 : Nat))),
          ((7 : Nat),
            Value.slice (some (Addr.mk (3 : Nat) (0 : Nat) none)) (avLen (Av.sl (List.take n xs) n))
              (capBig + (3 : Nat))),
          ((9 : Nat), Value.int IntKind.i64 (0 : Int)), ((10 : Nat), Value.int IntKind.i64 (0 : Int))] =
        woS n c d (spN (List.take n xs)) (0 : Nat) (0 : Int),
      rowsN (3 : Nat) [lentR (cdL (List.take n xs) (List.take n ys))]
          (rowsN (2 : Nat) [lentR (spL (List.take n xs))]
            (rowsN (2 : Nat) [] [((0 : Nat), Rw.mk Kd.old xs), ((1 : Nat), Rw.mk Kd.old ys)])) =
        woH xs ys (spL (List.take n xs)) (cdL (List.take n xs) (List.take n ys)),
      (4 : Nat) = (4 : Nat),
      WhF xs ys (spL (List.take n xs)) (cdL (List.take n xs) (List.take n ys)) n c d (spN (List.take n xs)),
      (0 : Nat) < spN (List.take n xs), ((↑n : Int) == (↑n : Int)) = true]) := by kernel_rfl
theorem wh_l1 (xs ys : List Value) (n c m d : Nat) : runZ (whV noL) Try.prog 5 3 [.slice (some ⟨0, 0, none⟩) n c, .slice (some ⟨1, 0, none⟩) m d] [(0, ⟨.old, xs⟩), (1, ⟨.old, ys⟩)] 2 [true] =
Res.ok
  ((Value.bool true, [((0 : Nat), Rw.mk Kd.old xs), ((1 : Nat), Rw.mk Kd.old ys)], (2 : Nat), []), [],
    [decide ((↑n : Int) > (200 : Int)) = true]) := by kernel_rfl
theorem wh_l2 (xs ys : List Value) (n c m d : Nat) : runZ (whV noL) Try.prog 5 3 [.slice (some ⟨0, 0, none⟩) n c, .slice (some ⟨1, 0, none⟩) m d] [(0, ⟨.old, xs⟩), (1, ⟨.old, ys⟩)] 2 [false, true] =
Res.ok
  ((Value.bool true, [((0 : Nat), Rw.mk Kd.old xs), ((1 : Nat), Rw.mk Kd.old ys)], (2 : Nat), []), [],
    [decide ((↑n : Int) > (200 : Int)) = false, ((↑n : Int) != (↑m : Int)) = true]) := by kernel_rfl
theorem wh_e (xs ys : List Value) (c d : Nat) : runZ (whV noL) Try.prog 5 3 [.slice (some ⟨0, 0, none⟩) 0 c, .slice (some ⟨1, 0, none⟩) 0 d] [(0, ⟨.old, xs⟩), (1, ⟨.old, ys⟩)] 2 [false, false, true, true, false, false, true] =
Res.ok
  ((Value.bool true, [((0 : Nat), Rw.mk Kd.old xs), ((1 : Nat), Rw.mk Kd.old ys)], (2 : Nat), []), [],
    [false = false, false = false, (0 : Nat) ≤ c ∧ c ≤ (9223372036854775807 : Nat), (0 : Nat) ≤ List.length xs, Fl [],
      (0 : Nat) = (0 : Nat), (0 : Nat) ≤ c ∧ c ≤ (9223372036854775807 : Nat), (0 : Nat) ≤ List.length xs, Fl [],
      (0 : Nat) ≤ d ∧ d ≤ (9223372036854775807 : Nat), (0 : Nat) ≤ List.length ys, Fl [], (0 : Nat) = (0 : Nat),
      (0 : Nat) = (0 : Nat), false = false, false = false, true = true]) := by kernel_rfl
theorem wh_l2n (ys : List Value) (m d : Nat) : runZ (whV noL) Try.prog 5 3 [.slice none 0 0, .slice (some ⟨1, 0, none⟩) m d] [(1, ⟨.old, ys⟩)] 2 [false, true] =
Res.ok
  ((Value.bool true, [((1 : Nat), Rw.mk Kd.old ys)], (2 : Nat), []), [],
    [false = false, ((0 : Int) != (↑m : Int)) = true]) := by kernel_rfl
theorem wh_en (ys : List Value) (d : Nat) : runZ (whV noL) Try.prog 5 3 [.slice none 0 0, .slice (some ⟨1, 0, none⟩) 0 d] [(1, ⟨.old, ys⟩)] 2 [false, false, true, true, false, false, true] =
Res.ok
  ((Value.bool true, [((1 : Nat), Rw.mk Kd.old ys)], (2 : Nat), []), [],
    [false = false, false = false, (0 : Nat) = (0 : Nat), (0 : Nat) ≤ d ∧ d ≤ (9223372036854775807 : Nat),
      (0 : Nat) ≤ List.length ys, Fl [], (0 : Nat) = (0 : Nat), (0 : Nat) = (0 : Nat), false = false, false = false,
      true = true]) := by kernel_rfl
theorem wh_l1s (xs : List Value) (n c : Nat) : runZ (whV noL) Try.prog 5 3 [.slice (some ⟨0, 0, none⟩) n c, .slice none 0 0] [(0, ⟨.old, xs⟩)] 2 [true] =
Res.ok
  ((Value.bool true, [((0 : Nat), Rw.mk Kd.old xs)], (2 : Nat), []), [], [decide ((↑n : Int) > (200 : Int)) = true]) := by kernel_rfl
theorem wh_l2s (xs : List Value) (n c : Nat) : runZ (whV noL) Try.prog 5 3 [.slice (some ⟨0, 0, none⟩) n c, .slice none 0 0] [(0, ⟨.old, xs⟩)] 2 [false, true] =
Res.ok
  ((Value.bool true, [((0 : Nat), Rw.mk Kd.old xs)], (2 : Nat), []), [],
    [decide ((↑n : Int) > (200 : Int)) = false, ((↑n : Int) != (0 : Int)) = true]) := by kernel_rfl
theorem wh_es (xs : List Value) (c : Nat) : runZ (whV noL) Try.prog 5 3 [.slice (some ⟨0, 0, none⟩) 0 c, .slice none 0 0] [(0, ⟨.old, xs⟩)] 2 [false, false, true, true, false, false, true] =
Res.ok
  ((Value.bool true, [((0 : Nat), Rw.mk Kd.old xs)], (2 : Nat), []), [],
    [false = false, false = false, (0 : Nat) ≤ c ∧ c ≤ (9223372036854775807 : Nat), (0 : Nat) ≤ List.length xs, Fl [],
      (0 : Nat) = (0 : Nat), (0 : Nat) ≤ c ∧ c ≤ (9223372036854775807 : Nat), (0 : Nat) ≤ List.length xs, Fl [],
      (0 : Nat) = (0 : Nat), (0 : Nat) = (0 : Nat), false = false, false = false, true = true]) := by kernel_rfl
theorem wh_nn  : runZ (whV noL) Try.prog 5 3 [.slice none 0 0, .slice none 0 0] [] 2 [false, false, true, true, false, false, true] =
Res.ok
  ((Value.bool true, [], (2 : Nat), []), [],
    [false = false, false = false, (0 : Nat) = (0 : Nat), (0 : Nat) = (0 : Nat), (0 : Nat) = (0 : Nat), false = false,
      false = false, true = true]) := by kernel_rfl
end Go.Proofs.Ytmjmdjcgjmjigaa
