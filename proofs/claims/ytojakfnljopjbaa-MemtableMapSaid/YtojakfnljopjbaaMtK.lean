/-
  MemtableKnown: its examples, run with what is known of slices.Insert.
-/
import Derived.Test.YtojakfnljopjbaaInsA
namespace Go.Proofs.Ytojakfnljopjbaa
set_option linter.unusedSimpArgs false
set_option linter.unusedVariables false
set_option linter.unusedSectionVars false
open Go Go.RowKit
def mkTT : TFun := orTz inT (mkT 16 [] gTrueY)
theorem mkTT_one : TOneZ Try.prog mkTT := orTz_ok inT_one (mkT_one aw_gok)
def mkV : Tv := ⟨mkTT, mtX, noL, fun _ => [], noSy, fun _ => [], fun _ => 0⟩
theorem mt_known  : prjV (runZ mkV Try.prog 30 4 [] [] 0 []) =
  Res.ok (Value.bool true, [], [[(14, Rw.mk Kd.shut [Value.slice (some (Addr.mk 12 0 none)) 1 1, Value.slice (some (Addr.mk 13 0 none)) 1 1, Value.bool false]), (13, Rw.mk Kd.lent [Value.int IntKind.u8 (50 : Int)]), (12,
 Rw.mk Kd.lent [Value.int IntKind.u8 (97 : Int)]), (3, Rw.mk Kd.shut [Value.slice (some (Addr.mk 1 0 none)) 1 1, Value.slice (some (Addr.mk 2 0 none)) 1 1, Value.bool false]), (2, Rw.mk Kd.lent [Value.int IntKind.u8 (49 :
 Int)]), (1, Rw.mk Kd.lent [Value.int IntKind.u8 (98 : Int)]), (0, Rw.mk Kd.shut [Value.bool true, Value.slice (some (Addr.mk 11 0 none)) 1 (capBig + 11)]), (9, Rw.mk (Kd.room 1 [Value.int IntKind.u8 (0 : Int)]) [Value.int
 IntKind.u8 (49 : Int)]), (8, Rw.mk (Kd.room 1 [Value.int IntKind.u8 (0 : Int)]) [Value.int IntKind.u8 (98 : Int)]), (7, Rw.mk Kd.shut []), (5, Rw.mk Kd.shut [Value.slice (some (Addr.mk 1 0 none)) 1 1, Value.slice (some
 (Addr.mk 2 0 none)) 1 1, Value.bool false]), (6, Rw.mk Kd.shut [Value.slice (some (Addr.mk 8 0 none)) 1 (capBig + 8), Value.slice (some (Addr.mk 9 0 none)) 1 (capBig + 9), Value.bool false]), (10, Rw.mk Kd.shut
 [Value.slice (some (Addr.mk 8 0 none)) 1 (capBig + 8), Value.slice (some (Addr.mk 9 0 none)) 1 (capBig + 9), Value.bool false]), (11, Rw.mk (Kd.room 3 [Value.slice none 0 0, Value.slice none 0 0, Value.bool false])
 [Value.slice (some (Addr.mk 8 0 none)) 1 (capBig + 8), Value.slice (some (Addr.mk 9 0 none)) 1 (capBig + 9), Value.bool false]), (22, Rw.mk (Kd.room 1 [Value.int IntKind.u8 (0 : Int)]) [Value.int IntKind.u8 (50 : Int)]),
 (21, Rw.mk (Kd.room 1 [Value.int IntKind.u8 (0 : Int)]) [Value.int IntKind.u8 (97 : Int)]), (20, Rw.mk Kd.shut []), (18, Rw.mk Kd.shut [Value.slice (some (Addr.mk 12 0 none)) 1 1, Value.slice (some (Addr.mk 13 0 none)) 1
 1, Value.bool false]), (19, Rw.mk Kd.shut [Value.slice (some (Addr.mk 21 0 none)) 1 (capBig + 21), Value.slice (some (Addr.mk 22 0 none)) 1 (capBig + 22), Value.bool false]), (23, Rw.mk Kd.shut [Value.slice (some (Addr.mk
 21 0 none)) 1 (capBig + 21), Value.slice (some (Addr.mk 22 0 none)) 1 (capBig + 22), Value.bool false])] = inH (Rw.mk (Kd.room 3 [Value.slice none 0 0, Value.slice none 0 0, Value.bool false]) [Value.slice (some (Addr.mk
 8 0 none)) 1 (capBig + 8), Value.slice (some (Addr.mk 9 0 none)) 1 (capBig + 9), Value.bool false]) ∧ [Value.slice (some (Addr.mk 11 0 none)) 1 (capBig + 11), Value.int IntKind.i64 (0 : Int), Value.slice (some (Addr.mk 23
 0 none)) 1 1] = [Value.slice (some (Addr.mk 11 0 none)) 1 (capBig + 11), Value.int IntKind.i64 (0 : Int), Value.slice (some (Addr.mk 23 0 none)) 1 1] ∧ 24 = 24]) := by kernel_rfl
end Go.Proofs.Ytojakfnljopjbaa
