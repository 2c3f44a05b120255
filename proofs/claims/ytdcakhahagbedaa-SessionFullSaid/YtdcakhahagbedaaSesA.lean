/-
  Chapter 22: the statement SessionOnce: its examples, its head, its rounds.
-/
import Derived.Test.YtdcakhahagbedaaKitY
import Derived.Test.YtdcakhahagbedaaKitW
import Derived.Test.YtdcakhahagbedaaSessionKnownV
namespace Go.Proofs.Ytdcakhahagbedaa
set_option linter.unusedSimpArgs false
set_option linter.unusedVariables false
set_option linter.unusedSectionVars false
open Go Go.RowKit

def soF : FuncId → List Nat := fun f => bif Nat.beq f 3 then [22, 26, 31, 50, 82, 90, 98, 106, 129, 136, 146, 159] else bif Nat.beq f 35 then [16] else bif Nat.beq f 13 then [22, 29, 37] else bif Nat.beq f 14 then [34] else bif Nat.beq f 12 then [22, 32] else bif Nat.beq f 33 then [4, 7] else []
def soY (m1 m2 : Nat) : FuncId → Nat → Option Nat := orSy (lsSy 3 [(55, 0), (65, 0), (69, 0), (70, 0), (73, 0), (75, m1), (81, 0), (89, 0), (135, 0), (144, 0), (145, 0), (154, 0), (155, 0), (156, 0), (158, 0), (52, 0), (50, 0), (56, 0)]) (orSy (lsSy 34 [(7, m2)]) (lsSy 13 [(32, 0)]))
def soT : TFun := orTz (mkT 10 [] gTrueY) (mkT 15 [.s 1] (gS sCp))
set_option maxRecDepth 1000000 in
theorem awake_val : valF ⟨Try.prog, sub64V 60, noT⟩ 30 10 [] = some (.bool true) := by kernel_rfl
theorem awake_any (W : World) : Calls Try.prog 10 #[] W fun e w' => e = .returned (.bool true) ∧ Ext W w' :=
  closed (E := ⟨Try.prog, sub64V 60, noT⟩) xSub_ok noT_ok (by kernel_rfl) 30 _ [] _ rfl awake_val (fun _ => rfl) W
theorem aw_gok : GOk Try.prog 10 [] gTrueY := gTrueY_ok awake_any
theorem soT_one : TOneZ Try.prog soT := orTz_ok (mkT_one aw_gok) (mkT_one cp_gok)
def soV (m1 m2 : Nat) (L : LFun) : Tv := ⟨soT, noXz, L, soF, soY m1 m2, fun _ => [], fun _ => 35⟩
/-- The table with one session. -/
def tabC (a b q o : Int) (rv : Value) : List Value := [.int .u64 a, .int .u64 b, .int .i64 q, .int .i64 o, .int .i64 1, rv, .int .u64 0, .int .u64 0, .int .i64 0, .int .i64 0, .int .i64 0, .slice none 0 0, .int .u64 0, .int .u64 0, .int .i64 0, .int .i64 0, .int .i64 0, .slice none 0 0, .int .u64 0, .int .u64 0, .int .i64 0, .int .i64 0, .int .i64 0, .slice none 0 0, .int .i64 1, .bool true]
def soS (v2 : Value) (n c i : Nat) (q : Int) : List (Nat × Value) := [(1, .slice (some ⟨1, 0, none⟩) n c), (2, v2), (3, .pointer (some ⟨3, 0, none⟩)), (7, .bool true), (8, .pointer (some ⟨4, 0, none⟩)), (12, .int .i64 q), (13, .int .i64 (i : Int))]
def soH (a b q o : Int) (rv : Value) (rs : List Value) (r2 rr : Hp) : Hp := (1, ⟨.old, rs⟩) :: (r2 ++ (3, ⟨.shut, [.int .u64 a, .int .u64 b]⟩) :: (4, ⟨.shut, tabC a b q o rv⟩) :: rr)
def soB (P : Program) : Code := bodyIn P 3 12
def rbr (ys : List Value) : Rw := ⟨.room 1 [.int .u8 0], ys⟩
end Go.Proofs.Ytdcakhahagbedaa
