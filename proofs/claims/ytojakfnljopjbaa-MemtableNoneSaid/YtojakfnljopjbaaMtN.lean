/-
  MemtableNone: a table that is nil, or that nobody made, at any key.
-/
import Derived.Test.YtojakfnljopjbaaInsA
namespace Go.Proofs.Ytojakfnljopjbaa
set_option linter.unusedSimpArgs false
set_option linter.unusedVariables false
set_option linter.unusedSectionVars false
open Go Go.RowKit
def mnT : TFun := mkT 16 [] gTrueY
theorem mnT_one : TOneZ Try.prog mnT := mkT_one aw_gok
def mnV : Tv := ⟨mnT, mtX, noL, tbl 7 [9], noSy, fun _ => [], fun _ => 0⟩
theorem mn_n  : prjV (runZ mnV Try.prog 30 7 [.slice none 0 0] [] 1 [false]) =
  Res.ok (Value.bool true, [], [false = false]) := by kernel_rfl
theorem mn_s (xs : List Value) (n c : Nat) : prjV (runZ mnV Try.prog 30 7 [.slice (some ⟨0, 0, none⟩) n c] [(0, ⟨.old, xs⟩)] 1 [false]) =
  Res.ok (Value.bool true, [], [decide ((↑n : Int) > (300 : Int)) = false]) := by kernel_rfl
theorem mn_b (xs : List Value) (n c : Nat) : prjV (runZ mnV Try.prog 30 7 [.slice (some ⟨0, 0, none⟩) n c] [(0, ⟨.old, xs⟩)] 1 [true]) =
  Res.ok (Value.bool true, [], [decide ((↑n : Int) > (300 : Int)) = true]) := by kernel_rfl
theorem none_any {W : World} {v1 : Value} {a1 : Av} {q1 : Option (Addr × Nat)} {z1 : List (List Int)} (h1 : (a1 = .fl (.slice none 0 0) ∧ z1 = []) ∨ a1 = .sl (z1.map (cellsK [.u8])).flatten z1.length)
    (A1 : AvAt a1 v1 q1) (L1 : Lies W a1 q1) :
    Calls Try.prog 7 #[v1] W fun e w' => e = .returned (.bool true) ∧ Ext W w' := by
  have hX : XOkZ mnV Try.prog := inX rfl
  have hT : TOkZ mnV Try.prog := T_okV rfl mnT_one
  have hL : LOkZ mnV Try.prog := noL_okV rfl
  refine calls_sl (avs := [a1]) (vs := [v1]) (ps := [q1]) ⟨A1, trivial⟩ ⟨L1, trivial⟩ (fun σ => rfl) fun cs hcs => ?_
  obtain ⟨c, rfl⟩ := caps1 hcs
  rcases h1 with ⟨rfl, rfl⟩ | rfl
  · exact run_val hX hT hL mn_n ⟨rfl, trivial⟩ rfl
  · cases hd : decide ((((z1.length : Nat)) : Int) > 300) with
    | false => exact run_val hX hT hL (mn_s _ _ c) ⟨hd, trivial⟩ rfl
    | true => exact run_val hX hT hL (mn_b _ _ c) ⟨hd, trivial⟩ rfl
end Go.Proofs.Ytojakfnljopjbaa
