/-
  The statements' kit on lists of bytes: OverBytes writes over a list, all of it; from then on the list is forgotten.
-/
import Derived.Test.YtgpgdkpfeoaidaaKitB
namespace Go.Proofs.Ytgpgdkpfeoaidaa
set_option linter.unusedSimpArgs false
set_option linter.unusedVariables false
set_option linter.unusedSectionVars false
open Go Go.RowKit

def ovV (L : LFun) : Tv := ⟨noTz, noXz, L, tbl 36 [11], allSy 36 [], fun _ => [], fun _ => 0⟩
def ovBody (P : Program) : Code := bodyIn P 36 2
def ovS (m i : Nat) : List (Nat × Value) := [(2, .slice (some ⟨0, 0, none⟩) m m), (3, .int .i64 (i : Int))]
theorem ov_more (inr : Bool) (cs : List Value) (m i : Nat) : prjZ [2, 3] (codeZ (ovV noL) Try.prog (runZ (ovV noL) Try.prog 5) 36 inr 100000 (ovBody Try.prog) (SL 22 (ovS m i)) [(0, ⟨.shut, cs⟩)] 1 [true]) =
  Res.ok ((Xt.normal, 22, [(2, Value.slice (some (Addr.mk 0 0 none)) m m), (3, Value.int IntKind.i64 (↑(i + 1) : Int))], [(0, Rw.mk Kd.shut (splice cs i [Value.int IntKind.u8 (IntKind.wrap IntKind.u8 (↑(BitVec.toNat
 (BitVec.ofInt 8 (intAt cs i) ^^^ BitVec.ofInt 8 (90 : Int))) : Int))]))], 1, [0], []), [], [decide ((↑i : Int) < (↑m : Int)) = true, (0 : Int) ≤ (↑i : Int) ∧ (↑i : Int) < (↑m : Int), cs[i]? = some (Value.int IntKind.u8
 (intAt cs i)), (0 : Int) ≤ (↑i : Int) ∧ (↑i : Int) < (↑m : Int), i + 1 ≤ List.length cs, rg IntKind.i64 (↑(i + 1) : Int)]) := by kernel_rfl
theorem ov_done (inr : Bool) (cs : List Value) (m i : Nat) : prjZ [2, 3] (codeZ (ovV noL) Try.prog (runZ (ovV noL) Try.prog 5) 36 inr 100000 (ovBody Try.prog) (SL 22 (ovS m i)) [(0, ⟨.shut, cs⟩)] 1 [false]) =
  Res.ok ((Xt.exit 0, 22, [(2, Value.slice (some (Addr.mk 0 0 none)) m m), (3, Value.int IntKind.i64 (↑i : Int))], [(0, Rw.mk Kd.shut cs)], 1, [], []), [], [decide ((↑i : Int) < (↑m : Int)) = false]) := by kernel_rfl
theorem over_n  : runZ (ovV noL) Try.prog 5 36 [.slice none 0 0] [] 1 [false] =
  Res.ok ((Value.tuple (Array.mk []), [], 1, []), [], [0 < 18446744073709551616, (0 : Int) ≤ (0 : Int) ∧ (0 : Int) ≤ (0 : Int), false = false]) := by kernel_rfl
theorem Byts.get {cs : List Value} (h : Byts cs) {i : Nat} (hi : i < cs.length) : cs[i]? = some (.int .u8 (intAt cs i)) ∧ 0 ≤ intAt cs i ∧ intAt cs i < 256 := by
  have hl : (intsOf cs).length = cs.length := by simp [intsOf]
  have hi' : i < (intsOf cs).length := by omega
  have e : cs[i]? = some (.int .u8 (intsOf cs)[i]) := by
    conv => lhs; rw [h.1]
    rw [List.getElem?_map, List.getElem?_eq_getElem hi']
    rfl
  have ei : intAt cs i = (intsOf cs)[i] := by unfold intAt; rw [e]
  rw [ei]
  exact ⟨e, h.2 _ (List.getElem_mem _)⟩
theorem Byts.set {cs : List Value} (h : Byts cs) (i : Nat) {n : Int} (hn : 0 ≤ n ∧ n < 256) : Byts (cs.set i (.int .u8 n)) := by
  have e : intsOf (cs.set i (.int .u8 n)) = (intsOf cs).set i n := by unfold intsOf; rw [List.map_set]
  refine ⟨?_, fun x hx => ?_⟩
  · rw [e, List.map_set, ← h.1]
  · rw [e] at hx
    rcases List.mem_or_eq_of_mem_set hx with hx | rfl
    · exact h.2 x hx
    · exact hn
theorem xor_rg (a : Int) : 0 ≤ IntKind.u8.wrap (BitVec.toNat (BitVec.ofInt 8 a ^^^ BitVec.ofInt 8 90) : Nat) ∧ IntKind.u8.wrap (BitVec.toNat (BitVec.ofInt 8 a ^^^ BitVec.ofInt 8 90) : Nat) < 256 := by
  rw [IntKind.wrap_u8]; omega

end Go.Proofs.Ytgpgdkpfeoaidaa
