/-
  Chapter 30: the statement NetworkOrder, at any arguments.
-/
import Derived.Test.YtcahhoemlmbnaaaNetF
namespace Go.Proofs.Ytcahhoemlmbnaaa
set_option linter.unusedSimpArgs false
set_option linter.unusedVariables false
set_option linter.unusedSectionVars false
open Go Go.RowKit
theorem order_any {W : World} {a : Int} {v1 : Value} {a1 : Av} {q1 : Option (Addr × Nat)} {z1 : List (List Int)} (h1 : (a1 = .fl (.slice none 0 0) ∧ z1 = []) ∨ a1 = .sl (z1.map (cellsK [.i64])).flatten z1.length)
    (A1 : AvAt a1 v1 q1) (L1 : Lies W a1 q1) (w1 : ∀ zs ∈ z1, AllWf [.i64] zs) :
    Calls Try.prog 3 #[.int .i64 a, v1] W fun e w' => e = .returned (.bool true) ∧ Ext W w' := by
  have b1 : Ints .i64 (z1.map (cellsK [.i64])).flatten := flat_Ints (m := 1) w1
  have l1 : ((z1.map (cellsK [.i64])).flatten).length = z1.length := by rw [flat_len w1]; simp
  refine calls_sl (avs := [.fl (.int .i64 a), a1]) (vs := [.int .i64 a, v1]) (ps := [none, q1]) ⟨⟨rfl, fun σ => rfl, rfl⟩, A1, trivial⟩ ⟨(fun ad c e => by cases e), L1, trivial⟩ (fun σ => rfl) fun cs hcs => ?_
  obtain ⟨c, d, rfl⟩ := caps2 hcs
  rcases h1 with ⟨rfl, rfl⟩ | rfl
  · exact order_n a
  · exact order_s a b1 l1 hcs.1
end Go.Proofs.Ytcahhoemlmbnaaa
