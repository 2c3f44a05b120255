/-
  Finite facts on sets of replicas, asked of all 128 sets.
-/
import Derived.Test.YtoliafpammlkiaaQuorumP
namespace Go.Proofs.Ytoliafpammlkiaa
set_option maxRecDepth 100000 in
theorem ofL_with : ∀ m : Fin 128, ∀ r : Fin 7, ofL (mem m.val ++ [(r.val : Int)]) = ((m.val ||| 2 ^ r.val : Nat) : Int) := by decide +kernel
set_option maxRecDepth 100000 in
theorem ofL_both : ∀ m : Fin 128, ∀ k : Fin 128, ofL (List.map (fun (i : Nat) => (i : Int)) ((List.range 7).filter fun i => m.val.testBit i && k.val.testBit i)) = ((m.val &&& k.val : Nat) : Int) := by decide +kernel
end Go.Proofs.Ytoliafpammlkiaa
