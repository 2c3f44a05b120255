/-
  Opening of an argument that is a slice of structs of integers: as the told machine takes it.
-/
import Derived.Test.YtmoflcoijmmpjaaOpenHB
import Derived.Test.YtmoflcoijmmpjaaVmZd
import Derived.Test.YtmoflcoijmmpjaaKitS
namespace Go.Proofs.Ytmoflcoijmmpjaa
set_option linter.unusedSimpArgs false
set_option linter.unusedVariables false
set_option linter.unusedSectionVars false
open Go.ChangeShapes Go.WideShapes Go.ChangeAt Go.RowKit

def LiesAll (W : World) : List Av → List (Option (Addr × Nat)) → Prop
  | a :: l, q :: qs => Lies W a q ∧ LiesAll W l qs
  | _, _ => True
theorem LiesAll.at : ∀ {W : World} {xs : List Av} {qs : List (Option (Addr × Nat))}, LiesAll W xs qs → xs.length = qs.length → ∀ (j : Nat) (ad : Addr) (c : Nat), qs[j]? = some (some (ad, c)) → ∀ a, xs[j]? = some a → avCs a = [] ∨ (ad.block < W.heap.size ∧ ∀ i x, (avCs a)[i]? = some x → W.cell? ⟨ad.block, ad.off + i, none⟩ = some x)
  | W, [], [], _, _, j, ad, c, h => by simp at h
  | W, a :: l, q :: qs, hh, hl, j, ad, c, h => by
      cases j with
      | zero =>
        simp only [List.getElem?_cons_zero, Option.some.injEq] at h
        intro b hb
        simp only [List.getElem?_cons_zero, Option.some.injEq] at hb
        subst hb
        exact hh.1 ad c h
      | succ j => exact LiesAll.at hh.2 (by simpa using hl) j ad c (by simpa using h)
  | W, [], _ :: _, _, hl, _, _, _, _ => by simp at hl
  | W, _ :: _, [], _, hl, _, _, _, _ => by simp at hl
theorem AllWf.fl : ∀ {ks : List IntKind} {zs : List Int}, AllWf ks zs → Fl (cellsK ks zs)
  | [], [], _ => fun σ => rfl
  | k :: ks, z :: zs, h => fun σ => by simp only [cellsK]; exact renL_mk (by simp only [renV]) (AllWf.fl h.2 σ)
  | [], _ :: _, h => h.elim
  | _ :: _, [], h => h.elim
section
variable {H : Type} {enc : TypeId × Value → H} {P : Program} {W : World}
end
end Go.Proofs.Ytmoflcoijmmpjaa
