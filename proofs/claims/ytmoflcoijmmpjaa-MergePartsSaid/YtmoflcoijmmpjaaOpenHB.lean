/-
  Opening of a struct that comes in: integers, and behind them one slice (a message: a header and its body).
-/
import Derived.Test.YtmoflcoijmmpjaaGenq
namespace Go.Proofs.Ytmoflcoijmmpjaa
set_option linter.unusedSimpArgs false
set_option linter.unusedVariables false
set_option linter.unusedSectionVars false
open Go.ChangeShapes Go.WideShapes Go.ChangeAt Go.RowKit
section
variable {H : Type} {enc : TypeId × Value → H} {P : Program} {w : World} {base : Nat} {spare : Nat → Bool} {held : Bool}
theorem open_hb {t e : TypeId} {fh fb : Field} {ks : List IntKind} {v : Value} {d : DataW H} {ps : List MemPlace} {r : Reach} {b0 : Nat} (hs : P.underlying t = some (.struct #[fh, fb])) (ho : fh.offset = 0) (hk : flatK P 8 fh.type = some ks) (hc : P.cellsOf fh.type = ks.length)
    (hb : P.underlying fb.type = some (.slice e)) (hbo : fb.offset = ks.length) (hb1 : P.cellsOf fb.type = 1) (hct : P.cellsOf t = ks.length + 1)
    (hv : Value.okWide P w r b0 t v) (h : DataW.Trod enc P w base spare held t v d ps) : ∃ zs A n c, AllWf ks zs ∧ v = .agg (cellsK ks zs ++ [Value.slice A n c]).toArray := by
  obtain ⟨cs, rfl, _⟩ := okWide_struct hs hv
  obtain ⟨fuel, hf⟩ := h
  obtain ⟨xs, m, _, _, hlen, hxl, hg⟩ := DataW.trod_struct hs hf
  simp only [Value.cells] at hlen hg
  have h0 := hg 0 fh rfl
  have h1 := hg 1 fb rfl
  have hx2 : xs.length = 2 := hxl
  obtain ⟨x0, e0⟩ : ∃ x0, xs[0]? = some x0 := ⟨xs[0]'(by omega), List.getElem?_eq_getElem _⟩
  obtain ⟨x1, e1⟩ : ∃ x1, xs[1]? = some x1 := ⟨xs[1]'(by omega), List.getElem?_eq_getElem _⟩
  rw [e0, ho, hc, List.drop_zero] at h0
  rw [e1, hbo, hb1] at h1
  obtain ⟨zs, hz, hcs⟩ := flat_ints _ _ _ hk _ _ _ h0
  have hsl : ∃ A n c, (cs.toList.drop ks.length).take 1 = [Value.slice A n c] := by
    rcases DataW.trod_slice hb h1 with ⟨h2, _⟩ | ⟨a, len, cap, _, _, _, _, h2, _⟩
    · exact ⟨_, _, _, h2⟩
    · exact ⟨_, _, _, h2⟩
  obtain ⟨A, n, c, hsl⟩ := hsl
  refine ⟨zs, A, n, c, hz, ?_⟩
  have hcl : cs.toList.length = ks.length + 1 := by rw [← hct, ← hlen]
  have e3 : cs.toList = cellsK ks zs ++ [Value.slice A n c] := by
    rw [← hcs, ← hsl]
    rw [List.take_of_length_le (l := cs.toList.drop ks.length) (by simp; simp at hcl; omega), List.take_append_drop]
  rw [← e3]
end
end Go.Proofs.Ytmoflcoijmmpjaa
