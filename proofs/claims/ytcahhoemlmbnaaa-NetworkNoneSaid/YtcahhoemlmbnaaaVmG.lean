/-
  The machine that runs in the kernel, part G: operations that make rows and write them.
-/
import Derived.Test.YtcahhoemlmbnaaaVmF
namespace Go.Proofs.Ytcahhoemlmbnaaa
set_option linter.unusedSimpArgs false
set_option linter.unusedVariables false
set_option linter.unusedSectionVars false
open Go Go.RowKit

/-! ### cells of a block, written -/
theorem setCells_same : ∀ (us : List Value) (w : World) (b j : Nat) (cs : Array Value) (t : TypeId), w.heap[b]? = some (.cells cs t (0, 0)) → (w.setCells b j us).heap[b]? = some (.cells (splice cs.toList j us).toArray t (0, 0))
  | [], w, b, j, cs, t, h => by simpa [World.setCells, splice] using h
  | u :: us, w, b, j, cs, t, h => by
      have h1 : (w.setCell ⟨b, j, none⟩ u).heap[b]? = some (.cells (cs.setIfInBounds j u) t (0, 0)) := by rw [heap_setCell_same w b j cs t u h]
      have := setCells_same us (w.setCell ⟨b, j, none⟩ u) b (j + 1) _ t h1
      simpa [World.setCells, splice] using this
theorem setCells_other : ∀ (us : List Value) (w : World) (b j k : Nat), k ≠ b → (w.setCells b j us).heap[k]? = w.heap[k]?
  | [], w, b, j, k, h => rfl
  | u :: us, w, b, j, k, h => by
      have := setCells_other us (w.setCell ⟨b, j, none⟩ u) b (j + 1) k h
      simp only [World.setCells]
      rw [this, heap_setCell_other w ⟨b, j, none⟩ k u h]
theorem setCells_size : ∀ (us : List Value) (w : World) (b j : Nat), (w.setCells b j us).heap.size = w.heap.size
  | [], w, b, j => rfl
  | u :: us, w, b, j => by simp only [World.setCells]; rw [setCells_size us]; simp
theorem splice_app : ∀ (us vs rest : List Value) (j : Nat), j + us.length ≤ vs.length → splice (vs ++ rest) j us = splice vs j us ++ rest
  | [], _, _, _, _ => rfl
  | u :: us, vs, rest, j, h => by
      simp only [List.length_cons] at h
      simp only [splice]
      rw [List.set_append_left _ _ (by omega)]
      exact splice_app us (vs.set j u) rest (j + 1) (by simp; omega)

section
variable {P : Program} {W : World} {σ : Sg} {h : Hp} {w : World}
theorem Stp.put (hR : Rl W σ h w) (lo : Nat) {n : Nat} {r : Rw} {p : Nat × Nat} (hl : lk h n = some r) (hwr : r.wr) (hb : σ.b n = some p) {j : Nat} {xs us : List Value} (hx : renL σ xs = some us) (hle : j + xs.length ≤ r.cs.length) :
    Stp W lo lo σ h w σ (setH h n ⟨r.kd, splice r.cs j xs⟩) (w.setCells p.1 j us) := by
  have ho := hwr.own
  have hge := hR.ge hl ho hb
  have hxl := renL_len hx
  have hother : ∀ m s q, lk h m = some s → s.own → σ.b m = some q → m ≠ n → (w.setCells p.1 j us).heap[q.1]? = w.heap[q.1]? := fun m s q hm hs hq hmn =>
    setCells_other us w p.1 j q.1 fun e => hmn (hR.inj m n s r q p hm hl hs ho hq hb e)
  refine ⟨Sg.le.refl σ, fun _ _ => ⟨rfl, rfl⟩, ⟨ext_setCells us hR.ext hge.1 j, fun m s hm => ?_, fun m m' s s' q q' hm hm' hs hs' hq hq' e => ?_⟩, by rw [setCells_size]; exact Nat.le_refl _, fun b hbl hno => setCells_other us w p.1 j b (fun e => hno n r p hl ho hb e.symm), fun m s q hm hs hq => ?_⟩
  · rw [lk_setH] at hm
    split at hm
    · rename_i e; subst e
      cases hm
      obtain ⟨b, s, vs, hb', hv, hk⟩ := hR.row _ _ hl
      rw [hb] at hb'
      obtain rfl : p = (b, s) := by simpa using hb'
      have hvl := renL_len hv
      refine ⟨b, s, splice vs j us, hb, renL_splice j hx hv, ?_⟩
      obtain ⟨kd, cs⟩ := r
      cases kd with
      | old => exact (ho rfl).elim
      | lent => cases hwr
      | held m => cases hwr
      | round st pe tm ps as bd => cases hwr
      | marks => cases hwr
      | mp es => cases hwr
      | shut =>
        obtain ⟨h1, h2, t, e⟩ := hk
        refine ⟨h1, h2, t, ?_⟩
        have := setCells_same us w b j _ t e
        simpa using this
      | room sz zz =>
        obtain ⟨h1, h2, t, rest, c, hc, e, h3, h4⟩ := hk
        refine ⟨h1, h2, t, rest, c, hc, ?_, ?_, h4⟩
        · have := setCells_same us w b j _ t e
          simp only at this
          rw [splice_app us vs rest j (by simp only at hle hvl; omega)] at this
          exact this
        · rw [List.length_append, splice_length, ← List.length_append]; exact h3
    · rename_i hne
      exact (hR.row m s hm).keep (Sg.le.refl σ) fun hs q hq => hother m s q hm hs hq (Ne.symm hne)
  · have conv : ∀ m s, lk (setH h n ⟨r.kd, splice r.cs j xs⟩) m = some s → s.own → ∃ s', lk h m = some s' ∧ s'.own := fun m s hm hs => by
      rw [lk_setH] at hm
      split at hm
      · rename_i e; subst e; exact ⟨r, hl, ho⟩
      · exact ⟨s, hm, hs⟩
    obtain ⟨s1, a1, a2⟩ := conv m s hm hs
    obtain ⟨s2, b1, b2⟩ := conv m' s' hm' hs'
    exact hR.inj m m' s1 s2 q q' a1 b1 a2 b2 hq hq' e
  · rw [lk_setH] at hm
    split at hm
    · rename_i e; subst e; exact .inr ⟨_, r, q, hl, ho, hq, rfl⟩
    · exact .inr ⟨m, s, q, hm, hs, hq, rfl⟩
theorem Rl.put_cells (hR : Rl W σ h w) {n : Nat} {r : Rw} {p : Nat × Nat} (hl : lk h n = some r) (ho : r.wr) (hb : σ.b n = some p) {o : Nat} {us : List Value} (h1 : ∀ u ∈ us, u.oneCell' = true) (hle : o + us.length ≤ r.cs.length) :
    (storeCells ⟨p.1, p.2 + o, none⟩ us).run P w = .ok () (w.setCells p.1 o us) := by
  have hge := hR.ge hl ho.own hb
  obtain ⟨p', vs, hb', hv, hc⟩ := hR.cell hl
  rw [hb] at hb'
  cases hb'
  have hvl := renL_len hv
  have := run_storeCells_cells (P := P) p.1 o us 0 w (fun k hk => by
    have hlt : o + k < vs.length := by omega
    have := hc (o + k) _ (List.getElem?_eq_getElem hlt)
    rw [hge.2, Nat.zero_add] at this
    rw [Nat.add_zero, this]; rfl) (fun k hk => hR.free hl ho hb _) h1
  rw [hge.2, Nat.zero_add]
  simpa using this
end
end Go.Proofs.Ytcahhoemlmbnaaa
