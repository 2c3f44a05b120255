/-
  Worlds that extend an older one: all older memory is as it was. Lemmas on allocation, draws, stores into new blocks, and on regions that draw their order while the calls in them make new memory only.
-/
import Derived.WalkKit
import Derived.ProofKit
import Derived.Carry
import Derived.Deep.QuietTactic
import Derived.BigQuiet
import Derived.Deep.Draws
namespace Go.Proofs.Ytcahhoemlmbnaaa
set_option linter.unusedSimpArgs false
set_option linter.unusedVariables false
set_option linter.unusedSectionVars false
open Go.RowKit

/-- w is a later world of a: below a's heap everything is as it was. -/
def Ext (a w : World) : Prop := Below a.heap.size a w

section
variable {a b c w : World}
theorem Ext.refl (w : World) : Ext w w := Below.refl _ _
theorem Ext.trans (h : Ext a b) (k : Ext b c) : Ext a c := Below.trans h (Below.mono k (Below.size h))
theorem Ext.alloc (h : Ext a w) (o : Obj) : Ext a (w.alloc o) := Below.alloc h (Below.size h) o
theorem Ext.setCell (h : Ext a w) {p : Addr} (hp : a.heap.size ≤ p.block) (u : Value) : Ext a (w.setCell p u) := Below.setCell h hp u
theorem Ext.drew (h : Ext a w) : Ext a w.drew := Below.drew h
theorem Ext.drewN (h : Ext a w) (n : Nat) : Ext a (w.drewN n) := ⟨h.os, h.tape, h.output, h.size, h.block⟩
theorem Ext.lt (h : Ext a w) {k : Nat} (hk : k < a.heap.size) : k < w.heap.size := Nat.lt_of_lt_of_le hk (Below.size h)
theorem Ext.size (h : Ext a w) : a.heap.size ≤ w.heap.size := Below.size h
theorem Ext.cell (h : Ext a w) (k o : Nat) (hk : k < a.heap.size) : w.cell? ⟨k, o, none⟩ = a.cell? ⟨k, o, none⟩ := Below.cell (p := ⟨k, o, none⟩) h hk
theorem Ext.frozen (h : Ext a w) (k o : Nat) (hk : k < a.heap.size) : w.frozen? ⟨k, o, none⟩ = a.frozen? ⟨k, o, none⟩ := Below.frozen (p := ⟨k, o, none⟩) h hk
theorem Ext.facts (h : Ext a w) : (∀ k o, k < a.heap.size → w.cell? ⟨k, o, none⟩ = a.cell? ⟨k, o, none⟩) ∧ (∀ k o, k < a.heap.size → w.frozen? ⟨k, o, none⟩ = a.frozen? ⟨k, o, none⟩) ∧ a.heap.size ≤ w.heap.size :=
  ⟨h.cell, h.frozen, h.size⟩
/-- The same, the older heap's size given as the walk spells it. -/
theorem Ext.facts' (h : Ext a w) {n : Nat} (hn : a.heap.size = n) : (∀ k o, k < n → w.cell? ⟨k, o, none⟩ = a.cell? ⟨k, o, none⟩) ∧ (∀ k o, k < n → w.frozen? ⟨k, o, none⟩ = a.frozen? ⟨k, o, none⟩) ∧ n ≤ w.heap.size := by
  subst hn; exact h.facts
end

/-- Whether a cell is there does not hang on what is stored. -/
theorem isSome_setCell (w : World) (a b : Addr) (v : Value) : ((w.setCell a v).cell? b).isSome = (w.cell? b).isSome := by
  simp only [World.setCell, World.cell?, Array.getElem?_modify]
  by_cases hb : a.block = b.block
  · simp only [hb, if_true]
    cases hh : w.heap[b.block]? with
    | none => simp
    | some x =>
      cases x <;> simp
      rename_i c _ _
      cases hsb : b.spot <;> cases hsa : a.spot <;> simp [Array.getElem?_setIfInBounds]
      split
      · rename_i ho
        rw [ho]
        rcases Nat.lt_or_ge b.off c.size with h | h
        · simp [h]
        · simp [Array.getElem?_eq_none h, Nat.not_lt.2 h]
      · rfl
  · simp [hb]
/-- Two stores to one cell: the later one counts. -/
theorem setCell_setCell (w : World) (a : Addr) (u v : Value) : (w.setCell a u).setCell a v = w.setCell a v := by
  simp only [World.setCell]
  congr 1
  apply Array.ext
  · simp
  · intro i h1 h2
    simp only [Array.getElem_modify]
    split
    · cases hx : w.heap[i]'(by simpa using h2) <;> simp [hx]
      cases a.spot <;> simp
    · rfl

section
variable {P : Program} {ops : Array Oper} {C : World → Prop} {Q : Act → Prop} {a : Act} {o : Oper} {rest : List Oper}
theorem q_want (v : Value) (hw : Region.wanted o (yielded ops a.tmps) = true) (hy : ∀ w, C w → o.quietAt P a C w v) (h : wpQuiet P ops C Q rest (a.put o.dst v)) : wpQuiet P ops C Q (o :: rest) a :=
  wpQuiet_step fun K hK => by rw [if_pos hw]; exact ⟨v, hy, hK _ h⟩
theorem q_skip (hw : Region.wanted o (yielded ops a.tmps) = false) (h : wpQuiet P ops C Q rest (a.put o.dst undef)) : wpQuiet P ops C Q (o :: rest) a :=
  wpQuiet_step fun K hK => by rw [if_neg (by rw [hw]; exact Bool.false_ne_true)]; exact hK _ h
theorem q_calls {f : FuncId} {args : Array Value} {v : Value} {W w : World} (hC : Ext W w) (h : Calls P f args w fun e w' => e = .returned v ∧ Ext w w') :
    Calls P f args w fun e w' => e = .returned v ∧ Ext W w' :=
  h.mono fun _ _ ⟨he, hx⟩ => ⟨he, hC.trans hx⟩
theorem q_region {id : Nat} {Q : Exit → Act → World → Prop} {a : Act} {w : World} {l : List Oper} (hm : P.follows .mixedOrders = true) (hB : Region.lexB .any l.toArray = true)
    (h : ∀ w0, (∀ k o, k < w.heap.size → w0.cell? ⟨k, o, none⟩ = w.cell? ⟨k, o, none⟩) → (∀ k o, k < w.heap.size → w0.frozen? ⟨k, o, none⟩ = w.frozen? ⟨k, o, none⟩) → w.heap.size ≤ w0.heap.size → Ext w w0 →
      (∀ wq, Ext w0 wq → ∀ k o, k < w0.heap.size → wq.cell? ⟨k, o, none⟩ = w0.cell? ⟨k, o, none⟩) → (∀ wq, Ext w0 wq → ∀ k o, k < w0.heap.size → wq.frozen? ⟨k, o, none⟩ = w0.frozen? ⟨k, o, none⟩) →
      wpQuiet P l.toArray (Ext w0) (fun a' => ∀ w', Ext w0 w' → Q .normal a' w') l a) : (Code.region id l.toArray true).wp P Q a w := by
  have h1 := h w (fun _ _ _ => rfl) (fun _ _ _ => rfl) (Nat.le_refl _) (Ext.refl w) (fun _ hq k o hk => hq.cell k o hk) (fun _ hq k o hk => hq.frozen k o hk)
  exact wp_region_quiet (C := Ext w) hm hB (Ext.drew (Ext.refl w)) (by simpa using h1)
end
end Go.Proofs.Ytcahhoemlmbnaaa
