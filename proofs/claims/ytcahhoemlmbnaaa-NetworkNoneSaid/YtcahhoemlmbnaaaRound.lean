/-
  Loops over iterators: the body of a round is walked by the same laws as any other code.
-/
import Derived.Test.YtcahhoemlmbnaaaAppend
import Derived.RangeFuncNested
import Derived.RangeFuncLeaves
import Derived.RangeFuncBound
import Derived.TacticsIn
import Derived.LoopIn
import Derived.WalkMore
namespace Go.Proofs.Ytcahhoemlmbnaaa
set_option linter.unusedSimpArgs false
set_option linter.unusedVariables false
set_option linter.unusedSectionVars false
open Go Go.RowKit

/-- The widest fence, in a round or in none. -/
def Wide (F : Fence) : Prop := F.fn = (fun _ => True) ∧ F.depth = none ∧ F.alive = false
theorem wide_wide : Wide Fence.wide := ⟨rfl, rfl, rfl⟩
theorem wide_round (l : Nat) : Wide (Fence.wide.inRound l) := ⟨rfl, rfl, rfl⟩
theorem Wide.fenced {F : Fence} (h : Wide F) (P : Program) : Machine.fenced P F = Machine.fenced P Fence.wide := by
  obtain ⟨h1, h2, h3⟩ := h
  funext m
  simp [Machine.fenced, Fence.room, h1, h2, h3, Fence.wide]
theorem Wide.calls {F : Fence} (h : Wide F) {n : Nat} {P : Program} {f : FuncId} {args : Array Value} {w : World} {R : Ending → World → Prop} (hc : Calls P f args w R) : CallsIn F n P f args w R := by
  have := (callsIn_wide (n := n)).2 hc
  refine ⟨by rw [h.1]; trivial, fun cs _ => ?_⟩
  rw [h.fenced P]
  exact this.2 cs (room_wide _)
theorem Wide.rows {F : Fence} (h : Wide F) {n : Nat} {P : Program} {row : String} {args : Array Value} {w : World} {R : Value → World → Prop} (hc : Rows P row args w R) : RowsIn F n P row args w R := by
  intro c cs _
  obtain ⟨v, w', h1, h2⟩ := hc c cs
  rw [h.fenced P]
  exact ⟨v, w', h1, stepsIn_wide.2 h2⟩
def notDefer (o : Oper) : Bool := match o.op with | .defer _ => false | _ => true
theorem semAt_same {o : Oper} (h : notDefer o = true) (ro : Option Nat) (ρ : Operand → Value) : o.semAt ro ρ = execOp ρ o := by
  refine Oper.semAt_eq ro ρ o fun c hc => ?_
  unfold notDefer at h
  rw [hc] at h
  cases h
/-- AN OPERATION IN A ROUND, by what holds of it anywhere. -/
theorem opIn {F : Fence} (hF : Wide F) {n : Nat} {P : Program} {o : Oper} {a : Act} {w : World} {K : Act → World → Prop} {Q : Exit → Act → World → Prop} (hd : notDefer o = true) (h : o.wp P a w K Q) : o.wpIn F n P a w K Q := by
  refine ⟨fun f _ => by rw [hF.1]; trivial, ?_⟩
  rw [semAt_same hd]
  unfold Oper.wp at h
  generalize (execOp a.eval o).run P w = r at *
  have hdep : F.depth.isSome = true → 1 ≤ n := fun h' => by rw [hF.2.1] at h'; cases h'
  cases r with
  | ok x w' =>
    cases x <;> simp only [Oper.upon] at h <;> simp only [Oper.uponIn] <;> first | exact h | exact ⟨hdep, hF.calls h⟩ | exact ⟨hdep, hF.rows h⟩
  | halt x w' =>
    cases x <;> simp only [Oper.upon] at h <;> simp only [Oper.uponIn] <;> exact h

section
variable {W w w' : World} {L : Blocks}
theorem Row.grown {b : Nat} {cs : List Value} (h : Row w b cs) {row : Option Nat} (hg : w.grownBy w' row) (hr : ∀ r, row = some r → ∃ o : Obj, w.heap[r]? = some o ∧ o.isCells = false) : Row w' b cs := by
  have hl := h.lt
  obtain ⟨t, h⟩ := h
  refine ⟨t, (hg.block b hl fun e => ?_).trans h⟩
  obtain ⟨o, ho, hc⟩ := hr b e.symm
  rw [h] at ho
  cases ho
  cases hc
theorem Ext.grown (h : Ext W w) {row : Option Nat} (hg : w.grownBy w' row) (hr : ∀ r, row = some r → W.heap.size ≤ r) : Ext W w' := Below.grown h hg (Ext.size h) hr
/-- The state abides the turn of a block that is no cells. -/
theorem St.grown (h : St W w L) {B : Nat} (hB : W.heap.size ≤ B) {row : Option Nat} (hg : w.grownBy w' row) (hr : ∀ r, row = some r → B ≤ r ∧ ∃ o : Obj, w.heap[r]? = some o ∧ o.isCells = false) : St W w' L :=
  ⟨h.1.grown hg fun r e => Nat.le_trans hB (hr r e).1, fun p hp => ⟨(h.2.1 p hp).1, (h.2.1 p hp).2.grown hg fun r e => (hr r e).2⟩, h.2.2⟩
end

/-- What a round keeps: what lay below n₀, and what the box Bn holds. -/
def KpB (n₀ Bn : Nat) (v : Value) (A B : World) : Prop := Below n₀ A B ∧ (A.cell? ⟨Bn, 0, none⟩ = some v → B.cell? ⟨Bn, 0, none⟩ = some v)
theorem kpB_t {n₀ Bn : Nat} {v : Value} {A B C : World} (h : KpB n₀ Bn v A B) (k : KpB n₀ Bn v B C) : KpB n₀ Bn v A C := ⟨h.1.trans k.1, fun e => k.2 (h.2 e)⟩
theorem kpB_b {n₀ Bn : Nat} {v : Value} {w : World} (hn : n₀ ≤ w.heap.size) (W : World) (l : Nat) (o o' : Obj) (hl : w.heap.size ≤ l) (h : W.heap[l]? = some o) (hc : o.isCells = false) (hw : o.isWalk = false) : KpB n₀ Bn v W (W.putObj l o') := by
  refine ⟨belowK_b hn W l o o' hl h hc hw, fun e => ?_⟩
  have hne : Bn ≠ l := by
    rintro rfl
    unfold World.cell? at e
    simp only [h] at e
    cases o <;> simp_all [Obj.isCells]
  rw [World.cell?_of_block (World.putObj_heap_other hne)]
  exact e
theorem wpIn_scope_wide {n : Nat} {P : Program} {c : Code} {Q : Exit → Act → World → Prop} {a : Act} {w : World} (h : c.wpIn Fence.wide n P (Exit.noGoto Q) a w) : (Code.scope c).wpIn Fence.wide n P Q a w :=
  wpIn_wide.2 (wp_scope_straight (wpIn_wide.1 h))
theorem g_in {F : Fence} {n : Nat} {P : Program} {o : Oper} {a : Act} {w : World} {K : Act → World → Prop} {Q : Exit → Act → World → Prop} (h : Oper.wpIn F n P o a w K Q) : Oper.wpIn F n P o a w K Q := h
end Go.Proofs.Ytcahhoemlmbnaaa
