/-
  A region that draws its order: the operations that only read are taken first, the others stand in one forced order between them. C: the class of worlds in which the reads yield their values, kept by every other operation.
-/
import Derived.Test.YtmjmdjcgjmjigaaState
import Derived.OrdersHeld
namespace Go.Proofs.Ytmjmdjcgjmjigaa
set_option linter.unusedSimpArgs false
set_option linter.unusedVariables false
set_option linter.unusedSectionVars false
open Go

/-- The post without panics. -/
def NoPan (Q : Exit → Act → World → Prop) : Exit → Act → World → Prop
  | .panic _, _, _ => False
  | e, a, w => Q e a w

section
variable {P : Program} {ops : Array Oper} {md : Region.Mode} {C : World → Prop}

/-- In the order of the list; true: it only reads. -/
def wpO (P : Program) (ops : Array Oper) (C : World → Prop) (Q : Exit → Act → World → Prop) : List (Nat × Bool) → Act → World → Prop
  | [], a, w => Q .normal a w
  | (i, true) :: rest, a, w => match ops[i]? with
    | none => False
    | some o => if Region.wanted o (yielded ops a.tmps) then ∃ v, (∀ w, C w → (execOp a.eval o).run P w = .ok (.value v) w) ∧ wpO P ops C Q rest (a.put o.dst v) w else wpO P ops C Q rest (a.put o.dst undef) w
  | (i, false) :: rest, a, w => match ops[i]? with
    | none => False
    | some o => if Region.wanted o (yielded ops a.tmps) then o.wp P a w (fun a' w' => C w' ∧ wpO P ops C Q rest a' w') Q else wpO P ops C Q rest (a.put o.dst undef) w

def ordB (md : Region.Mode) (ops : Array Oper) : List (Nat × Bool) → Array Bool → Bool
  | [], lst => (Region.ready md ops lst).isEmpty
  | (i, r) :: rest, lst => (if r then (Region.ready md ops lst).contains i && Region.free md ops lst i else decide (Region.ready md ops lst = [i])) && ordB md ops rest (lst.setIfInBounds i true)

theorem wpO_held {Q : Exit → Act → World → Prop} (hQ : ∀ c a w, ¬ Q (.panic c) a w) (hns : Region.noSelect ops = true) : ∀ (ord : List (Nat × Bool)) (lst : Array Bool) (a : Act) (w : World), ordB md ops ord lst = true → C w →
    wpO P ops C Q ord a w → wpAnyH P md ops Q C ord.length lst a w
  | [], lst, a, w, hB, hC, h => ⟨by simpa [ordB] using hB, h⟩
  | (i, true) :: rest, lst, a, w, hB, hC, h => by
      simp only [ordB, if_true, Bool.and_eq_true] at hB
      obtain ⟨⟨hr, hf⟩, hB⟩ := hB
      unfold wpO at h
      split at h
      · exact h.elim
      · rename_i o ho
        split at h
        · rename_i hw
          obtain ⟨v, hv, h⟩ := h
          exact wpAnyH_take ho hns hf hr (fun c a w hp => (hQ c _ w hp).elim) (.inl ⟨hw, hv⟩) hC (wpO_held hQ hns rest _ _ _ hB hC h)
        · rename_i hw
          exact wpAnyH_take ho hns hf hr (fun c a w hp => (hQ c _ w hp).elim) (.inr ⟨by simpa using hw, rfl⟩) hC (wpO_held hQ hns rest _ _ _ hB hC h)
  | (i, false) :: rest, lst, a, w, hB, hC, h => by
      simp only [ordB, Bool.false_eq_true, if_false, Bool.and_eq_true, decide_eq_true_eq] at hB
      obtain ⟨hr, hB⟩ := hB
      unfold wpO at h
      split at h
      · exact h.elim
      · rename_i o ho
        refine wpAnyH_all hr (by simp) fun j hj => ?_
        obtain rfl : j = i := by simpa using hj
        unfold wpOp
        simp only [ho]
        split
        · rename_i hw
          rw [if_pos hw] at h
          exact .inl (Oper.wp_mono (fun a' w' h' => ⟨h'.1, wpO_held hQ hns rest _ _ _ hB h'.1 h'.2⟩) h)
        · rename_i hw
          rw [if_neg hw] at h
          exact ⟨hC, wpO_held hQ hns rest _ _ _ hB hC h⟩

theorem reg_ord {W w : World} {L : Blocks} (Lr : Blocks) {id : Nat} {Q : Exit → Act → World → Prop} {a : Act} {l : List Oper} (ord : List (Nat × Bool)) (hS : St W w L) (hr : ∀ w', St W w' L → St W w' Lr) (hm : P.follows .mixedOrders = true)
    (hns : Region.noSelect l.toArray = true) (hlen : (ord.length == l.length) = true) (hB : ordB .any l.toArray ord (Array.replicate l.toArray.size false) = true)
    (h : ∀ w', St W w' L → wpO P l.toArray (fun w => St W w Lr) (NoPan Q) ord a w') : (Code.region id l.toArray true).wp P Q a w := by
  have hS' : St W { w with drawn := w.drawn + 1 } L := hS.ext (Ext.drew (Ext.refl w))
  have hl : ord.length = l.length := by simpa using hlen
  have H : (Code.region id l.toArray true).wp P (NoPan Q) a w := by
    refine wp_region_held (S := fun w => St W w Lr) hm ?_
    have := wpO_held (P := P) (md := .any) (C := fun w => St W w Lr) (Q := NoPan Q) (fun c a w h => h) hns ord _ a _ hB (hr _ hS') (h _ hS')
    rw [hl] at this
    simpa using this
  refine wp_mono H fun e a w h => ?_
  cases e <;> first | exact h | exact h.elim

/-! ### one operation at a time -/
theorem at_drop {ops : Array Oper} {i : Nat} {o : Oper} {os : List Oper} (h : ops.toList.drop i = o :: os) : ops[i]? = some o := by
  have : ops.toList[i]? = some o := by rw [← List.head?_drop, h]; rfl
  simpa using this
theorem o_read {Q : Exit → Act → World → Prop} {i : Nat} {o : Oper} {rest : List (Nat × Bool)} {a : Act} {w : World} {os : List Oper} (ho' : ops.toList.drop i = o :: os) (hw : Region.wanted o (yielded ops a.tmps) = true) (v : Value)
    (hy : ∀ w, C w → (execOp a.eval o).run P w = .ok (.value v) w) (h : wpO P ops C Q rest (a.put o.dst v) w) : wpO P ops C Q ((i, true) :: rest) a w := by
  have ho := at_drop ho'
  unfold wpO
  simp only [ho, hw, if_true]
  exact ⟨v, hy, h⟩
theorem o_skip {Q : Exit → Act → World → Prop} {i : Nat} {r : Bool} {o : Oper} {rest : List (Nat × Bool)} {a : Act} {w : World} {os : List Oper} (ho' : ops.toList.drop i = o :: os) (hw : Region.wanted o (yielded ops a.tmps) = false)
    (h : wpO P ops C Q rest (a.put o.dst undef) w) : wpO P ops C Q ((i, r) :: rest) a w := by
  have ho := at_drop ho'
  cases r <;> unfold wpO <;> simp only [ho, hw, Bool.false_eq_true, if_false] <;> exact h
theorem o_do {Q : Exit → Act → World → Prop} {i : Nat} {o : Oper} {rest : List (Nat × Bool)} {a : Act} {w : World} {os : List Oper} (ho' : ops.toList.drop i = o :: os) (hw : Region.wanted o (yielded ops a.tmps) = true)
    (h : ∀ K : Act → World → Prop, (∀ a' w', C w' → wpO P ops C Q rest a' w' → K a' w') → o.wp P a w K Q) : wpO P ops C Q ((i, false) :: rest) a w := by
  have ho := at_drop ho'
  unfold wpO
  simp only [ho, hw, if_true]
  exact h _ fun _ _ h1 h2 => ⟨h1, h2⟩
theorem o_nil {Q : Exit → Act → World → Prop} {a : Act} {w : World} (h : Q .normal a w) : wpO P ops C (NoPan Q) [] a w := h
end

/-! ### what reads, in the class of worlds with the blocks Lr -/
section
variable {P : Program} {o : Oper} {a : Act} {W : World} {L : Blocks}
theorem c_load1 (k : Nat) (t : TypeId) (x : Operand) (ho : o.op = .load t x) (b j : Nat) (hx : a.eval x = .pointer (some ⟨b, j, none⟩)) (cs : List Value) (hk : L[k]? = some (b, cs)) (v : Value) (hv : cs[j]? = some v) (hf : flatB P t = true) :
    ∀ w, St W w L → (execOp a.eval o).run P w = .ok (.value v) w := fun w hS => r_load1 k hS t x ho b j hx cs hk v hv hf w (Ext.refl w)
theorem c_loadN (k : Nat) (t : TypeId) (n : Nat) (x : Operand) (ho : o.op = .load t x) (b j : Nat) (hx : a.eval x = .pointer (some ⟨b, j, none⟩)) (cs : List Value) (hk : L[k]? = some (b, cs)) (vs : List Value) (hv : (cs.drop j).take n = vs) (hn : vs.length = n) (hf : aggB P t = true) (hs : szB P t n = true) :
    ∀ w, St W w L → (execOp a.eval o).run P w = .ok (.value (.agg vs.toArray)) w := fun w hS => r_loadN k hS t n x ho b j hx cs hk vs hv hn hf hs w (Ext.refl w)
end
section
variable {P : Program} {o : Oper} {a : Act} {W w : World} {L : Blocks} {K : Act → World → Prop} {Q : Exit → Act → World → Prop}
/-- A cell of older memory. -/
theorem c_loadF (t : TypeId) (x : Operand) (ho : o.op = .load t x) (b j : Nat) (hx : a.eval x = .pointer (some ⟨b, j, none⟩)) (hb : b < W.heap.size) (v : Value) (hv : W.cell? ⟨b, j, none⟩ = some v) (hf : flatB P t = true) :
    ∀ w, St W w L → (execOp a.eval o).run P w = .ok (.value v) w := by
  intro w hS
  have hc : w.cell? ⟨b, j, none⟩ = some v := (hS.x.cell b j hb).trans hv
  unfold execOp
  simp only [ho, hx, Instr.loadAt, Instr.sureAddr, Sem.run_bind, Sem.run_pure, Result.andThen_ok, run_load1 hf hc]
theorem s_loadF (hS : St W w L) (t : TypeId) (x : Operand) (ho : o.op = .load t x) (b j : Nat) (hx : a.eval x = .pointer (some ⟨b, j, none⟩)) (hb : b < W.heap.size) (v : Value) (hv : W.cell? ⟨b, j, none⟩ = some v) (hf : flatB P t = true)
    (h : K (a.put o.dst v) w) : o.wp P a w K Q := by
  unfold Oper.wp
  rw [c_loadF t x ho b j hx hb v hv hf w hS]
  exact h
end
end Go.Proofs.Ytmjmdjcgjmjigaa
