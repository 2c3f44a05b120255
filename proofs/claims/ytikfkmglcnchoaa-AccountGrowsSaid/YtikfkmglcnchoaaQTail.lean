/-
  A region that draws its order, all of whose operations but the last ones are quiet in a class of worlds, the last ones standing in one forced order behind them: one walk in the order of the text serves every order.
-/
import Derived.Test.YtikfkmglcnchoaaExt
import Derived.StillTail
namespace Go.Proofs.Ytikfkmglcnchoaa
set_option linter.unusedSimpArgs false
set_option linter.unusedVariables false
set_option linter.unusedSectionVars false
open Go

section
variable {P : Program} {ops : Array Oper} {md : Region.Mode} {C : World → Prop}

/-- The next f operations, whichever come up, are among the first n and quiet; behind them R. -/
def qHead (P : Program) (md : Region.Mode) (ops : Array Oper) (C : World → Prop) (n : Nat) (R : Array Bool → Act → Prop) : Nat → Array Bool → Act → Prop
  | 0 => R
  | f + 1 => fun lst a => (∃ i, i ∈ Region.ready md ops lst) ∧ ∀ i ∈ Region.ready md ops lst, i < n ∧ qOp P ops C i (qHead P md ops C n R f (lst.setIfInBounds i true)) a

theorem qHead_any {n g : Nat} {R : Array Bool → Act → Prop} {Q' : Exit → Act → World → Prop} (hR : ∀ lst a w, C w → R lst a → wpAny P md ops Q' g lst a w) (f : Nat) :
    ∀ lst a w, C w → qHead P md ops C n R f lst a → wpAny P md ops Q' (g + f) lst a w := by
  induction f with
  | zero => intro lst a w hw h; exact hR lst a w hw h
  | succ f ih =>
    intro lst a w hw ⟨⟨i, hi⟩, h⟩
    constructor
    · intro h0; rw [h0] at hi; cases hi
    · intro j hj
      exact wpOp_of_qOp hw (fun a' w' hw' h' => ih _ a' w' hw' h') (h j hj).2

/-- One of the first n that may come up now may be taken first. -/
theorem qHead_take {n i : Nat} {oi : Oper} {v : Value} {R : Array Bool → Act → Prop} (hi : ops[i]? = some oi) (hns : Region.noSelect ops = true)
    (hs : Region.sinkB md ops n = true) (hc : Region.chainB md ops n = true) (hn : n < ops.size) (hin : i < n)
    (hend : ∀ lst a, R lst a → ∀ j ∈ Region.ready md ops lst, n ≤ j) (f : Nat) :
    ∀ lst a, HeadInv md ops n lst →
      (∀ j oj, ops[j]? = some oj → j ≠ i → lst.getD j true = false → (∀ e ∈ oj.after, Region.binds md e = true → e.on ≠ i) → oi.apart ops oj = true) →
      i ∈ Region.ready md ops lst → YieldsIn P ops C oi v a → qHead P md ops C n R f (lst.setIfInBounds i true) (a.put oi.dst v) → qHead P md ops C n R (f + 1) lst a := by
  induction f with
  | zero =>
    intro lst a inv _ hr hy H
    refine ⟨⟨i, hr⟩, fun j hj => ?_⟩
    have hjn : j < n := Nat.lt_of_not_le fun h => tail_waits hs hc hn inv _ i rfl hin (mem_ready.1 hr).1 j h hj
    by_cases e : j = i
    · subst e; exact ⟨hjn, hy.qOp hi H⟩
    · have := hend _ _ H j (ready_mono hj e); omega
  | succ f ih =>
    intro lst a inv hfree hr hy H
    refine ⟨⟨i, hr⟩, fun j hj => ?_⟩
    have hjn : j < n := Nat.lt_of_not_le fun h => tail_waits hs hc hn inv _ i rfl hin (mem_ready.1 hr).1 j h hj
    by_cases e : j = i
    · subst e; exact ⟨hjn, hy.qOp hi H⟩
    refine ⟨hjn, ?_⟩
    obtain ⟨hju, oj, hoj, hall⟩ := mem_ready.1 hj
    have hiu := (mem_ready.1 hr).1
    have hnot : ∀ x ∈ oj.after, Region.binds md x = true → x.on ≠ i := by
      intro x hx hb hon
      have h1 := hall x hx hb
      rw [hon, getD_both hiu] at h1
      cases h1
    have h2 := qOp_put hoj (hfree j oj hoj e hju hnot) (fun cs b => Region.noSelect_spec hns i oi cs b hi) (fun cs b => Region.noSelect_spec hns j oj cs b hoj) hy (H.2 j (ready_mono hj e)).2
    refine qOp_mono (fun a' h3 => ih (lst.setIfInBounds j true) a' (inv.set hj hjn) ?_ (ready_mono hr (Ne.symm e)) h3.1 ?_) h2
    · intro k ok hk hki hun hno
      by_cases ejk : j = k
      · subst ejk; exact hfree j ok hk hki hju hno
      · rw [getD_set_ne true ejk] at hun; exact hfree k ok hk hki hun hno
    · rw [Array.setIfInBounds_comm _ _ e]; exact h3.2

theorem qHead_lex {n g : Nat} {Lq : Act → Prop} (hns : Region.noSelect ops = true) (hs : Region.sinkB md ops n = true) (hc : Region.chainB md ops n = true) (hn : n < ops.size) :
    ∀ (l : List Oper) (k : Nat) (lst : Array Bool) (a : Act), (∀ j, j < l.length → l[j]? = ops[k + j]?) → k + l.length = n → HeadInv md ops n lst →
      Region.lexHead md ops g l.length k lst = true → wpQuiet P ops C Lq l a → qHead P md ops C n (fun lst' a' => Region.seqB md ops g n lst' = true ∧ Lq a') l.length lst a := by
  intro l
  induction l with
  | nil =>
    intro k lst a _ hk _ hB h
    obtain rfl : k = n := by simpa using hk
    exact ⟨by simpa [Region.lexHead] using hB, h⟩
  | cons o l ih =>
    intro k lst a hl hk inv hB h
    have h0 : ops[k]? = some o := by simpa using (hl 0 (by simp)).symm
    simp only [List.length_cons, Region.lexHead, Bool.and_eq_true] at hB
    obtain ⟨⟨hr, hf⟩, hB'⟩ := hB
    have hr' : k ∈ Region.ready md ops lst := by simpa using hr
    have hkn : k < n := by simp only [List.length_cons] at hk; omega
    have hst : qOp P ops C k (wpQuiet P ops C Lq l) a := by unfold qOp; simp only [h0]; exact h
    obtain ⟨v, hy, hK⟩ := yieldsIn_of_qOp h0 hst
    refine qHead_take h0 hns hs hc hn hkn (fun lst' a' hL => seqB_ready hL.1) l.length lst a inv (Region.free_spec h0 hf) hr' hy ?_
    refine ih (k + 1) _ _ (fun j hj => ?_) (by simp only [List.length_cons] at hk; omega) (inv.set hr' hkn) hB' hK
    have := hl (j + 1) (by simp; omega)
    simpa [Nat.add_assoc, Nat.add_comm 1 j] using this

theorem wp_region_quiet_tail {id : Nat} {Q : Exit → Act → World → Prop} {a : Act} {w : World} {l : List Oper} (n : Nat) (hm : P.follows .mixedOrders = true) (hB : Region.lexTailB .any l.toArray n = true)
    (hC : C { w with drawn := w.drawn + 1 }) (h : wpQuiet P l.toArray C (fun a' => ∀ w', C w' → wpList P l.toArray Q (l.drop n) a' w') (l.take n) a) : (Code.region id l.toArray true).wp P Q a w := by
  simp only [Region.lexTailB, Bool.and_eq_true, decide_eq_true_eq] at hB
  obtain ⟨⟨⟨⟨hns, hn⟩, hs⟩, hc⟩, hlex⟩ := hB
  have hn' : n < l.length := by simpa using hn
  have htl : (l.take n).length = n := by simp; omega
  have hdl : (l.drop n).length = l.toArray.size - n := by simp
  have inv : HeadInv .any l.toArray n (Array.replicate l.toArray.size false) := by
    refine ⟨by simp, fun j oj _ hl => ?_, fun t _ ht => getD_in (by simpa using ht) (getD_replicate_false _ _)⟩
    rw [getD_replicate_false] at hl; cases hl
  have H := qHead_lex (md := .any) (g := l.toArray.size - n) hns hs hc hn (l.take n) 0 _ a (fun j hj => by rw [htl] at hj; simp [hj]) (by simpa using htl) inv (by rw [htl]; exact hlex) h
  refine wp_region_any hm ?_
  have H2 := qHead_any (Q' := Q) (g := l.toArray.size - n) (fun lst a' w' hw' hL => by
    have h1 := wpAny_of_seq (md := .any) (Q' := Q) (l.drop n) n lst a' w' (fun j => by simp [List.getElem?_drop]) (by rw [hdl]; exact hL.1) (hL.2 w' hw')
    rwa [hdl] at h1) _ _ _ _ hC H
  rw [htl, show l.toArray.size - n + n = l.toArray.size by omega] at H2
  exact H2
end

theorem q_region_tail {P : Program} {id : Nat} {Q : Exit → Act → World → Prop} {a : Act} {w : World} {l : List Oper} (n : Nat) (hm : P.follows .mixedOrders = true) (hB : Region.lexTailB .any l.toArray n = true)
    (h : ∀ w0, (∀ k o, k < w.heap.size → w0.cell? ⟨k, o, none⟩ = w.cell? ⟨k, o, none⟩) → (∀ k o, k < w.heap.size → w0.frozen? ⟨k, o, none⟩ = w.frozen? ⟨k, o, none⟩) → w.heap.size ≤ w0.heap.size → Ext w w0 →
      (∀ wq, Ext w0 wq → ∀ k o, k < w0.heap.size → wq.cell? ⟨k, o, none⟩ = w0.cell? ⟨k, o, none⟩) → (∀ wq, Ext w0 wq → ∀ k o, k < w0.heap.size → wq.frozen? ⟨k, o, none⟩ = w0.frozen? ⟨k, o, none⟩) →
      wpQuiet P l.toArray (Ext w0) (fun a' => ∀ w', Ext w0 w' → wpList P l.toArray Q (l.drop n) a' w') (l.take n) a) : (Code.region id l.toArray true).wp P Q a w := by
  have h1 := h w (fun _ _ _ => rfl) (fun _ _ _ => rfl) (Nat.le_refl _) (Ext.refl w) (fun _ hq k o hk => hq.cell k o hk) (fun _ hq k o hk => hq.frozen k o hk)
  exact wp_region_quiet_tail (C := Ext w) n hm hB (Ext.drew (Ext.refl w)) h1
end Go.Proofs.Ytikfkmglcnchoaa
