/-
  The call's own blocks, held as a list of whole blocks: laws of the operations that make, read and write them, in terms of worlds that are letters.
-/
import Derived.Test.YtcahhoemlmbnaaaExt
import Derived.Deep.MidRow
import Derived.Laws.Rows
import Derived.RangeFuncOwn
namespace Go.Proofs.Ytcahhoemlmbnaaa
set_option linter.unusedSimpArgs false
set_option linter.unusedVariables false
set_option linter.unusedSectionVars false
open Go.RowKit

/-- Block b holds just the cells cs, and all may be written. -/
def Row (w : World) (b : Nat) (cs : List Value) : Prop := ∃ t, w.heap[b]? = some (.cells cs.toArray t (0, 0))
theorem Row.lt {w : World} {b : Nat} {cs : List Value} (h : Row w b cs) : b < w.heap.size := by
  obtain ⟨t, h⟩ := h
  rcases Nat.lt_or_ge b w.heap.size with h' | h'
  · exact h'
  · rw [Array.getElem?_eq_none h'] at h; cases h
theorem Row.cell {w : World} {b : Nat} {cs : List Value} (h : Row w b cs) (j : Nat) : w.cell? ⟨b, j, none⟩ = cs[j]? := by
  obtain ⟨t, h⟩ := h
  rw [cell_of_row w b j _ t _ h]
  simp
theorem Row.free {w : World} {b : Nat} {cs : List Value} (h : Row w b cs) (j : Nat) : w.frozen? ⟨b, j, none⟩ = false := by
  obtain ⟨t, h⟩ := h
  exact frozen_of_row w b j _ t h
theorem Row.ext {w w' : World} {b : Nat} {cs : List Value} (h : Row w b cs) (hx : Ext w w') : Row w' b cs := by
  have hl := h.lt
  obtain ⟨t, h⟩ := h
  exact ⟨t, by rw [Below.block hx b hl]; exact h⟩
theorem Row.new (w : World) (cs : List Value) (t : TypeId) : Row (w.alloc (.cells cs.toArray t)) w.heap.size cs := ⟨t, heap_alloc_new w _⟩
theorem Row.set {w : World} {b : Nat} {cs : List Value} (h : Row w b cs) (j : Nat) (v : Value) : Row (w.setCell ⟨b, j, none⟩ v) b (cs.set j v) := by
  obtain ⟨t, h⟩ := h
  exact ⟨t, by rw [heap_setCell_same w b j _ t v h]; simp⟩
theorem Row.other {w : World} {b : Nat} {cs : List Value} (h : Row w b cs) {a : Addr} (hb : b ≠ a.block) (v : Value) : Row (w.setCell a v) b cs := by
  obtain ⟨t, h⟩ := h
  exact ⟨t, by rw [heap_setCell_other w a b v hb]; exact h⟩

/-- The blocks of the list, no two one and the same, none below B. -/
def Has (B : Nat) (w : World) (L : List (Nat × List Value)) : Prop := (∀ p ∈ L, B ≤ p.1 ∧ Row w p.1 p.2) ∧ (L.map (·.1)).Nodup

section
variable {B : Nat} {w w' : World} {L : List (Nat × List Value)}
theorem Has.nil (B : Nat) (w : World) : Has B w [] := ⟨by simp, by simp⟩
theorem Has.ext (h : Has B w L) (hx : Ext w w') : Has B w' L := ⟨fun p hp => ⟨(h.1 p hp).1, (h.1 p hp).2.ext hx⟩, h.2⟩
theorem Has.row (h : Has B w L) {k b : Nat} {cs : List Value} (hk : L[k]? = some (b, cs)) : B ≤ b ∧ Row w b cs := h.1 (b, cs) (List.mem_of_getElem? hk)
theorem Has.alloc (h : Has B w L) (hB : B ≤ w.heap.size) (cs : List Value) (t : TypeId) : Has B (w.alloc (.cells cs.toArray t)) ((w.heap.size, cs) :: L) := by
  refine ⟨fun p hp => ?_, ?_⟩
  · rcases List.mem_cons.1 hp with rfl | hp
    · exact ⟨hB, Row.new w cs t⟩
    · exact ⟨(h.1 p hp).1, (h.1 p hp).2.ext ((Ext.refl w).alloc _)⟩
  · rw [List.map_cons, List.nodup_cons]
    refine ⟨fun hm => ?_, h.2⟩
    obtain ⟨p, hp, e⟩ := List.mem_map.1 hm
    have := (h.1 p hp).2.lt
    omega
theorem nodup_ne {k i b : Nat} {cs cs' : List Value} (hn : (L.map (·.1)).Nodup) (hk : L[k]? = some (b, cs)) (hi : L[i]? = some (b, cs')) : i = k := by
  obtain ⟨h1, e1⟩ := List.getElem?_eq_some_iff.1 hk
  obtain ⟨h2, e2⟩ := List.getElem?_eq_some_iff.1 hi
  have := (List.pairwise_iff_getElem (R := (fun x y : Nat => x ≠ y)) (l := L.map (fun x : Nat × List Value => x.1))).1 hn
  rcases Nat.lt_trichotomy i k with h | h | h
  · exact (this i k (by simpa using h2) (by simpa using h1) h (by simp [e1, e2])).elim
  · exact h
  · exact (this k i (by simpa using h1) (by simpa using h2) h (by simp [e1, e2])).elim
theorem Has.set (h : Has B w L) {k b : Nat} {cs : List Value} (hk : L[k]? = some (b, cs)) (j : Nat) (v : Value) : Has B (w.setCell ⟨b, j, none⟩ v) (L.set k (b, cs.set j v)) := by
  have hkl : k < L.length := (List.getElem?_eq_some_iff.1 hk).1
  refine ⟨fun p hp => ?_, ?_⟩
  · obtain ⟨i, hi, e⟩ := List.getElem_of_mem hp
    rw [List.getElem_set] at e
    split at e
    · subst e; exact ⟨(h.row hk).1, (h.row hk).2.set j v⟩
    · rename_i hki
      have hi' : i < L.length := by simpa using hi
      have hm : L[i]'hi' ∈ L := List.getElem_mem _
      rw [← e]
      refine ⟨(h.1 _ hm).1, (h.1 _ hm).2.other (fun hb => hki ?_) v⟩
      have hL : L[i]? = some (b, (L[i]'hi').2) := by
        rw [List.getElem?_eq_getElem hi']
        congr 1
        exact Prod.ext hb rfl
      exact (nodup_ne h.2 hk hL).symm
  · have : (L.set k (b, cs.set j v)).map (·.1) = L.map (·.1) := by
      apply List.ext_getElem?
      intro i
      simp only [List.getElem?_map, List.getElem?_set]
      split
      · rename_i e; subst e; rw [hk]; simp [hkl]
      · rfl
    rw [this]; exact h.2
/-- Cells cs, those from j on replaced. -/
def splice (cs : List Value) (j : Nat) : List Value → List Value
  | [] => cs
  | v :: vs => splice (cs.set j v) (j + 1) vs
theorem splice_length : ∀ (vs cs : List Value) (j : Nat), (splice cs j vs).length = cs.length
  | [], _, _ => rfl
  | v :: vs, cs, j => by simp [splice, splice_length vs]
theorem set_set_at {L : List (Nat × List Value)} {k : Nat} {x y : Nat × List Value} : (L.set k x).set k y = L.set k y := by simp
theorem Has.setCells : ∀ (vs : List Value) {w : World} {L : List (Nat × List Value)} (h : Has B w L) {k b : Nat} {cs : List Value} (hk : L[k]? = some (b, cs)) (j : Nat), Has B (w.setCells b j vs) (L.set k (b, splice cs j vs))
  | [], w, L, h, k, b, cs, hk, j => by
      have hkl : k < L.length := (List.getElem?_eq_some_iff.1 hk).1
      have : L.set k (b, cs) = L := by
        apply List.ext_getElem?
        intro i
        rw [List.getElem?_set]
        split
        · rename_i e; subst e; exact hk.symm
        · rfl
      simpa [World.setCells, splice, this] using h
  | v :: vs, w, L, h, k, b, cs, hk, j => by
      have hkl : k < L.length := (List.getElem?_eq_some_iff.1 hk).1
      have h1 := h.set hk j v
      have h2 := Has.setCells vs h1 (k := k) (b := b) (cs := cs.set j v) (by simp [hkl]) (j + 1)
      rw [List.set_set] at h2
      exact h2
theorem ext_setCells {a : World} : ∀ (vs : List Value) {w : World} (h : Ext a w) {b : Nat} (hb : a.heap.size ≤ b) (j : Nat), Ext a (w.setCells b j vs)
  | [], _, h, _, _, _ => h
  | v :: vs, w, h, b, hb, j => ext_setCells vs (h.setCell (p := ⟨b, j, none⟩) hb v) hb (j + 1)
end

theorem keeps_ext {w w' : World} (h : Ext w w') : KeepsOthers w w' := ⟨h.size, fun k o hk _ => (Below.block h k (Array.getElem?_eq_some_iff.1 hk).1).trans hk⟩
/-- From w to w': what lay below W's heap is as it was, and so is whatever is no cells. -/
def Adv (W w w' : World) : Prop := KeepsOthers w w' ∧ Below W.heap.size w w'
theorem Adv.refl (W w : World) : Adv W w w := ⟨KeepsOthers.refl _, Below.refl _ _⟩
theorem Adv.trans {W a b c : World} (h : Adv W a b) (k : Adv W b c) : Adv W a c := ⟨h.1.trans k.1, h.2.trans k.2⟩
theorem Adv.of_ext {W w w' : World} (hW : Ext W w) (h : Ext w w') : Adv W w w' := ⟨keeps_ext h, h.mono hW.size⟩
theorem adv_set {W w : World} {b : Nat} (hb : W.heap.size ≤ b) (j : Nat) (v : Value) : Adv W w (w.setCell ⟨b, j, none⟩ v) := ⟨KeepsOthers.setCell w _ v, (Below.refl _ _).setCell (p := ⟨b, j, none⟩) hb v⟩
theorem adv_setCells {W : World} {b : Nat} (hb : W.heap.size ≤ b) : ∀ (vs : List Value) (w : World) (j : Nat), Adv W w (w.setCells b j vs)
  | [], w, _ => Adv.refl W w
  | v :: vs, w, j => (adv_set hb j v).trans (adv_setCells hb vs _ (j + 1))
/-- How many cells a type has; is it a struct or an array? -/
def szB (P : Program) (t : TypeId) (n : Nat) : Bool := (P.info? t).map (·.size) == some n
def aggB (P : Program) (t : TypeId) : Bool := match P.underlying t with | some d => d.isRow | none => false
def flatB (P : Program) (t : TypeId) : Bool := match P.underlying t with | some d => !d.isRow | none => false
theorem szB_of {P : Program} {t : TypeId} {n : Nat} (h : szB P t n = true) : (P.info? t).map (·.size) = some n := by simpa [szB] using h
theorem aggB_of {P : Program} {t : TypeId} (h : aggB P t = true) : ∃ d, P.underlying t = some d ∧ d.isRow = true := by
  unfold aggB at h
  split at h
  · exact ⟨_, by assumption, h⟩
  · cases h
theorem flatB_of {P : Program} {t : TypeId} (h : flatB P t = true) : ∃ d, P.underlying t = some d ∧ d.isRow = false := by
  unfold flatB at h
  split at h
  · exact ⟨_, by assumption, by simpa using h⟩
  · cases h

section
variable {P : Program} {w : World}
theorem isAgg_flat {t : TypeId} (h : flatB P t = true) (w : World) : (isAgg t).run P w = .ok false w := by
  obtain ⟨d, hu, hd⟩ := flatB_of h
  unfold isAgg
  rw [Sem.run_bind, run_underlying hu w]
  cases d <;> simp_all
theorem run_load1 {t : TypeId} (h : flatB P t = true) {b j : Nat} {v : Value} (hc : w.cell? ⟨b, j, none⟩ = some v) : (loadVar t ⟨b, j, none⟩).run P w = .ok v w := by
  unfold loadVar
  rw [Sem.run_bind, isAgg_flat h]
  simp [hc]
theorem oneCell_cells {v : Value} (h : v.oneCell' = true) : v.cells = #[v] := by cases v <;> first | rfl | simp [Value.oneCell'] at h
theorem run_store1 {t : TypeId} (h : szB P t 1 = true) {b j : Nat} {u v : Value} (h1 : v.oneCell' = true) (hc : w.cell? ⟨b, j, none⟩ = some u) (hf : w.frozen? ⟨b, j, none⟩ = false) :
    (storeVar t ⟨b, j, none⟩ v).run P w = .ok () (w.setCell ⟨b, j, none⟩ v) := by
  have hs := szB_of h
  cases hq : P.info? t with
  | none => simp [hq] at hs
  | some i =>
    have hs' : i.size = 1 := by simpa [hq] using hs
    have := run_storeCells_cells (P := P) b j [v] 0 w (fun k hk => by
      obtain rfl : k = 0 := by simpa using hk
      simp [hc]) (fun k hk => by
      obtain rfl : k = 0 := by simpa using hk
      simpa using hf) (by simpa using h1)
    simp only [Nat.add_zero] at this
    simp [storeVar, sizeOf, typeInfo, hq, oneCell_cells h1, hs', this, World.setCells]
end

section
variable {P : Program} {o : Oper} {a : Act} {w : World} {K : Act → World → Prop} {Q : Exit → Act → World → Prop} {B : Nat} {L : List (Nat × List Value)}

/-- A new variable. -/
theorem wp_alloc_h (hH : Has B w L) (hB : B ≤ w.heap.size) (t : TypeId) (ho : o.op = .alloc t) (z : Value) (hz : (P.info? t).bind (·.zero) = some z)
    (h : ∀ b w', Has B w' ((b, z.cells.toList) :: L) → Ext w w' → B ≤ w'.heap.size → K (a.put o.dst (.pointer (some ⟨b, 0, none⟩))) w') : o.wp P a w K Q := by
  have hrun : (execOp a.eval o).run P w = .ok (.value (.pointer (some ⟨w.heap.size, 0, none⟩))) (w.alloc (.cells z.cells t)) := by
    cases hq : P.info? t with
    | none => simp [hq] at hz
    | some i =>
      have hz' : i.zero = some z := by simpa [hq] using hz
      simp [execOp, ho, Instr.alloc, zeroValue, typeInfo, hq, hz', newVar, newRow]
  unfold Oper.wp
  rw [hrun]
  have h1 := hH.alloc hB z.cells.toList t
  simp only [Array.toArray_toList] at h1
  exact h _ _ h1 ((Ext.refl w).alloc _) (by simp; omega)
/-- A boxed value. -/
theorem wp_box_h (hH : Has B w L) (hB : B ≤ w.heap.size) (t : TypeId) (x : Operand) (ho : o.op = .box t x) (v : Value) (hv : a.eval x = v)
    (h : ∀ b w', Has B w' ((b, v.cells.toList) :: L) → Ext w w' → B ≤ w'.heap.size → K (a.put o.dst (.pointer (some ⟨b, 0, none⟩))) w') : o.wp P a w K Q := by
  have hrun : (execOp a.eval o).run P w = .ok (.value (.pointer (some ⟨w.heap.size, 0, none⟩))) (w.alloc (.cells v.cells t)) := by
    simp [execOp, ho, hv, Instr.box, newVar, newRow]
  unfold Oper.wp
  rw [hrun]
  have h1 := hH.alloc hB v.cells.toList t
  simp only [Array.toArray_toList] at h1
  exact h _ _ h1 ((Ext.refl w).alloc _) (by simp; omega)
/-- One cell is read. -/
theorem wp_load1_h (k : Nat) (hH : Has B w L) (t : TypeId) (x : Operand) (ho : o.op = .load t x) (hf : flatB P t = true) (b j : Nat) (hx : a.eval x = .pointer (some ⟨b, j, none⟩)) (cs : List Value) (hk : L[k]? = some (b, cs)) (v : Value) (hv : cs[j]? = some v)
    (h : K (a.put o.dst v) w) : o.wp P a w K Q := by
  have hc : w.cell? ⟨b, j, none⟩ = some v := by rw [(hH.row hk).2.cell]; exact hv
  unfold Oper.wp execOp
  simp only [ho, hx, Instr.loadAt, Instr.sureAddr, Sem.run_bind, Sem.run_pure, Result.andThen_ok, run_load1 hf hc]
  exact h
/-- The cells from j on, n of them. -/
theorem Row.range {b : Nat} {cs : List Value} (h : Row w b cs) (j n : Nat) : w.rangeAt b j ((cs.drop j).take n) := fun i v hv => by
  rw [h.cell]
  rw [List.getElem?_take] at hv
  split at hv
  · rw [List.getElem?_drop] at hv; exact hv
  · cases hv
theorem wp_loadN_h (k : Nat) (hH : Has B w L) (t : TypeId) (n : Nat) (x : Operand) (ho : o.op = .load t x) (hf : aggB P t = true) (hs : szB P t n = true) (b j : Nat) (hx : a.eval x = .pointer (some ⟨b, j, none⟩)) (cs : List Value) (hk : L[k]? = some (b, cs)) (vs : List Value) (hv : (cs.drop j).take n = vs) (hn : vs.length = n)
    (h : K (a.put o.dst (.agg vs.toArray)) w) : o.wp P a w K Q := by
  obtain ⟨d, hu, hd⟩ := aggB_of hf
  subst hv
  exact wp_load_mid t x ho b j hx _ d ((hH.row hk).2.range j n) hu hd (by rw [hn]; exact szB_of hs) h
/-- One cell is written. -/
theorem wp_store1_h (k : Nat) (hH : Has B w L) (hB : B ≤ w.heap.size) (t : TypeId) (x y : Operand) (ho : o.op = .store t x y) (hs : szB P t 1 = true) (b j : Nat) (hx : a.eval x = .pointer (some ⟨b, j, none⟩)) (v : Value) (hy : a.eval y = v) (h1 : v.oneCell' = true)
    (cs : List Value) (hk : L[k]? = some (b, cs)) (hj : j < cs.length) (h : ∀ w', Has B w' (L.set k (b, cs.set j v)) → (∀ a0, a0.heap.size ≤ B → Ext a0 w → Ext a0 w' ∧ Adv a0 w w') → B ≤ w'.heap.size → K (a.put o.dst undef) w') : o.wp P a w K Q := by
  obtain ⟨hb, hr⟩ := hH.row hk
  have hc : w.cell? ⟨b, j, none⟩ = some (cs[j]'hj) := by rw [hr.cell, List.getElem?_eq_getElem hj]
  unfold Oper.wp execOp
  simp only [ho, hx, hy, Instr.storeAt, Instr.sureAddr, Sem.run_bind, Sem.run_pure, Result.andThen_ok, run_store1 hs h1 hc (hr.free j)]
  exact h _ (hH.set hk j v) (fun a0 ha hx' => ⟨hx'.setCell (p := ⟨b, j, none⟩) (Nat.le_trans ha hb) v, adv_set (Nat.le_trans ha hb) j v⟩) (by simpa using hB)
/-- The cells from j on are written. -/
theorem wp_storeN_h (k : Nat) (hH : Has B w L) (hB : B ≤ w.heap.size) (t : TypeId) (n : Nat) (x y : Operand) (ho : o.op = .store t x y) (hs : szB P t n = true) (b j : Nat) (hx : a.eval x = .pointer (some ⟨b, j, none⟩)) (vs : List Value) (hy : a.eval y = .agg vs.toArray) (hn : vs.length = n) (h1 : vs.all (·.oneCell') = true)
    (cs : List Value) (hk : L[k]? = some (b, cs)) (hj : j + n ≤ cs.length) (h : ∀ w', Has B w' (L.set k (b, splice cs j vs)) → (∀ a0, a0.heap.size ≤ B → Ext a0 w → Ext a0 w' ∧ Adv a0 w w') → B ≤ w'.heap.size → K (a.put o.dst undef) w') : o.wp P a w K Q := by
  obtain ⟨hb, hr⟩ := hH.row hk
  subst hn
  refine wp_store_mid t x y ho b j vs.toArray hx hy (fun i hi => ⟨?_, hr.free _⟩) (by simpa using szB_of hs) (by simpa using h1) ?_
  · rw [hr.cell, List.getElem?_eq_getElem (by simp at hi; omega)]; rfl
  · refine h _ (by simpa using Has.setCells vs hH hk j) (fun a0 ha hx' => ⟨ext_setCells vs hx' (Nat.le_trans ha hb) j, adv_setCells (Nat.le_trans ha hb) vs w j⟩) ?_
    have : ∀ (vs : List Value) (w : World) (j : Nat), (w.setCells b j vs).heap.size = w.heap.size := by
      intro vs
      induction vs with
      | nil => intro w j; rfl
      | cons v vs ih => intro w j; rw [World.setCells, ih]; simp
    simpa [this] using hB
end

/-! ### Reads in a region that draws its order -/
section
variable {P : Program} {o : Oper} {a : Act} {w0 wq : World} {B : Nat} {L : List (Nat × List Value)}
theorem q_load1_h (k : Nat) (hH : Has B w0 L) (hq : Ext w0 wq) (t : TypeId) (x : Operand) (ho : o.op = .load t x) (hf : flatB P t = true) (b j : Nat) (hx : a.eval x = .pointer (some ⟨b, j, none⟩)) (cs : List Value) (hk : L[k]? = some (b, cs)) (v : Value) (hv : cs[j]? = some v) :
    o.quietAt P a (Ext w0) wq v := by
  have hc : wq.cell? ⟨b, j, none⟩ = some v := by rw [((hH.ext hq).row hk).2.cell]; exact hv
  unfold Oper.quietAt execOp
  simp only [ho, hx, Instr.loadAt, Instr.sureAddr, Sem.run_bind, Sem.run_pure, Result.andThen_ok, run_load1 hf hc]
  first | exact rfl | exact ⟨rfl, rfl⟩ | simp [Oper.quietUpon]
theorem q_loadN_h (k : Nat) (hH : Has B w0 L) (hq : Ext w0 wq) (t : TypeId) (n : Nat) (x : Operand) (ho : o.op = .load t x) (hf : aggB P t = true) (hs : szB P t n = true) (b j : Nat) (hx : a.eval x = .pointer (some ⟨b, j, none⟩)) (cs : List Value) (hk : L[k]? = some (b, cs)) (vs : List Value) (hv : (cs.drop j).take n = vs) (hn : vs.length = n) :
    o.quietAt P a (Ext w0) wq (.agg vs.toArray) := by
  obtain ⟨d, hu, hd⟩ := aggB_of hf
  subst hv
  have hrun := run_loadVar_mid (P := P) wq b j t _ d (((hH.ext hq).row hk).2.range j n) hu hd (by rw [hn]; exact szB_of hs)
  unfold Oper.quietAt execOp
  simp only [ho, hx, Instr.loadAt, Instr.sureAddr, Sem.run_bind, Sem.run_pure, Result.andThen_ok, hrun]
  first | exact rfl | exact ⟨rfl, rfl⟩ | simp [Oper.quietUpon]
end

/-! ### Results that lie in a block -/
theorem res1_h {P : Program} {fn : Func} {p : Tmp} {t : TypeId} (h : fn.results = #[.cell p t]) (hf : aggB P t = true) (tmps : Array Value) (w : World) {B : Nat} {L : List (Nat × List Value)} (hH : Has B w L) (k b : Nat) (cs : List Value) (hk : L[k]? = some (b, cs)) (hp : tmps.getD p undef = .pointer (some ⟨b, 0, none⟩)) (hs : szB P t cs.length = true) :
    (results fn tmps).run P w = .ok (.agg cs.toArray) w := by
  obtain ⟨d, hu, hd⟩ := aggB_of hf
  obtain ⟨t', hr⟩ := (hH.row hk).2
  exact results_cell_row h tmps _ b t' cs.toArray (0, 0) d hp hr hu (by cases d <;> simp_all) (by simpa using szB_of hs)
end Go.Proofs.Ytcahhoemlmbnaaa
