/-
  The state of a walk: a later world of the one where the call began, with the call's own blocks; laws of the operations, one hypothesis long.
-/
import Derived.Test.YtcahhoemlmbnaaaMakers
import Derived.Lib.Hide
import Derived.Test.YtcahhoemlmbnaaaSlice
namespace Go.Proofs.Ytcahhoemlmbnaaa
set_option linter.unusedSimpArgs false
set_option linter.unusedVariables false
set_option linter.unusedSectionVars false
open Go

/-- A later world of W, with the own blocks L. -/
def St (W w : World) (L : Blocks) : Prop := Ext W w ∧ Has W.heap.size w L
section
variable {W w w' : World} {L : Blocks}
theorem St.refl (W : World) : St W W [] := ⟨Ext.refl W, Has.nil _ _⟩
theorem St.x (h : St W w L) : Ext W w := h.1
theorem St.ext (h : St W w L) (hx : Ext w w') : St W w' L := ⟨h.1.trans hx, h.2.ext hx⟩
theorem St.perm (h : St W w L) {L' : Blocks} (hp : L.Perm L') : St W w L' := ⟨h.1, h.2.perm hp⟩
theorem St.alloc (h : St W w L) (cs : Array Value) (t : TypeId) : St W (w.alloc (.cells cs t)) ((w.heap.size, cs.toList) :: L) :=
  ⟨h.1.alloc _, by simpa using h.2.alloc h.1.size cs.toList t⟩
theorem St.app (h : St W w L) {Ln : Blocks} (hx : Ext w w') (hn : Has w.heap.size w' Ln) : St W w' (Ln ++ L) := ⟨h.1.trans hx, h.2.append h.1.size hx hn⟩
theorem Has.tail {B : Nat} {p : Nat × List Value} (h : Has B w (p :: L)) : Has B w L := ⟨fun q hq => h.1 q (List.mem_cons_of_mem _ hq), (List.nodup_cons.1 (by simpa using h.2)).2⟩
theorem St.tail {p : Nat × List Value} (h : St W w (p :: L)) : St W w L := ⟨h.1, h.2.tail⟩
theorem St.cell (h : St W w L) (k b j : Nat) (cs : List Value) (hk : L[k]? = some (b, cs)) (v : Value) (hv : cs[j]? = some v) : w.cell? ⟨b, j, none⟩ = some v := by rw [(h.2.row hk).2.cell]; exact hv
theorem St.free (h : St W w L) (k b j : Nat) (cs : List Value) (hk : L[k]? = some (b, cs)) : w.frozen? ⟨b, j, none⟩ = false := (h.2.row hk).2.free j
theorem St.lt (h : St W w L) (k b : Nat) (cs : List Value) (hk : L[k]? = some (b, cs)) : b < w.heap.size := (h.2.row hk).2.lt
theorem St.ge (h : St W w L) (k b : Nat) (cs : List Value) (hk : L[k]? = some (b, cs)) : W.heap.size ≤ b := (h.2.row hk).1
end

section
variable {P : Program} {o : Oper} {a : Act} {W w : World} {K : Act → World → Prop} {Q : Exit → Act → World → Prop} {L : Blocks}
theorem s_alloc (hS : St W w L) (t : TypeId) (ho : o.op = .alloc t) (z : Value) (hz : (P.info? t).bind (·.zero) = some z) (cs : List Value) (hcs : z.cells.toList = cs)
    (h : ∀ b w', St W w' ((b, cs) :: L) → Adv W w w' → K (a.put o.dst (.pointer (some ⟨b, 0, none⟩))) w') : o.wp P a w K Q := by
  subst hcs
  exact wp_alloc_h hS.2 hS.1.size t ho z hz fun b w' hH hx _ => h b w' ⟨hS.1.trans hx, hH⟩ (Adv.of_ext hS.1 hx)
theorem s_box (hS : St W w L) (t : TypeId) (x : Operand) (ho : o.op = .box t x) (v : Value) (hv : a.eval x = v) (cs : List Value) (hcs : v.cells.toList = cs)
    (h : ∀ b w', St W w' ((b, cs) :: L) → Adv W w w' → K (a.put o.dst (.pointer (some ⟨b, 0, none⟩))) w') : o.wp P a w K Q := by
  subst hcs
  exact wp_box_h hS.2 hS.1.size t x ho v hv fun b w' hH hx _ => h b w' ⟨hS.1.trans hx, hH⟩ (Adv.of_ext hS.1 hx)
theorem s_load1 (k : Nat) (hS : St W w L) (t : TypeId) (x : Operand) (ho : o.op = .load t x) (b j : Nat) (hx : a.eval x = .pointer (some ⟨b, j, none⟩)) (cs : List Value) (hk : L[k]? = some (b, cs)) (v : Value) (hv : cs[j]? = some v) (hf : flatB P t = true)
    (h : K (a.put o.dst v) w) : o.wp P a w K Q := wp_load1_h k hS.2 t x ho hf b j hx cs hk v hv h
theorem s_loadN (k : Nat) (hS : St W w L) (t : TypeId) (n : Nat) (x : Operand) (ho : o.op = .load t x) (b j : Nat) (hx : a.eval x = .pointer (some ⟨b, j, none⟩)) (cs : List Value) (hk : L[k]? = some (b, cs)) (vs : List Value) (hv : (cs.drop j).take n = vs) (hn : vs.length = n) (hf : aggB P t = true) (hs : szB P t n = true)
    (h : K (a.put o.dst (.agg vs.toArray)) w) : o.wp P a w K Q := wp_loadN_h k hS.2 t n x ho hf hs b j hx cs hk vs hv hn h
theorem s_store1 (k : Nat) (hS : St W w L) (t : TypeId) (x y : Operand) (ho : o.op = .store t x y) (b j : Nat) (hx : a.eval x = .pointer (some ⟨b, j, none⟩)) (v : Value) (hy : a.eval y = v) (h1 : v.oneCell' = true)
    (cs : List Value) (hk : L[k]? = some (b, cs)) (hj : j < cs.length) (hs : szB P t 1 = true) (L' : Blocks) (hL : L.set k (b, cs.set j v) = L') (h : ∀ w', St W w' L' → Adv W w w' → K (a.put o.dst undef) w') : o.wp P a w K Q := by
  subst hL
  exact wp_store1_h k hS.2 hS.1.size t x y ho hs b j hx v hy h1 cs hk hj fun w' hH hE _ => h w' ⟨(hE W (Nat.le_refl _) hS.1).1, hH⟩ (hE W (Nat.le_refl _) hS.1).2
theorem s_storeN (k : Nat) (hS : St W w L) (t : TypeId) (n : Nat) (x y : Operand) (ho : o.op = .store t x y) (b j : Nat) (hx : a.eval x = .pointer (some ⟨b, j, none⟩)) (vs : List Value) (hy : a.eval y = .agg vs.toArray) (hn : vs.length = n) (h1 : vs.all (·.oneCell') = true)
    (cs : List Value) (hk : L[k]? = some (b, cs)) (hj : j + n ≤ cs.length) (hs : szB P t n = true) (L' : Blocks) (hL : L.set k (b, splice cs j vs) = L') (h : ∀ w', St W w' L' → Adv W w w' → K (a.put o.dst undef) w') : o.wp P a w K Q := by
  subst hL
  exact wp_storeN_h k hS.2 hS.1.size t n x y ho hs b j hx vs hy hn h1 cs hk hj fun w' hH hE _ => h w' ⟨(hE W (Nat.le_refl _) hS.1).1, hH⟩ (hE W (Nat.le_refl _) hS.1).2
end

/-! ### In a region that draws its order -/
section
variable {P : Program} {o : Oper} {a : Act} {W w0 : World} {L : Blocks}
theorem r_load1 (k : Nat) (hS : St W w0 L) (t : TypeId) (x : Operand) (ho : o.op = .load t x) (b j : Nat) (hx : a.eval x = .pointer (some ⟨b, j, none⟩)) (cs : List Value) (hk : L[k]? = some (b, cs)) (v : Value) (hv : cs[j]? = some v) (hf : flatB P t = true) : OReads P w0 o a v := by
  intro w hw
  have hc : w.cell? ⟨b, j, none⟩ = some v := (hS.ext hw).cell k b j cs hk v hv
  unfold execOp
  simp only [ho, hx, Instr.loadAt, Instr.sureAddr, Sem.run_bind, Sem.run_pure, Result.andThen_ok, run_load1 hf hc]
theorem r_loadN (k : Nat) (hS : St W w0 L) (t : TypeId) (n : Nat) (x : Operand) (ho : o.op = .load t x) (b j : Nat) (hx : a.eval x = .pointer (some ⟨b, j, none⟩)) (cs : List Value) (hk : L[k]? = some (b, cs)) (vs : List Value) (hv : (cs.drop j).take n = vs) (hn : vs.length = n) (hf : aggB P t = true) (hs : szB P t n = true) : OReads P w0 o a (.agg vs.toArray) := by
  intro w hw
  obtain ⟨d, hu, hd⟩ := aggB_of hf
  subst hv
  have hrun := run_loadVar_mid (P := P) w b j t _ d (((hS.ext hw).2.row hk).2.range j n) hu hd (by rw [hn]; exact szB_of hs)
  unfold execOp
  simp only [ho, hx, Instr.loadAt, Instr.sureAddr, Sem.run_bind, Sem.run_pure, Result.andThen_ok, hrun]
theorem reg_mk {id : Nat} {Q : Exit → Act → World → Prop} {l : List Oper} (Φ : Nat → Option (Value → Blocks → Prop)) (hS : St W w0 L) (hm : P.follows .mixedOrders = true) (hB : Region.lexB .any l.toArray = true)
    (h : wpM P l.toArray w0 Φ (fun a' L' => ∀ w', St W w' L' → Q .normal a' w') 0 l a L) : (Code.region id l.toArray true).wp P Q a w0 := by
  refine wp_region_mk Φ hm hB hS.1.size hS.2 ?_
  have key : ∀ (l' : List Oper) (k : Nat) (a : Act) (L : Blocks), wpM P l.toArray w0 Φ (fun a' L' => ∀ w', St W w' L' → Q .normal a' w') k l' a L → wpM P l.toArray w0 Φ (fun a' L' => ∀ w', Ext w0 w' → W.heap.size ≤ w'.heap.size → Has W.heap.size w' L' → Q .normal a' w') k l' a L := by
    intro l'
    induction l' with
    | nil => intro k a L h w' hx hb hH; exact h w' ⟨hS.1.trans hx, hH⟩
    | cons o l' ih =>
      intro k a L h
      unfold wpM at h ⊢
      split
      · rename_i hw
        rw [if_pos hw] at h
        split
        · rename_i e; simp only [e] at h; obtain ⟨v, h1, h2⟩ := h; exact ⟨v, h1, ih _ _ _ h2⟩
        · rename_i φ e; simp only [e] at h; exact ⟨h.1, h.2.1, fun v Ln hv => ih _ _ _ (h.2.2 v Ln hv)⟩
      · rename_i hw; rw [if_neg hw] at h; exact ih _ _ _ h
  exact key l 0 a L h
theorem reg_mk_tail {id : Nat} {Q : Exit → Act → World → Prop} {l : List Oper} (n : Nat) (Φ : Nat → Option (Value → Blocks → Prop)) (hS : St W w0 L) (hm : P.follows .mixedOrders = true) (hB : Region.lexTailB .any l.toArray n = true)
    (h : wpM P l.toArray w0 Φ (fun a' L' => ∀ w', St W w' L' → wpList P l.toArray Q (l.drop n) a' w') 0 (l.take n) a L) : (Code.region id l.toArray true).wp P Q a w0 := by
  refine wp_region_mk_tail n Φ hm hB hS.1.size hS.2 ?_
  have key : ∀ (l' : List Oper) (k : Nat) (a : Act) (L : Blocks), wpM P l.toArray w0 Φ (fun a' L' => ∀ w', St W w' L' → wpList P l.toArray Q (l.drop n) a' w') k l' a L → wpM P l.toArray w0 Φ (fun a' L' => ∀ w', Ext w0 w' → W.heap.size ≤ w'.heap.size → Has W.heap.size w' L' → wpList P l.toArray Q (l.drop n) a' w') k l' a L := by
    intro l'
    induction l' with
    | nil => intro k a L h w' hx hb hH; exact h w' ⟨hS.1.trans hx, hH⟩
    | cons o l' ih =>
      intro k a L h
      unfold wpM at h ⊢
      split
      · rename_i hw
        rw [if_pos hw] at h
        split
        · rename_i e; simp only [e] at h; obtain ⟨v, h1, h2⟩ := h; exact ⟨v, h1, ih _ _ _ h2⟩
        · rename_i φ e; simp only [e] at h; exact ⟨h.1, h.2.1, fun v Ln hv => ih _ _ _ (h.2.2 v Ln hv)⟩
      · rename_i hw; rw [if_neg hw] at h; exact ih _ _ _ h
  exact key (l.take n) 0 a L h
end
theorem s_res {P : Program} {fn : Func} {p : Tmp} {t : TypeId} (h : fn.results = #[.cell p t]) (hf : aggB P t = true) (tmps : Array Value) {W w : World} {L : Blocks} (hS : St W w L) (k b : Nat) (cs : List Value) (hk : L[k]? = some (b, cs)) (hp : tmps.getD p undef = .pointer (some ⟨b, 0, none⟩)) (hs : szB P t cs.length = true) :
    (results fn tmps).run P w = .ok (.agg cs.toArray) w := res1_h h hf tmps w hS.2 k b cs hk hp hs
/-- A row of the call's own read as a slice. -/
theorem Sl.of_row {w : World} {b n size : Nat} {cs : List Value} (h : Row w b cs) (hl : n * size ≤ cs.length) : Sl w (some ⟨b, 0, none⟩) n size (cs.take (n * size)) :=
  ⟨by simp; omega, fun _ => ⟨b, 0, rfl, h.lt, fun j u hu => by
    rw [List.getElem?_take] at hu
    split at hu
    · rw [Nat.zero_add, h.cell]; exact hu
    · cases hu⟩⟩
theorem St.sl {W w : World} {L : Blocks} (h : St W w L) (k b n size : Nat) (cs : List Value) (hk : L[k]? = some (b, cs)) (hl : cs.length = n * size) : Sl w (some ⟨b, 0, none⟩) n size cs := by
  have := Sl.of_row (h.2.row hk).2 (n := n) (size := size) (by omega)
  rwa [List.take_of_length_le (by omega)] at this
/-- A function with a text of its own. -/
def entB (P : Program) (f : FuncId) : Bool := match P.funcs[f]? with | some fn => !(fn.name == "runtime.NumGoroutine") && fn.body.isSome | none => false
theorem run_enter {P : Program} {f : FuncId} (h : entB P f = true) (args : Array Value) (w : World) : (callFunc f args).run P w = .ok (.enter f args) w := by
  unfold entB at h
  split at h
  · rename_i fn hf
    simp only [Bool.and_eq_true, Bool.not_eq_true'] at h
    have h2 : fn.body.isNone = false := by simpa using h.2
    show ((Sem.program Sem.pure).bind _).run P w = _
    simp only [Sem.bind, Sem.run, hf]
    simp only [h.1, h2, Bool.false_eq_true, if_false]
    rfl
  · cases h
theorem run_call {P : Program} {o : Oper} {a : Act} {f : FuncId} {xs : Array Operand} {ts : Array TypeId} (ho : o.op = .call { callee := .value (.func f), args := xs, argTypes := ts }) {args : Array Value} (hargs : xs.map a.eval = args) (he : entB P f = true) (w : World) :
    (execOp a.eval o).run P w = .ok (.enter f args) w := by
  have h := run_enter he args w
  simp only [execOp, ho, resolve, Act.eval, Deferred.ofValue, hargs, Sem.run_bind, Sem.run_pure, Result.andThen_ok, invoke, Array.append_empty, Array.empty_append] at h ⊢
  exact h
theorem r_call {P : Program} {o : Oper} {a : Act} {w0 : World} {f : FuncId} {xs : List Operand} {ts : Array TypeId} {vs : List Value} {u : Value} (h : ∀ w, Ext w0 w → Calls P f vs.toArray w fun e w' => e = .returned u ∧ Ext w w')
    (ho : o.op = .call { callee := .value (.func f), args := xs.toArray, argTypes := ts }) (hargs : xs.map a.eval = vs) (he : entB P f = true) : OMakes P w0 o a (justV u) :=
  makes_call fun w hw => ⟨run_call ho (by simp [hargs]) he w, h w hw⟩
/-! ### guards: the next operation is one of this kind (with_reducible) -/
section
variable {P : Program} {d : Option Tmp} {ty : TypeId} {pos : String} {af : Array Edge} {g : Option (Nat × Bool)} {a : Act} {w : World} {K : Act → World → Prop} {Q : Exit → Act → World → Prop}
theorem g_load {t : TypeId} {x : Operand} (h : Oper.wp P ⟨d, .load t x, ty, pos, af, g⟩ a w K Q) : Oper.wp P ⟨d, .load t x, ty, pos, af, g⟩ a w K Q := h
theorem g_store {t : TypeId} {x y : Operand} (h : Oper.wp P ⟨d, .store t x y, ty, pos, af, g⟩ a w K Q) : Oper.wp P ⟨d, .store t x y, ty, pos, af, g⟩ a w K Q := h
theorem g_alloc {t : TypeId} (h : Oper.wp P ⟨d, .alloc t, ty, pos, af, g⟩ a w K Q) : Oper.wp P ⟨d, .alloc t, ty, pos, af, g⟩ a w K Q := h
theorem g_box {t : TypeId} {x : Operand} (h : Oper.wp P ⟨d, .box t x, ty, pos, af, g⟩ a w K Q) : Oper.wp P ⟨d, .box t x, ty, pos, af, g⟩ a w K Q := h
end
end Go.Proofs.Ytcahhoemlmbnaaa
