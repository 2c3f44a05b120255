/-
  Slices of the call's own, as rows among its own blocks: append, make, reads and writes of elements.
-/
import Derived.Test.YtcahhoemlmbnaaaState
import Derived.Test.YtcahhoemlmbnaaaOwn
namespace Go.Proofs.Ytcahhoemlmbnaaa
set_option linter.unusedSimpArgs false
set_option linter.unusedVariables false
set_option linter.unusedSectionVars false
open Go

/-- The slice value v has the cells xs (elements of 'size' cells), in a row of its own with R: nil, or at the head of a block with spare cells behind. -/
def OwnV (size : Nat) (xs : List Value) (v : Value) (R : Blocks) : Prop :=
  (xs = [] ∧ v = .slice none 0 0 ∧ R = []) ∨
  ∃ b n cap sl, v = .slice (some ⟨b, 0, none⟩) n cap ∧ R = [(b, xs ++ sl)] ∧ xs.length = n * size ∧ (xs ++ sl).length = cap * size ∧ n ≤ cap ∧ cap ≤ maxLen

theorem OwnV.nil (size : Nat) : OwnV size [] (.slice none 0 0) [] := .inl ⟨rfl, rfl, rfl⟩
theorem OwnV.mk {size : Nat} {xs : List Value} (b n cap : Nat) (sl : List Value) (h1 : xs.length = n * size) (h2 : (xs ++ sl).length = cap * size) (h3 : n ≤ cap) (h4 : cap ≤ maxLen) : OwnV size xs (.slice (some ⟨b, 0, none⟩) n cap) [(b, xs ++ sl)] :=
  .inr ⟨b, n, cap, sl, rfl, rfl, h1, h2, h3, h4⟩
theorem OwnV.form {size : Nat} {xs : List Value} {v : Value} {R : Blocks} (h : OwnV size xs v R) (hs : 0 < size) : ∃ A n cap, v = .slice A n cap ∧ xs.length = n * size ∧ n ≤ cap ∧ cap ≤ maxLen := by
  rcases h with ⟨rfl, rfl, rfl⟩ | ⟨b, n, cap, sl, rfl, rfl, h1, h2, h3, h4⟩
  · exact ⟨none, 0, 0, rfl, by simp, by omega, by omega⟩
  · exact ⟨_, n, cap, rfl, h1, h3, h4⟩
theorem OwnV.sl {size : Nat} {xs : List Value} {W w : World} {A : Option Addr} {n cap : Nat} {R L : Blocks} (h : OwnV size xs (.slice A n cap) R) (hS : St W w (R ++ L)) (hs : 0 < size) : Sl w A n size xs ∧ n ≤ cap ∧ cap ≤ maxLen := by
  rcases h with ⟨rfl, e, rfl⟩ | ⟨b, n', cap', sl, e, rfl, h1, h2, h3, h4⟩
  · simp only [Value.slice.injEq] at e
    obtain ⟨rfl, rfl, rfl⟩ := e
    exact ⟨Sl.nil w size, by omega, by omega⟩
  · simp only [Value.slice.injEq] at e
    obtain ⟨rfl, rfl, rfl⟩ := e
    have hr := (hS.2.row (k := 0) (b := b) (cs := xs ++ sl) (by simp)).2
    refine ⟨?_, h3, h4⟩
    have := Sl.of_row hr (n := n) (size := size) (by rw [h2]; exact Nat.mul_le_mul_right _ h3)
    rwa [← h1, List.take_left] at this

section
variable {W w w' : World} {L : Blocks}
/-- Blocks that are wanted no more may be forgotten. -/
theorem St.sub {L' : Blocks} (h : St W w L) (hs : L'.Sublist L) : St W w L' :=
  ⟨h.1, fun p hp => h.2.1 p (hs.subset hp), (hs.map _).nodup h.2.2⟩
theorem splice_mid : ∀ (ys xs zs : List Value), ys.length ≤ zs.length → splice (xs ++ zs) xs.length ys = xs ++ ys ++ zs.drop ys.length
  | [], xs, zs, _ => by simp [splice]
  | y :: ys, xs, zs, h => by
      cases zs with
      | nil => simp at h
      | cons z zs =>
        have ih := splice_mid ys (xs ++ [y]) zs (by simpa using h)
        simp only [splice, List.length_append, List.length_singleton, List.append_assoc, List.singleton_append] at ih ⊢
        rw [List.set_append_right _ _ (Nat.le_refl _), Nat.sub_self, List.set_cons_zero]
        simpa using ih
end

section
variable {P : Program} {w : World}
theorem run_append_in (t ty e : TypeId) (i : TypeInfo) (ht : P.underlying t = some (.slice e)) (hi : P.info? e = some i) (g n cap : Nat) {cs : List Value} (hg : Row w g cs)
    (a : Addr) (m c : Nat) (news : List Value) (hl : news.length = m * i.size) (hnews : ∀ j u, news[j]? = some u → w.cell? (a.add j) = some u) (h1 : ∀ u ∈ news, u.oneCell' = true)
    (hroom : n + m ≤ cap) (hfit : n * i.size + news.length ≤ cs.length) :
    (Builtin.append_ #[t, t] ty #[.slice (some ⟨g, 0, none⟩) n cap, .slice (some a) m c]).run P w = .ok (.slice (some ⟨g, 0, none⟩) (n + m) cap) (w.setCells g (n * i.size) news) := by
  have hf := run_firstCells_some (P := P) w i.size m a m c news hl hnews
  have hst := run_storeCells_cells (P := P) g (n * i.size) news 0 w (fun j hj => by rw [hg.cell, List.getElem?_eq_getElem (by omega)]; rfl) (fun j hj => hg.free _) h1
  simp only [Nat.add_zero] at hst
  simp [Builtin.append_, run_underlying ht, sizeOf, typeInfo, hi, Builtin.lenOf, hroom, hf, Addr.add_lit, hst]
end

section
variable {P : Program} {o : Oper} {a : Act} {W w : World} {K : Act → World → Prop} {Q : Exit → Act → World → Prop} {R L : Blocks}
theorem s_append {size bytes : Nat} {xs : List Value} {v : Value} (hS : St W w (R ++ L)) (hO : OwnV size xs v R) (t e : TypeId) (he : EI P t e size bytes) (s x : Operand)
    (ho : o.op = .call { callee := .builtin .append, args := #[s, x], argTypes := #[t, t] }) (hs : a.eval s = v) (ad : Addr) (m c : Nat) (hx : a.eval x = .slice (some ad) m c) (news : List Value)
    (hl : news.length = m * size) (hnews : ∀ j u, news[j]? = some u → w.cell? (ad.add j) = some u) (h1 : ∀ u ∈ news, u.oneCell' = true) (hm : 0 < m) (n : Nat) (hn : xs.length = n * size)
    (h63 : n + m ≤ 9223372036854775807) (hbytes : (n + m) * bytes ≤ 140737488355328)
    (h : ∀ v' R' w', OwnV size (xs ++ news) v' R' → St W w' (R' ++ L) → Adv W w w' → K (a.put o.dst v') w') : o.wp P a w K Q := by
  obtain ⟨ht, i, z, hi, hz, hsz, hby, hzs, hpos⟩ := he
  subst hsz
  subst hby
  have key : ∀ v' w', (Builtin.append_ #[t, t] o.type #[v, .slice (some ad) m c]).run P w = .ok v' w' → K (a.put o.dst v') w' → o.wp P a w K Q := by
    intro v' w' hr hk
    unfold Oper.wp execOp
    simp only [ho, resolve, invoke, builtin, Sem.run_bind, Sem.run_pure, Result.andThen_ok, List.map_toArray, List.map_cons, List.map_nil, hs, hx, hr]
    exact hk
  have fresh : ∀ (old : Nat) (R0 : Blocks), St W w (R0 ++ L) → K (a.put o.dst (.slice (some ⟨w.heap.size, 0, none⟩) (n + m) (grownCap w (n + m) old e))) (w.drew.alloc (.cells (xs.toArray ++ news.toArray ++ Builtin.zeroCells z.cells (grownCap w (n + m) old e - (n + m))) e)) := by
    intro old R0 hS0
    have hge := grownCap_ge w (n + m) old e
    have hle := grownCap_le_maxLen w (n + m) old e (by unfold maxLen; omega)
    have hS1 : St W w L := hS0.sub (List.sublist_append_right _ _)
    have hS2 : St W w.drew L := hS1.ext (Ext.drew (Ext.refl w))
    have hS3 := hS2.alloc (xs.toArray ++ news.toArray ++ Builtin.zeroCells z.cells (grownCap w (n + m) old e - (n + m))) e
    simp only [Array.toList_append] at hS3
    refine h _ _ _ (OwnV.mk w.heap.size (n + m) _ (Builtin.zeroCells z.cells (grownCap w (n + m) old e - (n + m))).toList ?_ ?_ hge hle) hS3 (Adv.of_ext hS.1 (((Ext.refl w).drew).alloc _))
    · rw [List.length_append, hn, hl, Nat.add_mul]
    · rw [List.length_append, List.length_append, hn, hl, Array.length_toList, size_zeroCells, hzs, ← Nat.add_mul, ← Nat.add_mul]
      congr 1
      omega
  rcases hO with ⟨rfl, rfl, rfl⟩ | ⟨g, n', cap, sl, rfl, rfl, h1', h2, h3, h4⟩
  · have hn0 : n = 0 := by
      have : n * i.size = 0 := by simpa using hn.symm
      rcases Nat.mul_eq_zero.1 this with h | h
      · exact h
      · omega
    subst hn0
    have hr := run_append_nil (P := P) w t o.type e i z ht hi hz ad m c news hl hnews hm (by omega) (by have hb := hbytes; simp only [Nat.zero_add] at hb; omega)
    have hf := fresh 0 [] hS
    simp only [Nat.zero_add, Array.empty_append] at hf
    exact key _ _ hr hf
  · have e1 : n' = n := Nat.eq_of_mul_eq_mul_right hpos (h1'.symm.trans hn)
    subst e1
    have hrow := (hS.2.row (k := 0) (b := g) (cs := xs ++ sl) (by simp)).2
    by_cases hroom : n' + m ≤ cap
    · have hle : (n' + m) * i.size ≤ cap * i.size := Nat.mul_le_mul_right _ hroom
      have hfit : n' * i.size + news.length ≤ (xs ++ sl).length := by rw [hl, h2, ← Nat.add_mul]; exact hle
      have hr := run_append_in (P := P) t o.type e i ht hi g n' cap hrow ad m c news hl hnews h1 hroom hfit
      have hset : St W (w.setCells g (n' * i.size) news) ([(g, xs ++ news ++ sl.drop news.length)] ++ L) := by
        have hge := (hS.2.row (k := 0) (b := g) (cs := xs ++ sl) (by simp)).1
        have hH := Has.setCells news hS.2 (k := 0) (b := g) (cs := xs ++ sl) (by simp) (n' * i.size)
        rw [← hn, splice_mid news xs sl (by simp only [List.length_append] at hfit; omega)] at hH
        exact ⟨ext_setCells news hS.1 hge _, by simpa [hn] using hH⟩
      refine key _ _ hr (h _ _ _ (OwnV.mk g (n' + m) cap (sl.drop news.length) ?_ ?_ hroom h4) hset (adv_setCells (hS.2.row (k := 0) (b := g) (cs := xs ++ sl) (by simp)).1 news w _))
      · rw [List.length_append, hn, hl, Nat.add_mul]
      · have := h2
        simp only [List.length_append, List.length_drop] at this hfit ⊢
        omega
    · have hr := run_append_grow (P := P) w t o.type e i z ht hi hz ⟨g, 0, none⟩ n' cap xs hn (fun j u hu => by
        have : (⟨g, 0, none⟩ : Addr).add j = ⟨g, j, none⟩ := by unfold Addr.add; split <;> simp_all
        rw [this, hrow.cell, List.getElem?_append_left (List.getElem?_eq_some_iff.1 hu).1]
        exact hu) ad m c news hl hnews (by omega) (by omega) (growslice_fits (by omega) hbytes)
      exact key _ _ hr (fresh cap _ hS)
end

section
variable {P : Program} {o : Oper} {a : Act} {W w : World} {K : Act → World → Prop} {Q : Exit → Act → World → Prop} {R LL : Blocks}
/-- The own row's block stands behind the first k. -/
theorem s_app (k : Nat) {size bytes : Nat} {xs : List Value} {v : Value} (hS : St W w LL) (hR : LL.drop k = R) (hO : OwnV size xs v R) (t e : TypeId) (he : EI P t e size bytes) (s x : Operand)
    (ho : o.op = .call { callee := .builtin .append, args := #[s, x], argTypes := #[t, t] }) (hs : a.eval s = v) (j bx m c : Nat) (hx : a.eval x = .slice (some ⟨bx, 0, none⟩) m c) (news : List Value) (hj : LL[j]? = some (bx, news))
    (hl : news.length = m * size) (h1 : news.all (·.oneCell') = true) (hm : 0 < m) (n : Nat) (hn : xs.length = n * size)
    (h63 : n + m ≤ 9223372036854775807) (hbytes : (n + m) * bytes ≤ 140737488355328)
    (h : ∀ v' R' w', OwnV size (xs ++ news) v' R' → St W w' (LL.take k ++ R') → Adv W w w' → K (a.put o.dst v') w') : o.wp P a w K Q := by
  have hrow := (hS.2.row hj).2
  have hS' : St W w (R ++ LL.take k) := hS.perm (by rw [← hR]; exact (List.Perm.of_eq (List.take_append_drop k LL).symm).trans List.perm_append_comm)
  refine s_append hS' hO t e he s x ho hs ⟨bx, 0, none⟩ m c hx news hl (fun i u hu => ?_) (by simpa using h1) hm n hn h63 hbytes fun v' R' w' h1 h2 h3 => h v' R' w' h1 (h2.perm List.perm_append_comm) h3
  have : (⟨bx, 0, none⟩ : Addr).add i = ⟨bx, i, none⟩ := by unfold Addr.add; split <;> simp_all
  rw [this, hrow.cell]
  exact hu
theorem s_mk {n : Nat} {cs : List Value} {e : TypeId} (hS : St W w LL) (hr : ∀ w, (execOp a.eval o).run P w = .ok (.value (.slice (some ⟨w.heap.size, 0, none⟩) n n)) (w.alloc (.cells cs.toArray e)))
    (h : ∀ b w', St W w' ((b, cs) :: LL) → Adv W w w' → K (a.put o.dst (.slice (some ⟨b, 0, none⟩) n n)) w') : o.wp P a w K Q := by
  unfold Oper.wp
  rw [hr w]
  exact h _ _ (by simpa using hS.alloc cs.toArray e) (Adv.of_ext hS.1 ((Ext.refl w).alloc _))
end
section
variable {P : Program} {d : Option Tmp} {ty : TypeId} {pos : String} {af : Array Edge} {g : Option (Nat × Bool)} {a : Act} {w : World} {K : Act → World → Prop} {Q : Exit → Act → World → Prop}
theorem g_append {xs : Array Operand} {ts : Array TypeId} (h : Oper.wp P ⟨d, .call ⟨.builtin .append, xs, ts⟩, ty, pos, af, g⟩ a w K Q) : Oper.wp P ⟨d, .call ⟨.builtin .append, xs, ts⟩, ty, pos, af, g⟩ a w K Q := h
theorem g_mk {t : TypeId} {n : Nat} {ps : Array (Nat × Operand)} (h : Oper.wp P ⟨d, .buildSlice t n ps, ty, pos, af, g⟩ a w K Q) : Oper.wp P ⟨d, .buildSlice t n ps, ty, pos, af, g⟩ a w K Q := h
end
/-- What an own slice value holds hangs on the memory alone. -/
theorem own_unique {size : Nat} {xs ys : List Value} {v : Value} {R S : Blocks} {w : World} (h : OwnV size xs v R) (k : OwnV size ys v S) (hR : ∀ p ∈ R, Row w p.1 p.2) (hS : ∀ p ∈ S, Row w p.1 p.2) : xs = ys := by
  rcases h with ⟨rfl, rfl, rfl⟩ | ⟨b, n, cap, sl, rfl, rfl, h1, h2, h3, h4⟩
  · rcases k with ⟨rfl, _, rfl⟩ | ⟨b, n, cap, sl, e, _⟩
    · rfl
    · cases e
  · rcases k with ⟨rfl, e, _⟩ | ⟨b', n', cap', sl', e, rfl, k1, k2, k3, k4⟩
    · cases e
    · simp only [Value.slice.injEq, Option.some.injEq, Addr.mk.injEq] at e
      obtain ⟨⟨rfl, _, _⟩, rfl, rfl⟩ := e
      obtain ⟨t, r1⟩ := hR _ (List.mem_singleton.2 rfl)
      obtain ⟨t', r2⟩ := hS _ (List.mem_singleton.2 rfl)
      rw [r1] at r2
      have e2 : xs ++ sl = ys ++ sl' := by
        have := Option.some.inj r2
        simp only [Obj.cells.injEq] at this
        simpa using congrArg Array.toList this.1
      have := congrArg (List.take (n * size)) e2
      rwa [← h1, List.take_left, h1, ← k1, List.take_left] at this
end Go.Proofs.Ytcahhoemlmbnaaa
