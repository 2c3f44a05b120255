/-
  make of a slice of one-cell elements; copy into an own row.
-/
import Derived.Test.YtcahhoemlmbnaaaAppend
import Derived.Laws.MakeOwn
import Derived.Laws.IdiomCopy
namespace Go.Proofs.Ytcahhoemlmbnaaa
set_option linter.unusedSimpArgs false
set_option linter.unusedVariables false
set_option linter.unusedSectionVars false
open Go Go.RowKit

/-- A goal at which the walk stops. -/
@[irreducible] def Stop (p : Prop) : Prop := p
theorem Stop.out {p : Prop} (h : Stop p) : p := by unfold Stop at h; exact h
theorem Stop.mk {p : Prop} (h : p) : Stop p := by unfold Stop; exact h

/-- The element type of the slice type t: one cell, zero value z, some bytes. -/
def EZ (P : Program) (t e : TypeId) (z : Value) (bytes : Nat) : Prop :=
  P.underlying t = some (.slice e) ∧ z.cells = #[z] ∧ ∃ i : TypeInfo, P.info? e = some i ∧ i.zero = some z ∧ i.size = 1 ∧ i.bytes = bytes
theorem ez_of {P : Program} {t e : TypeId} {z : Value} {bytes : Nat} (ht : P.underlying t = some (.slice e)) (h : (P.info? e).map (fun i => (i.zero, i.size, i.bytes)) = some (some z, 1, bytes)) (hz : z.cells = #[z]) : EZ P t e z bytes := by
  obtain ⟨i0, hi, hz0, hz1, hz2⟩ := info_parts h
  exact ⟨ht, hz, i0, hi, hz0, hz1, hz2⟩
theorem madeCells_one (z : Value) (n : Nat) : (madeCells #[z] n).toList = List.replicate n z := by
  apply List.ext_getElem
  · simp [madeCells]
  · intro i h1 h2
    simp only [madeCells, Array.getElem_toList, Array.getElem_map, Array.getElem_range, List.getElem_replicate, List.size_toArray, List.length_cons, List.length_nil, Nat.zero_add, Nat.mod_one]
    rfl
theorem ones_map {α : Type} (f : α → Value) (h : ∀ a, (f a).oneCell' = true) (l : List α) : (l.map f).all (·.oneCell') = true := by simp [h]
theorem splice_head (xs cs : List Value) (h : xs.length ≤ cs.length) : splice cs 0 xs = xs ++ cs.drop xs.length := by
  simpa using splice_mid xs [] cs h

/-- The three marks behind a list that is lent. -/
def marks3 (mk : Nat → Value) (n : Nat) : List Value := [mk n, mk (n + 1), mk (n + 2)]
/-- Up to k the marks are laid. -/
def lentTo (xs : List Value) (mk : Nat → Value) (z : Value) (n k : Nat) : List Value := xs ++ (marks3 mk n).take (k - n) ++ List.replicate (n + 3 - k) z
theorem lentTo_len (xs : List Value) (mk : Nat → Value) (z : Value) (n k : Nat) (h1 : xs.length = n) (hk : n ≤ k) (hk2 : k ≤ n + 3) : (lentTo xs mk z n k).length = n + 3 := by
  simp only [lentTo, List.length_append, List.length_take, List.length_replicate, marks3, List.length_cons, List.length_nil]
  omega
theorem lentTo_start (xs : List Value) (mk : Nat → Value) (z : Value) (n : Nat) : lentTo xs mk z n n = xs ++ (List.replicate (n + 3) z).drop n := by
  simp [lentTo]
theorem lentTo_end (xs : List Value) (mk : Nat → Value) (z : Value) (n : Nat) : lentTo xs mk z n (n + 3) = xs ++ marks3 mk n := by
  simp [lentTo, marks3]
theorem lentTo_step (xs : List Value) (mk : Nat → Value) (z : Value) (n k : Nat) (h1 : xs.length = n) (hk : n ≤ k) (hk2 : k < n + 3) : (lentTo xs mk z n k).set k (mk k) = lentTo xs mk z n (k + 1) := by
  unfold lentTo
  obtain rfl | rfl | rfl : k = n ∨ k = n + 1 ∨ k = n + 2 := by omega
  all_goals
    subst h1
    simp only [Nat.sub_self, List.take_zero, List.map_nil, List.append_nil, Nat.add_sub_cancel_left, marks3, List.take_succ_cons, List.map_cons, List.append_assoc]
    rw [List.set_append_right _ _ (by simp)]
    simp [List.replicate_succ, show xs.length + 3 - (xs.length + 1) = 2 by omega, show xs.length + 3 - (xs.length + 2) = 1 by omega, show xs.length + 1 + 1 - xs.length = 2 by omega, show xs.length + 2 + 1 - xs.length = 3 by omega, show xs.length + 3 - (xs.length + 1 + 1) = 1 by omega, show xs.length + 3 - (xs.length + 2 + 1) = 0 by omega]

section
variable {P : Program} {o : Oper} {a : Act} {W w : World} {K : Act → World → Prop} {Q : Exit → Act → World → Prop} {L : Blocks}
theorem s_make1 (hS : St W w L) {t e : TypeId} {z : Value} {bytes : Nat} (he : EZ P t e z bytes) (x : Operand) (ho : o.op = .makeSlice t x x) (k : IntKind) (n : Nat) (hx : a.eval x = .int k (n : Int))
    (hb : bytes * n ≤ 281474976710656) (hn : n ≤ 9223372036854775807)
    (h : ∀ b w', St W w' ((b, List.replicate n z) :: L) → Adv W w w' → K (a.put o.dst (.slice (some ⟨b, 0, none⟩) n n)) w') : o.wp P a w K Q := by
  obtain ⟨ht, hz, i, hi, hz0, hsz, hby⟩ := he
  have hb2 : (i.bytes : Int) * (n : Int) ≤ 281474976710656 := by
    have h : ((i.bytes * n : Nat) : Int) ≤ 281474976710656 := by rw [hby]; omega
    rwa [Int.natCast_mul] at h
  have hr := run_make (P := P) w t e i z ht hi hz0 k k n n (by omega) (Int.le_refl _) hb2 (by omega)
  simp only [Int.toNat_natCast, hsz, Nat.mul_one, hz] at hr
  have hS2 := hS.alloc (madeCells #[z] n) e
  rw [madeCells_one] at hS2
  unfold Oper.wp execOp
  simp only [ho, hx, Sem.run_bind, Sem.run_pure, hr, Result.andThen_ok]
  exact h _ _ hS2 (Adv.of_ext hS.1 ((Ext.refl w).alloc _))
/-- copy of a whole slice over the head of an own row. -/
theorem s_copy1 (k : Nat) (hS : St W w L) {t e : TypeId} {z : Value} {bytes : Nat} (he : EZ P t e z bytes) (t' : TypeId) (d s : Operand) (ho : o.op = .call { callee := .builtin .copy, args := #[d, s], argTypes := #[t, t'] })
    (b dl dc : Nat) (hd : a.eval d = .slice (some ⟨b, 0, none⟩) dl dc) (A : Option Addr) (m c : Nat) (hs : a.eval s = .slice A m c) (xs : List Value) (hsl : Sl w A m 1 xs) (h1 : xs.all (·.oneCell') = true)
    (cs : List Value) (hk : L[k]? = some (b, cs)) (hml : m ≤ dl) (hmc : m ≤ cs.length) (L' : Blocks) (hL : L.set k (b, xs ++ cs.drop m) = L')
    (h : ∀ w', St W w' L' → Adv W w w' → K (a.put o.dst (goInt m)) w') : o.wp P a w K Q := by
  subst hL
  obtain ⟨ht, hz, i, hi, hz0, hsz, hby⟩ := he
  obtain ⟨hb, hr⟩ := hS.2.row hk
  have hxl : xs.length = m := by simpa using hsl.1
  have hkl : k < L.length := (List.getElem?_eq_some_iff.1 hk).1
  have key : ∀ w', (Builtin.copy_ #[t, t'] o.type #[.slice (some ⟨b, 0, none⟩) dl dc, .slice A m c]).run P w = .ok (goInt m) w' → K (a.put o.dst (goInt m)) w' → o.wp P a w K Q := by
    intro w' hr hk
    unfold Oper.wp execOp
    simp only [ho, resolve, invoke, builtin, Sem.run_bind, Sem.run_pure, Result.andThen_ok, List.map_toArray, List.map_cons, List.map_nil, hd, hs, hr]
    exact hk
  by_cases hm : m = 0
  · subst hm
    have hx0 : xs = [] := by simpa using hxl
    subst hx0
    refine key w (run_copy_none (P := P) w t t' o.type e _ A dl dc 0 c ht (by rw [hi]; simp [hsz]) (by show min 0 dl = 0; omega)) (h _ ?_ (Adv.refl _ _))
    have : L.set k (b, ([] : List Value) ++ cs.drop 0) = L := by
      apply List.ext_getElem?
      intro j
      rw [List.getElem?_set]
      split
      · rename_i hj; subst hj; simp only [hkl, if_true, List.nil_append, List.drop_zero]; exact hk.symm
      · rfl
    rw [this]
    exact hS
  · obtain ⟨b2, off, rfl, hb2, hc⟩ := hsl.2 (by omega)
    have hr' := run_copy_cells (P := P) w t t' o.type e b 0 dl dc ⟨b2, off, none⟩ m c xs ht (by rw [hi]; simp [hsz]) (by rw [hxl]; show m = min m dl; omega)
      (fun j u hu => by
        have : (⟨b2, off, none⟩ : Addr).add j = ⟨b2, off + j, none⟩ := by unfold Addr.add; split <;> simp_all
        rw [this]; exact hc j u hu)
      (fun j hj => by rw [hr.cell, List.getElem?_eq_getElem (by omega)]; rfl) (fun j hj => hr.free _) (by simpa using h1)
    rw [hxl] at hr'
    have hH := Has.setCells xs hS.2 hk 0
    rw [splice_head xs cs (by omega), hxl] at hH
    exact key _ hr' (h _ ⟨ext_setCells xs hS.1 hb 0, hH⟩ (adv_setCells hb xs w 0))
end
section
variable {P : Program} {d : Option Tmp} {ty : TypeId} {pos : String} {af : Array Edge} {g : Option (Nat × Bool)} {a : Act} {w : World} {K : Act → World → Prop} {Q : Exit → Act → World → Prop}
theorem g_want {ops : Array Oper} {rest : List Oper} {o : Op} {gd : Nat × Bool} {a : Act} {w : World} (hw : Region.wanted ⟨d, o, ty, pos, af, some gd⟩ (yielded ops a.tmps) = true)
    (h : ∀ K : Act → World → Prop, (∀ a w, wpList P ops Q rest a w → K a w) → Oper.wp P ⟨d, o, ty, pos, af, some gd⟩ a w K Q) : wpList P ops Q (⟨d, o, ty, pos, af, some gd⟩ :: rest) a w :=
  wpList_step fun K hK => by rw [if_pos hw]; exact h K hK
theorem g_make {t : TypeId} {x y : Operand} (h : Oper.wp P ⟨d, .makeSlice t x y, ty, pos, af, g⟩ a w K Q) : Oper.wp P ⟨d, .makeSlice t x y, ty, pos, af, g⟩ a w K Q := h
theorem g_copy {xs : Array Operand} {ts : Array TypeId} (h : Oper.wp P ⟨d, .call ⟨.builtin .copy, xs, ts⟩, ty, pos, af, g⟩ a w K Q) : Oper.wp P ⟨d, .call ⟨.builtin .copy, xs, ts⟩, ty, pos, af, g⟩ a w K Q := h
end
/-- The whole room of a list that was lent. -/
def LentTo (w : World) (b n : Nat) (xs : List Value) (mk : Nat → Value) : Prop := Sl w (some ⟨b, 0, none⟩) (n + 3) 1 (xs ++ marks3 mk n)
theorem lent_of {W w : World} {L : Blocks} (hS : St W w L) (k b n : Nat) (xs : List Value) (mk : Nat → Value) (hk : L[k]? = some (b, xs ++ marks3 mk n)) (h1 : xs.length = n) : LentTo w b n xs mk := by
  have hr := (hS.2.row hk).2
  have := Sl.of_row hr (n := n + 3) (size := 1) (by simp [marks3, h1])
  rwa [List.take_of_length_le (by simp [marks3, h1])] at this
end Go.Proofs.Ytcahhoemlmbnaaa
