/-
  Arguments that are structs or arrays of integers, whatever their nesting: their cells are one flat list of integers, each fitting its kind.
-/
import Derived.Test.YtcahhoemlmbnaaaSlice
import Derived.ChangeArms
import Derived.ChangeShapes
import Derived.Deep.Slices
namespace Go.Proofs.Ytcahhoemlmbnaaa
set_option linter.unusedSimpArgs false
set_option linter.unusedVariables false
set_option linter.unusedSectionVars false
open Go.ChangeShapes Go.WideShapes Go.ChangeAt Go.RowKit

def cellsK : List IntKind → List Int → List Value
  | k :: ks, z :: zs => .int k z :: cellsK ks zs
  | _, _ => []
def AllWf : List IntKind → List Int → Prop
  | [], [] => True
  | k :: ks, z :: zs => (Lit.int k z).wf = true ∧ AllWf ks zs
  | _, _ => False
theorem AllWf.len : ∀ {ks : List IntKind} {zs : List Int}, AllWf ks zs → zs.length = ks.length
  | [], [], _ => rfl
  | _ :: _, _ :: _, h => by simp [AllWf.len h.2]
  | [], _ :: _, h => h.elim
  | _ :: _, [], h => h.elim
theorem AllWf.app : ∀ {ks ks' : List IntKind} {zs zs' : List Int}, AllWf ks zs → AllWf ks' zs' → AllWf (ks ++ ks') (zs ++ zs') ∧ cellsK (ks ++ ks') (zs ++ zs') = cellsK ks zs ++ cellsK ks' zs'
  | [], _, [], _, _, h' => ⟨h', rfl⟩
  | _ :: _, _, _ :: _, _, h, h' => by
      obtain ⟨h1, h2⟩ := AllWf.app h.2 h'
      exact ⟨⟨h.1, h1⟩, by simp [cellsK, h2]⟩
  | [], _, _ :: _, _, h, _ => h.elim
  | _ :: _, _, [], _, h, _ => h.elim
theorem cellsK_len : ∀ {ks : List IntKind} {zs : List Int}, AllWf ks zs → (cellsK ks zs).length = ks.length
  | [], [], _ => rfl
  | _ :: _, _ :: _, h => by simp [cellsK, cellsK_len h.2]
  | [], _ :: _, h => h.elim
  | _ :: _, [], h => h.elim

def flatFields (P : Program) (rec : TypeId → Option (List IntKind)) : List Field → Nat → Option (List IntKind)
  | [], _ => some []
  | f :: fs, off =>
    match rec f.type with
    | some l => if f.offset = off ∧ P.cellsOf f.type = l.length then (flatFields P rec fs (off + l.length)).map (l ++ ·) else none
    | none => none
/-- The kinds of a type's cells, if all are integers. -/
def flatK (P : Program) : Nat → TypeId → Option (List IntKind)
  | 0, _ => none
  | n + 1, t =>
    match P.underlying t with
    | some (.int k) => some [k]
    | some (.struct fs) => (flatFields P (flatK P n) fs.toList 0).bind fun l => if P.cellsOf t = l.length then some l else none
    | some (.array m e) => (flatK P n e).bind fun l => if P.cellsOf e = l.length ∧ P.cellsOf t = m * l.length then some (List.replicate m l).flatten else none
    | _ => none

section
variable {H : Type} {enc : TypeId × Value → H} {P : Program} {w : World} {base : Nat} {spare : Nat → Bool} {held : Bool}

theorem flat_fields {n : Nat} (ih : ∀ t ks, flatK P n t = some ks → ∀ fuel cs x, DataW.trod enc P w base spare held fuel t cs = some x → ∃ zs, AllWf ks zs ∧ cs = cellsK ks zs) {m : Nat} {cs : List Value} :
    ∀ (fs : List Field) (off : Nat) (ls : List IntKind), flatFields P (flatK P n) fs off = some ls → off + ls.length ≤ cs.length →
      (∀ f ∈ fs, ∃ y, DataW.trod enc P w base spare held m f.type ((cs.drop f.offset).take (P.cellsOf f.type)) = some y) →
      ∃ zs, AllWf ls zs ∧ (cs.drop off).take ls.length = cellsK ls zs
  | [], off, ls, h, _, _ => by
      simp only [flatFields, Option.some.injEq] at h
      subst h
      exact ⟨[], trivial, by simp [cellsK]⟩
  | f :: fs, off, ls, h, hl, hf => by
      simp only [flatFields] at h
      split at h
      · rename_i l hrec
        split at h
        · rename_i hc
          obtain ⟨ho, hcl⟩ := hc
          simp only [Option.map_eq_some_iff] at h
          obtain ⟨l2, h2, rfl⟩ := h
          obtain ⟨y, hy⟩ := hf f (by simp)
          rw [ho, hcl] at hy
          obtain ⟨zs1, hz1, hc1⟩ := ih _ _ hrec _ _ _ hy
          rw [List.length_append] at hl
          obtain ⟨zs2, hz2, hc2⟩ := flat_fields ih fs (off + l.length) l2 h2 (by omega) (fun g hg => hf g (by simp [hg]))
          obtain ⟨ha, hb⟩ := AllWf.app hz1 hz2
          refine ⟨zs1 ++ zs2, ha, ?_⟩
          rw [hb, ← hc1, ← hc2, List.length_append, List.take_add, List.drop_drop]
        · cases h
      · cases h

theorem flat_ints : ∀ (n : Nat) (t : TypeId) (ks : List IntKind), flatK P n t = some ks → ∀ fuel cs x, DataW.trod enc P w base spare held fuel t cs = some x → ∃ zs, AllWf ks zs ∧ cs = cellsK ks zs
  | 0, _, _, h => by simp [flatK] at h
  | n + 1, t, ks, h => by
      intro fuel cs x hx
      simp only [flatK] at h
      split at h
      · rename_i k hk
        simp only [Option.some.injEq] at h
        subst h
        obtain ⟨z, rfl, _, hw⟩ := DataW.trod_int hk hx
        exact ⟨[z], ⟨hw, trivial⟩, rfl⟩
      · rename_i fs hs
        simp only [Option.bind_eq_some_iff] at h
        obtain ⟨l, hl, h⟩ := h
        split at h
        · rename_i hc
          simp only [Option.some.injEq] at h
          subst h
          obtain ⟨xs, m, _, _, hlen, hxl, hg⟩ := DataW.trod_struct hs hx
          have hlen' : cs.length = l.length := by rw [hlen, hc]
          obtain ⟨zs, hz, hcs⟩ := flat_fields (flat_ints n) (m := m) (cs := cs) fs.toList 0 l hl (by omega) (fun f hf => by
            obtain ⟨i, hi, e⟩ := List.getElem_of_mem hf
            have hi' : i < fs.size := by simpa using hi
            have h1 := hg i f (by rw [Array.getElem?_eq_getElem hi']; simpa using e)
            exact ⟨xs[i]'(by omega), by rw [h1, List.getElem?_eq_getElem]⟩)
          exact ⟨zs, hz, by rw [← hcs, List.drop_zero, List.take_of_length_le (by omega)]⟩
        · cases h
      · rename_i m e hs
        simp only [Option.bind_eq_some_iff] at h
        obtain ⟨l, hl, h⟩ := h
        split at h
        · rename_i hc
          obtain ⟨hc1, hc2⟩ := hc
          simp only [Option.some.injEq] at h
          subst h
          have key : ∃ m', cs.length = P.cellsOf t ∧ ∀ i, i < m → ∃ y, DataW.trod enc P w base spare held m' e ((cs.drop (i * P.cellsOf e)).take (P.cellsOf e)) = some y := by
            cases fuel with
            | zero => simp [DataW.trod] at hx
            | succ m' =>
              unfold DataW.trod at hx
              rw [hs] at hx
              simp only at hx
              split at hx
              · rename_i hcl
                simp only [Option.map_eq_some_iff] at hx
                obtain ⟨xs, hxs, _⟩ := hx
                refine ⟨m', hcl, fun i hi => ?_⟩
                have h1 := mapM_some_get hxs i i (by simp [hi])
                have h2 := mapM_some_length hxs
                simp at h2
                exact ⟨xs[i]'(by omega), by rw [h1, List.getElem?_eq_getElem]⟩
              · cases hx
          obtain ⟨m', hcl, hel⟩ := key
          rw [hc1] at hel
          rw [hc2] at hcl
          have main : ∀ j, j ≤ m → ∃ zs, AllWf (List.replicate j l).flatten zs ∧ cs.take (j * l.length) = cellsK (List.replicate j l).flatten zs := by
            intro j
            induction j with
            | zero => intro _; exact ⟨[], trivial, by simp [cellsK]⟩
            | succ j ihj =>
              intro hj
              obtain ⟨zs, hz, hcs⟩ := ihj (by omega)
              obtain ⟨y, hy⟩ := hel j (by omega)
              obtain ⟨zs2, hz2, hcs2⟩ := flat_ints n _ _ hl _ _ _ hy
              obtain ⟨ha, hb⟩ := AllWf.app hz hz2
              rw [List.replicate_succ', List.flatten_append]
              simp only [List.flatten_cons, List.flatten_nil, List.append_nil]
              refine ⟨zs ++ zs2, ha, ?_⟩
              rw [hb, ← hcs, ← hcs2, Nat.add_mul, Nat.one_mul, List.take_add]
          obtain ⟨zs, hz, hcs⟩ := main m (Nat.le_refl _)
          exact ⟨zs, hz, by rw [← hcs, List.take_of_length_le (by omega)]⟩
        · cases h
      · cases h

/-- A struct argument of integers alone. -/
theorem open_flat {t : TypeId} {fs : Array Field} {ks : List IntKind} {v : Value} {d : DataW H} {ps : List MemPlace} {r : Reach} {b0 : Nat} (hs : P.underlying t = some (.struct fs)) (hk : flatK P 8 t = some ks)
    (hv : Value.okWide P w r b0 t v) (h : DataW.Trod enc P w base spare held t v d ps) : ∃ zs, AllWf ks zs ∧ v = .agg (cellsK ks zs).toArray := by
  obtain ⟨cs, rfl, _⟩ := okWide_struct hs hv
  obtain ⟨fuel, hf⟩ := h
  obtain ⟨zs, hz, hcs⟩ := flat_ints _ _ _ hk _ _ _ hf
  refine ⟨zs, hz, ?_⟩
  simp only [Value.cells] at hcs
  rw [← hcs]
end
end Go.Proofs.Ytcahhoemlmbnaaa
