/-
  Arguments whose slices have slices in them: what they hold, at any depth; a law's call at such arguments.
-/
import Derived.Test.YtmoflcoijmmpjaaOpenSl
namespace Go.Proofs.Ytmoflcoijmmpjaa
set_option linter.unusedSimpArgs false
set_option linter.unusedVariables false
set_option linter.unusedSectionVars false
open Go Go.ChangeShapes Go.WideShapes Go.ChangeAt Go.RowKit

inductive Sh where
  | i (k : IntKind)
  | b
  | st
  | sl (sub : List Sh)
def shFields (P : Program) (rec : TypeId → Option (List Sh)) : List Field → Nat → Option (List Sh)
  | [], _ => some []
  | f :: fs, off =>
    match rec f.type with
    | some l => if f.offset = off ∧ P.cellsOf f.type = l.length then (shFields P rec fs (off + l.length)).map (l ++ ·) else none
    | none => none
def shK (P : Program) : Nat → TypeId → Option (List Sh)
  | 0, _ => none
  | n + 1, t =>
    match P.underlying t with
    | some (.int k) => some [.i k]
    | some .bool => some [.b]
    | some .string => some [.st]
    | some (.slice e) => (shK P n e).bind fun l => if P.cellsOf e = l.length ∧ 0 < l.length then some [.sl l] else none
    | some (.struct fs) => (shFields P (shK P n) fs.toList 0).bind fun l => if P.cellsOf t = l.length then some l else none
    | some (.array m e) => (shK P n e).bind fun l => if P.cellsOf e = l.length ∧ P.cellsOf t = m * l.length then some (List.replicate m l).flatten else none
    | _ => none
mutual
def ShOk : Sh → DV → Prop
  | .i k, d => ∃ z, d = .fl (.int k z) ∧ (Lit.int k z).wf = true
  | .b, d => ∃ x, d = .fl (.bool x)
  | .st, d => ∃ x : ByteArray, d = .fl (.string x) ∧ x.size ≤ maxLen
  | .sl l, d => ∃ len cap rows, d = .sl len (some cap) (List.flatten rows) ∧ len ≤ cap ∧ cap ≤ 9223372036854775807 ∧ rows.length = len ∧ ∀ r, r ∈ rows → ShsOk l r
def ShsOk : List Sh → List DV → Prop
  | [], ds => ds = []
  | s :: l, ds => ∃ d ds', ds = d :: ds' ∧ ShOk s d ∧ ShsOk l ds'
end
theorem ShsOk.len : ∀ {l : List Sh} {ds : List DV}, ShsOk l ds → ds.length = l.length
  | [], ds, h => by simp only [ShsOk] at h; subst h; rfl
  | s :: l, ds, h => by simp only [ShsOk] at h; obtain ⟨d, ds', rfl, _, h⟩ := h; simp [h.len]
theorem ShsOk.app : ∀ {l m : List Sh} {ds es : List DV}, ShsOk l ds → ShsOk m es → ShsOk (l ++ m) (ds ++ es)
  | [], m, ds, es, h, k => by simp only [ShsOk] at h; subst h; exact k
  | s :: l, m, ds, es, h, k => by
      simp only [ShsOk] at h
      obtain ⟨d, ds', rfl, h1, h2⟩ := h
      simp only [List.cons_append, ShsOk]
      exact ⟨d, ds' ++ es, rfl, h1, h2.app k⟩
theorem DRv.len {W w : World} {F : List Nat} : ∀ {ds : List DV} {us : List Value}, DRv W w F ds us → us.length = ds.length
  | [], us, h => by simp only [DRv] at h; subst h; rfl
  | d :: ds, us, h => by simp only [DRv] at h; obtain ⟨u, us', rfl, _, h⟩ := h; simp [DRv.len h]
theorem DRv.app {W w : World} {F : List Nat} : ∀ {ds es : List DV} {us vs : List Value}, DRv W w F ds us → DRv W w F es vs → DRv W w F (ds ++ es) (us ++ vs)
  | [], es, us, vs, h, k => by simp only [DRv] at h; subst h; exact k
  | d :: ds, es, us, vs, h, k => by
      simp only [DRv] at h
      obtain ⟨u, us', rfl, h1, h2⟩ := h
      simp only [List.cons_append, DRv]
      exact ⟨u, us' ++ vs, rfl, h1, h2.app k⟩
theorem DRv.cells {W : World} {b : Nat} (hb : b < W.heap.size) : ∀ {ds : List DV} {us : List Value} {s : Nat} {es : List DV}, DRv W W [] ds us → (∀ j u, us[j]? = some u → W.cell? ⟨b, s + j, none⟩ = some u) → DRs W W [] b (s + ds.length) es → DRs W W [] b s (ds ++ es)
  | [], us, s, es, h, hc, he => by simpa using he
  | d :: ds, us, s, es, h, hc, he => by
      simp only [DRv] at h
      obtain ⟨u, us', rfl, h1, h2⟩ := h
      simp only [List.cons_append, DRs]
      refine ⟨⟨u, .inl ⟨hb, hc 0 u rfl⟩, h1⟩, DRv.cells hb h2 (fun j x hj => ?_) ?_⟩
      · have := hc (j + 1) x (by simpa using hj)
        rwa [show s + (j + 1) = s + 1 + j by omega] at this
      · rwa [List.length_cons, show s + (ds.length + 1) = s + 1 + ds.length by omega] at he
section
variable {H : Type} {enc : TypeId × Value → H} {P : Program} {W : World}
theorem sh_fields {n : Nat} (ih : ∀ t l, shK P n t = some l → ∀ fuel cs x, DataW.trod enc P W 0 (fun _ => true) true fuel t cs = some x → ∃ ds, ShsOk l ds ∧ DRv W W [] ds cs) {m : Nat} {cs : List Value} :
    ∀ (fs : List Field) (off : Nat) (ls : List Sh), shFields P (shK P n) fs off = some ls → off + ls.length ≤ cs.length →
      (∀ f ∈ fs, ∃ y, DataW.trod enc P W 0 (fun _ => true) true m f.type ((cs.drop f.offset).take (P.cellsOf f.type)) = some y) →
      ∃ ds, ShsOk ls ds ∧ DRv W W [] ds ((cs.drop off).take ls.length)
  | [], off, ls, h, _, _ => by
      simp only [shFields, Option.some.injEq] at h
      subst h
      exact ⟨[], rfl, by simp [DRv]⟩
  | f :: fs, off, ls, h, hl, hf => by
      simp only [shFields] at h
      split at h
      · rename_i l hrec
        split at h
        · rename_i hc
          obtain ⟨ho, hcl⟩ := hc
          simp only [Option.map_eq_some_iff] at h
          obtain ⟨l2, h2, rfl⟩ := h
          obtain ⟨y, hy⟩ := hf f (by simp)
          rw [ho, hcl] at hy
          obtain ⟨d1, hz1, hc1⟩ := ih _ _ hrec _ _ _ hy
          rw [List.length_append] at hl
          obtain ⟨d2, hz2, hc2⟩ := sh_fields ih fs (off + l.length) l2 h2 (by omega) (fun g hg => hf g (by simp [hg]))
          refine ⟨d1 ++ d2, hz1.app hz2, ?_⟩
          have := hc1.app hc2
          rwa [← List.drop_drop, ← List.take_add, ← List.length_append] at this
        · cases h
      · cases h
theorem sh_rows {l : List Sh} {b : Nat} (hb : b < W.heap.size) {off : Nat} : ∀ (k i : Nat), (∀ j, i ≤ j → j < i + k → ∃ ds, ShsOk l ds ∧ ∃ us, DRv W W [] ds us ∧ ∀ q u, us[q]? = some u → W.cell? ⟨b, off + (j * l.length + q), none⟩ = some u) →
    ∃ rows : List (List DV), rows.length = k ∧ ((∀ r, r ∈ rows → ShsOk l r) ∧ DRs W W [] b (off + i * l.length) rows.flatten)
  | 0, i, _ => ⟨[], rfl, (fun r h => (nomatch h)), by simp only [List.flatten_nil, DRs]; exact .inl hb⟩
  | k + 1, i, h => by
      obtain ⟨rows, h1, h2, h3⟩ := sh_rows hb k (i + 1) fun j a b => h j (by omega) (by omega)
      obtain ⟨ds, g1, us, g2, g3⟩ := h i (Nat.le_refl _) (by omega)
      refine ⟨ds :: rows, by simp [h1], fun r hr => ?_, ?_⟩
      · rcases List.mem_cons.1 hr with rfl | hr
        · exact g1
        · exact h2 r hr
      · rw [List.flatten_cons]
        refine DRv.cells hb g2 (fun j u hj => ?_) ?_
        · rw [Nat.add_assoc]; exact g3 j u hj
        · rwa [g1.len, show off + i * l.length + l.length = off + (i + 1) * l.length by rw [Nat.add_mul]; omega]
theorem sh_open : ∀ (n : Nat) (t : TypeId) (l : List Sh), shK P n t = some l → ∀ fuel cs x, DataW.trod enc P W 0 (fun _ => true) true fuel t cs = some x → ∃ ds, ShsOk l ds ∧ DRv W W [] ds cs
  | 0, _, _, h => by simp [shK] at h
  | n + 1, t, l, h => by
      intro fuel cs x hx
      have one : ∀ {s : Sh} {d : DV} {u : Value}, ShOk s d → DR W W [] d u → ∃ ds, ShsOk [s] ds ∧ DRv W W [] ds [u] := fun h1 h2 => ⟨[_], by simp only [ShsOk]; exact ⟨_, [], rfl, h1, rfl⟩, by simp only [DRv]; exact ⟨_, [], rfl, h2, rfl⟩⟩
      simp only [shK] at h
      split at h
      · rename_i k hk
        simp only [Option.some.injEq] at h
        subst h
        obtain ⟨z, rfl, _, hw⟩ := DataW.trod_int hk hx
        exact one (by simp only [ShOk]; exact ⟨z, rfl, hw⟩) (by rw [DR]; exact ⟨rfl, fun σ => rfl⟩)
      · rename_i hk
        simp only [Option.some.injEq] at h
        subst h
        obtain ⟨z, rfl, _⟩ := DataW.trod_bool hk hx
        exact one (by simp only [ShOk]; exact ⟨z, rfl⟩) (by rw [DR]; exact ⟨rfl, fun σ => rfl⟩)
      · rename_i hk
        simp only [Option.some.injEq] at h
        subst h
        obtain ⟨z, rfl, _, hw⟩ := DataW.trod_string hk hx
        exact one (by simp only [ShOk]; exact ⟨z, rfl, hw⟩) (by rw [DR]; exact ⟨rfl, fun σ => rfl⟩)
      · rename_i e hk
        simp only [Option.bind_eq_some_iff] at h
        obtain ⟨sub, hsub, h⟩ := h
        split at h
        · rename_i hc
          obtain ⟨hc1, hpos⟩ := hc
          simp only [Option.some.injEq] at h
          subst h
          rcases DataW.trod_slice hk hx with ⟨rfl, _⟩ | ⟨a, len, cap, elems, rest, m, _, rfl, _, _, hl, hm, hlen, hel, hre, _⟩
          · exact one (by simp only [ShOk]; exact ⟨0, 0, [], rfl, Nat.le_refl _, by omega, rfl, fun r hr => (nomatch hr)⟩) (by rw [DR]; exact .inl ⟨rfl, rfl, .inr rfl, _, rfl⟩)
          · have hcm : cap ≤ 9223372036854775807 := by unfold maxLen at hm; omega
            rcases Nat.eq_zero_or_pos cap with h0 | h0
            · subst h0
              obtain rfl : len = 0 := by omega
              exact one (by simp only [ShOk]; exact ⟨0, 0, [], rfl, Nat.le_refl _, by omega, rfl, fun r hr => (nomatch hr)⟩) (by rw [DR]; exact .inl ⟨rfl, rfl, .inr rfl, _, rfl⟩)
            · obtain ⟨hr1, hr2⟩ := hre rfl
              have ex : ∀ i, i < cap → ∃ y, (W.cells? 0 (a.add (i * P.cellsOf e)) (P.cellsOf e)).bind (DataW.trod enc P W 0 (fun _ => true) true m e) = some y := fun i hi => by
                by_cases hil : i < len
                · exact ⟨elems[i]'(by omega), by rw [hel i hil, List.getElem?_eq_getElem]⟩
                · have := hr2 (i - len) (by omega)
                  rw [show len + (i - len) = i by omega] at this
                  exact ⟨rest[i - len]'(by omega), by rw [this, List.getElem?_eq_getElem]⟩
              have spot : a.spot = none ∧ a.block < W.heap.size := by
                obtain ⟨y, hy⟩ := ex 0 h0
                rw [Option.bind_eq_some_iff] at hy
                obtain ⟨cs0, h2, _⟩ := hy
                obtain ⟨_, h4, h5⟩ := World.cells?_some h2
                have h6 := h5 0 (by omega)
                obtain ⟨u, hu⟩ : ∃ u, cs0[0]? = some u := ⟨cs0[0]'(by omega), List.getElem?_eq_getElem _⟩
                rw [hu] at h6
                obtain ⟨b, off, sp⟩ := a
                cases sp with
                | none =>
                  rw [add_plain, add_plain] at h6
                  exact ⟨rfl, cell_lt h6⟩
                | some s =>
                  exfalso
                  have : ((({ block := b, off := off, spot := some s } : Addr).add (0 * P.cellsOf e)).add 0).spot.isSome = true := by
                    unfold Addr.add
                    split <;> split <;> simp_all
                  unfold World.cell? at h6
                  split at h6
                  · rw [if_pos this] at h6; cases h6
                  · cases h6
              obtain ⟨b, off, sp⟩ := a
              obtain ⟨hsp, hblk⟩ := spot
              simp only at hsp hblk
              subst hsp
              obtain ⟨rows, g1, g2, g3⟩ := sh_rows (W := W) (l := sub) hblk (off := off) len 0 fun j _ hj => by
                obtain ⟨y, hy⟩ := ex j (by omega)
                rw [Option.bind_eq_some_iff] at hy
                obtain ⟨cs0, h2, h3⟩ := hy
                obtain ⟨ds, h7, h8⟩ := sh_open n e sub hsub _ _ _ h3
                obtain ⟨_, h4, h5⟩ := World.cells?_some h2
                refine ⟨ds, h7, cs0, h8, fun q u hq => ?_⟩
                have hq2 := (List.getElem?_eq_some_iff.1 hq).1
                have h6 := h5 q (by omega)
                rw [add_plain, add_plain, hc1, hq, Nat.add_assoc] at h6
                exact h6
              rw [Nat.zero_mul, Nat.add_zero] at g3
              exact one (by simp only [ShOk]; exact ⟨len, cap, rows, rfl, hl, hcm, g1, g2⟩) (by rw [DR]; exact .inr ⟨b, off, cap, rfl, ⟨hl, fun k e => (by cases e; exact ⟨rfl, hl, hcm⟩)⟩, .inr g3⟩)
        · cases h
      · rename_i fs hs
        simp only [Option.bind_eq_some_iff] at h
        obtain ⟨l0, hl, h⟩ := h
        split at h
        · rename_i hc
          simp only [Option.some.injEq] at h
          subst h
          obtain ⟨xs, m, _, _, hlen, hxl, hg⟩ := DataW.trod_struct hs hx
          have hlen' : cs.length = l0.length := by rw [hlen, hc]
          obtain ⟨ds, hz, hcs⟩ := sh_fields (sh_open n) (m := m) (cs := cs) fs.toList 0 l0 hl (by omega) (fun f hf => by
            obtain ⟨i, hi, e⟩ := List.getElem_of_mem hf
            have hi' : i < fs.size := by simpa using hi
            have h1 := hg i f (by rw [Array.getElem?_eq_getElem hi']; simpa using e)
            exact ⟨xs[i]'(by omega), by rw [h1, List.getElem?_eq_getElem]⟩)
          rw [List.drop_zero, List.take_of_length_le (by omega)] at hcs
          exact ⟨ds, hz, hcs⟩
        · cases h
      · rename_i m e hs
        simp only [Option.bind_eq_some_iff] at h
        obtain ⟨l0, hl, h⟩ := h
        split at h
        · rename_i hc
          obtain ⟨hc1, hc2⟩ := hc
          simp only [Option.some.injEq] at h
          subst h
          have key : ∃ m', cs.length = P.cellsOf t ∧ ∀ i, i < m → ∃ y, DataW.trod enc P W 0 (fun _ => true) true m' e ((cs.drop (i * P.cellsOf e)).take (P.cellsOf e)) = some y := by
            cases fuel with
            | zero => simp [DataW.trod] at hx
            | succ m' =>
              unfold DataW.trod at hx
              rw [hs] at hx
              simp only at hx
              split at hx
              · rename_i hcl
                simp only [Option.map_eq_some_iff] at hx
                obtain ⟨xs, hxs, _⟩ := hx
                refine ⟨m', hcl, fun i hi => ?_⟩
                have h1 := mapM_some_get hxs i i (by simp [hi])
                have h2 := mapM_some_length hxs
                simp at h2
                exact ⟨xs[i]'(by omega), by rw [h1, List.getElem?_eq_getElem]⟩
              · cases hx
          obtain ⟨m', hcl, hel⟩ := key
          rw [hc1] at hel
          rw [hc2] at hcl
          have main : ∀ j, j ≤ m → ∃ ds, ShsOk (List.replicate j l0).flatten ds ∧ DRv W W [] ds (cs.take (j * l0.length)) := by
            intro j
            induction j with
            | zero => intro _; exact ⟨[], rfl, by simp [DRv]⟩
            | succ j ihj =>
              intro hj
              obtain ⟨ds, hz, hcs⟩ := ihj (by omega)
              obtain ⟨y, hy⟩ := hel j (by omega)
              obtain ⟨ds2, hz2, hcs2⟩ := sh_open n _ _ hl _ _ _ hy
              rw [List.replicate_succ', List.flatten_append]
              simp only [List.flatten_cons, List.flatten_nil, List.append_nil]
              refine ⟨ds ++ ds2, hz.app hz2, ?_⟩
              have := hcs.app hcs2
              rwa [← List.take_add, show j * l0.length + l0.length = (j + 1) * l0.length by rw [Nat.add_mul]; omega] at this
          obtain ⟨ds, hz, hcs⟩ := main m (Nat.le_refl _)
          rw [List.take_of_length_le (by omega)] at hcs
          exact ⟨ds, hz, hcs⟩
        · cases h
      · cases h
end

inductive DA where
  | fl (v : Value)
  | sl (xs : List Value) (len cap : Nat)
  | dl (ds : List DV) (len cap : Nat)
def DA.at (W : World) (u : Value) : DA → Prop
  | .fl v => u = v ∧ ∀ σ, renV σ v = some v
  | .sl xs len cap => (cap = 0 → xs = []) ∧ DR W W [] (.sl len (some cap) (xs.map DV.fl)) u
  | .dl ds len cap => (cap = 0 → ds = []) ∧ DR W W [] (.sl len (some cap) ds) u
def DAs (W : World) : List DA → List Value → Prop
  | [], [] => True
  | a :: l, u :: us => a.at W u ∧ DAs W l us
  | _, _ => False
theorem DRs.flt {W : World} {b : Nat} : ∀ {xs : List Value} {s : Nat}, DRs W W [] b s (xs.map DV.fl) → b < W.heap.size ∧ (∀ j v, xs[j]? = some v → W.cell? ⟨b, s + j, none⟩ = some v) ∧ ∀ σ, renL σ xs = some xs
  | [], s, h => by
      simp only [List.map_nil, DRs] at h
      exact ⟨h.resolve_right (fun e => nomatch e), (fun j v e => by simp at e), fun σ => rfl⟩
  | x :: xs, s, h => by
      simp only [List.map_cons, DRs, DR] at h
      obtain ⟨⟨v, h1, rfl, h2⟩, h3⟩ := h
      obtain ⟨g1, g2, g3⟩ := DRs.flt h3
      refine ⟨g1, fun j y e => ?_, fun σ => by simp only [renL, h2 σ, g3 σ]⟩
      cases j with
      | zero =>
        simp only [List.getElem?_cons_zero, Option.some.injEq] at e
        subst e
        rcases h1 with h1 | h1
        · exact h1.2
        · exact absurd h1.1 (by simp)
      | succ j =>
        have := g2 j y (by simpa using e)
        rwa [show s + 1 + j = s + (j + 1) by omega] at this
theorem DAs.len {W : World} : ∀ {asL : List DA} {us : List Value}, DAs W asL us → asL.length = us.length
  | [], [], _ => rfl
  | a :: asL, u :: us, h => by simp only [DAs] at h; simp [h.2.len]
  | [], _ :: _, h => by simp [DAs] at h
  | _ :: _, [], h => by simp [DAs] at h
theorem open_dp {H : Type} {enc : TypeId × Value → H} {P : Program} {W : World} {t e : TypeId} {sub : List Sh} {v : Value} {d : DataW H} {ps : List MemPlace} {b0 : Nat} (ht : shK P 9 t = some [.sl sub]) (hu : P.underlying t = some (.slice e))
    (hv : Value.okWide P W .any b0 t v) (h : DataW.Trod enc P W 0 (fun _ => true) true t v d ps) :
    ∃ (rows : List (List DV)) (cap : Nat), DA.at W v (.dl rows.flatten rows.length cap) ∧ rows.length ≤ cap ∧ cap ≤ 9223372036854775807 ∧ ∀ r, r ∈ rows → ShsOk sub r := by
  obtain ⟨A, n, c, rfl⟩ := okWide_slice hu hv
  obtain ⟨fuel, hf⟩ := h
  obtain ⟨ds, h1, h2⟩ := sh_open 9 t _ ht _ _ _ hf
  simp only [ShsOk] at h1
  obtain ⟨d1, _, rfl, h3, rfl⟩ := h1
  simp only [ShOk] at h3
  obtain ⟨len, cap, rows, rfl, h4, h5, h7, h8⟩ := h3
  have hcs : (Value.slice A n c).cells.toList = [.slice A n c] := by simp [Value.cells]
  rw [hcs] at h2
  simp only [DRv] at h2
  obtain ⟨u, us', e1, h9, rfl⟩ := h2
  simp only [List.cons.injEq, and_true] at e1
  subst e1
  subst h7
  exact ⟨rows, cap, ⟨fun e0 => by
    have : rows = [] := List.length_eq_zero_iff.1 (by omega)
    rw [this]; rfl, h9⟩, h4, h5, h8⟩
end Go.Proofs.Ytmoflcoijmmpjaa
/-
  What the opened cells of a struct are, for a load of it.
-/
namespace Go.Proofs.Ytmoflcoijmmpjaa
set_option linter.unusedSimpArgs false
set_option linter.unusedVariables false
set_option linter.unusedSectionVars false
open Go Go.RowKit

end Go.Proofs.Ytmoflcoijmmpjaa
