/-
  Opening of an argument that is a struct of integers and, behind them, a list of integers: what the list holds, too.
-/
import Derived.Test.YtcmcelilollchaaOpenSl
namespace Go.Proofs.Ytcmcelilollchaa
set_option linter.unusedSimpArgs false
set_option linter.unusedVariables false
set_option linter.unusedSectionVars false
open Go.ChangeShapes Go.WideShapes Go.ChangeAt Go.RowKit
section
variable {H : Type} {enc : TypeId × Value → H} {P : Program} {W : World}
/-- A cell that is a list of integers. -/
theorem open_cell {t e : TypeId} {k : IntKind} {v : Value} {x : DataW H × List MemPlace} {fuel b0 : Nat} (ht : P.underlying t = some (.slice e)) (hk : flatK P 8 e = some [k]) (hc : P.cellsOf e = 1)
    (hv : Cell.okWide P W .any b0 t v) (hf : DataW.trod enc P W 0 (fun _ => true) true fuel t [v] = some x) :
    ∃ (q : Option (Addr × Nat)) (zs : List Int) (n : Nat), (∀ z ∈ zs, (Lit.int k z).wf = true) ∧ ((v = .slice none 0 0 ∧ q = none ∧ zs = [] ∧ n = 0) ∨ (zs.length = n ∧ ∃ b o c, v = .slice (some ⟨b, o, none⟩) n c ∧ q = some (⟨b, o, none⟩, c) ∧ n ≤ c ∧ c ≤ 9223372036854775807 ∧ b < W.heap.size ∧ ∀ i y, (zs.map (Value.int k))[i]? = some y → W.cell? ⟨b, o + i, none⟩ = some y)) := by
  rcases DataW.trod_slice ht hf with ⟨h1, _⟩ | ⟨a, len, cap, elems, rest, m, _, h1, _, _, hl, hm, hlen, hel, _, _⟩
  · simp at h1
    subst h1
    exact ⟨none, [], 0, (fun z hz => by cases hz), .inl ⟨rfl, rfl, rfl, rfl⟩⟩
  · simp at h1
    subst h1
    have hhas : W.has P .any b0 a e cap := by
      simp only [ht, Cell.okWide, Cell.ok] at hv
      exact hv.2.2
    obtain ⟨_, hspot, row, cells, hsh, _⟩ := hhas
    have hblk : a.block < W.heap.size := by
      unfold World.shape? at hsh
      cases hh : W.heap[a.block]? with
      | none => rw [hh] at hsh; cases hsh
      | some o => exact (Array.getElem?_eq_some_iff.1 hh).1
    obtain ⟨b, off, sp⟩ := a
    simp only at hspot hblk
    subst hspot
    rw [hc] at hel
    obtain ⟨zs, hzl, hz⟩ := choose_list (R := fun i (z : Int) => (Lit.int k z).wf = true ∧ W.cell? ⟨b, off + i, none⟩ = some (.int k z)) len fun i hi => by
      have he := hel i hi
      rw [List.getElem?_eq_getElem (by omega), Option.bind_eq_some_iff] at he
      obtain ⟨cs, h2, h3⟩ := he
      obtain ⟨ys, hw, rfl⟩ := flat_ints _ _ _ hk _ _ _ h3
      obtain ⟨y, rfl, hy⟩ : ∃ y, ys = [y] ∧ (Lit.int k y).wf = true := by
        match ys, hw with
        | [y], hw => exact ⟨y, rfl, hw.1⟩
        | y :: y2 :: ys, hw => exact hw.2.elim
      obtain ⟨_, h4, h5⟩ := World.cells?_some h2
      refine ⟨y, hy, ?_⟩
      have h6 := h5 0 (by omega)
      simp only [add_plain, Nat.mul_one, Nat.add_zero, cellsK, List.getElem?_cons_zero] at h6
      exact h6
    refine ⟨some (⟨b, off, none⟩, cap), zs, len, fun z hm => ?_, .inr ⟨hzl, b, off, cap, rfl, rfl, by omega, by unfold maxLen at hm; omega, hblk, fun i y hy => ?_⟩⟩
    · obtain ⟨i, hi, e⟩ := List.getElem_of_mem hm
      exact (hz i z (by rw [List.getElem?_eq_getElem hi, e])).1
    · rw [List.getElem?_map, Option.map_eq_some_iff] at hy
      obtain ⟨z, h1, rfl⟩ := hy
      exact (hz i z h1).2
/-- A struct: integers, and one list of integers behind them. -/
theorem open_ag {t e : TypeId} {fh fb : Field} {ks : List IntKind} {k : IntKind} {v : Value} {d : DataW H} {ps : List MemPlace} {b0 : Nat} {ts : List TypeId} (hs : P.underlying t = some (.struct #[fh, fb])) (ho : fh.offset = 0) (hk : flatK P 8 fh.type = some ks) (hc : P.cellsOf fh.type = ks.length)
    (hb : P.underlying fb.type = some (.slice e)) (hbo : fb.offset = ks.length) (hb1 : P.cellsOf fb.type = 1) (hct : P.cellsOf t = ks.length + 1) (he : flatK P 8 e = some [k]) (he1 : P.cellsOf e = 1)
    (hts : P.cellTypes P.depth t = some ts) (htl : ts.length = ks.length + 1) (htu : ts[ks.length]? = some fb.type)
    (hv : Value.okWide P W .any b0 t v) (h : DataW.Trod enc P W 0 (fun _ => true) true t v d ps) :
    ∃ (zs ys : List Int) (a : Av) (q : Option (Addr × Nat)), AllWf ks zs ∧ (∀ y ∈ ys, (Lit.int k y).wf = true) ∧ ((a = .fl (.agg (cellsK ks zs ++ [Value.slice none 0 0]).toArray) ∧ ys = []) ∨ a = .ag (cellsK ks zs) (ys.map (Value.int k)) ys.length) ∧ AvAt a v q ∧ Lies W a q := by
  have hv0 := hv
  obtain ⟨cs, rfl, _⟩ := okWide_struct hs hv
  obtain ⟨fuel, hf⟩ := h
  obtain ⟨xs, m, _, _, hlen, hxl, hg⟩ := DataW.trod_struct hs hf
  simp only [Value.cells] at hlen hg
  have h0 := hg 0 fh rfl
  have h1 := hg 1 fb rfl
  have hx2 : xs.length = 2 := hxl
  obtain ⟨x0, e0⟩ : ∃ x0, xs[0]? = some x0 := ⟨xs[0]'(by omega), List.getElem?_eq_getElem _⟩
  obtain ⟨x1, e1⟩ : ∃ x1, xs[1]? = some x1 := ⟨xs[1]'(by omega), List.getElem?_eq_getElem _⟩
  rw [e0, ho, hc, List.drop_zero] at h0
  rw [e1, hbo, hb1] at h1
  obtain ⟨zs, hz, hcs⟩ := flat_ints _ _ _ hk _ _ _ h0
  have hcl : cs.toList.length = ks.length + 1 := by rw [← hct, ← hlen]
  obtain ⟨u, hu⟩ : ∃ u, cs.toList.drop ks.length = [u] := by
    have : (cs.toList.drop ks.length).length = 1 := by rw [List.length_drop]; omega
    match h9 : cs.toList.drop ks.length, this with
    | [u], _ => exact ⟨u, rfl⟩
  rw [hu] at h1
  have hu2 : cs[ks.length]? = some u := by
    have e3 : (cs.toList.drop ks.length)[0]? = some u := by rw [hu]; rfl
    rw [List.getElem?_drop, Nat.add_zero] at e3
    simpa using e3
  have hcell : Cell.okWide P W .any b0 fb.type u := by
    simp only [Value.okWide, hs] at hv0
    obtain ⟨cs', e4, _, ts', e5, _, e6⟩ := hv0
    cases e4
    rw [hts] at e5
    cases e5
    obtain ⟨w, e7, e8⟩ := e6 ks.length u hu2
    rw [htl, Nat.mod_eq_of_lt (by omega), htu] at e7
    cases e7
    exact e8
  obtain ⟨q, ys, n, hw, hq⟩ := open_cell hb he he1 hcell (by simpa using h1)
  have e3 : cs = (cellsK ks zs ++ [u]).toArray := by
    have : cs.toList = cellsK ks zs ++ [u] := by
      rw [← hcs, ← hu]
      exact (List.take_append_drop _ _).symm
    rw [← this]
  have hzf := AllWf.fl hz
  clear hu hu2 hcell h1 h0 hg hcs hcl hlen hf hv hv0
  subst e3
  rcases hq with ⟨rfl, rfl, rfl, rfl⟩ | ⟨hyl, b, o, c, rfl, rfl, g1, g2, g3, g4⟩
  · refine ⟨zs, [], _, none, hz, hw, .inl ⟨rfl, rfl⟩, ⟨rfl, fun σ => ?_, rfl⟩, fun ad c e => by cases e⟩
    exact renV_agg_mk (renL_app (hzf σ) rfl)
  · subst hyl
    exact ⟨zs, ys, .ag (cellsK ks zs) (ys.map (Value.int k)) ys.length, some (⟨b, o, none⟩, c), hz, hw, .inr rfl, ⟨b, o, c, rfl, rfl, Fl.ints k ys, hzf, g1, g2⟩, fun ad c' e => (by cases e; exact ⟨g3, g4⟩)⟩
end
end Go.Proofs.Ytcmcelilollchaa
