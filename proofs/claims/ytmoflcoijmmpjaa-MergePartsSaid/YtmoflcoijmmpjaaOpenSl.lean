/-
  Opening of an argument that is a slice of structs of integers: as the told machine takes it.
-/
import Derived.Test.YtmoflcoijmmpjaaOpenHB
import Derived.Test.YtmoflcoijmmpjaaVmZd
import Derived.Test.YtmoflcoijmmpjaaKitS
namespace Go.Proofs.Ytmoflcoijmmpjaa
set_option linter.unusedSimpArgs false
set_option linter.unusedVariables false
set_option linter.unusedSectionVars false
open Go.ChangeShapes Go.WideShapes Go.ChangeAt Go.RowKit

def LiesAll (W : World) : List Av → List (Option (Addr × Nat)) → Prop
  | a :: l, q :: qs => Lies W a q ∧ LiesAll W l qs
  | _, _ => True
theorem LiesAll.at : ∀ {W : World} {xs : List Av} {qs : List (Option (Addr × Nat))}, LiesAll W xs qs → xs.length = qs.length → ∀ (j : Nat) (ad : Addr) (c : Nat), qs[j]? = some (some (ad, c)) → ∀ a, xs[j]? = some a → avCs a = [] ∨ (ad.block < W.heap.size ∧ ∀ i x, (avCs a)[i]? = some x → W.cell? ⟨ad.block, ad.off + i, none⟩ = some x)
  | W, [], [], _, _, j, ad, c, h => by simp at h
  | W, a :: l, q :: qs, hh, hl, j, ad, c, h => by
      cases j with
      | zero =>
        simp only [List.getElem?_cons_zero, Option.some.injEq] at h
        intro b hb
        simp only [List.getElem?_cons_zero, Option.some.injEq] at hb
        subst hb
        exact hh.1 ad c h
      | succ j => exact LiesAll.at hh.2 (by simpa using hl) j ad c (by simpa using h)
  | W, [], _ :: _, _, hl, _, _, _, _ => by simp at hl
  | W, _ :: _, [], _, hl, _, _, _, _ => by simp at hl
theorem AllWf.fl : ∀ {ks : List IntKind} {zs : List Int}, AllWf ks zs → Fl (cellsK ks zs)
  | [], [], _ => fun σ => rfl
  | k :: ks, z :: zs, h => fun σ => by simp only [cellsK]; exact renL_mk (by simp only [renV]) (AllWf.fl h.2 σ)
  | [], _ :: _, h => h.elim
  | _ :: _, [], h => h.elim
theorem flat_fl {ks : List IntKind} : ∀ {zss : List (List Int)}, (∀ zs ∈ zss, AllWf ks zs) → Fl (zss.map (cellsK ks)).flatten
  | [], _ => fun σ => rfl
  | zs :: zss, h => by
      simp only [List.map_cons, List.flatten_cons]
      exact (AllWf.fl (h zs (List.mem_cons_self ..))).app (flat_fl fun z hz => h z (List.mem_cons_of_mem _ hz))
theorem flat_len {ks : List IntKind} : ∀ {zss : List (List Int)}, (∀ zs ∈ zss, AllWf ks zs) → ((zss.map (cellsK ks)).flatten).length = zss.length * ks.length
  | [], _ => by simp
  | zs :: zss, h => by
      simp only [List.map_cons, List.flatten_cons, List.length_append, flat_len fun z hz => h z (List.mem_cons_of_mem _ hz), cellsK_len (h zs (List.mem_cons_self ..)), List.length_cons]
      rw [Nat.add_mul]; omega
theorem flat_get {ks : List IntKind} {i j : Nat} {x : Value} : ∀ {zss : List (List Int)}, (∀ zs ∈ zss, AllWf ks zs) → j < ks.length → ((zss.map (cellsK ks)).flatten)[i * ks.length + j]? = some x → ∃ zs, zss[i]? = some zs ∧ (cellsK ks zs)[j]? = some x := by
  induction i with
  | zero =>
    intro zss h hj hx
    cases zss with
    | nil => simp at hx
    | cons zs zss =>
      have hl := cellsK_len (h zs (List.mem_cons_self ..))
      simp only [List.map_cons, List.flatten_cons, Nat.zero_mul, Nat.zero_add] at hx
      rw [List.getElem?_append_left (by omega)] at hx
      exact ⟨zs, rfl, hx⟩
  | succ i ih =>
    intro zss h hj hx
    cases zss with
    | nil => simp at hx
    | cons zs zss =>
      have hl := cellsK_len (h zs (List.mem_cons_self ..))
      simp only [List.map_cons, List.flatten_cons] at hx
      rw [List.getElem?_append_right (by rw [hl, Nat.add_mul]; omega), hl, show (i + 1) * ks.length + j - ks.length = i * ks.length + j by rw [Nat.add_mul]; omega] at hx
      obtain ⟨z, h1, h2⟩ := ih (fun z hz => h z (List.mem_cons_of_mem _ hz)) hj hx
      exact ⟨z, by simpa using h1, h2⟩
/-- Each element of a list has what is wanted. -/
theorem choose_list {α : Type} {R : Nat → α → Prop} : ∀ (n : Nat), (∀ i, i < n → ∃ a, R i a) → ∃ l : List α, l.length = n ∧ ∀ i a, l[i]? = some a → R i a
  | 0, _ => ⟨[], rfl, fun i a h => by simp at h⟩
  | n + 1, h => by
      obtain ⟨l, hl, hr⟩ := choose_list n fun i hi => h i (by omega)
      obtain ⟨a, ha⟩ := h n (by omega)
      refine ⟨l ++ [a], by simp [hl], fun i b hb => ?_⟩
      by_cases hi : i < l.length
      · rw [List.getElem?_append_left hi] at hb; exact hr i b hb
      · rw [List.getElem?_append_right (by omega)] at hb
        obtain ⟨h1, h2⟩ := List.getElem?_eq_some_iff.1 hb
        simp only [List.length_cons, List.length_nil] at h1
        have : i = n := by omega
        subst this
        rw [hl, Nat.sub_self] at hb
        simp only [List.getElem?_cons_zero, Option.some.injEq] at hb
        subst hb; exact ha
section
variable {H : Type} {enc : TypeId × Value → H} {P : Program} {W : World}
theorem open_sl {t e : TypeId} {ks : List IntKind} {v : Value} {d : DataW H} {ps : List MemPlace} {b0 : Nat} (ht : P.underlying t = some (.slice e)) (hk : flatK P 8 e = some ks) (hc : P.cellsOf e = ks.length) (hpos : 0 < ks.length)
    (hv : Value.okWide P W .any b0 t v) (h : DataW.Trod enc P W 0 (fun _ => true) true t v d ps) :
    ∃ (a : Av) (q : Option (Addr × Nat)) (zss : List (List Int)), ((a = .fl (.slice none 0 0) ∧ zss = []) ∨ a = .sl (zss.map (cellsK ks)).flatten zss.length) ∧ AvAt a v q ∧ Lies W a q ∧ ∀ zs ∈ zss, AllWf ks zs := by
  obtain ⟨A, n, c, rfl⟩ := okWide_slice ht hv
  obtain ⟨fuel, hf⟩ := h
  rcases DataW.trod_slice ht hf with ⟨h1, _⟩ | ⟨a, len, cap, elems, rest, m, _, h1, _, _, hl, hm, hlen, hel, _, _⟩
  · simp [Value.cells] at h1
    obtain ⟨rfl, rfl, rfl⟩ := h1
    exact ⟨.fl (.slice none 0 0), none, [], .inl ⟨rfl, rfl⟩, ⟨rfl, (fun σ => rfl), rfl⟩, (fun ad c e => by cases e), fun z hz => by cases hz⟩
  · simp [Value.cells] at h1
    obtain ⟨rfl, rfl, rfl⟩ := h1
    have hhas : W.has P .any b0 a e c := by
      simp only [Value.okWide, ht, Cell.okWide, Cell.ok] at hv
      exact hv.2.2
    obtain ⟨_, hspot, row, cells, hsh, _⟩ := hhas
    have hblk : a.block < W.heap.size := by
      unfold World.shape? at hsh
      cases hh : W.heap[a.block]? with
      | none => rw [hh] at hsh; cases hsh
      | some o => exact (Array.getElem?_eq_some_iff.1 hh).1
    obtain ⟨b, off, sp⟩ := a
    simp only at hspot hblk
    subst hspot
    rw [hc] at hel
    obtain ⟨zss, hzl, hz⟩ := choose_list (R := fun i (zs : List Int) => AllWf ks zs ∧ ∀ j, j < ks.length → W.cell? ⟨b, off + (i * ks.length + j), none⟩ = (cellsK ks zs)[j]?) n fun i hi => by
      have he := hel i hi
      rw [List.getElem?_eq_getElem (by omega), Option.bind_eq_some_iff] at he
      obtain ⟨cs, h2, h3⟩ := he
      obtain ⟨zs, hw, rfl⟩ := flat_ints _ _ _ hk _ _ _ h3
      obtain ⟨_, h4, h5⟩ := World.cells?_some h2
      refine ⟨zs, hw, fun j hj => ?_⟩
      rw [← h5 j hj]
      rw [add_plain, add_plain, Nat.add_assoc]
    have hwf : ∀ zs ∈ zss, AllWf ks zs := fun zs hm => by
      obtain ⟨i, hi, e⟩ := List.getElem_of_mem hm
      exact (hz i zs (by rw [List.getElem?_eq_getElem hi, e])).1
    refine ⟨.sl (zss.map (cellsK ks)).flatten zss.length, some (⟨b, off, none⟩, c), zss, .inr rfl, ⟨_, c, by rw [hzl], .inl ⟨b, off, rfl, rfl, by unfold maxLen at hm; unfold capBig; omega⟩, flat_fl hwf, by omega, by unfold maxLen at hm; omega⟩, fun ad c' e => ?_, hwf⟩
    cases e
    refine .inr ⟨hblk, fun i x hx => ?_⟩
    simp only [avCs] at hx
    have e : i = i / ks.length * ks.length + i % ks.length := by rw [Nat.mul_comm]; exact (Nat.div_add_mod i _).symm
    have hj : i % ks.length < ks.length := Nat.mod_lt _ hpos
    rw [e] at hx ⊢
    obtain ⟨zs, g1, g2⟩ := flat_get hwf hj hx
    rw [← g2]
    exact (hz _ _ g1).2 _ hj
end
theorem calls_sl {P : Program} {f : FuncId} {avs : List Av} {W : World} {vs : List Value} {ps : List (Option (Addr × Nat))} (hA : AvsAt avs vs ps) (hW : LiesAll W avs ps) {v : Value} (hv : ∀ σ, renV σ v = some v) (T : ∀ cs, CapsOk avs cs → ∃ h' nx' d, Tri P f (canV avs cs 0) (canH avs 0) avs.length (v, h', nx', d)) :
    Calls P f vs.toArray W fun e w' => e = .returned v ∧ Ext W w' :=
  calls_av avs T hv hA (hW.at (avs_len hA).2.symm)
/-! ### what the cells of a list are -/
theorem cellsK_rep {k : IntKind} : ∀ {m : Nat} {zs : List Int}, AllWf (List.replicate m k) zs → cellsK (List.replicate m k) zs = zs.map (Value.int k) ∧ ∀ z ∈ zs, (Lit.int k z).wf = true
  | 0, [], _ => ⟨rfl, fun z hz => by cases hz⟩
  | m + 1, z :: zs, h => by
      obtain ⟨h1, h2⟩ := cellsK_rep (m := m) (zs := zs) h.2
      refine ⟨by simp only [List.replicate_succ, cellsK, h1, List.map_cons], fun x hx => ?_⟩
      rcases List.mem_cons.1 hx with rfl | hx
      · exact h.1
      · exact h2 x hx
  | 0, _ :: _, h => h.elim
  | m + 1, [], h => h.elim
theorem flat_rep {k : IntKind} {m : Nat} : ∀ {zss : List (List Int)}, (∀ zs ∈ zss, AllWf (List.replicate m k) zs) → ∃ l : List Int, (zss.map (cellsK (List.replicate m k))).flatten = l.map (Value.int k) ∧ ∀ z ∈ l, (Lit.int k z).wf = true
  | [], _ => ⟨[], rfl, fun z hz => by cases hz⟩
  | zs :: zss, h => by
      obtain ⟨h1, h2⟩ := cellsK_rep (h zs (List.mem_cons_self ..))
      obtain ⟨l, h3, h4⟩ := flat_rep (zss := zss) fun z hz => h z (List.mem_cons_of_mem _ hz)
      refine ⟨zs ++ l, by simp only [List.map_cons, List.flatten_cons, h1, h3, List.map_append], fun z hz => ?_⟩
      rcases List.mem_append.1 hz with hz | hz
      · exact h2 z hz
      · exact h4 z hz
theorem flat_Ints {k : IntKind} {m : Nat} {zss : List (List Int)} (h : ∀ zs ∈ zss, AllWf (List.replicate m k) zs) : Ints k (zss.map (cellsK (List.replicate m k))).flatten := by
  obtain ⟨l, e, _⟩ := flat_rep h
  rw [e]; exact Ints.of
theorem flat_Byts {zss : List (List Int)} (h : ∀ zs ∈ zss, AllWf [.u8] zs) : Byts (zss.map (cellsK [.u8])).flatten := by
  obtain ⟨l, e, hw⟩ := flat_rep (m := 1) (k := .u8) h
  rw [show [IntKind.u8] = List.replicate 1 .u8 from rfl, e]
  refine Byts.of fun n hn => ?_
  have := hw n hn
  simp [Lit.wf, IntKind.min, IntKind.max, IntKind.signed, IntKind.bits] at this
  omega
end Go.Proofs.Ytmoflcoijmmpjaa
