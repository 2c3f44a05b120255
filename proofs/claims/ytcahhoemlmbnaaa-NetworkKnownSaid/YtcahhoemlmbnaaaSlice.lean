/-
  Slices that come in, read as lists: nil, empty and other slices alike; kept in every later world. Opening of an argument that is a slice of integers.
-/
import Derived.Test.YtcahhoemlmbnaaaExt
import Derived.OpenShut
namespace Go.Proofs.Ytcahhoemlmbnaaa
set_option linter.unusedSimpArgs false
set_option linter.unusedVariables false
set_option linter.unusedSectionVars false
open Go.ChangeShapes Go.WideShapes Go.ChangeAt Go.RowKit

/-- The slice value '.slice A n c' has n elements of 'size' cells each; its cells are xs. -/
def Sl (w : World) (A : Option Addr) (n size : Nat) (xs : List Value) : Prop :=
  xs.length = n * size ∧ (0 < n → ∃ b off, A = some ⟨b, off, none⟩ ∧ b < w.heap.size ∧ ∀ j u, xs[j]? = some u → w.cell? ⟨b, off + j, none⟩ = some u)

section
variable {w w' : World} {A : Option Addr} {n size : Nat} {xs : List Value}
theorem Sl.ext (h : Sl w A n size xs) (hx : Ext w w') : Sl w' A n size xs :=
  ⟨h.1, fun hn => by
    obtain ⟨b, off, e, hb, hc⟩ := h.2 hn
    exact ⟨b, off, e, hx.lt hb, fun j u hu => (hx.cell b _ hb).trans (hc j u hu)⟩⟩
theorem Sl.nil (w : World) (size : Nat) : Sl w none 0 size [] := ⟨by simp, fun h => absurd h (by omega)⟩
/-- Element k of a slice of one-cell elements. -/
theorem Sl.at1 {k : Nat} (h : Sl w A n 1 xs) (hk : k < n) : ∃ b off, A = some ⟨b, off, none⟩ ∧ b < w.heap.size ∧ w.cell? ⟨b, off + k, none⟩ = some (xs.getD k undef) := by
  obtain ⟨b, off, e, hb, hc⟩ := h.2 (by omega)
  have hl : k < xs.length := by have := h.1; omega
  exact ⟨b, off, e, hb, by rw [hc k _ (List.getElem?_eq_getElem hl)]; simp [hl]⟩
end

/-- A slice over a block that was just made. -/
theorem Sl.new (w : World) (cs : Array Value) (t : TypeId) (n size : Nat) (h : cs.size = n * size) : Sl (w.alloc (.cells cs t)) (some ⟨w.heap.size, 0, none⟩) n size cs.toList := by
  refine ⟨by simpa using h, fun _ => ⟨w.heap.size, 0, rfl, by simp, fun j u hu => ?_⟩⟩
  rw [World.cell?_alloc_at _ _ _ _ (by simp)]
  simpa using hu
/-- Cell j of element k. -/
theorem Sl.atN {w : World} {A : Option Addr} {n size : Nat} {xs : List Value} {k : Nat} (h : Sl w A n size xs) (hk : k < n) : ∃ b off, A = some ⟨b, off, none⟩ ∧ b < w.heap.size ∧
    ∀ j, j < size → w.cell? ⟨b, off + k * size + j, none⟩ = some (xs.getD (k * size + j) undef) := by
  obtain ⟨b, off, e, hb, hc⟩ := h.2 (by omega)
  refine ⟨b, off, e, hb, fun j hj => ?_⟩
  have hl : k * size + j < xs.length := by
    rw [h.1]
    calc k * size + j < k * size + size := by omega
      _ = (k + 1) * size := by rw [Nat.add_mul, Nat.one_mul]
      _ ≤ n * size := Nat.mul_le_mul_right _ (by omega)
  rw [Nat.add_assoc, hc _ _ (List.getElem?_eq_getElem hl)]
  simp [hl]

/-- The integers of a list as cells. -/
def cellsOf (k : IntKind) (zs : List Int) : List Value := zs.map (Value.int k)

theorem cellsOf_getD {k : IntKind} {zs : List Int} {i : Nat} (h : i < zs.length) : (cellsOf k zs).getD i undef = .int k (zs.getD i 0) := by
  simp [cellsOf, h]

section
variable {H : Type} {enc : TypeId × Value → H} {P : Program} {w : World}
theorem sl_ints {t e : TypeId} {k : IntKind} {A : Option Addr} {n c : Nat} {d : DataW H} {ps : List MemPlace} (ht : P.underlying t = some (.slice e)) (he : P.underlying e = some (.int k)) (hc : P.cellsOf e = 1)
    (h : DataW.Trod enc P w 0 (fun _ => true) true t (.slice A n c) d ps) :
    n ≤ c ∧ c ≤ maxLen ∧ ∃ zs : List Int, zs.length = n ∧ (∀ z ∈ zs, (Lit.int k z).wf = true) ∧ Sl w A n 1 (cellsOf k zs) := by
  have hlt : ∀ x ∈ ps, x.block < w.heap.size := by obtain ⟨m, hm⟩ := h; exact DataW.trod_lt m _ _ _ hm
  obtain ⟨fuel, hf⟩ := h
  rcases open_ints ht he hc hf with ⟨hcs, hx⟩ | ⟨a, len, cap, zs, hcs, _, hl, hm, hz, hx, hcell, hwz⟩
  · simp [Value.cells] at hcs
    obtain ⟨rfl, rfl, rfl⟩ := hcs
    exact ⟨Nat.le_refl _, by simp, [], rfl, by simp, Sl.nil w 1⟩
  · simp [Value.cells] at hcs
    obtain ⟨rfl, rfl, rfl⟩ := hcs
    simp only [if_true] at hz
    refine ⟨hl, hm, zs.take n, by rw [List.length_take]; omega, fun z hz' => hwz z (List.mem_of_mem_take hz'), ?_, fun hn => ?_⟩
    · simp [cellsOf, List.length_take]; omega
    · obtain ⟨b, off, rfl, hc'⟩ := ints_at hcell (by omega)
      refine ⟨b, off, rfl, ?_, fun j u hu => ?_⟩
      · simp only [Prod.mk.injEq] at hx
        have hc0 := hc' 0 (by omega)
        exact World.block_lt_of_cell? w _ hc0
      · have hj : j < n := by
          have := (List.getElem?_eq_some_iff.1 hu).1
          simp [cellsOf, List.length_take] at this
          omega
        rw [hc' j (by omega)]
        simp [cellsOf, List.getElem?_map, List.getElem?_take, hj] at hu
        obtain ⟨z, hz1, hz2⟩ := hu
        rw [← hz2]
        simp [hz1]
end
end Go.Proofs.Ytcahhoemlmbnaaa
