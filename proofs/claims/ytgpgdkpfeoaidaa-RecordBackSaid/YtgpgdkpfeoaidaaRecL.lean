/-
  Chapter 02: arguments that are lists of records.
-/
import Derived.Test.YtgpgdkpfeoaidaaRecD
import Derived.Test.YtgpgdkpfeoaidaaRecW
import Derived.Test.YtgpgdkpfeoaidaaRecI
import Derived.Test.YtgpgdkpfeoaidaaKitT
import Derived.Test.YtgpgdkpfeoaidaaOpenSl
namespace Go.Proofs.Ytgpgdkpfeoaidaa
set_option linter.unusedSimpArgs false
set_option linter.unusedVariables false
set_option linter.unusedSectionVars false
open Go Go.RowKit

theorem rec_cells {zs : List Int} (hz : AllWf recKs zs) : ∃ a0 a1 a2 a3 a4 a5 a6 a7 a8 a9 a10 a11 a12 a13 a14 a15 a16 a17 a18 : Int, cellsK recKs zs = [.int .u64 a0, .int .u64 a1, .int .u64 a2, .int .u64 a3, .int .u64 a4, .int .u64 a5, .int .u64 a6, .int .u64 a7, .int .u64 a8, .int .u64 a9, .int .u64 a10, .int .u64 a11, .int .u64 a12, .int .u32 a13, .int .u32 a14, .int .u32 a15, .int .u16 a16, .int .u16 a17, .int .u64 a18] ∧ recW a13 a14 a15 a16 a17 := by
  obtain ⟨a0, a1, a2, a3, a4, a5, a6, a7, a8, a9, a10, a11, a12, a13, a14, a15, a16, a17, a18, e, h⟩ := open_rec hz
  exact ⟨a0, a1, a2, a3, a4, a5, a6, a7, a8, a9, a10, a11, a12, a13, a14, a15, a16, a17, a18, congrArg Array.toList e, h⟩
theorem rec_len {zs : List Int} (hz : AllWf recKs zs) : (cellsK recKs zs).length = 19 := by
  obtain ⟨a0, a1, a2, a3, a4, a5, a6, a7, a8, a9, a10, a11, a12, a13, a14, a15, a16, a17, a18, e, h⟩ := rec_cells hz
  rw [e]; rfl
theorem flat_at {zss : List (List Int)} (h : ∀ zs ∈ zss, AllWf recKs zs) : ∀ i, i < zss.length → ∃ zs rest, AllWf recKs zs ∧ ((zss.map (cellsK recKs)).flatten).drop (i * 19) = cellsK recKs zs ++ rest := by
  induction zss with
  | nil => intro i hi; simp at hi
  | cons z zss ih =>
    intro i hi
    have hz := h z (List.mem_cons_self ..)
    cases i with
    | zero => exact ⟨z, (zss.map (cellsK recKs)).flatten, hz, by simp⟩
    | succ i =>
      obtain ⟨zs, rest, h1, h2⟩ := ih (fun y hy => h y (List.mem_cons_of_mem _ hy)) i (by simpa using hi)
      refine ⟨zs, rest, h1, ?_⟩
      have e2 : (i + 1) * 19 = 19 + i * 19 := by omega
      rw [e2, List.map_cons, List.flatten_cons, ← List.drop_drop, List.drop_left' (rec_len hz)]
      exact h2
theorem flat_recs {zss : List (List Int)} (h : ∀ zs ∈ zss, AllWf recKs zs) : RecsOk ((zss.map (cellsK recKs)).flatten) zss.length := by
  have at_ : ∀ {L : List Value} {i j : Nat} {ys rest : List Value}, L.drop (i * 19) = ys ++ rest → ys.length = 19 → j < 19 → intAt L (i * 19 + j) = intAt ys j := fun {L i j ys rest} e hy hj => by
    rw [← at_drop, e]
    unfold intAt
    rw [List.getElem?_append_left (by omega)]
  refine ⟨flat_len h, fun i hi => ?_, fun i hi => ?_, flat_fl h⟩
  · obtain ⟨zs, rest, hz, e⟩ := flat_at h i hi
    obtain ⟨a0, a1, a2, a3, a4, a5, a6, a7, a8, a9, a10, a11, a12, a13, a14, a15, a16, a17, a18, ec, hw⟩ := rec_cells hz
    rw [ec] at e
    have e0 := at_ (j := 0) e rfl (by omega)
    rw [Nat.add_zero] at e0
    rw [e]
    unfold recC
    rw [e0, at_ e rfl (by omega), at_ e rfl (by omega), at_ e rfl (by omega), at_ e rfl (by omega), at_ e rfl (by omega), at_ e rfl (by omega), at_ e rfl (by omega), at_ e rfl (by omega), at_ e rfl (by omega), at_ e rfl (by omega), at_ e rfl (by omega), at_ e rfl (by omega), at_ e rfl (by omega), at_ e rfl (by omega), at_ e rfl (by omega), at_ e rfl (by omega), at_ e rfl (by omega), at_ e rfl (by omega)]
    rfl
  · obtain ⟨zs, rest, hz, e⟩ := flat_at h i hi
    obtain ⟨a0, a1, a2, a3, a4, a5, a6, a7, a8, a9, a10, a11, a12, a13, a14, a15, a16, a17, a18, ec, hw⟩ := rec_cells hz
    rw [ec] at e
    rw [at_ e rfl (by omega), at_ e rfl (by omega), at_ e rfl (by omega), at_ e rfl (by omega), at_ e rfl (by omega)]
    exact hw
theorem all1_app : ∀ {a b : List Value}, all1 a = true → all1 b = true → all1 (a ++ b) = true
  | [], b, _, h => h
  | x :: a, b, h1, h2 => by
      simp only [all1, List.cons_append] at h1 ⊢
      cases hx : one1 x with
      | false => rw [hx] at h1; cases h1
      | true => rw [hx] at h1; exact all1_app h1 h2
theorem flat_all1 : ∀ {zss : List (List Int)}, (∀ zs ∈ zss, AllWf recKs zs) → all1 ((zss.map (cellsK recKs)).flatten) = true
  | [], _ => rfl
  | z :: zss, h => by
      rw [List.map_cons, List.flatten_cons]
      obtain ⟨a0, a1, a2, a3, a4, a5, a6, a7, a8, a9, a10, a11, a12, a13, a14, a15, a16, a17, a18, ec, hw⟩ := rec_cells (h z (List.mem_cons_self ..))
      refine all1_app ?_ (flat_all1 fun y hy => h y (List.mem_cons_of_mem _ hy))
      rw [ec]; rfl
/-- A list of records that comes in. -/
structure BaOk (a : Sa) : Prop where
  r : RecsOk a.xs a.n
  o : all1 a.xs = true
  c : a.n ≤ a.c ∧ a.c ≤ 9223372036854775807
  z : a.b = false → a.n = 0 ∧ a.c = 0 ∧ a.xs = []
theorem BaOk.nil : BaOk ⟨false, 0, 0, []⟩ := ⟨⟨rfl, fun i h => absurd h (Nat.not_lt_zero i), fun i h => absurd h (Nat.not_lt_zero i), Fl.of rfl⟩, rfl, ⟨Nat.le_refl 0, Nat.zero_le _⟩, fun _ => ⟨rfl, rfl, rfl⟩⟩
theorem BaOk.of {z : List (List Int)} (h : ∀ zs ∈ z, AllWf recKs zs) {c : Nat} (hc : z.length ≤ c ∧ c ≤ 9223372036854775807) : BaOk ⟨true, z.length, c, (z.map (cellsK recKs)).flatten⟩ := ⟨flat_recs h, flat_all1 h, hc, fun e => by cases e⟩
end Go.Proofs.Ytgpgdkpfeoaidaa
