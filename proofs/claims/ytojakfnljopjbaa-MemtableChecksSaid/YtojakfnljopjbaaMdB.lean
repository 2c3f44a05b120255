/-
  Chapter 12: lists of pairs, told by what they hold.
-/
import Derived.Test.YtojakfnljopjbaaMdA
namespace Go.Proofs.Ytojakfnljopjbaa
set_option linter.unusedSimpArgs false
set_option linter.unusedVariables false
set_option linter.unusedSectionVars false
open Go Go.RowKit

/-- A pair: key, value, gone. -/
abbrev Pr : Type := List Int × List Int × Bool
def byD (l : List Int) : List DV := l.map fun x => .fl (.int .u8 x)
def byV (l : List Int) : List Value := l.map (Value.int .u8)
def prD (c1 c2 : Option Nat) (p : Pr) : List DV := [.sl p.1.length c1 (byD p.1), .sl p.2.1.length c2 (byD p.2.1), .fl (.bool p.2.2)]
def Prs : List DV → List Pr → Prop
  | ds, [] => ds = []
  | ds, p :: ps => ∃ c1 c2 r, ds = prD c1 c2 p ++ r ∧ Prs r ps
def PrOk (p : Pr) : Prop := (∀ x ∈ p.1, 0 ≤ x ∧ x < 256) ∧ ∀ x ∈ p.2.1, 0 ≤ x ∧ x < 256
theorem Prs.len : ∀ {ps : List Pr} {ds : List DV}, Prs ds ps → ds.length = ps.length * 3
  | [], ds, h => by rw [show ds = [] from h]; rfl
  | p :: ps, ds, h => by
      obtain ⟨c1, c2, r, rfl, hr⟩ := h
      rw [List.length_append, hr.len, List.length_cons]
      simp only [prD, List.length_cons, List.length_nil]
      omega
theorem Prs.at : ∀ {ps : List Pr} {ds : List DV} {i : Nat} {p : Pr}, Prs ds ps → ps[i]? = some p → ∃ c1 c2, ds[i * 3]? = some (.sl p.1.length c1 (byD p.1)) ∧ ds[i * 3 + 1]? = some (.sl p.2.1.length c2 (byD p.2.1)) ∧ ds[i * 3 + 2]? = some (.fl (.bool p.2.2))
  | [], ds, i, p, _, h => by simp at h
  | q :: ps, ds, 0, p, h, hp => by
      simp only [List.getElem?_cons_zero, Option.some.injEq] at hp
      subst hp
      obtain ⟨c1, c2, r, rfl, hr⟩ := h
      exact ⟨c1, c2, rfl, rfl, rfl⟩
  | q :: ps, ds, i + 1, p, h, hp => by
      obtain ⟨c1, c2, r, rfl, hr⟩ := h
      obtain ⟨d1, d2, g1, g2, g3⟩ := hr.at (by simpa using hp)
      have e : (prD c1 c2 q).length = 3 := rfl
      refine ⟨d1, d2, ?_, ?_, ?_⟩
      · rw [List.getElem?_append_right (by rw [e]; omega), e, show (i + 1) * 3 - 3 = i * 3 by omega]; exact g1
      · rw [List.getElem?_append_right (by rw [e]; omega), e, show (i + 1) * 3 + 1 - 3 = i * 3 + 1 by omega]; exact g2
      · rw [List.getElem?_append_right (by rw [e]; omega), e, show (i + 1) * 3 + 2 - 3 = i * 3 + 2 by omega]; exact g3
theorem Prs.snoc : ∀ {ps : List Pr} {ds : List DV} (c1 c2 : Option Nat) (p : Pr), Prs ds ps → Prs (ds ++ prD c1 c2 p) (ps ++ [p])
  | [], ds, c1, c2, p, h => by
      rw [show ds = [] from h]
      exact ⟨c1, c2, [], by simp, rfl⟩
  | q :: ps, ds, c1, c2, p, h => by
      obtain ⟨d1, d2, r, rfl, hr⟩ := h
      exact ⟨d1, d2, r ++ prD c1 c2 p, by rw [List.append_assoc], hr.snoc c1 c2 p⟩
theorem byD_val (l : List Int) : (byD l).map DV.val = byV l := by simp [byD, byV, DV.val]
theorem byV_fl (l : List Int) : (byV l).map DV.fl = byD l := by simp [byD, byV]
theorem byV_len (l : List Int) : (byV l).length = l.length := by simp [byV]
theorem byV_ints (l : List Int) : intsOf (byV l) = l := by
  unfold byV intsOf
  rw [List.map_map]
  exact (List.map_congr_left (g := id) fun x _ => rfl).trans (List.map_id l)
theorem byV_ren (l : List Int) (τ : Sg) : renL τ (byV l) = some (byV l) := Fl.ints .u8 l τ
theorem byV_bytI {l : List Int} (h : ∀ x ∈ l, 0 ≤ x ∧ x < 256) : BytI l.length (byV l) := ⟨by rw [byV_ints]; rfl, by rw [byV_ints]; exact h, byV_len l⟩
section
variable {ds : List DV} {o : Nat} {l : List Int} {c : Option Nat}
theorem sl_len (h : ds[o]? = some (.sl l.length c (byD l))) : dLen ds o = l.length := by unfold dLen; rw [h]
theorem sl_vals (h : ds[o]? = some (.sl l.length c (byD l))) : dVals ds o = byV l := by unfold dVals dSub; rw [h]; exact byD_val l
theorem sl_ok (h : ds[o]? = some (.sl l.length c (byD l))) : DSl ds o (dLen ds o) none ((dVals ds o).map DV.fl) := ⟨c, by rw [sl_len h, sl_vals h, byV_fl]; exact h, .inl rfl⟩
theorem bo_ok {b : Bool} (h : ds[o]? = some (.fl (.bool b))) : dBool ds o = b := by unfold dBool; rw [h]
end
/-- What loads of a pair, or of a part of it, ask for. -/
theorem ob29 (ds : List DV) (o nx : Nat) : ShOb Try.prog 29 false true ds o nx = Alls [DSl ds (o + 0) (dLen ds (o + 0)) none ((dVals ds (o + 0)).map DV.fl), DSl ds (o + 1) (dLen ds (o + 1)) none ((dVals ds (o + 1)).map DV.fl), ds[o + 2]? = some (.fl (.bool (dBool ds (o + 2))))] := by kernel_rfl
theorem ob27 (ds : List DV) (o nx : Nat) : ShOb Try.prog 27 false true ds o nx = Alls [DSl ds (o + 0) (dLen ds (o + 0)) none ((dVals ds (o + 0)).map DV.fl)] := by kernel_rfl
theorem ob4 (ds : List DV) (o nx : Nat) : ShOb Try.prog 4 false true ds o nx = Alls [ds[o + 0]? = some (.fl (.bool (dBool ds (o + 0))))] := by kernel_rfl
/-- All facts about one pair. -/
structure PrAt (ds : List DV) (i : Nat) (p : Pr) : Prop where
  l0 : dLen ds (i * 3) = p.1.length
  l1 : dLen ds (i * 3 + 1) = p.2.1.length
  v0 : dVals ds (i * 3) = byV p.1
  v1 : dVals ds (i * 3 + 1) = byV p.2.1
  g : dBool ds (i * 3 + 2) = p.2.2
  o29 : ∀ nx, ShOb Try.prog 29 false true ds (i * 3) nx
  o27 : ∀ nx, ShOb Try.prog 27 false true ds (i * 3) nx
  o27' : ∀ nx, ShOb Try.prog 27 false true ds (i * 3 + 1) nx
  o4 : ∀ nx, ShOb Try.prog 4 false true ds (i * 3 + 2) nx
theorem Prs.facts {ds : List DV} {ps : List Pr} {i : Nat} {p : Pr} (h : Prs ds ps) (hp : ps[i]? = some p) : PrAt ds i p := by
  obtain ⟨c1, c2, g1, g2, g3⟩ := h.at hp
  have e3 := bo_ok g3
  refine ⟨sl_len g1, sl_len g2, sl_vals g1, sl_vals g2, e3, fun nx => ?_, fun nx => ?_, fun nx => ?_, fun nx => ?_⟩
  · rw [ob29]
    exact ⟨sl_ok g1, sl_ok g2, by rw [e3]; exact g3, trivial⟩
  · rw [ob27]; exact ⟨sl_ok g1, trivial⟩
  · rw [ob27]; exact ⟨sl_ok g2, trivial⟩
  · rw [ob4]; exact ⟨by simp only [Nat.add_zero]; rw [e3]; exact g3, trivial⟩
end Go.Proofs.Ytojakfnljopjbaa
