/-
  What the opened cells of a struct are, for a load of it.
-/
import Derived.Test.YtmoflcoijmmpjaaOpenDp
namespace Go.Proofs.Ytmoflcoijmmpjaa
set_option linter.unusedSimpArgs false
set_option linter.unusedVariables false
set_option linter.unusedSectionVars false
open Go Go.RowKit

/-- Shapes without slices. -/
def shFl : List Sh → Bool
  | [] => true
  | .sl _ :: _ => false
  | _ :: l => shFl l
theorem shFl_ok : ∀ {l : List Sh} {r : List DV}, shFl l = true → ShsOk l r → (r.map DV.val).map DV.fl = r
  | [], r, _, h => by simp only [ShsOk] at h; subst h; rfl
  | s :: l, r, hb, h => by
      simp only [ShsOk] at h
      obtain ⟨d, ds', rfl, h1, h2⟩ := h
      have rest : shFl l = true → (ds'.map DV.val).map DV.fl = ds' := fun e => shFl_ok e h2
      cases s with
      | i k => simp only [ShOk] at h1; obtain ⟨z, rfl, _⟩ := h1; simp only [List.map_cons, DV.val, rest hb]
      | b => simp only [ShOk] at h1; obtain ⟨z, rfl⟩ := h1; simp only [List.map_cons, DV.val, rest hb]
      | st => simp only [ShOk] at h1; obtain ⟨z, rfl, _⟩ := h1; simp only [List.map_cons, DV.val, rest hb]
      | sl sub => cases hb
theorem shFl_rows {l : List Sh} (hb : shFl l = true) : ∀ {rows : List (List DV)}, (∀ r, r ∈ rows → ShsOk l r) → (rows.flatten.map DV.val).map DV.fl = rows.flatten
  | [], _ => rfl
  | r :: rows, h => by
      rw [List.flatten_cons, List.map_append, List.map_append, shFl_ok hb (h r (List.mem_cons_self ..)), shFl_rows hb fun x hx => h x (List.mem_cons_of_mem _ hx)]
/-- A value whose cells have these shapes. -/
def shpB (deep : Bool) : List Value → List Sh → Bool
  | [], [] => true
  | .int k _ :: zs, .i k' :: l => decide (k = k') && shpB deep zs l
  | .bool _ :: zs, .b :: l => shpB deep zs l
  | .string _ :: zs, .st :: l => shpB deep zs l
  | .slice none _ _ :: zs, .sl sub :: l => (deep || shFl sub) && shpB deep zs l
  | _, _ => false
theorem shD_of {deep uc : Bool} {ds : List DV} {o : Nat} : ∀ {zs : List Value} {l : List Sh} {r : List DV} {j nx : Nat}, shpB deep zs l = true → ShsOk l r → (∀ q d, r[q]? = some d → ds[o + (j + q)]? = some d) → ∃ vs rs ob, shD deep uc ds o zs j nx = some (vs, rs, ob) ∧ Alls ob
  | [], [], r, j, nx, _, _, _ => ⟨_, _, _, rfl, trivial⟩
  | z :: zs, s :: l, r, j, nx, hb, h, hc => by
      simp only [ShsOk] at h
      obtain ⟨d, ds', rfl, h1, h2⟩ := h
      have h0 : ds[o + j]? = some d := hc 0 d rfl
      have hn : ∀ q e, ds'[q]? = some e → ds[o + (j + 1 + q)]? = some e := fun q e he => by
        have := hc (q + 1) e (by simpa using he)
        rwa [show j + (q + 1) = j + 1 + q by omega] at this
      unfold shpB at hb
      split at hb
      · rename_i e1 e2; cases e1
      · rename_i k n zs' k' l' e1 e2
        cases e1; cases e2
        simp only [Bool.and_eq_true, decide_eq_true_eq] at hb
        obtain ⟨rfl, hb⟩ := hb
        obtain ⟨vs, rs, ob, g1, g2⟩ := shD_of (uc := uc) (nx := nx) hb h2 hn
        simp only [ShOk] at h1
        obtain ⟨z, rfl, _⟩ := h1
        refine ⟨_, _, _, (by simp only [shD, g1]; rfl), ?_⟩
        refine ⟨?_, g2⟩
        unfold dInt; rw [h0]
      · rename_i x zs' l' e1 e2
        cases e1; cases e2
        obtain ⟨vs, rs, ob, g1, g2⟩ := shD_of (uc := uc) (nx := nx) hb h2 hn
        simp only [ShOk] at h1
        obtain ⟨z, rfl⟩ := h1
        refine ⟨_, _, _, (by simp only [shD, g1]; rfl), ?_⟩
        refine ⟨?_, g2⟩
        unfold dBool; rw [h0]
      · rename_i x zs' l' e1 e2
        cases e1; cases e2
        obtain ⟨vs, rs, ob, g1, g2⟩ := shD_of (uc := uc) (nx := nx) hb h2 hn
        simp only [ShOk] at h1
        obtain ⟨z, rfl, _⟩ := h1
        refine ⟨_, _, _, (by simp only [shD, g1]; rfl), ?_⟩
        refine ⟨?_, g2⟩
        unfold dStr; rw [h0]
      · rename_i a b zs' sub l' e1 e2
        cases e1; cases e2
        simp only [Bool.and_eq_true] at hb
        obtain ⟨vs, rs, ob, g1, g2⟩ := shD_of (uc := uc) (nx := nx + 1) hb.2 h2 hn
        simp only [ShOk] at h1
        obtain ⟨len, cap, rows, rfl, _, _, _, hr⟩ := h1
        have e1 : dLen ds (o + j) = len := by unfold dLen; rw [h0]
        have e2 : dCap ds (o + j) = cap := by unfold dCap; rw [h0]
        have e3 : dSub ds (o + j) = rows.flatten := by unfold dSub; rw [h0]
        have e0 : ∀ sub, sub = rows.flatten → DSl ds (o + j) (dLen ds (o + j)) (bif uc then none else some (dCap ds (o + j))) sub := fun sub e => by
          subst e
          refine ⟨some cap, by rw [h0, e1], ?_⟩
          cases uc with
          | true => exact .inl rfl
          | false => exact .inr (by rw [e2]; rfl)
        refine ⟨_, _, _, (by simp only [shD, g1]; rfl), ?_⟩
        refine ⟨e0 _ ?_, g2⟩
        cases deep with
        | true => exact e3
        | false =>
          have hf : shFl sub = true := by simpa using hb.1
          simp only [cond_false]
          unfold dVals
          rw [e3, shFl_rows hf hr]
      · cases hb
  | [], _ :: _, r, j, nx, hb, _, _ => by simp [shpB] at hb
  | _ :: _, [], r, j, nx, hb, _, _ => by simp [shpB] at hb
/-- The places of a list of rows of one length. -/
theorem flatten_get {α : Type} {k : Nat} : ∀ {rows : List (List α)} {i q : Nat} {d : α}, (∀ r, r ∈ rows → r.length = k) → ∀ r, rows[i]? = some r → r[q]? = some d → rows.flatten[i * k + q]? = some d
  | [], i, q, d, _, r, h, _ => by simp at h
  | x :: rows, 0, q, d, hl, r, h, hq => by
      simp only [List.getElem?_cons_zero, Option.some.injEq] at h
      subst h
      rw [List.flatten_cons, Nat.zero_mul, Nat.zero_add, List.getElem?_append_left (List.getElem?_eq_some_iff.1 hq).1]
      exact hq
  | x :: rows, i + 1, q, d, hl, r, h, hq => by
      have hx := hl x (List.mem_cons_self ..)
      rw [List.flatten_cons, List.getElem?_append_right (by rw [hx, Nat.add_mul]; omega), hx, show (i + 1) * k + q - k = i * k + q by rw [Nat.add_mul]; omega]
      exact flatten_get (fun r hr => hl r (List.mem_cons_of_mem _ hr)) r (by simpa using h) hq
/-- All that a load of an element of an opened list asks for. -/
theorem shOb_of {P : Program} {t : TypeId} {deep uc : Bool} {sub : List Sh} {rows : List (List DV)} {i nx : Nat} (hb : (match P.info? t with | some i => (match i.zero with | some z => shpB deep z.cells.toList sub | none => true) | none => true) = true)
    (hr : ∀ r, r ∈ rows → ShsOk sub r) (hi : i < rows.length) : ShOb P t deep uc rows.flatten (i * sub.length) nx := by
  unfold ShOb
  split
  · rename_i inf hinf
    rw [hinf] at hb
    simp only at hb
    split
    · rename_i z hz
      rw [hz] at hb
      simp only at hb
      obtain ⟨vs, rs, ob, g1, g2⟩ := shD_of (uc := uc) (nx := nx) (ds := rows.flatten) (o := i * sub.length) (j := 0) hb (hr _ (List.getElem_mem hi)) fun q d hq => by
        rw [Nat.zero_add]
        exact flatten_get (fun r h => (hr r h).len) _ (List.getElem?_eq_getElem hi) hq
      rw [g1]
      exact g2
    · trivial
  · trivial
end Go.Proofs.Ytmoflcoijmmpjaa
