/-
  The machine that runs in the kernel, part P: whatever order is drawn (the proof).
-/
import Derived.Test.YtcahhoemlmbnaaaVmO
namespace Go.Proofs.Ytcahhoemlmbnaaa
set_option linter.unusedSimpArgs false
set_option linter.unusedVariables false
set_option linter.unusedSectionVars false
open Go Go.RowKit

/-- A region's run in the order of the text. -/
structure Run (E : Env) (ops : Array Oper) (recs : List Rec) (ts0 : Tm) (h0 : Hp) (nx0 : Nat) : Prop where
  len : recs.length = ops.size
  ok : ∀ k o r, ops[k]? = some o → recs[k]? = some r → RecOk E ops o (recs.take k) (tsA ts0 (recs.take k)) (hpA h0 (recs.take k)) (nxA nx0 (recs.take k)) r
section
variable {E : Env} {ops : Array Oper} {recs : List Rec} {ts0 : Tm} {h0 : Hp} {nx0 : Nat}
theorem take_snoc {k : Nat} {r : Rec} (h : recs[k]? = some r) : recs.take (k + 1) = recs.take k ++ [r] := by
  obtain ⟨hk, e⟩ := List.getElem?_eq_some_iff.1 h
  rw [List.take_succ_eq_append_getElem hk, e]
theorem Run.opAt (R : Run E ops recs ts0 h0 nx0) {k : Nat} {r : Rec} (h : recs[k]? = some r) : ∃ o, ops[k]? = some o := by
  have hk := (List.getElem?_eq_some_iff.1 h).1
  rw [R.len] at hk
  exact ⟨_, Array.getElem?_eq_getElem hk⟩
theorem Run.recAt (R : Run E ops recs ts0 h0 nx0) {k : Nat} {o : Oper} (h : ops[k]? = some o) : ∃ r, recs[k]? = some r := by
  have hk := (Array.getElem?_eq_some_iff.1 h).1
  rw [← R.len] at hk
  exact ⟨_, List.getElem?_eq_getElem hk⟩
theorem RecOk.mono {o : Oper} {past : List Rec} {ts : Tm} {h : Hp} {nx : Nat} {r : Rec} (K : RecOk E ops o past ts h nx r) : nx ≤ r.nx' := by
  rcases K.run with ⟨_, _, _, e⟩ | ⟨_, rh, r', d, _, _, _, t, _⟩
  · omega
  · exact t.1
theorem RecOk.bd {o : Oper} {past : List Rec} {ts : Tm} {h : Hp} {nx : Nat} {r : Rec} (K : RecOk E ops o past ts h nx r) (hB : Bd h nx) : Bd (appE h r.ef) r.nx' := by
  intro n hn
  have hm := K.mono
  rw [lk_appE]
  rcases K.run with ⟨_, _, e, _⟩ | ⟨_, rh, r', d, hsub, _, e, t, _⟩
  · rw [e]; exact hB n (by omega)
  · have hBr : Bd rh nx := fun m hm => by
      cases hl : lk rh m with
      | none => rfl
      | some x => have := hsub m x hl; rw [hB m hm] at this; cases this
    have h1 := t.2.2 hBr n hn
    simp only at h1
    rw [e, assoc_app, assoc_old, assoc_new, h1]
    split
    · rename_i o ho
      split at ho
      · rename_i o' ho'
        split at ho'
        · cases ho'; cases ho; rfl
        · cases ho'
      · rename_i ho'
        split at ho
        · simp at ho
        · cases ho
    · exact hB n (by omega)
theorem Run.nxs (R : Run E ops recs ts0 h0 nx0) {k : Nat} {r : Rec} (h : recs[k]? = some r) : nxA nx0 (recs.take (k + 1)) = r.nx' := by
  rw [take_snoc h]; simp [nxA]
theorem Run.nxm (R : Run E ops recs ts0 h0 nx0) : ∀ (i j : Nat), i ≤ j → nxA nx0 (recs.take i) ≤ nxA nx0 (recs.take j) := by
  intro i j hij
  induction j with
  | zero => have : i = 0 := by omega
            subst this; exact Nat.le_refl _
  | succ j ih =>
    rcases Nat.lt_or_ge i (j + 1) with h | h
    · refine Nat.le_trans (ih (by omega)) ?_
      cases hr : recs[j]? with
      | none =>
        have hl : recs.length ≤ j := by rwa [List.getElem?_eq_none_iff] at hr
        rw [List.take_of_length_le hl, List.take_of_length_le (by omega)]
        exact Nat.le_refl _
      | some r =>
        obtain ⟨o, ho⟩ := R.opAt hr
        rw [R.nxs hr]
        exact (R.ok j o r ho hr).mono
    · have : i = j + 1 := by omega
      subst this; exact Nat.le_refl _
theorem Run.bds (R : Run E ops recs ts0 h0 nx0) (hB : Bd h0 nx0) : ∀ k, k ≤ recs.length → Bd (hpA h0 (recs.take k)) (nxA nx0 (recs.take k))
  | 0, _ => by simpa [hpA, nxA] using hB
  | k + 1, hk => by
      have hr : recs[k]? = some recs[k] := List.getElem?_eq_getElem (by omega)
      obtain ⟨o, ho⟩ := R.opAt hr
      have h1 := (R.ok k o _ ho hr).bd (R.bds hB k (by omega))
      have e : hpA h0 (recs.take k ++ [recs[k]]) = appE (hpA h0 (recs.take k)) recs[k].ef := by simp only [hpA, List.foldl_append]; rfl
      rw [R.nxs hr, take_snoc hr, e]
      exact h1
theorem Run.sep (R : Run E ops recs ts0 h0 nx0) {j k : Nat} {p r : Rec} (hj : recs[j]? = some p) (hk : recs[k]? = some r) (hlt : j < k) : p.nx' ≤ r.nx := by
  obtain ⟨o, ho⟩ := R.opAt hk
  rw [(R.ok k o r ho hk).enx, ← R.nxs hj]
  exact R.nxm _ _ hlt
theorem Run.anlt (R : Run E ops recs ts0 h0 nx0) : ∀ (k : Nat) (r : Rec), recs[k]? = some r → ∀ j ∈ r.an, j < k := by
  intro k
  induction k using Nat.strongRecOn with
  | _ k ih =>
    intro r hr j hj
    obtain ⟨o, ho⟩ := R.opAt hr
    obtain ⟨e, he, hb, p, hp, h⟩ := (ancV_ok (R.ok k o r ho hr).an j).1 hj
    have hlt : e.on < k := by
      have := (List.getElem?_eq_some_iff.1 hp).1
      simp only [List.length_take] at this
      omega
    rcases h with rfl | h
    · exact hlt
    · have hp' : recs[e.on]? = some p := by rw [List.getElem?_take_of_lt hlt] at hp; exact hp
      exact Nat.lt_trans (ih e.on hlt p hp' j h) hlt
/-- Two of them that are not apart: one waits for the other. -/
theorem Run.compar (R : Run E ops recs ts0 h0 nx0) {j k : Nat} {p r : Rec} (hj : recs[j]? = some p) (hk : recs[k]? = some r) (hne : j ≠ k) (h1 : j < k → apartR p r = false) (h2 : k < j → apartR r p = false) : (j < k ∧ j ∈ r.an) ∨ (k < j ∧ k ∈ p.an) := by
  have key : ∀ (a b : Nat) (x y : Rec), recs[a]? = some x → recs[b]? = some y → a < b → apartR x y = false → a ∈ y.an := fun a b x y ha hb hab hap => by
    obtain ⟨o, ho⟩ := R.opAt hb
    have := chkV_ok _ 0 a x (R.ok b o y ho hb).chk (by rw [List.getElem?_take_of_lt hab]; exact ha)
    rw [Nat.zero_add] at this
    rcases this with h | h
    · exact h
    · rw [hap] at h; cases h
  rcases Nat.lt_or_gt_of_ne hne with h | h
  · exact .inl ⟨h, key j k p r hj hk h (h1 h)⟩
  · exact .inr ⟨h, key k j r p hk hj h (h2 h)⟩

section
variable {α : Type} {u : Rec → Option α} {D : Nat → Bool} {k : Nat} {r : Rec}
/-- What is there for the k-th, whatever was done. -/
theorem fld_agree (hk : recs[k]? = some r) (hDk : D k = false) (han : ∀ j ∈ r.an, D j = true) (down : ∀ j p, recs[j]? = some p → D j = true → ∀ i ∈ p.an, D i = true)
    (hc : ∀ j p, recs[j]? = some p → u p ≠ none → j ≠ k → (j < k ∧ j ∈ r.an) ∨ (k < j ∧ k ∈ p.an)) (x : α) : fld u D 0 recs x = fld u (fun _ => true) 0 (recs.take k) x := by
  rw [← fld_take]
  refine fld_congr recs 0 x fun j p hj hu => ?_
  rw [Nat.zero_add, Nat.zero_add]
  by_cases e : j = k
  · subst e; simp [hDk]
  · rcases hc j p hj hu e with ⟨h1, h2⟩ | ⟨h1, h2⟩
    · rw [han j h2]; simp [h1]
    · cases hd : D j with
      | false => simp; omega
      | true => have := down j p hj hd k h2; rw [hDk] at this; cases this
theorem fld_after (hk : recs[k]? = some r) (hDk : D k = false) (down : ∀ j p, recs[j]? = some p → D j = true → ∀ i ∈ p.an, D i = true)
    (hc : u r ≠ none → ∀ j p, recs[j]? = some p → u p ≠ none → j ≠ k → (j < k ∧ j ∈ r.an) ∨ (k < j ∧ k ∈ p.an)) {D' : Nat → Bool} (hD' : ∀ j, D' j = if j = k then true else D j) (x : α) :
    fld u D' 0 recs x = match u r with | some y => y | none => fld u D 0 recs x := by
  cases hu : u r with
  | none =>
    refine fld_congr recs 0 x fun j p hj hup => ?_
    rw [Nat.zero_add, hD']
    split
    · rename_i e; subst e; rw [hk] at hj; cases hj; exact absurd hu hup
    · rfl
  | some y =>
    refine fld_last recs 0 k x y r hk (by rw [Nat.zero_add, hD']; simp) hu fun j p hkj hj hd => ?_
    rw [Nat.zero_add, hD'] at hd
    rw [if_neg (by omega)] at hd
    cases hup : u p with
    | none => rfl
    | some z =>
      rcases hc (by rw [hu]; simp) j p hj (by rw [hup]; simp) (by omega) with ⟨h1, h2⟩ | ⟨h1, h2⟩
      · omega
      · have := down j p hj hd k h2; rw [hDk] at this; cases this
end
end
end Go.Proofs.Ytcahhoemlmbnaaa
