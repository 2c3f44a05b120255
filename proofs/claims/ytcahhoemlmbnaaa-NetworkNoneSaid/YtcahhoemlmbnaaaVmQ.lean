/-
  The machine that runs in the kernel, part Q: a region that draws its order leaves what the order of the text leaves.
-/
import Derived.Test.YtcahhoemlmbnaaaVmP
namespace Go.Proofs.Ytcahhoemlmbnaaa
set_option linter.unusedSimpArgs false
set_option linter.unusedVariables false
set_option linter.unusedSectionVars false
open Go Go.RowKit

section
variable {E : Env} {ops : Array Oper} {recs : List Rec} {ts0 : Tm} {h0 : Hp} {nx0 : Nat} {W : World} {σ0 : Sg} {w0 : World} {ds : List Deferred}
def rowsAt (recs : List Rec) (h0 : Hp) (D : Nat → Bool) (n : Nat) : Option Rw := fld (fun r => assoc r.ef n) D 0 recs (lk h0 n)
def tmpAt (recs : List Rec) (ts0 : Tm) (D : Nat → Bool) (t : Nat) : Option Value := fld (tmpU ts0.n t) D 0 recs (tg ts0 t)
structure DInv (recs : List Rec) (ts0 : Tm) (h0 : Hp) (W : World) (σ0 : Sg) (w0 : World) (ds : List Deferred) (D : Nat → Bool) (σ : Sg) (a : Act) (w : World) : Prop where
  rl : RlF W σ (rowsAt recs h0 D) w
  ts : ∀ t v, tmpAt recs ts0 D t = some v → renV σ v = some (a.tmps.getD t undef)
  tn : ts0.n = a.tmps.size
  tb : ts0.n ≤ 60000
  le : σ0.le σ
  only : ∀ n, (∀ k r, recs[k]? = some r → D k = true → ¬ (r.nx ≤ n ∧ n < r.nx')) → σ.b n = σ0.b n ∧ σ.c n = σ0.c n
  size : w0.heap.size ≤ w.heap.size
  fr : ∀ b, b < w0.heap.size → (∀ n r p, lk h0 n = some r → r.own → σ0.b n = some p → p.1 ≠ b) → w.heap[b]? = w0.heap[b]?
  src : ∀ n r p, rowsAt recs h0 D n = some r → r.own → σ.b n = some p → w0.heap.size ≤ p.1 ∨ ∃ m s q, lk h0 m = some s ∧ s.own ∧ σ0.b m = some q ∧ q.1 = p.1
  defers : a.defers = ds
  down : ∀ j p, recs[j]? = some p → D j = true → ∀ i ∈ p.an, D i = true

theorem apartR_spec {p r : Rec} (h : apartR p r = true) : (∀ n, n ∈ p.ef.map (·.1) → n ∉ r.rd) ∧ (∀ n, n ∈ p.rd → n ∉ r.ef.map (·.1)) ∧ (∀ n, n ∈ p.ef.map (·.1) → n ∉ r.ef.map (·.1)) ∧ (∀ t, p.dst = some t → t ∉ r.lo) ∧ (∀ t, r.dst = some t → t ∉ p.lo) ∧ (∀ t, p.dst = some t → r.dst ≠ some t) := by
  unfold apartR at h
  rcases bif_or h with ⟨_, h⟩ | ⟨h4, h⟩
  · cases h
  rcases bif_or h with ⟨_, h⟩ | ⟨h5, h⟩
  · cases h
  rcases bif_or h with ⟨_, h⟩ | ⟨h6, h⟩
  · cases h
  rcases bif_or h with ⟨h1, h2⟩ | ⟨_, h⟩
  case inr => cases h
  have e1 : ∀ n, n ∈ p.ef.map (·.1) → n ∉ r.rd ∧ n ∉ r.ef.map (·.1) := fun n hn => by
    split at h1
    · rename_i he; rw [he] at hn; cases hn
    · rcases bif_or h1 with ⟨a, b⟩ | ⟨_, h⟩
      · exact ⟨apartN_ok a hn, apartN_ok b hn⟩
      · cases h
  refine ⟨fun n hn => (e1 n hn).1, fun n hn hm => ?_, fun n hn => (e1 n hn).2, fun t ht => ?_, fun t ht => ?_, fun t ht e => ?_⟩
  · split at h2
    · rename_i he; rw [he] at hm; cases hm
    · exact apartN_ok h2 hn hm
  · rw [ht] at h4; exact memN_not h4
  · rw [ht] at h5; exact memN_not h5
  · rw [ht, e] at h6; simp [dstEq] at h6
theorem bfalse {b : Bool} (h : b = true → False) : b = false := by cases b <;> simp_all
variable (R : Run E ops recs ts0 h0 nx0)
include R
theorem DInv.rows {D : Nat → Bool} {σ : Sg} {a : Act} {w : World} (I : DInv recs ts0 h0 W σ0 w0 ds D σ a w) {k : Nat} {r : Rec} (hk : recs[k]? = some r) (hDk : D k = false) (han : ∀ j ∈ r.an, D j = true) {n : Nat} (hn : n ∈ r.rd) :
    rowsAt recs h0 D n = lk (hpA h0 (recs.take k)) n := by
  rw [hpA_get n (recs.take k) h0 0]
  refine fld_agree hk hDk han I.down (fun j p hj hu hne => R.compar hj hk hne (fun _ => bfalse fun h => ?_) (fun _ => bfalse fun h => ?_)) _
  · exact (apartR_spec h).1 n (assoc_mem hu) hn
  · exact (apartR_spec h).2.1 n hn (assoc_mem hu)
theorem DInv.tmps {D : Nat → Bool} {σ : Sg} {a : Act} {w : World} (I : DInv recs ts0 h0 W σ0 w0 ds D σ a w) {k : Nat} {r : Rec} (hk : recs[k]? = some r) (hDk : D k = false) (han : ∀ j ∈ r.an, D j = true) {t : Nat} (hn : t ∈ r.lo) :
    tmpAt recs ts0 D t = tg (tsA ts0 (recs.take k)) t := by
  rw [tsA_get t (recs.take k) ts0 0 I.tb]
  have hd : ∀ p : Rec, tmpU ts0.n t p ≠ none → p.dst = some t := fun p hu => by
    unfold tmpU at hu
    split at hu
    · rename_i h; exact h.1
    · exact absurd rfl hu
  refine fld_agree hk hDk han I.down (fun j p hj hu hne => R.compar hj hk hne (fun _ => bfalse fun h => ?_) (fun _ => bfalse fun h => ?_)) _
  · exact (apartR_spec h).2.2.2.1 t (hd p hu) hn
  · exact (apartR_spec h).2.2.2.2.1 t (hd p hu) hn
theorem rows_after {D D' : Nat → Bool} {k : Nat} {r : Rec} (hk : recs[k]? = some r) (hDk : D k = false) (down : ∀ j p, recs[j]? = some p → D j = true → ∀ i ∈ p.an, D i = true) (hD' : ∀ j, D' j = if j = k then true else D j) :
    rowsAt recs h0 D' = updF (assoc r.ef) (rowsAt recs h0 D) := by
  funext n
  unfold rowsAt updF
  rw [fld_after hk hDk down (fun hur j p hj hu hne => R.compar hj hk hne (fun _ => bfalse fun h => ?_) (fun _ => bfalse fun h => ?_)) hD']
  · cases assoc r.ef n <;> rfl
  · exact (apartR_spec h).2.2.1 n (assoc_mem hu) (assoc_mem hur)
  · exact (apartR_spec h).2.2.1 n (assoc_mem hur) (assoc_mem hu)
theorem tmp_after {D D' : Nat → Bool} {k : Nat} {r : Rec} (hk : recs[k]? = some r) (hDk : D k = false) (down : ∀ j p, recs[j]? = some p → D j = true → ∀ i ∈ p.an, D i = true) (hD' : ∀ j, D' j = if j = k then true else D j) (t : Nat) :
    tmpAt recs ts0 D' t = match tmpU ts0.n t r with | some y => y | none => tmpAt recs ts0 D t := by
  have hd : ∀ p : Rec, tmpU ts0.n t p ≠ none → p.dst = some t := fun p hu => by
    unfold tmpU at hu
    split at hu
    · rename_i h; exact h.1
    · exact absurd rfl hu
  unfold tmpAt
  rw [fld_after hk hDk down (fun hur j p hj hu hne => R.compar hj hk hne (fun _ => bfalse fun h => ?_) (fun _ => bfalse fun h => ?_)) hD']
  · cases tmpU ts0.n t r <;> rfl
  · exact (apartR_spec h).2.2.2.2.2 t (hd p hu) (hd r hur)
  · exact (apartR_spec h).2.2.2.2.2 t (hd r hur) (hd p hu)
/-- The next state. -/
theorem DInv.put {D D' : Nat → Bool} {σ σ' : Sg} {a : Act} {w w' : World} (I : DInv recs ts0 h0 W σ0 w0 ds D σ a w) {k : Nat} {r : Rec} (hk : recs[k]? = some r) (hDk : D k = false) (han : ∀ j ∈ r.an, D j = true) (hD' : ∀ j, D' j = if j = k then true else D j)
    {rh r' : Hp} (hsub : ∀ n x, lk rh n = some x → rowsAt recs h0 D n = some x) (S : Stp W r.nx r.nx' σ rh w σ' r' w') (hu1 : ∀ n x, assoc r.ef n = some (some x) → lk r' n = some x) (hu2 : ∀ n x, assoc r.ef n = none → lk rh n = some x → lk r' n = some x)
    {v' : Value} (hv : renV σ' r.val = some v') : DInv recs ts0 h0 W σ0 w0 ds D' σ' (a.put r.dst v') w' where
  rl := by rw [rows_after R hk hDk I.down hD']; exact I.rl.step hsub S _ hu1 hu2
  tn := by rw [I.tn]; cases r.dst <;> simp [Act.put]
  tb := I.tb
  ts t v hv0 := by
    rw [tmp_after R hk hDk I.down hD' t] at hv0
    have old : ∀ tm : Array Value, tm[t]? = a.tmps[t]? → tmpAt recs ts0 D t = some v → renV σ' v = some (tm.getD t undef) := fun tm e hh => by
      rw [renV_le S.le _ _ (I.ts t v hh)]
      simp only [Array.getD_eq_getD_getElem?, e]
    unfold tmpU at hv0
    unfold Act.put
    cases hd : r.dst with
    | none =>
      simp only [hd, reduceCtorEq, false_and, if_false] at hv0
      exact old _ rfl hv0
    | some d =>
      by_cases e : d = t
      · subst e
        by_cases hlt : d < ts0.n
        · simp only [hd, hlt, and_self, if_true, Option.some.injEq] at hv0
          subst hv0
          have hs : d < a.tmps.size := by rw [← I.tn]; exact hlt
          rw [hv]; simp [hs]
        · simp only [hlt, and_false, if_false] at hv0
          refine old _ ?_ hv0
          have hge : a.tmps.size ≤ d := by rw [← I.tn]; exact Nat.le_of_not_lt hlt
          rw [Array.getElem?_eq_none_iff.2 (by simpa using hge), Array.getElem?_eq_none_iff.2 hge]
      · have : ¬ (r.dst = some t ∧ t < ts0.n) := fun h => e (by rw [hd] at h; exact Option.some.inj h.1)
        rw [if_neg this] at hv0
        exact old _ (Array.getElem?_setIfInBounds_ne e) hv0
  le := I.le.trans S.le
  only n hn := by
    have h1 := S.only n (by
      have := hn k r hk (by rw [hD']; simp)
      omega)
    have h2 := I.only n fun j p hj hd => hn j p hj (by rw [hD']; split <;> simp_all)
    exact ⟨h1.1.trans h2.1, h1.2.trans h2.2⟩
  size := Nat.le_trans I.size S.size
  fr b hb hno := by
    rw [S.fr b (Nat.lt_of_lt_of_le hb I.size) fun n x p hn ho hp e => ?_, I.fr b hb hno]
    rcases I.src n x p (hsub n x hn) ho hp with h | ⟨m, s, q, hm, hs, hq, e2⟩
    · omega
    · exact hno m s q hm hs hq (e2.trans e)
  src n x p hn ho hp := by
    rw [rows_after R hk hDk I.down hD'] at hn
    unfold updF at hn
    have viaS : lk r' n = some x → w0.heap.size ≤ p.1 ∨ ∃ m s q, lk h0 m = some s ∧ s.own ∧ σ0.b m = some q ∧ q.1 = p.1 := fun hl => by
      rcases S.src n x p hl ho hp with h | ⟨m, s, q, hm, hs, hq, e⟩
      · exact .inl (Nat.le_trans I.size h)
      · rcases I.src m s q (hsub m s hm) hs hq with h | ⟨m', s', q', h1, h2, h3, h4⟩
        · exact .inl (by omega)
        · exact .inr ⟨m', s', q', h1, h2, h3, h4.trans e⟩
    cases hu : assoc r.ef n with
    | some o => rw [hu] at hn; simp only at hn; subst hn; exact viaS (hu1 n x hu)
    | none =>
      rw [hu] at hn
      simp only at hn
      obtain ⟨b, s, vs, hb, _⟩ := I.rl.row n x hn
      have := S.le.1 _ _ hb
      rw [hp] at this
      cases this
      exact I.src n x (b, s) hn ho hb
  defers := by cases r.dst <;> exact I.defers
  down j p hj hd i hi := by
    rw [hD'] at hd
    rw [hD']
    split at hd
    · rename_i e; subst e
      rw [hk] at hj; cases hj
      split
      · rfl
      · exact han i hi
    · split
      · rfl
      · exact I.down j p hj hd i hi
end
end Go.Proofs.Ytcahhoemlmbnaaa
