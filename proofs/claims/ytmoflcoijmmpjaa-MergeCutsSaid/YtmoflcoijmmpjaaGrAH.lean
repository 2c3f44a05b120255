/-
  The machine that runs in the kernel, part Q: a region that draws its order leaves what the order of the text leaves.
-/
import Derived.Test.YtmoflcoijmmpjaaGrAG
import Derived.OrdersIn
import Derived.LoopNIn
import Derived.Scope
namespace Go.Proofs.Ytmoflcoijmmpjaa
set_option linter.unusedSimpArgs false
set_option linter.unusedVariables false
set_option linter.unusedSectionVars false
open Go Go.RowKit

section
variable {E : Env} {ops : Array Oper} {recs : List Rec} {ts0 : Tm} {h0 : Hp} {nx0 : Nat} {W : World} {σ0 : Sg} {w0 : World} {ds : List Deferred}
def rowsAt (recs : List Rec) (h0 : Hp) (D : Nat → Bool) (n : Nat) : Option Rw := fld (fun r => assoc r.ef n) D 0 recs (lk h0 n)
def tmpAt (recs : List Rec) (ts0 : Tm) (D : Nat → Bool) (t : Nat) : Option Value := fld (tmpU ts0.n t) D 0 recs (tg ts0 t)
structure DInv (recs : List Rec) (ts0 : Tm) (h0 : Hp) (W : World) (σ0 : Sg) (w0 : World) (ds : List Deferred) (D : Nat → Bool) (σ : Sg) (a : Act) (w : World) : Prop where
 rl : RlF W σ (rowsAt recs h0 D) w
 ts : ∀ t v, tmpAt recs ts0 D t = some v → renV σ v = some (a.tmps.getD t undef)
 tn : ts0.n = a.tmps.size
 tb : ts0.n ≤ 60000
 le : σ0.le σ
 only : ∀ n, (∀ k r, recs[k]? = some r → D k = true → ¬ (r.nx ≤ n ∧ n < r.nx')) → σ.b n = σ0.b n ∧ σ.c n = σ0.c n
 size : w0.heap.size ≤ w.heap.size
 fr : ∀ b, b < w0.heap.size → (∀ n r p, lk h0 n = some r → r.own → σ0.b n = some p → p.1 ≠ b) → (∀ n r, lk h0 n = some r → b ∉ ex σ0 n) → w.heap[b]? = w0.heap[b]?
 src : ∀ n r p, rowsAt recs h0 D n = some r → r.own → σ.b n = some p → w0.heap.size ≤ p.1 ∨ ∃ m s q, lk h0 m = some s ∧ s.own ∧ σ0.b m = some q ∧ q.1 = p.1
 ssrc : ∀ n r k, rowsAt recs h0 D n = some r → k ∈ sh σ n → w0.heap.size ≤ k ∨ (∃ m s q, lk h0 m = some s ∧ s.own ∧ σ0.b m = some q ∧ q.1 = k) ∨ ∃ m s, lk h0 m = some s ∧ k ∈ sh σ0 m
 xsrc : ∀ n r k, rowsAt recs h0 D n = some r → k ∈ ex σ n → w0.heap.size ≤ k ∨ (∃ m s q, lk h0 m = some s ∧ s.own ∧ σ0.b m = some q ∧ q.1 = k) ∨ ∃ m s, lk h0 m = some s ∧ k ∈ ex σ0 m
 defers : a.defers = ds
 down : ∀ j p, recs[j]? = some p → D j = true → ∀ i ∈ p.an, D i = true

theorem apartR_spec {p r : Rec} (h : apartR p r = true) : (∀ n, n ∈ p.ef.map (·.1) → n ∉ r.rd) ∧ (∀ n, n ∈ p.rd → n ∉ r.ef.map (·.1)) ∧ (∀ n, n ∈ p.ef.map (·.1) → n ∉ r.ef.map (·.1)) ∧ (∀ t, p.dst = some t → t ∉ r.lo) ∧ (∀ t, r.dst = some t → t ∉ p.lo) ∧ (∀ t, p.dst = some t → r.dst ≠ some t) := by
 unfold apartR at h
 rcases bif_or h with ⟨_, h⟩ | ⟨h4, h⟩
 ·cases h
 rcases bif_or h with ⟨_, h⟩ | ⟨h5, h⟩
 ·cases h
 rcases bif_or h with ⟨_, h⟩ | ⟨h6, h⟩
 ·cases h
 rcases bif_or h with ⟨h1, h2⟩ | ⟨_, h⟩
 case inr => cases h
 have e1 : ∀ n, n ∈ p.ef.map (·.1) → n ∉ r.rd ∧ n ∉ r.ef.map (·.1) := fun n hn => by
  split at h1
  ·rename_i he; rw [he] at hn; cases hn
  ·rcases bif_or h1 with ⟨a, b⟩ | ⟨_, h⟩
   ·exact ⟨apartN_ok a hn, apartN_ok b hn⟩
   ·cases h
 refine ⟨fun n hn => (e1 n hn).1, fun n hn hm => ?_, fun n hn => (e1 n hn).2, fun t ht => ?_, fun t ht => ?_, fun t ht e => ?_⟩
 ·split at h2
  ·rename_i he; rw [he] at hm; cases hm
  ·exact apartN_ok h2 hn hm
 ·rw [ht] at h4; exact memN_not h4
 ·rw [ht] at h5; exact memN_not h5
 ·rw [ht, e] at h6; simp [dstEq] at h6
theorem bfalse {b : Bool} (h : b = true → False) : b = false := by cases b <;> simp_all
variable (R : Run E ops recs ts0 h0 nx0)
include R
theorem DInv.rows {D : Nat → Bool} {σ : Sg} {a : Act} {w : World} (I : DInv recs ts0 h0 W σ0 w0 ds D σ a w) {k : Nat} {r : Rec} (hk : recs[k]? = some r) (hDk : D k = false) (han : ∀ j ∈ r.an, D j = true) {n : Nat} (hn : n ∈ r.rd) :
  rowsAt recs h0 D n = lk (hpA h0 (recs.take k)) n := by
 rw [hpA_get n (recs.take k) h0 0]
 refine fld_agree hk hDk han I.down (fun j p hj hu hne => R.compar hj hk hne (fun _ => bfalse fun h => ?_) (fun _ => bfalse fun h => ?_)) _
 ·exact (apartR_spec h).1 n (assoc_mem hu) hn
 ·exact (apartR_spec h).2.1 n hn (assoc_mem hu)
theorem DInv.tmps {D : Nat → Bool} {σ : Sg} {a : Act} {w : World} (I : DInv recs ts0 h0 W σ0 w0 ds D σ a w) {k : Nat} {r : Rec} (hk : recs[k]? = some r) (hDk : D k = false) (han : ∀ j ∈ r.an, D j = true) {t : Nat} (hn : t ∈ r.lo) :
  tmpAt recs ts0 D t = tg (tsA ts0 (recs.take k)) t := by
 rw [tsA_get t (recs.take k) ts0 0 I.tb]
 have hd : ∀ p : Rec, tmpU ts0.n t p ≠ none → p.dst = some t := fun p hu => by
  unfold tmpU at hu
  split at hu
  ·rename_i h; exact h.1
  ·exact absurd rfl hu
 refine fld_agree hk hDk han I.down (fun j p hj hu hne => R.compar hj hk hne (fun _ => bfalse fun h => ?_) (fun _ => bfalse fun h => ?_)) _
 ·exact (apartR_spec h).2.2.2.1 t (hd p hu) hn
 ·exact (apartR_spec h).2.2.2.2.1 t (hd p hu) hn
theorem rows_after {D D' : Nat → Bool} {k : Nat} {r : Rec} (hk : recs[k]? = some r) (hDk : D k = false) (down : ∀ j p, recs[j]? = some p → D j = true → ∀ i ∈ p.an, D i = true) (hD' : ∀ j, D' j = if j = k then true else D j) :
  rowsAt recs h0 D' = updF (assoc r.ef) (rowsAt recs h0 D) := by
 funext n
 unfold rowsAt updF
 rw [fld_after hk hDk down (fun hur j p hj hu hne => R.compar hj hk hne (fun _ => bfalse fun h => ?_) (fun _ => bfalse fun h => ?_)) hD']
 ·cases assoc r.ef n <;> rfl
 ·exact (apartR_spec h).2.2.1 n (assoc_mem hu) (assoc_mem hur)
 ·exact (apartR_spec h).2.2.1 n (assoc_mem hur) (assoc_mem hu)
theorem tmp_after {D D' : Nat → Bool} {k : Nat} {r : Rec} (hk : recs[k]? = some r) (hDk : D k = false) (down : ∀ j p, recs[j]? = some p → D j = true → ∀ i ∈ p.an, D i = true) (hD' : ∀ j, D' j = if j = k then true else D j) (t : Nat) :
  tmpAt recs ts0 D' t = match tmpU ts0.n t r with | some y => y | none => tmpAt recs ts0 D t := by
 have hd : ∀ p : Rec, tmpU ts0.n t p ≠ none → p.dst = some t := fun p hu => by
  unfold tmpU at hu
  split at hu
  ·rename_i h; exact h.1
  ·exact absurd rfl hu
 unfold tmpAt
 rw [fld_after hk hDk down (fun hur j p hj hu hne => R.compar hj hk hne (fun _ => bfalse fun h => ?_) (fun _ => bfalse fun h => ?_)) hD']
 ·cases tmpU ts0.n t r <;> rfl
 ·exact (apartR_spec h).2.2.2.2.2 t (hd p hu) (hd r hur)
 ·exact (apartR_spec h).2.2.2.2.2 t (hd r hur) (hd p hu)
theorem DInv.put {D D' : Nat → Bool} {σ σ' : Sg} {a : Act} {w w' : World} (I : DInv recs ts0 h0 W σ0 w0 ds D σ a w) {k : Nat} {r : Rec} (hk : recs[k]? = some r) (hDk : D k = false) (han : ∀ j ∈ r.an, D j = true) (hD' : ∀ j, D' j = if j = k then true else D j)
  {rh r' : Hp} (hsub : ∀ n x, lk rh n = some x → rowsAt recs h0 D n = some x) (S : Stp W r.nx r.nx' σ rh w σ' r' w') (hu1 : ∀ n x, assoc r.ef n = some (some x) → lk r' n = some x) (hu2 : ∀ n x, assoc r.ef n = none → lk rh n = some x → lk r' n = some x)
  {v' : Value} (hv : renV σ' r.val = some v') : DInv recs ts0 h0 W σ0 w0 ds D' σ' (a.put r.dst v') w' where
 rl := by rw [rows_after R hk hDk I.down hD']; exact I.rl.step hsub S _ hu1 hu2
 tn := by rw [I.tn]; cases r.dst <;> simp [Act.put]
 tb := I.tb
 ts t v hv0 := by
  rw [tmp_after R hk hDk I.down hD' t] at hv0
  have old : ∀ tm : Array Value, tm[t]? = a.tmps[t]? → tmpAt recs ts0 D t = some v → renV σ' v = some (tm.getD t undef) := fun tm e hh => by
   rw [renV_le S.le _ _ (I.ts t v hh)]
   simp only [Array.getD_eq_getD_getElem?, e]
  unfold tmpU at hv0
  unfold Act.put
  cases hd : r.dst with
  | none =>
   simp only [hd, reduceCtorEq, false_and, if_false] at hv0
   exact old _ rfl hv0
  | some d =>
   by_cases e : d = t
   ·subst e
    by_cases hlt : d < ts0.n
    ·simp only [hd, hlt, and_self, if_true, oI] at hv0
     subst hv0
     have hs : d < a.tmps.size := by rw [← I.tn]; exact hlt
     rw [hv]; simp [hs]
    ·simp only [hlt, and_false, if_false] at hv0
     refine old _ ?_ hv0
     have hge : a.tmps.size ≤ d := by rw [← I.tn]; exact Nat.le_of_not_lt hlt
     rw [Array.getElem?_eq_none_iff.2 (by simpa using hge), Array.getElem?_eq_none_iff.2 hge]
   ·have : ¬ (r.dst = some t ∧ t < ts0.n) := fun h => e (by rw [hd] at h; exact Option.some.inj h.1)
    rw [if_neg this] at hv0
    exact old _ (Array.getElem?_setIfInBounds_ne e) hv0
 le := I.le.trans S.le
 only n hn := by
  have h1 := S.only n (by
   have := hn k r hk (by rw [hD']; simp)
   omega)
  have h2 := I.only n fun j p hj hd => hn j p hj (by rw [hD']; split <;> simp_all)
  exact ⟨h1.1.trans h2.1, h1.2.trans h2.2⟩
 size := Nat.le_trans I.size S.size
 fr b hb hno hnx := by
  rw [S.fr b (Nat.lt_of_lt_of_le hb I.size) (fun n x p hn ho hp e => ?_) (fun n x hn e => ?_), I.fr b hb hno hnx]
  ·rcases I.src n x p (hsub n x hn) ho hp with h | ⟨m, s, q, hm, hs, hq, e2⟩
   ·omega
   ·exact hno m s q hm hs hq (e2.trans e)
  ·rcases I.xsrc n x b (hsub n x hn) e with h | ⟨m, s, q, hm, hs, hq, e2⟩ | ⟨m, s, hm, e2⟩
   ·omega
   ·exact hno m s q hm hs hq e2
   ·exact hnx m s hm e2
 src n x p hn ho hp := by
  rw [rows_after R hk hDk I.down hD'] at hn
  unfold updF at hn
  have viaS : lk r' n = some x → w0.heap.size ≤ p.1 ∨ ∃ m s q, lk h0 m = some s ∧ s.own ∧ σ0.b m = some q ∧ q.1 = p.1 := fun hl => by
   rcases S.src n x p hl ho hp with h | ⟨m, s, q, hm, hs, hq, e⟩
   ·exact .inl (Nat.le_trans I.size h)
   ·rcases I.src m s q (hsub m s hm) hs hq with h | ⟨m', s', q', h1, h2, h3, h4⟩
    ·exact .inl (by omega)
    ·exact .inr ⟨m', s', q', h1, h2, h3, h4.trans e⟩
  cases hu : assoc r.ef n with
  | some o => rw [hu] at hn; simp only at hn; subst hn; exact viaS (hu1 n x hu)
  | none =>
   rw [hu] at hn
   simp only at hn
   obtain ⟨b, s, vs, hb, _⟩ := I.rl.row n x hn
   have := S.le.1 _ _ hb
   rw [hp] at this
   cases this
   exact I.src n x (b, s) hn ho hb
 ssrc n x kk hn hk' := by
  rw [rows_after R hk hDk I.down hD'] at hn
  unfold updF at hn
  have viaS : lk r' n = some x → w0.heap.size ≤ kk ∨ (∃ m s q, lk h0 m = some s ∧ s.own ∧ σ0.b m = some q ∧ q.1 = kk) ∨ ∃ m s, lk h0 m = some s ∧ kk ∈ sh σ0 m := fun hl => by
   rcases S.ssrc n x kk hl hk' with h | ⟨m, s, q, hm, hs, hq, e⟩ | ⟨m, s, hm, hs⟩
   ·exact .inl (Nat.le_trans I.size h)
   ·rcases I.src m s q (hsub m s hm) hs hq with h | ⟨m', s', q', h1, h2, h3, h4⟩
    ·exact .inl (by omega)
    ·exact .inr (.inl ⟨m', s', q', h1, h2, h3, h4.trans e⟩)
   ·exact I.ssrc m s kk (hsub m s hm) hs
  cases hu : assoc r.ef n with
  | some o => rw [hu] at hn; simp only at hn; subst hn; exact viaS (hu1 n x hu)
  | none =>
   rw [hu] at hn
   simp only at hn
   obtain ⟨b, s, vs, hb, _⟩ := I.rl.row n x hn
   have e := (S.le.2.2 _ _ hb).2.1
   exact I.ssrc n x kk hn (by unfold sh at hk' ⊢; rw [e] at hk'; exact hk')
 xsrc n x kk hn hk' := by
  rw [rows_after R hk hDk I.down hD'] at hn
  unfold updF at hn
  have viaS : lk r' n = some x → w0.heap.size ≤ kk ∨ (∃ m s q, lk h0 m = some s ∧ s.own ∧ σ0.b m = some q ∧ q.1 = kk) ∨ ∃ m s, lk h0 m = some s ∧ kk ∈ ex σ0 m := fun hl => by
   rcases S.xsrc n x kk hl hk' with h | ⟨m, s, q, hm, hs, hq, e⟩ | ⟨m, s, hm, hs⟩
   ·exact .inl (Nat.le_trans I.size h)
   ·rcases I.src m s q (hsub m s hm) hs hq with h | ⟨m', s', q', h1, h2, h3, h4⟩
    ·exact .inl (by omega)
    ·exact .inr (.inl ⟨m', s', q', h1, h2, h3, h4.trans e⟩)
   ·exact I.xsrc m s kk (hsub m s hm) hs
  cases hu : assoc r.ef n with
  | some o => rw [hu] at hn; simp only at hn; subst hn; exact viaS (hu1 n x hu)
  | none =>
   rw [hu] at hn
   simp only at hn
   obtain ⟨b, s, vs, hb, _⟩ := I.rl.row n x hn
   have e := (S.le.2.2 _ _ hb).2.1
   exact I.xsrc n x kk hn (by unfold ex at hk' ⊢; rw [e] at hk'; exact hk')
 defers := by cases r.dst <;> exact I.defers
 down j p hj hd i hi := by
  rw [hD'] at hd
  rw [hD']
  split at hd
  ·rename_i e; subst e
   rw [hk] at hj; cases hj
   split
   ·rfl
   ·exact han i hi
  ·split
   ·rfl
   ·exact I.down j p hj hd i hi
end
def cntU (l : Array Bool) : Nat → Nat
 | 0 => 0
 | n + 1 => cntU l n + (if l.getD n true = false then 1 else 0)
theorem cntU_set {l : Array Bool} {i : Nat} (hi : l.getD i true = false) : ∀ n, cntU (l.setIfInBounds i true) n + (if i < n then 1 else 0) = cntU l n
 | 0 => by simp [cntU]
 | n + 1 => by
   have ih := cntU_set hi n
   simp only [cntU]
   by_cases e : i = n
   ·subst e
    have h1 : (l.setIfInBounds i true).getD i true = true := by
     rcases Nat.lt_or_ge i l.size with h | h <;> simp [h]
    rw [h1, hi]
    simp only [Nat.lt_irrefl, if_false, Nat.lt_succ_self, if_true, Bool.true_eq_false] at ih ⊢
    omega
   ·rw [getD_set_ne true e]
    have e2 : (if i < n + 1 then 1 else 0 : Nat) = if i < n then 1 else 0 := by
     by_cases h : i < n
     ·rw [if_pos h, if_pos (Nat.lt_succ_of_lt h)]
     ·rw [if_neg h, if_neg (fun h2 => h (Nat.lt_of_le_of_ne (Nat.le_of_lt_succ h2) e))]
    rw [e2]
    omega
theorem cntU_none {l : Array Bool} : ∀ {n : Nat}, cntU l n = 0 → ∀ i, i < n → l.getD i true = true
 | 0, _, i, h => by omega
 | n + 1, hc, i, h => by
   simp only [cntU] at hc
   rcases Nat.lt_or_ge i n with h1 | h1
   ·exact cntU_none (by omega) i h1
   ·have : i = n := by omega
    subst this
    cases hb : l.getD i true with
    | true => rfl
    | false => rw [hb] at hc; simp at hc
theorem cntU_some {l : Array Bool} : ∀ {n : Nat}, cntU l n ≠ 0 → ∃ i, i < n ∧ l.getD i true = false ∧ ∀ j, j < i → l.getD j true = true
 | 0, h => by simp [cntU] at h
 | n + 1, h => by
   by_cases h0 : cntU l n = 0
   ·simp only [cntU, h0, Nat.zero_add] at h
    refine ⟨n, by omega, ?_, cntU_none h0⟩
    cases hb : l.getD n true with
    | false => rfl
    | true => rw [hb] at h; simp at h
   ·obtain ⟨i, h1, h2, h3⟩ := cntU_some h0
    exact ⟨i, by omega, h2, h3⟩
section
variable {E : Env} {ops : Array Oper} {recs : List Rec} {ts0 : Tm} {h0 : Hp} {nx0 : Nat} {W : World} {σ0 : Sg} {w0 : World} {ds : List Deferred}
theorem getD_true {l : Array Bool} {i : Nat} (hi : i < l.size) : l.getD i true = l.getD i false := by
 simp [Array.getElem?_eq_getElem hi]
theorem getD_undone {l : Array Bool} {i : Nat} (h : l.getD i true = false) : i < l.size ∧ l.getD i false = false := by
 rcases Nat.lt_or_ge i l.size with h' | h'
 ·exact ⟨h', by rw [← getD_true h']; exact h⟩
 ·simp [Array.getElem?_eq_none h'] at h
theorem evs_R {σ : Sg} {ts : Tm} {a : Act} {lo : List Nat} (h : ∀ t ∈ lo, ∀ v, tg ts t = some v → renV σ v = some (a.tmps.getD t undef)) : Evs σ (evR lo ts) a := by
 intro x v hx
 cases x with
 | tmp t =>
  simp only [evR] at hx
  obtain ⟨hm, hx⟩ := bif_of hx
  rw [h t (memN_iff.1 hm) v hx]; simp [Act.eval]
 | const c =>
  simp only [evR, evA] at hx
  obtain ⟨hc, hx⟩ := bif_of hx
  cases hx; exact noAd_ren σ hc
 | func f => simp only [evR, evA, oI] at hx; subst hx; rfl
 | global g => simp [evR, evA] at hx
theorem draw_any {F : Fence} {m : Nat} (hF : Wide F) (R : Run E ops recs ts0 h0 nx0) (hB : Bd h0 nx0) (hf : Fresh σ0 nx0 (nxA nx0 recs)) {Q : Exit → Act → World → Prop}
  (hQ : ∀ D σ a w, (∀ k, k < recs.length → D k = true) → DInv recs ts0 h0 W σ0 w0 ds D σ a w → Q .normal a w) :
  ∀ (fuel : Nat) (listed : Array Bool) (σ : Sg) (a : Act) (w : World), listed.size = ops.size → cntU listed ops.size ≤ fuel → DInv recs ts0 h0 W σ0 w0 ds (fun k => listed.getD k false) σ a w → wpAnyIn F m E.P .any ops Q fuel listed a w := by
 have rdy : ∀ (listed : Array Bool), listed.size = ops.size → cntU listed ops.size ≠ 0 → Region.ready .any ops listed ≠ [] := fun listed hs hc he => by
  obtain ⟨i, h1, h2, h3⟩ := cntU_some hc
  have : i ∈ Region.ready .any ops listed := by
   rw [mem_ready]
   refine ⟨h2, ops[i], Array.getElem?_eq_getElem h1, fun e he hb => ?_⟩
   have ho : ops[i]? = some ops[i] := Array.getElem?_eq_getElem h1
   obtain ⟨r, hr⟩ := R.recAt ho
   obtain ⟨p, hp⟩ := ancV_edge (R.ok i _ r ho hr).an e (by simpa using he) hb
   have hlt := (List.getElem?_eq_some_iff.1 hp).1
   simp only [List.length_take] at hlt
   have h4 := h3 e.on (by omega)
   rw [getD_true (by omega)] at h4
   exact h4
  rw [he] at this; cases this
 have done : ∀ (listed : Array Bool), listed.size = ops.size → cntU listed ops.size = 0 → ∀ k, k < recs.length → listed.getD k false = true := fun listed hs hc k hk => by
  rw [R.len] at hk
  rw [← getD_true (by omega)]
  exact cntU_none hc k hk
 intro fuel
 induction fuel with
 | zero =>
  intro listed σ a w hs hc I
  refine ⟨?_, hQ _ σ a w (done listed hs (by omega)) I⟩
  cases hr : Region.ready .any ops listed with
  | nil => rfl
  | cons i l =>
   have hi : i ∈ Region.ready .any ops listed := by rw [hr]; simp
   obtain ⟨h1, o, ho, _⟩ := mem_ready.1 hi
   have := cntU_none (l := listed) (n := ops.size) (by omega) i (Array.getElem?_eq_some_iff.1 ho).1
   rw [this] at h1; cases h1
 | succ fuel ih =>
  intro listed σ a w hs hc I
  refine ⟨fun he => ?_, fun k hk => ?_⟩
  ·by_cases h0 : cntU listed ops.size = 0
   ·exact hQ _ σ a w (done listed hs h0) I
   ·exact absurd he (rdy listed hs h0)
  ·obtain ⟨hu, o, ho, hall⟩ := mem_ready.1 hk
   obtain ⟨r, hr⟩ := R.recAt ho
   obtain ⟨hkl, hDk⟩ := getD_undone hu
   have K := R.ok k o r ho hr
   have han : ∀ j ∈ r.an, listed.getD j false = true := fun j hj => by
    obtain ⟨e, he, hb, p, hp, h⟩ := (ancV_ok K.an j).1 hj
    have h1 := hall e (by simpa using he) hb
    rcases h with rfl | h
    ·exact h1
    ·have hlt := (List.getElem?_eq_some_iff.1 hp).1
     simp only [List.length_take] at hlt
     exact I.down e.on p (by rw [List.getElem?_take_of_lt (by omega)] at hp; exact hp) h1 j h
   have hD' : ∀ j, (listed.setIfInBounds k true).getD j false = if j = k then true else listed.getD j false := fun j => by
    split
    ·rename_i e; subst e; simp [hkl]
    ·rename_i e; rw [getD_set_ne false (Ne.symm e)]
   have hcnt : cntU (listed.setIfInBounds k true) ops.size ≤ fuel := by
    have := cntU_set hu ops.size
    rw [if_pos (Array.getElem?_eq_some_iff.1 ho).1] at this
    omega
   have htm : ∀ t ∈ r.lo, ∀ v, tg (tsA ts0 (recs.take k)) t = some v → renV σ v = some (a.tmps.getD t undef) := fun t ht => by
    have := I.ts t
    rw [I.tmps R hr hDk han ht] at this
    exact this
   have hguard : ∀ j want oj d, o.guard = some (j, want) → ops[j]? = some oj → oj.dst = some d → d ∈ r.lo := fun j want oj d hg hj hd => by
    rw [K.lo]
    unfold loN
    simp [hg, hj, hd]
   unfold wpOpIn
   simp only [ho]
   have hnx : r.nx = nxA nx0 (recs.take k) := K.enx
   rcases K.run with ⟨hw, hv, hef, hnx'⟩ | ⟨hw, rh, r', d, hsub, hrd, hef, hdo⟩
   ·have hwant := wantV_ok (σ := σ) (tmps := a.tmps) hw (fun j want oj dd hg hj hd => htm dd (hguard j want oj dd hg hj hd))
    rw [if_neg (by rw [hwant]; exact Bool.false_ne_true)]
    refine ⟨fun f _ => by rw [hF.1]; trivial, ih _ σ _ w (by simpa using hs) hcnt ?_⟩
    have S0 : Stp W r.nx r.nx' σ [] w σ [] w := by
     have : r.nx' = r.nx := by rw [hnx', K.enx]
     rw [this]
     exact Stp.refl (I.rl.sub fun n x e => by simp [lk] at e) _
    have := I.put R hr hDk han hD' (rh := []) (r' := []) (fun n x e => by simp [lk] at e) S0 (fun n x e => by rw [hef] at e; simp [assoc] at e) (fun n x _ e => by simp [lk] at e) (v' := undef) (by rw [hv]; rfl)
    rw [K.dst] at this
    exact this
   ·have hwant := wantV_ok (σ := σ) (tmps := a.tmps) hw (fun j want oj dd hg hj hd => htm dd (hguard j want oj dd hg hj hd))
    rw [if_pos hwant]
    have hrow : ∀ n x, lk rh n = some x → rowsAt recs h0 (fun k => listed.getD k false) n = some x := fun n x e => by
     rw [I.rows R hr hDk han (by rw [hrd]; exact lk_names e)]
     exact hsub n x e
    have hkr : k < recs.length := (List.getElem?_eq_some_iff.1 hr).1
    have hBr : Bd rh (nxA nx0 (recs.take k)) := fun m hm => by
     cases hl : lk rh m with
     | none => rfl
     | some x => have := hsub m x hl; rw [R.bds hB k (by omega) m hm] at this; cases this
    have hfr : Fresh σ (nxA nx0 (recs.take k)) r.nx' := fun n h1 h2 => by
     have ho := I.only n fun j p hj hd hin => by
      rcases Nat.lt_trichotomy j k with h | h | h
      ·have := R.sep hj hr h; omega
      ·subst h; rw [hDk] at hd; cases hd
      ·have := R.sep hr hj h; omega
     have hle : r.nx' ≤ nxA nx0 recs := by
      have := R.nxm (k + 1) recs.length (by omega)
      rw [R.nxs hr, List.take_length] at this
      exact this
     have hge : nx0 ≤ nxA nx0 (recs.take k) := by
      have := R.nxm 0 k (by omega)
      simpa [nxA] using this
     have := hf n (by omega) (by omega)
     exact ⟨ho.1.trans this.1, ho.2.trans this.2⟩
    refine hdo.2 hBr W σ w a (I.rl.sub hrow) hfr (evs_R fun t ht => htm t ht) F m hF _ _ fun σ' w' v' S hv => ?_
    refine ih _ σ' _ w' (by simpa using hs) hcnt ?_
    have t := hdo.1
    have S' : Stp W r.nx r.nx' σ rh w σ' r' w' := by rw [hnx]; exact S
    have hu : ∀ n, assoc r.ef n = if n ∈ d then some (lk r' n) else if nxA nx0 (recs.take k) ≤ n then (lk r' n).map some else none := fun n => by
     rw [hef, assoc_app, assoc_old, assoc_new]
     split <;> simp_all
    have := I.put R hr hDk han hD' (rh := rh) (r' := r') hrow S' (fun n x e => by
     rw [hu] at e
     split at e
     ·exact Option.some.inj e
     ·split at e
      ·cases hl : lk r' n with
       | none => rw [hl] at e; simp at e
       | some y => rw [hl] at e; simp at e; rw [e]
      ·cases e) (fun n x e hx => by
     rw [hu] at e
     split at e
     ·cases e
     ·rename_i hnd
      have hlt : n < nxA nx0 (recs.take k) := by
       rcases Nat.lt_or_ge n (nxA nx0 (recs.take k)) with h | h
       ·exact h
       ·rw [hBr n h] at hx; cases hx
      have := t.2.1 n hlt hnd
      simp only at this
      rw [this]; exact hx) hv
    rw [K.dst] at this
    exact this
end
section
variable {E : Env} {call : FuncId → List Value → Hp → Nat → Option Out}
theorem oldN_mem {nx n : Nat} (hn : n < nx) : ∀ {l : List (Nat × Option Rw)}, n ∈ l.map (·.1) → n ∈ oldN nx l
 | [], h => by cases h
 | (m, r) :: t, h => by
   simp only [List.map_cons, List.mem_cons] at h
   simp only [oldN]
   cases hm : Nat.blt m nx with
   | true =>
    simp only [cond_true, List.mem_cons]
    exact h.imp id fun h => oldN_mem hn h
   | false =>
    simp only [cond_false]
    rcases h with rfl | h
    ·have : Nat.blt n nx = true := Nat.ble_eq_true_of_le hn
     rw [this] at hm; cases hm
    ·exact oldN_mem hn h
theorem dirty_mem {nx n : Nat} (hn : n < nx) : ∀ {l : List Rec} {r : Rec}, r ∈ l → n ∈ r.ef.map (·.1) → n ∈ dirtyV nx l
 | [], r, h, _ => by cases h
 | s :: l, r, h, hm => by
   simp only [dirtyV, List.mem_append]
   rcases List.mem_cons.1 h with rfl | h
   ·exact .inl (oldN_mem hn hm)
   ·exact .inr (dirty_mem hn h hm)
theorem repl_false {n k : Nat} (h : (Array.replicate n false).getD k false = true) : False := by
 rw [Array.getD_eq_getD_getElem?, Array.getElem?_replicate] at h
 split at h <;> cases h
theorem drawR_ok (hm : E.P.follows .mixedOrders = true) {ops : Array Oper} {id : Nat} {ts : Tm} {h : Hp} {nx : Nat} {recs : List Rec} (R : Run E ops recs ts h nx) {ts1 : Tm} {h1 : Hp} {nx1 : Nat} (e3 : ts1 = tsA ts recs) (e4 : h1 = hpA h recs) (e5 : nx1 = nxA nx recs) :
  Tidy h nx h1 nx1 (dirtyV nx recs) ∧ (Bd h nx → ∀ W σ w a, Rl W σ h w → Fresh σ nx nx1 → RT σ ts a.tmps → ∀ ds, a.defers = ds → ∀ (F : Fence) (m : Nat), Wide F → ∀ Q : Exit → Act → World → Prop,
   (∀ σ' w' a', Stp W nx nx1 σ h w σ' h1 w' → RT σ' ts1 a'.tmps → a'.defers = ds → Q .normal a' w') → (Code.region id ops true).wpIn F m E.P Q a w) := by
 have hbd := fun hB => R.bds hB recs.length (Nat.le_refl _)
 have hnm := R.nxm 0 recs.length (Nat.zero_le _)
 rw [List.take_length] at hbd hnm
 simp only [List.take_zero] at hnm
 have hnm' : nx ≤ nxA nx recs := hnm
 have hrows : ∀ n, lk h1 n = fld (fun r => assoc r.ef n) (fun _ => true) 0 recs (lk h n) := fun n => by rw [e4]; exact hpA_get n recs h 0
 refine ⟨⟨by rw [e5]; exact hnm', fun n hn hd => ?_, fun hB => by rw [e4, e5]; exact hbd hB⟩, fun hB W σ w a hR hf ht ds hdf F m hF Q hQ => ?_⟩
 ·rw [hrows]
  refine fld_none recs 0 _ fun j r hj _ => ?_
  cases hu : assoc r.ef n with
  | none => rfl
  | some o => exact (hd (dirty_mem hn (List.mem_of_getElem? hj) (assoc_mem (by rw [hu]; simp)))).elim
 ·refine wpIn_region_any hm ?_
  have hd := Stp.drew hR nx
  have base : ∀ n, rowsAt recs h (fun k => (Array.replicate ops.size false).getD k false) n = lk h n := fun n => fld_none recs 0 _ fun j r hj hd => (repl_false hd).elim
  have baset : ∀ t, tmpAt recs ts (fun k => (Array.replicate ops.size false).getD k false) t = tg ts t := fun t => fld_none recs 0 _ fun j r hj hd => (repl_false hd).elim
  have nod : ∀ k, (Array.replicate ops.size false).getD k false = true → False := fun k hd => repl_false hd
  have hw : ({ w with drawn := w.drawn + 1 } : World) = w.drew := rfl
  rw [hw]
  refine draw_any (ds := ds) hF (W := W) (σ0 := σ) (w0 := w.drew) R hB (by rw [← e5]; exact hf) (fun D σ' a' w' hD I => ?_) ops.size _ σ a w.drew (by simp) ?_ ?_
  ·have hrw : ∀ n, rowsAt recs h D n = lk h1 n := fun n => by
    rw [hrows]
    exact fld_congr recs 0 _ fun j r hj _ => by rw [Nat.zero_add]; exact hD j (List.getElem?_eq_some_iff.1 hj).1
   have htw : ∀ t, tmpAt recs ts D t = tg ts1 t := fun t => by
    rw [e3, tsA_get t recs ts 0 ht.b]
    exact fld_congr recs 0 _ fun j r hj _ => by rw [Nat.zero_add]; exact hD j (List.getElem?_eq_some_iff.1 hj).1
   have hrl : Rl W σ' h1 w' := I.rl.sub fun n r e => by rw [hrw]; exact e
   refine hQ σ' w' a' (hd.trans ⟨I.le, fun n hn => I.only n fun k r hk _ hin => ?_, hrl, I.size, I.fr, fun n r p hn => I.src n r p (by rw [hrw]; exact hn), fun n r k hn => I.ssrc n r k (by rw [hrw]; exact hn), fun n r k hn => I.xsrc n r k (by rw [hrw]; exact hn)⟩ (Nat.le_refl _) (by rw [e5]; exact hnm')) ?_ I.defers
   ·have h2 := R.nxm (k + 1) recs.length (by have := (List.getElem?_eq_some_iff.1 hk).1; omega)
    have h3 := R.nxm 0 k (Nat.zero_le _)
    rw [R.nxs hk, List.take_length] at h2
    obtain ⟨o, ho⟩ := R.opAt hk
    have h4 := (R.ok k o r ho hk).enx
    have h5 : nx ≤ nxA nx (recs.take k) := h3
    rw [e5] at hn
    omega
   ·have hn1 : ∀ (l : List Rec) (ts : Tm), (tsA ts l).n = ts.n := by
     intro l
     induction l with
     | nil => intro ts; rfl
     | cons r l ih => intro ts; show (tsA (putV ts r.dst r.val) l).n = ts.n; rw [ih, putV_n]
    have en : ts1.n = ts.n := by rw [e3, hn1]
    exact ⟨by rw [en]; exact I.tn, by rw [en]; exact ht.b, fun t v e => I.ts t v (by rw [htw]; exact e)⟩
  ·have : ∀ n, cntU (Array.replicate ops.size false) n ≤ n := fun n => by
    induction n with
    | zero => simp [cntU]
    | succ n ih => simp only [cntU]; split <;> omega
   exact this _
  ·refine ⟨⟨hd.rl.ext, fun n r e => hd.rl.row n r (by rw [base] at e; exact e), fun n m r s p q a b => hd.rl.inj n m r s p q (by rw [base] at a; exact a) (by rw [base] at b; exact b), hd.rl.wf, fun n r e => hd.rl.shr.1 n r (by rw [base] at e; exact e), fun n r k e hk => ⟨(hd.rl.shr.2.1 n r k (by rw [base] at e; exact e) hk).1, fun m s q a => (hd.rl.shr.2.1 n r k (by rw [base] at e; exact e) hk).2 m s q (by rw [base] at a; exact a)⟩, fun n r k e hk => ⟨(hd.rl.shr.2.2 n r k (by rw [base] at e; exact e) hk).1, fun m s q a => (hd.rl.shr.2.2 n r k (by rw [base] at e; exact e) hk).2.1 m s q (by rw [base] at a; exact a), fun m s a => (hd.rl.shr.2.2 n r k (by rw [base] at e; exact e) hk).2.2 m s (by rw [base] at a; exact a)⟩⟩, fun t v hv => ?_, ht.n, ht.b, Sg.le.refl σ, fun _ _ => ⟨rfl, rfl⟩, Nat.le_refl _, fun _ _ _ _ => rfl, fun n r p hn ho hb => .inr ⟨n, r, p, by rw [base] at hn; exact hn, ho, hb, rfl⟩, fun n r k hn hk => .inr (.inr ⟨n, r, by rw [base] at hn; exact hn, hk⟩), fun n r k hn hk => .inr (.inr ⟨n, r, by rw [base] at hn; exact hn, hk⟩), hdf, fun j p hj hD => (nod j hD).elim⟩
   rw [baset] at hv
   exact ht.s t v hv
theorem drawV_ok (hX : XOk E) (hC : COk E.P call) (hm : E.P.follows .mixedOrders = true) {ops : Array Oper} {id : Nat} {ts : Tm} {h : Hp} {nx : Nat} {ts' : Tm} {h' : Hp} {nx' : Nat} {d : List Nat} (hs : drawV E call ops ts h nx = some (ts', h', nx', d)) :
  Tidy h nx h' nx' d ∧ (Bd h nx → ∀ W σ w a, Rl W σ h w → Fresh σ nx nx' → RT σ ts a.tmps → ∀ ds, a.defers = ds → ∀ (F : Fence) (m : Nat), Wide F → ∀ Q : Exit → Act → World → Prop,
   (∀ σ' w' a', Stp W nx nx' σ h w σ' h' w' → RT σ' ts' a'.tmps → a'.defers = ds → Q .normal a' w') → (Code.region id ops true).wpIn F m E.P Q a w) := by
 unfold drawV at hs
 split at hs
 case h_2 => cases hs
 rename_i recs ts1 h1 nx1 hgo
 simp only [oI, pI] at hs
 obtain ⟨rfl, rfl, rfl, rfl⟩ := hs
 obtain ⟨news, e1, e2, e3, e4, e5, hall⟩ := drawGo_spec _ _ _ _ _ _ _ _ _ hgo
 simp only [List.nil_append] at e1
 subst e1
 exact drawR_ok hm (⟨by simpa using e2, fun k o r ho hr => by
  have := hall k o r (by simpa using ho) hr
  simp only [List.nil_append] at this
  exact recV_ok hX hC this⟩ : Run E ops recs ts h nx) e3 e4 e5
end
def tmL (ts : Tm) : Nat → List Value → List Value
 | 0, acc => acc
 | k + 1, acc => match tg ts k with
  | some v => tmL ts k (v :: acc)
  | none => []
theorem tmL_ok {σ : Sg} {ts : Tm} {tmps : Array Value} (ht : RT σ ts tmps) {v : Value} {tm : List Value} : ∀ (k : Nat) (acc acc' : List Value), k ≤ tmps.size → renL σ acc = some acc' → tmL ts k acc = v :: tm → renL σ (v :: tm) = some (tmps.toList.take k ++ acc')
 | 0, acc, acc', _, h, e => by simp only [tmL] at e; rw [← e]; simpa using h
 | k + 1, acc, acc', hk, h, he => by
   have hlt : k < tmps.size := by omega
   have e : tmps.toList.take (k + 1) ++ acc' = tmps.toList.take k ++ (tmps[k] :: acc') := by
    rw [List.take_add_one]; simp [hlt]
   rw [e]
   simp only [tmL] at he
   split at he
   ·rename_i u hu
    have h1 := ht.s k u hu
    simp only [Array.getD_eq_getD_getElem?, Array.getElem?_eq_getElem hlt, Option.getD_some] at h1
    exact tmL_ok ht k _ _ (by omega) (renL_mk h1 h) he
   ·cases he
def putL : Tm → List Tmp → List Value → Tm
 | ts, t :: l, v :: vs => putL (tput ts t v) l vs
 | ts, _, _ => ts
def putA : Array Value → List Tmp → List Value → Array Value
 | a, t :: l, v :: vs => putA (a.setIfInBounds t v) l vs
 | a, _, _ => a
theorem putL_ok {σ : Sg} : ∀ {l : List Tmp} {vs vs' : List Value} {ts : Tm} {tmps : Array Value}, RT σ ts tmps → renL σ vs = some vs' → RT σ (putL ts l vs) (putA tmps l vs')
 | [], vs, vs', ts, tmps, h, hv => by simpa [putL, putA] using h
 | t :: l, [], vs', ts, tmps, h, hv => by simp only [renL, oI] at hv; subst hv; simpa [putL, putA] using h
 | t :: l, v :: vs, vs', ts, tmps, h, hv => by
   obtain ⟨a, b, h1, h2, rfl⟩ := renL_cons hv
   show RT σ (putL (tput ts t v) l vs) (putA (tmps.setIfInBounds t a) l b)
   exact putL_ok (h.put t h1) h2
theorem putA_eq : ∀ (l : List Tmp) (vs : List Value) (a : Array Value), (l.zip vs).foldl (fun tmps x => tmps.setIfInBounds x.1 x.2) a = putA a l vs
 | [], vs, a => by simp [putA]
 | t :: l, [], a => by simp [putA]
 | t :: l, v :: vs, a => by simpa [putA] using putA_eq l vs _

def dfR (σ : Sg) : List Nat → Option (List Deferred)
 | [] => some []
 | n :: ms => match σ.b n, dfR σ ms with | some p, some ds => some ({ target := .collected p.1, args := #[] } :: ds) | _, _ => none
theorem dfR_le {σ τ : Sg} (h : σ.le τ) : ∀ {ms : List Nat} {ds : List Deferred}, dfR σ ms = some ds → dfR τ ms = some ds
 | [], ds, e => e
 | n :: ms, ds, e => by
   simp only [dfR] at e ⊢
   split at e
   ·rename_i p ds' h1 h2; rw [h.1 n p h1, dfR_le h h2]; exact e
   ·cases e
theorem dfR_app {σ : Sg} : ∀ {ms ms' : List Nat} {ds ds' : List Deferred}, dfR σ ms = some ds → dfR σ ms' = some ds' → dfR σ (ms ++ ms') = some (ds ++ ds')
 | [], ms', ds, ds', h, h' => by simp only [dfR, oI] at h; subst h; simpa using h'
 | n :: ms, ms', ds, ds', h, h' => by
   simp only [dfR, List.cons_append] at h ⊢
   split at h
   ·rename_i p d h1 h2; cases h; rw [h1, dfR_app h2 h']; rfl
   ·cases h
def dropM : List Nat → Hp → Option Hp
 | [], h => some h
 | n :: ms, h => match lk h n with
  | some ⟨.marks, _⟩ => dropM ms (delH h n)
  | _ => none
theorem dropM_tidy {nx : Nat} : ∀ {ms : List Nat} {h h' : Hp}, dropM ms h = some h' → (∀ n, lk h n = none → lk h' n = none) ∧ (∀ n, n ∉ ms → lk h' n = lk h n)
 | [], h, h', e => by cases e; exact ⟨fun _ e => e, fun _ _ => rfl⟩
 | m :: ms, h, h', e => by
   simp only [dropM] at e
   split at e
   ·obtain ⟨a, b⟩ := dropM_tidy (nx := nx) e
    refine ⟨fun n hn => a n (by rw [lk_delH]; split <;> simp [hn]), fun n hn => ?_⟩
    rw [b n (fun hm => hn (by simp [hm])), lk_delH, if_neg (fun e => hn (by simp [e]))]
   ·cases e
theorem leaves_marks {P : Program} {F : Fence} {m : Nat} {fn : Func} {tmps : Array Value} {R : Ending → World → Prop} {W : World} {σ : Sg} (lo : Nat) : ∀ {ms : List Nat} {ds : List Deferred} {h h' : Hp} {w : World}, dropM ms h = some h' → dfR σ ms = some ds → Rl W σ h w →
  (∀ w', Stp W lo lo σ h w σ h' w' → LeavesInM F m P fn tmps R [] .returning w') → LeavesInM F m P fn tmps R ds .returning w
 | [], ds, h, h', w, hd, hf, hR, H => by
   simp only [dfR, oI] at hf
   subst hf
   cases hd
   exact H w (Stp.refl hR lo)
 | n :: ms, ds, h, h', w, hd, hf, hR, H => by
   simp only [dropM] at hd
   split at hd
   ·rename_i cs hl
    simp only [dfR] at hf
    split at hf
    ·rename_i p ds' h1 h2
     cases hf
     obtain ⟨b, s, vs, hb, _, hk⟩ := hR.row _ _ hl
     rw [h1] at hb
     cases hb
     have S := Stp.wipe hR hl (fun e => by cases e) h1 (.deferred none) lo
     exact ⟨by simp, .inl ⟨b, _, rfl, run_takeDeferred hk.2.2.2, leaves_marks lo hd h2 S.rl fun w' S' => H w' (S.trans S' (Nat.le_refl _) (Nat.le_refl _))⟩⟩
    ·cases hf
   ·cases hd
inductive Xt where
 | normal
 | exit (id : Nat)
 | ret
def Xt.toExit : Xt → Exit
 | .normal => .normal
 | .exit id => .exit id
 | .ret => .ret
abbrev St5 := Xt × Tm × Hp × Nat × List Nat × List Nat
def nrm : Option St4 → Option St5
 | some (ts, h, nx, d) => some (.normal, ts, h, nx, d, [])
 | none => none
def addD (d ms : List Nat) : Option St5 → Option St5
 | some (x, ts, h, nx, e, ns) => some (x, ts, h, nx, e ++ d, ns ++ ms)
 | none => none
def unB (id : Nat) : Option St5 → Option St5
 | some (.exit i, ts, h, nx, d, ms) => bif Nat.beq i id then some (.normal, ts, h, nx, d, ms) else some (.exit i, ts, h, nx, d, ms)
 | r => r
def itV : Option Value → Option (FuncId × List Value × List Value)
 | some (.func (.func g) f c) => some (g, f.toList, c.toList)
 | _ => none
def notBusy : LoopState → Bool
 | .busy => false
 | _ => true
def codeV (E : Env) (call : FuncId → List Value → Hp → Nat → Option Out) (inr : Bool) : Nat → Code → Tm → Hp → Nat → Option St5
 | 0, _, _, _, _ => none
 | k + 1, c, ts, h, nx => match c with
  | .skip => some (.normal, ts, h, nx, [], [])
  | .label _ => some (.normal, ts, h, nx, [], [])
  | .exit id => some (.exit id, ts, h, nx, [], [])
  | .ret => some (.ret, ts, h, nx, [], [])
  | .region _ ops draw => bif draw then nrm (drawV E call ops ts h nx) else nrm (seqV E call ops ops.toList ts h nx)
  | .seq x y => match codeV E call inr k x ts h nx with
   | some (.normal, ts, h, nx, d, ms) => addD d ms (codeV E call inr k y ts h nx)
   | r => r
  | .cond c x y => match evA ts c with
   | some (.bool b) => bif b then codeV E call inr k x ts h nx else codeV E call inr k y ts h nx
   | _ => none
  | .block id x => unB id (codeV E call inr k x ts h nx)
  | .scope x => codeV E call inr k x ts h nx
  | .loop x => match codeV E call inr k x ts h nx with
   | some (.normal, ts, h, nx, d, ms) => addD d ms (codeV E call inr k (.loop x) ts h nx)
   | r => r
  | .rangeFunc g ps as bd => bif inr then none else (match itV (evA ts g) with
   | some (gf, f, c) => bif Nat.blt gf yBig && entB E.P gf then (match tmL ts ts.n [] with
    | [] => none
    | v :: tm => match call gf (f ++ [.func (.yield (nx + 1)) ⟨[]⟩ ⟨[]⟩] ++ c) ((nx + 1, ⟨.round .ready none (v :: tm) ps as bd, []⟩) :: (nx, ⟨.marks, []⟩) :: h) (nx + 2) with
     | some (_, h2, nx2, d2) => match lk h2 (nx + 1) with
      | some ⟨.round st pe _ _ _ _, _⟩ => bif notBusy st then (match pe with
       | none => some (.normal, ts, delH h2 (nx + 1), nx2, d2, [nx])
       | some cd => addD d2 [nx] (codeV E call inr k cd ts (delH h2 (nx + 1)) nx2)) else none
      | _ => none
     | none => none) else none
   | none => none)
  | _ => none

section
variable {E : Env} {call : FuncId → List Value → Hp → Nat → Option Out}
def Runs (inr : Bool) (wp : Fence → Nat → (Exit → Act → World → Prop) → Act → World → Prop) (ts : Tm) (h : Hp) (nx : Nat) (o : St5) : Prop :=
 Tidy h nx o.2.2.1 o.2.2.2.1 o.2.2.2.2.1 ∧ (Bd h nx → ∀ W σ w a, Rl W σ h w → Fresh σ nx o.2.2.2.1 → RT σ ts a.tmps → ∀ ds, a.defers = ds → ∀ (F : Fence) (m : Nat), Wide F → (inr = false → F.round = none) → ∀ Q : Exit → Act → World → Prop,
   (∀ σ' w' a' es, Stp W nx o.2.2.2.1 σ h w σ' o.2.2.1 w' → RT σ' o.2.1 a'.tmps → dfR σ' o.2.2.2.2.2 = some es → a'.defers = es ++ ds → Q o.1.toExit a' w') → wp F m Q a w)
theorem addD_of {d ms : List Nat} {r : Option St5} {o : St5} (h : addD d ms r = some o) : ∃ e ns, r = some (o.1, o.2.1, o.2.2.1, o.2.2.2.1, e, ns) ∧ o.2.2.2.2.1 = e ++ d ∧ o.2.2.2.2.2 = ns ++ ms := by
 unfold addD at h
 split at h
 ·cases h; exact ⟨_, _, rfl, rfl, rfl⟩
 ·cases h
theorem nrm_of {r : Option St4} {o : St5} (h : nrm r = some o) : o.1 = .normal ∧ o.2.2.2.2.2 = [] ∧ r = some (o.2.1, o.2.2.1, o.2.2.2.1, o.2.2.2.2.1) := by
 unfold nrm at h
 split at h
 ·cases h; exact ⟨rfl, rfl, rfl⟩
 ·cases h
theorem Runs.seq {inr : Bool} {wp1 wp2 wp3 : Fence → Nat → (Exit → Act → World → Prop) → Act → World → Prop} {ts ts1 : Tm} {h h1 : Hp} {nx nx1 : Nat} {d1 ms1 : List Nat} {o : St5} {e ns : List Nat} (hd : o.2.2.2.2.1 = e ++ d1) (hms : o.2.2.2.2.2 = ns ++ ms1) (A : Runs inr wp1 ts h nx (.normal, ts1, h1, nx1, d1, ms1)) (B : Runs inr wp2 ts1 h1 nx1 (o.1, o.2.1, o.2.2.1, o.2.2.2.1, e, ns))
  (H : ∀ F m Q a w, wp1 F m (Exit.then (wp2 F m Q) Q) a w → wp3 F m Q a w) : Runs inr wp3 ts h nx o := by
 obtain ⟨x, ts2, h2, nx2, d2, ms2⟩ := o
 simp only at hd hms B
 subst hd
 subst hms
 obtain ⟨t1, s1⟩ := A
 obtain ⟨t2, s2⟩ := B
 refine ⟨t1.trans t2, fun hB W σ w a hR hf ht ds hdf F m hF hr Q hQ => H F m Q a w (s1 hB W σ w a hR (hf.low t2.1) ht ds hdf F m hF hr _ fun σ1 w1 a1 es1 b1 b2 b4 b3 => ?_)⟩
 exact s2 (t1.2.2 hB) W σ1 w1 a1 b1.rl (hf.next b1 t1.1) b2 (es1 ++ ds) b3 F m hF hr Q fun σ2 w2 a2 es2 c1 c2 c4 c3 => hQ σ2 w2 a2 (es2 ++ es1) (b1.trans c1 t1.1 t2.1) c2 (dfR_app c4 (dfR_le c1.le b4)) (by rw [c3, List.append_assoc])
theorem Runs.out {inr : Bool} {wp1 wp2 wp3 : Fence → Nat → (Exit → Act → World → Prop) → Act → World → Prop} {ts : Tm} {h : Hp} {nx : Nat} {o : St5} (hx : o.1 ≠ .normal) (A : Runs inr wp1 ts h nx o)
  (H : ∀ F m Q a w, wp1 F m (Exit.then (wp2 F m Q) Q) a w → wp3 F m Q a w) : Runs inr wp3 ts h nx o := by
 obtain ⟨t1, s1⟩ := A
 refine ⟨t1, fun hB W σ w a hR hf ht ds hdf F m hF hr Q hQ => H F m Q a w (s1 hB W σ w a hR hf ht ds hdf F m hF hr _ fun σ1 w1 a1 es b1 b2 b4 b3 => ?_)⟩
 have := hQ σ1 w1 a1 es b1 b2 b4 b3
 cases hx1 : o.1 with
 | normal => exact absurd hx1 hx
 | exit id => rw [hx1] at this; exact this
 | ret => rw [hx1] at this; exact this
theorem Runs.as {inr : Bool} {wp1 wp3 : Fence → Nat → (Exit → Act → World → Prop) → Act → World → Prop} {ts : Tm} {h : Hp} {nx : Nat} {o : St5} (A : Runs inr wp1 ts h nx o)
  (H : ∀ F m Q a w (σ : Sg), RT σ ts a.tmps → wp1 F m Q a w → wp3 F m Q a w) : Runs inr wp3 ts h nx o := by
 obtain ⟨t1, s1⟩ := A
 exact ⟨t1, fun hB W σ w a hR hf ht ds hdf F m hF hr Q hQ => H F m Q a w σ ht (s1 hB W σ w a hR hf ht ds hdf F m hF hr Q hQ)⟩
theorem Runs.here {inr : Bool} {wp : Fence → Nat → (Exit → Act → World → Prop) → Act → World → Prop} {ts : Tm} {h : Hp} {nx : Nat} {x : Xt} (H : ∀ F m (Q : Exit → Act → World → Prop) a w, Q x.toExit a w → wp F m Q a w) : Runs inr wp ts h nx (x, ts, h, nx, [], []) :=
 ⟨Tidy.refl _ _, fun _ W σ w a hR hf ht ds hdf F m hF hr Q hQ => H F m Q a w (hQ σ w a [] (Stp.refl hR nx) ht rfl hdf)⟩
theorem stepR_scope {P : Program} {b : Frame} {a : Act} {c : Code} {k : List Item} {cs : List Frame} {w : World} : step P (lone (b.atR a (.code (.scope c) :: k)) cs w) = .next (lone (b.atR a (.code c :: .inScope c :: k)) cs w) :=
 step_lone_go (by simp [stepG, stepG.exec, Frame.atR])
theorem stepR_inScope {P : Program} {b : Frame} {a : Act} {c : Code} {k : List Item} {cs : List Frame} {w : World} : step P (lone (b.atR a (.inScope c :: k)) cs w) = .next (lone (b.atR a k) cs w) :=
 step_lone_go (by simp [stepG, stepG.exec, Frame.atR])
theorem scope_ok {F : Fence} {n : Nat} {P : Program} {c : Code} {Q : Exit → Act → World → Prop} {a : Act} {w : World} (h : c.wpIn F n P (Exit.noGoto Q) a w) : (Code.scope c).wpIn F n P Q a w := by
 intro b k cs hro hb hr
 have h0 : (lone (b.atR a (.code (.scope c) :: k)) cs w).fenced P F := fenced_calm hb hr rfl
 obtain ⟨e, a₁, w₁, hq, harr⟩ := h b (.inScope c :: k) cs hro hb hr
 cases e with
 | normal => exact ⟨.normal, a₁, w₁, hq, .head h0 stepR_scope (StepsIn.trans harr (.one (fenced_calm hb hr rfl) stepR_inScope))⟩
 | exit id =>
  have hx : exitTo id (.inScope c :: k) = exitTo id k := by simp [exitTo]
  exact ⟨.exit id, a₁, w₁, hq, fun k' hk => .head h0 stepR_scope (harr.1 k' (by rw [hx]; exact hk)),
    fun hr' hk => let ⟨k₁, h1, h2⟩ := harr.2 hr' (by rw [hx]; exact hk); ⟨k₁, h1, .head h0 stepR_scope h2⟩⟩
 | goto l => exact hq.elim
 | ret => exact ⟨_, a₁, w₁, hq, .of_steps (.one h0 stepR_scope) harr⟩
 | panic ch => exact ⟨_, a₁, w₁, hq, .of_steps (.one h0 stepR_scope) harr⟩
 | outgrown => exact ⟨_, a₁, w₁, hq, .of_steps (.one h0 stepR_scope) harr⟩
theorem lk_two {nx : Nat} {r s : Rw} {h : Hp} {n : Nat} (hn : n < nx) : lk ((nx + 1, r) :: (nx, s) :: h) n = lk h n := by
 rw [lk_cons, if_neg (by omega), lk_cons, if_neg (by omega)]
def jumpQ (P : Program) : Option Code → Fence → Nat → (Exit → Act → World → Prop) → Act → World → Prop
 | none, _, _, Q => fun a w => Q .normal a w
 | some cd, F, m, Q => cd.wpIn F m P Q
theorem range_ok {ts : Tm} {h : Hp} {nx : Nat} {g : Operand} {ps : Array Tmp} {as bd : Code} {gf : FuncId} {f c tm : List Value} {v : Value} {r : Value} {h2 : Hp} {nx2 : Nat} {d2 : List Nat}
  (hg : itV (evA ts g) = some (gf, f, c)) (hlt : Nat.blt gf yBig = true) (hent : entB E.P gf = true) (htm : tmL ts ts.n [] = v :: tm)
  (hcall : Tri E.P gf (f ++ [.func (.yield (nx + 1)) ⟨[]⟩ ⟨[]⟩] ++ c) ((nx + 1, ⟨.round .ready none (v :: tm) ps as bd, []⟩) :: (nx, ⟨.marks, []⟩) :: h) (nx + 2) (r, h2, nx2, d2))
  {st : LoopState} {pe : Option Code} {tm' : List Value} {ps' : Array Tmp} {as' bd' : Code} {cs' : List Value} (hl : lk h2 (nx + 1) = some ⟨.round st pe tm' ps' as' bd', cs'⟩) (hb : notBusy st = true) {o : St5}
  (ho : Runs false (jumpQ E.P pe) ts (delH h2 (nx + 1)) nx2 o) : Runs false (fun F m Q => (Code.rangeFunc g ps as bd).wpIn F m E.P Q) ts h nx (o.1, o.2.1, o.2.2.1, o.2.2.2.1, o.2.2.2.2.1 ++ d2, o.2.2.2.2.2 ++ [nx]) := by
 obtain ⟨t1, s1⟩ := hcall
 obtain ⟨t2, s2⟩ := ho
 simp only at t1 s1
 have hge : nx ≤ nx2 := Nat.le_trans (by omega) t1.1
 refine ⟨⟨Nat.le_trans hge t2.1, fun n hn hd => ?_, fun hB => t2.2.2 fun n hn => ?_⟩, fun hB W σ w a hR hf ht ds hdf F m hF hr Q hQ => ?_⟩
 ·simp only [List.mem_append, not_or] at hd
  rw [t2.2.1 n (by omega) hd.1, lk_delH, if_neg (by omega), t1.2.1 n (by omega) hd.2]
  exact lk_two hn
 ·rw [lk_delH]
  split
  ·rfl
  ·refine t1.2.2 (fun n hn => ?_) n hn
   rw [lk_cons, if_neg (by omega), lk_cons, if_neg (by omega)]
   exact hB n (by omega)
 ·have hB1 : Bd ((nx + 1, ⟨.round .ready none (v :: tm) ps as bd, []⟩) :: (nx, ⟨.marks, []⟩) :: h) (nx + 2) := fun n hn => by
   rw [lk_cons, if_neg (by omega), lk_cons, if_neg (by omega)]
   exact hB n (by omega)
  simp only at hf hQ
  have hf2 : Fresh σ nx nx2 := hf.low t2.1
  have hf0 : Fresh σ nx (nx + 2) := hf2.low t1.1
  have htl := tmL_ok ht ts.n [] [] (by rw [ht.n]; exact Nat.le_refl _) rfl htm
  rw [ht.n] at htl
  have htl' : renL σ (v :: tm) = some a.tmps.toList := by rw [List.take_of_length_le (by simp), List.append_nil] at htl; exact htl
  refine wpIn_rangeFunc fun fn hfn => ?_
  rw [hr rfl]
  have A1 := Stp.allocO hR (hf0.low (by omega)) (.deferred (some [])) .marks ⟨rfl, hR.ext.size, rfl, heap_alloc_new w _⟩
  have hf1 : Fresh (σ.bind nx (w.heap.size, 0)) (nx + 1) (nx + 1 + 1) := hf0.next A1 (by omega)
  have A2 := Stp.allocO A1.rl hf1 (.loop { state := .ready, pending := none, fn := fn, tmps := a.tmps, params := ps, assign := as, body := bd, defers := w.heap.size }) (.round .ready none (v :: tm) ps as bd)
   ⟨rfl, A1.rl.ext.size, rfl, fn, w.heap.size, a.tmps.toList, renL_le ((A1.le).trans (Sg.le_bind (hf1 _ (Nat.le_refl _) (by omega)).1)) _ _ htl', by rw [heap_alloc_new]⟩
  have A := A1.trans A2 (by omega) (by omega)
  obtain ⟨σ2, hσ2⟩ : ∃ σ2, (σ.bind nx (w.heap.size, 0)).bind (nx + 1) ((w.alloc (.deferred (some []))).heap.size, 0) = σ2 := ⟨_, rfl⟩
  have hb1 : σ2.b nx = some (w.heap.size, 0) := by rw [← hσ2]; simp [Sg.bind]
  have hb2 : σ2.b (nx + 1) = some (w.heap.size + 1, 0) := by rw [← hσ2]; simp [Sg.bind]
  rw [hσ2] at A
  obtain ⟨w1, hw1⟩ : ∃ w1, (w.alloc (.deferred (some []))).alloc (.loop { state := .ready, pending := none, fn := fn, tmps := a.tmps, params := ps, assign := as, body := bd, defers := w.heap.size }) = w1 := ⟨_, rfl⟩
  rw [hw1] at A
  obtain ⟨gv, hgv, hgf⟩ : ∃ gv, evA ts g = some gv ∧ itV (some gv) = some (gf, f, c) := by
   cases he : evA ts g with
   | none => rw [he] at hg; cases hg
   | some gv => rw [he] at hg; exact ⟨gv, rfl, hg⟩
  have hren := evs_of ht g _ hgv
  unfold itV at hgf
  split at hgf
  case h_2 => cases hgf
  rename_i g0 f0 c0 e0
  cases e0
  cases hgf
  obtain ⟨fn', f', c', e1, hf', hc', hfn'⟩ := renV_func hren
  cases hfn'
  have hargs : renL σ2 (f0.toList ++ [.func (.yield (nx + 1)) ⟨[]⟩ ⟨[]⟩] ++ c0.toList) = some (f'.toList ++ [.func (.yield (w.heap.size + 1)) #[] #[]] ++ c'.toList) :=
   renL_app (renL_app (renL_le A.le _ _ hf') (renL_mk (by simp only [renV, fnR, hb2, renA, renL]) rfl)) (renL_le A.le _ _ hc')
  refine ⟨w.heap.size + 1, [{ target := .collected w.heap.size, args := #[] }], w1, { target := .fn (.func gf) c', args := f' ++ #[.func (.yield (w.heap.size + 1)) #[] #[]] }, w1, gf, f' ++ #[.func (.yield (w.heap.size + 1)) #[] #[]] ++ c', w1, ?_, ?_, fun f _ => by rw [hF.1]; trivial, ?_, fun h' => (by rw [hF.2.1] at h'; cases h'), hF.calls ?_⟩
  ·rw [← hw1]; exact run_enterLoop_outer _ _ _ _ _
  ·simp only [resolve, e1]
   simp [go_sem, Deferred.ofValue]
  ·simp only [invoke]; exact run_enter hent _ _
  ·have hS := s1 hB1 W σ2 w1 _ A.rl (hf2.next A (by omega)) hargs
   have e2 : (f'.toList ++ [Value.func (.yield (w.heap.size + 1)) #[] #[]] ++ c'.toList).toArray = f' ++ #[Value.func (.yield (w.heap.size + 1)) #[] #[]] ++ c' := by
    apply Array.toList_inj.1; simp
   rw [e2] at hS
   refine hS.mono ?_
   rintro e w2 ⟨σ3, u, S, hu, rfl⟩
   obtain ⟨b, s, vs, hbb, _, hk⟩ := S.rl.row _ _ hl
   have hbb' := S.le.1 _ _ hb2
   rw [hbb'] at hbb
   cases hbb
   obtain ⟨_, _, _, fn2, D2, tv2, _, hrec⟩ := hk
   have Wp := Stp.wipe S.rl hl (fun e => by cases e) hbb' (.loop { state := .exhausted, pending := pe, fn := fn2, tmps := tv2.toArray, params := ps', assign := as', body := bd', defers := D2 }) nx2
   have SS := S.trans Wp t1.1 (Nat.le_refl _)
   have SA := A.trans SS (by omega) t1.1
   refine ⟨pe, _, run_endLoop hrec (by rintro rfl; cases hb), ?_⟩
   have key := s2 (fun n hn => by
    rw [lk_delH]
    split
    ·rfl
    ·exact t1.2.2 hB1 n hn) W σ3 _ { a with defers := [{ target := .collected w.heap.size, args := #[] }] ++ a.defers } SA.rl (hf.next SA hge) (ht.le SA.le) _ rfl F m hF hr Q fun σ4 w4 a4 es b1 b2 b4 b3 => hQ σ4 w4 a4 (es ++ [{ target := .collected w.heap.size, args := #[] }]) (SA.trans b1 hge t2.1) b2
     (dfR_app b4 (by simp only [dfR, b1.le.1 _ _ (S.le.1 _ _ hb1)])) (by rw [b3]; simp [hdf])
   cases pe with
   | none => exact key
   | some cd => exact key
theorem codeV_ok (hX : XOk E) (hC : COk E.P call) (hm : E.P.follows .mixedOrders = true) {inr : Bool} : ∀ (k : Nat),
  (∀ (c : Code) (ts : Tm) (h : Hp) (nx : Nat) (o : St5), codeV E call inr k c ts h nx = some o → Runs inr (fun F m Q => c.wpIn F m E.P Q) ts h nx o) ∧
  (∀ (x : Code) (ts : Tm) (h : Hp) (nx : Nat) (o : St5), codeV E call inr k (.loop x) ts h nx = some o → Runs inr (fun F m Q => Code.roundsIn F m E.P x Q k) ts h nx o)
 | 0 => ⟨fun c ts h nx o hs => by simp [codeV] at hs, fun c ts h nx o hs => by simp [codeV] at hs⟩
 | k + 1 => by
   obtain ⟨ih, ihl⟩ := codeV_ok hX hC hm (inr := inr) k
   have loopK : ∀ (x : Code) (ts : Tm) (h : Hp) (nx : Nat) (o : St5), codeV E call inr (k + 1) (.loop x) ts h nx = some o → Runs inr (fun F m Q => Code.roundsIn F m E.P x Q (k + 1)) ts h nx o := by
    intro x ts h nx o hs
    simp only [codeV] at hs
    split at hs
    ·rename_i ts1 h1 nx1 d1 ms1 h2
     obtain ⟨e, ns, he, hd, hms⟩ := addD_of hs
     exact Runs.seq hd hms (ih _ _ _ _ _ h2) (ihl _ _ _ _ _ he) fun F m Q a w hh => by rw [roundsIn_succ]; exact hh
    ·rename_i hno
     refine Runs.out (wp2 := fun F m Q => Code.roundsIn F m E.P x Q k) (fun e => ?_) (ih _ _ _ _ _ hs) fun F m Q a w hh => by rw [roundsIn_succ]; exact hh
     obtain ⟨x1, ts1, h1, nx1, d1, ms1⟩ := o
     simp only at e
     subst e
     exact hno _ _ _ _ _ hs
   refine ⟨fun c ts h nx o hs => ?_, loopK⟩
   cases c with
   | loop x => exact (loopK x ts h nx o hs).as fun F m Q a w σ ht hh => wpIn_loop_rounds (k + 1) hh
   | skip => simp only [codeV, oI] at hs; subst hs; exact Runs.here fun F m Q a w => wpIn_skip
   | label l => simp only [codeV, oI] at hs; subst hs; exact Runs.here fun F m Q a w => wpIn_label
   | exit id => simp only [codeV, oI] at hs; subst hs; exact Runs.here fun F m Q a w => wpIn_exit
   | ret => simp only [codeV, oI] at hs; subst hs; exact Runs.here fun F m Q a w => wpIn_ret
   | region id ops draw =>
    simp only [codeV] at hs
    cases draw with
    | true =>
     simp only [cond_true] at hs
     obtain ⟨e1, e3, e2⟩ := nrm_of hs
     obtain ⟨x, ts', h', nx', d, ms⟩ := o
     simp only at e1 e2 e3
     subst e1
     subst e3
     obtain ⟨t1, s1⟩ := drawV_ok (id := id) hX hC hm e2
     exact ⟨t1, fun hB W σ w a hR hf ht ds hdf F m hF _ Q hQ => s1 hB W σ w a hR hf ht ds hdf F m hF Q fun σ' w' a' b1 b2 b3 => hQ σ' w' a' [] b1 b2 rfl b3⟩
    | false =>
     simp only [cond_false] at hs
     obtain ⟨e1, e3, e2⟩ := nrm_of hs
     obtain ⟨x, ts', h', nx', d, ms⟩ := o
     simp only at e1 e2 e3
     subst e1
     subst e3
     obtain ⟨t1, s1⟩ := seqV_ok hX hC ops.toList ts h nx ts' h' nx' d e2
     exact ⟨t1, fun hB W σ w a hR hf ht ds hdf F m hF _ Q hQ => wpIn_region_list (s1 hB W σ w a hR hf ht ds hdf F m hF Q fun σ' w' a' b1 b2 b3 => hQ σ' w' a' [] b1 b2 rfl b3)⟩
   | seq x y =>
    simp only [codeV] at hs
    split at hs
    ·rename_i ts1 h1 nx1 d1 ms1 h2
     obtain ⟨e, ns, he, hd, hms⟩ := addD_of hs
     exact Runs.seq hd hms (ih _ _ _ _ _ h2) (ih _ _ _ _ _ he) fun F m Q a w hh => wpIn_seq hh
    ·rename_i hno
     refine Runs.out (wp2 := fun F m Q => y.wpIn F m E.P Q) (fun e => ?_) (ih _ _ _ _ _ hs) fun F m Q a w hh => wpIn_seq hh
     obtain ⟨x1, ts1, h1, nx1, d1, ms1⟩ := o
     simp only at e
     subst e
     exact hno _ _ _ _ _ hs
   | cond c x y =>
    simp only [codeV] at hs
    split at hs
    ·rename_i b hc
     have hev : ∀ (σ : Sg) (a : Act), RT σ ts a.tmps → a.eval c = .bool b := fun σ a ht => by
      have := evs_of ht c _ hc
      simp only [renV, oI] at this
      exact this.symm
     cases b with
     | true => exact (ih x _ _ _ _ hs).as fun F m Q a w σ ht hh => wpIn_cond_true (hev σ a ht) hh
     | false => exact (ih y _ _ _ _ hs).as fun F m Q a w σ ht hh => wpIn_cond_false (hev σ a ht) hh
    ·cases hs
   | scope x =>
    simp only [codeV] at hs
    obtain ⟨t1, s1⟩ := ih x _ _ _ _ hs
    refine ⟨t1, fun hB W σ w a hR hf ht ds hdf F m hF hr Q hQ => scope_ok (s1 hB W σ w a hR hf ht ds hdf F m hF hr _ fun σ' w' a' es b1 b2 b4 b3 => ?_)⟩
    have := hQ σ' w' a' es b1 b2 b4 b3
    cases hx : o.1 <;> rw [hx] at this <;> exact this
   | block id x =>
    simp only [codeV] at hs
    unfold unB at hs
    split at hs
    ·rename_i i ts1 h1 nx1 d1 ms1 he
     obtain ⟨t1, s1⟩ := ih x _ _ _ _ he
     rcases bif_or hs with ⟨hb, hs⟩ | ⟨hb, hs⟩
     ·cases hs
      have := Nat.eq_of_beq_eq_true hb
      subst this
      refine ⟨t1, fun hB W σ w a hR hf ht ds hdf F m hF hr Q hQ => wpIn_block (s1 hB W σ w a hR hf ht ds hdf F m hF hr _ fun σ' w' a' es b1 b2 b4 b3 => ?_)⟩
      simp only [Xt.toExit, Exit.inBlock, if_true]
      exact hQ σ' w' a' es b1 b2 b4 b3
     ·cases hs
      have hne : i ≠ id := fun e => by subst e; simp at hb
      refine ⟨t1, fun hB W σ w a hR hf ht ds hdf F m hF hr Q hQ => wpIn_block (s1 hB W σ w a hR hf ht ds hdf F m hF hr _ fun σ' w' a' es b1 b2 b4 b3 => ?_)⟩
      simp only [Xt.toExit, Exit.inBlock, if_neg hne]
      exact hQ σ' w' a' es b1 b2 b4 b3
    ·rename_i hno
     obtain ⟨t1, s1⟩ := ih x _ _ _ _ hs
     refine ⟨t1, fun hB W σ w a hR hf ht ds hdf F m hF hr Q hQ => wpIn_block (s1 hB W σ w a hR hf ht ds hdf F m hF hr _ fun σ' w' a' es b1 b2 b4 b3 => ?_)⟩
     have := hQ σ' w' a' es b1 b2 b4 b3
     obtain ⟨x1, ts1, h1, nx1, d1, ms1⟩ := o
     cases x1 with
     | exit i => exact (hno _ _ _ _ _ _ hs).elim
     | normal => exact this
     | ret => exact this
   | rangeFunc g ps as bd =>
    simp only [codeV] at hs
    rcases bif_or hs with ⟨hb, hs⟩ | ⟨hb, hs⟩
    ·cases hs
    subst hb
    split at hs
    case h_2 => cases hs
    rename_i gf f c hg
    obtain ⟨hc, hs⟩ := bif_of hs
    simp only [Bool.and_eq_true] at hc
    split at hs
    case h_1 => cases hs
    rename_i v tm htm
    split at hs
    case h_2 => cases hs
    rename_i r h2 nx2 d2 hcall
    split at hs
    case h_2 => cases hs
    rename_i st pe tm' ps' as' bd' cs' hl
    obtain ⟨hnb, hs⟩ := bif_of hs
    cases pe with
    | none =>
     simp only [oI] at hs
     subst hs
     exact range_ok hg hc.1 hc.2 htm (hC.fn gf _ _ _ _ hcall (Nat.le_of_ble_eq_true hc.1)) hl hnb (o := (.normal, ts, delH h2 (nx + 1), nx2, [], [])) (Runs.here fun F m Q a w hq => hq)
    | some cd =>
     obtain ⟨e, ns, he, hd, hms⟩ := addD_of hs
     obtain ⟨x1, ts1, h1, nx1, d1, ms1⟩ := o
     simp only at hd hms he
     subst hd
     subst hms
     exact range_ok hg hc.1 hc.2 htm (hC.fn gf _ _ _ _ hcall (Nat.le_of_ble_eq_true hc.1)) hl hnb (o := (x1, ts1, h1, nx1, e, ns)) (ih cd _ _ _ _ he)
   | _ => simp [codeV] at hs
end

def resV1 (P : Program) (ts : Tm) (h : Hp) : ResultVar → Option Value
 | .tmp t => tg ts t
 | .cell p t => match tg ts p with
  | some (.pointer (some ⟨n, o, none⟩)) => match lk h n with
   | some r => loadV P t r.cs o
   | none => none
  | _ => none
def resVL (P : Program) (ts : Tm) (h : Hp) : List ResultVar → Option (List Value)
 | [] => some []
 | x :: xs => match resV1 P ts h x, resVL P ts h xs with | some v, some vs => some (v :: vs) | _, _ => none
def one? : List Value → Value
 | [v] => v
 | vs => .tuple ⟨vs⟩
def flat1 : Value → Bool
 | .agg c => noAdL c.toList
 | v => noAd v
def flats : List Value → Bool
 | [] => true
 | v :: vs => bif flat1 v then flats vs else false
def oldD (nx : Nat) : List Nat → List Nat
 | [] => []
 | n :: d => bif Nat.blt n nx then n :: oldD nx d else oldD nx d
def leave (h : Hp) (nx : Nat) (vs : List Value) (h' : Hp) (nx' : Nat) (d : List Nat) : Out :=
 match oldD nx d with
 | [] => bif flats vs then (one? vs, h, nx', []) else (one? vs, h', nx', [])
 | d' => (one? vs, h', nx', d')
end Go.Proofs.Ytmoflcoijmmpjaa
