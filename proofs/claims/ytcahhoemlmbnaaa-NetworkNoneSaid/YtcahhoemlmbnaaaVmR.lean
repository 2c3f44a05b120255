/-
  The machine that runs in the kernel, part R: regions that draw their order, the law.
-/
import Derived.Test.YtcahhoemlmbnaaaVmQ
import Derived.OrdersIn
namespace Go.Proofs.Ytcahhoemlmbnaaa
set_option linter.unusedSimpArgs false
set_option linter.unusedVariables false
set_option linter.unusedSectionVars false
open Go Go.RowKit

/-- How many of the first n are not done. -/
def cntU (l : Array Bool) : Nat → Nat
  | 0 => 0
  | n + 1 => cntU l n + (if l.getD n true = false then 1 else 0)
theorem cntU_set {l : Array Bool} {i : Nat} (hi : l.getD i true = false) : ∀ n, cntU (l.setIfInBounds i true) n + (if i < n then 1 else 0) = cntU l n
  | 0 => by simp [cntU]
  | n + 1 => by
      have ih := cntU_set hi n
      simp only [cntU]
      by_cases e : i = n
      · subst e
        have h1 : (l.setIfInBounds i true).getD i true = true := by
          rcases Nat.lt_or_ge i l.size with h | h <;> simp [h]
        rw [h1, hi]
        simp only [Nat.lt_irrefl, if_false, Nat.lt_succ_self, if_true, Bool.true_eq_false] at ih ⊢
        omega
      · rw [getD_set_ne true e]
        have e2 : (if i < n + 1 then 1 else 0 : Nat) = if i < n then 1 else 0 := by
          by_cases h : i < n
          · rw [if_pos h, if_pos (Nat.lt_succ_of_lt h)]
          · rw [if_neg h, if_neg (fun h2 => h (Nat.lt_of_le_of_ne (Nat.le_of_lt_succ h2) e))]
        rw [e2]
        omega
theorem cntU_none {l : Array Bool} : ∀ {n : Nat}, cntU l n = 0 → ∀ i, i < n → l.getD i true = true
  | 0, _, i, h => by omega
  | n + 1, hc, i, h => by
      simp only [cntU] at hc
      rcases Nat.lt_or_ge i n with h1 | h1
      · exact cntU_none (by omega) i h1
      · have : i = n := by omega
        subst this
        cases hb : l.getD i true with
        | true => rfl
        | false => rw [hb] at hc; simp at hc
theorem cntU_some {l : Array Bool} : ∀ {n : Nat}, cntU l n ≠ 0 → ∃ i, i < n ∧ l.getD i true = false ∧ ∀ j, j < i → l.getD j true = true
  | 0, h => by simp [cntU] at h
  | n + 1, h => by
      by_cases h0 : cntU l n = 0
      · simp only [cntU, h0, Nat.zero_add] at h
        refine ⟨n, by omega, ?_, cntU_none h0⟩
        cases hb : l.getD n true with
        | false => rfl
        | true => rw [hb] at h; simp at h
      · obtain ⟨i, h1, h2, h3⟩ := cntU_some h0
        exact ⟨i, by omega, h2, h3⟩
section
variable {E : Env} {ops : Array Oper} {recs : List Rec} {ts0 : Tm} {h0 : Hp} {nx0 : Nat} {W : World} {σ0 : Sg} {w0 : World} {ds : List Deferred}
theorem getD_false {l : Array Bool} {i : Nat} (h : l.getD i false = true) : l.getD i true = true := by
  rcases Nat.lt_or_ge i l.size with h' | h'
  · simp only [Array.getD_eq_getD_getElem?, Array.getElem?_eq_getElem h', Option.getD_some] at h ⊢; exact h
  · simp [Array.getElem?_eq_none h'] at h
theorem getD_true {l : Array Bool} {i : Nat} (hi : i < l.size) : l.getD i true = l.getD i false := by
  simp [Array.getElem?_eq_getElem hi]
theorem getD_undone {l : Array Bool} {i : Nat} (h : l.getD i true = false) : i < l.size ∧ l.getD i false = false := by
  rcases Nat.lt_or_ge i l.size with h' | h'
  · exact ⟨h', by rw [← getD_true h']; exact h⟩
  · simp [Array.getElem?_eq_none h'] at h
theorem evs_R {σ : Sg} {ts : Tm} {a : Act} {lo : List Nat} (h : ∀ t ∈ lo, ∀ v, tg ts t = some v → renV σ v = some (a.tmps.getD t undef)) : Evs σ (evR lo ts) a := by
  intro x v hx
  cases x with
  | tmp t =>
    simp only [evR] at hx
    obtain ⟨hm, hx⟩ := bif_of hx
    rw [h t (memN_iff.1 hm) v hx]; simp [Act.eval]
  | const c =>
    simp only [evR, evA] at hx
    obtain ⟨hc, hx⟩ := bif_of hx
    cases hx; exact noAd_ren σ hc
  | func f => simp only [evR, evA, Option.some.injEq] at hx; subst hx; rfl
  | global g => simp [evR, evA] at hx
theorem draw_any {F : Fence} {m : Nat} (hF : Wide F) (R : Run E ops recs ts0 h0 nx0) (hB : Bd h0 nx0) (hf : Fresh σ0 nx0 (nxA nx0 recs)) {Q : Exit → Act → World → Prop}
    (hQ : ∀ D σ a w, (∀ k, k < recs.length → D k = true) → DInv recs ts0 h0 W σ0 w0 ds D σ a w → Q .normal a w) :
    ∀ (fuel : Nat) (listed : Array Bool) (σ : Sg) (a : Act) (w : World), listed.size = ops.size → cntU listed ops.size ≤ fuel → DInv recs ts0 h0 W σ0 w0 ds (fun k => listed.getD k false) σ a w → wpAnyIn F m E.P .any ops Q fuel listed a w := by
  have rdy : ∀ (listed : Array Bool), listed.size = ops.size → cntU listed ops.size ≠ 0 → Region.ready .any ops listed ≠ [] := fun listed hs hc he => by
    obtain ⟨i, h1, h2, h3⟩ := cntU_some hc
    have : i ∈ Region.ready .any ops listed := by
      rw [mem_ready]
      refine ⟨h2, ops[i], Array.getElem?_eq_getElem h1, fun e he hb => ?_⟩
      have ho : ops[i]? = some ops[i] := Array.getElem?_eq_getElem h1
      obtain ⟨r, hr⟩ := R.recAt ho
      obtain ⟨p, hp⟩ := ancV_edge (R.ok i _ r ho hr).an e (by simpa using he) hb
      have hlt := (List.getElem?_eq_some_iff.1 hp).1
      simp only [List.length_take] at hlt
      have h4 := h3 e.on (by omega)
      rw [getD_true (by omega)] at h4
      exact h4
    rw [he] at this; cases this
  have done : ∀ (listed : Array Bool), listed.size = ops.size → cntU listed ops.size = 0 → ∀ k, k < recs.length → listed.getD k false = true := fun listed hs hc k hk => by
    rw [R.len] at hk
    rw [← getD_true (by omega)]
    exact cntU_none hc k hk
  intro fuel
  induction fuel with
  | zero =>
    intro listed σ a w hs hc I
    refine ⟨?_, hQ _ σ a w (done listed hs (by omega)) I⟩
    cases hr : Region.ready .any ops listed with
    | nil => rfl
    | cons i l =>
      have hi : i ∈ Region.ready .any ops listed := by rw [hr]; simp
      obtain ⟨h1, o, ho, _⟩ := mem_ready.1 hi
      have := cntU_none (l := listed) (n := ops.size) (by omega) i (Array.getElem?_eq_some_iff.1 ho).1
      rw [this] at h1; cases h1
  | succ fuel ih =>
    intro listed σ a w hs hc I
    refine ⟨fun he => ?_, fun k hk => ?_⟩
    · by_cases h0 : cntU listed ops.size = 0
      · exact hQ _ σ a w (done listed hs h0) I
      · exact absurd he (rdy listed hs h0)
    · obtain ⟨hu, o, ho, hall⟩ := mem_ready.1 hk
      obtain ⟨r, hr⟩ := R.recAt ho
      obtain ⟨hkl, hDk⟩ := getD_undone hu
      have K := R.ok k o r ho hr
      have han : ∀ j ∈ r.an, listed.getD j false = true := fun j hj => by
        obtain ⟨e, he, hb, p, hp, h⟩ := (ancV_ok K.an j).1 hj
        have h1 := hall e (by simpa using he) hb
        rcases h with rfl | h
        · exact h1
        · have hlt := (List.getElem?_eq_some_iff.1 hp).1
          simp only [List.length_take] at hlt
          exact I.down e.on p (by rw [List.getElem?_take_of_lt (by omega)] at hp; exact hp) h1 j h
      have hD' : ∀ j, (listed.setIfInBounds k true).getD j false = if j = k then true else listed.getD j false := fun j => by
        split
        · rename_i e; subst e; simp [hkl]
        · rename_i e; rw [getD_set_ne false (Ne.symm e)]
      have hcnt : cntU (listed.setIfInBounds k true) ops.size ≤ fuel := by
        have := cntU_set hu ops.size
        rw [if_pos (Array.getElem?_eq_some_iff.1 ho).1] at this
        omega
      have htm : ∀ t ∈ r.lo, ∀ v, tg (tsA ts0 (recs.take k)) t = some v → renV σ v = some (a.tmps.getD t undef) := fun t ht => by
        have := I.ts t
        rw [I.tmps R hr hDk han ht] at this
        exact this
      have hguard : ∀ j want oj d, o.guard = some (j, want) → ops[j]? = some oj → oj.dst = some d → d ∈ r.lo := fun j want oj d hg hj hd => by
        rw [K.lo]
        unfold loN
        simp [hg, hj, hd]
      unfold wpOpIn
      simp only [ho]
      have hnx : r.nx = nxA nx0 (recs.take k) := K.enx
      rcases K.run with ⟨hw, hv, hef, hnx'⟩ | ⟨hw, rh, r', d, hsub, hrd, hef, hdo⟩
      · have hwant := wantV_ok (σ := σ) (tmps := a.tmps) hw (fun j want oj dd hg hj hd => htm dd (hguard j want oj dd hg hj hd))
        rw [if_neg (by rw [hwant]; exact Bool.false_ne_true)]
        refine ⟨fun f _ => by rw [hF.1]; trivial, ih _ σ _ w (by simpa using hs) hcnt ?_⟩
        have S0 : Stp W r.nx r.nx' σ [] w σ [] w := by
          have : r.nx' = r.nx := by rw [hnx', K.enx]
          rw [this]
          exact Stp.refl (I.rl.sub fun n x e => by simp [lk] at e) _
        have := I.put R hr hDk han hD' (rh := []) (r' := []) (fun n x e => by simp [lk] at e) S0 (fun n x e => by rw [hef] at e; simp [assoc] at e) (fun n x _ e => by simp [lk] at e) (v' := undef) (by rw [hv]; rfl)
        rw [K.dst] at this
        exact this
      · have hwant := wantV_ok (σ := σ) (tmps := a.tmps) hw (fun j want oj dd hg hj hd => htm dd (hguard j want oj dd hg hj hd))
        rw [if_pos hwant]
        have hrow : ∀ n x, lk rh n = some x → rowsAt recs h0 (fun k => listed.getD k false) n = some x := fun n x e => by
          rw [I.rows R hr hDk han (by rw [hrd]; exact lk_names e)]
          exact hsub n x e
        have hkr : k < recs.length := (List.getElem?_eq_some_iff.1 hr).1
        have hBr : Bd rh (nxA nx0 (recs.take k)) := fun m hm => by
          cases hl : lk rh m with
          | none => rfl
          | some x => have := hsub m x hl; rw [R.bds hB k (by omega) m hm] at this; cases this
        have hfr : Fresh σ (nxA nx0 (recs.take k)) r.nx' := fun n h1 h2 => by
          have ho := I.only n fun j p hj hd hin => by
            rcases Nat.lt_trichotomy j k with h | h | h
            · have := R.sep hj hr h; omega
            · subst h; rw [hDk] at hd; cases hd
            · have := R.sep hr hj h; omega
          have hle : r.nx' ≤ nxA nx0 recs := by
            have := R.nxm (k + 1) recs.length (by omega)
            rw [R.nxs hr, List.take_length] at this
            exact this
          have hge : nx0 ≤ nxA nx0 (recs.take k) := by
            have := R.nxm 0 k (by omega)
            simpa [nxA] using this
          have := hf n (by omega) (by omega)
          exact ⟨ho.1.trans this.1, ho.2.trans this.2⟩
        refine hdo.2 hBr W σ w a (I.rl.sub hrow) hfr (evs_R fun t ht => htm t ht) F m hF _ _ fun σ' w' v' S hv => ?_
        refine ih _ σ' _ w' (by simpa using hs) hcnt ?_
        have t := hdo.1
        have S' : Stp W r.nx r.nx' σ rh w σ' r' w' := by rw [hnx]; exact S
        have hu : ∀ n, assoc r.ef n = if n ∈ d then some (lk r' n) else if nxA nx0 (recs.take k) ≤ n then (lk r' n).map some else none := fun n => by
          rw [hef, assoc_app, assoc_old, assoc_new]
          split <;> simp_all
        have := I.put R hr hDk han hD' (rh := rh) (r' := r') hrow S' (fun n x e => by
          rw [hu] at e
          split at e
          · exact Option.some.inj e
          · split at e
            · cases hl : lk r' n with
              | none => rw [hl] at e; simp at e
              | some y => rw [hl] at e; simp at e; rw [e]
            · cases e) (fun n x e hx => by
          rw [hu] at e
          split at e
          · cases e
          · rename_i hnd
            have hlt : n < nxA nx0 (recs.take k) := by
              rcases Nat.lt_or_ge n (nxA nx0 (recs.take k)) with h | h
              · exact h
              · rw [hBr n h] at hx; cases hx
            have := t.2.1 n hlt hnd
            simp only at this
            rw [this]; exact hx) hv
        rw [K.dst] at this
        exact this
end
end Go.Proofs.Ytcahhoemlmbnaaa
