/-
  The machine that runs in the kernel, part S: code, calls.
-/
import Derived.Test.YtcahhoemlmbnaaaVmR
namespace Go.Proofs.Ytcahhoemlmbnaaa
set_option linter.unusedSimpArgs false
set_option linter.unusedVariables false
set_option linter.unusedSectionVars false
open Go Go.RowKit

section
variable {E : Env} {call : FuncId → List Value → Hp → Nat → Option Out}
theorem oldN_mem {nx n : Nat} (hn : n < nx) : ∀ {l : List (Nat × Option Rw)}, n ∈ l.map (·.1) → n ∈ oldN nx l
  | [], h => by cases h
  | (m, r) :: t, h => by
      simp only [List.map_cons, List.mem_cons] at h
      simp only [oldN]
      cases hm : Nat.blt m nx with
      | true =>
        simp only [cond_true, List.mem_cons]
        exact h.imp id fun h => oldN_mem hn h
      | false =>
        simp only [cond_false]
        rcases h with rfl | h
        · have : Nat.blt n nx = true := Nat.ble_eq_true_of_le hn
          rw [this] at hm; cases hm
        · exact oldN_mem hn h
theorem dirty_mem {nx n : Nat} (hn : n < nx) : ∀ {l : List Rec} {r : Rec}, r ∈ l → n ∈ r.ef.map (·.1) → n ∈ dirtyV nx l
  | [], r, h, _ => by cases h
  | s :: l, r, h, hm => by
      simp only [dirtyV, List.mem_append]
      rcases List.mem_cons.1 h with rfl | h
      · exact .inl (oldN_mem hn hm)
      · exact .inr (dirty_mem hn h hm)
theorem repl_false {n k : Nat} (h : (Array.replicate n false).getD k false = true) : False := by
  rw [Array.getD_eq_getD_getElem?, Array.getElem?_replicate] at h
  split at h <;> cases h
theorem drawR_ok (hm : E.P.follows .mixedOrders = true) {ops : Array Oper} {id : Nat} {ts : Tm} {h : Hp} {nx : Nat} {recs : List Rec} (R : Run E ops recs ts h nx) {ts1 : Tm} {h1 : Hp} {nx1 : Nat} (e3 : ts1 = tsA ts recs) (e4 : h1 = hpA h recs) (e5 : nx1 = nxA nx recs) :
    Tidy h nx h1 nx1 (dirtyV nx recs) ∧ (Bd h nx → ∀ W σ w a, Rl W σ h w → Fresh σ nx nx1 → RT σ ts a.tmps → ∀ ds, a.defers = ds → ∀ (F : Fence) (m : Nat), Wide F → ∀ Q : Exit → Act → World → Prop,
      (∀ σ' w' a', Stp W nx nx1 σ h w σ' h1 w' → RT σ' ts1 a'.tmps → a'.defers = ds → Q .normal a' w') → (Code.region id ops true).wpIn F m E.P Q a w) := by
  have hbd := fun hB => R.bds hB recs.length (Nat.le_refl _)
  have hnm := R.nxm 0 recs.length (Nat.zero_le _)
  rw [List.take_length] at hbd hnm
  simp only [List.take_zero] at hnm
  have hnm' : nx ≤ nxA nx recs := hnm
  have hrows : ∀ n, lk h1 n = fld (fun r => assoc r.ef n) (fun _ => true) 0 recs (lk h n) := fun n => by rw [e4]; exact hpA_get n recs h 0
  refine ⟨⟨by rw [e5]; exact hnm', fun n hn hd => ?_, fun hB => by rw [e4, e5]; exact hbd hB⟩, fun hB W σ w a hR hf ht ds hdf F m hF Q hQ => ?_⟩
  · rw [hrows]
    refine fld_none recs 0 _ fun j r hj _ => ?_
    cases hu : assoc r.ef n with
    | none => rfl
    | some o => exact (hd (dirty_mem hn (List.mem_of_getElem? hj) (assoc_mem (by rw [hu]; simp)))).elim
  · refine wpIn_region_any hm ?_
    have hd := Stp.drew hR nx
    have base : ∀ n, rowsAt recs h (fun k => (Array.replicate ops.size false).getD k false) n = lk h n := fun n => fld_none recs 0 _ fun j r hj hd => (repl_false hd).elim
    have baset : ∀ t, tmpAt recs ts (fun k => (Array.replicate ops.size false).getD k false) t = tg ts t := fun t => fld_none recs 0 _ fun j r hj hd => (repl_false hd).elim
    have nod : ∀ k, (Array.replicate ops.size false).getD k false = true → False := fun k hd => repl_false hd
    have hw : ({ w with drawn := w.drawn + 1 } : World) = w.drew := rfl
    rw [hw]
    refine draw_any (ds := ds) hF (W := W) (σ0 := σ) (w0 := w.drew) R hB (by rw [← e5]; exact hf) (fun D σ' a' w' hD I => ?_) ops.size _ σ a w.drew (by simp) ?_ ?_
    · have hrw : ∀ n, rowsAt recs h D n = lk h1 n := fun n => by
        rw [hrows]
        exact fld_congr recs 0 _ fun j r hj _ => by rw [Nat.zero_add]; exact hD j (List.getElem?_eq_some_iff.1 hj).1
      have htw : ∀ t, tmpAt recs ts D t = tg ts1 t := fun t => by
        rw [e3, tsA_get t recs ts 0 ht.b]
        exact fld_congr recs 0 _ fun j r hj _ => by rw [Nat.zero_add]; exact hD j (List.getElem?_eq_some_iff.1 hj).1
      have hrl : Rl W σ' h1 w' := I.rl.sub fun n r e => by rw [hrw]; exact e
      refine hQ σ' w' a' (hd.trans ⟨I.le, fun n hn => I.only n fun k r hk _ hin => ?_, hrl, I.size, I.fr, fun n r p hn => I.src n r p (by rw [hrw]; exact hn)⟩ (Nat.le_refl _) (by rw [e5]; exact hnm')) ?_ I.defers
      · have h2 := R.nxm (k + 1) recs.length (by have := (List.getElem?_eq_some_iff.1 hk).1; omega)
        have h3 := R.nxm 0 k (Nat.zero_le _)
        rw [R.nxs hk, List.take_length] at h2
        obtain ⟨o, ho⟩ := R.opAt hk
        have h4 := (R.ok k o r ho hk).enx
        have h5 : nx ≤ nxA nx (recs.take k) := h3
        rw [e5] at hn
        omega
      · have hn1 : ∀ (l : List Rec) (ts : Tm), (tsA ts l).n = ts.n := by
          intro l
          induction l with
          | nil => intro ts; rfl
          | cons r l ih => intro ts; show (tsA (putV ts r.dst r.val) l).n = ts.n; rw [ih, putV_n]
        have en : ts1.n = ts.n := by rw [e3, hn1]
        exact ⟨by rw [en]; exact I.tn, by rw [en]; exact ht.b, fun t v e => I.ts t v (by rw [htw]; exact e)⟩
    · have : ∀ n, cntU (Array.replicate ops.size false) n ≤ n := fun n => by
        induction n with
        | zero => simp [cntU]
        | succ n ih => simp only [cntU]; split <;> omega
      exact this _
    · refine ⟨⟨hd.rl.ext, fun n r e => hd.rl.row n r (by rw [base] at e; exact e), fun n m r s p q a b => hd.rl.inj n m r s p q (by rw [base] at a; exact a) (by rw [base] at b; exact b)⟩, fun t v hv => ?_, ht.n, ht.b, Sg.le.refl σ, fun _ _ => ⟨rfl, rfl⟩, Nat.le_refl _, fun _ _ _ => rfl, fun n r p hn ho hb => .inr ⟨n, r, p, by rw [base] at hn; exact hn, ho, hb, rfl⟩, hdf, fun j p hj hD => (nod j hD).elim⟩
      rw [baset] at hv
      exact ht.s t v hv
theorem drawV_ok (hX : XOk E) (hC : COk E.P call) (hm : E.P.follows .mixedOrders = true) {ops : Array Oper} {id : Nat} {ts : Tm} {h : Hp} {nx : Nat} {ts' : Tm} {h' : Hp} {nx' : Nat} {d : List Nat} (hs : drawV E call ops ts h nx = some (ts', h', nx', d)) :
    Tidy h nx h' nx' d ∧ (Bd h nx → ∀ W σ w a, Rl W σ h w → Fresh σ nx nx' → RT σ ts a.tmps → ∀ ds, a.defers = ds → ∀ (F : Fence) (m : Nat), Wide F → ∀ Q : Exit → Act → World → Prop,
      (∀ σ' w' a', Stp W nx nx' σ h w σ' h' w' → RT σ' ts' a'.tmps → a'.defers = ds → Q .normal a' w') → (Code.region id ops true).wpIn F m E.P Q a w) := by
  unfold drawV at hs
  split at hs
  case h_2 => cases hs
  rename_i recs ts1 h1 nx1 hgo
  simp only [Option.some.injEq, Prod.mk.injEq] at hs
  obtain ⟨rfl, rfl, rfl, rfl⟩ := hs
  obtain ⟨news, e1, e2, e3, e4, e5, hall⟩ := drawGo_spec _ _ _ _ _ _ _ _ _ hgo
  simp only [List.nil_append] at e1
  subst e1
  exact drawR_ok hm (⟨by simpa using e2, fun k o r ho hr => by
    have := hall k o r (by simpa using ho) hr
    simp only [List.nil_append] at this
    exact recV_ok hX hC this⟩ : Run E ops recs ts h nx) e3 e4 e5
end
end Go.Proofs.Ytcahhoemlmbnaaa
