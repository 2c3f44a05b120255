/-
  The machine that runs in the kernel, part U: a whole call, the law.
-/
import Derived.Test.YtpiapipmhlpmjaaVmT
namespace Go.Proofs.Ytpiapipmhlpmjaa
set_option linter.unusedSimpArgs false
set_option linter.unusedVariables false
set_option linter.unusedSectionVars false
open Go Go.RowKit

section
variable {P : Program} {W : World} {σ : Sg} {h : Hp} {w : World}
def resOf (tmps : Array Value) : ResultVar → Sem Value
  | .tmp t => pure (tmps.getD t undef)
  | .cell a t => do loadVar t (← asAddr (tmps.getD a undef))
theorem resV1_ok (hR : Rl W σ h w) {ts : Tm} {tmps : Array Value} (ht : RT σ ts tmps) {x : ResultVar} {v : Value} (hv : resV1 P ts h x = some v) : ∃ v', renV σ v = some v' ∧ (resOf tmps x).run P w = .ok v' w := by
  have hg : ∀ (t : Nat) (u : Value), tg ts t = some u → renV σ u = some (tmps.getD t undef) := fun t u hu => by
    obtain ⟨v', e1, e2⟩ := ht.s t u hu
    rw [e2]; simp [e1]
  cases x with
  | tmp t => exact ⟨_, hg t v hv, rfl⟩
  | cell p t =>
    simp only [resV1] at hv
    split at hv
    · rename_i n o hp
      split at hv
      · rename_i r hr
        obtain ⟨q, hb, hq⟩ := renV_ptr (hg p _ hp)
        obtain ⟨q', vs, hb', h2, h3⟩ := hR.cell hr
        rw [hb] at hb'
        cases hb'
        obtain ⟨v', h4, h5⟩ := loadV_ok (P := P) h2 h3 hv
        refine ⟨v', h4, ?_⟩
        simp only [resOf]
        rw [hq]
        simpa [asAddr] using h5
      · cases hv
    · cases hv
theorem resVL_ok (hR : Rl W σ h w) {ts : Tm} {tmps : Array Value} (ht : RT σ ts tmps) : ∀ {xs : List ResultVar} {vs : List Value}, resVL P ts h xs = some vs → ∃ vs', renL σ vs = some vs' ∧ (xs.mapM (resOf tmps)).run P w = .ok vs' w
  | [], vs, hv => by simp only [resVL, Option.some.injEq] at hv; subst hv; exact ⟨[], rfl, by simp⟩
  | x :: xs, vs, hv => by
      simp only [resVL] at hv
      split at hv
      · rename_i u us h1 h2
        cases hv
        obtain ⟨u', e1, e2⟩ := resV1_ok hR ht h1
        obtain ⟨us', e3, e4⟩ := resVL_ok hR ht h2
        exact ⟨u' :: us', renL_mk e1 e3, by simp [List.mapM_cons, e2, e4]⟩
      · cases hv
theorem one_ok {vs vs' : List Value} (hv : renL σ vs = some vs') : renV σ (one? vs) = some (if h : vs'.toArray.size = 1 then vs'.toArray[0] else .tuple vs'.toArray) := by
  have hl := renL_len hv
  unfold one?
  split
  · rename_i v
    obtain ⟨a, b, h1, h2, rfl⟩ := renL_cons hv
    simp only [renL, Option.some.injEq] at h2
    subst h2
    exact h1
  · rename_i hno
    have : ¬ (vs'.toArray.size = 1) := fun e => by
      simp only [List.size_toArray] at e
      rw [hl] at e
      match vs, e, hno with
      | [v], _, hno => exact hno v rfl
    rw [dif_neg this]
    exact renV_tuple_mk hv
theorem results_run {fn : Func} (hR : Rl W σ h w) {ts : Tm} {tmps : Array Value} (ht : RT σ ts tmps) {vs : List Value} (hv : resVL P ts h fn.results.toList = some vs) : ∃ v', renV σ (one? vs) = some v' ∧ (results fn tmps).run P w = .ok v' w := by
  obtain ⟨vs', e1, e2⟩ := resVL_ok hR ht hv
  refine ⟨_, one_ok e1, ?_⟩
  have hm : (fn.results.mapM (resOf tmps)).run P w = .ok vs'.toArray w := by
    rw [Array.mapM_eq_mapM_toList]
    simp [e2]
  have hres : results fn tmps = (do let vs ← fn.results.mapM (resOf tmps); pure (if h : vs.size = 1 then vs[0] else .tuple vs)) := by
    unfold results
    congr 1
  rw [hres]
  simp only [Sem.run_bind, hm, Result.andThen_ok, Sem.run_pure]
theorem oldD_mem {nx n : Nat} (hn : n < nx) : ∀ {d : List Nat}, n ∈ d → n ∈ oldD nx d
  | [], h => by cases h
  | m :: d, h => by
      simp only [oldD]
      cases hm : Nat.blt m nx with
      | true =>
        simp only [cond_true, List.mem_cons] at h ⊢
        exact h.imp id fun h => oldD_mem hn h
      | false =>
        simp only [cond_false]
        rcases List.mem_cons.1 h with rfl | h
        · have : Nat.blt n nx = true := Nat.ble_eq_true_of_le hn
          rw [this] at hm; cases hm
        · exact oldD_mem hn h
end
def TOk (E : Env) : Prop := ∀ f args h nx out, E.T f args h nx = some out → Tri E.P f args h nx out
theorem tri_leave {P : Program} {f : FuncId} {args : List Value} {h : Hp} {nx : Nat} {vs : List Value} {h' : Hp} {nx' : Nat} {d : List Nat} (T : Tri P f args h nx (one? vs, h', nx', d)) : Tri P f args h nx (leave h nx vs h' nx' d) := by
  obtain ⟨t, s⟩ := T
  have old : ∀ d', oldD nx d = d' → ∀ n, n < nx → n ∉ d' → n ∉ d := fun d' e n hn hd hm => hd (e ▸ oldD_mem hn hm)
  unfold leave
  split
  · rename_i he
    have hkeep : ∀ n, n < nx → lk h' n = lk h n := fun n hn => t.2.1 n hn (old [] he n hn (by simp))
    cases hf : flats vs with
    | true =>
      refine ⟨⟨t.1, fun _ _ _ => rfl, fun hb n hn => hb n (Nat.le_trans t.1 hn)⟩, fun hb W σ w args' hR hfr ha => (s hb W σ w args' hR hfr ha).mono fun e w' ⟨σ', v', S, hv, he'⟩ => ⟨σ', v', S.less fun n r hl => ?_, hv, he'⟩⟩
      have hn : n < nx := by
        rcases Nat.lt_or_ge n nx with h1 | h1
        · exact h1
        · have hl' : lk h n = some r := hl
          rw [hb n h1] at hl'; cases hl'
      show lk h' n = some r
      rw [hkeep n hn]; exact hl
    | false => exact ⟨⟨t.1, fun n hn _ => hkeep n hn, t.2.2⟩, s⟩
  · rename_i d' hd
    exact ⟨⟨t.1, fun n hn hd' => t.2.1 n hn (old _ rfl n hn hd'), t.2.2⟩, s⟩
theorem runF_ok {E : Env} (hX : XOk E) (hT : TOk E) (hm : E.P.follows .mixedOrders = true) : ∀ k, COk E.P (runF E k)
  | 0 => fun f args h nx out hs => by simp [runF] at hs
  | k + 1 => fun f args h nx out hs => by
      have ih := runF_ok hX hT hm k
      simp only [runF] at hs
      split at hs
      · rename_i r hr
        cases hs
        exact hT _ _ _ _ _ hr
      · split at hs
        · cases hs
        · rename_i fn hf
          split at hs
          · cases hs
          · rename_i c hc
            obtain ⟨hg, hs⟩ := bif_of hs
            simp only [Bool.and_eq_true, Nat.ble_eq] at hg
            split at hs
            · cases hs
            · rename_i x ts h' nx' d hno hrun
              split at hs
              · rename_i vs hvs
                cases hs
                obtain ⟨t1, s1⟩ := (codeV_ok hX ih hm 100000).1 _ _ _ _ _ hrun
                refine tri_leave ⟨t1, fun hB W σ w args' hR hfr ha => ?_⟩
                refine calls_of_wp hf hc ?_
                refine s1 hB W σ w _ hR hfr (by simpa using tinit_ok ha hg.1 hg.2) rfl _ fun σ' w' a' S ht hd => ?_
                obtain ⟨v', e1, e2⟩ := results_run (P := E.P) S.rl ht hvs
                have key : a'.defers = [] ∧ ∃ v, (results fn a'.tmps).run E.P w' = .ok v w' ∧ ∃ σ'' v'', Stp W nx nx' σ h w σ'' h' w' ∧ renV σ'' (one? vs) = some v'' ∧ Ending.returned v = .returned v'' := ⟨hd, v', e2, σ', v', S, e1, rfl⟩
                cases x with
                | normal => exact key
                | ret => exact key
                | exit i => exact (hno _ rfl).elim
              · cases hs
            · cases hs
end Go.Proofs.Ytpiapipmhlpmjaa
