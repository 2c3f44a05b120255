/-
  Tails: code from a sequence on, known by a law; arguments that are lists, nil or not.
-/
import Derived.Test.YtdcakhahagbedaaKitS
namespace Go.Proofs.Ytdcakhahagbedaa
set_option linter.unusedSimpArgs false
set_option linter.unusedVariables false
set_option linter.unusedSectionVars false
open Go Go.RowKit

theorem lk_app {n : Nat} : ∀ {a b : Hp}, lk (a ++ b) n = match lk a n with | some r => some r | none => lk b n
  | [], b => rfl
  | (m, r) :: a, b => by
      rw [List.cons_append, lk_cons, lk_cons]
      split
      · rfl
      · exact lk_app
/-- Rows of the caller's memory are as they were. -/
theorem Stp.more {W : World} {lo N : Nat} {σ0 τ : Sg} {h0 h2 : Hp} {w0 w : World} (S : Stp W lo N σ0 h0 w0 τ h2 w) (hR0 : Rl W σ0 h0 w0) {olds : Hp} (ho : ∀ n r, lk olds n = some r → lk h0 n = some r ∧ r.kd = .old) : Stp W lo N σ0 h0 w0 τ (h2 ++ olds) w := by
  have cls : ∀ n r, lk (h2 ++ olds) n = some r → lk h2 n = some r ∨ (lk h0 n = some r ∧ r.kd = .old) := fun n r h => by
    rw [lk_app] at h
    split at h
    · rename_i s hs; cases h; exact .inl hs
    · exact .inr (ho n r h)
  have own : ∀ n r, lk (h2 ++ olds) n = some r → r.own → lk h2 n = some r := fun n r h hw => by
    rcases cls n r h with h | ⟨_, h⟩
    · exact h
    · exact (hw h).elim
  refine ⟨S.le, S.only, ⟨S.rl.ext, fun n r hl => ?_, fun n m r s p q hn hm h1 h2' hp hq e => S.rl.inj n m r s p q (own _ _ hn h1) (own _ _ hm h2') h1 h2' hp hq e⟩, S.size, S.fr, fun n r p hn h1 hp => S.src n r p (own _ _ hn h1) h1 hp⟩
  rcases cls n r hl with h | ⟨h, hk⟩
  · exact S.rl.row n r h
  · exact (hR0.row n r h).keep S.le fun hw => (hw hk).elim
def isOld : Kd → Bool
  | .old => true
  | _ => false
theorem isOld_eq {k : Kd} (h : isOld k = true) : k = .old := by cases k <;> simp_all [isOld]
def oldAt (h0 : Hp) (n : Nat) : Bool := match lk h0 n with | some r => isOld r.kd | none => false
def oldsG (h0 : Hp) : Hp → Hp
  | [] => []
  | (n, r) :: h => bif oldAt h0 n then (n, r) :: oldsG h0 h else oldsG h0 h
def garG (h0 : Hp) : Hp → List Nat
  | [] => []
  | (n, r) :: h => bif oldAt h0 n then garG h0 h else n :: garG h0 h
def oldsH (h : Hp) : Hp := oldsG h h
def garH (h : Hp) : List Nat := garG h h
theorem oldsG_lk {h0 : Hp} {n : Nat} : ∀ {h : Hp}, lk (oldsG h0 h) n = bif oldAt h0 n then lk h n else none
  | [] => by cases oldAt h0 n <;> rfl
  | (m, r) :: h => by
      cases hk : oldAt h0 m with
      | true =>
        simp only [oldsG, hk, cond_true]
        rw [lk_cons, lk_cons, oldsG_lk]
        by_cases e : m = n
        · subst e; rw [if_pos rfl, if_pos rfl, hk]; rfl
        · rw [if_neg e, if_neg e]
      | false =>
        simp only [oldsG, hk, cond_false]
        rw [oldsG_lk, lk_cons]
        by_cases e : m = n
        · subst e; rw [hk]; rfl
        · rw [if_neg e]
theorem garG_mem {h0 : Hp} {n : Nat} : ∀ {h : Hp}, n ∈ h.map (·.1) → oldAt h0 n = false → n ∈ garG h0 h
  | [], hm, _ => by cases hm
  | (m, r) :: h, hm, ho => by
      rcases List.mem_cons.1 hm with e | hm
      · simp only at e
        subst e
        simp only [garG, ho, cond_false]
        exact List.mem_cons_self ..
      · have := garG_mem (h := h) hm ho
        cases hk : oldAt h0 m <;> simp only [garG, hk, cond_true, cond_false]
        · exact List.mem_cons_of_mem _ this
        · exact this
theorem oldsH_lk {n : Nat} {h : Hp} (hg : n ∉ garH h) : lk (oldsH h) n = lk h n := by
  unfold oldsH
  rw [oldsG_lk]
  cases ho : oldAt h n with
  | true => rfl
  | false =>
    cases hl : lk h n with
    | none => rfl
    | some r => exact (hg (garG_mem (lk_names hl) ho)).elim
theorem oldsH_old {n : Nat} {r : Rw} {h : Hp} (e : lk (oldsH h) n = some r) : lk h n = some r ∧ r.kd = .old := by
  unfold oldsH at e
  rw [oldsG_lk] at e
  cases ho : oldAt h n with
  | false => rw [ho] at e; cases e
  | true =>
    rw [ho] at e
    simp only [cond_true] at e
    refine ⟨e, ?_⟩
    unfold oldAt at ho
    rw [e] at ho
    exact isOld_eq ho
/-- A tail, from its canonical beginning; it hands back one slot. -/
def TailAt (P : Program) (x : Code) (M n : Nat) (l : List (Nat × Value)) (hC : Hp) (N : Nat) (o : Xt × List (Nat × Value)) : Prop := ∀ inr lo h0, lo ≤ N → CRuns inr P x lo M h0 n l hC N (o.1, o.2, [])
theorem tail_of {P : Program} {x : Code} {M N n : Nat} {l : List (Nat × Value)} {hC h1 : Hp} {nx1 : Nat} {d1 : List Nat} {xt : Xt} {k : Nat} {v : Value} (hrun : ∀ inr, RunsL inr (fun F m Q => x.wpIn F m P Q) (SL n l) hC N (xt, n, [(k, v)], h1, nx1, d1, [])) (hB : bdB hC N = true) (hM : nx1 ≤ M) (hv : ∀ σ, renV σ v = some v) : TailAt P x M n l hC N (xt, [(k, v)]) :=
  fun inr lo h0 hlo => CRuns.of (hrun inr) hB hlo hM (fun n => n) ⟨rfl, hv _, trivial⟩ trivial rfl
theorem TailAt.runs {P : Program} {x : Code} {M N n : Nat} {l : List (Nat × Value)} {hC : Hp} {o : Xt × List (Nat × Value)} (T : TailAt P x M n l hC N o) {inr : Bool} {ts : Tm} {h : Hp} {nx : Nat} {ks : List Nat} {live : List (Nat × Value)} (hn : ts.n = n) (hg : getS ks ts = some live) (hN : nx ≤ N) (hNM : N ≤ M)
    (hT : RbT (sgf nx N fun n => n) l live) (hH : RbL nx N (fun n => n) h h hC) (hI : injN nx N (fun n => n) hC = true) : Runs inr (fun F m Q => x.wpIn F m P Q) ts h nx (o.1, SL n o.2, oldsH h, M, garH h, []) := by
  have hl : CRuns inr P x nx M h n l hC N (o.1, o.2, oldsH h) := by
    intro W σ0 w0 σ w a hR0 hf S ht ds hd F m hF hr Q hQ
    refine T inr nx h hN W σ0 w0 σ w a hR0 hf S ht ds hd F m hF hr Q fun σ' w' a' S' t' hd' => hQ σ' w' a' ?_ t' hd'
    exact S'.more hR0 fun n r e => oldsH_old e
  refine CRuns.enter (o := (o.1, o.2, oldsH h)) hn hg hN hNM (fun n => n) hT hH hI hl ⟨by omega, fun n _ hd => oldsH_lk hd, fun hB n hn => ?_⟩
  cases hl : lk (oldsH h) n with
  | none => rfl
  | some r =>
    have := (oldsH_old hl).1
    rw [hB n (by omega)] at this
    cases this
/-! ### arguments that are lists -/
/-- A list, nil or not: its length, its capacity, its cells. -/
structure Sa where
  b : Bool
  n : Nat
  c : Nat
  xs : List Value
def saV (k : Nat) (a : Sa) : Value := bif a.b then .slice (some ⟨k, 0, none⟩) a.n a.c else .slice none 0 0
def saH (k : Nat) (a : Sa) (h : Hp) : Hp := bif a.b then (k, ⟨.old, a.xs⟩) :: h else h
def pkA (k : Nat) (v : Value) (h : Hp) : Option Sa := match v with
  | .slice none _ _ => some ⟨false, 0, 0, []⟩
  | .slice (some _) n c => (match lk h k with | some r => some ⟨true, n, c, r.cs⟩ | none => none)
  | _ => none
def rowAt (h : Hp) (k : Nat) (a : Sa) : Prop := a.b = true → lk h k = some ⟨.old, a.xs⟩
structure SaOk (R : List Value → Prop) (size most : Nat) (a : Sa) : Prop where
  r : R a.xs
  l : a.xs.length = a.n * size
  c : a.n ≤ a.c ∧ a.c ≤ 9223372036854775807
  m : a.n ≤ most
  z : a.b = false → a.n = 0 ∧ a.c = 0 ∧ a.xs = []
theorem SaOk.nil {R : List Value → Prop} {size most : Nat} (h : R []) : SaOk R size most ⟨false, 0, 0, []⟩ := ⟨h, by simp, ⟨Nat.le_refl 0, Nat.zero_le _⟩, Nat.zero_le _, fun _ => ⟨rfl, rfl, rfl⟩⟩
theorem saV_rb {f : Sg} {k : Nat} {a : Sa} (hb : a.b = true → f.b k = some (k, 0)) (hc : a.c ≤ 9223372036854775807) : renV f (saV k a) = some (saV k a) := by
  unfold saV
  cases h : a.b with
  | false => rfl
  | true => exact rb_slc (hb h) (by unfold capBig; omega)
theorem sgf_old {lo N k : Nat} {ρ : Nat → Nat} (h : k < lo) : (sgf lo N ρ).b k = some (k, 0) := by unfold sgf fnN; simp only; rw [blt_of h]; rfl
theorem saH_rb {lo N k : Nat} {ρ : Nat → Nat} {h0 h1 t : Hp} {a : Sa} (hk : k < lo) (hr : rowAt h1 k a) (hf : Fl a.xs) (ht : RbL lo N ρ h0 h1 t) : RbL lo N ρ h0 h1 (saH k a t) := by
  unfold saH
  cases h : a.b with
  | false => exact ht
  | true => exact ⟨rb_old hk (hr h) hf, ht⟩
theorem injN_of {lo N : Nat} {ρ : Nat → Nat} {h2 : Hp} (h : ∀ n, n ∈ h2.map (·.1) → n < lo) (hn : nodupN (h2.map (·.1)) = true) : injN lo N ρ h2 = true := by
  unfold injN
  have e : (h2.map (·.1)).map (fnG lo N ρ) = h2.map (·.1) := by
    refine (List.map_congr_left fun n hm => ?_).trans (List.map_id _)
    unfold fnG fnN
    rw [blt_of (h n hm)]
    rfl
  rw [e]; exact hn
/-! ### a tail's law -/
def tlSpec {α : Type} (pick : List (Nat × Value) → Hp → Option α) (S : α → List (Nat × Value)) (rw : α → Hp → List Prop) (N M : Nat) (out : List (Nat × Value)) : LSpec := fun live h nx tp => match pick live h with
  | some a => some ((.ret, out, oldsH h, M, garH h), tp, (live = S a) :: (3 ≤ nx ∧ nx ≤ N) :: rw a h)
  | none => none
theorem tlSpec_ok {P : Program} {n : Nat} {ks : List Nat} {body : Code} {α : Type} {pick : List (Nat × Value) → Hp → Option α} {S : α → List (Nat × Value)} {rw : α → Hp → List Prop} {N M : Nat} {out : List (Nat × Value)}
    (H : ∀ a h nx, 3 ≤ nx → nx ≤ N → Alls (rw a h) → ∃ hC, TailAt P body M n (S a) hC N (.ret, out) ∧ RbT (sgf nx N fun n => n) (S a) (S a) ∧ RbL nx N (fun n => n) h h hC ∧ injN nx N (fun n => n) hC = true) (hNM : N ≤ M) : SSOk P n ks body (tlSpec pick S rw N M out) := by
  intro live h nx tp xt l2 h2 nx2 d tp' ob hs ho inr ts hn hg
  unfold tlSpec at hs
  split at hs
  case h_2 => cases hs
  rename_i a ha
  simp only [Option.some.injEq, Prod.mk.injEq] at hs
  obtain ⟨⟨rfl, rfl, rfl, rfl, rfl⟩, rfl, rfl⟩ := hs
  obtain ⟨rfl, ⟨h3, hN⟩, ho⟩ := ho
  obtain ⟨hC, T, hT, hH, hI⟩ := H a h nx h3 hN ho
  exact T.runs hn hg hN hNM hT hH hI
end Go.Proofs.Ytdcakhahagbedaa
