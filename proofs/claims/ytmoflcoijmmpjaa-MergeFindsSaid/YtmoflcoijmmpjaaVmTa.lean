/-
  The machine that runs in the kernel, part Ta: loops over iterators: their records, the blocks for the rounds' deferred calls.
-/
import Derived.Test.YtmoflcoijmmpjaaVmMq
import Derived.LoopNIn
namespace Go.Proofs.Ytmoflcoijmmpjaa
set_option linter.unusedSimpArgs false
set_option linter.unusedVariables false
set_option linter.unusedSectionVars false
open Go Go.RowKit


def tmL (ts : Tm) : Nat → List Value → List Value
  | 0, acc => acc
  | k + 1, acc => match tg ts k with
    | some v => tmL ts k (v :: acc)
    | none => []
theorem tmL_ok {σ : Sg} {ts : Tm} {tmps : Array Value} (ht : RT σ ts tmps) {v : Value} {tm : List Value} : ∀ (k : Nat) (acc acc' : List Value), k ≤ tmps.size → renL σ acc = some acc' → tmL ts k acc = v :: tm → renL σ (v :: tm) = some (tmps.toList.take k ++ acc')
  | 0, acc, acc', _, h, e => by simp only [tmL] at e; rw [← e]; simpa using h
  | k + 1, acc, acc', hk, h, he => by
      have hlt : k < tmps.size := by omega
      have e : tmps.toList.take (k + 1) ++ acc' = tmps.toList.take k ++ (tmps[k] :: acc') := by
        rw [List.take_add_one]; simp [hlt]
      rw [e]
      simp only [tmL] at he
      split at he
      · rename_i u hu
        have h1 := ht.s k u hu
        simp only [Array.getD_eq_getD_getElem?, Array.getElem?_eq_getElem hlt, Option.getD_some] at h1
        exact tmL_ok ht k _ _ (by omega) (renL_mk h1 h) he
      · cases he
def putL : Tm → List Tmp → List Value → Tm
  | ts, t :: l, v :: vs => putL (tput ts t v) l vs
  | ts, _, _ => ts
def putA : Array Value → List Tmp → List Value → Array Value
  | a, t :: l, v :: vs => putA (a.setIfInBounds t v) l vs
  | a, _, _ => a
theorem putL_ok {σ : Sg} : ∀ {l : List Tmp} {vs vs' : List Value} {ts : Tm} {tmps : Array Value}, RT σ ts tmps → renL σ vs = some vs' → RT σ (putL ts l vs) (putA tmps l vs')
  | [], vs, vs', ts, tmps, h, hv => by simpa [putL, putA] using h
  | t :: l, [], vs', ts, tmps, h, hv => by simp only [renL, Option.some.injEq] at hv; subst hv; simpa [putL, putA] using h
  | t :: l, v :: vs, vs', ts, tmps, h, hv => by
      obtain ⟨a, b, h1, h2, rfl⟩ := renL_cons hv
      show RT σ (putL (tput ts t v) l vs) (putA (tmps.setIfInBounds t a) l b)
      exact putL_ok (h.put t h1) h2
theorem putA_eq : ∀ (l : List Tmp) (vs : List Value) (a : Array Value), (l.zip vs).foldl (fun tmps x => tmps.setIfInBounds x.1 x.2) a = putA a l vs
  | [], vs, a => by simp [putA]
  | t :: l, [], a => by simp [putA]
  | t :: l, v :: vs, a => by simpa [putA] using putA_eq l vs _

def dfR (σ : Sg) : List Nat → Option (List Deferred)
  | [] => some []
  | n :: ms => match σ.b n, dfR σ ms with | some p, some ds => some ({ target := .collected p.1, args := #[] } :: ds) | _, _ => none
theorem dfR_le {σ τ : Sg} (h : σ.le τ) : ∀ {ms : List Nat} {ds : List Deferred}, dfR σ ms = some ds → dfR τ ms = some ds
  | [], ds, e => e
  | n :: ms, ds, e => by
      simp only [dfR] at e ⊢
      split at e
      · rename_i p ds' h1 h2; rw [h.1 n p h1, dfR_le h h2]; exact e
      · cases e
theorem dfR_app {σ : Sg} : ∀ {ms ms' : List Nat} {ds ds' : List Deferred}, dfR σ ms = some ds → dfR σ ms' = some ds' → dfR σ (ms ++ ms') = some (ds ++ ds')
  | [], ms', ds, ds', h, h' => by simp only [dfR, Option.some.injEq] at h; subst h; simpa using h'
  | n :: ms, ms', ds, ds', h, h' => by
      simp only [dfR, List.cons_append] at h ⊢
      split at h
      · rename_i p d h1 h2; cases h; rw [h1, dfR_app h2 h']; rfl
      · cases h
def dropM : List Nat → Hp → Option Hp
  | [], h => some h
  | n :: ms, h => match lk h n with
    | some ⟨.marks, _⟩ => dropM ms (delH h n)
    | _ => none
theorem dropM_tidy {nx : Nat} : ∀ {ms : List Nat} {h h' : Hp}, dropM ms h = some h' → (∀ n, lk h n = none → lk h' n = none) ∧ (∀ n, n ∉ ms → lk h' n = lk h n)
  | [], h, h', e => by cases e; exact ⟨fun _ e => e, fun _ _ => rfl⟩
  | m :: ms, h, h', e => by
      simp only [dropM] at e
      split at e
      · obtain ⟨a, b⟩ := dropM_tidy (nx := nx) e
        refine ⟨fun n hn => a n (by rw [lk_delH]; split <;> simp [hn]), fun n hn => ?_⟩
        rw [b n (fun hm => hn (by simp [hm])), lk_delH, if_neg (fun e => hn (by simp [e]))]
      · cases e
theorem leaves_marks {P : Program} {F : Fence} {m : Nat} {fn : Func} {tmps : Array Value} {R : Ending → World → Prop} {W : World} {σ : Sg} (lo : Nat) : ∀ {ms : List Nat} {ds : List Deferred} {h h' : Hp} {w : World}, dropM ms h = some h' → dfR σ ms = some ds → Rl W σ h w →
    (∀ w', Stp W lo lo σ h w σ h' w' → LeavesInM F m P fn tmps R [] .returning w') → LeavesInM F m P fn tmps R ds .returning w
  | [], ds, h, h', w, hd, hf, hR, H => by
      simp only [dfR, Option.some.injEq] at hf
      subst hf
      cases hd
      exact H w (Stp.refl hR lo)
  | n :: ms, ds, h, h', w, hd, hf, hR, H => by
      simp only [dropM] at hd
      split at hd
      · rename_i cs hl
        simp only [dfR] at hf
        split at hf
        · rename_i p ds' h1 h2
          cases hf
          obtain ⟨b, s, vs, hb, _, hk⟩ := hR.row _ _ hl
          rw [h1] at hb
          cases hb
          have S := Stp.wipe hR hl (fun e => by cases e) h1 (.deferred none) lo
          exact ⟨by simp, .inl ⟨b, _, rfl, run_takeDeferred hk.2.2.2, leaves_marks lo hd h2 S.rl fun w' S' => H w' (S.trans S' (Nat.le_refl _) (Nat.le_refl _))⟩⟩
        · cases hf
      · cases hd
end Go.Proofs.Ytmoflcoijmmpjaa
