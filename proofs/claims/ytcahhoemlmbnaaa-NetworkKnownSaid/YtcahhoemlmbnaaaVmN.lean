/-
  The machine that runs in the kernel, part N: whatever order is drawn, what is left is what the order of the text leaves.
-/
import Derived.Test.YtcahhoemlmbnaaaVmM
namespace Go.Proofs.Ytcahhoemlmbnaaa
set_option linter.unusedSimpArgs false
set_option linter.unusedVariables false
set_option linter.unusedSectionVars false
open Go Go.RowKit

structure RlF (W : World) (σ : Sg) (H : Nat → Option Rw) (w : World) : Prop where
  ext : Ext W w
  row : ∀ n r, H n = some r → RowOk W σ w n r
  inj : ∀ n m r s p q, H n = some r → H m = some s → r.own → s.own → σ.b n = some p → σ.b m = some q → p.1 = q.1 → n = m
theorem Rl.f {W : World} {σ : Sg} {h : Hp} {w : World} (hR : Rl W σ h w) : RlF W σ (lk h) w := ⟨hR.ext, hR.row, hR.inj⟩
theorem RlF.sub {W : World} {σ : Sg} {h : Hp} {w : World} {H : Nat → Option Rw} (hR : RlF W σ H w) (hs : ∀ n r, lk h n = some r → H n = some r) : Rl W σ h w :=
  ⟨hR.ext, fun n r e => hR.row n r (hs n r e), fun n m r s p q a b => hR.inj n m r s p q (hs _ _ a) (hs _ _ b)⟩
theorem RlF.lt {W : World} {σ : Sg} {w : World} {H : Nat → Option Rw} (hR : RlF W σ H w) {n : Nat} {r : Rw} {p : Nat × Nat} (hl : H n = some r) (hb : σ.b n = some p) : p.1 < w.heap.size := by
  have h1 : Rl W σ [(n, r)] w := hR.sub fun m s e => by
    rw [lk_cons] at e
    split at e
    · rename_i e1; subst e1; rw [← e]; exact hl
    · cases e
  exact h1.lt (n := n) (r := r) (by rw [lk_cons, if_pos rfl]) hb
/-- What u says is new; the rest is as it was. -/
def updF (u : Nat → Option (Option Rw)) (H : Nat → Option Rw) (n : Nat) : Option Rw := match u n with | some o => o | none => H n
theorem RlF.step {W : World} {σ σ' : Sg} {w w' : World} {H : Nat → Option Rw} {lo hi : Nat} {rh r' : Hp} (hF : RlF W σ H w) (hsub : ∀ n r, lk rh n = some r → H n = some r) (S : Stp W lo hi σ rh w σ' r' w') (u : Nat → Option (Option Rw))
    (hu1 : ∀ n x, u n = some (some x) → lk r' n = some x) (hu2 : ∀ n x, u n = none → lk rh n = some x → lk r' n = some x) :
    RlF W σ' (updF u H) w' := by
  have cases' : ∀ n r, updF u H n = some r → lk r' n = some r ∨ (H n = some r ∧ lk rh n = none) := fun n r e => by
    unfold updF at e
    cases hu : u n with
    | some o => rw [hu] at e; simp only at e; subst e; exact .inl (hu1 n r hu)
    | none =>
      rw [hu] at e
      simp only at e
      cases hr : lk rh n with
      | none => exact .inr ⟨e, rfl⟩
      | some x =>
        have := hsub n x hr
        rw [e] at this
        cases this
        exact .inl (hu2 n r hu hr)
  have apart : ∀ n r p m s q, H n = some r → lk rh n = none → r.own → σ.b n = some p → lk rh m = some s → s.own → σ.b m = some q → q.1 ≠ p.1 := fun n r p m s q hn hno ho hb hm hs hq e => by
    have := hF.inj m n s r q p (hsub m s hm) hn hs ho hq hb e
    subst this
    rw [hm] at hno; cases hno
  have bOf : ∀ n r, H n = some r → ∃ p, σ.b n = some p := fun n r hn => by obtain ⟨b, s, vs, hb, _⟩ := hF.row n r hn; exact ⟨_, hb⟩
  refine ⟨S.rl.ext, fun n r e => ?_, fun n m r s p q hn hm hr hs hp hq e => ?_⟩
  · rcases cases' n r e with h1 | ⟨h1, h2⟩
    · exact S.rl.row n r h1
    · exact (hF.row n r h1).keep S.le fun ho p hb => S.fr p.1 (hF.lt h1 hb) fun m s q hm hs hq => apart n r p m s q h1 h2 ho hb hm hs hq
  · have mixed : ∀ n m r s p q, lk r' n = some r → H m = some s → lk rh m = none → r.own → s.own → σ'.b n = some p → σ'.b m = some q → p.1 = q.1 → False := fun n m r s p q hn hm hno hr hs hp hq e => by
      obtain ⟨q', hq'⟩ := bOf m s hm
      have hqq := S.le.1 _ _ hq'
      rw [hq] at hqq
      cases hqq
      rcases S.src n r p hn hr hp with h1 | ⟨k, z, y, hk, hz, hy, e2⟩
      · have := hF.lt hm hq'; omega
      · exact apart m s q k z y hm hno hs hq' hk hz hy (e2.trans e)
    rcases cases' n r hn with h1 | ⟨h1, h2⟩ <;> rcases cases' m s hm with h3 | ⟨h3, h4⟩
    · exact S.rl.inj n m r s p q h1 h3 hr hs hp hq e
    · exact (mixed n m r s p q h1 h3 h4 hr hs hp hq e).elim
    · exact (mixed m n s r q p h3 h1 h2 hs hr hq hp e.symm).elim
    · obtain ⟨p', hp'⟩ := bOf n r h1
      obtain ⟨q', hq'⟩ := bOf m s h3
      have e1 := S.le.1 _ _ hp'
      have e2 := S.le.1 _ _ hq'
      rw [hp] at e1; rw [hq] at e2
      cases e1; cases e2
      exact hF.inj n m r s p q h1 h3 hr hs hp' hq' e

/-! ### what is there when some are done -/
def fld {α : Type} (u : Rec → Option α) (D : Nat → Bool) : Nat → List Rec → α → α
  | _, [], x => x
  | i, r :: rs, x => fld u D (i + 1) rs (if D i = true then (match u r with | some y => y | none => x) else x)
section
variable {α : Type} {u : Rec → Option α} {D D' : Nat → Bool}
theorem fld_congr : ∀ (l : List Rec) (i : Nat) (x : α), (∀ j r, l[j]? = some r → u r ≠ none → D (i + j) = D' (i + j)) → fld u D i l x = fld u D' i l x
  | [], _, _, _ => rfl
  | r :: l, i, x, h => by
      simp only [fld]
      have e : (if D i = true then (match u r with | some y => y | none => x) else x) = (if D' i = true then (match u r with | some y => y | none => x) else x) := by
        cases hu : u r with
        | none => simp
        | some y => have := h 0 r rfl (by rw [hu]; simp); simp only [Nat.add_zero] at this; rw [this]
      rw [e]
      exact fld_congr l (i + 1) _ fun j s hj hs => by have := h (j + 1) s (by simpa using hj) hs; rwa [show i + (j + 1) = i + 1 + j by omega] at this
theorem fld_none : ∀ (l : List Rec) (i : Nat) (x : α), (∀ j r, l[j]? = some r → D (i + j) = true → u r = none) → fld u D i l x = x
  | [], _, _, _ => rfl
  | r :: l, i, x, h => by
      simp only [fld]
      have e : (if D i = true then (match u r with | some y => y | none => x) else x) = x := by
        split
        · rename_i hd; rw [h 0 r rfl hd]
        · rfl
      rw [e]
      exact fld_none l (i + 1) x fun j s hj hd => h (j + 1) s (by simpa using hj) (by rwa [show i + (j + 1) = i + 1 + j by omega])
theorem fld_last : ∀ (l : List Rec) (i k : Nat) (x y : α) (r : Rec), l[k]? = some r → D (i + k) = true → u r = some y → (∀ j s, k < j → l[j]? = some s → D (i + j) = true → u s = none) → fld u D i l x = y
  | [], _, _, _, _, _, h, _, _, _ => by simp at h
  | s :: l, i, 0, x, y, r, h, hd, hu, hl => by
      simp only [List.getElem?_cons_zero, Option.some.injEq] at h
      subst h
      simp only [fld]
      rw [if_pos (by simpa using hd), hu]
      exact fld_none l (i + 1) y fun j s hj hd => hl (j + 1) s (by omega) (by simpa using hj) (by rwa [show i + (j + 1) = i + 1 + j by omega])
  | s :: l, i, k + 1, x, y, r, h, hd, hu, hl => by
      simp only [fld]
      exact fld_last l (i + 1) k _ y r (by simpa using h) (by rwa [show i + 1 + k = i + (k + 1) by omega]) hu fun j s hk hj hd => hl (j + 1) s (by omega) (by simpa using hj) (by rwa [show i + (j + 1) = i + 1 + j by omega])
theorem fld_take : ∀ (l : List Rec) (i k : Nat) (x : α), fld u (fun j => decide (j < i + k)) i l x = fld u (fun _ => true) i (l.take k) x
  | [], _, _, _ => by simp [fld]
  | r :: l, i, 0, x => by
      rw [List.take_zero]
      exact fld_none _ _ _ fun j s _ hd => by simp at hd; omega
  | r :: l, i, k + 1, x => by
      simp only [fld, List.take_succ_cons]
      have := fld_take l (i + 1) k (if true = true then (match u r with | some y => y | none => x) else x)
      rw [show i + 1 + k = i + (k + 1) by omega] at this
      simpa using this
end
def tmpU (len t : Nat) (r : Rec) : Option (Option Value) := if r.dst = some t ∧ t < len then some (some r.val) else none
def tsA (ts : Tm) (l : List Rec) : Tm := l.foldl (fun ts r => putV ts r.dst r.val) ts
def hpA (h : Hp) (l : List Rec) : Hp := l.foldl (fun h r => appE h r.ef) h
def nxA (nx : Nat) (l : List Rec) : Nat := l.foldl (fun _ r => r.nx') nx
theorem putV_n (ts : Tm) (d : Option Tmp) (v : Value) : (putV ts d v).n = ts.n := by cases d <;> simp [putV, tput_n]
theorem tsA_get (t : Nat) : ∀ (l : List Rec) (ts : Tm) (i : Nat), ts.n ≤ 60000 → tg (tsA ts l) t = fld (tmpU ts.n t) (fun _ => true) i l (tg ts t)
  | [], _, _, _ => rfl
  | r :: l, ts, i, hb => by
      have ih := tsA_get t l (putV ts r.dst r.val) (i + 1) (by rw [putV_n]; exact hb)
      rw [putV_n] at ih
      have hs : tsA ts (r :: l) = tsA (putV ts r.dst r.val) l := rfl
      rw [hs, ih]
      simp only [fld]
      congr 1
      unfold tmpU putV
      cases hd : r.dst with
      | none => simp
      | some d =>
        simp only [tg_put hb, Option.some.injEq, if_true]
        by_cases e : d = t
        · subst e
          by_cases hlt : d < ts.n
          · simp [hlt]
          · simp [hlt]
        · simp [e]
theorem hpA_get (n : Nat) : ∀ (l : List Rec) (h : Hp) (i : Nat), lk (hpA h l) n = fld (fun r => assoc r.ef n) (fun _ => true) i l (lk h n)
  | [], _, _ => rfl
  | r :: l, h, i => by
      have ih := hpA_get n l (appE h r.ef) (i + 1)
      have hs : hpA h (r :: l) = hpA (appE h r.ef) l := rfl
      rw [hs, ih, lk_appE]
      simp only [fld, if_true]
      cases assoc r.ef n <;> rfl
end Go.Proofs.Ytcahhoemlmbnaaa
