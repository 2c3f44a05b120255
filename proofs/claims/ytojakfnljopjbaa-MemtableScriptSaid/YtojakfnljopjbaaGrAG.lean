/-
  The machine that runs in the kernel, part N: whatever order is drawn, what is left is what the order of the text leaves.
-/
import Derived.Test.YtojakfnljopjbaaGrAF
import Derived.OrdersIn
import Derived.LoopNIn
namespace Go.Proofs.Ytojakfnljopjbaa
set_option linter.unusedSimpArgs false
set_option linter.unusedVariables false
set_option linter.unusedSectionVars false
open Go Go.RowKit

structure RlF (W : World) (σ : Sg) (H : Nat → Option Rw) (w : World) : Prop where
 ext : Ext W w
 row : ∀ n r, H n = some r → RowOk W σ w n r
 inj : ∀ n m r s p q, H n = some r → H m = some s → r.own → s.own → σ.b n = some p → σ.b m = some q → p.1 = q.1 → n = m
 wf : σ.w = true
 shr : (∀ n r, H n = some r → r.own → σ.f n ≠ none) ∧ (∀ n r k, H n = some r → k ∈ sh σ n → k < w.heap.size ∧ ∀ m s q, H m = some s → s.own → σ.b m = some q → q.1 ≠ k) ∧
  ∀ n r k, H n = some r → k ∈ ex σ n → k < w.heap.size ∧ (∀ m s q, H m = some s → s.own → σ.b m = some q → q.1 ≠ k) ∧ ∀ m s, H m = some s → k ∉ sh σ m ∧ (k ∈ ex σ m → m = n)
theorem RlF.sub {W : World} {σ : Sg} {h : Hp} {w : World} {H : Nat → Option Rw} (hR : RlF W σ H w) (hs : ∀ n r, lk h n = some r → H n = some r) : Rl W σ h w :=
 ⟨⟨hR.ext, fun n r e => hR.row n r (hs n r e), fun n m r s p q a b => hR.inj n m r s p q (hs _ _ a) (hs _ _ b)⟩, hR.wf, fun n r e => hR.shr.1 n r (hs _ _ e), fun n r k e hk => ⟨(hR.shr.2.1 n r k (hs _ _ e) hk).1, fun m s q hm => (hR.shr.2.1 n r k (hs _ _ e) hk).2 m s q (hs _ _ hm)⟩, fun n r k e hk => ⟨(hR.shr.2.2 n r k (hs _ _ e) hk).1, fun m s q hm => (hR.shr.2.2 n r k (hs _ _ e) hk).2.1 m s q (hs _ _ hm), fun m s hm => (hR.shr.2.2 n r k (hs _ _ e) hk).2.2 m s (hs _ _ hm)⟩⟩
theorem RlF.lt {W : World} {σ : Sg} {w : World} {H : Nat → Option Rw} (hR : RlF W σ H w) {n : Nat} {r : Rw} {p : Nat × Nat} (hl : H n = some r) (ho : r.own) (hb : σ.b n = some p) : p.1 < w.heap.size := by
 have h1 : Rl W σ [(n, r)] w := hR.sub fun m s e => by
  rw [B3] at e
  split at e
  ·rename_i e1; subst e1; rw [← e]; exact hl
  ·cases e
 exact h1.lt (n := n) (r := r) (by rw [B3, if_pos rfl]) ho hb
def updF (u : Nat → Option (Option Rw)) (H : Nat → Option Rw) (n : Nat) : Option Rw := match u n with | some o => o | none => H n
theorem RlF.step {W : World} {σ σ' : Sg} {w w' : World} {H : Nat → Option Rw} {lo hi : Nat} {rh r' : Hp} (hF : RlF W σ H w) (hsub : ∀ n r, lk rh n = some r → H n = some r) (S : Stp W lo hi σ rh w σ' r' w') (u : Nat → Option (Option Rw))
  (hu1 : ∀ n x, u n = some (some x) → lk r' n = some x) (hu2 : ∀ n x, u n = none → lk rh n = some x → lk r' n = some x) :
  RlF W σ' (updF u H) w' := by
 have cases' : ∀ n r, updF u H n = some r → lk r' n = some r ∨ (H n = some r ∧ lk rh n = none) := fun n r e => by
  unfold updF at e
  cases hu : u n with
  | some o => rw [hu] at e; simp only at e; subst e; exact .inl (hu1 n r hu)
  | none =>
   rw [hu] at e
   simp only at e
   cases hr : lk rh n with
   | none => exact .inr ⟨e, rfl⟩
   | some x =>
    have := hsub n x hr
    rw [e] at this
    cases this
    exact .inl (hu2 n r hu hr)
 have apart : ∀ n r p m s q, H n = some r → lk rh n = none → r.own → σ.b n = some p → lk rh m = some s → s.own → σ.b m = some q → q.1 ≠ p.1 := fun n r p m s q hn hno ho hb hm hs hq e => by
  have := hF.inj m n s r q p (hsub m s hm) hn hs ho hq hb e
  subst this
  rw [hm] at hno; cases hno
 have bOf : ∀ n r, H n = some r → ∃ p, σ.b n = some p := fun n r hn => by obtain ⟨b, s, vs, hb, _⟩ := hF.row n r hn; exact ⟨_, hb⟩
 have feq : ∀ n r, H n = some r → σ'.f n = σ.f n := fun n r hn => by obtain ⟨p, hp⟩ := bOf n r hn; exact (S.le.2.2 n p hp).2.1
 have exF : ∀ n r, H n = some r → ∀ k, k ∈ ex σ' n → k ∈ ex σ n := fun n r hn k hk => by unfold ex at hk ⊢; rw [feq n r hn] at hk; exact hk
 have shF : ∀ n r, H n = some r → ∀ k, k ∈ sh σ' n → k ∈ sh σ n := fun n r hn k hk => by unfold sh at hk ⊢; rw [feq n r hn] at hk; exact hk
 have frS : ∀ n r k, H n = some r → lk rh n = none → k ∈ sh σ n → w'.heap[k]? = w.heap[k]? := fun n r k hn hno hk =>
  S.fr k (hF.shr.2.1 n r k hn hk).1 (fun m s q hm hs hq => (hF.shr.2.1 n r k hn hk).2 m s q (hsub m s hm) hs hq) fun m s hm hk2 => ((hF.shr.2.2 m s k (hsub m s hm) hk2).2.2 n r hn).1 hk
 have frX : ∀ n r k, H n = some r → lk rh n = none → k ∈ ex σ n → w'.heap[k]? = w.heap[k]? := fun n r k hn hno hk =>
  S.fr k (hF.shr.2.2 n r k hn hk).1 (fun m s q hm hs hq => (hF.shr.2.2 n r k hn hk).2.1 m s q (hsub m s hm) hs hq) fun m s hm hk2 => by
   have := ((hF.shr.2.2 m s k (hsub m s hm) hk2).2.2 n r hn).2 hk
   subst this
   rw [hm] at hno; cases hno
 refine ⟨S.rl.ext, fun n r e => ?_, fun n m r s p q hn hm hr hs hp hq e => ?_, S.rl.wf, fun n r hn ho => ?_, fun n r k hn hk => ?_, fun n r k hn hk => ?_⟩
 ·rcases cases' n r e with h1 | ⟨h1, h2⟩
  ·exact S.rl.row n r h1
  ·exact (hF.row n r h1).keep S.le (fun ho p hb => S.fr p.1 (hF.lt h1 ho hb) (fun m s q hm hs hq => apart n r p m s q h1 h2 ho hb hm hs hq) fun m s hm hk => (hF.shr.2.2 m s _ (hsub m s hm) hk).2.1 n r p h1 ho hb rfl) (fun k hk => frS n r k h1 h2 hk) fun k hk => frX n r k h1 h2 hk
 ·have mixed : ∀ n m r s p q, lk r' n = some r → H m = some s → lk rh m = none → r.own → s.own → σ'.b n = some p → σ'.b m = some q → p.1 = q.1 → False := fun n m r s p q hn hm hno hr hs hp hq e => by
   obtain ⟨q', hq'⟩ := bOf m s hm
   have hqq := S.le.1 _ _ hq'
   rw [hq] at hqq
   cases hqq
   rcases S.src n r p hn hr hp with h1 | ⟨k, z, y, hk, hz, hy, e2⟩
   ·have := hF.lt hm hs hq'; omega
   ·exact apart m s q k z y hm hno hs hq' hk hz hy (e2.trans e)
  rcases cases' n r hn with h1 | ⟨h1, h2⟩ <;> rcases cases' m s hm with h3 | ⟨h3, h4⟩
  ·exact S.rl.inj n m r s p q h1 h3 hr hs hp hq e
  ·exact (mixed n m r s p q h1 h3 h4 hr hs hp hq e).elim
  ·exact (mixed m n s r q p h3 h1 h2 hs hr hq hp e.symm).elim
  ·obtain ⟨p', hp'⟩ := bOf n r h1
   obtain ⟨q', hq'⟩ := bOf m s h3
   have e1 := S.le.1 _ _ hp'
   have e2 := S.le.1 _ _ hq'
   rw [hp] at e1; rw [hq] at e2
   cases e1; cases e2
   exact hF.inj n m r s p q h1 h3 hr hs hp' hq' e
 ·rcases cases' n r hn with h1 | ⟨h1, _⟩
  ·exact S.rl.shr.1 n r h1 ho
  ·rw [feq n r h1]; exact hF.shr.1 n r h1 ho
 ·rcases cases' n r hn with h1 | ⟨h1, h2⟩
  ·refine ⟨(S.rl.shr.2.1 n r k h1 hk).1, fun m s q hm hs hq e => ?_⟩
   rcases cases' m s hm with h3 | ⟨h3, h4⟩
   ·exact (S.rl.shr.2.1 n r k h1 hk).2 m s q h3 hs hq e
   ·obtain ⟨q', hq'⟩ := bOf m s h3
    have e2 := S.le.1 _ _ hq'
    rw [hq] at e2
    cases e2
    rcases S.ssrc n r k h1 hk with h5 | ⟨m0, s0, q0, h5, h6, h7, h8⟩ | ⟨m0, s0, h5, h6⟩
    ·have := hF.lt h3 hs hq'; omega
    ·exact apart m s q m0 s0 q0 h3 h4 hs hq' h5 h6 h7 (h8.trans e.symm)
    ·exact (hF.shr.2.1 m0 s0 k (hsub _ _ h5) h6).2 m s q h3 hs hq' e
  ·have hk' := shF n r h1 k hk
   obtain ⟨g1, g2⟩ := hF.shr.2.1 n r k h1 hk'
   refine ⟨Nat.lt_of_lt_of_le g1 S.size, fun m s q hm hs hq e => ?_⟩
   rcases cases' m s hm with h3 | ⟨h3, h4⟩
   ·rcases S.src m s q h3 hs hq with h5 | ⟨m0, s0, q0, h5, h6, h7, h8⟩
    ·omega
    ·exact g2 m0 s0 q0 (hsub _ _ h5) h6 h7 (h8.trans e)
   ·obtain ⟨q', hq'⟩ := bOf m s h3
    have e2 := S.le.1 _ _ hq'
    rw [hq] at e2
    cases e2
    exact g2 m s q h3 hs hq' e
 ·rcases cases' n r hn with h1 | ⟨h1, h2⟩
  ·obtain ⟨g1, g2, g3⟩ := S.rl.shr.2.2 n r k h1 hk
   refine ⟨g1, fun m s q hm hs hq e => ?_, fun m s hm => ?_⟩
   ·rcases cases' m s hm with h3 | ⟨h3, h4⟩
    ·exact g2 m s q h3 hs hq e
    ·obtain ⟨q', hq'⟩ := bOf m s h3
     have e2 := S.le.1 _ _ hq'
     rw [hq] at e2
     cases e2
     rcases S.xsrc n r k h1 hk with h5 | ⟨m0, s0, q0, h5, h6, h7, h8⟩ | ⟨m0, s0, h5, h6⟩
     ·have := hF.lt h3 hs hq'; omega
     ·exact apart m s q m0 s0 q0 h3 h4 hs hq' h5 h6 h7 (h8.trans e.symm)
     ·exact (hF.shr.2.2 m0 s0 k (hsub _ _ h5) h6).2.1 m s q h3 hs hq' e
   ·rcases cases' m s hm with h3 | ⟨h3, h4⟩
    ·exact g3 m s h3
    ·refine ⟨fun hk2 => ?_, fun hk2 => ?_⟩
     ·have hk3 := shF m s h3 k hk2
      rcases S.xsrc n r k h1 hk with h5 | ⟨m0, s0, q0, h5, h6, h7, h8⟩ | ⟨m0, s0, h5, h6⟩
      ·have := (hF.shr.2.1 m s k h3 hk3).1; omega
      ·exact (hF.shr.2.1 m s k h3 hk3).2 m0 s0 q0 (hsub _ _ h5) h6 h7 h8
      ·exact ((hF.shr.2.2 m0 s0 k (hsub _ _ h5) h6).2.2 m s h3).1 hk3
     ·exfalso
      have hk3 := exF m s h3 k hk2
      rcases S.xsrc n r k h1 hk with h5 | ⟨m0, s0, q0, h5, h6, h7, h8⟩ | ⟨m0, s0, h5, h6⟩
      ·have := (hF.shr.2.2 m s k h3 hk3).1; omega
      ·exact (hF.shr.2.2 m s k h3 hk3).2.1 m0 s0 q0 (hsub _ _ h5) h6 h7 h8
      ·have := ((hF.shr.2.2 m0 s0 k (hsub _ _ h5) h6).2.2 m s h3).2 hk3
       subst this
       rw [h5] at h4; cases h4
  ·have hk' := exF n r h1 k hk
   obtain ⟨g1, g2, g3⟩ := hF.shr.2.2 n r k h1 hk'
   refine ⟨Nat.lt_of_lt_of_le g1 S.size, fun m s q hm hs hq e => ?_, fun m s hm => ?_⟩
   ·rcases cases' m s hm with h3 | ⟨h3, h4⟩
    ·rcases S.src m s q h3 hs hq with h5 | ⟨m0, s0, q0, h5, h6, h7, h8⟩
     ·omega
     ·exact g2 m0 s0 q0 (hsub _ _ h5) h6 h7 (h8.trans e)
    ·obtain ⟨q', hq'⟩ := bOf m s h3
     have e2 := S.le.1 _ _ hq'
     rw [hq] at e2
     cases e2
     exact g2 m s q h3 hs hq' e
   ·rcases cases' m s hm with h3 | ⟨h3, h4⟩
    ·refine ⟨fun hk2 => ?_, fun hk2 => ?_⟩
     ·rcases S.ssrc m s k h3 hk2 with h5 | ⟨m0, s0, q0, h5, h6, h7, h8⟩ | ⟨m0, s0, h5, h6⟩
      ·omega
      ·exact g2 m0 s0 q0 (hsub _ _ h5) h6 h7 h8
      ·exact (g3 m0 s0 (hsub _ _ h5)).1 h6
     ·rcases S.xsrc m s k h3 hk2 with h5 | ⟨m0, s0, q0, h5, h6, h7, h8⟩ | ⟨m0, s0, h5, h6⟩
      ·omega
      ·exact (g2 m0 s0 q0 (hsub _ _ h5) h6 h7 h8).elim
      ·have := (g3 m0 s0 (hsub _ _ h5)).2 h6
       subst this
       rw [h5] at h2; cases h2
    ·exact ⟨fun hk2 => (g3 m s h3).1 (shF m s h3 k hk2), fun hk2 => (g3 m s h3).2 (exF m s h3 k hk2)⟩

def fld {α : Type} (u : Rec → Option α) (D : Nat → Bool) : Nat → List Rec → α → α
 | _, [], x => x
 | i, r :: rs, x => fld u D (i + 1) rs (if D i = true then (match u r with | some y => y | none => x) else x)
section
variable {α : Type} {u : Rec → Option α} {D D' : Nat → Bool}
theorem I4 : ∀ (l : List Rec) (i : Nat) (x : α), (∀ j r, l[j]? = some r → u r ≠ none → D (i + j) = D' (i + j)) → fld u D i l x = fld u D' i l x
 | [], _, _, _ => rfl
 | r :: l, i, x, h => by
   simp only [fld]
   have e : (if D i = true then (match u r with | some y => y | none => x) else x) = (if D' i = true then (match u r with | some y => y | none => x) else x) := by
    cases hu : u r with
    | none => simp
    | some y => have := h 0 r rfl (by rw [hu]; simp); simp only [Nat.add_zero] at this; rw [this]
   rw [e]
   exact I4 l (i + 1) _ fun j s hj hs => by have := h (j + 1) s (by simpa using hj) hs; rwa [show i + (j + 1) = i + 1 + j by omega] at this
theorem I3 : ∀ (l : List Rec) (i : Nat) (x : α), (∀ j r, l[j]? = some r → D (i + j) = true → u r = none) → fld u D i l x = x
 | [], _, _, _ => rfl
 | r :: l, i, x, h => by
   simp only [fld]
   have e : (if D i = true then (match u r with | some y => y | none => x) else x) = x := by
    split
    ·rename_i hd; rw [h 0 r rfl hd]
    ·rfl
   rw [e]
   exact I3 l (i + 1) x fun j s hj hd => h (j + 1) s (by simpa using hj) (by rwa [show i + (j + 1) = i + 1 + j by omega])
theorem fld_last : ∀ (l : List Rec) (i k : Nat) (x y : α) (r : Rec), l[k]? = some r → D (i + k) = true → u r = some y → (∀ j s, k < j → l[j]? = some s → D (i + j) = true → u s = none) → fld u D i l x = y
 | [], _, _, _, _, _, h, _, _, _ => by simp at h
 | s :: l, i, 0, x, y, r, h, hd, hu, hl => by
   simp only [List.getElem?_cons_zero, oI] at h
   subst h
   simp only [fld]
   rw [if_pos (by simpa using hd), hu]
   exact I3 l (i + 1) y fun j s hj hd => hl (j + 1) s (by omega) (by simpa using hj) (by rwa [show i + (j + 1) = i + 1 + j by omega])
 | s :: l, i, k + 1, x, y, r, h, hd, hu, hl => by
   simp only [fld]
   exact fld_last l (i + 1) k _ y r (by simpa using h) (by rwa [show i + 1 + k = i + (k + 1) by omega]) hu fun j s hk hj hd => hl (j + 1) s (by omega) (by simpa using hj) (by rwa [show i + (j + 1) = i + 1 + j by omega])
theorem fld_take : ∀ (l : List Rec) (i k : Nat) (x : α), fld u (fun j => decide (j < i + k)) i l x = fld u (fun _ => true) i (l.take k) x
 | [], _, _, _ => by simp [fld]
 | r :: l, i, 0, x => by
   rw [List.take_zero]
   exact I3 _ _ _ fun j s _ hd => by simp at hd; omega
 | r :: l, i, k + 1, x => by
   simp only [fld, List.take_succ_cons]
   have := fld_take l (i + 1) k (if true = true then (match u r with | some y => y | none => x) else x)
   rw [show i + 1 + k = i + (k + 1) by omega] at this
   simpa using this
end
def tmpU (len t : Nat) (r : Rec) : Option (Option Value) := if r.dst = some t ∧ t < len then some (some r.val) else none
def tsA (ts : Tm) (l : List Rec) : Tm := l.foldl (fun ts r => putV ts r.dst r.val) ts
def hpA (h : Hp) (l : List Rec) : Hp := l.foldl (fun h r => appE h r.ef) h
def nxA (nx : Nat) (l : List Rec) : Nat := l.foldl (fun _ r => r.nx') nx
theorem putV_n (ts : Tm) (d : Option Tmp) (v : Value) : (putV ts d v).n = ts.n := by cases d <;> simp [putV, tput_n]
theorem tsA_get (t : Nat) : ∀ (l : List Rec) (ts : Tm) (i : Nat), ts.n ≤ 60000 → tg (tsA ts l) t = fld (tmpU ts.n t) (fun _ => true) i l (tg ts t)
 | [], _, _, _ => rfl
 | r :: l, ts, i, hb => by
   have ih := tsA_get t l (putV ts r.dst r.val) (i + 1) (by rw [putV_n]; exact hb)
   rw [putV_n] at ih
   have hs : tsA ts (r :: l) = tsA (putV ts r.dst r.val) l := rfl
   rw [hs, ih]
   simp only [fld]
   congr 1
   unfold tmpU putV
   cases hd : r.dst with
   | none => simp
   | some d =>
    simp only [tg_put hb, oI, if_true]
    by_cases e : d = t
    ·subst e
     by_cases hlt : d < ts.n
     ·simp [hlt]
     ·simp [hlt]
    ·simp [e]
theorem hpA_get (n : Nat) : ∀ (l : List Rec) (h : Hp) (i : Nat), lk (hpA h l) n = fld (fun r => Co r.ef n) (fun _ => true) i l (lk h n)
 | [], _, _ => rfl
 | r :: l, h, i => by
   have ih := hpA_get n l (appE h r.ef) (i + 1)
   have hs : hpA h (r :: l) = hpA (appE h r.ef) l := rfl
   rw [hs, ih, M4]
   simp only [fld, if_true]
   cases Co r.ef n <;> rfl
section
variable {E : Env} {call : FuncId → List Value → Hp → Nat → Option Out} {ops : Array Oper}
structure RecOk (E : Env) (ops : Array Oper) (o : Oper) (past : List Rec) (ts : Tm) (h : Hp) (nx : Nat) (r : Rec) : Prop where
 lo : r.lo = loN ops o
 dst : r.dst = o.dst
 enx : r.nx = nx
 an : ancV past o.after.toList = some r.an
 chk : chkV r.an r 0 past = true
 run : (wantV ops ts o = some false ∧ r.val = undef ∧ r.ef = [] ∧ r.nx' = nx) ∨
  (wantV ops ts o = some true ∧ ∃ rh r' d, (∀ n x, lk rh n = some x → lk h n = some x) ∧ r.rd = rh.map (·.1) ∧ r.ef = efOld r' d ++ efNew nx r' ∧ Does E.P o (evR r.lo ts) rh nx (r.val, r', r.nx', d))
theorem chkV_ok {an : Msk} {r : Rec} : ∀ (l : List Rec) (i j : Nat) (p : Rec), chkV an r i l = true → l[j]? = some p → i + j ∈ an ∨ K8 p r = true
 | [], i, j, p, _, hj => by simp at hj
 | q :: l, i, 0, p, h, hj => by
   simp only [List.getElem?_cons_zero, oI] at hj
   subst hj
   simp only [chkV] at h
   rcases Be h with ⟨h1, _⟩ | ⟨_, h⟩
   ·exact .inr h1
   ·rcases Be h with ⟨h1, _⟩ | ⟨_, h⟩
    ·exact .inl (tB_iff.1 h1)
    ·cases h
 | q :: l, i, j + 1, p, h, hj => by
   simp only [chkV] at h
   have hj' : l[j]? = some p := by simpa using hj
   have key : chkV an r (i + 1) l = true := by
    rcases Be h with ⟨_, h⟩ | ⟨_, h⟩
    ·exact h
    ·rcases Be h with ⟨_, h⟩ | ⟨_, h⟩
     ·exact h
     ·cases h
   have := chkV_ok l (i + 1) j p key hj'
   rwa [show i + 1 + j = i + (j + 1) by omega] at this
theorem mem_lor (k : Nat) (a b : Msk) (j : Nat) : j ∈ (⟨Nat.lor (Nat.lor (2 ^ k) a.m) b.m⟩ : Msk) ↔ (j = k ∨ j ∈ a) ∨ j ∈ b := by
 show Nat.testBit ((2 ^ k ||| a.m) ||| b.m) j = true ↔ (j = k ∨ Nat.testBit a.m j = true) ∨ Nat.testBit b.m j = true
 rw [Nat.testBit_or, Nat.testBit_or, Nat.testBit_two_pow, Bool.or_eq_true, Bool.or_eq_true, decide_eq_true_eq]
 constructor
 ·rintro ((h | h) | h)
  ·exact .inl (.inl h.symm)
  ·exact .inl (.inr h)
  ·exact .inr h
 ·rintro ((h | h) | h)
  ·exact .inl (.inl h.symm)
  ·exact .inl (.inr h)
  ·exact .inr h
theorem not_mem0 (j : Nat) : ¬ j ∈ (⟨0⟩ : Msk) := fun h => by
 have : Nat.testBit 0 j = true := h
 simp at this
theorem ancV_ok {past : List Rec} : ∀ {es : List Edge} {l : Msk}, ancV past es = some l → ∀ j, j ∈ l ↔ ∃ e ∈ es, Region.binds .any e = true ∧ ∃ p, past[e.on]? = some p ∧ (j = e.on ∨ j ∈ p.an)
 | [], l, h, j => by simp only [ancV, oI] at h; subst h; simp [not_mem0]
 | e :: es, l, h, j => by
   simp only [ancV] at h
   split at h
   ·cases h
   ·rename_i l' hl
    have ih := ancV_ok hl j
    rcases Be h with ⟨hb, h⟩ | ⟨hb, h⟩
    ·split at h
     ·rename_i p hp
      cases h
      rw [mem_lor, ih]
      constructor
      ·rintro (h | ⟨e', he, hb', q, hq, h⟩)
       ·exact ⟨e, by simp, hb, p, hp, h⟩
       ·exact ⟨e', by simp [he], hb', q, hq, h⟩
      ·rintro ⟨e', he, hb', q, hq, h⟩
       rcases List.mem_cons.1 he with rfl | he
       ·rw [hp] at hq; cases hq; exact .inl h
       ·exact .inr ⟨e', he, hb', q, hq, h⟩
     ·cases h
    ·cases h
     rw [ih]
     constructor
     ·rintro ⟨e', he, r⟩; exact ⟨e', by simp [he], r⟩
     ·rintro ⟨e', he, hb', r⟩
      rcases List.mem_cons.1 he with rfl | he
      ·rw [hb] at hb'; cases hb'
      ·exact ⟨e', he, hb', r⟩
theorem ancV_edge {past : List Rec} : ∀ {es : List Edge} {l : Msk}, ancV past es = some l → ∀ e ∈ es, Region.binds .any e = true → ∃ p, past[e.on]? = some p
 | [], l, h, e, he, _ => by cases he
 | x :: es, l, h, e, he, hb => by
   simp only [ancV] at h
   split at h
   ·cases h
   ·rename_i l' hl
    rcases List.mem_cons.1 he with rfl | he
    ·rw [hb] at h
     simp only [cond_true] at h
     split at h
     ·rename_i p hp; exact ⟨p, hp⟩
     ·cases h
    ·exact ancV_edge hl e he hb
end
structure Run (E : Env) (ops : Array Oper) (recs : List Rec) (ts0 : Tm) (h0 : Hp) (nx0 : Nat) : Prop where
 len : recs.length = ops.size
 ok : ∀ k o r, ops[k]? = some o → recs[k]? = some r → RecOk E ops o (recs.take k) (tsA ts0 (recs.take k)) (hpA h0 (recs.take k)) (nxA nx0 (recs.take k)) r
section
variable {E : Env} {ops : Array Oper} {recs : List Rec} {ts0 : Tm} {h0 : Hp} {nx0 : Nat}
theorem take_snoc {k : Nat} {r : Rec} (h : recs[k]? = some r) : recs.take (k + 1) = recs.take k ++ [r] := by
 obtain ⟨hk, e⟩ := List.getElem?_eq_some_iff.1 h
 rw [List.take_succ_eq_append_getElem hk, e]
theorem Run.opAt (R : Run E ops recs ts0 h0 nx0) {k : Nat} {r : Rec} (h : recs[k]? = some r) : ∃ o, ops[k]? = some o := by
 have hk := (List.getElem?_eq_some_iff.1 h).1
 rw [R.len] at hk
 exact ⟨_, Array.getElem?_eq_getElem hk⟩
theorem Run.recAt (R : Run E ops recs ts0 h0 nx0) {k : Nat} {o : Oper} (h : ops[k]? = some o) : ∃ r, recs[k]? = some r := by
 have hk := (Array.getElem?_eq_some_iff.1 h).1
 rw [← R.len] at hk
 exact ⟨_, List.getElem?_eq_getElem hk⟩
theorem RecOk.mono {o : Oper} {past : List Rec} {ts : Tm} {h : Hp} {nx : Nat} {r : Rec} (K : RecOk E ops o past ts h nx r) : nx ≤ r.nx' := by
 rcases K.run with ⟨_, _, _, e⟩ | ⟨_, rh, r', d, _, _, _, t, _⟩
 ·omega
 ·exact t.1
theorem RecOk.bd {o : Oper} {past : List Rec} {ts : Tm} {h : Hp} {nx : Nat} {r : Rec} (K : RecOk E ops o past ts h nx r) (hB : Bd h nx) : Bd (appE h r.ef) r.nx' := by
 intro n hn
 have hm := K.mono
 rw [M4]
 rcases K.run with ⟨_, _, e, _⟩ | ⟨_, rh, r', d, hsub, _, e, t, _⟩
 ·rw [e]; exact hB n (by omega)
 ·have hBr : Bd rh nx := fun m hm => by
   cases hl : lk rh m with
   | none => rfl
   | some x => have := hsub m x hl; rw [hB m hm] at this; cases this
  have h1 := t.2.2 hBr n hn
  simp only at h1
  rw [e, assoc_app, Lo, Jr, h1]
  split
  ·rename_i o ho
   split at ho
   ·rename_i o' ho'
    split at ho'
    ·cases ho'; cases ho; rfl
    ·cases ho'
   ·rename_i ho'
    split at ho
    ·simp at ho
    ·cases ho
  ·exact hB n (by omega)
theorem Run.nxs (R : Run E ops recs ts0 h0 nx0) {k : Nat} {r : Rec} (h : recs[k]? = some r) : nxA nx0 (recs.take (k + 1)) = r.nx' := by
 rw [take_snoc h]; simp [nxA]
theorem Run.nxm (R : Run E ops recs ts0 h0 nx0) : ∀ (i j : Nat), i ≤ j → nxA nx0 (recs.take i) ≤ nxA nx0 (recs.take j) := by
 intro i j hij
 induction j with
 | zero => have : i = 0 := by omega
           subst this; exact Nat.le_refl _
 | succ j ih =>
  rcases Nat.lt_or_ge i (j + 1) with h | h
  ·refine Nat.le_trans (ih (by omega)) ?_
   cases hr : recs[j]? with
   | none =>
    have hl : recs.length ≤ j := by rwa [List.getElem?_eq_none_iff] at hr
    rw [List.take_of_length_le hl, List.take_of_length_le (by omega)]
    exact Nat.le_refl _
   | some r =>
    obtain ⟨o, ho⟩ := R.opAt hr
    rw [R.nxs hr]
    exact (R.ok j o r ho hr).mono
  ·have : i = j + 1 := by omega
   subst this; exact Nat.le_refl _
theorem Run.bds (R : Run E ops recs ts0 h0 nx0) (hB : Bd h0 nx0) : ∀ k, k ≤ recs.length → Bd (hpA h0 (recs.take k)) (nxA nx0 (recs.take k))
 | 0, _ => by simpa [hpA, nxA] using hB
 | k + 1, hk => by
   have hr : recs[k]? = some recs[k] := List.getElem?_eq_getElem (by omega)
   obtain ⟨o, ho⟩ := R.opAt hr
   have h1 := (R.ok k o _ ho hr).bd (R.bds hB k (by omega))
   have e : hpA h0 (recs.take k ++ [recs[k]]) = appE (hpA h0 (recs.take k)) recs[k].ef := by simp only [hpA, List.foldl_append]; rfl
   rw [R.nxs hr, take_snoc hr, e]
   exact h1
theorem Run.sep (R : Run E ops recs ts0 h0 nx0) {j k : Nat} {p r : Rec} (hj : recs[j]? = some p) (hk : recs[k]? = some r) (hlt : j < k) : p.nx' ≤ r.nx := by
 obtain ⟨o, ho⟩ := R.opAt hk
 rw [(R.ok k o r ho hk).enx, ← R.nxs hj]
 exact R.nxm _ _ hlt
theorem Run.compar (R : Run E ops recs ts0 h0 nx0) {j k : Nat} {p r : Rec} (hj : recs[j]? = some p) (hk : recs[k]? = some r) (hne : j ≠ k) (h1 : j < k → K8 p r = false) (h2 : k < j → K8 r p = false) : (j < k ∧ j ∈ r.an) ∨ (k < j ∧ k ∈ p.an) := by
 have key : ∀ (a b : Nat) (x y : Rec), recs[a]? = some x → recs[b]? = some y → a < b → K8 x y = false → a ∈ y.an := fun a b x y ha hb hab hap => by
  obtain ⟨o, ho⟩ := R.opAt hb
  have := chkV_ok _ 0 a x (R.ok b o y ho hb).chk (by rw [List.getElem?_take_of_lt hab]; exact ha)
  rw [Nat.zero_add] at this
  rcases this with h | h
  ·exact h
  ·rw [hap] at h; cases h
 rcases Nat.lt_or_gt_of_ne hne with h | h
 ·exact .inl ⟨h, key j k p r hj hk h (h1 h)⟩
 ·exact .inr ⟨h, key k j r p hk hj h (h2 h)⟩

section
variable {α : Type} {u : Rec → Option α} {D : Nat → Bool} {k : Nat} {r : Rec}
theorem fld_agree (hk : recs[k]? = some r) (hDk : D k = false) (han : ∀ j ∈ r.an, D j = true) (down : ∀ j p, recs[j]? = some p → D j = true → ∀ i ∈ p.an, D i = true)
  (hc : ∀ j p, recs[j]? = some p → u p ≠ none → j ≠ k → (j < k ∧ j ∈ r.an) ∨ (k < j ∧ k ∈ p.an)) (x : α) : fld u D 0 recs x = fld u (fun _ => true) 0 (recs.take k) x := by
 rw [← fld_take]
 refine I4 recs 0 x fun j p hj hu => ?_
 rw [Nat.zero_add, Nat.zero_add]
 by_cases e : j = k
 ·subst e; simp [hDk]
 ·rcases hc j p hj hu e with ⟨h1, h2⟩ | ⟨h1, h2⟩
  ·rw [han j h2]; simp [h1]
  ·cases hd : D j with
   | false => simp; omega
   | true => have := down j p hj hd k h2; rw [hDk] at this; cases this
theorem fld_after (hk : recs[k]? = some r) (hDk : D k = false) (down : ∀ j p, recs[j]? = some p → D j = true → ∀ i ∈ p.an, D i = true)
  (hc : u r ≠ none → ∀ j p, recs[j]? = some p → u p ≠ none → j ≠ k → (j < k ∧ j ∈ r.an) ∨ (k < j ∧ k ∈ p.an)) {D' : Nat → Bool} (hD' : ∀ j, D' j = if j = k then true else D j) (x : α) :
  fld u D' 0 recs x = match u r with | some y => y | none => fld u D 0 recs x := by
 cases hu : u r with
 | none =>
  refine I4 recs 0 x fun j p hj hup => ?_
  rw [Nat.zero_add, hD']
  split
  ·rename_i e; subst e; rw [hk] at hj; cases hj; exact absurd hu hup
  ·rfl
 | some y =>
  refine fld_last recs 0 k x y r hk (by rw [Nat.zero_add, hD']; simp) hu fun j p hkj hj hd => ?_
  rw [Nat.zero_add, hD'] at hd
  rw [if_neg (by omega)] at hd
  cases hup : u p with
  | none => rfl
  | some z =>
   rcases hc (by rw [hu]; simp) j p hj (by rw [hup]; simp) (by omega) with ⟨h1, h2⟩ | ⟨h1, h2⟩
   ·omega
   ·have := down j p hj hd k h2; rw [hDk] at this; cases this
end
end
section
variable {E : Env} {ops : Array Oper} {recs : List Rec} {ts0 : Tm} {h0 : Hp} {nx0 : Nat} {W : World} {σ0 : Sg} {w0 : World} {ds : List Deferred}
def Eu (recs : List Rec) (h0 : Hp) (D : Nat → Bool) (n : Nat) : Option Rw := fld (fun r => Co r.ef n) D 0 recs (lk h0 n)
def Ls (recs : List Rec) (ts0 : Tm) (D : Nat → Bool) (t : Nat) : Option Value := fld (tmpU ts0.n t) D 0 recs (tg ts0 t)
structure DInv (recs : List Rec) (ts0 : Tm) (h0 : Hp) (W : World) (σ0 : Sg) (w0 : World) (ds : List Deferred) (D : Nat → Bool) (σ : Sg) (a : Act) (w : World) : Prop where
 rl : RlF W σ (Eu recs h0 D) w
 ts : ∀ t v, Ls recs ts0 D t = some v → renV σ v = some (a.tmps.getD t undef)
 tn : ts0.n = a.tmps.size
 tb : ts0.n ≤ 60000
 le : σ0.le σ
 only : ∀ n, (∀ k r, recs[k]? = some r → D k = true → ¬ (r.nx ≤ n ∧ n < r.nx')) → σ.b n = σ0.b n ∧ σ.c n = σ0.c n
 size : w0.heap.size ≤ w.heap.size
 fr : ∀ b, b < w0.heap.size → (∀ n r p, lk h0 n = some r → r.own → σ0.b n = some p → p.1 ≠ b) → (∀ n r, lk h0 n = some r → b ∉ ex σ0 n) → w.heap[b]? = w0.heap[b]?
 src : ∀ n r p, Eu recs h0 D n = some r → r.own → σ.b n = some p → w0.heap.size ≤ p.1 ∨ ∃ m s q, lk h0 m = some s ∧ s.own ∧ σ0.b m = some q ∧ q.1 = p.1
 ssrc : ∀ n r k, Eu recs h0 D n = some r → k ∈ sh σ n → w0.heap.size ≤ k ∨ (∃ m s q, lk h0 m = some s ∧ s.own ∧ σ0.b m = some q ∧ q.1 = k) ∨ ∃ m s, lk h0 m = some s ∧ k ∈ sh σ0 m
 xsrc : ∀ n r k, Eu recs h0 D n = some r → k ∈ ex σ n → w0.heap.size ≤ k ∨ (∃ m s q, lk h0 m = some s ∧ s.own ∧ σ0.b m = some q ∧ q.1 = k) ∨ ∃ m s, lk h0 m = some s ∧ k ∈ ex σ0 m
 defers : a.defers = ds
 down : ∀ j p, recs[j]? = some p → D j = true → ∀ i ∈ p.an, D i = true

theorem Cu {p r : Rec} (h : K8 p r = true) : (∀ n, n ∈ p.ef.map (·.1) → n ∉ r.rd) ∧ (∀ n, n ∈ p.rd → n ∉ r.ef.map (·.1)) ∧ (∀ n, n ∈ p.ef.map (·.1) → n ∉ r.ef.map (·.1)) ∧ (∀ t, p.dst = some t → t ∉ r.lo) ∧ (∀ t, r.dst = some t → t ∉ p.lo) ∧ (∀ t, p.dst = some t → r.dst ≠ some t) := by
 unfold K8 at h
 rcases Be h with ⟨_, h⟩ | ⟨h4, h⟩
 ·cases h
 rcases Be h with ⟨_, h⟩ | ⟨h5, h⟩
 ·cases h
 rcases Be h with ⟨_, h⟩ | ⟨h6, h⟩
 ·cases h
 rcases Be h with ⟨h1, h2⟩ | ⟨_, h⟩
 case inr => cases h
 have e1 : ∀ n, n ∈ p.ef.map (·.1) → n ∉ r.rd ∧ n ∉ r.ef.map (·.1) := fun n hn => by
  split at h1
  ·rename_i he; rw [he] at hn; cases hn
  ·rcases Be h1 with ⟨a, b⟩ | ⟨_, h⟩
   ·exact ⟨Jt a hn, Jt b hn⟩
   ·cases h
 refine ⟨fun n hn => (e1 n hn).1, fun n hn hm => ?_, fun n hn => (e1 n hn).2, fun t ht => ?_, fun t ht => ?_, fun t ht e => ?_⟩
 ·split at h2
  ·rename_i he; rw [he] at hm; cases hm
  ·exact Jt h2 hn hm
 ·rw [ht] at h4; exact En h4
 ·rw [ht] at h5; exact En h5
 ·rw [ht, e] at h6; simp [dstEq] at h6
theorem Jh {b : Bool} (h : b = true → False) : b = false := by cases b <;> simp_all
variable (R : Run E ops recs ts0 h0 nx0)
include R
theorem DInv.rows {D : Nat → Bool} {σ : Sg} {a : Act} {w : World} (I : DInv recs ts0 h0 W σ0 w0 ds D σ a w) {k : Nat} {r : Rec} (hk : recs[k]? = some r) (hDk : D k = false) (han : ∀ j ∈ r.an, D j = true) {n : Nat} (hn : n ∈ r.rd) :
  Eu recs h0 D n = lk (hpA h0 (recs.take k)) n := by
 rw [hpA_get n (recs.take k) h0 0]
 refine fld_agree hk hDk han I.down (fun j p hj hu hne => R.compar hj hk hne (fun _ => Jh fun h => ?_) (fun _ => Jh fun h => ?_)) _
 ·exact (Cu h).1 n (Dy hu) hn
 ·exact (Cu h).2.1 n hn (Dy hu)
theorem DInv.tmps {D : Nat → Bool} {σ : Sg} {a : Act} {w : World} (I : DInv recs ts0 h0 W σ0 w0 ds D σ a w) {k : Nat} {r : Rec} (hk : recs[k]? = some r) (hDk : D k = false) (han : ∀ j ∈ r.an, D j = true) {t : Nat} (hn : t ∈ r.lo) :
  Ls recs ts0 D t = tg (tsA ts0 (recs.take k)) t := by
 rw [tsA_get t (recs.take k) ts0 0 I.tb]
 have hd : ∀ p : Rec, tmpU ts0.n t p ≠ none → p.dst = some t := fun p hu => by
  unfold tmpU at hu
  split at hu
  ·rename_i h; exact h.1
  ·exact absurd rfl hu
 refine fld_agree hk hDk han I.down (fun j p hj hu hne => R.compar hj hk hne (fun _ => Jh fun h => ?_) (fun _ => Jh fun h => ?_)) _
 ·exact (Cu h).2.2.2.1 t (hd p hu) hn
 ·exact (Cu h).2.2.2.2.1 t (hd p hu) hn
theorem Ib {D D' : Nat → Bool} {k : Nat} {r : Rec} (hk : recs[k]? = some r) (hDk : D k = false) (down : ∀ j p, recs[j]? = some p → D j = true → ∀ i ∈ p.an, D i = true) (hD' : ∀ j, D' j = if j = k then true else D j) :
  Eu recs h0 D' = updF (Co r.ef) (Eu recs h0 D) := by
 funext n
 unfold Eu updF
 rw [fld_after hk hDk down (fun hur j p hj hu hne => R.compar hj hk hne (fun _ => Jh fun h => ?_) (fun _ => Jh fun h => ?_)) hD']
 ·cases Co r.ef n <;> rfl
 ·exact (Cu h).2.2.1 n (Dy hu) (Dy hur)
 ·exact (Cu h).2.2.1 n (Dy hur) (Dy hu)
theorem tmp_after {D D' : Nat → Bool} {k : Nat} {r : Rec} (hk : recs[k]? = some r) (hDk : D k = false) (down : ∀ j p, recs[j]? = some p → D j = true → ∀ i ∈ p.an, D i = true) (hD' : ∀ j, D' j = if j = k then true else D j) (t : Nat) :
  Ls recs ts0 D' t = match tmpU ts0.n t r with | some y => y | none => Ls recs ts0 D t := by
 have hd : ∀ p : Rec, tmpU ts0.n t p ≠ none → p.dst = some t := fun p hu => by
  unfold tmpU at hu
  split at hu
  ·rename_i h; exact h.1
  ·exact absurd rfl hu
 unfold Ls
 rw [fld_after hk hDk down (fun hur j p hj hu hne => R.compar hj hk hne (fun _ => Jh fun h => ?_) (fun _ => Jh fun h => ?_)) hD']
 ·cases tmpU ts0.n t r <;> rfl
 ·exact (Cu h).2.2.2.2.2 t (hd p hu) (hd r hur)
 ·exact (Cu h).2.2.2.2.2 t (hd r hur) (hd p hu)
theorem DInv.put {D D' : Nat → Bool} {σ σ' : Sg} {a : Act} {w w' : World} (I : DInv recs ts0 h0 W σ0 w0 ds D σ a w) {k : Nat} {r : Rec} (hk : recs[k]? = some r) (hDk : D k = false) (han : ∀ j ∈ r.an, D j = true) (hD' : ∀ j, D' j = if j = k then true else D j)
  {rh r' : Hp} (hsub : ∀ n x, lk rh n = some x → Eu recs h0 D n = some x) (S : Stp W r.nx r.nx' σ rh w σ' r' w') (hu1 : ∀ n x, Co r.ef n = some (some x) → lk r' n = some x) (hu2 : ∀ n x, Co r.ef n = none → lk rh n = some x → lk r' n = some x)
  {v' : Value} (hv : renV σ' r.val = some v') : DInv recs ts0 h0 W σ0 w0 ds D' σ' (a.put r.dst v') w' where
 rl := by rw [Ib R hk hDk I.down hD']; exact I.rl.step hsub S _ hu1 hu2
 tn := by rw [I.tn]; cases r.dst <;> simp [Act.put]
 tb := I.tb
 ts t v hv0 := by
  rw [tmp_after R hk hDk I.down hD' t] at hv0
  have old : ∀ tm : Array Value, tm[t]? = a.tmps[t]? → Ls recs ts0 D t = some v → renV σ' v = some (tm.getD t undef) := fun tm e hh => by
   rw [Jk S.le _ _ (I.ts t v hh)]
   simp only [Array.getD_eq_getD_getElem?, e]
  unfold tmpU at hv0
  unfold Act.put
  cases hd : r.dst with
  | none =>
   simp only [hd, reduceCtorEq, false_and, if_false] at hv0
   exact old _ rfl hv0
  | some d =>
   by_cases e : d = t
   ·subst e
    by_cases hlt : d < ts0.n
    ·simp only [hd, hlt, and_self, if_true, oI] at hv0
     subst hv0
     have hs : d < a.tmps.size := by rw [← I.tn]; exact hlt
     rw [hv]; simp [hs]
    ·simp only [hlt, and_false, if_false] at hv0
     refine old _ ?_ hv0
     have hge : a.tmps.size ≤ d := by rw [← I.tn]; exact Nat.le_of_not_lt hlt
     rw [Array.getElem?_eq_none_iff.2 (by simpa using hge), Array.getElem?_eq_none_iff.2 hge]
   ·have : ¬ (r.dst = some t ∧ t < ts0.n) := fun h => e (by rw [hd] at h; exact Option.some.inj h.1)
    rw [if_neg this] at hv0
    exact old _ (Array.getElem?_setIfInBounds_ne e) hv0
 le := I.le.trans S.le
 only n hn := by
  have h1 := S.only n (by
   have := hn k r hk (by rw [hD']; simp)
   omega)
  have h2 := I.only n fun j p hj hd => hn j p hj (by rw [hD']; split <;> simp_all)
  exact ⟨h1.1.trans h2.1, h1.2.trans h2.2⟩
 size := Nat.le_trans I.size S.size
 fr b hb hno hnx := by
  rw [S.fr b (Nat.lt_of_lt_of_le hb I.size) (fun n x p hn ho hp e => ?_) (fun n x hn e => ?_), I.fr b hb hno hnx]
  ·rcases I.src n x p (hsub n x hn) ho hp with h | ⟨m, s, q, hm, hs, hq, e2⟩
   ·omega
   ·exact hno m s q hm hs hq (e2.trans e)
  ·rcases I.xsrc n x b (hsub n x hn) e with h | ⟨m, s, q, hm, hs, hq, e2⟩ | ⟨m, s, hm, e2⟩
   ·omega
   ·exact hno m s q hm hs hq e2
   ·exact hnx m s hm e2
 src n x p hn ho hp := by
  rw [Ib R hk hDk I.down hD'] at hn
  unfold updF at hn
  have viaS : lk r' n = some x → w0.heap.size ≤ p.1 ∨ ∃ m s q, lk h0 m = some s ∧ s.own ∧ σ0.b m = some q ∧ q.1 = p.1 := fun hl => by
   rcases S.src n x p hl ho hp with h | ⟨m, s, q, hm, hs, hq, e⟩
   ·exact .inl (Nat.le_trans I.size h)
   ·rcases I.src m s q (hsub m s hm) hs hq with h | ⟨m', s', q', h1, h2, h3, h4⟩
    ·exact .inl (by omega)
    ·exact .inr ⟨m', s', q', h1, h2, h3, h4.trans e⟩
  cases hu : Co r.ef n with
  | some o => rw [hu] at hn; simp only at hn; subst hn; exact viaS (hu1 n x hu)
  | none =>
   rw [hu] at hn
   simp only at hn
   obtain ⟨b, s, vs, hb, _⟩ := I.rl.row n x hn
   have := S.le.1 _ _ hb
   rw [hp] at this
   cases this
   exact I.src n x (b, s) hn ho hb
 ssrc n x kk hn hk' := by
  rw [Ib R hk hDk I.down hD'] at hn
  unfold updF at hn
  have viaS : lk r' n = some x → w0.heap.size ≤ kk ∨ (∃ m s q, lk h0 m = some s ∧ s.own ∧ σ0.b m = some q ∧ q.1 = kk) ∨ ∃ m s, lk h0 m = some s ∧ kk ∈ sh σ0 m := fun hl => by
   rcases S.ssrc n x kk hl hk' with h | ⟨m, s, q, hm, hs, hq, e⟩ | ⟨m, s, hm, hs⟩
   ·exact .inl (Nat.le_trans I.size h)
   ·rcases I.src m s q (hsub m s hm) hs hq with h | ⟨m', s', q', h1, h2, h3, h4⟩
    ·exact .inl (by omega)
    ·exact .inr (.inl ⟨m', s', q', h1, h2, h3, h4.trans e⟩)
   ·exact I.ssrc m s kk (hsub m s hm) hs
  cases hu : Co r.ef n with
  | some o => rw [hu] at hn; simp only at hn; subst hn; exact viaS (hu1 n x hu)
  | none =>
   rw [hu] at hn
   simp only at hn
   obtain ⟨b, s, vs, hb, _⟩ := I.rl.row n x hn
   have e := (S.le.2.2 _ _ hb).2.1
   exact I.ssrc n x kk hn (by unfold sh at hk' ⊢; rw [e] at hk'; exact hk')
 xsrc n x kk hn hk' := by
  rw [Ib R hk hDk I.down hD'] at hn
  unfold updF at hn
  have viaS : lk r' n = some x → w0.heap.size ≤ kk ∨ (∃ m s q, lk h0 m = some s ∧ s.own ∧ σ0.b m = some q ∧ q.1 = kk) ∨ ∃ m s, lk h0 m = some s ∧ kk ∈ ex σ0 m := fun hl => by
   rcases S.xsrc n x kk hl hk' with h | ⟨m, s, q, hm, hs, hq, e⟩ | ⟨m, s, hm, hs⟩
   ·exact .inl (Nat.le_trans I.size h)
   ·rcases I.src m s q (hsub m s hm) hs hq with h | ⟨m', s', q', h1, h2, h3, h4⟩
    ·exact .inl (by omega)
    ·exact .inr (.inl ⟨m', s', q', h1, h2, h3, h4.trans e⟩)
   ·exact I.xsrc m s kk (hsub m s hm) hs
  cases hu : Co r.ef n with
  | some o => rw [hu] at hn; simp only at hn; subst hn; exact viaS (hu1 n x hu)
  | none =>
   rw [hu] at hn
   simp only at hn
   obtain ⟨b, s, vs, hb, _⟩ := I.rl.row n x hn
   have e := (S.le.2.2 _ _ hb).2.1
   exact I.xsrc n x kk hn (by unfold ex at hk' ⊢; rw [e] at hk'; exact hk')
 defers := by cases r.dst <;> exact I.defers
 down j p hj hd i hi := by
  rw [hD'] at hd
  rw [hD']
  split at hd
  ·rename_i e; subst e
   rw [hk] at hj; cases hj
   split
   ·rfl
   ·exact han i hi
  ·split
   ·rfl
   ·exact I.down j p hj hd i hi
end
def cntU (l : Array Bool) : Nat → Nat
 | 0 => 0
 | n + 1 => cntU l n + (if l.getD n true = false then 1 else 0)
theorem cntU_set {l : Array Bool} {i : Nat} (hi : l.getD i true = false) : ∀ n, cntU (l.setIfInBounds i true) n + (if i < n then 1 else 0) = cntU l n
 | 0 => by simp [cntU]
 | n + 1 => by
   have ih := cntU_set hi n
   simp only [cntU]
   by_cases e : i = n
   ·subst e
    have h1 : (l.setIfInBounds i true).getD i true = true := by
     rcases Nat.lt_or_ge i l.size with h | h <;> simp [h]
    rw [h1, hi]
    simp only [Nat.lt_irrefl, if_false, Nat.lt_succ_self, if_true, Bool.true_eq_false] at ih ⊢
    omega
   ·rw [getD_set_ne true e]
    have e2 : (if i < n + 1 then 1 else 0 : Nat) = if i < n then 1 else 0 := by
     by_cases h : i < n
     ·rw [if_pos h, if_pos (Nat.lt_succ_of_lt h)]
     ·rw [if_neg h, if_neg (fun h2 => h (Nat.lt_of_le_of_ne (Nat.le_of_lt_succ h2) e))]
    rw [e2]
    omega
theorem Jq {l : Array Bool} : ∀ {n : Nat}, cntU l n = 0 → ∀ i, i < n → l.getD i true = true
 | 0, _, i, h => by omega
 | n + 1, hc, i, h => by
   simp only [cntU] at hc
   rcases Nat.lt_or_ge i n with h1 | h1
   ·exact Jq (by omega) i h1
   ·have : i = n := by omega
    subst this
    cases hb : l.getD i true with
    | true => rfl
    | false => rw [hb] at hc; simp at hc
theorem cntU_some {l : Array Bool} : ∀ {n : Nat}, cntU l n ≠ 0 → ∃ i, i < n ∧ l.getD i true = false ∧ ∀ j, j < i → l.getD j true = true
 | 0, h => by simp [cntU] at h
 | n + 1, h => by
   by_cases h0 : cntU l n = 0
   ·simp only [cntU, h0, Nat.zero_add] at h
    refine ⟨n, by omega, ?_, Jq h0⟩
    cases hb : l.getD n true with
    | false => rfl
    | true => rw [hb] at h; simp at h
   ·obtain ⟨i, h1, h2, h3⟩ := cntU_some h0
    exact ⟨i, by omega, h2, h3⟩
section
variable {E : Env} {ops : Array Oper} {recs : List Rec} {ts0 : Tm} {h0 : Hp} {nx0 : Nat} {W : World} {σ0 : Sg} {w0 : World} {ds : List Deferred}
theorem Le {l : Array Bool} {i : Nat} (hi : i < l.size) : l.getD i true = l.getD i false := by
 simp [Array.getElem?_eq_getElem hi]
theorem getD_undone {l : Array Bool} {i : Nat} (h : l.getD i true = false) : i < l.size ∧ l.getD i false = false := by
 rcases Nat.lt_or_ge i l.size with h' | h'
 ·exact ⟨h', by rw [← Le h']; exact h⟩
 ·simp [Array.getElem?_eq_none h'] at h
theorem evs_R {σ : Sg} {ts : Tm} {a : Act} {lo : List Nat} (h : ∀ t ∈ lo, ∀ v, tg ts t = some v → renV σ v = some (a.tmps.getD t undef)) : Evs σ (evR lo ts) a := by
 intro x v hx
 cases x with
 | tmp t =>
  simp only [evR] at hx
  obtain ⟨hm, hx⟩ := Ba hx
  rw [h t (Ki.1 hm) v hx]; simp [Act.eval]
 | const c =>
  simp only [evR, evA] at hx
  obtain ⟨hc, hx⟩ := Ba hx
  cases hx; exact Cs σ hc
 | func f => simp only [evR, evA, oI] at hx; subst hx; rfl
 | global g => simp [evR, evA] at hx
theorem draw_any {F : Fence} {m : Nat} (hF : Wide F) (R : Run E ops recs ts0 h0 nx0) (hB : Bd h0 nx0) (hf : Fresh σ0 nx0 (nxA nx0 recs)) {Q : Exit → Act → World → Prop}
  (hQ : ∀ D σ a w, (∀ k, k < recs.length → D k = true) → DInv recs ts0 h0 W σ0 w0 ds D σ a w → Q .normal a w) :
  ∀ (fuel : Nat) (listed : Array Bool) (σ : Sg) (a : Act) (w : World), listed.size = ops.size → cntU listed ops.size ≤ fuel → DInv recs ts0 h0 W σ0 w0 ds (fun k => listed.getD k false) σ a w → wpAnyIn F m E.P .any ops Q fuel listed a w := by
 have rdy : ∀ (listed : Array Bool), listed.size = ops.size → cntU listed ops.size ≠ 0 → Region.ready .any ops listed ≠ [] := fun listed hs hc he => by
  obtain ⟨i, h1, h2, h3⟩ := cntU_some hc
  have : i ∈ Region.ready .any ops listed := by
   rw [mem_ready]
   refine ⟨h2, ops[i], Array.getElem?_eq_getElem h1, fun e he hb => ?_⟩
   have ho : ops[i]? = some ops[i] := Array.getElem?_eq_getElem h1
   obtain ⟨r, hr⟩ := R.recAt ho
   obtain ⟨p, hp⟩ := ancV_edge (R.ok i _ r ho hr).an e (by simpa using he) hb
   have hlt := (List.getElem?_eq_some_iff.1 hp).1
   simp only [List.length_take] at hlt
   have h4 := h3 e.on (by omega)
   rw [Le (by omega)] at h4
   exact h4
  rw [he] at this; cases this
 have done : ∀ (listed : Array Bool), listed.size = ops.size → cntU listed ops.size = 0 → ∀ k, k < recs.length → listed.getD k false = true := fun listed hs hc k hk => by
  rw [R.len] at hk
  rw [← Le (by omega)]
  exact Jq hc k hk
 intro fuel
 induction fuel with
 | zero =>
  intro listed σ a w hs hc I
  refine ⟨?_, hQ _ σ a w (done listed hs (by omega)) I⟩
  cases hr : Region.ready .any ops listed with
  | nil => rfl
  | cons i l =>
   have hi : i ∈ Region.ready .any ops listed := by rw [hr]; simp
   obtain ⟨h1, o, ho, _⟩ := mem_ready.1 hi
   have := Jq (l := listed) (n := ops.size) (by omega) i (Array.getElem?_eq_some_iff.1 ho).1
   rw [this] at h1; cases h1
 | succ fuel ih =>
  intro listed σ a w hs hc I
  refine ⟨fun he => ?_, fun k hk => ?_⟩
  ·by_cases h0 : cntU listed ops.size = 0
   ·exact hQ _ σ a w (done listed hs h0) I
   ·exact absurd he (rdy listed hs h0)
  ·obtain ⟨hu, o, ho, hall⟩ := mem_ready.1 hk
   obtain ⟨r, hr⟩ := R.recAt ho
   obtain ⟨hkl, hDk⟩ := getD_undone hu
   have K := R.ok k o r ho hr
   have han : ∀ j ∈ r.an, listed.getD j false = true := fun j hj => by
    obtain ⟨e, he, hb, p, hp, h⟩ := (ancV_ok K.an j).1 hj
    have h1 := hall e (by simpa using he) hb
    rcases h with rfl | h
    ·exact h1
    ·have hlt := (List.getElem?_eq_some_iff.1 hp).1
     simp only [List.length_take] at hlt
     exact I.down e.on p (by rw [List.getElem?_take_of_lt (by omega)] at hp; exact hp) h1 j h
   have hD' : ∀ j, (listed.setIfInBounds k true).getD j false = if j = k then true else listed.getD j false := fun j => by
    split
    ·rename_i e; subst e; simp [hkl]
    ·rename_i e; rw [getD_set_ne false (Ne.symm e)]
   have hcnt : cntU (listed.setIfInBounds k true) ops.size ≤ fuel := by
    have := cntU_set hu ops.size
    rw [if_pos (Array.getElem?_eq_some_iff.1 ho).1] at this
    omega
   have htm : ∀ t ∈ r.lo, ∀ v, tg (tsA ts0 (recs.take k)) t = some v → renV σ v = some (a.tmps.getD t undef) := fun t ht => by
    have := I.ts t
    rw [I.tmps R hr hDk han ht] at this
    exact this
   have hguard : ∀ j want oj d, o.guard = some (j, want) → ops[j]? = some oj → oj.dst = some d → d ∈ r.lo := fun j want oj d hg hj hd => by
    rw [K.lo]
    unfold loN
    simp [hg, hj, hd]
   unfold wpOpIn
   simp only [ho]
   have hnx : r.nx = nxA nx0 (recs.take k) := K.enx
   rcases K.run with ⟨hw, hv, hef, hnx'⟩ | ⟨hw, rh, r', d, hsub, hrd, hef, hdo⟩
   ·have hwant := K9 (σ := σ) (tmps := a.tmps) hw (fun j want oj dd hg hj hd => htm dd (hguard j want oj dd hg hj hd))
    rw [if_neg (by rw [hwant]; exact Bool.false_ne_true)]
    refine ⟨fun f _ => by rw [hF.1]; trivial, ih _ σ _ w (by simpa using hs) hcnt ?_⟩
    have S0 : Stp W r.nx r.nx' σ [] w σ [] w := by
     have : r.nx' = r.nx := by rw [hnx', K.enx]
     rw [this]
     exact Stp.refl (I.rl.sub fun n x e => by simp [lk] at e) _
    have := I.put R hr hDk han hD' (rh := []) (r' := []) (fun n x e => by simp [lk] at e) S0 (fun n x e => by rw [hef] at e; simp [Co] at e) (fun n x _ e => by simp [lk] at e) (v' := undef) (by rw [hv]; rfl)
    rw [K.dst] at this
    exact this
   ·have hwant := K9 (σ := σ) (tmps := a.tmps) hw (fun j want oj dd hg hj hd => htm dd (hguard j want oj dd hg hj hd))
    rw [if_pos hwant]
    have hrow : ∀ n x, lk rh n = some x → Eu recs h0 (fun k => listed.getD k false) n = some x := fun n x e => by
     rw [I.rows R hr hDk han (by rw [hrd]; exact Hz e)]
     exact hsub n x e
    have hkr : k < recs.length := (List.getElem?_eq_some_iff.1 hr).1
    have hBr : Bd rh (nxA nx0 (recs.take k)) := fun m hm => by
     cases hl : lk rh m with
     | none => rfl
     | some x => have := hsub m x hl; rw [R.bds hB k (by omega) m hm] at this; cases this
    have hfr : Fresh σ (nxA nx0 (recs.take k)) r.nx' := fun n h1 h2 => by
     have ho := I.only n fun j p hj hd hin => by
      rcases Nat.lt_trichotomy j k with h | h | h
      ·have := R.sep hj hr h; omega
      ·subst h; rw [hDk] at hd; cases hd
      ·have := R.sep hr hj h; omega
     have hle : r.nx' ≤ nxA nx0 recs := by
      have := R.nxm (k + 1) recs.length (by omega)
      rw [R.nxs hr, List.take_length] at this
      exact this
     have hge : nx0 ≤ nxA nx0 (recs.take k) := by
      have := R.nxm 0 k (by omega)
      simpa [nxA] using this
     have := hf n (by omega) (by omega)
     exact ⟨ho.1.trans this.1, ho.2.trans this.2⟩
    refine hdo.2 hBr W σ w a (I.rl.sub hrow) hfr (evs_R fun t ht => htm t ht) F m hF _ _ fun σ' w' v' S hv => ?_
    refine ih _ σ' _ w' (by simpa using hs) hcnt ?_
    have t := hdo.1
    have S' : Stp W r.nx r.nx' σ rh w σ' r' w' := by rw [hnx]; exact S
    have hu : ∀ n, Co r.ef n = if n ∈ d then some (lk r' n) else if nxA nx0 (recs.take k) ≤ n then (lk r' n).map some else none := fun n => by
     rw [hef, assoc_app, Lo, Jr]
     split <;> simp_all
    have := I.put R hr hDk han hD' (rh := rh) (r' := r') hrow S' (fun n x e => by
     rw [hu] at e
     split at e
     ·exact Option.some.inj e
     ·split at e
      ·cases hl : lk r' n with
       | none => rw [hl] at e; simp at e
       | some y => rw [hl] at e; simp at e; rw [e]
      ·cases e) (fun n x e hx => by
     rw [hu] at e
     split at e
     ·cases e
     ·rename_i hnd
      have hlt : n < nxA nx0 (recs.take k) := by
       rcases Nat.lt_or_ge n (nxA nx0 (recs.take k)) with h | h
       ·exact h
       ·rw [hBr n h] at hx; cases hx
      have := t.2.1 n hlt hnd
      simp only at this
      rw [this]; exact hx) hv
    rw [K.dst] at this
    exact this
end
section
variable {E : Env} {call : FuncId → List Value → Hp → Nat → Option Out}
theorem oldN_mem {nx n : Nat} (hn : n < nx) : ∀ {l : List (Nat × Option Rw)}, n ∈ l.map (·.1) → n ∈ oldN nx l
 | [], h => by cases h
 | (m, r) :: t, h => by
   simp only [List.map_cons, List.mem_cons] at h
   simp only [oldN]
   cases hm : Nat.blt m nx with
   | true =>
    simp only [cond_true, List.mem_cons]
    exact h.imp id fun h => oldN_mem hn h
   | false =>
    simp only [cond_false]
    rcases h with rfl | h
    ·have : Nat.blt n nx = true := Nat.ble_eq_true_of_le hn
     rw [this] at hm; cases hm
    ·exact oldN_mem hn h
theorem dirty_mem {nx n : Nat} (hn : n < nx) : ∀ {l : List Rec} {r : Rec}, r ∈ l → n ∈ r.ef.map (·.1) → n ∈ dirtyV nx l
 | [], r, h, _ => by cases h
 | s :: l, r, h, hm => by
   simp only [dirtyV, List.mem_append]
   rcases List.mem_cons.1 h with rfl | h
   ·exact .inl (oldN_mem hn hm)
   ·exact .inr (dirty_mem hn h hm)
theorem K0 {n k : Nat} (h : (Array.replicate n false).getD k false = true) : False := by
 rw [Array.getD_eq_getD_getElem?, Array.getElem?_replicate] at h
 split at h <;> cases h
theorem drawR_ok (hm : E.P.follows .mixedOrders = true) {ops : Array Oper} {id : Nat} {ts : Tm} {h : Hp} {nx : Nat} {recs : List Rec} (R : Run E ops recs ts h nx) {ts1 : Tm} {h1 : Hp} {nx1 : Nat} (e3 : ts1 = tsA ts recs) (e4 : h1 = hpA h recs) (e5 : nx1 = nxA nx recs) :
  Tidy h nx h1 nx1 (dirtyV nx recs) ∧ (Bd h nx → ∀ W σ w a, Rl W σ h w → Fresh σ nx nx1 → RT σ ts a.tmps → ∀ ds, a.defers = ds → ∀ (F : Fence) (m : Nat), Wide F → ∀ Q : Exit → Act → World → Prop,
   (∀ σ' w' a', Stp W nx nx1 σ h w σ' h1 w' → RT σ' ts1 a'.tmps → a'.defers = ds → Q .normal a' w') → (Code.region id ops true).wpIn F m E.P Q a w) := by
 have hbd := fun hB => R.bds hB recs.length (Nat.le_refl _)
 have hnm := R.nxm 0 recs.length (Nat.zero_le _)
 rw [List.take_length] at hbd hnm
 simp only [List.take_zero] at hnm
 have hnm' : nx ≤ nxA nx recs := hnm
 have hrows : ∀ n, lk h1 n = fld (fun r => Co r.ef n) (fun _ => true) 0 recs (lk h n) := fun n => by rw [e4]; exact hpA_get n recs h 0
 refine ⟨⟨by rw [e5]; exact hnm', fun n hn hd => ?_, fun hB => by rw [e4, e5]; exact hbd hB⟩, fun hB W σ w a hR hf ht ds hdf F m hF Q hQ => ?_⟩
 ·rw [hrows]
  refine I3 recs 0 _ fun j r hj _ => ?_
  cases hu : Co r.ef n with
  | none => rfl
  | some o => exact (hd (dirty_mem hn (List.mem_of_getElem? hj) (Dy (by rw [hu]; simp)))).elim
 ·refine wpIn_region_any hm ?_
  have hd := Stp.drew hR nx
  have base : ∀ n, Eu recs h (fun k => (Array.replicate ops.size false).getD k false) n = lk h n := fun n => I3 recs 0 _ fun j r hj hd => (K0 hd).elim
  have baset : ∀ t, Ls recs ts (fun k => (Array.replicate ops.size false).getD k false) t = tg ts t := fun t => I3 recs 0 _ fun j r hj hd => (K0 hd).elim
  have nod : ∀ k, (Array.replicate ops.size false).getD k false = true → False := fun k hd => K0 hd
  have hw : ({ w with drawn := w.drawn + 1 } : World) = w.drew := rfl
  rw [hw]
  refine draw_any (ds := ds) hF (W := W) (σ0 := σ) (w0 := w.drew) R hB (by rw [← e5]; exact hf) (fun D σ' a' w' hD I => ?_) ops.size _ σ a w.drew (by simp) ?_ ?_
  ·have hrw : ∀ n, Eu recs h D n = lk h1 n := fun n => by
    rw [hrows]
    exact I4 recs 0 _ fun j r hj _ => by rw [Nat.zero_add]; exact hD j (List.getElem?_eq_some_iff.1 hj).1
   have htw : ∀ t, Ls recs ts D t = tg ts1 t := fun t => by
    rw [e3, tsA_get t recs ts 0 ht.b]
    exact I4 recs 0 _ fun j r hj _ => by rw [Nat.zero_add]; exact hD j (List.getElem?_eq_some_iff.1 hj).1
   have hrl : Rl W σ' h1 w' := I.rl.sub fun n r e => by rw [hrw]; exact e
   refine hQ σ' w' a' (hd.trans ⟨I.le, fun n hn => I.only n fun k r hk _ hin => ?_, hrl, I.size, I.fr, fun n r p hn => I.src n r p (by rw [hrw]; exact hn), fun n r k hn => I.ssrc n r k (by rw [hrw]; exact hn), fun n r k hn => I.xsrc n r k (by rw [hrw]; exact hn)⟩ (Nat.le_refl _) (by rw [e5]; exact hnm')) ?_ I.defers
   ·have h2 := R.nxm (k + 1) recs.length (by have := (List.getElem?_eq_some_iff.1 hk).1; omega)
    have h3 := R.nxm 0 k (Nat.zero_le _)
    rw [R.nxs hk, List.take_length] at h2
    obtain ⟨o, ho⟩ := R.opAt hk
    have h4 := (R.ok k o r ho hk).enx
    have h5 : nx ≤ nxA nx (recs.take k) := h3
    rw [e5] at hn
    omega
   ·have hn1 : ∀ (l : List Rec) (ts : Tm), (tsA ts l).n = ts.n := by
     intro l
     induction l with
     | nil => intro ts; rfl
     | cons r l ih => intro ts; show (tsA (putV ts r.dst r.val) l).n = ts.n; rw [ih, putV_n]
    have en : ts1.n = ts.n := by rw [e3, hn1]
    exact ⟨by rw [en]; exact I.tn, by rw [en]; exact ht.b, fun t v e => I.ts t v (by rw [htw]; exact e)⟩
  ·have : ∀ n, cntU (Array.replicate ops.size false) n ≤ n := fun n => by
    induction n with
    | zero => simp [cntU]
    | succ n ih => simp only [cntU]; split <;> omega
   exact this _
  ·refine ⟨⟨hd.rl.ext, fun n r e => hd.rl.row n r (by rw [base] at e; exact e), fun n m r s p q a b => hd.rl.inj n m r s p q (by rw [base] at a; exact a) (by rw [base] at b; exact b), hd.rl.wf, fun n r e => hd.rl.shr.1 n r (by rw [base] at e; exact e), fun n r k e hk => ⟨(hd.rl.shr.2.1 n r k (by rw [base] at e; exact e) hk).1, fun m s q a => (hd.rl.shr.2.1 n r k (by rw [base] at e; exact e) hk).2 m s q (by rw [base] at a; exact a)⟩, fun n r k e hk => ⟨(hd.rl.shr.2.2 n r k (by rw [base] at e; exact e) hk).1, fun m s q a => (hd.rl.shr.2.2 n r k (by rw [base] at e; exact e) hk).2.1 m s q (by rw [base] at a; exact a), fun m s a => (hd.rl.shr.2.2 n r k (by rw [base] at e; exact e) hk).2.2 m s (by rw [base] at a; exact a)⟩⟩, fun t v hv => ?_, ht.n, ht.b, Sg.le.refl σ, fun _ _ => ⟨rfl, rfl⟩, Nat.le_refl _, fun _ _ _ _ => rfl, fun n r p hn ho hb => .inr ⟨n, r, p, by rw [base] at hn; exact hn, ho, hb, rfl⟩, fun n r k hn hk => .inr (.inr ⟨n, r, by rw [base] at hn; exact hn, hk⟩), fun n r k hn hk => .inr (.inr ⟨n, r, by rw [base] at hn; exact hn, hk⟩), hdf, fun j p hj hD => (nod j hD).elim⟩
   rw [baset] at hv
   exact ht.s t v hv
end
def tmL (ts : Tm) : Nat → List Value → List Value
 | 0, acc => acc
 | k + 1, acc => match tg ts k with
  | some v => tmL ts k (v :: acc)
  | none => []
theorem tmL_ok {σ : Sg} {ts : Tm} {tmps : Array Value} (ht : RT σ ts tmps) {v : Value} {tm : List Value} : ∀ (k : Nat) (acc acc' : List Value), k ≤ tmps.size → renL σ acc = some acc' → tmL ts k acc = v :: tm → renL σ (v :: tm) = some (tmps.toList.take k ++ acc')
 | 0, acc, acc', _, h, e => by simp only [tmL] at e; rw [← e]; simpa using h
 | k + 1, acc, acc', hk, h, he => by
   have hlt : k < tmps.size := by omega
   have e : tmps.toList.take (k + 1) ++ acc' = tmps.toList.take k ++ (tmps[k] :: acc') := by
    rw [List.take_add_one]; simp [hlt]
   rw [e]
   simp only [tmL] at he
   split at he
   ·rename_i u hu
    have h1 := ht.s k u hu
    simp only [Array.getD_eq_getD_getElem?, Array.getElem?_eq_getElem hlt, Option.getD_some] at h1
    exact tmL_ok ht k _ _ (by omega) (Bi h1 h) he
   ·cases he
def putL : Tm → List Tmp → List Value → Tm
 | ts, t :: l, v :: vs => putL (tput ts t v) l vs
 | ts, _, _ => ts
def putA : Array Value → List Tmp → List Value → Array Value
 | a, t :: l, v :: vs => putA (a.setIfInBounds t v) l vs
 | a, _, _ => a
theorem putL_ok {σ : Sg} : ∀ {l : List Tmp} {vs vs' : List Value} {ts : Tm} {tmps : Array Value}, RT σ ts tmps → renL σ vs = some vs' → RT σ (putL ts l vs) (putA tmps l vs')
 | [], vs, vs', ts, tmps, h, hv => by simpa [putL, putA] using h
 | t :: l, [], vs', ts, tmps, h, hv => by simp only [renL, oI] at hv; subst hv; simpa [putL, putA] using h
 | t :: l, v :: vs, vs', ts, tmps, h, hv => by
   obtain ⟨a, b, h1, h2, rfl⟩ := B9 hv
   show RT σ (putL (tput ts t v) l vs) (putA (tmps.setIfInBounds t a) l b)
   exact putL_ok (h.put t h1) h2
theorem putA_eq : ∀ (l : List Tmp) (vs : List Value) (a : Array Value), (l.zip vs).foldl (fun tmps x => tmps.setIfInBounds x.1 x.2) a = putA a l vs
 | [], vs, a => by simp [putA]
 | t :: l, [], a => by simp [putA]
 | t :: l, v :: vs, a => by simpa [putA] using putA_eq l vs _

def dfR (σ : Sg) : List Nat → Option (List Deferred)
 | [] => some []
 | n :: ms => match σ.b n, dfR σ ms with | some p, some ds => some ({ target := .collected p.1, args := #[] } :: ds) | _, _ => none
theorem dfR_le {σ τ : Sg} (h : σ.le τ) : ∀ {ms : List Nat} {ds : List Deferred}, dfR σ ms = some ds → dfR τ ms = some ds
 | [], ds, e => e
 | n :: ms, ds, e => by
   simp only [dfR] at e ⊢
   split at e
   ·rename_i p ds' h1 h2; rw [h.1 n p h1, dfR_le h h2]; exact e
   ·cases e
theorem dfR_app {σ : Sg} : ∀ {ms ms' : List Nat} {ds ds' : List Deferred}, dfR σ ms = some ds → dfR σ ms' = some ds' → dfR σ (ms ++ ms') = some (ds ++ ds')
 | [], ms', ds, ds', h, h' => by simp only [dfR, oI] at h; subst h; simpa using h'
 | n :: ms, ms', ds, ds', h, h' => by
   simp only [dfR, List.cons_append] at h ⊢
   split at h
   ·rename_i p d h1 h2; cases h; rw [h1, dfR_app h2 h']; rfl
   ·cases h
def dropM : List Nat → Hp → Option Hp
 | [], h => some h
 | n :: ms, h => match lk h n with
  | some ⟨.marks, _⟩ => dropM ms (delH h n)
  | _ => none
theorem dropM_tidy {nx : Nat} : ∀ {ms : List Nat} {h h' : Hp}, dropM ms h = some h' → (∀ n, lk h n = none → lk h' n = none) ∧ (∀ n, n ∉ ms → lk h' n = lk h n)
 | [], h, h', e => by cases e; exact ⟨fun _ e => e, fun _ _ => rfl⟩
 | m :: ms, h, h', e => by
   simp only [dropM] at e
   split at e
   ·obtain ⟨a, b⟩ := dropM_tidy (nx := nx) e
    refine ⟨fun n hn => a n (by rw [Bf]; split <;> simp [hn]), fun n hn => ?_⟩
    rw [b n (fun hm => hn (by simp [hm])), Bf, if_neg (fun e => hn (by simp [e]))]
   ·cases e
theorem Kk {P : Program} {F : Fence} {m : Nat} {fn : Func} {tmps : Array Value} {R : Ending → World → Prop} {W : World} {σ : Sg} (lo : Nat) : ∀ {ms : List Nat} {ds : List Deferred} {h h' : Hp} {w : World}, dropM ms h = some h' → dfR σ ms = some ds → Rl W σ h w →
  (∀ w', Stp W lo lo σ h w σ h' w' → LeavesInM F m P fn tmps R [] .returning w') → LeavesInM F m P fn tmps R ds .returning w
 | [], ds, h, h', w, hd, hf, hR, H => by
   simp only [dfR, oI] at hf
   subst hf
   cases hd
   exact H w (Stp.refl hR lo)
 | n :: ms, ds, h, h', w, hd, hf, hR, H => by
   simp only [dropM] at hd
   split at hd
   ·rename_i cs hl
    simp only [dfR] at hf
    split at hf
    ·rename_i p ds' h1 h2
     cases hf
     obtain ⟨b, s, vs, hb, _, hk⟩ := hR.row _ _ hl
     rw [h1] at hb
     cases hb
     have S := Stp.wipe hR hl (fun e => by cases e) h1 (.deferred none) lo
     exact ⟨by simp, .inl ⟨b, _, rfl, run_takeDeferred hk.2.2.2, Kk lo hd h2 S.rl fun w' S' => H w' (S.trans S' (Nat.le_refl _) (Nat.le_refl _))⟩⟩
    ·cases hf
   ·cases hd
end Go.Proofs.Ytojakfnljopjbaa
