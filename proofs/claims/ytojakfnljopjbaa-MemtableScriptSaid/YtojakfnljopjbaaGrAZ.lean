/-
  A contract at names of its own, used at any heap: its rows may be changed; rows that it does not know stay.
-/
import Derived.Test.YtojakfnljopjbaaGrAQ
import Derived.Test.YtojakfnljopjbaaGrAR
namespace Go.Proofs.Ytojakfnljopjbaa
set_option linter.unusedSimpArgs false
set_option linter.unusedVariables false
set_option linter.unusedSectionVars false
open Go Go.RowKit

def kdN : Kd → Bool
 | .round _ _ _ _ _ _ => false
 | _ => true
theorem KdOk.same {W : World} {σ τ : Sg} {w : World} {n m b s : Nat} {vs : List Value} {kd : Kd} (hk : KdOk W σ w n b s vs kd) (hkd : kdN kd = true) (hc : τ.c m = σ.c n) (hf : τ.f m = σ.f n) : KdOk W τ w m b s vs kd := by
 have hs : sh τ m = sh σ n := by unfold sh; rw [hf]
 have hx : ex τ m = ex σ n := by unfold ex; rw [hf]
 cases kd with
 | round _ _ _ _ _ _ => cases hkd
 | _ => simp only [KdOk, hs, hx, hc, hf] at hk ⊢; exact hk
def TriC (P : Program) (f : FuncId) (args : List Value) (h : Hp) (nx : Nat) (v : Value) (h' : Hp) (nx' : Nat) : Prop :=
 Bd h nx → ∀ W σ w args', Rl W σ h w → Fresh σ nx nx' → renL σ args = some args' → Calls P f args'.toArray w fun e w' => ∃ σ' v', Stp W nx nx' σ h w σ' h' w' ∧ renV σ' v = some v' ∧ e = .returned v'
def LkN (ρ g : Nat → Nat) (nx0 nx0' nx k n m : Nat) : Prop := (m < nx0 ∧ n = ρ m) ∨ (nx ≤ n ∧ n < nx + k ∧ m = g (n - nx) ∧ nx0 ≤ m ∧ m < nx0')
theorem TriC.ren {P : Program} {f : FuncId} {args0 : List Value} {h0 : Hp} {nx0 : Nat} {v0 : Value} {h0' : Hp} {nx0' : Nat} (T : TriC P f args0 h0 nx0 v0 h0' nx0') {args : List Value} {h : Hp} {nx k : Nat} {v : Value} {h' : Hp} (ρ g : Nat → Nat) (fw f2 : Sg) (hB0 : Bd h0 nx0)
  (fwb : ∀ n m o, fw.b n = some (m, o) → o = 0 ∧ n < nx0 ∧ m = ρ n) (fwc : ∀ n q, fw.c n = some q → n < nx0 ∧ q = B0 + ρ n) (fwf : ∀ n, fw.f n ≠ none)
  (hin : ∀ n r, lk h0 n = some r → ∃ s, lk h (ρ n) = some s ∧ s.kd = r.kd ∧ kdN r.kd = true ∧ renL fw r.cs = some s.cs)
  (hinj : ∀ n m r s, lk h0 n = some r → lk h0 m = some s → ρ n = ρ m → n = m) (hρ : ∀ n, n < nx0 → ρ n < nx) (ha : renL fw args0 = some args)
  (f2b : ∀ n m o, f2.b n = some (m, o) → o = 0 ∧ LkN ρ g nx0 nx0' nx k n m) (f2c : ∀ n q, f2.c n = some q → ∃ m, q = B0 + m ∧ LkN ρ g nx0 nx0' nx k n m) (f2f : ∀ n, f2.f n ≠ none)
  (hout : ∀ n r, lk h' n = some r → ∃ m s, LkN ρ g nx0 nx0' nx k n m ∧ lk h0' m = some s ∧ s.kd = r.kd ∧ kdN r.kd = true ∧ renL f2 r.cs = some s.cs)
  (hg : ∀ i j, i < k → j < k → g i = g j → i = j) (hv : renV f2 v = some v0) : TriC P f args h nx v h' (nx + k) := by
 intro hB W σ w args' hR hf ha'
 obtain ⟨σ0, hσ0⟩ : ∃ σ0 : Sg, σ0 = ⟨fun n => if n < nx0 then σ.b (ρ n) else none, fun n => if n < nx0 then σ.c (ρ n) else none, fun n => if n < nx0 then σ.f (ρ n) else none, fun n => if n < nx0 then σ.e (ρ n) else none, true⟩ := ⟨_, rfl⟩
 have z : ∀ n, n < nx0 → σ0.b n = σ.b (ρ n) ∧ σ0.c n = σ.c (ρ n) ∧ σ0.f n = σ.f (ρ n) ∧ σ0.e n = σ.e (ρ n) := fun n hn => by subst hσ0; simp only [if_pos hn, and_self]
 have zw : σ0.w = true := by subst hσ0; rfl
 have hlt0 : ∀ n r, lk h0 n = some r → n < nx0 := fun n r hl => by
  rcases Nat.lt_or_ge n nx0 with h1 | h1
  ·exact h1
  ·rw [hB0 n h1] at hl; cases hl
 have b1 : ∀ n m o p, fw.b n = some (m, o) → σ.b m = some p → σ0.b n = some (p.1, p.2 + o) := fun n m o p e1 e2 => by
  obtain ⟨rfl, h1, rfl⟩ := fwb n m o e1
  rw [(z n h1).1]; exact e2
 have c1 : ∀ n q j, fw.c n = some q → cpR σ q = some j → σ0.c n = some j := fun n q j e1 e2 => by
  obtain ⟨h1, rfl⟩ := fwc n q e1
  rw [Bq] at e2
  rw [(z n h1).2.1]; exact e2
 have n1 : ∀ n m o, fw.b n = some (m, o) → fw.f n ≠ none ∧ (σ0.f n = none ↔ σ.f m = none) ∧ σ0.e n = σ.e m ∧ σ0.w = σ.w := fun n m o e1 => by
  obtain ⟨rfl, h1, rfl⟩ := fwb n m o e1
  exact ⟨fwf n, by rw [(z n h1).2.2.1], (z n h1).2.2.2, zw.trans hR.wf.symm⟩
 have sh0 : ∀ n, n < nx0 → sh σ0 n = sh σ (ρ n) := fun n hn => by unfold sh; rw [(z n hn).2.2.1]
 have ex0 : ∀ n, n < nx0 → ex σ0 n = ex σ (ρ n) := fun n hn => by unfold ex; rw [(z n hn).2.2.1]
 have own_ : ∀ {r s : Rw}, s.kd = r.kd → r.own → s.own := fun {r s} e ho => by unfold Rw.own; rw [e]; exact ho
 have hR0 : Rl W σ0 h0 w := by
  refine ⟨⟨hR.ext, fun n r hl => ?_, fun n m r s p q hn hm hr hs hp hq e => ?_⟩, zw, fun n r hl ho => ?_, fun n r kk hl hkk => ?_, fun n r kk hl hkk => ?_⟩
  ·obtain ⟨s, a1, a2, a3, a4⟩ := hin n r hl
   obtain ⟨b, o, vs, h1, h2, h3⟩ := hR.row _ s a1
   have hn := hlt0 n r hl
   rw [a2] at h3
   exact ⟨b, o, vs, (z n hn).1.trans h1, El b1 c1 n1 _ _ _ a4 h2, h3.same a3 (z n hn).2.1 (z n hn).2.2.1⟩
  ·obtain ⟨r1, a1, a2, _⟩ := hin n r hn
   obtain ⟨s1, d1, d2, _⟩ := hin m s hm
   rw [(z n (hlt0 n r hn)).1] at hp
   rw [(z m (hlt0 m s hm)).1] at hq
   exact hinj n m r s hn hm (hR.inj _ _ r1 s1 p q a1 d1 (own_ a2 hr) (own_ d2 hs) hp hq e)
  ·obtain ⟨s, a1, a2, _⟩ := hin n r hl
   rw [(z n (hlt0 n r hl)).2.2.1]
   exact hR.shr.1 _ s a1 (own_ a2 ho)
  ·obtain ⟨s, a1, a2, _⟩ := hin n r hl
   rw [sh0 n (hlt0 n r hl)] at hkk
   refine ⟨(hR.shr.2.1 _ s kk a1 hkk).1, fun m t q hm ht hq => ?_⟩
   obtain ⟨t1, d1, d2, _⟩ := hin m t hm
   rw [(z m (hlt0 m t hm)).1] at hq
   exact (hR.shr.2.1 _ s kk a1 hkk).2 _ t1 q d1 (own_ d2 ht) hq
  ·obtain ⟨s, a1, a2, _⟩ := hin n r hl
   rw [ex0 n (hlt0 n r hl)] at hkk
   obtain ⟨x1, x2, x3⟩ := hR.shr.2.2 _ s kk a1 hkk
   refine ⟨x1, fun m t q hm ht hq => ?_, fun m t hm => ?_⟩
   ·obtain ⟨t1, d1, d2, _⟩ := hin m t hm
    rw [(z m (hlt0 m t hm)).1] at hq
    exact x2 _ t1 q d1 (own_ d2 ht) hq
   ·obtain ⟨t1, d1, d2, _⟩ := hin m t hm
    rw [sh0 m (hlt0 m t hm), ex0 m (hlt0 m t hm)]
    exact ⟨(x3 _ t1 d1).1, fun hk2 => hinj m n t r hm hl ((x3 _ t1 d1).2 hk2)⟩
 have ha0 : renL σ0 args0 = some args' := El b1 c1 n1 _ _ _ ha ha'
 have hfr0 : Fresh σ0 nx0 nx0' := fun n h1 _ => by subst hσ0; simp only [if_neg (Nat.not_lt.2 h1), and_self]
 refine (T hB0 W σ0 w args' hR0 hfr0 ha0).mono ?_
 rintro e w' ⟨τ0, u, S, hu, rfl⟩
 obtain ⟨τ, hτ⟩ : ∃ τ : Sg, τ = ⟨fun n => if nx ≤ n ∧ n < nx + k then τ0.b (g (n - nx)) else σ.b n, fun n => if nx ≤ n ∧ n < nx + k then τ0.c (g (n - nx)) else σ.c n, fun n => if nx ≤ n ∧ n < nx + k then τ0.f (g (n - nx)) else σ.f n, fun n => if nx ≤ n ∧ n < nx + k then τ0.e (g (n - nx)) else σ.e n, true⟩ := ⟨_, rfl⟩
 have tw : τ.w = true := by subst hτ; rfl
 have tn : ∀ n, nx ≤ n ∧ n < nx + k → τ.b n = τ0.b (g (n - nx)) ∧ τ.c n = τ0.c (g (n - nx)) ∧ τ.f n = τ0.f (g (n - nx)) ∧ τ.e n = τ0.e (g (n - nx)) := fun n hn => by subst hτ; simp only [if_pos hn, and_self]
 have to_ : ∀ n, ¬ (nx ≤ n ∧ n < nx + k) → τ.b n = σ.b n ∧ τ.c n = σ.c n ∧ τ.f n = σ.f n ∧ τ.e n = σ.e n := fun n hn => by subst hτ; simp only [if_neg hn, and_self]
 have lnk : ∀ n m, LkN ρ g nx0 nx0' nx k n m → (τ.b n = τ0.b m ∧ τ.c n = τ0.c m) ∧ ∀ p, τ0.b m = some p → τ.f n = τ0.f m ∧ τ.e n = τ0.e m := fun n m hl => by
  rcases hl with ⟨h1, rfl⟩ | ⟨h1, h2, rfl, h3, h4⟩
  ·have hn : ¬ (nx ≤ ρ m ∧ ρ m < nx + k) := by have := hρ m h1; omega
   obtain ⟨o1, o2, o3, o4⟩ := to_ (ρ m) hn
   obtain ⟨z1, z2, z3, z4⟩ := z m h1
   obtain ⟨s1, s2⟩ := S.only m (.inl h1)
   refine ⟨⟨o1.trans (z1.symm.trans s1.symm), o2.trans (z2.symm.trans s2.symm)⟩, fun p hp => ?_⟩
   rw [s1] at hp
   obtain ⟨_, l2, l3, _⟩ := S.le.2.2 m p hp
   exact ⟨o3.trans (z3.symm.trans l2.symm), o4.trans (z4.symm.trans l3.symm)⟩
  ·obtain ⟨o1, o2, o3, o4⟩ := tn n ⟨h1, h2⟩
   exact ⟨⟨o1, o2⟩, fun _ _ => ⟨o3, o4⟩⟩
 have b2 : ∀ n m o p, f2.b n = some (m, o) → τ0.b m = some p → τ.b n = some (p.1, p.2 + o) := fun n m o p e1 e2 => by
  obtain ⟨rfl, h1⟩ := f2b n m o e1
  rw [(lnk n m h1).1.1]; exact e2
 have c2 : ∀ n q j, f2.c n = some q → cpR τ0 q = some j → τ.c n = some j := fun n q j e1 e2 => by
  obtain ⟨m, rfl, h1⟩ := f2c n q e1
  rw [Bq] at e2
  rw [(lnk n m h1).1.2]; exact e2
 obtain ⟨τ1, hτ1⟩ : ∃ τ1 : Sg, τ1 = ⟨τ.b, τ.c, fun n => match f2.b n with | some (m, _) => τ0.f m | none => τ.f n, fun n => match f2.b n with | some (m, _) => τ0.e m | none => τ.e n, true⟩ := ⟨_, rfl⟩
 have v1 : (∀ v v1 u, renV f2 v = some v1 → renV τ0 v1 = some u → renV τ v = some u) ∧ ∀ v v1 u, renL f2 v = some v1 → renL τ0 v1 = some u → renL τ v = some u := by
  have ab : ∀ n m o p, f2.b n = some (m, o) → τ0.b m = some p → τ1.b n = some (p.1, p.2 + o) := fun n m o p e1 e2 => by subst hτ1; exact b2 n m o p e1 e2
  have ac : ∀ n q j, f2.c n = some q → cpR τ0 q = some j → τ1.c n = some j := fun n q j e1 e2 => by subst hτ1; exact c2 n q j e1 e2
  have an : ∀ n m o, f2.b n = some (m, o) → f2.f n ≠ none ∧ (τ1.f n = none ↔ τ0.f m = none) ∧ τ1.e n = τ0.e m ∧ τ1.w = τ0.w := fun n m o e1 => by
   subst hτ1
   simp only [e1]
   exact ⟨f2f n, trivial, trivial, S.rl.wf.symm⟩
  have hle : τ1.le τ := by
   subst hτ1
   refine ⟨fun _ _ e => e, fun _ _ e => e, fun n p e => ⟨rfl, ?_, ?_, tw⟩⟩
   ·simp only at e ⊢
    split
    ·rename_i m o hm
     obtain ⟨_, h1⟩ := f2b n m o hm
     rw [(lnk n m h1).1.1] at e
     exact ((lnk n m h1).2 p e).1
    ·rfl
   ·simp only at e ⊢
    split
    ·rename_i m o hm
     obtain ⟨_, h1⟩ := f2b n m o hm
     rw [(lnk n m h1).1.1] at e
     exact ((lnk n m h1).2 p e).2
    ·rfl
  exact ⟨fun v v1 u e1 e2 => Jk hle _ _ (J2 ab ac an v v1 u e1 e2), fun v v1 u e1 e2 => Cf hle _ _ (El ab ac an v v1 u e1 e2)⟩
 have hle : σ.le τ := by
  refine ⟨fun n p e => ?_, fun n p e => ?_, fun n p e => ?_⟩
  ·by_cases h1 : nx ≤ n ∧ n < nx + k
   ·rw [(hf n h1.1 h1.2).1] at e; cases e
   ·rw [(to_ n h1).1]; exact e
  ·by_cases h1 : nx ≤ n ∧ n < nx + k
   ·rw [(hf n h1.1 h1.2).2] at e; cases e
   ·rw [(to_ n h1).2.1]; exact e
  ·by_cases h1 : nx ≤ n ∧ n < nx + k
   ·rw [(hf n h1.1 h1.2).1] at e; cases e
   ·exact ⟨(to_ n h1).2.1, (to_ n h1).2.2.1, (to_ n h1).2.2.2, tw.trans hR.wf.symm⟩
 have cl : ∀ n r, lk h' n = some r → ∃ m s p, LkN ρ g nx0 nx0' nx k n m ∧ lk h0' m = some s ∧ s.kd = r.kd ∧ kdN r.kd = true ∧ renL f2 r.cs = some s.cs ∧ τ0.b m = some p ∧ τ.b n = some p ∧ τ.c n = τ0.c m ∧ τ.f n = τ0.f m := fun n r hl => by
  obtain ⟨m, s, a1, a2, a3, a4, a5⟩ := hout n r hl
  obtain ⟨b, o, vs, h1, _⟩ := S.rl.row m s a2
  obtain ⟨⟨l1, l2⟩, l3⟩ := lnk n m a1
  exact ⟨m, s, (b, o), a1, a2, a3, a4, a5, h1, l1.trans h1, l2, (l3 _ h1).1⟩
 have uniq : ∀ n n' m, LkN ρ g nx0 nx0' nx k n m → LkN ρ g nx0 nx0' nx k n' m → n = n' := fun n n' m h1 h2 => by
  rcases h1 with ⟨a1, rfl⟩ | ⟨a1, a2, rfl, a3, a4⟩ <;> rcases h2 with ⟨d1, rfl⟩ | ⟨d1, d2, d0, d3, d4⟩
  ·rfl
  ·omega
  ·omega
  ·have := hg (n - nx) (n' - nx) (by omega) (by omega) d0
   omega
 have old : ∀ m s, lk h0 m = some s → ∃ s', lk h (ρ m) = some s' ∧ s'.kd = s.kd ∧ sh σ0 m = sh σ (ρ m) ∧ ex σ0 m = ex σ (ρ m) ∧ σ0.b m = σ.b (ρ m) := fun m s hl => by
  obtain ⟨s', a1, a2, _⟩ := hin m s hl
  have hm := hlt0 m s hl
  exact ⟨s', a1, a2, sh0 m hm, ex0 m hm, (z m hm).1⟩
 refine ⟨τ, _, ⟨hle, fun n hn => ?_, ⟨⟨S.rl.ext, fun n r hl => ?_, fun n m r s p q hn hm hr hs hp hq e => ?_⟩, tw, fun n r hl ho => ?_, fun n r kk hl hkk => ?_, fun n r kk hl hkk => ?_⟩, S.size, fun b hb h1 h2 => S.fr b hb (fun m s p hm hs hp => ?_) fun m s hm => ?_, fun n r p hl ho hp => ?_, fun n r kk hl hkk => ?_, fun n r kk hl hkk => ?_⟩, v1.1 _ _ _ hv hu, rfl⟩
 ·have := to_ n (by omega)
  exact ⟨this.1, this.2.1⟩
 ·obtain ⟨m, s, p, a1, a2, a3, a4, a5, a6, a7, a8, a9⟩ := cl n r hl
  obtain ⟨b, o, vs, h1, h2, h3⟩ := S.rl.row m s a2
  rw [a6] at h1
  cases h1
  rw [a3] at h3
  exact ⟨b, o, vs, a7, v1.2 _ _ _ a5 h2, h3.same a4 a8 a9⟩
 ·obtain ⟨m1, s1, p1, a1, a2, a3, a4, a5, a6, a7, a8, a9⟩ := cl n r hn
  obtain ⟨m2, s2, p2, d1, d2, d3, d4, d5, d6, d7, d8, d9⟩ := cl m s hm
  rw [a7] at hp
  rw [d7] at hq
  have := S.rl.inj m1 m2 s1 s2 p q a2 d2 (own_ a3 hr) (own_ d3 hs) (a6.trans hp) (d6.trans hq) e
  subst this
  exact uniq n m m1 a1 d1
 ·obtain ⟨m, s, p, a1, a2, a3, a4, a5, a6, a7, a8, a9⟩ := cl n r hl
  rw [a9]
  exact S.rl.shr.1 m s a2 (own_ a3 ho)
 ·obtain ⟨m, s, p, a1, a2, a3, a4, a5, a6, a7, a8, a9⟩ := cl n r hl
  have hk2 : kk ∈ sh τ0 m := by unfold sh at hkk ⊢; rw [a9] at hkk; exact hkk
  refine ⟨(S.rl.shr.2.1 m s kk a2 hk2).1, fun m' s' q hm hs hq => ?_⟩
  obtain ⟨m2, s2, p2, d1, d2, d3, d4, d5, d6, d7, d8, d9⟩ := cl m' s' hm
  rw [d7] at hq
  exact (S.rl.shr.2.1 m s kk a2 hk2).2 m2 s2 q d2 (own_ d3 hs) (d6.trans hq)
 ·obtain ⟨m, s, p, a1, a2, a3, a4, a5, a6, a7, a8, a9⟩ := cl n r hl
  have hk2 : kk ∈ ex τ0 m := by unfold ex at hkk ⊢; rw [a9] at hkk; exact hkk
  obtain ⟨x1, x2, x3⟩ := S.rl.shr.2.2 m s kk a2 hk2
  refine ⟨x1, fun m' s' q hm hs hq => ?_, fun m' s' hm => ?_⟩
  ·obtain ⟨m2, s2, p2, d1, d2, d3, d4, d5, d6, d7, d8, d9⟩ := cl m' s' hm
   rw [d7] at hq
   exact x2 m2 s2 q d2 (own_ d3 hs) (d6.trans hq)
  ·obtain ⟨m2, s2, p2, d1, d2, d3, d4, d5, d6, d7, d8, d9⟩ := cl m' s' hm
   unfold sh ex
   rw [d9]
   refine ⟨(x3 m2 s2 d2).1, fun hk3 => ?_⟩
   have := (x3 m2 s2 d2).2 hk3
   subst this
   exact uniq m' n m2 d1 a1
 ·obtain ⟨s', a1, a2, _, _, a5⟩ := old m s hm
  exact h1 _ s' p a1 (own_ a2 hs) (a5.symm.trans hp)
 ·obtain ⟨s', a1, a2, _, a4, _⟩ := old m s hm
  rw [a4]
  exact h2 _ s' a1
 ·obtain ⟨m, s, p', a1, a2, a3, a4, a5, a6, a7, a8, a9⟩ := cl n r hl
  rw [a7] at hp
  rcases S.src m s p a2 (own_ a3 ho) (a6.trans hp) with h1 | ⟨m0, s0, q, d1, d2, d3, d4⟩
  ·exact .inl h1
  ·obtain ⟨s', e1, e2, _, _, e5⟩ := old m0 s0 d1
   exact .inr ⟨_, s', q, e1, own_ e2 d2, e5.symm.trans d3, d4⟩
 ·obtain ⟨m, s, p', a1, a2, a3, a4, a5, a6, a7, a8, a9⟩ := cl n r hl
  have hk2 : kk ∈ sh τ0 m := by unfold sh at hkk ⊢; rw [a9] at hkk; exact hkk
  rcases S.ssrc m s kk a2 hk2 with h1 | ⟨m0, s0, q, d1, d2, d3, d4⟩ | ⟨m0, s0, d1, d2⟩
  ·exact .inl h1
  ·obtain ⟨s', e1, e2, _, _, e5⟩ := old m0 s0 d1
   exact .inr (.inl ⟨_, s', q, e1, own_ e2 d2, e5.symm.trans d3, d4⟩)
  ·obtain ⟨s', e1, e2, e3, _, _⟩ := old m0 s0 d1
   exact .inr (.inr ⟨_, s', e1, by rw [← e3]; exact d2⟩)
 ·obtain ⟨m, s, p', a1, a2, a3, a4, a5, a6, a7, a8, a9⟩ := cl n r hl
  have hk2 : kk ∈ ex τ0 m := by unfold ex at hkk ⊢; rw [a9] at hkk; exact hkk
  rcases S.xsrc m s kk a2 hk2 with h1 | ⟨m0, s0, q, d1, d2, d3, d4⟩ | ⟨m0, s0, d1, d2⟩
  ·exact .inl h1
  ·obtain ⟨s', e1, e2, _, _, e5⟩ := old m0 s0 d1
   exact .inr (.inl ⟨_, s', q, e1, own_ e2 d2, e5.symm.trans d3, d4⟩)
  ·obtain ⟨s', e1, e2, _, e4, _⟩ := old m0 s0 d1
   exact .inr (.inr ⟨_, s', e1, by rw [← e4]; exact d2⟩)
theorem TriC.frame {P : Program} {f : FuncId} {args : List Value} {h1 h h1' ho : Hp} {nx nx' : Nat} {v : Value} {ns : List Nat} (T : TriC P f args h1 nx v h1' nx') (hnx : nx ≤ nx') (hsub : ∀ n r, lk h1 n = some r → lk h n = some r)
  (hcl : ∀ n r, lk ho n = some r → lk h1' n = some r ∨ (lk h n = some r ∧ lk h1 n = none)) (htd : ∀ n, n < nx → n ∉ ns → lk ho n = lk h n) (hbd : Bd h nx → Bd ho nx') : Tri P f args h nx (v, ho, nx', ns) := by
 refine ⟨⟨hnx, htd, hbd⟩, fun hB W σ w args' hR hf ha => ?_⟩
 simp only at hf
 have hB1 : Bd h1 nx := fun n hn => by
  cases hl : lk h1 n with
  | none => rfl
  | some r => have := hsub n r hl; rw [hB n hn] at this; cases this
 refine (T hB1 W σ w args' (hR.less hsub) hf ha).mono ?_
 rintro e w' ⟨τ, u, S, hu, rfl⟩
 have hlt : ∀ n r, lk h n = some r → n < nx := fun n r hl => by
  rcases Nat.lt_or_ge n nx with h2 | h2
  ·exact h2
  ·rw [hB n h2] at hl; cases hl
 have rb : ∀ n r, lk h n = some r → τ.b n = σ.b n ∧ τ.f n = σ.f n ∧ sh τ n = sh σ n ∧ ex τ n = ex σ n := fun n r hl => by
  have h3 := (S.only n (.inl (hlt n r hl))).1
  obtain ⟨b, o, vs, h4, _⟩ := hR.row n r hl
  have h5 := (S.le.2.2 n _ h4).2.1
  exact ⟨h3, h5, by unfold sh; rw [h5], by unfold ex; rw [h5]⟩
 have k1 : ∀ n r p, lk h n = some r → lk h1 n = none → r.own → σ.b n = some p → w'.heap[p.1]? = w.heap[p.1]? := fun n r p hl hn ho hp => S.fr _ (hR.lt hl ho hp) (fun m s q hm hs hq e => by
  have := hR.inj m n s r q p (hsub m s hm) hl hs ho hq hp e
  subst this; rw [hn] at hm; cases hm) fun m s hm hx => (hR.shr.2.2 m s _ (hsub m s hm) hx).2.1 n r p hl ho hp rfl
 have k2 : ∀ n r kk, lk h n = some r → lk h1 n = none → kk ∈ sh σ n → w'.heap[kk]? = w.heap[kk]? := fun n r kk hl hn hk => S.fr _ (hR.shr.2.1 n r kk hl hk).1 (fun m s q hm hs hq => (hR.shr.2.1 n r kk hl hk).2 m s q (hsub m s hm) hs hq) fun m s hm hx => ((hR.shr.2.2 m s kk (hsub m s hm) hx).2.2 n r hl).1 hk
 have k3 : ∀ n r kk, lk h n = some r → lk h1 n = none → kk ∈ ex σ n → w'.heap[kk]? = w.heap[kk]? := fun n r kk hl hn hk => S.fr _ (hR.shr.2.2 n r kk hl hk).1 (fun m s q hm hs hq => (hR.shr.2.2 n r kk hl hk).2.1 m s q (hsub m s hm) hs hq) fun m s hm hx => by
  have := ((hR.shr.2.2 m s kk (hsub m s hm) hx).2.2 n r hl).2 hk
  subst this; rw [hn] at hm; cases hm
 have ob : ∀ m s q, lk h1' m = some s → s.own → τ.b m = some q → ∀ n r, lk h n = some r → lk h1 n = none → (∀ p, r.own → σ.b n = some p → p.1 ≠ q.1) ∧ q.1 ∉ sh σ n ∧ q.1 ∉ ex σ n := fun m s q hm hs hq n r hl hn => by
  rcases S.src m s q hm hs hq with g1 | ⟨m0, s0, q0, g1, g2, g3, g4⟩
  ·exact ⟨fun p ho hp e => by have := hR.lt hl ho hp; omega, fun hk => by have := (hR.shr.2.1 n r _ hl hk).1; omega, fun hk => by have := (hR.shr.2.2 n r _ hl hk).1; omega⟩
  ·refine ⟨fun p ho hp e => ?_, fun hk => (hR.shr.2.1 n r _ hl hk).2 m0 s0 q0 (hsub _ _ g1) g2 g3 g4, fun hk => (hR.shr.2.2 n r _ hl hk).2.1 m0 s0 q0 (hsub _ _ g1) g2 g3 g4⟩
   have := hR.inj n m0 r s0 p q0 hl (hsub _ _ g1) ho g2 hp g3 (e.trans g4.symm)
   subst this; rw [hn] at g1; cases g1
 have sb : ∀ m s kk, lk h1' m = some s → kk ∈ sh τ m → ∀ n r, lk h n = some r → lk h1 n = none → (∀ p, r.own → σ.b n = some p → p.1 ≠ kk) ∧ kk ∉ ex σ n := fun m s kk hm hk n r hl hn => by
  rcases S.ssrc m s kk hm hk with g1 | ⟨m0, s0, q0, g1, g2, g3, g4⟩ | ⟨m0, s0, g1, g2⟩
  ·exact ⟨fun p ho hp e => by have := hR.lt hl ho hp; omega, fun hk => by have := (hR.shr.2.2 n r _ hl hk).1; omega⟩
  ·refine ⟨fun p ho hp e => ?_, fun hk => (hR.shr.2.2 n r _ hl hk).2.1 m0 s0 q0 (hsub _ _ g1) g2 g3 g4⟩
   have := hR.inj n m0 r s0 p q0 hl (hsub _ _ g1) ho g2 hp g3 (e.trans g4.symm)
   subst this; rw [hn] at g1; cases g1
  ·exact ⟨fun p ho hp => (hR.shr.2.1 m0 s0 kk (hsub _ _ g1) g2).2 n r p hl ho hp, fun hk => ((hR.shr.2.2 n r kk hl hk).2.2 m0 s0 (hsub _ _ g1)).1 g2⟩
 have xb : ∀ m s kk, lk h1' m = some s → kk ∈ ex τ m → ∀ n r, lk h n = some r → lk h1 n = none → (∀ p, r.own → σ.b n = some p → p.1 ≠ kk) ∧ kk ∉ sh σ n ∧ kk ∉ ex σ n := fun m s kk hm hk n r hl hn => by
  rcases S.xsrc m s kk hm hk with g1 | ⟨m0, s0, q0, g1, g2, g3, g4⟩ | ⟨m0, s0, g1, g2⟩
  ·exact ⟨fun p ho hp e => by have := hR.lt hl ho hp; omega, fun hk => by have := (hR.shr.2.1 n r _ hl hk).1; omega, fun hk => by have := (hR.shr.2.2 n r _ hl hk).1; omega⟩
  ·refine ⟨fun p ho hp e => ?_, fun hk => (hR.shr.2.1 n r _ hl hk).2 m0 s0 q0 (hsub _ _ g1) g2 g3 g4, fun hk => (hR.shr.2.2 n r _ hl hk).2.1 m0 s0 q0 (hsub _ _ g1) g2 g3 g4⟩
   have := hR.inj n m0 r s0 p q0 hl (hsub _ _ g1) ho g2 hp g3 (e.trans g4.symm)
   subst this; rw [hn] at g1; cases g1
  ·obtain ⟨y1, y2, y3⟩ := hR.shr.2.2 m0 s0 kk (hsub _ _ g1) g2
   refine ⟨fun p ho hp => y2 n r p hl ho hp, (y3 n r hl).1, fun hk => ?_⟩
   have := (y3 n r hl).2 hk
   subst this; rw [hn] at g1; cases g1
 refine ⟨τ, u, ⟨S.le, S.only, ⟨⟨S.rl.ext, fun n r hl => ?_, fun n m r s p q hn hm hr hs hp hq e => ?_⟩, S.rl.wf, fun n r hl ho' => ?_, fun n r kk hl hkk => ?_, fun n r kk hl hkk => ?_⟩, S.size, fun b hb a1 a2 => S.fr b hb (fun m s p hm hs hp => a1 m s p (hsub m s hm) hs hp) fun m s hm => a2 m s (hsub m s hm), fun n r p hl ho' hp => ?_, fun n r kk hl hkk => ?_, fun n r kk hl hkk => ?_⟩, hu, rfl⟩
 ·rcases hcl n r hl with a | ⟨a, c⟩
  ·exact S.rl.row n r a
  ·exact (hR.row n r a).keep S.le (fun ho' p hp => k1 n r p a c ho' hp) (fun kk hk => k2 n r kk a c hk) fun kk hk => k3 n r kk a c hk
 ·rcases hcl n r hn with a | ⟨a, c⟩ <;> rcases hcl m s hm with a' | ⟨a', c'⟩
  ·exact S.rl.inj n m r s p q a a' hr hs hp hq e
  ·rw [(rb m s a').1] at hq
   exact absurd e.symm ((ob n r p a hr hp m s a' c').1 q hs hq)
  ·rw [(rb n r a).1] at hp
   exact absurd e ((ob m s q a' hs hq n r a c).1 p hr hp)
  ·rw [(rb n r a).1] at hp
   rw [(rb m s a').1] at hq
   exact hR.inj n m r s p q a a' hr hs hp hq e
 ·rcases hcl n r hl with a | ⟨a, c⟩
  ·exact S.rl.shr.1 n r a ho'
  ·rw [(rb n r a).2.1]; exact hR.shr.1 n r a ho'
 ·rcases hcl n r hl with a | ⟨a, c⟩
  ·obtain ⟨x1, x2⟩ := S.rl.shr.2.1 n r kk a hkk
   refine ⟨x1, fun m s q hm hs hq => ?_⟩
   rcases hcl m s hm with a' | ⟨a', c'⟩
   ·exact x2 m s q a' hs hq
   ·rw [(rb m s a').1] at hq
    exact (sb n r kk a hkk m s a' c').1 q hs hq
  ·rw [(rb n r a).2.2.1] at hkk
   obtain ⟨x1, x2⟩ := hR.shr.2.1 n r kk a hkk
   refine ⟨Nat.lt_of_lt_of_le x1 S.size, fun m s q hm hs hq e => ?_⟩
   rcases hcl m s hm with a' | ⟨a', c'⟩
   ·exact (ob m s q a' hs hq n r a c).2.1 (by rw [e]; exact hkk)
   ·rw [(rb m s a').1] at hq
    exact x2 m s q a' hs hq e
 ·rcases hcl n r hl with a | ⟨a, c⟩
  ·obtain ⟨x1, x2, x3⟩ := S.rl.shr.2.2 n r kk a hkk
   refine ⟨x1, fun m s q hm hs hq => ?_, fun m s hm => ?_⟩
   ·rcases hcl m s hm with a' | ⟨a', c'⟩
    ·exact x2 m s q a' hs hq
    ·rw [(rb m s a').1] at hq
     exact (xb n r kk a hkk m s a' c').1 q hs hq
   ·rcases hcl m s hm with a' | ⟨a', c'⟩
    ·exact x3 m s a'
    ·rw [(rb m s a').2.2.1, (rb m s a').2.2.2]
     obtain ⟨_, g2, g3⟩ := xb n r kk a hkk m s a' c'
     exact ⟨g2, fun hk => absurd hk g3⟩
  ·rw [(rb n r a).2.2.2] at hkk
   obtain ⟨x1, x2, x3⟩ := hR.shr.2.2 n r kk a hkk
   refine ⟨Nat.lt_of_lt_of_le x1 S.size, fun m s q hm hs hq e => ?_, fun m s hm => ?_⟩
   ·rcases hcl m s hm with a' | ⟨a', c'⟩
    ·exact (ob m s q a' hs hq n r a c).2.2 (by rw [e]; exact hkk)
    ·rw [(rb m s a').1] at hq
     exact x2 m s q a' hs hq e
   ·rcases hcl m s hm with a' | ⟨a', c'⟩
    ·exact ⟨fun hk => (sb m s kk a' hk n r a c).2 hkk, fun hk => absurd hkk (xb m s kk a' hk n r a c).2.2⟩
    ·rw [(rb m s a').2.2.1, (rb m s a').2.2.2]
     exact x3 m s a'
 ·rcases hcl n r hl with a | ⟨a, c⟩
  ·rcases S.src n r p a ho' hp with g1 | ⟨m0, s0, q0, g1, g2⟩
   ·exact .inl g1
   ·exact .inr ⟨m0, s0, q0, hsub _ _ g1, g2⟩
  ·rw [(rb n r a).1] at hp
   exact .inr ⟨n, r, p, a, ho', hp, rfl⟩
 ·rcases hcl n r hl with a | ⟨a, c⟩
  ·rcases S.ssrc n r kk a hkk with g1 | ⟨m0, s0, q0, g1, g2⟩ | ⟨m0, s0, g1, g2⟩
   ·exact .inl g1
   ·exact .inr (.inl ⟨m0, s0, q0, hsub _ _ g1, g2⟩)
   ·exact .inr (.inr ⟨m0, s0, hsub _ _ g1, g2⟩)
  ·rw [(rb n r a).2.2.1] at hkk
   exact .inr (.inr ⟨n, r, a, hkk⟩)
 ·rcases hcl n r hl with a | ⟨a, c⟩
  ·rcases S.xsrc n r kk a hkk with g1 | ⟨m0, s0, q0, g1, g2⟩ | ⟨m0, s0, g1, g2⟩
   ·exact .inl g1
   ·exact .inr (.inl ⟨m0, s0, q0, hsub _ _ g1, g2⟩)
   ·exact .inr (.inr ⟨m0, s0, hsub _ _ g1, g2⟩)
  ·rw [(rb n r a).2.2.2] at hkk
   exact .inr (.inr ⟨n, r, a, hkk⟩)
def nmA (ns : List Nat) (nx0 nx i : Nat) : Nat := bif Nat.blt i nx0 then ns.getD i 0 else nx + (i - nx0)
def cgA (nx0 : Nat) (g : Nat → Nat) (i : Nat) : Nat := if i < nx0 then i else g (i - nx0)
theorem Hh {ns : List Nat} {nx0 nx i : Nat} (h : i < nx0) : nmA ns nx0 nx i = ns.getD i 0 := by unfold nmA; rw [Dd h]; rfl
theorem Kg {ns : List Nat} {nx0 nx i : Nat} (h : nx0 ≤ i) : nmA ns nx0 nx i = nx + (i - nx0) := by unfold nmA; rw [show Nat.blt i nx0 = false from Dp (by omega)]; rfl
structure Lnk (s : Sg) (n : Nat) (μ ν : Nat → Nat) : Prop where
 b : ∀ i, i < n → s.b (μ i) = some (ν i, 0)
 c : ∀ i, i < n → s.c (μ i) = some (B0 + ν i)
 f : ∀ i, s.f i ≠ none
 w : s.w = false
def NatV (n : Nat) (v : (Nat → Nat) → Value) : Prop := ∀ f μ ν, Lnk f n μ ν → renV f (v μ) = some (v ν)
def NatL (n : Nat) (v : (Nat → Nat) → List Value) : Prop := ∀ f μ ν, Lnk f n μ ν → renL f (v μ) = some (v ν)
structure NatR (n : Nat) (r : (Nat → Nat) → Rw) : Prop where
 cs : NatL n fun μ => (r μ).cs
 kd : ∀ μ ν, (r μ).kd = (r ν).kd
 ok : ∀ μ, kdN (r μ).kd = true
theorem Dn {n : Nat} : NatL n fun _ => [] := fun f μ ν h => rfl
theorem Bv {n : Nat} {v : (Nat → Nat) → Value} {l : (Nat → Nat) → List Value} (h1 : NatV n v) (h2 : NatL n l) : NatL n fun μ => v μ :: l μ := fun f μ ν h => Bi (h1 f μ ν h) (h2 f μ ν h)
theorem nat_sl {n i len : Nat} (hi : i < n) : NatV n fun μ => .slice (some ⟨μ i, 0, none⟩) len (B0 + μ i) := fun f μ ν h => by
 have := B5 (σ := f) (n := μ i) (o := 0) (l := len) (c := B0 + μ i) (c' := B0 + ν i) (p := (ν i, 0)) (h.b i hi) (by rw [Bq]; exact h.c i hi) (h.f _) (.inl h.w)
 simpa using this
theorem Jm {n i len c : Nat} (hi : i < n) (hc : c < B0) : NatV n fun μ => .slice (some ⟨μ i, 0, none⟩) len c := fun f μ ν h => by
 have := B5 (σ := f) (n := μ i) (o := 0) (l := len) (c := c) (c' := c) (p := (ν i, 0)) (h.b i hi) (by unfold cpR; rw [if_pos hc]) (h.f _) (.inl h.w)
 simpa using this
theorem Dm {n i : Nat} (hi : i < n) : NatV n fun μ => .pointer (some ⟨μ i, 0, none⟩) := fun f μ ν h => by
 have := Da (σ := f) (n := μ i) (o := 0) (p := (ν i, 0)) (h.b i hi) (h.f _)
 simpa using this
theorem nat_fl {n : Nat} {v : Value} (hv : ∀ σ, renV σ v = some v) : NatV n fun _ => v := fun f μ ν h => hv f
theorem nat_fls {n : Nat} {l : List Value} (hv : ∀ σ, renL σ l = some l) : NatL n fun _ => l := fun f μ ν h => hv f
theorem nat_agg {n : Nat} {l : (Nat → Nat) → List Value} (h1 : NatL n l) : NatV n fun μ => .agg ⟨l μ⟩ := fun f μ ν h => Ct (h1 f μ ν h)
theorem Hi {n : Nat} {kd : Kd} {l : (Nat → Nat) → List Value} (h : NatL n l) (hk : kdN kd = true) : NatR n fun μ => ⟨kd, l μ⟩ := ⟨h, fun _ _ => rfl, fun _ => hk⟩
structure Fo where
 v : (Nat → Nat) → Value
 rows : List (Nat × ((Nat → Nat) → Rw))
 k : Nat
def mapR (nm : Nat → Nat) (l : List (Nat × ((Nat → Nat) → Rw))) : Hp := l.map fun p => (nm p.1, p.2 nm)
structure FoOk (P : Program) (f0 : FuncId) (nx0 : Nat) (args : (Nat → Nat) → List Value) (rows : List (Nat × ((Nat → Nat) → Rw))) (o : Fo) : Prop where
 na : NatL nx0 args
 nr : ∀ p ∈ rows, NatR nx0 p.2
 v : NatV (nx0 + o.k) o.v
 rs : ∀ p ∈ o.rows, p.1 < nx0 + o.k ∧ NatR (nx0 + o.k) p.2 ∧ (p.1 < nx0 → p.1 ∈ rows.map (·.1))
 run : ∃ v0 h' nx' g, TriC P f0 (args id) (mapR id rows) nx0 v0 h' nx' ∧ v0 = o.v (cgA nx0 g) ∧ (∀ p ∈ o.rows, lk h' (cgA nx0 g p.1) = some (p.2 (cgA nx0 g))) ∧ (∀ i j, i < o.k → j < o.k → g i = g j → i = j) ∧ ∀ i, i < o.k → nx0 ≤ g i ∧ g i < nx'
structure Fc (P : Program) (f0 : FuncId) (nx0 : Nat) where
 α : Type
 pick : List Value → Hp → Option (List Nat × α)
 args : α → (Nat → Nat) → List Value
 rows : α → List (Nat × ((Nat → Nat) → Rw))
 out : α → Tape → Option (Fo × Tape × List Prop)
 pick_ok : ∀ xs h ns a, pick xs h = some (ns, a) → ns.length = nx0 ∧ ∀ nx, xs = args a (nmA ns nx0 nx) ∧ ∀ p ∈ rows a, lk h (nmA ns nx0 nx p.1) = some (p.2 (nmA ns nx0 nx))
 rows_lt : ∀ a, ∀ p ∈ rows a, p.1 < nx0
 out_ok : ∀ a tp o tp' ob, out a tp = some (o, tp', ob) → Alls ob → FoOk P f0 nx0 (args a) (rows a) o
def keepH : Hp → List Nat → Hp
 | [], _ => []
 | (n, r) :: h, ns => bif memN n ns then (n, r) :: keepH h ns else keepH h ns
theorem I0 {ns : List Nat} : ∀ {h : Hp} {n : Nat}, lk (keepH h ns) n = if n ∈ ns then lk h n else none
 | [], n => by simp [keepH, lk]
 | (m, r) :: h, n => by
   simp only [keepH]
   cases hm : memN m ns with
   | true =>
    simp only [cond_true, B3, I0 (h := h)]
    by_cases e : m = n
    ·subst e
     rw [if_pos rfl, if_pos rfl, if_pos (Ki.1 hm)]
    ·rw [if_neg e, if_neg e]
   | false =>
    simp only [cond_false, B3, I0 (h := h)]
    by_cases e : m = n
    ·subst e
     rw [if_neg (En hm), if_neg (En hm)]
    ·rw [if_neg e]
theorem lk_app {a b : Hp} {n : Nat} : lk (a ++ b) n = match lk a n with | some r => some r | none => lk b n := by
 induction a with
 | nil => rfl
 | cons p a ih =>
  obtain ⟨m, r⟩ := p
  rw [List.cons_append, B3, B3]
  split
  ·rfl
  ·exact ih
theorem Ii {nm : Nat → Nat} {l : List (Nat × ((Nat → Nat) → Rw))} {n : Nat} {r : Rw} (h : lk (mapR nm l) n = some r) : ∃ p ∈ l, nm p.1 = n ∧ p.2 nm = r := by
 induction l with
 | nil => cases h
 | cons p l ih =>
  simp only [mapR, List.map_cons, B3] at h
  split at h
  ·rename_i e; cases h; exact ⟨p, List.mem_cons_self .., e, rfl⟩
  ·obtain ⟨q, h1, h2⟩ := ih h
   exact ⟨q, List.mem_cons_of_mem _ h1, h2⟩
def prjK (ns : List Nat) : Res (Out × Tape × List Prop) → Res ((Value × Hp × Nat) × Tape × List Prop)
 | .ok ((v, h, nx, _), tp, ob) => .ok ((v, keepH h ns, nx), tp, ob)
 | .ask b => .ask b
 | .no => .no
theorem B8 {V : Tv} (hX : XOkZ V Try.prog) (hT : TOkZ V Try.prog) (hL : LOkZ V Try.prog) {k : Nat} {f : FuncId} {args : List Value} {h : Hp} {nx : Nat} {tp tp' : Tape} {v : Value} {h2 : Hp} {nx' : Nat} {ob : List Prop} {ns : List Nat} (e : prjK ns (runZ V Try.prog k f args h nx tp) = .ok ((v, h2, nx'), tp', ob)) (ho : Alls ob) (hf : Nat.blt f yBig = true) : TriC Try.prog f args h nx v h2 nx' := by
 unfold prjK at e
 split at e
 ·rename_i v1 h1 nx1 d1 tp1 ob1 hr
  simp only [Res.ok.injEq, pI] at e
  obtain ⟨⟨rfl, rfl, rfl⟩, rfl, rfl⟩ := e
  have T := C6 hX hT hL hr ho hf
  intro hB W σ w args' hR hfr ha
  refine (T.2 hB W σ w args' hR hfr ha).mono ?_
  rintro e w' ⟨σ', u, S, hu, rfl⟩
  refine ⟨σ', u, S.less fun n r hn => ?_, hu, rfl⟩
  rw [I0] at hn
  split at hn
  ·exact hn
  ·cases hn
 ·cases e
 ·cases e
def idxN : List Nat → Nat → Option Nat
 | [], _ => none
 | m :: l, n => if m = n then some 0 else (idxN l n).map (· + 1)
theorem Ld : ∀ {l : List Nat} {n : Nat}, n ∉ l → idxN l n = none
 | [], n, _ => rfl
 | m :: l, n, h => by
   simp only [idxN]
   rw [if_neg (fun e => h (by rw [e]; exact List.mem_cons_self ..)), Ld (fun e => h (List.mem_cons_of_mem _ e))]
   rfl
theorem Ja : ∀ {l : List Nat} {i : Nat}, K5 l = true → i < l.length → idxN l (l.getD i 0) = some i
 | [], i, _, h => by simp at h
 | m :: l, 0, _, _ => by simp [idxN]
 | m :: l, i + 1, hn, h => by
   simp only [K5] at hn
   rcases Be hn with ⟨_, e⟩ | ⟨e1, e2⟩
   ·cases e
   have hi : i < l.length := by simpa using h
   have hne : m ≠ l.getD i 0 := fun e => En e1 (by
    rw [e, List.getD_eq_getElem?_getD, List.getElem?_eq_getElem hi]
    exact List.getElem_mem hi)
   simp only [idxN, List.getD_cons_succ]
   rw [if_neg hne, Ja e2 hi]
   rfl
theorem idxN_lt : ∀ {l : List Nat} {n i : Nat}, idxN l n = some i → i < l.length ∧ l.getD i 0 = n
 | [], n, i, h => by cases h
 | m :: l, n, i, h => by
   simp only [idxN] at h
   split at h
   ·rename_i e; cases h; exact ⟨by simp, by simpa using e⟩
   ·cases hx : idxN l n with
    | none => rw [hx] at h; cases h
    | some j =>
     rw [hx] at h
     cases h
     obtain ⟨h1, h2⟩ := idxN_lt hx
     exact ⟨by simpa using h1, by simpa using h2⟩
def mkF {P : Program} {f0 : FuncId} {nx0 : Nat} (C : Fc P f0 nx0) : TFun := fun f args h nx tp => bif Nat.beq f f0 then some (match C.pick args h with
 | some (ns, a) => bif K5 ns && ltAll ns nx then (match C.out a tp with
  | some (o, tp', ob) => .ok ((o.v (nmA ns nx0 nx), mapR (nmA ns nx0 nx) o.rows ++ Dg h ((C.rows a).map fun p => ns.getD p.1 0), nx + o.k, (C.rows a).map fun p => ns.getD p.1 0), tp', ob)
  | none => .no) else .no
 | none => .no) else none
theorem mkF_ok {P : Program} {f0 : FuncId} {nx0 : Nat} (C : Fc P f0 nx0) : Cv P (mkF C) := by
 intro f args h nx tp out tp' ob e ho
 unfold mkF at e
 rcases Be e with ⟨hf, e1⟩ | ⟨_, e1⟩
 case inr => cases e1
 clear e
 obtain rfl := Nat.eq_of_beq_eq_true hf
 have e1 := Option.some.inj e1
 split at e1
 case h_2 => cases e1
 rename_i ns a hp
 obtain ⟨hc, e1⟩ := Di e1
 simp only [Bool.and_eq_true] at hc
 obtain ⟨hnd, hlt⟩ := hc
 split at e1
 case h_2 => cases e1
 rename_i o tp2 ob2 hout
 simp only [Res.ok.injEq, pI] at e1
 obtain ⟨rfl, rfl, rfl⟩ := e1
 obtain ⟨hlen, hpk⟩ := C.pick_ok _ _ _ _ hp
 obtain ⟨hargs, hrows⟩ := hpk nx
 obtain ⟨na, nr, ov, orows, v0, h0', nx0', g, T, rfl, glk, ginj, gr⟩ := C.out_ok _ _ _ _ _ hout ho
 have hlt' : ∀ i, i < nx0 → ns.getD i 0 < nx := fun i hi => Kj hlt _ (by
  rw [List.getD_eq_getElem?_getD, List.getElem?_eq_getElem (by omega)]
  exact List.getElem_mem _)
 obtain ⟨NS, hNS⟩ : ∃ NS, ((C.rows a).map fun p => ns.getD p.1 0) = NS := ⟨_, rfl⟩
 have hNSm : ∀ p ∈ C.rows a, ns.getD p.1 0 ∈ NS := fun p hp => by rw [← hNS]; exact List.mem_map.2 ⟨p, hp, rfl⟩
 have hB0 : Bd (mapR id (C.rows a)) nx0 := fun n hn => by
  cases hl : lk (mapR id (C.rows a)) n with
  | none => rfl
  | some r =>
   obtain ⟨p, h1, h2, _⟩ := Ii hl
   have := C.rows_lt a p h1
   simp only [id] at h2
   omega
 rw [hNS]
 let fw : Sg := ⟨fun n => if n < nx0 then some (ns.getD n 0, 0) else none, fun n => if n < nx0 then some (B0 + ns.getD n 0) else none, fun _ => some ([], []), fun _ => none, false⟩
 let f2 : Sg := ⟨fun n => match idxN ns n with | some i => some (i, 0) | none => if nx ≤ n ∧ n < nx + o.k then some (g (n - nx), 0) else none, fun n => match idxN ns n with | some i => some (B0 + i) | none => if nx ≤ n ∧ n < nx + o.k then some (B0 + g (n - nx)) else none, fun _ => some ([], []), fun _ => none, false⟩
 have L1 : Lnk fw nx0 id (nmA ns nx0 nx) := ⟨fun i hi => by simp only [fw, id, if_pos hi, Hh hi], fun i hi => by simp only [fw, id, if_pos hi, Hh hi], fun i => by simp [fw], rfl⟩
 have hnot : ∀ n, nx ≤ n → n ∉ ns := fun n hn hm => by have := Kj hlt n hm; omega
 have L2 : Lnk f2 (nx0 + o.k) (nmA ns nx0 nx) (cgA nx0 g) := by
  refine ⟨fun i hi => ?_, fun i hi => ?_, fun i => by simp [f2], rfl⟩
  ·by_cases h1 : i < nx0
   ·simp only [f2, Hh h1, Ja hnd (by omega : i < ns.length), cgA, if_pos h1]
   ·rw [Kg (by omega)]
    simp only [f2, Ld (hnot _ (by omega : nx ≤ nx + (i - nx0))), cgA, if_neg h1]
    rw [if_pos ⟨by omega, by omega⟩, Nat.add_sub_cancel_left]
  ·by_cases h1 : i < nx0
   ·simp only [f2, Hh h1, Ja hnd (by omega : i < ns.length), cgA, if_pos h1]
   ·rw [Kg (by omega)]
    simp only [f2, Ld (hnot _ (by omega : nx ≤ nx + (i - nx0))), cgA, if_neg h1]
    rw [if_pos ⟨by omega, by omega⟩, Nat.add_sub_cancel_left]
 have lkn : ∀ i, i < nx0 + o.k → LkN (fun n => ns.getD n 0) g nx0 nx0' nx o.k (nmA ns nx0 nx i) (cgA nx0 g i) := fun i hi => by
  by_cases h1 : i < nx0
  ·exact .inl ⟨by simp only [cgA, if_pos h1]; exact h1, by simp only [cgA, if_pos h1, Hh h1]⟩
  ·obtain ⟨g1, g2⟩ := gr (i - nx0) (by omega)
   refine .inr ⟨?_, ?_, ?_, ?_, ?_⟩ <;> (try rw [Kg (by omega)]) <;> (try simp only [cgA, if_neg h1, Nat.add_sub_cancel_left]) <;> omega
 have R := TriC.ren T (args := args) (h := keepH h NS) (nx := nx) (k := o.k) (v := o.v (nmA ns nx0 nx)) (h' := mapR (nmA ns nx0 nx) o.rows) (fun n => ns.getD n 0) g fw f2 hB0
  (fun n m q e => by
   simp only [fw] at e
   split at e
   ·rename_i h1; cases e; exact ⟨rfl, h1, rfl⟩
   ·cases e)
  (fun n q e => by
   simp only [fw] at e
   split at e
   ·rename_i h1; cases e; exact ⟨h1, rfl⟩
   ·cases e) (fun n => by simp [fw])
  (fun n r hl => by
   obtain ⟨p, h1, h2, h3⟩ := Ii hl
   simp only [id] at h2
   subst h2
   subst h3
   have hlt0 := C.rows_lt a p h1
   have N := nr p h1
   refine ⟨p.2 (nmA ns nx0 nx), ?_, N.kd _ _, N.ok _, N.cs fw id _ L1⟩
   rw [I0, if_pos (hNSm p h1), ← Hh (nx := nx) hlt0]
   exact hrows p h1)
  (fun n m r s hn hm e => by
   obtain ⟨p, h1, h2, _⟩ := Ii hn
   obtain ⟨q, d1, d2, _⟩ := Ii hm
   simp only [id] at h2 d2
   subst h2
   subst d2
   have e1 := Ja hnd (by have := C.rows_lt a p h1; omega : p.1 < ns.length)
   have e2 := Ja hnd (by have := C.rows_lt a q d1; omega : q.1 < ns.length)
   try simp only at e
   rw [e, e2] at e1
   exact (Option.some.inj e1).symm)
  hlt' (by rw [hargs]; exact na fw id _ L1)
  (fun n m q e => by
   simp only [f2] at e
   split at e
   ·rename_i i hi
    cases e
    obtain ⟨h1, h2⟩ := idxN_lt hi
    exact ⟨rfl, .inl ⟨by omega, h2.symm⟩⟩
   ·split at e
    ·rename_i h1
     cases e
     obtain ⟨g1, g2⟩ := gr (n - nx) (by omega)
     exact ⟨rfl, .inr ⟨h1.1, h1.2, rfl, g1, g2⟩⟩
    ·cases e)
  (fun n q e => by
   simp only [f2] at e
   split at e
   ·rename_i i hi
    cases e
    obtain ⟨h1, h2⟩ := idxN_lt hi
    exact ⟨_, rfl, .inl ⟨by omega, h2.symm⟩⟩
   ·split at e
    ·rename_i h1
     cases e
     obtain ⟨g1, g2⟩ := gr (n - nx) (by omega)
     exact ⟨_, rfl, .inr ⟨h1.1, h1.2, rfl, g1, g2⟩⟩
    ·cases e) (fun n => by simp [f2])
  (fun n r hl => by
   obtain ⟨p, h1, h2, h3⟩ := Ii hl
   subst h2
   subst h3
   obtain ⟨a1, N, _⟩ := orows p h1
   exact ⟨cgA nx0 g p.1, p.2 (cgA nx0 g), lkn p.1 a1, glk p h1, N.kd _ _, N.ok _, N.cs f2 _ _ L2⟩)
  ginj (ov f2 _ _ L2)
 refine R.frame (by omega) (fun n r hl => ?_) (fun n r hl => ?_) (fun n hn hd => ?_) (fun hB n hn => ?_)
 ·rw [I0] at hl
  split at hl
  ·exact hl
  ·cases hl
 ·rw [lk_app] at hl
  split at hl
  ·rename_i r' h1; cases hl; exact .inl h1
  ·rw [Ck] at hl
   split at hl
   ·cases hl
   ·rename_i h2
    exact .inr ⟨hl, by rw [I0, if_neg h2]⟩
 ·rw [lk_app]
  split
  ·rename_i r' h1
   exfalso
   obtain ⟨p, d1, d2, _⟩ := Ii h1
   obtain ⟨a1, _, a3⟩ := orows p d1
   by_cases h2 : p.1 < nx0
   ·obtain ⟨q, e1, e2⟩ := List.mem_map.1 (a3 h2)
    refine hd ?_
    have := hNSm q e1
    rw [e2, ← Hh (nx := nx) h2, d2] at this
    exact this
   ·rw [Kg (by omega)] at d2
    omega
  ·rw [Ck, if_neg hd]
 ·rw [lk_app]
  split
  ·rename_i r' h1
   exfalso
   obtain ⟨p, d1, d2, _⟩ := Ii h1
   obtain ⟨a1, _, _⟩ := orows p d1
   by_cases h2 : p.1 < nx0
   ·have := hlt' p.1 h2
    rw [Hh h2] at d2
    omega
   ·rw [Kg (by omega)] at d2
    omega
  ·rw [Ck]
   split
   ·rfl
   ·exact hB n (by omega)
theorem GOk.of {P : Program} {f : FuncId} {ps : List Pt} {G G' : Ji} (H : GOk P f ps G) (h : ∀ av tp gr tp' ob, G' av tp = some (gr, tp', ob) → Alls ob → ∃ tp0 ob0, G av tp = some (gr, tp0, ob0) ∧ Alls ob0) : GOk P f ps G' := by
 intro av tp gr tp' ob hG ho
 obtain ⟨tp0, ob0, h1, h2⟩ := h av tp gr tp' ob hG ho
 exact H av tp gr tp0 ob0 h1 h2
structure LnOk (xs : List Value) (n : Nat) (F : List Value) : Prop where
 b : Byts xs
 n9 : n ≤ 1099511627776
 e : F = xs ++ mk3 n
def gLn (F G : List Value) : Ji := fun av tp => match av, tp with
 | [a], b :: tp' => (match Ez a with
  | some xs => some (⟨fun nx => .slice (some ⟨nx, 0, none⟩) (Bl a) (Bl a + 3), [⟨.shut, bif b then F else G⟩]⟩, tp', [LnOk xs (Bl a) (bif b then F else G)])
  | none => none)
 | _, _ => none
theorem ln_ok (F G : List Value) : GOk Try.prog 51 [.s 1] (gLn F G) := by
 refine lent_ok.of fun av tp gr tp' ob hG ho => ?_
 unfold gLn at hG
 split at hG
 case h_2 => cases hG
 rename_i a b tp2
 split at hG
 case h_2 => cases hG
 rename_i xs hx
 simp only [oI, pI] at hG
 obtain ⟨rfl, rfl, rfl⟩ := hG
 obtain ⟨h, _⟩ := ho
 refine ⟨b :: tp2, [Byts xs, Bl a ≤ 1099511627776], ?_, h.b, h.n9, trivial⟩
 simp only [gLent, hx, h.e]
structure KpOk (ls xs : List Value) (l c n : Nat) : Prop where
 L : LnOk xs n ls
 l : l = n
 c : c = n + 3
def gKp : Ji := fun av tp => match av with
 | [.sc ls l c, b] => (match Ez b with
  | some xs => some (⟨fun _ => .bool true, []⟩, tp, [KpOk ls xs l c (Bl b)])
  | none => none)
 | _ => none
theorem kp_ok : GOk Try.prog 53 [.c 1, .s 1] gKp := by
 refine kept_ok.of fun av tp gr tp' ob hG ho => ?_
 unfold gKp at hG
 split at hG
 case h_2 => cases hG
 rename_i ls l c b
 split at hG
 case h_2 => cases hG
 rename_i xs hx
 simp only [oI, pI] at hG
 obtain ⟨rfl, rfl, rfl⟩ := hG
 obtain ⟨h, _⟩ := ho
 refine ⟨tp, [Byts ls, Byts xs, l = Bl b, c = Bl b + 3, Bl b ≤ 1099511627776], ?_, ?_, h.L.b, h.l, h.c, h.L.n9, trivial⟩
 ·simp only [gKept, hx, ← h.L.e, decide_true]
 ·rw [h.L.e]; exact h.L.b.app (H9 _)
def kpT (F G : List Value) : TFun := orTz (mkT 51 [.s 1] (gLn F G)) (mkT 53 [.c 1, .s 1] gKp)
theorem kpT_one (F G : List Value) : Cv Try.prog (kpT F G) := C4 (Kh (ln_ok F G)) (Kh kp_ok)
end Go.Proofs.Ytojakfnljopjbaa
