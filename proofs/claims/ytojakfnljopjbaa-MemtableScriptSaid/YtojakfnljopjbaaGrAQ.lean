/-
  The told machine, part Zd: what a run at arguments of its own shows holds at any arguments of that form; contracts; a law's call.
-/
import Derived.Test.YtojakfnljopjbaaGrAP
namespace Go.Proofs.Ytojakfnljopjbaa
set_option linter.unusedSimpArgs false
set_option linter.unusedVariables false
set_option linter.unusedSectionVars false
open Go Go.RowKit

def sgO (b : Nat) : Sg := ⟨fun k => if k = 0 then some (b, 0) else none, fun _ => none, fun _ => some ([], []), fun _ => none, true⟩
theorem rl_one {W w : World} {b : Nat} {cs : List Value} {t : TypeId} (hx : Ext W w) (hge : W.heap.size ≤ b) (hcs : renL (sgO b) cs = some cs) (hrow : w.heap[b]? = some (.cells cs.toArray t (0, 0))) : Rl W (sgO b) [(0, ⟨.shut, cs⟩)] w := by
 refine ⟨⟨hx, fun k r' hk' => ?_, fun k m r1 s1 p1 q1 h1 h2 _ _ _ _ _ => ?_⟩, rfl, fun n r _ _ e => (by cases e), fun n r k _ hk => (by cases hk), fun n r k _ hk => (by cases hk)⟩
 ·rw [B3] at hk'
  split at hk'
  ·rename_i e; cases hk'; subst e
   exact ⟨b, 0, cs, rfl, hcs, rfl, hge, t, hrow⟩
  ·simp [lk] at hk'
 ·rw [B3] at h1 h2
  split at h1
  ·rename_i e1
   split at h2
   ·rename_i e2; omega
   ·simp [lk] at h2
  ·simp [lk] at h1
theorem RowOk.ext {W : World} {σ τ : Sg} {h : Hp} {w w' : World} {n : Nat} {r : Rw} (hR : Rl W σ h w) (hl : lk h n = some r) (hx : Ext w w') (hle : σ.le τ) : RowOk W τ w' n r :=
 hR.keepA hl hle fun b hb => Below.block hx b hb
def adKd : Kd → Bool
 | .shut => true
 | .room _ _ => true
 | .lent => true
 | .held _ => true
 | .mp _ => true
 | .of => true
 | .df _ _ _ => true
 | .ox => true
 | .dx _ _ _ _ => true
 | _ => false
theorem adKd_of {kd : Kd} (h1 : plainKd kd = true) (h2 : kd ≠ .old) : adKd kd = true := by
 cases kd <;> first | rfl | exact absurd rfl h2 | cases h1
def isX : Kd → Bool
 | .ox => true
 | .dx _ _ _ _ => true
 | _ => false
def isF : Kd → Bool
 | .of => true
 | .df _ _ _ => true
 | _ => false
theorem Tri.adopt {P : Program} {f : FuncId} {args : List Value} {h : Hp} {nx k : Nat} {v : Value} {H : Hp} (hH : ∀ n, n < nx → lk H n = lk h n) (hHb : ∀ n r, nx ≤ n → lk H n = some r → lk h n = some r ∨ n < nx + k)
  (hw : ∀ W σ w args', Rl W σ h w → renL σ args = some args' → ∃ (σ0 : Sg) (args0 : List Value) (h0 : Hp) (nx0 : Nat) (v0 : Value) (h0' : Hp) (nx0' : Nat) (d0 : List Nat) (g : Nat → Nat) (f2 : Sg),
   Rl w σ0 h0 w ∧ (∀ n, nx0 ≤ n → σ0.b n = none ∧ σ0.c n = none) ∧ Bd h0 nx0 ∧ renL σ0 args0 = some args' ∧ Tri P f args0 h0 nx0 (v0, h0', nx0', d0) ∧
   (∀ n m o, f2.b n = some (m, o) → nx ≤ n ∧ n < nx + k ∧ m = g n ∧ o = 0) ∧ (∀ n q, f2.c n = some q → nx ≤ n ∧ n < nx + k ∧ q = B0 + g n) ∧ (∀ n, f2.f n ≠ none) ∧
   (∀ n r, nx ≤ n → n < nx + k → lk H n = some r → lk h n = none → ∃ s, lk h0' (g n) = some s ∧ s.kd = r.kd ∧ adKd r.kd = true ∧ renL f2 r.cs = some s.cs) ∧
   (∀ n m, nx ≤ n → n < nx + k → nx ≤ m → m < nx + k → g n = g m → n = m) ∧ renV f2 v = some v0) : Tri P f args h nx (v, H, nx + k, []) := by
 refine ⟨⟨Nat.le_add_right _ _, fun n hn _ => hH n hn, fun hB n hn => ?_⟩, fun hB W σ w args' hR hf ha' => ?_⟩
 ·cases hl : lk H n with
  | none => rfl
  | some r =>
   simp only at hn
   rcases hHb n r (by omega) hl with h1 | h1
   ·rw [hB n (by omega)] at h1; cases h1
   ·omega
 simp only at hf
 obtain ⟨σ0, args0, h0, nx0, v0, h0', nx0', d0, g, f2, hR0, hfr, hB0, hargs, T, hf2b, hf2c, hf2f, hrow, hg, hv⟩ := hw W σ w args' hR ha'
 refine (T.2 hB0 w σ0 w args' hR0 (fun n h1 _ => hfr n h1) hargs).mono ?_
 rintro e w' ⟨σ', v', S, hv', rfl⟩
 have hx : Ext w w' := S.rl.ext
 obtain ⟨fk, hfk⟩ : ∃ fk : Nat → Bool, fk = fun n => match lk H n with | some r => isF r.kd | none => false := ⟨_, rfl⟩
 obtain ⟨fx, hfx⟩ : ∃ fx : Nat → Bool, fx = fun n => match lk H n with | some r => isX r.kd | none => false := ⟨_, rfl⟩
 obtain ⟨τ, hτ⟩ : ∃ τ : Sg, τ = ⟨fun n => if nx ≤ n ∧ n < nx + k then σ'.b (g n) else σ.b n, fun n => if nx ≤ n ∧ n < nx + k then σ'.c (g n) else σ.c n, fun n => if nx ≤ n ∧ n < nx + k then (σ'.f (g n)).map (fun F => (bif fk n then F.1 else [], bif fx n then F.2 else [])) else σ.f n, fun n => if nx ≤ n ∧ n < nx + k then σ'.e (g n) else σ.e n, true⟩ := ⟨_, rfl⟩
 have tw : τ.w = true := by subst hτ; rfl
 have fn : ∀ n, nx ≤ n → n < nx + k → (τ.f n = none ↔ σ'.f (g n) = none) ∧ sh τ n = bif fk n then sh σ' (g n) else [] := fun n h1 h2 => by
  subst hτ
  simp only [sh, if_pos (And.intro h1 h2), Option.map_eq_none_iff, true_and]
  cases σ'.f (g n) <;> cases fk n <;> rfl
 have xn : ∀ n, nx ≤ n → n < nx + k → ex τ n = bif fx n then ex σ' (g n) else [] := fun n h1 h2 => by
  subst hτ
  simp only [ex, if_pos (And.intro h1 h2)]
  cases σ'.f (g n) <;> cases fx n <;> rfl
 have en : ∀ n, nx ≤ n → n < nx + k → τ.e n = σ'.e (g n) := fun n h1 h2 => by subst hτ; simp only [if_pos (And.intro h1 h2)]
 have eo_ : ∀ n, ¬ (nx ≤ n ∧ n < nx + k) → τ.e n = σ.e n := fun n h1 => by subst hτ; simp only [if_neg h1]
 have fo_ : ∀ n, ¬ (nx ≤ n ∧ n < nx + k) → τ.f n = σ.f n := fun n h1 => by subst hτ; simp only [if_neg h1]
 have tn : ∀ n, nx ≤ n → n < nx + k → τ.b n = σ'.b (g n) ∧ τ.c n = σ'.c (g n) := fun n h1 h2 => by subst hτ; simp only [if_pos (And.intro h1 h2), and_self]
 have to_ : ∀ n, ¬ (nx ≤ n ∧ n < nx + k) → τ.b n = σ.b n ∧ τ.c n = σ.c n := fun n h1 => by subst hτ; simp only [if_neg h1, and_self]
 have hle : σ.le τ := by
  refine ⟨fun n p e => ?_, fun n p e => ?_, fun n p e => ?_⟩
  rotate_left 2
  ·by_cases h1 : nx ≤ n ∧ n < nx + k
   ·rw [(hf n h1.1 h1.2).1] at e; cases e
   ·exact ⟨(to_ n h1).2, fo_ n h1, eo_ n h1, tw.trans hR.wf.symm⟩
  ·by_cases h1 : nx ≤ n ∧ n < nx + k
   ·rw [(hf n h1.1 h1.2).1] at e; cases e
   ·rw [(to_ n h1).1]; exact e
  ·by_cases h1 : nx ≤ n ∧ n < nx + k
   ·rw [(hf n h1.1 h1.2).2] at e; cases e
   ·rw [(to_ n h1).2]; exact e
 have b2 : ∀ n m o p, f2.b n = some (m, o) → σ'.b m = some p → τ.b n = some (p.1, p.2 + o) := fun n m o p e1 e2 => by
  obtain ⟨a1, a2, rfl, rfl⟩ := hf2b n m o e1
  rw [(tn n a1 a2).1]; exact e2
 have c2 : ∀ n q j, f2.c n = some q → cpR σ' q = some j → τ.c n = some j := fun n q j e1 e2 => by
  obtain ⟨a1, a2, rfl⟩ := hf2c n q e1
  rw [Bq] at e2
  rw [(tn n a1 a2).2]; exact e2
 have n2 : ∀ n m o, f2.b n = some (m, o) → f2.f n ≠ none ∧ (τ.f n = none ↔ σ'.f m = none) ∧ τ.e n = σ'.e m ∧ τ.w = σ'.w := fun n m o e1 => by
  obtain ⟨a1, a2, rfl, rfl⟩ := hf2b n m o e1
  exact ⟨hf2f n, (fn n a1 a2).1, en n a1 a2, tw.trans S.rl.wf.symm⟩
 have cls : ∀ n r, lk H n = some r → (lk h n = some r ∧ n < nx) ∨ (nx ≤ n ∧ n < nx + k ∧ ∃ s, lk h0' (g n) = some s ∧ s.kd = r.kd ∧ adKd r.kd = true ∧ renL f2 r.cs = some s.cs) := fun n r hl => by
  by_cases h1 : n < nx
  ·exact .inl ⟨by rw [← hH n h1]; exact hl, h1⟩
  ·rcases hHb n r (by omega) hl with h2 | h2
   ·rw [hB n (by omega)] at h2; cases h2
   ·exact .inr ⟨by omega, h2, hrow n r (by omega) h2 hl (hB n (by omega))⟩
 have newge : ∀ n s, lk h0' (g n) = some s → s.own → ∀ p, σ'.b (g n) = some p → w.heap.size ≤ p.1 := fun n s hl ho p hp => (S.rl.ge hl ho hp).1
 have fsh : ∀ n r s, lk H n = some r → lk h0' (g n) = some s → s.kd = r.kd → nx ≤ n → n < nx + k → fk n = isF r.kd ∧ ∀ kk, kk ∈ sh τ n → kk ∈ sh σ' (g n) ∧ w.heap.size ≤ kk := fun n r s h1 h2 h3 h4 h5 => by
  have e : fk n = isF r.kd := by subst hfk; simp only [h1]
  refine ⟨e, fun kk hkk => ?_⟩
  rw [(fn n h4 h5).2, e] at hkk
  obtain ⟨b, c, vs, e1, e2, e3⟩ := S.rl.row _ _ h2
  rw [h3] at e3
  obtain ⟨kd, cs⟩ := r
  cases kd with
  | of => exact ⟨hkk, (e3.1 kk hkk).1⟩
  | df sz zz ds => exact ⟨hkk, (e3.1 kk hkk).1⟩
  | _ => cases hkk
 have fex : ∀ n r s, lk H n = some r → lk h0' (g n) = some s → s.kd = r.kd → nx ≤ n → n < nx + k → fx n = isX r.kd ∧ ∀ kk, kk ∈ ex τ n → kk ∈ ex σ' (g n) ∧ w.heap.size ≤ kk := fun n r s h1 h2 h3 h4 h5 => by
  have e : fx n = isX r.kd := by subst hfx; simp only [h1]
  refine ⟨e, fun kk hkk => ?_⟩
  rw [xn n h4 h5, e] at hkk
  obtain ⟨b, c, vs, e1, e2, e3⟩ := S.rl.row _ _ h2
  rw [h3] at e3
  obtain ⟨kd, cs⟩ := r
  cases kd with
  | ox =>
   refine ⟨hkk, ?_⟩
   have hkk' : kk ∈ ex σ' (g n) := hkk
   rcases e3 with ⟨e4, _⟩ | ⟨_, e4, e5, _⟩
   ·unfold ex at hkk'; rw [e4] at hkk'; cases hkk'
   ·rw [e5] at hkk'; obtain rfl := List.mem_singleton.1 hkk'; exact e4
  | dx d2 sz zz ds => exact ⟨hkk, e3.2.2.1 kk hkk⟩
  | _ => cases hkk
 refine ⟨τ, v', ⟨hle, fun n hn => ?_, ⟨⟨hR.ext.trans hx, fun n r hl => ?_, fun n m r s p q hn hm ho hs hp hq e => ?_⟩, tw, fun n r hl ho => ?_, fun n r kk hl hkk => ?_, fun n r kk hl hkk => ?_⟩, hx.size, fun b hb _ _ => Below.block hx b hb, fun n r p hl ho hp => ?_, fun n r kk hl hkk => ?_, fun n r kk hl hkk => ?_⟩, J2 b2 c2 n2 _ _ _ hv hv', rfl⟩
 ·simp only at hn
  exact to_ n (by omega)
 ·rcases cls n r hl with ⟨h1, h2⟩ | ⟨h1, h2, s, h3, h4, h5, h7⟩
  ·exact RowOk.ext hR h1 hx hle
  ·obtain ⟨b, c, vs, e1, e2, e3⟩ := S.rl.row _ _ h3
   refine ⟨b, c, vs, (tn n h1 h2).1.trans e1, El b2 c2 n2 _ _ _ h7 e2, ?_⟩
   obtain ⟨ef, es⟩ := fsh n r s hl h3 h4 h1 h2
   have hst := (fn n h1 h2).2
   rw [h4] at e3
   obtain ⟨kd, cs⟩ := r
   simp only at e3 h5 ef ⊢
   have hW := hR.ext.size
   have hFk : ∀ {F : List Nat}, FOk w w' F → FOk W w' F := fun hh q hq => ⟨Nat.le_trans hW (hh q hq).1, (hh q hq).2⟩
   cases kd with
   | shut => exact ⟨e3.1, Nat.le_trans hW e3.2.1, e3.2.2⟩
   | old => cases h5
   | lent => exact ⟨e3.1, Nat.le_trans hW e3.2.1, e3.2.2⟩
   | held m =>
    obtain ⟨g1, g2, t, rest, fr, j, g3, g4⟩ := e3
    exact ⟨g1, Nat.le_trans hW g2, t, rest, fr, j, (tn n h1 h2).2.trans g3, g4⟩
   | room size zz =>
    obtain ⟨g1, g2, t, rest, j, g3, g4⟩ := e3
    exact ⟨g1, Nat.le_trans hW g2, t, rest, j, (tn n h1 h2).2.trans g3, g4⟩
   | round st pe tm ps as bd => cases h5
   | marks => cases h5
   | sd ds => cases h5
   | sw ds => cases h5
   | ow => cases h5
   | ox =>
    have hsx := xn n h1 h2
    rw [(fex n _ s hl h3 h4 h1 h2).1] at hsx
    rcases e3 with ⟨g1, g2⟩ | ⟨g1, g2, g3, t, rest, j, g4, g5⟩
    ·exact .inl ⟨(fn n h1 h2).1.2 g1, g2⟩
    ·exact .inr ⟨g1, Nat.le_trans hW g2, (show ex τ n = ex σ' (g n) from hsx).trans g3, t, rest, j, (tn n h1 h2).2.trans g4, g5⟩
   | dx d2 size2 zz2 ds =>
    have hsx := xn n h1 h2
    rw [(fex n _ s hl h3 h4 h1 h2).1] at hsx
    have hsx : ex τ n = ex σ' (g n) := hsx
    obtain ⟨g1, g2, g3, g3n, us, t, rest, j, E, g4, g5⟩ := e3
    exact ⟨g1, g2, by rw [hsx]; exact fun q hq => Nat.le_trans hW (g3 q hq), by rw [hsx]; exact g3n, us, t, rest, j, E, (tn n h1 h2).2.trans g4, by rw [hsx]; exact g5⟩
   | dp sz2 zz2 ds => cases h5
   | dw sz2 zz2 ds => cases h5
   | of =>
    rw [ef] at hst
    unfold KdOk at e3 ⊢
    rw [show sh τ n = sh σ' (g n) from hst]
    exact ⟨hFk e3.1, e3.2⟩
   | df sz2 zz2 ds =>
    rw [ef] at hst
    obtain ⟨g0, g1, g2, g3, us, t, rest, j, g4, g5⟩ := e3
    unfold KdOk
    rw [show sh τ n = sh σ' (g n) from hst]
    exact ⟨hFk g0, g1, Nat.le_trans hW g2, g3, us, t, rest, j, (tn n h1 h2).2.trans g4, g5⟩
   | mp es => exact ⟨e3.1, Nat.le_trans hW e3.2.1, e3.2.2⟩
 ·rcases cls n r hn with ⟨a1, a2⟩ | ⟨a1, a2, s1, a3, a4, a5, a7⟩ <;> rcases cls m s hm with ⟨b1, b2'⟩ | ⟨b1, b2', s2, b3, b4, b5, b7⟩
  ·rw [(to_ n (by omega)).1] at hp
   rw [(to_ m (by omega)).1] at hq
   exact hR.inj n m r s p q a1 b1 ho hs hp hq e
  ·rw [(to_ n (by omega)).1] at hp
   rw [(tn m b1 b2').1] at hq
   have h1 := hR.lt a1 ho hp
   have h2 := newge m s2 b3 (by unfold Rw.own; rw [b4]; exact hs) q hq
   omega
  ·rw [(tn n a1 a2).1] at hp
   rw [(to_ m (by omega)).1] at hq
   have h1 := hR.lt b1 hs hq
   have h2 := newge n s1 a3 (by unfold Rw.own; rw [a4]; exact ho) p hp
   omega
  ·rw [(tn n a1 a2).1] at hp
   rw [(tn m b1 b2').1] at hq
   exact hg n m a1 a2 b1 b2' (S.rl.inj _ _ s1 s2 p q a3 b3 (by unfold Rw.own; rw [a4]; exact ho) (by unfold Rw.own; rw [b4]; exact hs) hp hq e)
 ·rcases cls n r hl with ⟨a1, a2⟩ | ⟨a1, a2, s1, a3, a4, a5, a7⟩
  ·rw [fo_ n (by omega)]; exact hR.shr.1 n r a1 ho
  ·intro e0
   exact S.rl.shr.1 _ s1 a3 (by unfold Rw.own; rw [a4]; exact ho) ((fn n a1 a2).1.1 e0)
 ·rcases cls n r hl with ⟨a1, a2⟩ | ⟨a1, a2, s1, a3, a4, a5, a7⟩
  ·have hk2 : kk ∈ sh σ n := by unfold sh at hkk ⊢; rw [fo_ n (by omega)] at hkk; exact hkk
   obtain ⟨g1, g2⟩ := hR.shr.2.1 n r kk a1 hk2
   refine ⟨Nat.lt_of_lt_of_le g1 hx.size, fun m s q hm hs hq => ?_⟩
   rcases cls m s hm with ⟨b1, b2'⟩ | ⟨b1, b2', s2, b3, b4, b5, b7⟩
   ·rw [(to_ m (by omega)).1] at hq
    exact g2 m s q b1 hs hq
   ·rw [(tn m b1 b2').1] at hq
    have h2 := newge m s2 b3 (by unfold Rw.own; rw [b4]; exact hs) q hq
    omega
  ·obtain ⟨g1, g2⟩ := (fsh n r s1 hl a3 a4 a1 a2).2 kk hkk
   obtain ⟨g3, g4⟩ := S.rl.shr.2.1 _ s1 kk a3 g1
   refine ⟨g3, fun m s q hm hs hq => ?_⟩
   rcases cls m s hm with ⟨b1, b2'⟩ | ⟨b1, b2', s2, b3, b4, b5, b7⟩
   ·rw [(to_ m (by omega)).1] at hq
    have := hR.lt b1 hs hq
    omega
   ·rw [(tn m b1 b2').1] at hq
    exact g4 _ s2 q b3 (by unfold Rw.own; rw [b4]; exact hs) hq
 ·rcases cls n r hl with ⟨a1, a2⟩ | ⟨a1, a2, s1, a3, a4, a5, a7⟩
  ·have hk2 : kk ∈ ex σ n := by unfold ex at hkk ⊢; rw [fo_ n (by omega)] at hkk; exact hkk
   obtain ⟨g1, g2, g3⟩ := hR.shr.2.2 n r kk a1 hk2
   refine ⟨Nat.lt_of_lt_of_le g1 hx.size, fun m s q hm hs hq => ?_, fun m s hm => ?_⟩
   ·rcases cls m s hm with ⟨b1, b2'⟩ | ⟨b1, b2', s2, b3, b4, b5, b7⟩
    ·rw [(to_ m (by omega)).1] at hq
     exact g2 m s q b1 hs hq
    ·rw [(tn m b1 b2').1] at hq
     have h2 := newge m s2 b3 (by unfold Rw.own; rw [b4]; exact hs) q hq
     omega
   ·rcases cls m s hm with ⟨b1, b2'⟩ | ⟨b1, b2', s2, b3, b4, b5, b7⟩
    ·unfold sh ex
     rw [fo_ m (by omega)]
     exact g3 m s b1
    ·refine ⟨fun hm2 => ?_, fun hm2 => ?_⟩
     ·have := ((fsh m s s2 hm b3 b4 b1 b2').2 kk hm2).2; omega
     ·have := ((fex m s s2 hm b3 b4 b1 b2').2 kk hm2).2; omega
  ·obtain ⟨g1, g2⟩ := (fex n r s1 hl a3 a4 a1 a2).2 kk hkk
   obtain ⟨g3, g4, g5⟩ := S.rl.shr.2.2 _ s1 kk a3 g1
   refine ⟨g3, fun m s q hm hs hq => ?_, fun m s hm => ?_⟩
   ·rcases cls m s hm with ⟨b1, b2'⟩ | ⟨b1, b2', s2, b3, b4, b5, b7⟩
    ·rw [(to_ m (by omega)).1] at hq
     have := hR.lt b1 hs hq
     omega
    ·rw [(tn m b1 b2').1] at hq
     exact g4 _ s2 q b3 (by unfold Rw.own; rw [b4]; exact hs) hq
   ·rcases cls m s hm with ⟨b1, b2'⟩ | ⟨b1, b2', s2, b3, b4, b5, b7⟩
    ·unfold sh ex
     rw [fo_ m (by omega)]
     refine ⟨fun hm2 => ?_, fun hm2 => ?_⟩
     ·have := (hR.shr.2.1 m s kk b1 hm2).1; omega
     ·have := (hR.shr.2.2 m s kk b1 hm2).1; omega
    ·refine ⟨fun hm2 => (g5 _ s2 b3).1 ((fsh m s s2 hm b3 b4 b1 b2').2 kk hm2).1, fun hm2 => ?_⟩
     exact hg m n b1 b2' a1 a2 ((g5 _ s2 b3).2 ((fex m s s2 hm b3 b4 b1 b2').2 kk hm2).1)
 ·rcases cls n r hl with ⟨a1, a2⟩ | ⟨a1, a2, s1, a3, a4, a5, a7⟩
  ·rw [(to_ n (by omega)).1] at hp
   exact .inr ⟨n, r, p, a1, ho, hp, rfl⟩
  ·rw [(tn n a1 a2).1] at hp
   exact .inl (newge n s1 a3 (by unfold Rw.own; rw [a4]; exact ho) p hp)
 ·rcases cls n r hl with ⟨a1, a2⟩ | ⟨a1, a2, s1, a3, a4, a5, a7⟩
  ·have hk2 : kk ∈ sh σ n := by unfold sh at hkk ⊢; rw [fo_ n (by omega)] at hkk; exact hkk
   exact .inr (.inr ⟨n, r, a1, hk2⟩)
  ·exact .inl ((fsh n r s1 hl a3 a4 a1 a2).2 kk hkk).2
 ·rcases cls n r hl with ⟨a1, a2⟩ | ⟨a1, a2, s1, a3, a4, a5, a7⟩
  ·have hk2 : kk ∈ ex σ n := by unfold ex at hkk ⊢; rw [fo_ n (by omega)] at hkk; exact hkk
   exact .inr (.inr ⟨n, r, a1, hk2⟩)
  ·exact .inl ((fex n r s1 hl a3 a4 a1 a2).2 kk hkk).2

inductive Av where
 | fl (v : Value)
 | sl (xs : List Value) (len : Nat)
 | ag (pre : List Value) (xs : List Value) (len : Nat)
 | sc (xs : List Value) (len cap : Nat)
def canV : List Av → List Nat → Nat → List Value
 | [], _, _ => []
 | .fl v :: l, cs, k => v :: canV l cs.tail (k + 1)
 | .sl _ len :: l, cs, k => .slice (some ⟨k, 0, none⟩) len (cs.headD 0) :: canV l cs.tail (k + 1)
 | .ag pre _ len :: l, cs, k => .agg ⟨pre ++ [.slice (some ⟨k, 0, none⟩) len (cs.headD 0)]⟩ :: canV l cs.tail (k + 1)
 | .sc _ len cap :: l, cs, k => .slice (some ⟨k, 0, none⟩) len cap :: canV l cs.tail (k + 1)
def Dr : List Av → List Nat → Prop
 | [], [] => True
 | .sl _ len :: l, c :: cs => (len ≤ c ∧ c ≤ 9223372036854775807) ∧ Dr l cs
 | .ag _ _ len :: l, c :: cs => (len ≤ c ∧ c ≤ 9223372036854775807) ∧ Dr l cs
 | _ :: l, _ :: cs => Dr l cs
 | _, _ => False
def canH : List Av → Nat → Hp
 | [], _ => []
 | .fl _ :: l, k => canH l (k + 1)
 | .sl xs _ :: l, k => (k, ⟨.old, xs⟩) :: canH l (k + 1)
 | .ag _ xs _ :: l, k => (k, ⟨.old, xs⟩) :: canH l (k + 1)
 | .sc xs _ _ :: l, k => (k, ⟨.old, xs⟩) :: canH l (k + 1)
def emp (a : Option Addr) : Option (Addr × Nat) := match a with | none => some (⟨0, 0, none⟩, B0) | some ad => some (ad, B0 + 1)
def SlAt (u : Value) (p : Option (Addr × Nat)) (xs : List Value) (len c : Nat) : Prop :=
 (∃ b o, u = .slice (some ⟨b, o, none⟩) len c ∧ p = some (⟨b, o, none⟩, c) ∧ c < B0) ∨ (∃ a, u = .slice a 0 0 ∧ p = emp a ∧ xs = [] ∧ len = 0 ∧ c = 0)
def capOf (c : Nat) : Nat := if c < B0 then c else 0
theorem SlAt.cap {u : Value} {p : Option (Addr × Nat)} {xs : List Value} {len c : Nat} (h : SlAt u p xs len c) : ∃ ad c', p = some (ad, c') ∧ capOf c' = c := by
 rcases h with ⟨b, o, _, rfl, hc⟩ | ⟨a, _, rfl, _, _, rfl⟩
 ·exact ⟨_, _, rfl, by unfold capOf; rw [if_pos hc]⟩
 ·cases a with
  | none => exact ⟨_, _, rfl, by unfold capOf; rw [if_neg (by omega)]⟩
  | some ad => exact ⟨_, _, rfl, by unfold capOf; rw [if_neg (by omega)]⟩
def AvAt : Av → Value → Option (Addr × Nat) → Prop
 | .fl v, u, p => u = v ∧ (∀ σ, renV σ v = some v) ∧ p = none
 | .sl xs len, u, p => ∃ s c, u = s ∧ SlAt s p xs len c ∧ Fl xs ∧ len ≤ c ∧ c ≤ 9223372036854775807
 | .ag pre xs len, u, p => ∃ s c, u = .agg ⟨pre ++ [s]⟩ ∧ SlAt s p xs len c ∧ Fl xs ∧ Fl pre ∧ len ≤ c ∧ c ≤ 9223372036854775807
 | .sc xs len cap, u, p => ∃ s, u = s ∧ SlAt s p xs len cap ∧ Fl xs ∧ cap ≤ 9223372036854775807 ∧ len ≤ cap
def D6 : List Av → List Value → List (Option (Addr × Nat)) → Prop
 | [], [], [] => True
 | a :: as, v :: vs, p :: ps => AvAt a v p ∧ D6 as vs ps
 | _, _, _ => False
def capsP : List (Option (Addr × Nat)) → List Nat := List.map fun | some (_, c) => capOf c | none => 0
def sgP (ps : List (Option (Addr × Nat))) (k : Nat) : Sg :=
 ⟨fun n => if n < k then none else match ps[n - k]? with | some (some (a, _)) => some (a.block, a.off) | _ => none, fun _ => none, fun n => match ps[n - k]? with | some (some (_, c)) => if c < B0 then some ([], []) else none | _ => some ([], []), fun n => match ps[n - k]? with | some (some (a, c)) => if c = B0 then none else some a | _ => none, true⟩
theorem sgP_at {ps : List (Option (Addr × Nat))} {k j : Nat} {a : Addr} {c : Nat} (h : ps[j]? = some (some (a, c))) : (sgP ps k).b (k + j) = some (a.block, a.off) := by
 simp only [sgP, Nat.add_sub_cancel_left, if_neg (show ¬ k + j < k by omega), h]
theorem sgP_out {ps : List (Option (Addr × Nat))} {k n : Nat} (h : k + ps.length ≤ n) : (sgP ps k).b n = none ∧ (sgP ps k).c n = none := by
 simp only [sgP, if_neg (show ¬ n < k by omega), List.getElem?_eq_none (show ps.length ≤ n - k by omega), and_self]
theorem avs_caps : ∀ {as : List Av} {vs : List Value} {ps : List (Option (Addr × Nat))}, D6 as vs ps → Dr as (capsP ps)
 | [], [], [], _ => trivial
 | a :: as, v :: vs, p :: ps, h => by
   have ih := avs_caps h.2
   cases a with
   | fl x => exact ih
   | sl xs len => obtain ⟨⟨s, c, _, h2, h3, h4⟩, _⟩ := h; obtain ⟨ad, c', rfl, rfl⟩ := h2.cap; exact ⟨h4, ih⟩
   | ag pre xs len => obtain ⟨⟨s, c, _, h2, h3, h4, h5⟩, _⟩ := h; obtain ⟨ad, c', rfl, rfl⟩ := h2.cap; exact ⟨h5, ih⟩
   | sc xs len cap => exact ih
 | [], _ :: _, _, h => by simp [D6] at h
 | [], [], _ :: _, h => by simp [D6] at h
 | _ :: _, [], _, h => by simp [D6] at h
 | _ :: _, _ :: _, [], h => by simp [D6] at h
theorem avs_ren {ps0 : List (Option (Addr × Nat))} {k0 : Nat} : ∀ {as : List Av} {vs : List Value} {ps : List (Option (Addr × Nat))} {k j : Nat}, D6 as vs ps → k = k0 + j → (∀ i p, ps[i]? = some p → ps0[j + i]? = some p) → renL (sgP ps0 k0) (canV as (capsP ps) k) = some vs
 | [], [], [], k, j, _, _, _ => rfl
 | a :: as, v :: vs, p :: ps, k, j, h, hk, hp => by
   have ih := avs_ren (ps0 := ps0) (k0 := k0) (as := as) (vs := vs) (ps := ps) (k := k + 1) (j := j + 1) h.2 (by omega) fun i p' e => by
    have := hp (i + 1) p' (by simpa using e)
    rwa [show j + (i + 1) = j + 1 + i by omega] at this
   have h0 := hp 0 p rfl
   rw [Nat.add_zero] at h0
   have ren : ∀ s xs len c, SlAt s p xs len c → c ≤ 9223372036854775807 → len ≤ c → renV (sgP ps0 k0) (.slice (some ⟨k, 0, none⟩) len c) = some s := fun s xs len c hs hc hlc => by
    rcases hs with ⟨b, o, rfl, e, hlt⟩ | ⟨a, rfl, e, _, rfl, rfl⟩
    ·subst e
     have e1 := sgP_at (k := k0) h0
     rw [← hk] at e1
     have e2 : (sgP ps0 k0).f k ≠ none := by simp only [sgP, hk, Nat.add_sub_cancel_left, h0, if_pos hlt]; intro e; cases e
     have := B5 (l := len) (c := c) (o := 0) e1 (by unfold cpR; rw [if_pos hlt]) e2 (.inr hlc)
     simpa using this
    ·subst e
     cases a with
     | none =>
      simp only [emp] at h0
      have e1 := sgP_at (k := k0) h0
      rw [← hk] at e1
      have e2 : (sgP ps0 k0).f k = none := by simp only [sgP, hk, Nat.add_sub_cancel_left, h0]; rw [if_neg (by omega)]
      have e3 : (sgP ps0 k0).e k = none := by simp only [sgP, hk, Nat.add_sub_cancel_left, h0, if_true]
      have := Dl (o := 0) e1 e2 (l := 0) (c := 0) rfl (by unfold cpR B0; rfl)
      rw [e3] at this
      exact this
     | some ad =>
      simp only [emp] at h0
      have e1 := sgP_at (k := k0) h0
      rw [← hk] at e1
      have e2 : (sgP ps0 k0).f k = none := by simp only [sgP, hk, Nat.add_sub_cancel_left, h0]; rw [if_neg (by omega)]
      have e3 : (sgP ps0 k0).e k = some ad := by simp only [sgP, hk, Nat.add_sub_cancel_left, h0]; rw [if_neg (by omega)]
      have := Dl (o := 0) e1 e2 (l := 0) (c := 0) rfl (by unfold cpR B0; rfl)
      rw [e3] at this
      exact this
   have capE : ∀ {s xs len c}, SlAt s p xs len c → capsP (p :: ps) = c :: capsP ps := fun hs => by
    obtain ⟨ad, c', rfl, rfl⟩ := hs.cap; rfl
   cases a with
   | fl x =>
    obtain ⟨⟨rfl, h2, rfl⟩, _⟩ := h
    exact Bi (h2 _) ih
   | sl xs len =>
    obtain ⟨⟨s, c, rfl, h2, h3, h4, h5⟩, _⟩ := h
    have := ren _ _ len c h2 h5 h4
    rw [capE h2]
    exact Bi this ih
   | ag pre xs len =>
    obtain ⟨⟨s, c, rfl, h2, h3, h4, h5, h6⟩, _⟩ := h
    have := ren _ _ len c h2 h6 h5
    rw [capE h2]
    exact Bi (Ct (c' := ⟨pre ++ [s]⟩) (C7 (h4 _) (Bi this rfl))) ih
   | sc xs len cap =>
    obtain ⟨⟨s, rfl, h2, h3, h4, h5⟩, _⟩ := h
    have := ren _ _ len cap h2 h4 h5
    rw [capE h2]
    exact Bi this ih
 | [], _ :: _, _, _, _, h, _, _ => by simp [D6] at h
 | [], [], _ :: _, _, _, h, _, _ => by simp [D6] at h
 | _ :: _, [], _, _, _, h, _, _ => by simp [D6] at h
 | _ :: _, _ :: _, [], _, _, h, _, _ => by simp [D6] at h
def avCs : Av → List Value
 | .fl _ => []
 | .sl xs _ => xs
 | .ag _ xs _ => xs
 | .sc xs _ _ => xs
theorem M6 : ∀ {as : List Av} {vs : List Value} {ps : List (Option (Addr × Nat))} {k n : Nat} {r : Rw}, D6 as vs ps → lk (canH as k) n = some r → ∃ j a ad c, n = k + j ∧ as[j]? = some a ∧ ps[j]? = some (some (ad, c)) ∧ r = ⟨.old, avCs a⟩ ∧ Fl r.cs
 | [], [], [], k, n, r, _, h => by simp [canH, lk] at h
 | a :: as, v :: vs, p :: ps, k, n, r, hA, h => by
   have tail : lk (canH as (k + 1)) n = some r → ∃ j b ad c, n = k + j ∧ (a :: as)[j]? = some b ∧ (p :: ps)[j]? = some (some (ad, c)) ∧ r = ⟨.old, avCs b⟩ ∧ Fl r.cs := fun h => by
    obtain ⟨j, b, ad, c, e1, e2, e3, e4, e5⟩ := M6 hA.2 h
    exact ⟨j + 1, b, ad, c, by omega, by simpa using e2, by simpa using e3, e4, e5⟩
   cases a with
   | fl x => exact tail h
   | sl xs len =>
    simp only [canH] at h
    rw [B3] at h
    split at h
    ·rename_i e
     cases h
     obtain ⟨⟨s, c, rfl, h2, h3, _⟩, _⟩ := hA
     obtain ⟨ad, c', h2, _⟩ := h2.cap
     exact ⟨0, _, _, _, by omega, rfl, by rw [h2]; rfl, rfl, h3⟩
    ·exact tail h
   | ag pre xs len =>
    simp only [canH] at h
    rw [B3] at h
    split at h
    ·rename_i e
     cases h
     obtain ⟨⟨s, c, rfl, h2, h3, h4⟩, _⟩ := hA
     obtain ⟨ad, c', h2, _⟩ := h2.cap
     exact ⟨0, _, _, _, by omega, rfl, by rw [h2]; rfl, rfl, h3⟩
    ·exact tail h
   | sc xs len cap =>
    simp only [canH] at h
    rw [B3] at h
    split at h
    ·rename_i e
     cases h
     obtain ⟨⟨s, rfl, h2, h3, h4⟩, _⟩ := hA
     obtain ⟨ad, c', h2, _⟩ := h2.cap
     exact ⟨0, _, _, _, by omega, rfl, by rw [h2]; rfl, rfl, h3⟩
    ·exact tail h
 | [], _ :: _, _, _, _, _, h, _ => by simp [D6] at h
 | [], [], _ :: _, _, _, _, h, _ => by simp [D6] at h
 | _ :: _, [], _, _, _, _, h, _ => by simp [D6] at h
 | _ :: _, _ :: _, [], _, _, _, h, _ => by simp [D6] at h
theorem avs_len : ∀ {as : List Av} {vs : List Value} {ps : List (Option (Addr × Nat))}, D6 as vs ps → vs.length = as.length ∧ ps.length = as.length
 | [], [], [], _ => ⟨rfl, rfl⟩
 | a :: as, v :: vs, p :: ps, h => by simp [avs_len h.2]
 | [], _ :: _, _, h => by simp [D6] at h
 | [], [], _ :: _, h => by simp [D6] at h
 | _ :: _, [], _, h => by simp [D6] at h
 | _ :: _, _ :: _, [], h => by simp [D6] at h
theorem can_rl {avs : List Av} {vs : List Value} {ps : List (Option (Addr × Nat))} (hA : D6 avs vs ps) {W : World}
  (hW : ∀ (j : Nat) (ad : Addr) (c : Nat), ps[j]? = some (some (ad, c)) → ∀ a, avs[j]? = some a → avCs a = [] ∨ (ad.block < W.heap.size ∧ ∀ i x, (avCs a)[i]? = some x → W.cell? ⟨ad.block, ad.off + i, none⟩ = some x)) :
  Rl W (sgP ps 0) (canH avs 0) W ∧ Bd (canH avs 0) avs.length ∧ (∀ n, avs.length ≤ n → (sgP ps 0).b n = none ∧ (sgP ps 0).c n = none) ∧ renL (sgP ps 0) (canV avs (capsP ps) 0) = some vs := by
 have hl := avs_len hA
 have noOwn : ∀ n r, lk (canH avs 0) n = some r → ¬ r.own := fun n r hn ho => by
  obtain ⟨j, a, ad, c, e1, e2, e3, e4, e5⟩ := M6 hA hn
  subst e4
  exact ho .old
 have noSh : ∀ n k, k ∈ sh (sgP ps 0) n → False := fun n k hk => by
  simp only [sh, sgP] at hk
  split at hk
  ·split at hk <;> cases hk
  ·cases hk
 have noEx : ∀ n k, k ∈ ex (sgP ps 0) n → False := fun n k hk => by
  simp only [ex, sgP] at hk
  split at hk
  ·split at hk <;> cases hk
  ·cases hk
 refine ⟨⟨⟨Ext.refl W, fun n r hlk => ?_, fun n m r s p q hn hm ho => (noOwn n r hn ho).elim⟩, rfl, fun n r hn ho => (noOwn n r hn ho).elim, fun n r k _ hk => (noSh n k hk).elim, fun n r k _ hk => (noEx n k hk).elim⟩, fun n hn => ?_, fun n hn => sgP_out (by rw [hl.2]; omega), avs_ren (j := 0) hA rfl fun i p e => by simpa using e⟩
 ·obtain ⟨j, a, ad, c, e1, e2, e3, e4, e5⟩ := M6 hA hlk
  have s1 := sgP_at (k := 0) e3
  rw [← e1] at s1
  subst e4
  refine ⟨_, _, _, s1, e5 _, ?_⟩
  rcases hW j ad c e3 a e2 with h1 | h1
  ·exact .inl h1
  ·exact .inr (.inl h1)
 ·cases hlk : lk (canH avs 0) n with
  | none => rfl
  | some r =>
   obtain ⟨j, a, ad, c, e1, e2, _⟩ := M6 hA hlk
   have := (List.getElem?_eq_some_iff.1 e2).1
   omega
theorem calls_av {P : Program} {f : FuncId} (avs : List Av) {v : Value} (T : ∀ cs, Dr avs cs → ∃ h' nx' d, Tri P f (canV avs cs 0) (canH avs 0) avs.length (v, h', nx', d)) (hv : ∀ σ, renV σ v = some v) {W : World} {vs : List Value} {ps : List (Option (Addr × Nat))} (hA : D6 avs vs ps)
  (hW : ∀ (j : Nat) (ad : Addr) (c : Nat), ps[j]? = some (some (ad, c)) → ∀ a, avs[j]? = some a → avCs a = [] ∨ (ad.block < W.heap.size ∧ ∀ i x, (avCs a)[i]? = some x → W.cell? ⟨ad.block, ad.off + i, none⟩ = some x)) :
  Calls P f vs.toArray W fun e w' => e = .returned v ∧ Ext W w' := by
 obtain ⟨h1, h2, h3, h4⟩ := can_rl hA hW
 obtain ⟨h', nx', d, T⟩ := T _ (avs_caps hA)
 refine (T.2 h2 W (sgP ps 0) W vs h1 (fun n h _ => h3 n h) h4).mono ?_
 rintro e w' ⟨σ', u, S, hu, rfl⟩
 rw [hv σ'] at hu
 cases hu
 exact ⟨rfl, S.rl.ext⟩

inductive Pt where
 | f
 | s (size : Nat)
 | a (size : Nat)
 | c (size : Nat)
def Lc : List Value → Option (List Value × Value)
 | [] => none
 | [v] => some ([], v)
 | v :: vs => match Lc vs with | some (l, u) => some (v :: l, u) | none => none
theorem Jo : ∀ {l p : List Value} {v : Value}, Lc l = some (p, v) → l = p ++ [v]
 | [], p, v, h => by cases h
 | [x], p, v, h => by simp only [Lc, oI, pI] at h; obtain ⟨rfl, rfl⟩ := h; rfl
 | x :: y :: l, p, v, h => by
   simp only [Lc] at h
   split at h
   ·rename_i q u hq
    simp only [oI, pI] at h
    obtain ⟨rfl, rfl⟩ := h
    rw [Jo hq]; rfl
   ·cases h
theorem I5 {v : Value} (h : flat1 v = true) (σ : Sg) : renV σ v = some v := by
 unfold flat1 at h
 split at h
 ·exact Ct (Cj σ h)
 ·exact Cs σ h
def rdS (h : Hp) (size : Nat) (n o len : Nat) : Option (List Value × List Prop) :=
 match lk h n with
 | some r => some (tkD o (mlN len size) r.cs, [adN o (mlN len size) ≤ r.cs.length, Fl (tkD o (mlN len size) r.cs)])
 | none => none
def capL (r : Rw) (n len c : Nat) : List Prop := match r.kd with
 | .room sz _ => [c = B0 + n, mlN len sz ≤ r.cs.length, 0 < sz]
 | .held m => [c = B0 + n, len ≤ m]
 | _ => [len ≤ c ∧ c ≤ 9223372036854775807]
def rdC (h : Hp) (n len c : Nat) : List Prop := match lk h n with
 | some r => capL r n len c
 | none => [False]
def rdA (h : Hp) : Pt → Value → Option (Av × List Prop)
 | .f, v => bif flat1 v then some (.fl v, []) else none
 | .s size, .slice none l c => bif Nat.beq l 0 && Nat.beq c 0 then some (.fl (.slice none 0 0), []) else none
 | .s size, .slice (some ⟨n, o, none⟩) len c => match rdS h size n o len with
  | some (xs, ob) => some (.sl xs len, rdC h n len c ++ ob)
  | none => none
 | .c size, .slice (some ⟨n, o, none⟩) len cap => match rdS h size n o cap with
  | some (xs, ob) => some (.sc xs len cap, (cap ≤ 9223372036854775807) :: ob)
  | none => none
 | .a size, .agg cs => match Lc cs.toList with
  | some (pre, .slice (some ⟨n, o, none⟩) len c) => match rdS h size n o len with
   | some (xs, ob) => bif D5 pre then some (.ag pre xs len, rdC h n len c ++ ob) else none
   | none => none
  | some (pre, .slice none l c) => bif D5 pre && (Nat.beq l 0 && Nat.beq c 0) then some (.fl (.agg cs), []) else none
  | _ => none
 | _, _ => none
def rdAs (h : Hp) : List Pt → List Value → Option (List Av × List Prop)
 | [], [] => some ([], [])
 | p :: ps, v :: vs => match rdA h p v, rdAs h ps vs with
  | some (a, o1), some (as, o2) => some (a :: as, o1 ++ o2)
  | _, _ => none
 | _, _ => none
def Lies (w : World) (a : Av) (q : Option (Addr × Nat)) : Prop := ∀ (ad : Addr) (c : Nat), q = some (ad, c) → avCs a = [] ∨ (ad.block < w.heap.size ∧ ∀ i x, (avCs a)[i]? = some x → w.cell? ⟨ad.block, ad.off + i, none⟩ = some x)
theorem Kv {w : World} {b o : Nat} {x : Value} (h : w.cell? ⟨b, o, none⟩ = some x) : b < w.heap.size := by
 rcases Nat.lt_or_ge b w.heap.size with h1 | h1
 ·exact h1
 ·simp [World.cell?, Array.getElem?_eq_none h1] at h
theorem lies_of {w : World} {a : Av} {ad : Addr} (h : ∀ i x, (avCs a)[i]? = some x → w.cell? ⟨ad.block, ad.off + i, none⟩ = some x) : avCs a = [] ∨ (ad.block < w.heap.size ∧ ∀ i x, (avCs a)[i]? = some x → w.cell? ⟨ad.block, ad.off + i, none⟩ = some x) := by
 cases he : avCs a with
 | nil => exact .inl rfl
 | cons x l => rw [he] at h; exact .inr ⟨Kv (h 0 x rfl), h⟩
theorem rdS_ok {h : Hp} {size n o len : Nat} {xs : List Value} {ob : List Prop} (hs : rdS h size n o len = some (xs, ob)) (ho : Alls ob) : (Fl xs ∧ ∃ r, lk h n = some r ∧ xs = (r.cs.drop o).take xs.length) ∧ xs.length = len * size := by
 unfold rdS at hs
 split at hs
 ·rename_i r hl
  simp only [oI, pI] at hs
  obtain ⟨rfl, rfl⟩ := hs
  have h1 := ho.1
  have h2 := ho.2.1
  simp only [Iq, E6, Jx] at h1 h2 ⊢
  have : ((r.cs.drop o).take (len * size)).length = len * size := by simp; omega
  refine ⟨⟨h2, r, hl, ?_⟩, this⟩
  rw [this]
 ·cases hs
theorem La {W : World} {σ : Sg} {h : Hp} {w : World} (hR : Rl W σ h w) {size n o len : Nat} {xs : List Value} {ob : List Prop} (hs : rdS h size n o len = some (xs, ob)) (ho : Alls ob) : ∃ p, σ.b n = some p ∧ ∀ i x, xs[i]? = some x → w.cell? ⟨p.1, p.2 + o + i, none⟩ = some x := by
 obtain ⟨⟨h1, r, hl, h2⟩, h3⟩ := rdS_ok hs ho
 obtain ⟨p, vs, e1, e2, e3⟩ := hR.cell hl
 refine ⟨p, e1, fun i x hx => ?_⟩
 have h4 := Dw xs.length (Cr o e2)
 rw [← h2, h1 σ] at h4
 have h5 := Option.some.inj h4
 rw [h5, List.getElem?_take] at hx
 split at hx
 ·rw [List.getElem?_drop] at hx
  rw [Nat.add_assoc]
  exact e3 _ _ hx
 ·cases hx
theorem rdC_world {W : World} {σ : Sg} {h : Hp} {w : World} (hR : Rl W σ h w) {n len c c' : Nat} (hc : Alls (rdC h n len c)) (hr : cpR σ c = some c') : len ≤ c' ∧ c' ≤ 9223372036854775807 := by
 unfold rdC at hc
 split at hc
 case h_2 => exact hc.1.elim
 rename_i r hl
 unfold capL at hc
 split at hc
 ·rename_i sz z hk
  obtain ⟨rfl, hle, hs, _⟩ := hc
  rw [E6] at hle
  rw [Bq] at hr
  obtain ⟨b, s, vs, e1, e2, e3⟩ := hR.row _ _ hl
  rw [hk] at e3
  obtain ⟨_, _, t, rest, k, e4, e5, e6, e7, _⟩ := e3
  rw [hr] at e4
  cases e4
  have hv := Bn e2
  refine ⟨?_, by unfold maxLen at e7; omega⟩
  have : len * sz ≤ c' * sz := by rw [← e6, List.length_append, hv]; omega
  exact Nat.le_of_mul_le_mul_right this hs
 ·rename_i m hk
  obtain ⟨rfl, hle, _⟩ := hc
  rw [Bq] at hr
  obtain ⟨b, s, vs, e1, e2, e3⟩ := hR.row _ _ hl
  rw [hk] at e3
  obtain ⟨_, _, t, rest, fr, k, e4, e5, e6, e7⟩ := e3
  rw [hr] at e4
  cases e4
  exact ⟨Nat.le_trans hle e6, by unfold maxLen at e7; omega⟩
 ·obtain ⟨⟨h1, h2⟩, _⟩ := hc
  unfold cpR at hr
  rw [if_pos (by unfold B0; omega)] at hr
  cases hr
  exact ⟨h1, h2⟩
def AvP : Pt → Av → Prop
 | .f, .fl v => ∀ σ, renV σ v = some v
 | .s size, .sl xs len => Fl xs ∧ xs.length = len * size
 | .s _, .fl v => v = .slice none 0 0
 | .a size, .ag pre xs len => Fl xs ∧ Fl pre ∧ xs.length = len * size
 | .a _, .fl v => ∃ pre, Fl pre ∧ v = .agg ⟨pre ++ [.slice none 0 0]⟩
 | .c size, .sc xs len cap => Fl xs ∧ xs.length = cap * size ∧ cap ≤ 9223372036854775807
 | _, _ => False
def AvPs : List Pt → List Av → Prop
 | [], [] => True
 | p :: ps, a :: as => AvP p a ∧ AvPs ps as
 | _, _ => False
theorem rdA_ok {h : Hp} {p : Pt} {v : Value} {a : Av} {ob : List Prop} (hr : rdA h p v = some (a, ob)) (ho : Alls ob) : AvP p a ∧ ∀ W σ w v', Rl W σ h w → renV σ v = some v' → ∃ q, AvAt a v' q ∧ Lies w a q := by
 unfold rdA at hr
 split at hr
 ·obtain ⟨hf, hr⟩ := Ba hr
  simp only [oI, pI] at hr
  obtain ⟨rfl, rfl⟩ := hr
  refine ⟨I5 hf, fun W σ w v' _ hv => ⟨none, ⟨?_, I5 hf, rfl⟩, fun ad c e => by cases e⟩⟩
  rw [I5 hf] at hv
  exact (Option.some.inj hv).symm
 ·obtain ⟨hf, hr⟩ := Ba hr
  simp only [Bool.and_eq_true] at hf
  simp only [oI, pI] at hr
  obtain ⟨rfl, rfl⟩ := hr
  obtain rfl := Nat.eq_of_beq_eq_true hf.1
  obtain rfl := Nat.eq_of_beq_eq_true hf.2
  refine ⟨rfl, fun W σ w v' _ hv => ⟨none, ⟨?_, fun σ => rfl, rfl⟩, fun ad c e => by cases e⟩⟩
  simp only [renV, oI] at hv
  exact hv.symm
 ·rename_i size n o len c
  split at hr
  ·rename_i xs ob' hs
   simp only [oI, pI] at hr
   obtain ⟨rfl, rfl⟩ := hr
   obtain ⟨hoc, ho⟩ := Bw.1 ho
   obtain ⟨⟨h1, h2⟩, h3⟩ := rdS_ok hs ho
   refine ⟨⟨h1, h3⟩, fun W σ w v' hR hv => ?_⟩
   rcases B7 hv with ⟨p, c', hp, hc, rfl, _⟩ | ⟨_, rfl, hc, rfl⟩
   case inr =>
    have hx0 : xs = [] := List.eq_nil_of_length_eq_zero (h3.trans (Nat.zero_mul _))
    subst hx0
    exact ⟨emp _, ⟨_, 0, rfl, .inr ⟨_, rfl, rfl, rfl, rfl, rfl⟩, h1, by omega, by omega⟩, fun ad cc _ => .inl rfl⟩
   obtain ⟨p', hp', hcell⟩ := La hR hs ho
   rw [hp] at hp'
   cases hp'
   obtain ⟨g1, g2⟩ := rdC_world hR hoc hc
   exact ⟨_, ⟨_, _, rfl, .inl ⟨_, _, rfl, rfl, by unfold B0; omega⟩, h1, g1, g2⟩, fun ad cc e => by cases e; exact lies_of hcell⟩
  ·cases hr
 ·split at hr
  ·rename_i xs ob' hs
   simp only [oI, pI] at hr
   obtain ⟨rfl, rfl⟩ := hr
   obtain ⟨⟨h1, h2⟩, h3⟩ := rdS_ok hs ho.2
   refine ⟨⟨h1, h3, ho.1⟩, fun W σ w v' hR hv => ?_⟩
   have hcb := ho.1
   rcases B7 hv with ⟨p, c', hp, hc, rfl, _⟩ | ⟨_, rfl, hc, rfl⟩
   case inr =>
    unfold cpR at hc
    rw [if_pos (by unfold B0; omega)] at hc
    cases hc
    have hx0 : xs = [] := List.eq_nil_of_length_eq_zero (h3.trans (Nat.zero_mul _))
    subst hx0
    exact ⟨emp _, ⟨_, rfl, .inr ⟨_, rfl, rfl, rfl, rfl, rfl⟩, h1, by omega, Nat.le_refl _⟩, fun ad cc _ => .inl rfl⟩
   obtain ⟨p', hp', hcell⟩ := La hR hs ho.2
   rw [hp] at hp'
   cases hp'
   unfold cpR at hc
   rw [if_pos (by unfold B0; omega)] at hc
   cases hc
   exact ⟨_, ⟨_, rfl, .inl ⟨_, _, rfl, rfl, by unfold B0; omega⟩, h1, hcb, Bx hR.wf hv⟩, fun ad cc e => by cases e; exact lies_of hcell⟩
  ·cases hr
 ·rename_i size cs
  split at hr
  ·rename_i pre n o len c hl
   split at hr
   ·rename_i xs ob' hs
    obtain ⟨hf, hr⟩ := Ba hr
    simp only [oI, pI] at hr
    obtain ⟨rfl, rfl⟩ := hr
    obtain ⟨hoc, ho⟩ := Bw.1 ho
    obtain ⟨⟨h1, h2⟩, h3⟩ := rdS_ok hs ho
    refine ⟨⟨h1, Fl.of hf, h3⟩, fun W σ w v' hR hv => ?_⟩
    have hcs := Jo hl
    obtain ⟨cs', rfl, hcs'⟩ := Cq hv
    rw [hcs] at hcs'
    obtain ⟨p', hp', hcell⟩ := La hR hs ho
    have hpre := Cj σ hf
    have hsl : ∃ u, renV σ (.slice (some ⟨n, o, none⟩) len c) = some u ∧ cs'.toList = pre ++ [u] := by
     cases hu : renV σ (.slice (some ⟨n, o, none⟩) len c) with
     | none =>
      exfalso
      have hd := Cr pre.length hcs'
      simp only [List.drop_left, renL, hu] at hd
      cases hd
     | some u =>
      have : renL σ (pre ++ [.slice (some ⟨n, o, none⟩) len c]) = some (pre ++ [u]) := C7 hpre (Bi hu rfl)
      rw [hcs'] at this
      exact ⟨u, rfl, Option.some.inj this⟩
    obtain ⟨u, hu, hcu⟩ := hsl
    rcases B7 hu with ⟨p, c', hp, hc, rfl, _⟩ | ⟨_, rfl, hc, rfl⟩
    case inr =>
     have hx0 : xs = [] := List.eq_nil_of_length_eq_zero (h3.trans (Nat.zero_mul _))
     subst hx0
     refine ⟨emp (σ.e n), ⟨_, 0, ?_, .inr ⟨_, rfl, rfl, rfl, rfl, rfl⟩, h1, Fl.of hf, by omega, by omega⟩, fun ad cc _ => .inl rfl⟩
     rw [← hcu]
    rw [hp] at hp'
    cases hp'
    obtain ⟨g1, g2⟩ := rdC_world hR hoc hc
    refine ⟨_, ⟨_, _, ?_, .inl ⟨_, _, rfl, rfl, by unfold B0; omega⟩, h1, Fl.of hf, g1, g2⟩, fun ad cc e => by cases e; exact lies_of hcell⟩
    rw [← hcu]
   ·cases hr
  ·rename_i pre l c hl
   obtain ⟨hf, hr⟩ := Ba hr
   simp only [Bool.and_eq_true] at hf
   simp only [oI, pI] at hr
   obtain ⟨rfl, rfl⟩ := hr
   obtain rfl := Nat.eq_of_beq_eq_true hf.2.1
   obtain rfl := Nat.eq_of_beq_eq_true hf.2.2
   have hcs := Jo hl
   have hren : ∀ σ, renV σ (.agg cs) = some (.agg cs) := fun σ => Ct (by rw [hcs]; exact C7 (Cj σ hf.1) rfl)
   refine ⟨⟨pre, Fl.of hf.1, by rw [← hcs]⟩, fun W σ w v' _ hv => ⟨none, ⟨?_, hren, rfl⟩, fun ad c e => by cases e⟩⟩
   rw [hren] at hv
   exact (Option.some.inj hv).symm
  ·cases hr
 ·cases hr
theorem rdAs_ok {h : Hp} : ∀ {ps : List Pt} {vs : List Value} {as : List Av} {ob : List Prop}, rdAs h ps vs = some (as, ob) → Alls ob → AvPs ps as ∧ ∀ W σ w vs', Rl W σ h w → renL σ vs = some vs' → ∃ qs, D6 as vs' qs ∧ ∀ (j : Nat) (a : Av) (q : Option (Addr × Nat)), as[j]? = some a → qs[j]? = some q → Lies w a q
 | [], [], as, ob, hr, _ => by
   simp only [rdAs, oI, pI] at hr
   obtain ⟨rfl, rfl⟩ := hr
   refine ⟨trivial, fun W σ w vs' _ hv => ?_⟩
   simp only [renL, oI] at hv
   subst hv
   exact ⟨[], trivial, fun j a q h => by simp at h⟩
 | p :: ps, v :: vs, as, ob, hr, ho => by
   simp only [rdAs] at hr
   split at hr
   ·rename_i a o1 as' o2 h1 h2
    simp only [oI, pI] at hr
    obtain ⟨rfl, rfl⟩ := hr
    obtain ⟨g1, g2⟩ := Bw.1 ho
    obtain ⟨a3, a1⟩ := rdA_ok h1 g1
    obtain ⟨b3, b1⟩ := rdAs_ok h2 g2
    refine ⟨⟨a3, b3⟩, fun W σ w vs' hR hv => ?_⟩
    obtain ⟨v1, vs1, e1, e2, rfl⟩ := B9 hv
    obtain ⟨q, x1, x2⟩ := a1 W σ w v1 hR e1
    obtain ⟨qs, y1, y2⟩ := b1 W σ w vs1 hR e2
    refine ⟨q :: qs, ⟨x1, y1⟩, fun j x y hx hy => ?_⟩
    cases j with
    | zero => simp only [List.getElem?_cons_zero, oI] at hx hy; subst hx; subst hy; exact x2
    | succ j => exact y2 j x y (by simpa using hx) (by simpa using hy)
   ·cases hr
 | [], _ :: _, _, _, h, _ => by simp [rdAs] at h
 | _ :: _, [], _, _, h, _ => by simp [rdAs] at h
structure Gr where
 v : Nat → Value
 rows : List Rw
abbrev Ji := List Av → Tape → Option (Gr × Tape × List Prop)
def rowsN (nx : Nat) : List Rw → Hp → Hp
 | [], h => h
 | r :: rs, h => rowsN (nx + 1) rs ((nx, r) :: h)
abbrev TFun := FuncId → List Value → Hp → Nat → Tape → Option (Res (Out × Tape × List Prop))
def mkT (f0 : FuncId) (ps : List Pt) (G : Ji) : TFun := fun f args h nx tp => bif Nat.beq f f0 then some (match rdAs h ps args with
 | some (as, o1) => (match G as tp with
  | some (gr, tp', o2) => .ok ((gr.v nx, rowsN nx gr.rows h, nx + gr.rows.length, []), tp', o1 ++ o2)
  | none => .no)
 | none => .no) else none
def f2s (nx k : Nat) (g : Nat → Nat) : Sg := ⟨fun n => if nx ≤ n ∧ n < nx + k then some (g (n - nx), 0) else none, fun n => if nx ≤ n ∧ n < nx + k then some (B0 + g (n - nx)) else none, fun _ => some ([], []), fun _ => none, false⟩
structure GrIs (gr : Gr) (v0 : Value) (h0' : Hp) (g : Nat → Nat) : Prop where
 v : ∀ nx, renV (f2s nx gr.rows.length g) (gr.v nx) = some v0
 rows : ∀ j r, gr.rows[j]? = some r → Fl r.cs ∧ plainKd r.kd = true ∧ r.kd ≠ .old ∧ lk h0' (g j) = some r
 inj : ∀ i j, i < gr.rows.length → j < gr.rows.length → g i = g j → i = j
def GOk (P : Program) (f0 : FuncId) (ps : List Pt) (G : Ji) : Prop := ∀ as tp gr tp' ob, G as tp = some (gr, tp', ob) → Alls ob → AvPs ps as → ∀ cs, Dr as cs → ∃ v0 h0' nx0' d0 g, Tri P f0 (canV as cs 0) (canH as 0) as.length (v0, h0', nx0', d0) ∧ GrIs gr v0 h0' g
theorem Ha : ∀ {rs : List Rw} {nx n : Nat} {h : Hp}, lk (rowsN nx rs h) n = if nx ≤ n ∧ n < nx + rs.length then rs[n - nx]? else lk h n
 | [], nx, n, h => by simp only [rowsN, List.length_nil, Nat.add_zero]; rw [if_neg (by omega)]
 | r :: rs, nx, n, h => by
   simp only [rowsN]
   rw [Ha, B3]
   simp only [List.length_cons]
   by_cases h1 : nx = n
   ·subst h1
    rw [if_neg (by omega), if_pos rfl, if_pos (by omega)]; simp
   ·by_cases h2 : nx + 1 ≤ n ∧ n < nx + 1 + rs.length
    ·rw [if_pos h2, if_pos (by omega), show n - nx = (n - (nx + 1)) + 1 by omega, List.getElem?_cons_succ]
    ·rw [if_neg h2, if_neg h1, if_neg (by omega)]
theorem mkT_ok {P : Program} {f0 : FuncId} {ps : List Pt} {G : Ji} (H : GOk P f0 ps G) {f : FuncId} {args : List Value} {h : Hp} {nx : Nat} {tp tp' : Tape} {out : Out} {ob : List Prop} (e : mkT f0 ps G f args h nx tp = some (.ok (out, tp', ob))) (ho : Alls ob) : Tri P f args h nx out := by
 unfold mkT at e
 rcases Be e with ⟨hf, e1⟩ | ⟨_, e1⟩
 case inr => cases e1
 clear e
 obtain rfl := Nat.eq_of_beq_eq_true hf
 have e := Option.some.inj e1
 clear e1
 split at e
 case h_2 => cases e
 rename_i as o1 hr
 split at e
 case h_2 => cases e
 rename_i gr tp2 o2 hG
 simp only [Res.ok.injEq, pI] at e
 obtain ⟨rfl, rfl, rfl⟩ := e
 obtain ⟨g1, g2⟩ := Bw.1 ho
 obtain ⟨hP, hA⟩ := rdAs_ok hr g1
 refine Tri.adopt (k := gr.rows.length) (fun n hn => ?_) (fun n r hn hlk => ?_) fun W σ w args' hR ha => ?_
 ·rw [Ha, if_neg (by omega)]
 ·rw [Ha] at hlk
  split at hlk
  ·rename_i hc; exact .inr hc.2
  ·exact .inl hlk
 obtain ⟨qs, hAt, hL⟩ := hA W σ w args' hR ha
 obtain ⟨h1, h2, h3, h4⟩ := can_rl hAt (W := w) fun j ad c hj => by
  have hlen := avs_len hAt
  have hlt := (List.getElem?_eq_some_iff.1 hj).1
  obtain ⟨a, haj⟩ : ∃ a, as[j]? = some a := ⟨_, List.getElem?_eq_getElem (by omega)⟩
  intro a' ha'
  rw [haj] at ha'
  cases ha'
  exact hL j a _ haj hj ad c rfl
 obtain ⟨v0, h0', nx0', d0, g, T, I⟩ := H _ _ _ _ _ hG g2 hP _ (avs_caps hAt)
 refine ⟨sgP qs 0, _, _, _, v0, h0', nx0', d0, fun n => g (n - nx), f2s nx gr.rows.length g, h1, h3, h2, h4, T, fun n m o e => ?_, fun n q e => ?_, (fun n e => by simp [f2s] at e), fun n r hn hn2 hlk _ => ?_, fun n m a1 a2 b1 b2 e => ?_, I.v nx⟩
 ·simp only [f2s] at e
  split at e
  ·rename_i hc; cases e; exact ⟨hc.1, hc.2, rfl, rfl⟩
  ·cases e
 ·simp only [f2s] at e
  split at e
  ·rename_i hc; cases e; exact ⟨hc.1, hc.2, rfl⟩
  ·cases e
 ·rw [Ha, if_pos ⟨hn, hn2⟩] at hlk
  obtain ⟨i1, i2, i3, i4⟩ := I.rows _ _ hlk
  exact ⟨r, i4, rfl, adKd_of i2 i3, i1 _⟩
 ·have := I.inj (n - nx) (m - nx) (by omega) (by omega) e
  omega
theorem GrIs.flat {v : Value} {h0' : Hp} (hv : ∀ σ, renV σ v = some v) : GrIs ⟨fun _ => v, []⟩ v h0' (fun n => n) := ⟨fun nx => hv _, fun j r h => by simp at h, fun i j h => by simp at h⟩
theorem Lf {nx k j : Nat} {g : Nat → Nat} (hj : j < k) (len : Nat) : renV (f2s nx k g) (.slice (some ⟨nx + j, 0, none⟩) len (B0 + (nx + j))) = some (.slice (some ⟨g j, 0, none⟩) len (B0 + g j)) := by
 have h : nx ≤ nx + j ∧ nx + j < nx + k := by omega
 have hb : (f2s nx k g).b (nx + j) = some (g j, 0) := by simp only [f2s, if_pos h, Nat.add_sub_cancel_left]
 have hc : cpR (f2s nx k g) (B0 + (nx + j)) = some (B0 + g j) := by rw [Bq]; simp only [f2s, if_pos h, Nat.add_sub_cancel_left]
 simpa using B5 (l := len) (o := 0) hb hc (by simp [f2s]) (.inl rfl)
theorem f2s_slice0 {nx k : Nat} {g : Nat → Nat} (hk : 0 < k) (len : Nat) : renV (f2s nx k g) (.slice (some ⟨nx, 0, none⟩) len (B0 + nx)) = some (.slice (some ⟨g 0, 0, none⟩) len (B0 + g 0)) := Lf (j := 0) hk len
def noTz : TFun := fun _ _ _ _ _ => none
def orTz (a b : TFun) : TFun := fun f args h nx tp => match a f args h nx tp with | some r => some r | none => b f args h nx tp
def Cv (P : Program) (T : TFun) : Prop := ∀ f args h nx tp out tp' ob, T f args h nx tp = some (.ok (out, tp', ob)) → Alls ob → Tri P f args h nx out
theorem C4 {P : Program} {a b : TFun} (ha : Cv P a) (hb : Cv P b) : Cv P (orTz a b) := fun f args h nx tp out tp' ob e ho => by
 unfold orTz at e
 split at e
 ·rename_i r hr; cases e; exact ha _ _ _ _ _ _ _ _ hr ho
 ·exact hb _ _ _ _ _ _ _ _ e ho
theorem Kh {P : Program} {f0 : FuncId} {ps : List Pt} {G : Ji} (H : GOk P f0 ps G) : Cv P (mkT f0 ps G) := fun f args h nx tp out tp' ob e ho => mkT_ok H e ho
def noXz : FuncId → List Value → Hp → Option (Value × List Prop) := fun _ _ _ => none
def noSy : FuncId → Nat → Option Nat := fun _ _ => none
def allSy (f0 : FuncId) (l : List (Nat × Nat)) : FuncId → Nat → Option Nat := fun f s => bif Nat.beq f f0 then (match mdOf l s with | some m => some m | none => some 0) else none
def orSy (a b : FuncId → Nat → Option Nat) : FuncId → Nat → Option Nat := fun f s => match a f s with | some m => some m | none => b f s
def lsSy (f0 : FuncId) (l : List (Nat × Nat)) : FuncId → Nat → Option Nat := fun f s => bif Nat.beq f f0 then mdOf l s else none
def tbl {α : Type} (f0 : FuncId) (l : List α) : FuncId → List α := fun f => bif Nat.beq f f0 then l else []
def Jw {α : Type} (pick : List (Nat × Value) → Hp → Option α) (S : α → List (Nat × Value) × Hp × Nat) (out : α → Tape → Option ((Xt × List (Nat × Value) × Hp × Nat × List Nat) × Tape × List Prop)) : I9 := fun live h nx tp => match pick live h with
 | some a => (match out a tp with
  | some (o, tp', ob) => some (o, tp', (live = (S a).1) :: (h = (S a).2.1) :: (nx = (S a).2.2) :: ob)
  | none => none)
 | none => none
theorem Eo {P : Program} {n : Nat} {ks : List Nat} {body : Code} {α : Type} {pick : List (Nat × Value) → Hp → Option α} {S : α → List (Nat × Value) × Hp × Nat} {out : α → Tape → Option ((Xt × List (Nat × Value) × Hp × Nat × List Nat) × Tape × List Prop)}
  (H : ∀ a tp xt l2 h2 nx2 d tp' ob, out a tp = some ((xt, l2, h2, nx2, d), tp', ob) → Alls ob → ∀ inr ts, ts.n = n → getS ks ts = some (S a).1 → Runs inr (fun F m Q => Code.againIn F m P body Q) ts (S a).2.1 (S a).2.2 (xt, SL n l2, h2, nx2, d, [])) : LSOk P n ks body (Jw pick S out) := by
 intro live h nx tp xt l2 h2 nx2 d tp' ob hs ho inr ts hn hg
 unfold Jw at hs
 split at hs
 case h_2 => cases hs
 rename_i a ha
 split at hs
 case h_2 => cases hs
 rename_i o tp2 ob2 hout
 simp only [oI, pI] at hs
 obtain ⟨rfl, rfl, rfl⟩ := hs
 obtain ⟨rfl, rfl, rfl, ho⟩ := ho
 exact H a tp _ _ _ _ _ _ _ hout ho inr ts hn hg
theorem H0 {h h' : Hp} {nx nx' : Nat} {d : List Nat} (h1 : nx ≤ nx') (h2 : ∀ n, n < nx → n ∉ d → lk h' n = lk h n) (h3 : bdB h' nx' = true) : Tidy h nx h' nx' d := ⟨h1, h2, fun _ => Ln h3⟩
end Go.Proofs.Ytojakfnljopjbaa
