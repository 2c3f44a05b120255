/-
  Contracts whose results may lie in older memory: a run at names of its own, over the same base.
-/
import Derived.Test.YtmoflcoijmmpjaaGrAR
import Derived.Test.YtmoflcoijmmpjaaGrAU
import Derived.Test.YtmoflcoijmmpjaaGrAS
import Derived.Test.YtmoflcoijmmpjaaGrAQ
import Derived.WalkKit
import Derived.ProofKit
import Derived.OpenShut
import Derived.Lib.SmallJoins
import Derived.JoinedCond
import Derived.Carry
namespace Go.Proofs.Ytmoflcoijmmpjaa
set_option linter.unusedSimpArgs false
set_option linter.unusedVariables false
set_option linter.unusedSectionVars false
open Go Go.RowKit
def adKo : Kd → Bool
 | .shut => true
 | .room _ _ => true
 | .lent => true
 | .held _ => true
 | .mp _ => true
 | .of => true
 | .df _ _ _ => true
 | .ow => true
 | .sw _ => true
 | .dw _ _ _ => true
 | _ => false
theorem Tri.adoptW {P : Program} {f : FuncId} {args : List Value} {h : Hp} {nx k : Nat} {v : Value} {H : Hp} (hH : ∀ n, n < nx → lk H n = lk h n) (hHb : ∀ n r, nx ≤ n → lk H n = some r → lk h n = some r ∨ n < nx + k)
  (hw : ∀ W σ w args', Rl W σ h w → renL σ args = some args' → ∃ (σ0 : Sg) (args0 : List Value) (h0 : Hp) (nx0 : Nat) (v0 : Value) (h0' : Hp) (nx0' : Nat) (d0 : List Nat) (g : Nat → Nat) (f2 : Sg),
   Rl W σ0 h0 w ∧ ((∀ n r, lk h0 n = some r → ¬ r.own) ∧ (∀ n, sh σ0 n = []) ∧ ∀ n, ex σ0 n = []) ∧ (∀ n, nx0 ≤ n → σ0.b n = none ∧ σ0.c n = none) ∧ Bd h0 nx0 ∧ renL σ0 args0 = some args' ∧ Tri P f args0 h0 nx0 (v0, h0', nx0', d0) ∧
   (∀ n m o, f2.b n = some (m, o) → nx ≤ n ∧ n < nx + k ∧ m = g n ∧ o = 0) ∧ (∀ n q, f2.c n = some q → nx ≤ n ∧ n < nx + k ∧ q = capBig + g n) ∧ (∀ n, f2.f n ≠ none) ∧
   (∀ n r, nx ≤ n → n < nx + k → lk H n = some r → lk h n = none → ∃ s, lk h0' (g n) = some s ∧ s.kd = r.kd ∧ adKo r.kd = true ∧ renL f2 r.cs = some s.cs) ∧
   (∀ n m, nx ≤ n → n < nx + k → nx ≤ m → m < nx + k → g n = g m → n = m) ∧ renV f2 v = some v0) : Tri P f args h nx (v, H, nx + k, []) := by
 refine ⟨⟨Nat.le_add_right _ _, fun n hn _ => hH n hn, fun hB n hn => ?_⟩, fun hB W σ w args' hR hf ha' => ?_⟩
 ·cases hl : lk H n with
  | none => rfl
  | some r =>
   simp only at hn
   rcases hHb n r (by omega) hl with h1 | h1
   ·rw [hB n (by omega)] at h1; cases h1
   ·omega
 simp only at hf
 obtain ⟨σ0, args0, h0, nx0, v0, h0', nx0', d0, g, f2, hR0, ⟨hno, hsh0, hex0⟩, hfr, hB0, hargs, T, hf2b, hf2c, hf2f, hrow, hg, hv⟩ := hw W σ w args' hR ha'
 refine (T.2 hB0 W σ0 w args' hR0 (fun n h1 _ => hfr n h1) hargs).mono ?_
 rintro e w' ⟨σ', v', S, hv', rfl⟩
 have hblk : ∀ b, b < w.heap.size → w'.heap[b]? = w.heap[b]? := fun b hb => S.fr b hb (fun n r p hl ho _ => (hno n r hl ho).elim) fun n r _ hk => by rw [hex0] at hk; cases hk
 have hx : Ext w w' := ⟨S.rl.ext.os.trans hR.ext.os.symm, S.rl.ext.tape.trans hR.ext.tape.symm, S.rl.ext.output.trans hR.ext.output.symm, S.size, hblk⟩
 obtain ⟨fk, hfk⟩ : ∃ fk : Nat → Bool, fk = fun n => match lk H n with | some r => isF r.kd | none => false := ⟨_, rfl⟩
 obtain ⟨τ, hτ⟩ : ∃ τ : Sg, τ = ⟨fun n => if nx ≤ n ∧ n < nx + k then σ'.b (g n) else σ.b n, fun n => if nx ≤ n ∧ n < nx + k then σ'.c (g n) else σ.c n, fun n => if nx ≤ n ∧ n < nx + k then (σ'.f (g n)).map (fun F => (bif fk n then F.1 else [], [])) else σ.f n, fun n => if nx ≤ n ∧ n < nx + k then σ'.e (g n) else σ.e n, true⟩ := ⟨_, rfl⟩
 have tw : τ.w = true := by subst hτ; rfl
 have fn : ∀ n, nx ≤ n → n < nx + k → (τ.f n = none ↔ σ'.f (g n) = none) ∧ sh τ n = bif fk n then sh σ' (g n) else [] := fun n h1 h2 => by
  subst hτ
  simp only [sh, if_pos (And.intro h1 h2), Option.map_eq_none_iff, true_and]
  cases σ'.f (g n) <;> cases fk n <;> rfl
 have xn : ∀ n, nx ≤ n → n < nx + k → ex τ n = [] := fun n h1 h2 => by
  subst hτ
  simp only [ex, if_pos (And.intro h1 h2)]
  cases σ'.f (g n) <;> rfl
 have en : ∀ n, nx ≤ n → n < nx + k → τ.e n = σ'.e (g n) := fun n h1 h2 => by subst hτ; simp only [if_pos (And.intro h1 h2)]
 have eo_ : ∀ n, ¬ (nx ≤ n ∧ n < nx + k) → τ.e n = σ.e n := fun n h1 => by subst hτ; simp only [if_neg h1]
 have fo_ : ∀ n, ¬ (nx ≤ n ∧ n < nx + k) → τ.f n = σ.f n := fun n h1 => by subst hτ; simp only [if_neg h1]
 have tn : ∀ n, nx ≤ n → n < nx + k → τ.b n = σ'.b (g n) ∧ τ.c n = σ'.c (g n) := fun n h1 h2 => by subst hτ; simp only [if_pos (And.intro h1 h2), and_self]
 have to_ : ∀ n, ¬ (nx ≤ n ∧ n < nx + k) → τ.b n = σ.b n ∧ τ.c n = σ.c n := fun n h1 => by subst hτ; simp only [if_neg h1, and_self]
 have hle : σ.le τ := by
  refine ⟨fun n p e => ?_, fun n p e => ?_, fun n p e => ?_⟩
  rotate_left 2
  ·by_cases h1 : nx ≤ n ∧ n < nx + k
   ·rw [(hf n h1.1 h1.2).1] at e; cases e
   ·exact ⟨(to_ n h1).2, fo_ n h1, eo_ n h1, tw.trans hR.wf.symm⟩
  ·by_cases h1 : nx ≤ n ∧ n < nx + k
   ·rw [(hf n h1.1 h1.2).1] at e; cases e
   ·rw [(to_ n h1).1]; exact e
  ·by_cases h1 : nx ≤ n ∧ n < nx + k
   ·rw [(hf n h1.1 h1.2).2] at e; cases e
   ·rw [(to_ n h1).2]; exact e
 have b2 : ∀ n m o p, f2.b n = some (m, o) → σ'.b m = some p → τ.b n = some (p.1, p.2 + o) := fun n m o p e1 e2 => by
  obtain ⟨a1, a2, rfl, rfl⟩ := hf2b n m o e1
  rw [(tn n a1 a2).1]; exact e2
 have c2 : ∀ n q j, f2.c n = some q → cpR σ' q = some j → τ.c n = some j := fun n q j e1 e2 => by
  obtain ⟨a1, a2, rfl⟩ := hf2c n q e1
  rw [cpR_big] at e2
  rw [(tn n a1 a2).2]; exact e2
 have n2 : ∀ n m o, f2.b n = some (m, o) → f2.f n ≠ none ∧ (τ.f n = none ↔ σ'.f m = none) ∧ τ.e n = σ'.e m ∧ τ.w = σ'.w := fun n m o e1 => by
  obtain ⟨a1, a2, rfl, rfl⟩ := hf2b n m o e1
  exact ⟨hf2f n, (fn n a1 a2).1, en n a1 a2, tw.trans S.rl.wf.symm⟩
 have cls : ∀ n r, lk H n = some r → (lk h n = some r ∧ n < nx) ∨ (nx ≤ n ∧ n < nx + k ∧ ∃ s, lk h0' (g n) = some s ∧ s.kd = r.kd ∧ adKo r.kd = true ∧ renL f2 r.cs = some s.cs) := fun n r hl => by
  by_cases h1 : n < nx
  ·exact .inl ⟨by rw [← hH n h1]; exact hl, h1⟩
  ·rcases hHb n r (by omega) hl with h2 | h2
   ·rw [hB n (by omega)] at h2; cases h2
   ·exact .inr ⟨by omega, h2, hrow n r (by omega) h2 hl (hB n (by omega))⟩
 have newge : ∀ n s, lk h0' (g n) = some s → s.own → ∀ p, σ'.b (g n) = some p → w.heap.size ≤ p.1 := fun n s hl ho p hp => by
  rcases S.src _ _ _ hl ho hp with h1 | ⟨m, s0, q, h1, h2, _⟩
  ·exact h1
  ·exact (hno m s0 h1 h2).elim
 have newsh : ∀ n s kk, lk h0' n = some s → kk ∈ sh σ' n → w.heap.size ≤ kk := fun n s kk hl hk => by
  rcases S.ssrc _ _ _ hl hk with h1 | ⟨m, s0, q, h1, h2, _⟩ | ⟨m, s0, h1, h2⟩
  ·exact h1
  ·exact (hno m s0 h1 h2).elim
  ·rw [hsh0] at h2; cases h2
 have fsh : ∀ n r s, lk H n = some r → lk h0' (g n) = some s → s.kd = r.kd → nx ≤ n → n < nx + k → fk n = isF r.kd ∧ ∀ kk, kk ∈ sh τ n → kk ∈ sh σ' (g n) ∧ w.heap.size ≤ kk := fun n r s h1 h2 h3 h4 h5 => by
  have e : fk n = isF r.kd := by subst hfk; simp only [h1]
  refine ⟨e, fun kk hkk => ?_⟩
  rw [(fn n h4 h5).2, e] at hkk
  obtain ⟨b, c, vs, e1, e2, e3⟩ := S.rl.row _ _ h2
  rw [h3] at e3
  obtain ⟨kd, cs⟩ := r
  cases kd with
  | of => exact ⟨hkk, newsh _ _ _ h2 hkk⟩
  | df sz zz ds => exact ⟨hkk, newsh _ _ _ h2 hkk⟩
  | _ => cases hkk
 refine ⟨τ, v', ⟨hle, fun n hn => ?_, ⟨⟨hR.ext.trans hx, fun n r hl => ?_, fun n m r s p q hn hm ho hs hp hq e => ?_⟩, tw, fun n r hl ho => ?_, fun n r kk hl hkk => ?_, fun n r kk hl hkk => ?_⟩, hx.size, fun b hb _ _ => Below.block hx b hb, fun n r p hl ho hp => ?_, fun n r kk hl hkk => ?_, fun n r kk hl hkk => ?_⟩, renV_via b2 c2 n2 _ _ _ hv hv', rfl⟩
 ·simp only at hn
  exact to_ n (by omega)
 ·rcases cls n r hl with ⟨h1, h2⟩ | ⟨h1, h2, s, h3, h4, h5, h7⟩
  ·exact RowOk.ext hR h1 hx hle
  ·obtain ⟨b, c, vs, e1, e2, e3⟩ := S.rl.row _ _ h3
   refine ⟨b, c, vs, (tn n h1 h2).1.trans e1, renL_via b2 c2 n2 _ _ _ h7 e2, ?_⟩
   obtain ⟨ef, es⟩ := fsh n r s hl h3 h4 h1 h2
   have hst := (fn n h1 h2).2
   rw [h4] at e3
   obtain ⟨kd, cs⟩ := r
   simp only at e3 h5 ef ⊢
   have hW := hR.ext.size
   have hFk : ∀ {F : List Nat}, FOk W w' F → FOk W w' F := fun hh => hh
   cases kd with
   | shut => exact ⟨e3.1, e3.2.1, e3.2.2⟩
   | old => cases h5
   | lent => exact ⟨e3.1, e3.2.1, e3.2.2⟩
   | held m =>
    obtain ⟨g1, g2, t, rest, fr, j, g3, g4⟩ := e3
    exact ⟨g1, g2, t, rest, fr, j, (tn n h1 h2).2.trans g3, g4⟩
   | room size zz =>
    obtain ⟨g1, g2, t, rest, j, g3, g4⟩ := e3
    exact ⟨g1, g2, t, rest, j, (tn n h1 h2).2.trans g3, g4⟩
   | round st pe tm ps ak bd => cases h5
   | marks => cases h5
   | sd ds => cases h5
   | sw ds =>
    rw [ef] at hst
    unfold KdOk at e3 ⊢
    rw [show sh τ n = [] from hst]
    exact ⟨rfl, e3.2⟩
   | ox => cases h5
   | dx d2 size2 zz2 ds => cases h5
   | ow =>
    rw [ef] at hst
    unfold KdOk at e3 ⊢
    rw [show sh τ n = [] from hst]
    exact ⟨rfl, e3.2⟩
   | dp sz2 zz2 ds => cases h5
   | dw sz2 zz2 ds =>
    rw [ef] at hst
    obtain ⟨g0, g1, g2, g3, us, t, rest, j, g4, g5⟩ := e3
    unfold KdOk
    rw [show sh τ n = [] from hst]
    exact ⟨rfl, g1, g2, g3, us, t, rest, j, (tn n h1 h2).2.trans g4, g5⟩
   | of =>
    rw [ef] at hst
    unfold KdOk at e3 ⊢
    rw [show sh τ n = sh σ' (g n) from hst]
    exact ⟨hFk e3.1, e3.2⟩
   | df sz2 zz2 ds =>
    rw [ef] at hst
    obtain ⟨g0, g1, g2, g3, us, t, rest, j, g4, g5⟩ := e3
    unfold KdOk
    rw [show sh τ n = sh σ' (g n) from hst]
    exact ⟨hFk g0, g1, g2, g3, us, t, rest, j, (tn n h1 h2).2.trans g4, g5⟩
   | mp es => exact ⟨e3.1, e3.2.1, e3.2.2⟩
 ·rcases cls n r hn with ⟨a1, a2⟩ | ⟨a1, a2, s1, a3, a4, a5, a7⟩ <;> rcases cls m s hm with ⟨b1, b2'⟩ | ⟨b1, b2', s2, b3, b4, b5, b7⟩
  ·rw [(to_ n (by omega)).1] at hp
   rw [(to_ m (by omega)).1] at hq
   exact hR.inj n m r s p q a1 b1 ho hs hp hq e
  ·rw [(to_ n (by omega)).1] at hp
   rw [(tn m b1 b2').1] at hq
   have h1 := hR.lt a1 ho hp
   have h2 := newge m s2 b3 (by unfold Rw.own; rw [b4]; exact hs) q hq
   omega
  ·rw [(tn n a1 a2).1] at hp
   rw [(to_ m (by omega)).1] at hq
   have h1 := hR.lt b1 hs hq
   have h2 := newge n s1 a3 (by unfold Rw.own; rw [a4]; exact ho) p hp
   omega
  ·rw [(tn n a1 a2).1] at hp
   rw [(tn m b1 b2').1] at hq
   exact hg n m a1 a2 b1 b2' (S.rl.inj _ _ s1 s2 p q a3 b3 (by unfold Rw.own; rw [a4]; exact ho) (by unfold Rw.own; rw [b4]; exact hs) hp hq e)
 ·rcases cls n r hl with ⟨a1, a2⟩ | ⟨a1, a2, s1, a3, a4, a5, a7⟩
  ·rw [fo_ n (by omega)]; exact hR.shr.1 n r a1 ho
  ·intro e0
   exact S.rl.shr.1 _ s1 a3 (by unfold Rw.own; rw [a4]; exact ho) ((fn n a1 a2).1.1 e0)
 ·rcases cls n r hl with ⟨a1, a2⟩ | ⟨a1, a2, s1, a3, a4, a5, a7⟩
  ·have hk2 : kk ∈ sh σ n := by unfold sh at hkk ⊢; rw [fo_ n (by omega)] at hkk; exact hkk
   obtain ⟨g1, g2⟩ := hR.shr.2.1 n r kk a1 hk2
   refine ⟨Nat.lt_of_lt_of_le g1 hx.size, fun m s q hm hs hq => ?_⟩
   rcases cls m s hm with ⟨b1, b2'⟩ | ⟨b1, b2', s2, b3, b4, b5, b7⟩
   ·rw [(to_ m (by omega)).1] at hq
    exact g2 m s q b1 hs hq
   ·rw [(tn m b1 b2').1] at hq
    have h2 := newge m s2 b3 (by unfold Rw.own; rw [b4]; exact hs) q hq
    omega
  ·obtain ⟨g1, g2⟩ := (fsh n r s1 hl a3 a4 a1 a2).2 kk hkk
   obtain ⟨g3, g4⟩ := S.rl.shr.2.1 _ s1 kk a3 g1
   refine ⟨g3, fun m s q hm hs hq => ?_⟩
   rcases cls m s hm with ⟨b1, b2'⟩ | ⟨b1, b2', s2, b3, b4, b5, b7⟩
   ·rw [(to_ m (by omega)).1] at hq
    have := hR.lt b1 hs hq
    omega
   ·rw [(tn m b1 b2').1] at hq
    exact g4 _ s2 q b3 (by unfold Rw.own; rw [b4]; exact hs) hq
 ·rcases cls n r hl with ⟨a1, a2⟩ | ⟨a1, a2, s1, a3, a4, a5, a7⟩
  ·have hk2 : kk ∈ ex σ n := by unfold ex at hkk ⊢; rw [fo_ n (by omega)] at hkk; exact hkk
   obtain ⟨g1, g2, g3⟩ := hR.shr.2.2 n r kk a1 hk2
   refine ⟨Nat.lt_of_lt_of_le g1 hx.size, fun m s q hm hs hq => ?_, fun m s hm => ?_⟩
   ·rcases cls m s hm with ⟨b1, b2'⟩ | ⟨b1, b2', s2, b3, b4, b5, b7⟩
    ·rw [(to_ m (by omega)).1] at hq
     exact g2 m s q b1 hs hq
    ·rw [(tn m b1 b2').1] at hq
     have h2 := newge m s2 b3 (by unfold Rw.own; rw [b4]; exact hs) q hq
     omega
   ·rcases cls m s hm with ⟨b1, b2'⟩ | ⟨b1, b2', s2, b3, b4, b5, b7⟩
    ·unfold sh ex
     rw [fo_ m (by omega)]
     exact g3 m s b1
    ·refine ⟨fun hm2 => ?_, fun hm2 => ?_⟩
     ·have := ((fsh m s s2 hm b3 b4 b1 b2').2 kk hm2).2; omega
     ·rw [xn m b1 b2'] at hm2; cases hm2
  ·rw [xn n a1 a2] at hkk; cases hkk
 ·rcases cls n r hl with ⟨a1, a2⟩ | ⟨a1, a2, s1, a3, a4, a5, a7⟩
  ·rw [(to_ n (by omega)).1] at hp
   exact .inr ⟨n, r, p, a1, ho, hp, rfl⟩
  ·rw [(tn n a1 a2).1] at hp
   exact .inl (newge n s1 a3 (by unfold Rw.own; rw [a4]; exact ho) p hp)
 ·rcases cls n r hl with ⟨a1, a2⟩ | ⟨a1, a2, s1, a3, a4, a5, a7⟩
  ·have hk2 : kk ∈ sh σ n := by unfold sh at hkk ⊢; rw [fo_ n (by omega)] at hkk; exact hkk
   exact .inr (.inr ⟨n, r, a1, hk2⟩)
  ·exact .inl ((fsh n r s1 hl a3 a4 a1 a2).2 kk hkk).2
 ·rcases cls n r hl with ⟨a1, a2⟩ | ⟨a1, a2, s1, a3, a4, a5, a7⟩
  ·have hk2 : kk ∈ ex σ n := by unfold ex at hkk ⊢; rw [fo_ n (by omega)] at hkk; exact hkk
   exact .inr (.inr ⟨n, r, a1, hk2⟩)
  ·rw [xn n a1 a2] at hkk; cases hkk
theorem DRs.old {W w w1 : World} {ds : List DV} {b s : Nat} (h : DRs W w [] b s ds) : DRs W w1 [] b s ds := DRs.keep (fun k hk => by cases hk) ds b s h
def rdO (h : Hp) : Pd → Value → Option (Dv × List Prop)
 | .f, v => bif flat1 v then some (.fl v, []) else none
 | .s, .slice none 0 0 => some (.sl [] 0, [])
 | .s, .slice (some ⟨n, 0, none⟩) len _ => (match lk h n with
  | some ⟨.ow, cs⟩ => some (.sl cs len, [(∀ τ, renL τ cs = some cs) ∧ (len = 0 → cs = [])])
  | _ => none)
 | .e _, .slice none 0 0 => some (.dl [] 0, [])
 | .e size, .slice (some ⟨n, o, none⟩) len _ => (match lk h n with
  | some ⟨.sw ds, _⟩ => some (.dl (cnL ((ds.drop o).take (mlN len size))) len, [])
  | _ => none)
 | _, _ => none
def rdOs (h : Hp) : List Pd → List Value → Option (List Dv × List Prop)
 | [], [] => some ([], [])
 | p :: ps, v :: vs => (match rdO h p v, rdOs h ps vs with
  | some (a, o1), some (aL, o2) => some (a :: aL, o1 ++ o2)
  | _, _ => none)
 | _, _ => none
theorem rdO_ok {h : Hp} {p : Pd} {v : Value} {a : Dv} {ob : List Prop} (hr : rdO h p v = some (a, ob)) (ho : Alls ob) {W : World} {σ : Sg} {w : World} {v' : Value} (hR : Rl W σ h w) (hv : renV σ v = some v') : ∃ c, a.at W v' c ∧ CapOk c a := by
 unfold rdO at hr
 split at hr
 ·obtain ⟨hf, hr⟩ := bif_of hr
  simp only [oI, pI] at hr
  obtain ⟨rfl, rfl⟩ := hr
  rw [flat1_ren hf] at hv
  exact ⟨0, ⟨(Option.some.inj hv).symm, flat1_ren hf⟩, trivial⟩
 ·simp only [oI, pI] at hr
  obtain ⟨rfl, rfl⟩ := hr
  simp only [renV, oI] at hv
  subst hv
  exact ⟨0, ⟨fun τ => rfl, DR.nil rfl rfl (.inl rfl)⟩, trivial⟩
 ·rename_i n len c
  split at hr
  case h_2 => cases hr
  rename_i cs hl
  simp only [oI, pI] at hr
  obtain ⟨rfl, rfl⟩ := hr
  obtain ⟨⟨h2, h3⟩, _⟩ := ho
  refine ⟨0, ⟨h2, ?_⟩, trivial⟩
  obtain ⟨b, s, vs, hb, hvs, hk⟩ := hR.row n _ hl
  simp only at hvs
  rw [h2 σ] at hvs
  cases hvs
  rcases renV_slice hv with ⟨p', c', hb', hcp, rfl, _⟩ | ⟨hnn, hz, hcp, rfl⟩
  ·rw [hb] at hb'
   cases hb'
   refine DR.mk ⟨renV_len hR.wf hv, fun k e => by cases e⟩ ?_
   rcases hk.2 with e | ⟨e1, e2⟩
   ·exact .inl (by rw [e]; rfl)
   ·exact .inr (drs_of h2 (.inl ⟨e1, e2⟩))
  ·exact DR.nil hz (by rw [h3 hz]; rfl) (.inl rfl)
 ·simp only [oI, pI] at hr
  obtain ⟨rfl, rfl⟩ := hr
  simp only [renV, oI] at hv
  subst hv
  exact ⟨0, DR.nil rfl rfl (.inl rfl), trivial⟩
 ·rename_i size n o len c
  split at hr
  case h_2 => cases hr
  rename_i ds cs hl
  simp only [oI, pI] at hr
  obtain ⟨rfl, rfl⟩ := hr
  rw [mlN_eq]
  refine ⟨0, ?_, trivial⟩
  show DR W W [] _ _
  obtain ⟨b, s, vs, hb, _, hk⟩ := hR.row n _ hl
  rcases renV_slice hv with ⟨p', c', hb', hcp, rfl, _⟩ | ⟨hnn, hz, hcp, rfl⟩
  ·rw [hb] at hb'
   cases hb'
   refine DR.mk ⟨renV_len hR.wf hv, fun k e => by cases e⟩ ?_
   rcases hk.2.2 with e | e
   ·exact .inl (by rw [e]; simp [cnL])
   ·rcases (DRs.old (w1 := W) e).drop o with e | e
    ·exact .inl (by rw [e]; simp [cnL])
    ·exact .inr (DRs.canon _ _ _ (e.take _))
  ·exact DR.nil hz (by rw [hz]; simp [cnL]) (.inl rfl)
 ·cases hr
theorem rdOs_ok {h : Hp} {W : World} {σ : Sg} {w : World} (hR : Rl W σ h w) : ∀ {ps : List Pd} {vs : List Value} {aL : List Dv} {ob : List Prop} {us : List Value}, rdOs h ps vs = some (aL, ob) → Alls ob → renL σ vs = some us → ∃ cs, DvAts W aL us cs
 | [], [], aL, ob, us, hr, _, hv => by
   simp only [rdOs, oI, pI] at hr
   obtain ⟨rfl, _⟩ := hr
   simp only [renL, oI] at hv
   subst hv
   exact ⟨[], trivial⟩
 | p :: ps, v :: vs, aL, ob, us, hr, ho, hv => by
   obtain ⟨u, us', hu, hus, rfl⟩ := renL_cons hv
   simp only [rdOs] at hr
   split at hr
   case h_2 => cases hr
   rename_i a o1 aL' o2 h1 h2
   simp only [oI, pI] at hr
   obtain ⟨rfl, rfl⟩ := hr
   obtain ⟨g1, g2⟩ := Alls_app.1 ho
   obtain ⟨c, k1, k2⟩ := rdO_ok h1 g1 hR hu
   obtain ⟨cs, k3⟩ := rdOs_ok hR h2 g2 hus
   exact ⟨c :: cs, ⟨k1, k2⟩, k3⟩
 | [], _ :: _, aL, ob, us, hr, _, _ => by simp [rdOs] at hr
 | _ :: _, [], aL, ob, us, hr, _, _ => by simp [rdOs] at hr
theorem dvs_rlW {W w : World} (hx : Ext W w) {aL : List Dv} {us : List Value} {cs : List Nat} (h : DvAts W aL us cs) : ∃ σ, Rl W σ (dvH aL cs 0) w ∧ ((∀ n r, lk (dvH aL cs 0) n = some r → ¬ r.own) ∧ (∀ n, sh σ n = []) ∧ ∀ n, ex σ n = []) ∧ renL σ (dvV aL cs 0) = some us ∧ (∀ n, 2 * aL.length ≤ n → σ.b n = none ∧ σ.c n = none) ∧ Bd (dvH aL cs 0) (2 * aL.length) := by
 obtain ⟨ps, g1, g2, g3⟩ := dvs_pl h
 obtain ⟨f1, f2⟩ := g3 (sgL ps) 0 fun j p hp => by rw [Nat.zero_add]; exact sgL_on hp
 have hsh : ∀ n, sh (sgL ps) n = [] := fun n => by
  unfold sh
  simp only [sgL]
  split
  ·rename_i p hp
   have := g2 p (List.mem_of_getElem? hp)
   cases hh : p.f with
   | none => rfl
   | some l => rw [hh] at this; exact this
  ·rfl
 have hex : ∀ n, ex (sgL ps) n = [] := fun n => by
  unfold ex
  simp only [sgL]
  split
  ·rename_i p hp; cases p.f <;> rfl
  ·rfl
 have hR0 : Rl W (sgL ps) (dvH aL cs 0) W := ⟨⟨Ext.refl W, fun n r e => (f2 n r e).2.2.1, fun n m r s p q hn hm ho => absurd (f2 n r hn).2.2.2 ho⟩, rfl, fun n r hn ho => absurd (f2 n r hn).2.2.2 ho, fun n r k hn hk => (by rw [hsh] at hk; cases hk), fun n r k hn hk => (by rw [hex] at hk; cases hk)⟩
 refine ⟨sgL ps, ⟨⟨hx, fun n r e => RowOk.ext hR0 e hx (Sg.le.refl _), fun n m r s p q hn hm ho => absurd (f2 n r hn).2.2.2 ho⟩, rfl, fun n r hn ho => absurd (f2 n r hn).2.2.2 ho, fun n r k hn hk => (by rw [hsh] at hk; cases hk), fun n r k hn hk => (by rw [hex] at hk; cases hk)⟩, ⟨fun n r hn ho => absurd (f2 n r hn).2.2.2 ho, hsh, hex⟩, f1, fun n hn => sgL_out (by omega), fun n hn => ?_⟩
 cases hl : lk (dvH aL cs 0) n with
 | none => rfl
 | some r => have := (f2 n r hl).2.1; omega
structure GrO (gr : Gr) (v0 : Value) (h0' : Hp) (g : Nat → Nat) : Prop where
 v : ∀ nx, renV (f2s nx gr.rows.length g) (gr.v nx) = some v0
 rows : ∀ j r, gr.rows[j]? = some r → Fl r.cs ∧ adKo r.kd = true ∧ lk h0' (g j) = some r
 inj : ∀ i j, i < gr.rows.length → j < gr.rows.length → g i = g j → i = j
def GOkO (P : Program) (f0 : FuncId) (G : GSpecD) : Prop := ∀ aL tp gr tp' ob, G aL tp = some (gr, tp', ob) → Alls ob → ∀ cs, CapsD aL cs → ∃ v0 h0' nx0' d0 g, Tri P f0 (dvV aL cs 0) (dvH aL cs 0) (2 * aL.length) (v0, h0', nx0', d0) ∧ GrO gr v0 h0' g
def mkO (f0 : FuncId) (ps : List Pd) (G : GSpecD) : TFun := fun f args h nx tp => bif Nat.beq f f0 then some (match rdOs h ps args with
 | some (aL, o1) => (match G aL tp with
  | some (gr, tp', o2) => .ok ((gr.v nx, rowsN nx gr.rows h, nx + gr.rows.length, []), tp', o1 ++ o2)
  | none => .no)
 | none => .no) else none
theorem mkO_ok {P : Program} {f0 : FuncId} {ps : List Pd} {G : GSpecD} (H : GOkO P f0 G) : TOneZ P (mkO f0 ps G) := fun f args h nx tp out tp' ob e ho => by
 unfold mkO at e
 rcases bif_or e with ⟨hf, e1⟩ | ⟨_, e1⟩
 case inr => cases e1
 clear e
 obtain rfl := Nat.eq_of_beq_eq_true hf
 have e := Option.some.inj e1
 clear e1
 split at e
 case h_2 => cases e
 rename_i aL o1 hr
 split at e
 case h_2 => cases e
 rename_i gr tp2 o2 hG
 simp only [Res.ok.injEq, pI] at e
 obtain ⟨rfl, rfl, rfl⟩ := e
 obtain ⟨g1, g2⟩ := Alls_app.1 ho
 refine Tri.adoptW (k := gr.rows.length) (fun n hn => ?_) (fun n r hn hlk => ?_) fun W σ w args' hR ha => ?_
 ·rw [lk_rowsN, if_neg (by omega)]
 ·rw [lk_rowsN] at hlk
  split at hlk
  ·rename_i hc; exact .inr hc.2
  ·exact .inl hlk
 obtain ⟨cs, hAt⟩ := rdOs_ok hR hr g1 ha
 obtain ⟨σ0, h1, hno, h2, h3, h4⟩ := dvs_rlW hR.ext hAt
 obtain ⟨v0, h0', nx0', d0, g, T, I⟩ := H _ _ _ _ _ hG g2 _ hAt.caps
 refine ⟨σ0, _, _, _, v0, h0', nx0', d0, fun n => g (n - nx), f2s nx gr.rows.length g, h1, hno, h3, h4, h2, T, fun n m o e => ?_, fun n q e => ?_, (fun n e => by simp [f2s] at e), fun n r hn hn2 hlk _ => ?_, fun n m a1 a2 b1 b2 e => ?_, I.v nx⟩
 ·simp only [f2s] at e
  split at e
  ·rename_i hc; cases e; exact ⟨hc.1, hc.2, rfl, rfl⟩
  ·cases e
 ·simp only [f2s] at e
  split at e
  ·rename_i hc; cases e; exact ⟨hc.1, hc.2, rfl⟩
  ·cases e
 ·rw [lk_rowsN, if_pos ⟨hn, hn2⟩] at hlk
  obtain ⟨i1, i2, i4⟩ := I.rows _ _ hlk
  exact ⟨r, i4, rfl, i2, i1 _⟩
 ·have := I.inj (n - nx) (m - nx) (by omega) (by omega) e
  omega
def rcPk (live : List (Nat × Value)) (h : Hp) : Option (Nat × Int × List DV) := match live, lk h 0 with
 | (_, .slice _ n _) :: (_, .int _ m) :: _, some ⟨.sw ds, _⟩ => some (n, m, ds)
 | _, _ => none
def rcW (ds : List DV) (m : Int) : List (List Pr) := ptL (prsOf ds) m.toNat
def rcSp : LSpec := lspec rcPk (fun a => (rcS a.1 0 a.2.1 nlV, [(0, ⟨.sw a.2.2, []⟩)], 4)) (fun a tp => match tp with
 | true :: tp' => some ((.exit 0, [(6, nlV)], [(0, ⟨.sw a.2.2, []⟩)], 400, []), tp', [CuOk a.2.2 a.1 a.2.1, a.1 = 0])
 | false :: tp' => some ((.exit 0, [(6, ouA (rcW a.2.2 a.2.1).length)], [(200, ⟨.dw 1 zLs (llD (rcW a.2.2 a.2.1)), []⟩), (0, ⟨.sw a.2.2, []⟩)], 400, []), tp', [CuOk a.2.2 a.1 a.2.1, a.1 ≠ 0])
 | [] => none)
theorem ckL_pos {ps : List Pr} {M J : Nat} (h : 0 < J) : ckL ps M J ≠ [] := by
 cases J with
 | zero => omega
 | succ J => exact ckL_ne ps M J
theorem rcSp_ok : LSOk Try.prog 34 [0, 1, 6, 7] (bodyIn Try.prog 25 5) rcSp := by
 refine lspec_ok fun a tp xt l2 h2 nx2 d tp' ob hs ho inr ts hn hg => ?_
 obtain ⟨n, m, ds⟩ := a
 simp only at hs hg
 have fin : CuOk ds n m → ∀ key, key = (Xt.exit 0, [(6, rcO (rcW ds m))], rcI (rcW ds m) [(0, ⟨.sw ds, []⟩)]) → Tidy [(0, ⟨.sw ds, []⟩)] 4 key.2.2 400 [] → Runs inr (fun F k Q => Code.againIn F k Try.prog (bodyIn Try.prog 25 5) Q) ts [(0, ⟨.sw ds, []⟩)] 4 (key.1, SL 34 key.2.1, key.2.2, 400, [], []) := fun h key hk hT => by
  have h1 := h.m0
  obtain ⟨M, hM⟩ : ∃ M : Nat, m = (M : Int) := ⟨m.toNat, by omega⟩
  subst hM
  have hB := h.B
  rw [Int.toNat_natCast] at hB
  have q := rc_loop (inr := inr) (h0 := [(0, ⟨.sw ds, []⟩)]) hB n 0 (by omega)
  have eW : rcW ds (M : Int) = ckL (prsOf ds) M (finJ n M n 0) := by
   unfold rcW ptL nPt
   rw [Int.toNat_natCast, hB.l]
  rw [Nat.zero_mul, ← eW, ← hk] at q
  refine LRuns.enter (N := 300) (l2 := rcS n 0 M nlV) (h2 := [(0, ⟨.sw ds, []⟩)]) hn hg (by omega) (by omega) (fun n => n) ?_ ?_ rfl q hT
  ·exact ⟨rfl, rb_slg rfl rfl, rfl, rfl, rfl, rfl, rfl, rfl, trivial⟩
  ·exact ⟨sw_row (m := 0) rfl rfl, trivial⟩
 split at hs
 ·simp only [oI, pI] at hs
  obtain ⟨⟨rfl, rfl, rfl, rfl, rfl⟩, rfl, rfl⟩ := hs
  obtain ⟨h, h1, _⟩ := ho
  have eW : rcW ds m = [] := by
   unfold rcW ptL nPt
   rw [h.B.l, h1]
   rfl
  exact fin h (.exit 0, [(6, nlV)], [(0, ⟨.sw ds, []⟩)]) (by rw [eW]; rfl) (tidy_of (by omega) (fun j hj hd => rfl) rfl)
 ·simp only [oI, pI] at hs
  obtain ⟨⟨rfl, rfl, rfl, rfl, rfl⟩, rfl, rfl⟩ := hs
  obtain ⟨h, h1, _⟩ := ho
  have hne : rcW ds m ≠ [] := by
   have := nPt_pos (n := n) (M := m.toNat) h1 h.B.M1
   unfold rcW ptL
   rw [h.B.l]
   exact ckL_pos this
  refine fin h (.exit 0, [(6, ouA (rcW ds m).length)], [(200, ⟨.dw 1 zLs (llD (rcW ds m)), []⟩), (0, ⟨.sw ds, []⟩)]) (by rw [rcO_ne hne, rcI_ne hne]) (tidy_of (by omega) (fun j hj hd => ?_) rfl)
  rw [lk_cons, if_neg (by omega)]
 ·cases hs
def rcLo (P : Program) : LFun := mkL 25 5 34 [0, 1, 6, 7] (bodyIn P 25 5) rcSp
theorem rcLo_one : LOne Try.prog (rcLo Try.prog) := mkL_ok rcSp_ok
theorem ry_lo (n : Nat) (m : Int) (ds : List DV) : prjV (runZ (rcV (rcLo Try.prog)) Try.prog 9 25 [llA n, .int .i64 m] [(0, ⟨.sw ds, []⟩)] 4 [true]) =
 Res.ok (Value.tuple (Array.mk [Value.slice none 0 0, Value.int IntKind.i64 (2 : Int)]), [], [decide (m < (1 : Int)) = true]) := by kernel_rfl
theorem ry_hi (n : Nat) (m : Int) (ds : List DV) : prjV (runZ (rcV (rcLo Try.prog)) Try.prog 9 25 [llA n, .int .i64 m] [(0, ⟨.sw ds, []⟩)] 4 [false, true]) =
 Res.ok (Value.tuple (Array.mk [Value.slice none 0 0, Value.int IntKind.i64 (2 : Int)]), [], [decide (m < (1 : Int)) = false, decide (m > (64 : Int)) = true]) := by kernel_rfl
theorem ry_nil (n : Nat) (m : Int) (ds : List DV) : prjV (runZ (rcV (rcLo Try.prog)) Try.prog 9 25 [llA n, .int .i64 m] [(0, ⟨.sw ds, []⟩)] 4 [false, false, true]) =
 Res.ok (Value.tuple (Array.mk [Value.slice none 0 0, Value.int IntKind.i64 (0 : Int)]), [], [decide (m < (1 : Int)) = false, decide (m > (64 : Int)) = false, bodyIn Try.prog (25 : FuncId) 5 = bodyIn Try.prog (25 : FuncId) 5, [(0, Value.slice (some (Addr.mk 0 0 none)) n 18446744073709551616), (1, Value.int IntKind.i64 m), (6, Value.slice none 0 0), (7, Value.int IntKind.i64 (0 : Int))] = rcS n 0 m (Value.slice none 0 0), [(0, Rw.mk (Kd.sw ds) [])] = [(0, Rw.mk (Kd.sw ds) [])], 4 = 4, CuOk ds n m, n = 0]) := by kernel_rfl
theorem ry_row (n : Nat) (m : Int) (ds : List DV) : runZ (rcV (rcLo Try.prog)) Try.prog 9 25 [llA n, .int .i64 m] [(0, ⟨.sw ds, []⟩)] 4 [false, false, false] =
 Res.ok ((Value.tuple (Array.mk [Value.slice (some (Addr.mk 200 0 none)) (List.length (rcW ds m)) (capBig + 200), Value.int IntKind.i64 (0 : Int)]), [(200, Rw.mk (Kd.dw 1 [Value.slice none 0 0] (llD (rcW ds m))) []), (0, Rw.mk (Kd.sw ds) [])], 400, []), [], [decide (m < (1 : Int)) = false, decide (m > (64 : Int)) = false, bodyIn Try.prog (25 : FuncId) 5 = bodyIn Try.prog (25 : FuncId) 5, [(0, Value.slice (some (Addr.mk 0 0 none)) n 18446744073709551616), (1, Value.int IntKind.i64 m), (6, Value.slice none 0 0), (7, Value.int IntKind.i64 (0 : Int))] = rcS n 0 m (Value.slice none 0 0), [(0, Rw.mk (Kd.sw ds) [])] = [(0, Rw.mk (Kd.sw ds) [])], 4 = 4, CuOk ds n m, n ≠ 0]) := by kernel_rfl
def gRt (L : List (List Pr)) : GSpecD := fun aL tp => match aL, tp with
 | [.dl ds n, .fl (.int .i64 m)], true :: tp' => some (⟨fun _ => tupM nlV 2, []⟩, tp', [m < 1 ∨ 64 < m])
 | [.dl ds n, .fl (.int .i64 m)], false :: true :: tp' => some (⟨fun _ => tupM nlV 0, []⟩, tp', [CuOk ds n m, n = 0])
 | [.dl ds n, .fl (.int .i64 m)], false :: false :: tp' => some (⟨fun nx => tupM (.slice (some ⟨nx, 0, none⟩) L.length (capBig + nx)) 0, [⟨.dw 1 zLs (llD L), []⟩]⟩, tp', [CuOk ds n m, n ≠ 0, ptL (prsOf ds) m.toNat = L])
 | _, _ => none
theorem GrO.flt {v : Value} {h0' : Hp} (hv : ∀ σ, renV σ v = some v) : GrO ⟨fun _ => v, []⟩ v h0' (fun n => n) := ⟨fun nx => hv _, fun j r h => by simp at h, fun i j h => by simp at h⟩
theorem rcut_gok (L : List (List Pr)) : GOkO Try.prog 25 (gRt L) := by
 intro aL tp gr tp' ob hG ho cs hc
 have fin : ∀ {n : Nat} {m : Int} {ds : List DV} {v : Value}, (∃ h' nx' d, Tri Try.prog 25 [llA n, .int .i64 m] [(0, ⟨.sw ds, []⟩)] 4 (v, h', nx', d)) → (∀ σ, renV σ v = some v) → ∃ v0 h0' nx0' d0 g, Tri Try.prog 25 (dvV [.dl ds n, .fl (.int .i64 m)] cs 0) (dvH [.dl ds n, .fl (.int .i64 m)] cs 0) (2 * 2) (v0, h0', nx0', d0) ∧ GrO ⟨fun _ => v, []⟩ v0 h0' g := fun ⟨h', nx', d, T⟩ hv => ⟨_, h', nx', d, fun n => n, T, GrO.flt hv⟩
 have hL : LOkZ (rcV (rcLo Try.prog)) Try.prog := L_okV rfl rcLo_one
 unfold gRt at hG
 split at hG
 ·rename_i ds n m tp2
  simp only [oI, pI] at hG
  obtain ⟨rfl, rfl, rfl⟩ := hG
  obtain ⟨h, _⟩ := ho
  by_cases h1 : m < 1
  ·exact fin (run_val rcX rcT hL (ry_lo n m ds) ⟨decide_eq_true h1, trivial⟩ rfl) fun σ => rfl
  ·exact fin (run_val rcX rcT hL (ry_hi n m ds) ⟨decide_eq_false h1, decide_eq_true (by omega), trivial⟩ rfl) fun σ => rfl
 ·rename_i ds n m tp2
  simp only [oI, pI] at hG
  obtain ⟨rfl, rfl, rfl⟩ := hG
  obtain ⟨h, h0, _⟩ := ho
  have h1 := h.m0
  exact fin (run_val rcX rcT hL (ry_nil n m ds) ⟨decide_eq_false (by omega), decide_eq_false (by omega), rfl, rfl, rfl, rfl, h, h0, trivial⟩ rfl) fun σ => rfl
 ·rename_i ds n m tp2
  simp only [oI, pI] at hG
  obtain ⟨rfl, rfl, rfl⟩ := hG
  obtain ⟨h, h0, hW, _⟩ := ho
  have h1 := h.m0
  have T := run_tri rcX rcT hL (ry_row n m ds) ⟨decide_eq_false (by omega), decide_eq_false (by omega), rfl, rfl, rfl, rfl, h, h0, trivial⟩ rfl
  rw [show rcW ds m = L from hW] at T
  refine ⟨_, _, _, _, fun _ => 200, T, ⟨fun nx => f2s_tupM (by simp) rfl _ _, fun j r hj => ?_, fun i j hi hj _ => by simp at hi hj; omega⟩⟩
  match j, hj with
  | 0, hj => cases hj; exact ⟨fun τ => rfl, rfl, rfl⟩
 ·cases hG
theorem calls_dv {P : Program} {f : FuncId} (aL : List Dv) {cs : List Nat} {v : Value} (T : ∃ h' nx' d, Tri P f (dvV aL cs 0) (dvH aL cs 0) (2 * aL.length) (v, h', nx', d)) (hv : ∀ σ, renV σ v = some v) {W : World} {us : List Value} (hA : DvAts W aL us cs) :
  Calls P f us.toArray W fun e w' => e = .returned v ∧ Ext W w' := by
 obtain ⟨σ, hR, ha, hf, hB⟩ := dvs_rl hA
 obtain ⟨h', nx', d, T⟩ := T
 refine (T.2 hB W σ W us hR (fun n hn _ => hf n hn) ha).mono ?_
 rintro e w' ⟨σ', u, S, hu, rfl⟩
 rw [hv σ'] at hu
 cases hu
 exact ⟨rfl, S.rl.ext⟩
def awV : Tv := ⟨noTz, cmpY, noL, fun _ => [], fun _ _ => none, fun _ => [], fun _ => 0⟩
theorem aw_run  : prjV (runZ awV Try.prog 30 21 [] [] 0 []) =
 Res.ok (Value.bool true, [], ((fun (q0 q1 q2 : Prop) => [q0, q1, q0, q2, q0, q0, q0, q1, q1, q2, q0, q1, q0, q2, q0, q0, q0, q1, q1, q2]) (BytI 1 [Value.int IntKind.u8 (97 : Int)]) (BytI 1 [Value.int IntKind.u8 (99 : Int)]) (BytI 1 [Value.int IntKind.u8 (98 : Int)]))) := by kernel_rfl
theorem byI1 {c : Int} (h : 0 ≤ c ∧ c < 256) : BytI 1 [.int .u8 c] := byV_bytI (l := [c]) fun x hx => by
 simp only [List.mem_singleton] at hx
 rw [hx]
 exact h
theorem awX : XOkZ awV Try.prog := XOneZ.ok cmpY_ok rfl
theorem awake_any (W : World) : Calls Try.prog 21 #[] W fun e w' => e = .returned (.bool true) ∧ Ext W w' :=
 calls_dv [] (cs := []) (run_val awX (noTz_okV rfl) (noL_okV rfl) aw_run ⟨byI1 ⟨by omega, by omega⟩, byI1 ⟨by omega, by omega⟩, byI1 ⟨by omega, by omega⟩, byI1 ⟨by omega, by omega⟩, byI1 ⟨by omega, by omega⟩, byI1 ⟨by omega, by omega⟩, byI1 ⟨by omega, by omega⟩, byI1 ⟨by omega, by omega⟩, byI1 ⟨by omega, by omega⟩, byI1 ⟨by omega, by omega⟩, byI1 ⟨by omega, by omega⟩, byI1 ⟨by omega, by omega⟩, byI1 ⟨by omega, by omega⟩, byI1 ⟨by omega, by omega⟩, byI1 ⟨by omega, by omega⟩, byI1 ⟨by omega, by omega⟩, byI1 ⟨by omega, by omega⟩, byI1 ⟨by omega, by omega⟩, byI1 ⟨by omega, by omega⟩, byI1 ⟨by omega, by omega⟩, trivial⟩ rfl) (fun σ => rfl) (us := []) trivial
def ncSp : LSpec := fun live h nx tp => match live with
 | (_, u) :: (_, v) :: (_, .slice (some ⟨nm, 0, none⟩) n c) :: (_, .int k i) :: [] => (match lk h nm with
  | some ⟨.dx d sz z ds, cs⟩ => bif Nat.beq c (capBig + nm) && (Nat.beq d 2 && Nat.beq sz 1) then some ((.exit 0, [(0, u), (5, v)], delH h nm, nx, [nm]), tp, [Value.int k i = iV 0, ds.length = n, PartDs ds]) else none
  | _ => none)
 | _ => none
theorem getS_keys : ∀ {ks : List Nat} {ts : Tm} {l : List (Nat × Value)}, getS ks ts = some l → l.map (·.1) = ks
 | [], ts, l, h => by simp only [getS, oI] at h; subst h; rfl
 | k :: ks, ts, l, h => by
   simp only [getS] at h
   split at h
   ·rename_i v l' h1 h2
    simp only [oI] at h
    subst h
    simp [getS_keys h2]
   ·cases h
theorem ncSp_ok : LSOk Try.prog 59 [0, 5, 6, 10] (ncB Try.prog) ncSp := by
 intro live h nx tp xt l2 h2 nx2 d tp' ob hs ho inr ts hn hg
 unfold ncSp at hs
 split at hs
 case h_2 => cases hs
 rename_i k0 u k5 v k6 nm n c k10 k i
 split at hs
 case h_2 => cases hs
 rename_i dd sz z ds cs hl
 obtain ⟨hb, hs⟩ := bif_of hs
 simp only [Bool.and_eq_true] at hb
 simp only [oI, pI] at hs
 obtain ⟨⟨rfl, rfl, rfl, rfl, rfl⟩, rfl, rfl⟩ := hs
 obtain ⟨o1, o2, o3, _⟩ := ho
 obtain rfl := Nat.eq_of_beq_eq_true hb.1
 obtain rfl := Nat.eq_of_beq_eq_true hb.2.1
 obtain rfl := Nat.eq_of_beq_eq_true hb.2.2
 rw [o1] at hg
 have hk := getS_keys hg
 simp only [List.map_cons, List.map_nil, List.cons.injEq, and_true] at hk
 obtain ⟨rfl, rfl, rfl, rfl⟩ := hk
 refine ⟨⟨Nat.le_refl _, fun m _ hd => ?_, fun hB m hm => ?_⟩, fun hB W σ w a hR hf ht ds' hdf F m hF hr Q hQ => ?_⟩
 ·simp only [List.mem_singleton] at hd
  rw [lk_delH, if_neg (Ne.symm hd)]
 ·simp only
  rw [lk_delH]
  split
  ·rfl
  ·exact hB m hm
 obtain ⟨b, s, vs, hpb, hvs, rfl, k1, k2, k2n, us, t, rest, c2, E, k3, k4, k5, k6, k7, k8, k9, k10⟩ := hR.row _ _ hl
 have hT := ht.rtl hg
 rw [hn] at hT
 have h6 := hT.s 6 (.slice (some ⟨nm, 0, none⟩) n (capBig + nm)) (by simp)
 obtain ⟨V, hV⟩ : ∃ V : World, V.heap.size = 0 := ⟨{ w with heap := #[] }, rfl⟩
 obtain ⟨e1, L, l1, l2, l3, l4⟩ := cx_parts hV o3 k9 (k10 V)
 have hnd := k2n
 rw [k8] at hnd
 have hnd := List.nodup_cons.1 hnd
 rcases renV_slice h6 with ⟨p, c', hp, hc, hv, hnn⟩ | ⟨hnn, _⟩
 case inr => exfalso; unfold ex at k8; rw [hnn] at k8; cases k8
 rw [hpb] at hp
 cases hp
 rw [hv] at h6
 have hX : Xs W w (ex σ nm) w ((b, us ++ rest) :: L) := by
  refine ⟨⟨hR.ext, fun p hp => ?_, ?_⟩, Nat.le_refl _, fun _ _ _ => rfl, fun p hp => ?_⟩
  ·rcases List.mem_cons.1 hp with rfl | hp
   ·exact ⟨k2 b (by rw [k8]; exact List.mem_cons_self ..), t, k4⟩
   ·exact ⟨k2 p.1 (by rw [k8]; exact List.mem_cons_of_mem _ (l2 _ (List.mem_map.2 ⟨p, hp, rfl⟩))), l4 p hp⟩
  ·rw [List.map_cons]
   exact List.nodup_cons.2 ⟨fun hm => hnd.1 (l2 _ hm), l3 hnd.2⟩
  ·rw [k8]
   rcases List.mem_cons.1 hp with rfl | hp
   ·exact List.mem_cons_self ..
   ·exact List.mem_cons_of_mem _ (l2 _ (List.mem_map.2 ⟨p, hp, rfl⟩))
 have hcl : us.length ≤ 9223372036854775807 := by
  rw [List.length_append] at k5
  unfold maxLen at k6
  omega
 refine nc_rounds hR.wf (e1.trans o2) (by omega) h6 n 0 (by omega) w a L hX (by simpa using l1) hT ds' hdf F m hF hr Q fun w' a' L' hX' hT' hd' => ?_
 exact hQ σ w' a' [] (Stp.exdel hR hl hX'.st.x hX'.sz (fun k h1 h2 => hX'.fr k h1 h2) nx) hT'.rt rfl hd'
def ncLo (P : Program) : LFun := mkL 4 9 59 [0, 5, 6, 10] (ncB P) ncSp
theorem ncLo_one : LOne Try.prog (ncLo Try.prog) := mkL_ok ncSp_ok
def mcT (L : List (List Pr)) : TFun := orTz (mkT 21 [] gTrueY) (orTz pxTs (orTz (mkD 23 [.c 3] gCq) (orTz (mkD 24 [.c 3, .f] (gCt L)) (orTz (mkO 25 [.e 3, .f] (gRt L)) (mkD 18 [.c 1, .c 1] gCm)))))
def mcTab : FuncId → List Nat := fun f => bif Nat.beq f 4 then [45] else []
def mcSy : FuncId → Nat → Option Nat := fun _ _ => none
def mcV (L : LFun) (W : List (List Pr)) : Tv := ⟨mcT W, noXz, L, mcTab, mcSy, fun _ => [], fun _ => 0⟩
theorem mc_l (n : Nat) (m : Int) (ds : List DV) (W : List (List Pr)) : prjV (runZ (mcV noL W) Try.prog 12 4 [llA n, .int .i64 m] [(0, ⟨.sw ds, []⟩)] 4 [true]) =
 Res.ok (Value.bool true, [], [n = 0 → ds = [], LpOk ds n ∧ (decide ((↑n : Int) > (300 : Int)) || List.any (prsOf ds) big) = true, (300 : Int) ≤ (9000000 : Int)]) := by kernel_rfl
theorem mc_bz (n : Nat) (m : Int) (ds : List DV) (W : List (List Pr)) : prjV (runZ (mcV noL W) Try.prog 12 4 [llA n, .int .i64 m] [(0, ⟨.sw ds, []⟩)] 4 [false, false, true, true, false]) =
 Res.ok (Value.bool true, [], ((fun (q0 q1 q2 : Prop) => [q0, LpOk ds n ∧ (decide ((↑n : Int) > (300 : Int)) || List.any (prsOf ds) big) = false, (300 : Int) ≤ (9000000 : Int), CqOk (cnL (List.take (n * 3) ds)) n, prsOf (cnL (List.take (n * 3) ds)) = [], q1, q1, CmOk [] 0, ([] : List DV) = [], 0 = 0, q0, q2, false = false, q0, q2]) (n = 0 → ds = []) (m < (1 : Int) ∨ (64 : Int) < m) (SpOk [] ds 0 ∧ n = 0))) := by kernel_rfl
theorem mc_bn (n : Nat) (m : Int) (ds : List DV) (W : List (List Pr)) : prjV (runZ (mcV noL W) Try.prog 12 4 [llA n, .int .i64 m] [(0, ⟨.sw ds, []⟩)] 4 [false, true, true, true, false]) =
 Res.ok (Value.bool true, [], ((fun (q0 q1 q2 q3 : Prop) => [q0, LpOk ds n ∧ (decide ((↑n : Int) > (300 : Int)) || List.any (prsOf ds) big) = false, (300 : Int) ≤ (9000000 : Int), CqOk (cnL (List.take (n * 3) ds)) n, prsOf (cnL (List.take (n * 3) ds)) ≠ [], q1, q1, CmOk [] 0, ([] : List DV) = [], 0 = 0, q2, q0, q3, false = false, q2, q0, q3]) (n = 0 → ds = []) (m < (1 : Int) ∨ (64 : Int) < m) (List.length (prsOf (cnL (List.take (mlN n 3) ds))) = 0 → cpD (prsOf (cnL (List.take (n * 3) ds))) = []) (SpOk (cpD (prsOf (cnL (List.take (n * 3) ds)))) ds (List.length (prsOf (cnL (List.take (n * 3) ds)))) ∧ n = List.length (prsOf (cnL (List.take (n * 3) ds)))))) := by kernel_rfl
theorem mc_z (n : Nat) (m : Int) (ds : List DV) (W : List (List Pr)) : prjV (runZ (mcV noL W) Try.prog 12 4 [llA n, .int .i64 m] [(0, ⟨.sw ds, []⟩)] 4 [false, false, false, true, false, true, false]) =
 Res.ok (Value.bool true, [], [n = 0 → ds = [], LpOk ds n ∧ (decide ((↑n : Int) > (300 : Int)) || List.any (prsOf ds) big) = false, (300 : Int) ≤ (9000000 : Int), CqOk (cnL (List.take (n * 3) ds)) n, prsOf (cnL (List.take (n * 3) ds)) = [], CuOk [] 0 m, 0 = 0, CuOk (cnL (List.take (n * 3) (List.drop 0 ds))) n m, n = 0, CmOk [] 0, ([] : List DV) = [], 0 = 0, n = 0 → ds = [], SpOk [] ds 0 ∧ n = 0, false = false, n = 0 → ds = [], SpOk [] ds 0 ∧ n = 0]) := by kernel_rfl
theorem mc_p (n : Nat) (m : Int) (ds : List DV) (W : List (List Pr)) : prjV (runZ (mcV (ncLo Try.prog) W) Try.prog 12 4 [llA n, .int .i64 m] [(0, ⟨.sw ds, []⟩)] 4 [false, true, false, false, false, false]) =
 Res.ok (Value.bool true, [], ((fun (q0 q1 q2 : Prop) => [q0, LpOk ds n ∧ (decide ((↑n : Int) > (300 : Int)) || List.any (prsOf ds) big) = false, (300 : Int) ≤ (9000000 : Int), CqOk (cnL (List.take (n * 3) ds)) n, prsOf (cnL (List.take (n * 3) ds)) ≠ [], CuOk (cnL (List.take (List.length (prsOf (cnL (List.take (n * 3) ds))) * 3) (cpD (prsOf (cnL (List.take (n * 3) ds)))))) (List.length (prsOf (cnL (List.take (n * 3) ds)))) m, List.length (prsOf (cnL (List.take (n * 3) ds))) ≠ 0, ptL (prsOf (cnL (List.take (List.length (prsOf (cnL (List.take (n * 3) ds))) * 3) (cpD (prsOf (cnL (List.take (n * 3) ds))))))) (Int.toNat m) = W, CuOk (cnL (List.take (n * 3) (List.drop 0 ds))) n m, n ≠ 0, ptL (prsOf (cnL (List.take (n * 3) (List.drop 0 ds)))) (Int.toNat m) = W, CmOk (cnL (List.take (List.length W) (llD W))) (List.length W), cnL (List.take (List.length W) (llD W)) = cnL (List.take (List.length W)
 (llD W)), List.length W = List.length W, q1, q0, q2, ncB Try.prog = ncB Try.prog, Value.int IntKind.i64 (0 : Int) = Value.int IntKind.i64 (0 : Int), List.length (llD W) = List.length W, PartDs (llD W), q1, q0, q2]) (n = 0 → ds = []) (List.length (prsOf (cnL (List.take (mlN n 3) ds))) = 0 → cpD (prsOf (cnL (List.take (n * 3) ds))) = []) (SpOk (cpD (prsOf (cnL (List.take (n * 3) ds)))) ds (List.length (prsOf (cnL (List.take (n * 3) ds)))) ∧ n = List.length (prsOf (cnL (List.take (n * 3)
 ds)))))) := by kernel_rfl
theorem cnL_prs : ∀ {ps : List Pr} {ds : List DV}, Prs ds ps → cnL ds = cpD ps
 | [], ds, h => by rw [show ds = [] from h]; simp [cnL, cpD]
 | p :: ps, ds, h => by
   obtain ⟨c1, c2, r, rfl, hr⟩ := h
   rw [cnL_app, cnL_prs hr, cpD_cons]
   simp only [prD, cnL, cnD, cnL_by]
theorem pairDs_cp : ∀ W : List Pr, PairDs (cpD W)
 | [] => trivial
 | p :: W => by rw [cpD_cons]; exact pairDs_cp W
theorem partDs_ll : ∀ L : List (List Pr), PartDs (llD L)
 | [] => trivial
 | l :: L => ⟨⟨cpD_len l, pairDs_cp l⟩, partDs_ll L⟩
theorem aw_gok : GOk Try.prog 21 [] gTrueY := gTrueY_ok awake_any
theorem mcX {L : LFun} {W : List (List Pr)} : XOkZ (mcV L W) Try.prog := noXz_ok rfl
theorem mcT_one (W : List (List Pr)) : TOneZ Try.prog (mcT W) := orTz_ok (mkT_one aw_gok) (orTz_ok pxTs_one (orTz_ok (mkD_ok cq_gok) (orTz_ok (mkD_ok (cut_gok W)) (orTz_ok (mkO_ok (rcut_gok W)) (mkD_ok cm_gok)))))
theorem mc_run {L : LFun} (hL : LOne Try.prog L) {W : List (List Pr)} {args : List Value} {hp : Hp} {nx : Nat} {tp tp' : Tape} {v : Value} {ob : List Prop} (e : prjV (runZ (mcV L W) Try.prog 12 4 args hp nx tp) = .ok (v, tp', ob)) (ho : Alls ob) : ∃ h' nx' d, Tri Try.prog 4 args hp nx (v, h', nx', d) :=
 run_val mcX (T_okV rfl (mcT_one W)) (L_okV rfl hL) e ho rfl
theorem ckL_part {ps : List Pr} {M : Nat} {l : List Pr} {j : Nat} (h : l ∈ ckL ps M j) : l.length ≤ ps.length := by
 obtain ⟨i, _, rfl⟩ := ckL_mem h
 unfold ptP
 rw [List.length_take, List.length_drop]
 omega
theorem mlN3 (n : Nat) : mlN n 3 = n * 3 := rfl
theorem tll (L : List (List Pr)) : List.take L.length (llD L) = llD L := List.take_of_length_le (by rw [llD_len]; exact Nat.le_refl _)
theorem cuts_any {W0 : World} {v0 : Value} {m : Int} {rows : List (List DV)} {c : Nat} (hA : DA.at W0 v0 (.dl rows.flatten rows.length c)) (hr : ∀ r, r ∈ rows → ShsOk [.sl [.i .u8], .sl [.i .u8], .b] r) :
  Calls Try.prog 4 #[v0, .int .i64 m] W0 fun e w' => e = .returned (.bool true) ∧ Ext W0 w' := by
 obtain ⟨ps, hP, hn, hO⟩ := prs_of hr
 have a0 : DR W0 W0 [] (.sl rows.length none (cpD ps)) v0 := by
  have := DR.canon _ _ hA.2
  simp only [cnD] at this
  rwa [cnL_prs hP] at this
 rw [← hn] at a0
 clear hA hr hn hP rows
 obtain ⟨n, hl⟩ : ∃ n, ps.length = n := ⟨_, rfl⟩
 rw [hl] at a0
 refine calls_dv [.dl (cpD ps) n, .fl (.int .i64 m)] (cs := [0, 0]) ?_ (fun σ => rfl) (us := [v0, .int .i64 m]) ⟨⟨a0, trivial⟩, ⟨⟨rfl, fun σ => rfl⟩, trivial⟩, trivial⟩
 show ∃ h' nx' d, Tri Try.prog 4 [llA n, .int .i64 m] [(0, ⟨.sw (cpD ps), []⟩)] 4 (.bool true, h', nx', d)
 subst hl
 have hl : ps.length = ps.length := rfl
 have hz : ps.length = 0 → cpD ps = [] := fun e => by rw [List.eq_nil_of_length_eq_zero e]; rfl
 have hLp : LpOk (cpD ps) ps.length := ⟨by rw [prsOf_cp]; exact cpD_prs ps, by rw [prsOf_cp]⟩
 have k3 : (300 : Int) ≤ 9000000 := by omega
 obtain ⟨b, hb⟩ : ∃ b, (decide ((ps.length : Int) > 300) || ps.any big) = b := ⟨_, rfl⟩
 have hLb : LpOk (cpD ps) ps.length ∧ (decide ((ps.length : Int) > 300) || (prsOf (cpD ps)).any big) = b := ⟨hLp, by rw [prsOf_cp]; exact hb⟩
 cases b with
 | true => exact mc_run noL_ok (mc_l ps.length m (cpD ps) []) ⟨hz, hLb, k3, trivial⟩
 | false =>
  simp only [Bool.or_eq_false_iff, decide_eq_false_iff_not] at hb
  have hz2 : ∀ p ∈ ps, PrSz p := fun p hp => by
   have := List.any_eq_false.1 hb.2 p hp
   simp [big] at this
   exact ⟨by omega, by omega⟩
  have F : FdL ps := ⟨hO, hz2, by omega⟩
  have q : CqOk (cpD ps) ps.length := ⟨by rw [prsOf_cp], by rw [prsOf_cp]; exact F, by rw [prsOf_cp]⟩
  have sp : SpOk (cpD ps) (cpD ps) ps.length := ⟨by rw [prsOf_cp]; exact cpD_prs ps, by rw [prsOf_cp]; exact cpD_prs ps, by rw [prsOf_cp], by omega⟩
  have cm0 : CmOk [] 0 := ⟨rfl, rfl, by omega, fun l hl => by cases hl⟩
  rw [prsOf_cp] at hLb
  by_cases hm : m < 1 ∨ 64 < m
  ·by_cases hp : ps = []
   ·subst hp
    have e0 : cpD ([] : List Pr) = [] := rfl
    have hn0 : ([] : List Pr).length = 0 := rfl
    have sp0 : SpOk [] [] 0 := sp
    refine mc_run noL_ok (mc_bz 0 m [] []) ?_
    have q0 : CqOk [] 0 := q
    have hL0 : LpOk [] 0 ∧ (decide (((0 : Nat) : Int) > 300) || List.any (prsOf []) big) = false := ⟨hLp, rfl⟩
    simp only [Alls, List.take_nil, show cnL [] = [] from rfl]
    repeat' (with_reducible apply And.intro)
    all_goals first | omega | (with_reducible assumption) | (with_reducible exact trivial) | (with_reducible rfl) | exact fun _ => rfl | exact fun _ => trivial | exact hL0.1 | exact hL0.2 | rfl | skip
   ·refine mc_run noL_ok (mc_bn ps.length m (cpD ps) []) ?_
    simp only [Alls, mlN3, hl, List.drop_zero, cp_all, cnL_cp, prsOf_cp, List.take_zero, tll, cnL_ll]
    repeat' (with_reducible apply And.intro)
    all_goals first | omega | (with_reducible assumption) | (with_reducible exact trivial) | (with_reducible rfl) | exact hl.symm | exact hLb.1 | exact hLb.2 | rfl | skip
  ·obtain ⟨M, hM⟩ : ∃ M : Nat, m = (M : Int) := ⟨m.toNat, by omega⟩
   have hB : ChOk (cpD ps) ps ps.length m.toNat := ⟨rfl, F, rfl, by omega, by omega, by omega⟩
   have cu : CuOk (cpD ps) ps.length m := ⟨by rw [prsOf_cp]; exact hB, by omega⟩
   by_cases hp : ps = []
   ·subst hp
    have sp0 : SpOk [] [] 0 := sp
    refine mc_run noL_ok (mc_z 0 m [] []) ?_
    have q0 : CqOk [] 0 := q
    have c0 : CuOk [] 0 m := cu
    have hL0 : LpOk [] 0 ∧ (decide (((0 : Nat) : Int) > 300) || List.any (prsOf []) big) = false := ⟨hLp, rfl⟩
    simp only [Alls, List.take_nil, List.drop_nil, show cnL [] = [] from rfl]
    repeat' (with_reducible apply And.intro)
    all_goals first | omega | (with_reducible assumption) | (with_reducible exact trivial) | (with_reducible rfl) | exact fun _ => rfl | exact fun _ => trivial | exact hL0.1 | exact hL0.2 | rfl | skip
   ·obtain ⟨W, hW⟩ : ∃ W, ptL ps m.toNat = W := ⟨_, rfl⟩
    have hn0 : ps.length ≠ 0 := fun e => hp (List.eq_nil_of_length_eq_zero e)
    have hWl : W.length ≤ 9000000 ∧ ∀ l ∈ W, l.length ≤ 9000000 := by
     subst hW
     unfold ptL
     refine ⟨?_, fun l hl => by have := ckL_part hl; omega⟩
     rw [ckL_len]
     have : ∀ (n M r j : Nat), finJ n M r j ≤ j + r := by
      intro n M r
      induction r with
      | zero => intro j; exact Nat.le_refl _
      | succ r ih =>
       intro j
       rw [finJ]
       cases decide (j * M < n) with
       | true => have := ih (j + 1); simp only [cond_true]; omega
       | false => simp only [cond_false]; omega
     have := this ps.length m.toNat ps.length 0
     unfold nPt
     omega
    have cmW : CmOk (llD W) W.length := ⟨by rw [llOf_ll], by rw [llOf_ll], hWl.1, by rw [llOf_ll]; exact hWl.2⟩
    have pd := partDs_ll W
    have ld := llD_len W
    refine mc_run ncLo_one (mc_p ps.length m (cpD ps) W) ?_
    simp only [Alls, mlN3, hl, List.drop_zero, cp_all, cnL_cp, prsOf_cp, List.take_zero, tll, cnL_ll]
    repeat' (with_reducible apply And.intro)
    all_goals first | omega | (with_reducible assumption) | (with_reducible exact trivial) | (with_reducible rfl) | exact hl.symm | exact hLb.1 | exact hLb.2 | rfl | skip
open Go.ChangeShapes Go.WideShapes Go.ChangeAt Go.RowKit

section
variable {H : Type} {enc : TypeId × Value → H} {P : Program}

theorem trodAll_stays (hl : laidOutB P = true) {W W' : World} (hb : Below W.heap.size W W') {sp : Nat → Bool} :
  ∀ (ts : List TypeId) (vs : List Value) (ds : List (DataW H)) (ps : List MemPlace),
  (∀ t ∈ ts, P.readableRec t = true ∧ t < P.types.size) →
  DataW.TrodAll enc P W 0 (fun _ => true) true ts vs ds ps → (∀ x ∈ ps, x.block < W.heap.size) → (∀ p ∈ ps, sp p.block = true) →
  DataW.TrodAll enc P W' 0 sp true ts vs ds ps
 | [], [], [], _, _, h, _, _ => h
 | [], _ :: _, _, _, _, h, _, _ => by simp [DataW.TrodAll] at h
 | [], [], _ :: _, _, _, h, _, _ => by simp [DataW.TrodAll] at h
 | _ :: _, [], _, _, _, h, _, _ => by simp [DataW.TrodAll] at h
 | _ :: _, _ :: _, [], _, _, h, _, _ => by simp [DataW.TrodAll] at h
 | t :: ts, v :: vs, d :: ds, ps, hr, h, hlt, hs => by
   obtain ⟨p, q, h1, h2, e⟩ := h
   subst e
   exact ⟨p, q, WideElems.Trod_stays hl (hr t (by simp)).1 (hr t (by simp)).2 h1 (fun x hx => hb.same (hlt x (by simp [hx]))) (fun x hx => hs x (by simp [hx])),
    trodAll_stays hl hb ts vs ds q (fun t' ht' => hr t' (by simp [ht'])) h2 (fun x hx => hlt x (by simp [hx])) (fun x hx => hs x (by simp [hx])), rfl⟩

theorem trodAll_len {W : World} {b : Nat} {sp : Nat → Bool} {hd : Bool} : ∀ {ts : List TypeId} {vs : List Value} {ds : List (DataW H)} {ps : List MemPlace}, DataW.TrodAll enc P W b sp hd ts vs ds ps → ds.length = ts.length
 | [], [], [], _, _ => rfl
 | [], _ :: _, _, _, h => by simp [DataW.TrodAll] at h
 | [], [], _ :: _, _, h => by simp [DataW.TrodAll] at h
 | _ :: _, [], _, _, h => by simp [DataW.TrodAll] at h
 | _ :: _, _ :: _, [], _, h => by simp [DataW.TrodAll] at h
 | t :: ts, v :: vs, d :: ds, ps, h => by
   obtain ⟨p, q, h1, h2, e⟩ := h
   simp [trodAll_len h2]

def paramsFine (P : Program) (f : Func) : Bool := laidOutB P && f.params.toList.all (fun t => P.readableRec t && decide (t < P.types.size))

theorem law_post {f : Func} {s : ChangeSpec} {tb : TypeId} {apart fresh handsOn again : Bool} {W W' : World} {args : Array Value} {ds gs : List (DataW H)} {before : List MemPlace}
  (hfine : paramsFine P f = true) (hres : f.resultTypes = #[tb]) (htb : P.underlying tb = some .bool) (hvars : s.vars = [])
  (hspec : s.fn H (ds ++ []) = { results := [.lit (.bool true)], args := ds })
  (hW : DataW.Whole enc P f.params.toList s.vars apart W args.toList ds gs before)
  (hb : Below W.heap.size W W') : s.post enc P f apart fresh handsOn again W args (.bool true) W' := by
 have hW' := hW
 have hlt : ∀ p ∈ before, p.block < W.heap.size := fun p hp => hW.lt p hp
 obtain ⟨p, q, hA, hV, hpq, hz, hn⟩ := hW
 rw [hvars] at hV
 obtain ⟨rfl, rfl⟩ := trodVars_none hV
 obtain rfl : before = p := by simpa using hpq
 simp only [paramsFine, Bool.and_eq_true, List.all_eq_true, decide_eq_true_eq] at hfine
 have hargs : ∀ sp : Nat → Bool, (∀ x ∈ before, sp x.block = true) → DataW.TrodAll enc P W' 0 sp true f.params.toList args.toList ds before :=
  fun sp hsp => trodAll_stays hfine.1 hb _ _ _ _ hfine.2 hA hlt hsp
 have hresT : ∀ (b : Nat) (sp : Nat → Bool) (hd : Bool), DataW.TrodAll enc P W' b sp hd f.resultTypes.toList ((Value.bool true).resultList f.resultTypes.size) [.lit (.bool true)] [] := by
  intro b sp hd
  rw [hres]
  exact trodAll_cons_mk (shut_bool htb _) trodAll_mk0
 have hold : ∀ x ∈ before, (fun b => decide (b < W.heap.size)) x.block = true := fun x hx => by simpa using hlt x hx
 have hvT : ∀ sp : Nat → Bool, DataW.TrodVars enc P W' sp s.vars (s.fn H (ds ++ [])).vars [] := fun sp => by rw [hvars, hspec]; rfl
 refine ⟨ds, [], before, [], before, [], hW', ?_, ?_, hvT _, World.keptBut_mono (fun x hx => ⟨hx, .inr (.inl hx)⟩) (hb.frame (· ∈ before)), fun _ => ?_⟩
 ·rw [hspec]; exact hresT _ _ _
 ·rw [hspec]; exact hargs _ hold
 ·refine ⟨ok_one hres rfl (okWide_bool_mk htb _), [.lit (.bool true)] ++ ds, [], ([] ++ before) ++ [], ⟨[] ++ before, [], trodAll_append (hargs _ (fun _ _ => rfl)) (hresT _ _ _), (by rw [hvars]; rfl), rfl, ?_, ?_⟩, ?_⟩
  ·intro b off hp
   have hin : MemPlace.cell b off ∈ before := by simpa using hp
   rw [hb.frozen (hlt _ hin)]
   exact hz b off hin
  ·intro ha
   simpa using hn ha
  ·intro x hx _
   simpa using hx
end
end Go.Proofs.Ytmoflcoijmmpjaa
