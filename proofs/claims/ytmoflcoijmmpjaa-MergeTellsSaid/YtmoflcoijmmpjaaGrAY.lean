/-
  Contracts whose results may lie in older memory: a run at names of its own, over the same base.
-/
import Derived.Test.YtmoflcoijmmpjaaGrAP
import Derived.Test.YtmoflcoijmmpjaaGrAX
namespace Go.Proofs.Ytmoflcoijmmpjaa
set_option linter.unusedSimpArgs false
set_option linter.unusedVariables false
set_option linter.unusedSectionVars false
open Go Go.RowKit
def adKo : Kd → Bool
 | .shut => true
 | .room _ _ => true
 | .lent => true
 | .held _ => true
 | .mp _ => true
 | .of => true
 | .df _ _ _ => true
 | .ow => true
 | .sw _ => true
 | .dw _ _ _ => true
 | _ => false
theorem Tri.adoptW {P : Program} {f : FuncId} {args : List Value} {h : Hp} {nx k : Nat} {v : Value} {H : Hp} (hH : ∀ n, n < nx → lk H n = lk h n) (hHb : ∀ n r, nx ≤ n → lk H n = some r → lk h n = some r ∨ n < nx + k)
  (hw : ∀ W σ w args', Rl W σ h w → renL σ args = some args' → ∃ (σ0 : Sg) (args0 : List Value) (h0 : Hp) (nx0 : Nat) (v0 : Value) (h0' : Hp) (nx0' : Nat) (d0 : List Nat) (g : Nat → Nat) (f2 : Sg),
   Rl W σ0 h0 w ∧ ((∀ n r, lk h0 n = some r → ¬ r.own) ∧ (∀ n, sh σ0 n = []) ∧ ∀ n, ex σ0 n = []) ∧ (∀ n, nx0 ≤ n → σ0.b n = none ∧ σ0.c n = none) ∧ Bd h0 nx0 ∧ renL σ0 args0 = some args' ∧ Tri P f args0 h0 nx0 (v0, h0', nx0', d0) ∧
   (∀ n m o, f2.b n = some (m, o) → nx ≤ n ∧ n < nx + k ∧ m = g n ∧ o = 0) ∧ (∀ n q, f2.c n = some q → nx ≤ n ∧ n < nx + k ∧ q = capBig + g n) ∧ (∀ n, f2.f n ≠ none) ∧
   (∀ n r, nx ≤ n → n < nx + k → lk H n = some r → lk h n = none → ∃ s, lk h0' (g n) = some s ∧ s.kd = r.kd ∧ adKo r.kd = true ∧ renL f2 r.cs = some s.cs) ∧
   (∀ n m, nx ≤ n → n < nx + k → nx ≤ m → m < nx + k → g n = g m → n = m) ∧ renV f2 v = some v0) : Tri P f args h nx (v, H, nx + k, []) := by
 refine ⟨⟨Nat.le_add_right _ _, fun n hn _ => hH n hn, fun hB n hn => ?_⟩, fun hB W σ w args' hR hf ha' => ?_⟩
 ·cases hl : lk H n with
  | none => rfl
  | some r =>
   simp only at hn
   rcases hHb n r (by omega) hl with h1 | h1
   ·rw [hB n (by omega)] at h1; cases h1
   ·omega
 simp only at hf
 obtain ⟨σ0, args0, h0, nx0, v0, h0', nx0', d0, g, f2, hR0, ⟨hno, hsh0, hex0⟩, hfr, hB0, hargs, T, hf2b, hf2c, hf2f, hrow, hg, hv⟩ := hw W σ w args' hR ha'
 refine (T.2 hB0 W σ0 w args' hR0 (fun n h1 _ => hfr n h1) hargs).mono ?_
 rintro e w' ⟨σ', v', S, hv', rfl⟩
 have hblk : ∀ b, b < w.heap.size → w'.heap[b]? = w.heap[b]? := fun b hb => S.fr b hb (fun n r p hl ho _ => (hno n r hl ho).elim) fun n r _ hk => by rw [hex0] at hk; cases hk
 have hx : Ext w w' := ⟨S.rl.ext.os.trans hR.ext.os.symm, S.rl.ext.tape.trans hR.ext.tape.symm, S.rl.ext.output.trans hR.ext.output.symm, S.size, hblk⟩
 obtain ⟨fk, hfk⟩ : ∃ fk : Nat → Bool, fk = fun n => match lk H n with | some r => isF r.kd | none => false := ⟨_, rfl⟩
 obtain ⟨τ, hτ⟩ : ∃ τ : Sg, τ = ⟨fun n => if nx ≤ n ∧ n < nx + k then σ'.b (g n) else σ.b n, fun n => if nx ≤ n ∧ n < nx + k then σ'.c (g n) else σ.c n, fun n => if nx ≤ n ∧ n < nx + k then (σ'.f (g n)).map (fun F => (bif fk n then F.1 else [], [])) else σ.f n, fun n => if nx ≤ n ∧ n < nx + k then σ'.e (g n) else σ.e n, true⟩ := ⟨_, rfl⟩
 have tw : τ.w = true := by subst hτ; rfl
 have fn : ∀ n, nx ≤ n → n < nx + k → (τ.f n = none ↔ σ'.f (g n) = none) ∧ sh τ n = bif fk n then sh σ' (g n) else [] := fun n h1 h2 => by
  subst hτ
  simp only [sh, if_pos (And.intro h1 h2), Option.map_eq_none_iff, true_and]
  cases σ'.f (g n) <;> cases fk n <;> rfl
 have xn : ∀ n, nx ≤ n → n < nx + k → ex τ n = [] := fun n h1 h2 => by
  subst hτ
  simp only [ex, if_pos (And.intro h1 h2)]
  cases σ'.f (g n) <;> rfl
 have en : ∀ n, nx ≤ n → n < nx + k → τ.e n = σ'.e (g n) := fun n h1 h2 => by subst hτ; simp only [if_pos (And.intro h1 h2)]
 have eo_ : ∀ n, ¬ (nx ≤ n ∧ n < nx + k) → τ.e n = σ.e n := fun n h1 => by subst hτ; simp only [if_neg h1]
 have fo_ : ∀ n, ¬ (nx ≤ n ∧ n < nx + k) → τ.f n = σ.f n := fun n h1 => by subst hτ; simp only [if_neg h1]
 have tn : ∀ n, nx ≤ n → n < nx + k → τ.b n = σ'.b (g n) ∧ τ.c n = σ'.c (g n) := fun n h1 h2 => by subst hτ; simp only [if_pos (And.intro h1 h2), and_self]
 have to_ : ∀ n, ¬ (nx ≤ n ∧ n < nx + k) → τ.b n = σ.b n ∧ τ.c n = σ.c n := fun n h1 => by subst hτ; simp only [if_neg h1, and_self]
 have hle : σ.le τ := by
  refine ⟨fun n p e => ?_, fun n p e => ?_, fun n p e => ?_⟩
  rotate_left 2
  ·by_cases h1 : nx ≤ n ∧ n < nx + k
   ·rw [(hf n h1.1 h1.2).1] at e; cases e
   ·exact ⟨(to_ n h1).2, fo_ n h1, eo_ n h1, tw.trans hR.wf.symm⟩
  ·by_cases h1 : nx ≤ n ∧ n < nx + k
   ·rw [(hf n h1.1 h1.2).1] at e; cases e
   ·rw [(to_ n h1).1]; exact e
  ·by_cases h1 : nx ≤ n ∧ n < nx + k
   ·rw [(hf n h1.1 h1.2).2] at e; cases e
   ·rw [(to_ n h1).2]; exact e
 have b2 : ∀ n m o p, f2.b n = some (m, o) → σ'.b m = some p → τ.b n = some (p.1, p.2 + o) := fun n m o p e1 e2 => by
  obtain ⟨a1, a2, rfl, rfl⟩ := hf2b n m o e1
  rw [(tn n a1 a2).1]; exact e2
 have c2 : ∀ n q j, f2.c n = some q → cpR σ' q = some j → τ.c n = some j := fun n q j e1 e2 => by
  obtain ⟨a1, a2, rfl⟩ := hf2c n q e1
  rw [cpR_big] at e2
  rw [(tn n a1 a2).2]; exact e2
 have n2 : ∀ n m o, f2.b n = some (m, o) → f2.f n ≠ none ∧ (τ.f n = none ↔ σ'.f m = none) ∧ τ.e n = σ'.e m ∧ τ.w = σ'.w := fun n m o e1 => by
  obtain ⟨a1, a2, rfl, rfl⟩ := hf2b n m o e1
  exact ⟨hf2f n, (fn n a1 a2).1, en n a1 a2, tw.trans S.rl.wf.symm⟩
 have cls : ∀ n r, lk H n = some r → (lk h n = some r ∧ n < nx) ∨ (nx ≤ n ∧ n < nx + k ∧ ∃ s, lk h0' (g n) = some s ∧ s.kd = r.kd ∧ adKo r.kd = true ∧ renL f2 r.cs = some s.cs) := fun n r hl => by
  by_cases h1 : n < nx
  ·exact .inl ⟨by rw [← hH n h1]; exact hl, h1⟩
  ·rcases hHb n r (by omega) hl with h2 | h2
   ·rw [hB n (by omega)] at h2; cases h2
   ·exact .inr ⟨by omega, h2, hrow n r (by omega) h2 hl (hB n (by omega))⟩
 have newge : ∀ n s, lk h0' (g n) = some s → s.own → ∀ p, σ'.b (g n) = some p → w.heap.size ≤ p.1 := fun n s hl ho p hp => by
  rcases S.src _ _ _ hl ho hp with h1 | ⟨m, s0, q, h1, h2, _⟩
  ·exact h1
  ·exact (hno m s0 h1 h2).elim
 have newsh : ∀ n s kk, lk h0' n = some s → kk ∈ sh σ' n → w.heap.size ≤ kk := fun n s kk hl hk => by
  rcases S.ssrc _ _ _ hl hk with h1 | ⟨m, s0, q, h1, h2, _⟩ | ⟨m, s0, h1, h2⟩
  ·exact h1
  ·exact (hno m s0 h1 h2).elim
  ·rw [hsh0] at h2; cases h2
 have fsh : ∀ n r s, lk H n = some r → lk h0' (g n) = some s → s.kd = r.kd → nx ≤ n → n < nx + k → fk n = isF r.kd ∧ ∀ kk, kk ∈ sh τ n → kk ∈ sh σ' (g n) ∧ w.heap.size ≤ kk := fun n r s h1 h2 h3 h4 h5 => by
  have e : fk n = isF r.kd := by subst hfk; simp only [h1]
  refine ⟨e, fun kk hkk => ?_⟩
  rw [(fn n h4 h5).2, e] at hkk
  obtain ⟨b, c, vs, e1, e2, e3⟩ := S.rl.row _ _ h2
  rw [h3] at e3
  obtain ⟨kd, cs⟩ := r
  cases kd with
  | of => exact ⟨hkk, newsh _ _ _ h2 hkk⟩
  | df sz zz ds => exact ⟨hkk, newsh _ _ _ h2 hkk⟩
  | _ => cases hkk
 refine ⟨τ, v', ⟨hle, fun n hn => ?_, ⟨⟨hR.ext.trans hx, fun n r hl => ?_, fun n m r s p q hn hm ho hs hp hq e => ?_⟩, tw, fun n r hl ho => ?_, fun n r kk hl hkk => ?_, fun n r kk hl hkk => ?_⟩, hx.size, fun b hb _ _ => Below.block hx b hb, fun n r p hl ho hp => ?_, fun n r kk hl hkk => ?_, fun n r kk hl hkk => ?_⟩, renV_via b2 c2 n2 _ _ _ hv hv', rfl⟩
 ·simp only at hn
  exact to_ n (by omega)
 ·rcases cls n r hl with ⟨h1, h2⟩ | ⟨h1, h2, s, h3, h4, h5, h7⟩
  ·exact RowOk.ext hR h1 hx hle
  ·obtain ⟨b, c, vs, e1, e2, e3⟩ := S.rl.row _ _ h3
   refine ⟨b, c, vs, (tn n h1 h2).1.trans e1, renL_via b2 c2 n2 _ _ _ h7 e2, ?_⟩
   obtain ⟨ef, es⟩ := fsh n r s hl h3 h4 h1 h2
   have hst := (fn n h1 h2).2
   rw [h4] at e3
   obtain ⟨kd, cs⟩ := r
   simp only at e3 h5 ef ⊢
   have hW := hR.ext.size
   have hFk : ∀ {F : List Nat}, FOk W w' F → FOk W w' F := fun hh => hh
   cases kd with
   | shut => exact ⟨e3.1, e3.2.1, e3.2.2⟩
   | old => cases h5
   | lent => exact ⟨e3.1, e3.2.1, e3.2.2⟩
   | held m =>
    obtain ⟨g1, g2, t, rest, fr, j, g3, g4⟩ := e3
    exact ⟨g1, g2, t, rest, fr, j, (tn n h1 h2).2.trans g3, g4⟩
   | room size zz =>
    obtain ⟨g1, g2, t, rest, j, g3, g4⟩ := e3
    exact ⟨g1, g2, t, rest, j, (tn n h1 h2).2.trans g3, g4⟩
   | round st pe tm ps ak bd => cases h5
   | marks => cases h5
   | sd ds => cases h5
   | sw ds =>
    rw [ef] at hst
    unfold KdOk at e3 ⊢
    rw [show sh τ n = [] from hst]
    exact ⟨rfl, e3.2⟩
   | ox => cases h5
   | dx d2 size2 zz2 ds => cases h5
   | ow =>
    rw [ef] at hst
    unfold KdOk at e3 ⊢
    rw [show sh τ n = [] from hst]
    exact ⟨rfl, e3.2⟩
   | dp sz2 zz2 ds => cases h5
   | dw sz2 zz2 ds =>
    rw [ef] at hst
    obtain ⟨g0, g1, g2, g3, us, t, rest, j, g4, g5⟩ := e3
    unfold KdOk
    rw [show sh τ n = [] from hst]
    exact ⟨rfl, g1, g2, g3, us, t, rest, j, (tn n h1 h2).2.trans g4, g5⟩
   | of =>
    rw [ef] at hst
    unfold KdOk at e3 ⊢
    rw [show sh τ n = sh σ' (g n) from hst]
    exact ⟨hFk e3.1, e3.2⟩
   | df sz2 zz2 ds =>
    rw [ef] at hst
    obtain ⟨g0, g1, g2, g3, us, t, rest, j, g4, g5⟩ := e3
    unfold KdOk
    rw [show sh τ n = sh σ' (g n) from hst]
    exact ⟨hFk g0, g1, g2, g3, us, t, rest, j, (tn n h1 h2).2.trans g4, g5⟩
   | mp es => exact ⟨e3.1, e3.2.1, e3.2.2⟩
 ·rcases cls n r hn with ⟨a1, a2⟩ | ⟨a1, a2, s1, a3, a4, a5, a7⟩ <;> rcases cls m s hm with ⟨b1, b2'⟩ | ⟨b1, b2', s2, b3, b4, b5, b7⟩
  ·rw [(to_ n (by omega)).1] at hp
   rw [(to_ m (by omega)).1] at hq
   exact hR.inj n m r s p q a1 b1 ho hs hp hq e
  ·rw [(to_ n (by omega)).1] at hp
   rw [(tn m b1 b2').1] at hq
   have h1 := hR.lt a1 ho hp
   have h2 := newge m s2 b3 (by unfold Rw.own; rw [b4]; exact hs) q hq
   omega
  ·rw [(tn n a1 a2).1] at hp
   rw [(to_ m (by omega)).1] at hq
   have h1 := hR.lt b1 hs hq
   have h2 := newge n s1 a3 (by unfold Rw.own; rw [a4]; exact ho) p hp
   omega
  ·rw [(tn n a1 a2).1] at hp
   rw [(tn m b1 b2').1] at hq
   exact hg n m a1 a2 b1 b2' (S.rl.inj _ _ s1 s2 p q a3 b3 (by unfold Rw.own; rw [a4]; exact ho) (by unfold Rw.own; rw [b4]; exact hs) hp hq e)
 ·rcases cls n r hl with ⟨a1, a2⟩ | ⟨a1, a2, s1, a3, a4, a5, a7⟩
  ·rw [fo_ n (by omega)]; exact hR.shr.1 n r a1 ho
  ·intro e0
   exact S.rl.shr.1 _ s1 a3 (by unfold Rw.own; rw [a4]; exact ho) ((fn n a1 a2).1.1 e0)
 ·rcases cls n r hl with ⟨a1, a2⟩ | ⟨a1, a2, s1, a3, a4, a5, a7⟩
  ·have hk2 : kk ∈ sh σ n := by unfold sh at hkk ⊢; rw [fo_ n (by omega)] at hkk; exact hkk
   obtain ⟨g1, g2⟩ := hR.shr.2.1 n r kk a1 hk2
   refine ⟨Nat.lt_of_lt_of_le g1 hx.size, fun m s q hm hs hq => ?_⟩
   rcases cls m s hm with ⟨b1, b2'⟩ | ⟨b1, b2', s2, b3, b4, b5, b7⟩
   ·rw [(to_ m (by omega)).1] at hq
    exact g2 m s q b1 hs hq
   ·rw [(tn m b1 b2').1] at hq
    have h2 := newge m s2 b3 (by unfold Rw.own; rw [b4]; exact hs) q hq
    omega
  ·obtain ⟨g1, g2⟩ := (fsh n r s1 hl a3 a4 a1 a2).2 kk hkk
   obtain ⟨g3, g4⟩ := S.rl.shr.2.1 _ s1 kk a3 g1
   refine ⟨g3, fun m s q hm hs hq => ?_⟩
   rcases cls m s hm with ⟨b1, b2'⟩ | ⟨b1, b2', s2, b3, b4, b5, b7⟩
   ·rw [(to_ m (by omega)).1] at hq
    have := hR.lt b1 hs hq
    omega
   ·rw [(tn m b1 b2').1] at hq
    exact g4 _ s2 q b3 (by unfold Rw.own; rw [b4]; exact hs) hq
 ·rcases cls n r hl with ⟨a1, a2⟩ | ⟨a1, a2, s1, a3, a4, a5, a7⟩
  ·have hk2 : kk ∈ ex σ n := by unfold ex at hkk ⊢; rw [fo_ n (by omega)] at hkk; exact hkk
   obtain ⟨g1, g2, g3⟩ := hR.shr.2.2 n r kk a1 hk2
   refine ⟨Nat.lt_of_lt_of_le g1 hx.size, fun m s q hm hs hq => ?_, fun m s hm => ?_⟩
   ·rcases cls m s hm with ⟨b1, b2'⟩ | ⟨b1, b2', s2, b3, b4, b5, b7⟩
    ·rw [(to_ m (by omega)).1] at hq
     exact g2 m s q b1 hs hq
    ·rw [(tn m b1 b2').1] at hq
     have h2 := newge m s2 b3 (by unfold Rw.own; rw [b4]; exact hs) q hq
     omega
   ·rcases cls m s hm with ⟨b1, b2'⟩ | ⟨b1, b2', s2, b3, b4, b5, b7⟩
    ·unfold sh ex
     rw [fo_ m (by omega)]
     exact g3 m s b1
    ·refine ⟨fun hm2 => ?_, fun hm2 => ?_⟩
     ·have := ((fsh m s s2 hm b3 b4 b1 b2').2 kk hm2).2; omega
     ·rw [xn m b1 b2'] at hm2; cases hm2
  ·rw [xn n a1 a2] at hkk; cases hkk
 ·rcases cls n r hl with ⟨a1, a2⟩ | ⟨a1, a2, s1, a3, a4, a5, a7⟩
  ·rw [(to_ n (by omega)).1] at hp
   exact .inr ⟨n, r, p, a1, ho, hp, rfl⟩
  ·rw [(tn n a1 a2).1] at hp
   exact .inl (newge n s1 a3 (by unfold Rw.own; rw [a4]; exact ho) p hp)
 ·rcases cls n r hl with ⟨a1, a2⟩ | ⟨a1, a2, s1, a3, a4, a5, a7⟩
  ·have hk2 : kk ∈ sh σ n := by unfold sh at hkk ⊢; rw [fo_ n (by omega)] at hkk; exact hkk
   exact .inr (.inr ⟨n, r, a1, hk2⟩)
  ·exact .inl ((fsh n r s1 hl a3 a4 a1 a2).2 kk hkk).2
 ·rcases cls n r hl with ⟨a1, a2⟩ | ⟨a1, a2, s1, a3, a4, a5, a7⟩
  ·have hk2 : kk ∈ ex σ n := by unfold ex at hkk ⊢; rw [fo_ n (by omega)] at hkk; exact hkk
   exact .inr (.inr ⟨n, r, a1, hk2⟩)
  ·rw [xn n a1 a2] at hkk; cases hkk
theorem DRs.old {W w w1 : World} {ds : List DV} {b s : Nat} (h : DRs W w [] b s ds) : DRs W w1 [] b s ds := DRs.keep (fun k hk => by cases hk) ds b s h
def rdO (h : Hp) : Pd → Value → Option (Dv × List Prop)
 | .f, v => bif flat1 v then some (.fl v, []) else none
 | .s, .slice none 0 0 => some (.sl [] 0, [])
 | .s, .slice (some ⟨n, 0, none⟩) len _ => (match lk h n with
  | some ⟨.ow, cs⟩ => some (.sl cs len, [(∀ τ, renL τ cs = some cs) ∧ (len = 0 → cs = [])])
  | _ => none)
 | .e _, .slice none 0 0 => some (.dl [] 0, [])
 | .e size, .slice (some ⟨n, o, none⟩) len _ => (match lk h n with
  | some ⟨.sw ds, _⟩ => some (.dl (cnL ((ds.drop o).take (mlN len size))) len, [])
  | _ => none)
 | _, _ => none
def rdOs (h : Hp) : List Pd → List Value → Option (List Dv × List Prop)
 | [], [] => some ([], [])
 | p :: ps, v :: vs => (match rdO h p v, rdOs h ps vs with
  | some (a, o1), some (aL, o2) => some (a :: aL, o1 ++ o2)
  | _, _ => none)
 | _, _ => none
theorem rdO_ok {h : Hp} {p : Pd} {v : Value} {a : Dv} {ob : List Prop} (hr : rdO h p v = some (a, ob)) (ho : Alls ob) {W : World} {σ : Sg} {w : World} {v' : Value} (hR : Rl W σ h w) (hv : renV σ v = some v') : ∃ c, a.at W v' c ∧ CapOk c a := by
 unfold rdO at hr
 split at hr
 ·obtain ⟨hf, hr⟩ := bif_of hr
  simp only [oI, pI] at hr
  obtain ⟨rfl, rfl⟩ := hr
  rw [flat1_ren hf] at hv
  exact ⟨0, ⟨(Option.some.inj hv).symm, flat1_ren hf⟩, trivial⟩
 ·simp only [oI, pI] at hr
  obtain ⟨rfl, rfl⟩ := hr
  simp only [renV, oI] at hv
  subst hv
  exact ⟨0, ⟨fun τ => rfl, DR.nil rfl rfl (.inl rfl)⟩, trivial⟩
 ·rename_i n len c
  split at hr
  case h_2 => cases hr
  rename_i cs hl
  simp only [oI, pI] at hr
  obtain ⟨rfl, rfl⟩ := hr
  obtain ⟨⟨h2, h3⟩, _⟩ := ho
  refine ⟨0, ⟨h2, ?_⟩, trivial⟩
  obtain ⟨b, s, vs, hb, hvs, hk⟩ := hR.row n _ hl
  simp only at hvs
  rw [h2 σ] at hvs
  cases hvs
  rcases renV_slice hv with ⟨p', c', hb', hcp, rfl, _⟩ | ⟨hnn, hz, hcp, rfl⟩
  ·rw [hb] at hb'
   cases hb'
   refine DR.mk ⟨renV_len hR.wf hv, fun k e => by cases e⟩ ?_
   rcases hk.2 with e | ⟨e1, e2⟩
   ·exact .inl (by rw [e]; rfl)
   ·exact .inr (drs_of h2 (.inl ⟨e1, e2⟩))
  ·exact DR.nil hz (by rw [h3 hz]; rfl) (.inl rfl)
 ·simp only [oI, pI] at hr
  obtain ⟨rfl, rfl⟩ := hr
  simp only [renV, oI] at hv
  subst hv
  exact ⟨0, DR.nil rfl rfl (.inl rfl), trivial⟩
 ·rename_i size n o len c
  split at hr
  case h_2 => cases hr
  rename_i ds cs hl
  simp only [oI, pI] at hr
  obtain ⟨rfl, rfl⟩ := hr
  rw [mlN_eq]
  refine ⟨0, ?_, trivial⟩
  show DR W W [] _ _
  obtain ⟨b, s, vs, hb, _, hk⟩ := hR.row n _ hl
  rcases renV_slice hv with ⟨p', c', hb', hcp, rfl, _⟩ | ⟨hnn, hz, hcp, rfl⟩
  ·rw [hb] at hb'
   cases hb'
   refine DR.mk ⟨renV_len hR.wf hv, fun k e => by cases e⟩ ?_
   rcases hk.2.2 with e | e
   ·exact .inl (by rw [e]; simp [cnL])
   ·rcases (DRs.old (w1 := W) e).drop o with e | e
    ·exact .inl (by rw [e]; simp [cnL])
    ·exact .inr (DRs.canon _ _ _ (e.take _))
  ·exact DR.nil hz (by rw [hz]; simp [cnL]) (.inl rfl)
 ·cases hr
theorem rdOs_ok {h : Hp} {W : World} {σ : Sg} {w : World} (hR : Rl W σ h w) : ∀ {ps : List Pd} {vs : List Value} {aL : List Dv} {ob : List Prop} {us : List Value}, rdOs h ps vs = some (aL, ob) → Alls ob → renL σ vs = some us → ∃ cs, DvAts W aL us cs
 | [], [], aL, ob, us, hr, _, hv => by
   simp only [rdOs, oI, pI] at hr
   obtain ⟨rfl, _⟩ := hr
   simp only [renL, oI] at hv
   subst hv
   exact ⟨[], trivial⟩
 | p :: ps, v :: vs, aL, ob, us, hr, ho, hv => by
   obtain ⟨u, us', hu, hus, rfl⟩ := renL_cons hv
   simp only [rdOs] at hr
   split at hr
   case h_2 => cases hr
   rename_i a o1 aL' o2 h1 h2
   simp only [oI, pI] at hr
   obtain ⟨rfl, rfl⟩ := hr
   obtain ⟨g1, g2⟩ := Alls_app.1 ho
   obtain ⟨c, k1, k2⟩ := rdO_ok h1 g1 hR hu
   obtain ⟨cs, k3⟩ := rdOs_ok hR h2 g2 hus
   exact ⟨c :: cs, ⟨k1, k2⟩, k3⟩
 | [], _ :: _, aL, ob, us, hr, _, _ => by simp [rdOs] at hr
 | _ :: _, [], aL, ob, us, hr, _, _ => by simp [rdOs] at hr
theorem dvs_rlW {W w : World} (hx : Ext W w) {aL : List Dv} {us : List Value} {cs : List Nat} (h : DvAts W aL us cs) : ∃ σ, Rl W σ (dvH aL cs 0) w ∧ ((∀ n r, lk (dvH aL cs 0) n = some r → ¬ r.own) ∧ (∀ n, sh σ n = []) ∧ ∀ n, ex σ n = []) ∧ renL σ (dvV aL cs 0) = some us ∧ (∀ n, 2 * aL.length ≤ n → σ.b n = none ∧ σ.c n = none) ∧ Bd (dvH aL cs 0) (2 * aL.length) := by
 obtain ⟨ps, g1, g2, g3⟩ := dvs_pl h
 obtain ⟨f1, f2⟩ := g3 (sgL ps) 0 fun j p hp => by rw [Nat.zero_add]; exact sgL_on hp
 have hsh : ∀ n, sh (sgL ps) n = [] := fun n => by
  unfold sh
  simp only [sgL]
  split
  ·rename_i p hp
   have := g2 p (List.mem_of_getElem? hp)
   cases hh : p.f with
   | none => rfl
   | some l => rw [hh] at this; exact this
  ·rfl
 have hex : ∀ n, ex (sgL ps) n = [] := fun n => by
  unfold ex
  simp only [sgL]
  split
  ·rename_i p hp; cases p.f <;> rfl
  ·rfl
 have hR0 : Rl W (sgL ps) (dvH aL cs 0) W := ⟨⟨Ext.refl W, fun n r e => (f2 n r e).2.2.1, fun n m r s p q hn hm ho => absurd (f2 n r hn).2.2.2 ho⟩, rfl, fun n r hn ho => absurd (f2 n r hn).2.2.2 ho, fun n r k hn hk => (by rw [hsh] at hk; cases hk), fun n r k hn hk => (by rw [hex] at hk; cases hk)⟩
 refine ⟨sgL ps, ⟨⟨hx, fun n r e => RowOk.ext hR0 e hx (Sg.le.refl _), fun n m r s p q hn hm ho => absurd (f2 n r hn).2.2.2 ho⟩, rfl, fun n r hn ho => absurd (f2 n r hn).2.2.2 ho, fun n r k hn hk => (by rw [hsh] at hk; cases hk), fun n r k hn hk => (by rw [hex] at hk; cases hk)⟩, ⟨fun n r hn ho => absurd (f2 n r hn).2.2.2 ho, hsh, hex⟩, f1, fun n hn => sgL_out (by omega), fun n hn => ?_⟩
 cases hl : lk (dvH aL cs 0) n with
 | none => rfl
 | some r => have := (f2 n r hl).2.1; omega
structure GrO (gr : Gr) (v0 : Value) (h0' : Hp) (g : Nat → Nat) : Prop where
 v : ∀ nx, renV (f2s nx gr.rows.length g) (gr.v nx) = some v0
 rows : ∀ j r, gr.rows[j]? = some r → Fl r.cs ∧ adKo r.kd = true ∧ lk h0' (g j) = some r
 inj : ∀ i j, i < gr.rows.length → j < gr.rows.length → g i = g j → i = j
def GOkO (P : Program) (f0 : FuncId) (G : GSpecD) : Prop := ∀ aL tp gr tp' ob, G aL tp = some (gr, tp', ob) → Alls ob → ∀ cs, CapsD aL cs → ∃ v0 h0' nx0' d0 g, Tri P f0 (dvV aL cs 0) (dvH aL cs 0) (2 * aL.length) (v0, h0', nx0', d0) ∧ GrO gr v0 h0' g
def mkO (f0 : FuncId) (ps : List Pd) (G : GSpecD) : TFun := fun f args h nx tp => bif Nat.beq f f0 then some (match rdOs h ps args with
 | some (aL, o1) => (match G aL tp with
  | some (gr, tp', o2) => .ok ((gr.v nx, rowsN nx gr.rows h, nx + gr.rows.length, []), tp', o1 ++ o2)
  | none => .no)
 | none => .no) else none
theorem mkO_ok {P : Program} {f0 : FuncId} {ps : List Pd} {G : GSpecD} (H : GOkO P f0 G) : TOneZ P (mkO f0 ps G) := fun f args h nx tp out tp' ob e ho => by
 unfold mkO at e
 rcases bif_or e with ⟨hf, e1⟩ | ⟨_, e1⟩
 case inr => cases e1
 clear e
 obtain rfl := Nat.eq_of_beq_eq_true hf
 have e := Option.some.inj e1
 clear e1
 split at e
 case h_2 => cases e
 rename_i aL o1 hr
 split at e
 case h_2 => cases e
 rename_i gr tp2 o2 hG
 simp only [Res.ok.injEq, pI] at e
 obtain ⟨rfl, rfl, rfl⟩ := e
 obtain ⟨g1, g2⟩ := Alls_app.1 ho
 refine Tri.adoptW (k := gr.rows.length) (fun n hn => ?_) (fun n r hn hlk => ?_) fun W σ w args' hR ha => ?_
 ·rw [lk_rowsN, if_neg (by omega)]
 ·rw [lk_rowsN] at hlk
  split at hlk
  ·rename_i hc; exact .inr hc.2
  ·exact .inl hlk
 obtain ⟨cs, hAt⟩ := rdOs_ok hR hr g1 ha
 obtain ⟨σ0, h1, hno, h2, h3, h4⟩ := dvs_rlW hR.ext hAt
 obtain ⟨v0, h0', nx0', d0, g, T, I⟩ := H _ _ _ _ _ hG g2 _ hAt.caps
 refine ⟨σ0, _, _, _, v0, h0', nx0', d0, fun n => g (n - nx), f2s nx gr.rows.length g, h1, hno, h3, h4, h2, T, fun n m o e => ?_, fun n q e => ?_, (fun n e => by simp [f2s] at e), fun n r hn hn2 hlk _ => ?_, fun n m a1 a2 b1 b2 e => ?_, I.v nx⟩
 ·simp only [f2s] at e
  split at e
  ·rename_i hc; cases e; exact ⟨hc.1, hc.2, rfl, rfl⟩
  ·cases e
 ·simp only [f2s] at e
  split at e
  ·rename_i hc; cases e; exact ⟨hc.1, hc.2, rfl⟩
  ·cases e
 ·rw [lk_rowsN, if_pos ⟨hn, hn2⟩] at hlk
  obtain ⟨i1, i2, i4⟩ := I.rows _ _ hlk
  exact ⟨r, i4, rfl, i2, i1 _⟩
 ·have := I.inj (n - nx) (m - nx) (by omega) (by omega) e
  omega
def rfTab : FuncId → List Nat := fun f => bif Nat.beq f 15 then [11, 20, 34] else []
def rfSy : FuncId → Nat → Option Nat := lsSy 15 [(11, 0), (13, 0), (17, 0), (18, 37), (20, 0), (22, 0), (25, 0), (26, 37), (28, 0), (29, 0), (30, 32), (31, 0), (33, 0), (34, 0), (37, 0), (38, 37), (40, 0), (41, 36)]
def rfV (L : LFun) : Tv := ⟨noTz, cmpY, L, rfTab, rfSy, fun _ => [], fun _ => 0⟩
theorem rf_go (inr : Bool) (n m i k : Nat) (ds : List DV) (ks : List Value) : prjP [0, 1, 4, 6, 7] 100 (codeZ (rfV noL) Try.prog (runZ (rfV noL) Try.prog 9) 15 inr 100000 (bodyIn Try.prog 15 5) (SL 43 [(0, llA n), (1, kyV m), (4,
 cpV), (6, iV i), (7, iV k)]) (fdH ds ks) 100 [true, false])
 =
  (let a4 := (↑i : Int); let a2 := (k * 3 + 0 + 0); let a1 := (dSub ds (i + 0)); let a3 := (intsOf (List.take (dLen a1 a2) (dVals a1 a2))); Res.ok ((Xt.normal, 43, [(0, Value.slice (some (Addr.mk 0 0 none)) n 18446744073709551616), (1, Value.slice (some (Addr.mk 2 0 none)) m (capBig + 2)), (4, Value.pointer (some (Addr.mk 4 0 none))), (6, Value.int IntKind.i64 a4), (7, Value.int IntKind.i64 (↑(k + 1) : Int))], [(100, Rw.mk (Kd.sw a1) []), (4, Rw.mk Kd.shut [Value.slice none 0 0, Value.slice none 0 0, Value.bool false]), (0, Rw.mk (Kd.sw ds) []), (2, Rw.mk Kd.ow ks), (101, Rw.mk (Kd.sw a1) [])], 103, [], []), [], [(0 : Int) ≤ a4 ∧ a4 < (↑n : Int), ShOb Try.prog 27 true true ds i 100, decide ((↑k : Int) < (↑(dLen ds (i + 0)) : Int)) = true, (0 : Int) ≤ a4 ∧ a4 < (↑n : Int), ShOb Try.prog 27 true true ds i 101, (0 : Int) ≤ (↑k : Int) ∧ (↑k : Int) < (↑(dLen ds (i + 0)) : Int), ShOb Try.prog 23
 false true a1 (k * 3 + 0) 102, dLen a1 a2 ≤ List.length (dVals a1 a2), List.take (dLen a1 a2) (dVals a1 a2) = List.map (Value.int IntKind.u8) a3, m ≤ List.length ks, List.take m ks = List.map (Value.int IntKind.u8) (intsOf (List.take m ks)), strEq (strOfI a3) (strOfI (intsOf (List.take m ks))) = false, rg IntKind.i64 (↑(k + 1) :
 Int)])) := by kernel_rfl
theorem rf_hit (inr : Bool) (n m i k : Nat) (ds : List DV) (ks : List Value) : prjP [4, 5] 100 (codeZ (rfV noL) Try.prog (runZ (rfV noL) Try.prog 9) 15 inr 100000 (bodyIn Try.prog 15 5) (SL 43 [(0, llA n), (1, kyV m), (4, cpV),
 (6, iV i), (7, iV k)]) (fdH ds ks) 100 [true, true])
 =
  (let a6 := (↑k : Int); let a5 := (↑i : Int); let a3 := (↑(dLen ds (i + 0)) : Int); let a2 := (k * 3 + 0 + 0); let a1 := (dSub ds (i + 0)); let a4 := (intsOf (List.take (dLen a1 a2) (dVals a1 a2))); Res.ok ((Xt.ret, 43, [(4, Value.pointer (some (Addr.mk 4 0 none))), (5, Value.bool true)], [(105, Rw.mk Kd.ow (dVals a1 (k * 3 + 1))), (104, Rw.mk Kd.ow (dVals a1 (k * 3 + 0))), (103, Rw.mk (Kd.sw a1) []), (100, Rw.mk (Kd.sw a1) []), (4, Rw.mk Kd.shut [Value.slice (some (Addr.mk 104 0 none)) (dLen a1 (k * 3 + 0)) (capBig + 104), Value.slice (some (Addr.mk 105 0 none)) (dLen a1 (k * 3 + 1)) (capBig + 105), Value.bool (dBool a1 (k * 3 + 2))]), (0, Rw.mk (Kd.sw ds) []), (2, Rw.mk Kd.ow ks), (101, Rw.mk (Kd.sw a1) [])], 106, [4], []), [], [(0 : Int) ≤ a5 ∧ a5 < (↑n : Int), ShOb Try.prog 27 true true ds i 100, decide (a6 < a3) = true, (0 : Int) ≤ a5 ∧ a5 < (↑n : Int), ShOb Try.prog 27 true true ds
 i 101, (0 : Int) ≤ a6 ∧ a6 < a3, ShOb Try.prog 23 false true a1 (k * 3 + 0) 102, dLen a1 a2 ≤ List.length (dVals a1 a2), List.take (dLen a1 a2) (dVals a1 a2) = List.map (Value.int IntKind.u8) a4, m ≤ List.length ks, List.take m ks = List.map (Value.int IntKind.u8) (intsOf (List.take m ks)), strEq (strOfI a4) (strOfI (intsOf (List.take m ks))) = true, (0 : Int) ≤ a5 ∧ a5 < (↑n : Int), ShOb Try.prog 27 true true ds i 103, (0 : Int) ≤ a6 ∧ a6 < a3, ShOb Try.prog 32 false true a1 (k * 3)
 104])) := by kernel_rfl
theorem rf_end (inr : Bool) (n m i k : Nat) (ds : List DV) (ks : List Value) : prjP [0, 1, 4, 6] 100 (codeZ (rfV noL) Try.prog (runZ (rfV noL) Try.prog 9) 15 inr 100000 (bodyIn Try.prog 15 5) (SL 43 [(0, llA n), (1, kyV m), (4, cpV), (6, iV i), (7, iV k)]) (fdH ds ks) 100 [false]) =
 Res.ok ((Xt.exit 2, 43, [(0, Value.slice (some (Addr.mk 0 0 none)) n 18446744073709551616), (1, Value.slice (some (Addr.mk 2 0 none)) m (capBig + 2)), (4, Value.pointer (some (Addr.mk 4 0 none))), (6, Value.int IntKind.i64 (↑i : Int))], [(100, Rw.mk (Kd.sw (dSub ds (i + 0))) []), (4, Rw.mk Kd.shut [Value.slice none 0 0, Value.slice none 0 0, Value.bool false]), (0, Rw.mk (Kd.sw ds) []), (2, Rw.mk Kd.ow ks)], 101, [], []), [], [(0 : Int) ≤ (↑i : Int) ∧ (↑i : Int) < (↑n : Int), ShOb Try.prog 27 true true ds i 100, decide ((↑k : Int) < (↑(dLen ds (i + 0)) : Int)) = false]) := by kernel_rfl
theorem rfX {L : LFun} : XOkZ (rfV L) Try.prog := XOneZ.ok cmpY_ok rfl
theorem rfT {L : LFun} : TOkZ (rfV L) Try.prog := noTz_okV rfl
theorem rfL : LOkZ (rfV noL) Try.prog := noL_okV rfl
def rjS (n m i k : Nat) : List (Nat × Value) := [(0, llA n), (1, kyV m), (4, cpV), (6, iV i), (7, iV k)]
def rhH (A : Nat) (p : Pr) (ds : List DV) (ks : List Value) : Hp := [(4, ⟨.shut, mwC A p.1.length p.2.1.length p.2.2⟩), (A, ⟨.ow, byV p.1⟩), (A + 1, ⟨.ow, byV p.2.1⟩), (0, ⟨.sw ds, []⟩), (2, ⟨.ow, ks⟩)]
def riO (n m i : Nat) (ds : List DV) (ks : List Value) (o : Option Pr) : LO := match o with
 | none => (.exit 2, [(0, llA n), (1, kyV m), (4, cpV), (6, iV i)], fdH ds ks)
 | some p => (.ret, [(4, cpV), (5, .bool true)], rhH 80 p ds ks)
theorem rj_loop {inr : Bool} {h0 : Hp} {L : List (List Pr)} {ks : List Value} {K : List Int} {n m i : Nat} {l : List Pr} (hK : FdK ks m K) (hL : FdLL L n) (hx : L[i]? = some l) : ∀ (r k : Nat), k + r = l.length →
  LRuns inr Try.prog (bodyIn Try.prog 15 5) 60 200 h0 43 (rjS n m i k) (fdH (llD L) ks) 100 (riO n m i (llD L) ks (fnL (l.drop k) K))
 | 0, k, hr => by
   have hl := hL.l
   have hn9 := hL.n9
   have hi : i < L.length := (List.getElem?_eq_some_iff.1 hx).1
   have A := ll_at hx
   rw [List.drop_of_length_le (by omega)]
   refine LRuns.exit (code_runsP rfX rfL (runZ_ok rfX rfT rfL mixed 9) mixed (rf_end inr n m i k (llD L) ks) ?_) (by intro e; cases e) rfl (by omega) (by omega) (fun n => n) ?_ ?_ rfl
   ·simp only [Alls, rg, decide_eq_true_eq, decide_eq_false_iff_not, Nat.add_zero, A.n, A.s]
    repeat' (with_reducible apply And.intro)
    all_goals first | omega | exact A.o _ | (with_reducible exact trivial)
   ·exact ⟨rfl, rb_slg rfl rfl, rfl, rb_slg rfl rfl, rfl, rfl, rfl, rfl, trivial⟩
   ·exact ⟨sh_row (m := 4) rfl rfl rfl, sw_row (m := 0) rfl rfl, ow_row (m := 2) rfl rfl (by rw [hK.e]; exact byV_ren _), trivial⟩
 | r + 1, k, hr => by
   have hl := hL.l
   have hn9 := hL.n9
   have hi : i < L.length := (List.getElem?_eq_some_iff.1 hx).1
   have A := ll_at hx
   have fl := hL.L l (List.mem_of_getElem? hx)
   have l9 := fl.l9
   have hj : k < l.length := by omega
   obtain ⟨p, hp⟩ : ∃ p, l[k] = p := ⟨_, rfl⟩
   have F := (cpD_prs l).facts (i := k) (p := p) (by rw [← hp]; exact List.getElem?_eq_getElem hj)
   have hm : p ∈ l := by rw [← hp]; exact List.getElem_mem hj
   have hd : l.drop k = p :: l.drop (k + 1) := by rw [List.drop_eq_getElem_cons hj, hp]
   have f0 := F.l0
   have f1 := F.l1
   have v0 := F.v0
   have v1 := F.v1
   have fg := F.g
   have bp := (fl.O p hm).1
   have z0 := (fl.z p hm).k
   have z1 := (fl.z p hm).v
   have hKK := hK
   obtain ⟨rfl, rfl, bK⟩ := hK
   have hse0 := strEq_I bp bK
   rw [hd]
   by_cases hk : p.1 = K
   ·have e : fnL (p :: l.drop (k + 1)) K = some p := by simp [fnL, hk]
    rw [e]
    rw [decide_eq_true hk] at hse0
    refine LRuns.exit (code_runsP rfX rfL (runZ_ok rfX rfT rfL mixed 9) mixed (rf_hit inr n K.length i k (llD L) (byV K)) ?_) (by intro e; cases e) rfl (by omega) (by omega) (fun n => bif Nat.beq n 80 then 104 else bif Nat.beq n 81 then 105 else n) ?_ ?_ rfl
    ·
     simp only [Alls, rg, decide_eq_true_eq, decide_eq_false_iff_not, Nat.add_zero, Nat.zero_add, Nat.mul_one, ixO_eq, Int.toNat_natCast, A.n, A.s, f0, f1, v0, v1, tk_by, byV_ints, byV_len]
     repeat' (with_reducible apply And.intro)
     all_goals first | omega | (with_reducible assumption) | exact A.o _ | exact F.o27 _ | exact F.o29 _ | (with_reducible exact trivial) | (with_reducible rfl) | exact byV_eq _ | exact a1_by _ | exact byV_ren _ | exact fun e => nil_by e | skip
    ·exact ⟨rfl, rfl, rfl, rfl, trivial⟩
    ·refine ⟨sh_row (m := 4) rfl (sh_eq ?_) (mw2_ren (B := 104) (C := 105) rfl rfl rfl rfl (fun n => by intro e; cases e) rfl), ow_row (m := 104) rfl (ow_eq ?_) (byV_ren _), ow_row (m := 105) rfl (ow_eq ?_) (byV_ren _), sw_row (m := 0) rfl rfl, ow_row (m := 2) rfl rfl (byV_ren _), trivial⟩
     ·simp only [Nat.add_zero, A.n, A.s, f0, f1, fg]
      first | done | rfl
     ·simp only [Nat.add_zero, A.n, A.s, v0]
     ·simp only [Nat.add_zero, A.n, A.s, v1]
   ·have e : fnL (p :: l.drop (k + 1)) K = fnL (l.drop (k + 1)) K := by simp [fnL, hk]
    rw [e]
    rw [decide_eq_false hk] at hse0
    refine LRuns.step (code_runsP rfX rfL (runZ_ok rfX rfT rfL mixed 9) mixed (rf_go inr n K.length i k (llD L) (byV K)) ?_) rfl (by omega) (by omega) (fun n => n) ?_ ?_ rfl (rj_loop hKK hL hx r (k + 1) (by omega))
    ·
     simp only [Alls, rg, decide_eq_true_eq, decide_eq_false_iff_not, Nat.add_zero, Nat.zero_add, Nat.mul_one, ixO_eq, Int.toNat_natCast, A.n, A.s, f0, f1, v0, v1, tk_by, byV_ints, byV_len]
     repeat' (with_reducible apply And.intro)
     all_goals first | omega | (with_reducible assumption) | exact A.o _ | exact F.o27 _ | exact F.o29 _ | (with_reducible exact trivial) | (with_reducible rfl) | exact byV_eq _ | exact a1_by _ | exact byV_ren _ | exact fun e => nil_by e | skip
    ·exact ⟨rfl, rb_slg rfl rfl, rfl, rb_slg rfl rfl, rfl, rfl, rfl, rfl, rfl, rfl, trivial⟩
    ·exact ⟨sh_row (m := 4) rfl rfl rfl, sw_row (m := 0) rfl rfl, ow_row (m := 2) rfl rfl (byV_ren _), trivial⟩
structure RjOk (ds : List DV) (ks : List Value) (m n i : Nat) : Prop where
 K : FdK ks m (intsOf ks)
 e : ds = llD (llOf ds)
 L : FdLL (llOf ds) n
 i : i < n
def rjPk (live : List (Nat × Value)) (h : Hp) : Option ((Nat × Nat × Nat) × List DV × List Value) := match live, lk h 0, lk h 2 with
 | (_, .slice _ n _) :: (_, .slice _ m _) :: _ :: (_, .int _ i) :: _, some ⟨.sw ds, _⟩, some ⟨.ow, ks⟩ => some ((n, m, i.toNat), ds, ks)
 | _, _, _ => none
def rjSp (p : Pr) : LSpec := lspec rjPk (fun a => (rjS a.1.1 a.1.2.1 a.1.2.2 0, fdH a.2.1 a.2.2, 60)) (fun a tp => match tp with
 | false :: tp' => some ((.exit 2, [(0, llA a.1.1), (1, kyV a.1.2.1), (4, cpV), (6, iV a.1.2.2)], fdH a.2.1 a.2.2, 200, []), tp', [RjOk a.2.1 a.2.2 a.1.2.1 a.1.1 a.1.2.2, fnL (gL (llOf a.2.1) a.1.2.2) (intsOf a.2.2) = none])
 | true :: tp' => some ((.ret, [(4, cpV), (5, .bool true)], rhH 80 p a.2.1 a.2.2, 200, [4]), tp', [RjOk a.2.1 a.2.2 a.1.2.1 a.1.1 a.1.2.2, fnL (gL (llOf a.2.1) a.1.2.2) (intsOf a.2.2) = some p])
 | [] => none)
theorem gL_atR {L : List (List Pr)} {i : Nat} (h : i < L.length) : L[i]? = some (gL L i) := by
 unfold gL
 rw [List.getElem?_eq_getElem h]
 rfl
theorem rjSp_ok (p : Pr) : LSOk Try.prog 43 [0, 1, 4, 6, 7] (bodyIn Try.prog 15 5) (rjSp p) := by
 refine lspec_ok fun a tp xt l2 h2 nx2 d tp' ob hs ho inr ts hn hg => ?_
 obtain ⟨⟨n, m, i⟩, ds, ks⟩ := a
 simp only at hs hg
 have fin : RjOk ds ks m n i → ∀ key d, key = riO n m i ds ks (fnL (gL (llOf ds) i) (intsOf ks)) → Tidy (fdH ds ks) 60 key.2.2 200 d → Runs inr (fun F m Q => Code.againIn F m Try.prog (bodyIn Try.prog 15 5) Q) ts (fdH ds ks) 60 (key.1, SL 43 key.2.1, key.2.2, 200, d, []) := fun h key d hk hT => by
  have hl := h.L.l
  have hi := h.i
  have q := rj_loop (inr := inr) (h0 := fdH ds ks) h.K h.L (gL_atR (show i < (llOf ds).length by omega)) (gL (llOf ds) i).length 0 (by omega)
  rw [List.drop_zero, ← h.e, ← hk] at q
  refine LRuns.enter (N := 100) (l2 := rjS n m i 0) hn hg (by omega) (by omega) (fun n => n) ?_ ?_ rfl q hT
  ·exact ⟨rfl, rb_slg rfl rfl, rfl, rb_slg rfl rfl, rfl, rfl, rfl, rfl, rfl, rfl, trivial⟩
  ·exact ⟨sh_row (m := 4) rfl rfl rfl, sw_row (m := 0) rfl rfl, ow_row (m := 2) rfl rfl (by rw [h.K.e]; exact byV_ren _), trivial⟩
 split at hs
 ·simp only [oI, pI] at hs
  obtain ⟨⟨rfl, rfl, rfl, rfl, rfl⟩, rfl, rfl⟩ := hs
  obtain ⟨h, h1, _⟩ := ho
  exact fin h (.exit 2, [(0, llA n), (1, kyV m), (4, cpV), (6, iV i)], fdH ds ks) [] (by rw [h1]; rfl) (tidy_of (by omega) (fun j hj hd => rfl) rfl)
 ·simp only [oI, pI] at hs
  obtain ⟨⟨rfl, rfl, rfl, rfl, rfl⟩, rfl, rfl⟩ := hs
  obtain ⟨h, h1, _⟩ := ho
  refine fin h (.ret, [(4, cpV), (5, .bool true)], rhH 80 p ds ks) [4] (by rw [h1]; rfl) (tidy_of (by omega) (fun j hj hd => ?_) rfl)
  have h2 : j ≠ 4 := fun e => hd (by simp [e])
  unfold rhH fdH
  simp only [lk_cons, if_neg h2.symm, if_neg (show ¬ 80 = j by omega), if_neg (show ¬ 80 + 1 = j by omega)]
 ·cases hs
def rjLo (P : Program) (p : Pr) : LFun := mkL 15 5 43 [0, 1, 4, 6, 7] (bodyIn P 15 5) (rjSp p)
theorem rjLo_one (p : Pr) : LOne Try.prog (rjLo Try.prog p) := mkL_ok (rjSp_ok p)
theorem rq_go (inr : Bool) (n m i : Nat) (ds : List DV) (ks : List Value) (p : Pr) : prjP [0, 1, 4, 6] 60 (codeZ (rfV (rjLo Try.prog p)) Try.prog (runZ (rfV (rjLo Try.prog p)) Try.prog 9) 15 inr 100000 (bodyIn Try.prog 15 2) (SL
 43 [(0, llA n), (1, kyV m), (4, cpV), (6, iV i)]) (fdH ds ks) 60 [true, false])
 =
  (let a3 := (4, Value.pointer (some (Addr.mk 4 0 none))); let a2 := (1, Value.slice (some (Addr.mk 2 0 none)) m (capBig + 2)); let a1 := (0, Value.slice (some (Addr.mk 0 0 none)) n 18446744073709551616); Res.ok ((Xt.normal, 43, [a1, a2, a3, (6, Value.int IntKind.i64 (↑(i + 1) : Int))], [(4, Rw.mk Kd.shut [Value.slice none 0 0, Value.slice none 0 0, Value.bool false]), (0, Rw.mk (Kd.sw ds) []), (2, Rw.mk Kd.ow ks)], 200, [], []), [], [decide ((↑i : Int) < (↑n : Int)) = true, bodyIn Try.prog (15 : FuncId) 5 = bodyIn Try.prog (15 : FuncId) 5, [a1, a2, a3, (6, Value.int IntKind.i64 (↑i : Int)), (7, Value.int IntKind.i64 (0 : Int))] = rjS n m i 0, fdH ds ks = fdH ds ks, 60 = 60, RjOk ds ks m n i, fnL (gL (llOf ds) i) (intsOf ks) = none, rg IntKind.i64 (↑(i + 1) : Int)])) := by kernel_rfl
theorem rq_hit (inr : Bool) (n m i : Nat) (ds : List DV) (ks : List Value) (p : Pr) : prjP [4, 5] 60 (codeZ (rfV (rjLo Try.prog p)) Try.prog (runZ (rfV (rjLo Try.prog p)) Try.prog 9) 15 inr 100000 (bodyIn Try.prog 15 2) (SL 43
 [(0, llA n), (1, kyV m), (4, cpV), (6, iV i)]) (fdH ds ks) 60 [true, true])
 =
  (let a1 := (4, Value.pointer (some (Addr.mk 4 0 none))); Res.ok ((Xt.ret, 43, [a1, (5, Value.bool true)], [(4, Rw.mk Kd.shut [Value.slice (some (Addr.mk 80 0 none)) (List.length (Prod.fst p)) (capBig + 80), Value.slice (some (Addr.mk 81 0 none)) (List.length (Prod.fst (Prod.snd p))) (capBig + 81), Value.bool (Prod.snd (Prod.snd p))]), (80, Rw.mk Kd.ow (byV (Prod.fst p))), (81, Rw.mk Kd.ow (byV (Prod.fst (Prod.snd p)))), (0, Rw.mk (Kd.sw ds) []), (2, Rw.mk Kd.ow ks)], 200, [4], []), [], [decide ((↑i : Int) < (↑n : Int)) = true, bodyIn Try.prog (15 : FuncId) 5 = bodyIn Try.prog (15 : FuncId) 5, [(0, Value.slice (some (Addr.mk 0 0 none)) n 18446744073709551616), (1, Value.slice (some (Addr.mk 2 0 none)) m (capBig + 2)), a1, (6, Value.int IntKind.i64 (↑i : Int)), (7, Value.int IntKind.i64 (0 : Int))] = rjS n m i 0, fdH ds ks = fdH ds ks, 60 = 60, RjOk ds ks m n i, fnL (gL (llOf ds) i) (intsOf ks) = some p])) := by kernel_rfl
theorem rq_end (inr : Bool) (n m i : Nat) (ds : List DV) (ks : List Value) (p : Pr) : prjP [4] 60 (codeZ (rfV (rjLo Try.prog p)) Try.prog (runZ (rfV (rjLo Try.prog p)) Try.prog 9) 15 inr 100000 (bodyIn Try.prog 15 2) (SL 43 [(0, llA n), (1, kyV m), (4, cpV), (6, iV i)]) (fdH ds ks) 60 [false]) =
 Res.ok ((Xt.exit 0, 43, [(4, Value.pointer (some (Addr.mk 4 0 none)))], [(4, Rw.mk Kd.shut [Value.slice none 0 0, Value.slice none 0 0, Value.bool false]), (0, Rw.mk (Kd.sw ds) []), (2, Rw.mk Kd.ow ks)], 60, [], []), [], [decide ((↑i : Int) < (↑n : Int)) = false]) := by kernel_rfl
def rqS (n m i : Nat) : List (Nat × Value) := [(0, llA n), (1, kyV m), (4, cpV), (6, iV i)]
def rqO (ds : List DV) (ks : List Value) (o : Option Pr) : LO := match o with
 | none => (.exit 0, [(4, cpV)], fdH ds ks)
 | some p => (.ret, [(4, cpV), (5, .bool true)], rhH 20 p ds ks)
theorem rq_loop {inr : Bool} {h0 : Hp} {L : List (List Pr)} {ks : List Value} {K : List Int} {n m : Nat} (hK : FdK ks m K) (hL : FdLL L n) : ∀ (r i : Nat), i + r = n →
  LRuns inr Try.prog (bodyIn Try.prog 15 2) 5 300 h0 43 (rqS n m i) (fdH (llD L) ks) 60 (rqO (llD L) ks (fnd (L.drop i) K))
 | 0, i, hr => by
   have hl := hL.l
   rw [List.drop_of_length_le (by omega)]
   refine LRuns.exit (code_runsP rfX (L_okV rfl (rjLo_one ([], [], false))) (runZ_ok rfX rfT (L_okV rfl (rjLo_one ([], [], false))) mixed 9) mixed (rq_end inr n m i (llD L) ks ([], [], false)) ?_) (by intro e; cases e) rfl (by omega) (by omega) (fun n => n) ?_ ?_ rfl
   ·simp only [Alls, decide_eq_false_iff_not]
    exact ⟨by omega, trivial⟩
   ·exact ⟨rfl, rfl, trivial⟩
   ·exact ⟨sh_row (m := 4) rfl rfl rfl, sw_row (m := 0) rfl rfl, ow_row (m := 2) rfl rfl (by rw [hK.e]; exact byV_ren _), trivial⟩
 | r + 1, i, hr => by
   have hl := hL.l
   have hn9 := hL.n9
   have hi : i < L.length := by omega
   have hx := gL_atR hi
   have hd : L.drop i = gL L i :: L.drop (i + 1) := by
    obtain ⟨h1, h2⟩ := List.getElem?_eq_some_iff.1 hx
    rw [List.drop_eq_getElem_cons hi, h2]
   have ei : intsOf ks = K := by rw [hK.e]; exact byV_ints K
   have rj : RjOk (llD L) ks m n i := ⟨by rw [ei]; exact hK, by rw [llOf_ll], by rw [llOf_ll]; exact hL, by omega⟩
   have hkr : ∀ τ, renL τ ks = some ks := by rw [hK.e]; exact byV_ren _
   rw [hd]
   cases hh : fnL (gL L i) K with
   | some p =>
    have e : fnd (gL L i :: L.drop (i + 1)) K = some p := by simp only [fnd, hh]
    rw [e]
    have hLp : LOkZ (rfV (rjLo Try.prog p)) Try.prog := L_okV rfl (rjLo_one p)
    have run := rq_hit inr n m i (llD L) ks p
    have fh : fnL (gL (llOf (llD L)) i) (intsOf ks) = some p := by rw [llOf_ll, ei]; exact hh
    refine LRuns.exit (code_runsP rfX hLp (runZ_ok rfX rfT hLp mixed 9) mixed run ?_) (by intro e; cases e) rfl (by omega) (by omega) (fun n => bif Nat.beq n 20 then 80 else bif Nat.beq n 21 then 81 else n) ?_ ?_ rfl
    ·simp only [Alls, rg, decide_eq_true_eq]
     repeat' (with_reducible apply And.intro)
     all_goals first | omega | (with_reducible assumption) | (with_reducible exact trivial) | rfl
    ·exact ⟨rfl, rfl, rfl, rfl, trivial⟩
    ·exact ⟨sh_row (m := 4) rfl rfl (mw2_ren (B := 80) (C := 81) rfl rfl rfl rfl (fun n => by intro e; cases e) rfl), ow_row (m := 80) rfl rfl (byV_ren _), ow_row (m := 81) rfl rfl (byV_ren _), sw_row (m := 0) rfl rfl, ow_row (m := 2) rfl rfl hkr, trivial⟩
   | none =>
    have e : fnd (gL L i :: L.drop (i + 1)) K = fnd (L.drop (i + 1)) K := by simp only [fnd, hh]
    rw [e]
    have hLp : LOkZ (rfV (rjLo Try.prog ([], [], false))) Try.prog := L_okV rfl (rjLo_one ([], [], false))
    have run := rq_go inr n m i (llD L) ks ([], [], false)
    have fh : fnL (gL (llOf (llD L)) i) (intsOf ks) = none := by rw [llOf_ll, ei]; exact hh
    refine LRuns.step (code_runsP rfX hLp (runZ_ok rfX rfT hLp mixed 9) mixed run ?_) rfl (by omega) (by omega) (fun n => n) ?_ ?_ rfl (rq_loop hK hL r (i + 1) (by omega))
    ·simp only [Alls, rg, decide_eq_true_eq]
     repeat' (with_reducible apply And.intro)
     all_goals first | omega | (with_reducible assumption) | (with_reducible exact trivial) | rfl
    ·exact ⟨rfl, rb_slg rfl rfl, rfl, rb_slg rfl rfl, rfl, rfl, rfl, rfl, trivial⟩
    ·exact ⟨sh_row (m := 4) rfl rfl rfl, sw_row (m := 0) rfl rfl, ow_row (m := 2) rfl rfl hkr, trivial⟩
def rqPk (live : List (Nat × Value)) (h : Hp) : Option ((Nat × Nat) × List DV × List Value) := match live, lk h 0, lk h 2 with
 | (_, .slice _ n _) :: (_, .slice _ m _) :: _, some ⟨.sw ds, _⟩, some ⟨.ow, ks⟩ => some ((n, m), ds, ks)
 | _, _, _ => none
def rqSp (p : Pr) : LSpec := lspec rqPk (fun a => (rqS a.1.1 a.1.2 0, fdH a.2.1 a.2.2, 5)) (fun a tp => match tp with
 | false :: tp' => some ((.exit 0, [(4, cpV)], fdH a.2.1 a.2.2, 300, []), tp', [FoOk a.2.1 a.2.2 a.1.2 a.1.1, fnd (llOf a.2.1) (intsOf a.2.2) = none])
 | true :: tp' => some ((.ret, [(4, cpV), (5, .bool true)], rhH 20 p a.2.1 a.2.2, 300, [4]), tp', [FoOk a.2.1 a.2.2 a.1.2 a.1.1, fnd (llOf a.2.1) (intsOf a.2.2) = some p])
 | [] => none)
theorem rqSp_ok (p : Pr) : LSOk Try.prog 43 [0, 1, 4, 6] (bodyIn Try.prog 15 2) (rqSp p) := by
 refine lspec_ok fun a tp xt l2 h2 nx2 d tp' ob hs ho inr ts hn hg => ?_
 obtain ⟨⟨n, m⟩, ds, ks⟩ := a
 simp only at hs hg
 have fin : FoOk ds ks m n → ∀ key d, key = rqO ds ks (fnd (llOf ds) (intsOf ks)) → Tidy (fdH ds ks) 5 key.2.2 300 d → Runs inr (fun F m Q => Code.againIn F m Try.prog (bodyIn Try.prog 15 2) Q) ts (fdH ds ks) 5 (key.1, SL 43 key.2.1, key.2.2, 300, d, []) := fun h key d hk hT => by
  have q := rq_loop (inr := inr) (h0 := fdH ds ks) h.K h.L n 0 (by omega)
  rw [List.drop_zero, ← h.e, ← hk] at q
  refine LRuns.enter (N := 60) (l2 := rqS n m 0) hn hg (by omega) (by omega) (fun n => n) ?_ ?_ rfl q hT
  ·exact ⟨rfl, rb_slg rfl rfl, rfl, rb_slg rfl rfl, rfl, rfl, rfl, rfl, trivial⟩
  ·exact ⟨sh_row (m := 4) rfl rfl rfl, sw_row (m := 0) rfl rfl, ow_row (m := 2) rfl rfl (by rw [h.K.e]; exact byV_ren _), trivial⟩
 split at hs
 ·simp only [oI, pI] at hs
  obtain ⟨⟨rfl, rfl, rfl, rfl, rfl⟩, rfl, rfl⟩ := hs
  obtain ⟨h, h1, _⟩ := ho
  exact fin h (.exit 0, [(4, cpV)], fdH ds ks) [] (by rw [h1]; rfl) (tidy_of (by omega) (fun j hj hd => rfl) rfl)
 ·simp only [oI, pI] at hs
  obtain ⟨⟨rfl, rfl, rfl, rfl, rfl⟩, rfl, rfl⟩ := hs
  obtain ⟨h, h1, _⟩ := ho
  refine fin h (.ret, [(4, cpV), (5, .bool true)], rhH 20 p ds ks) [4] (by rw [h1]; rfl) (tidy_of (by omega) (fun j hj hd => ?_) rfl)
  have h2 : j ≠ 4 := fun e => hd (by simp [e])
  unfold rhH fdH
  simp only [lk_cons, if_neg h2.symm, if_neg (show ¬ 20 = j by omega), if_neg (show ¬ 20 + 1 = j by omega)]
 ·cases hs
def rqLo (P : Program) (p : Pr) : LFun := mkL 15 2 43 [0, 1, 4, 6] (bodyIn P 15 2) (rqSp p)
theorem rqLo_one (p : Pr) : LOne Try.prog (rqLo Try.prog p) := mkL_ok (rqSp_ok p)
theorem rq_no (n m : Nat) (ds : List DV) (ks : List Value) (p : Pr) : prjV (runZ (rfV (rqLo Try.prog p)) Try.prog 9 15 [llA n, kyV m] [(0, ⟨.sw ds, []⟩), (2, ⟨.ow, ks⟩)] 4 [false]) =
 Res.ok (Value.tuple (Array.mk [Value.agg (Array.mk [Value.slice none 0 0, Value.slice none 0 0, Value.bool false]), Value.bool false]), [], [bodyIn Try.prog (15 : FuncId) 2 = bodyIn Try.prog (15 : FuncId) 2, [(0, Value.slice (some (Addr.mk 0 0 none)) n 18446744073709551616), (1, Value.slice (some (Addr.mk 2 0 none)) m (capBig + 2)), (4, Value.pointer (some (Addr.mk 4 0 none))), (6, Value.int IntKind.i64 (0 : Int))] = rqS n m 0, [(4, Rw.mk Kd.shut [Value.slice none 0 0, Value.slice none 0 0, Value.bool false]), (0, Rw.mk (Kd.sw ds) []), (2, Rw.mk Kd.ow ks)] = fdH ds ks, 5 = 5, FoOk ds ks m n, fnd (llOf ds) (intsOf ks) = none]) := by kernel_rfl
theorem rq_yes (n m : Nat) (ds : List DV) (ks : List Value) (p : Pr) : runZ (rfV (rqLo Try.prog p)) Try.prog 9 15 [llA n, kyV m] [(0, ⟨.sw ds, []⟩), (2, ⟨.ow, ks⟩)] 4 [true] =
 Res.ok ((Value.tuple (Array.mk [Value.agg (Array.mk [Value.slice (some (Addr.mk 20 0 none)) (List.length (Prod.fst p)) (capBig + 20), Value.slice (some (Addr.mk 21 0 none)) (List.length (Prod.fst (Prod.snd p))) (capBig + 21), Value.bool (Prod.snd (Prod.snd p))]), Value.bool true]), [(4, Rw.mk Kd.shut [Value.slice (some (Addr.mk 20 0 none)) (List.length (Prod.fst p)) (capBig + 20), Value.slice (some (Addr.mk 21 0 none)) (List.length (Prod.fst (Prod.snd p))) (capBig + 21), Value.bool (Prod.snd (Prod.snd p))]), (20, Rw.mk Kd.ow (byV (Prod.fst p))), (21, Rw.mk Kd.ow (byV (Prod.fst (Prod.snd p)))), (0, Rw.mk (Kd.sw ds) []), (2, Rw.mk Kd.ow ks)], 300, []), [], [bodyIn Try.prog (15 : FuncId) 2 = bodyIn Try.prog (15 : FuncId) 2, [(0, Value.slice (some (Addr.mk 0 0 none)) n 18446744073709551616), (1, Value.slice (some (Addr.mk 2 0 none)) m (capBig + 2)), (4, Value.pointer (some (Addr.mk 4 0
 none))), (6, Value.int IntKind.i64 (0 : Int))] = rqS n m 0, [(4, Rw.mk Kd.shut [Value.slice none 0 0, Value.slice none 0 0, Value.bool false]), (0, Rw.mk (Kd.sw ds) []), (2, Rw.mk Kd.ow ks)] = fdH ds ks, 5 = 5, FoOk ds ks m n, fnd (llOf ds) (intsOf ks) = some
 p]) := by kernel_rfl
theorem GrO.flat {v : Value} {h0' : Hp} (hv : ∀ σ, renV σ v = some v) : GrO ⟨fun _ => v, []⟩ v h0' (fun n => n) := ⟨fun nx => hv _, fun j r h => by simp at h, fun i j h => by simp at h⟩
def gRf (p : Pr) : GSpecD := fun aL tp => match aL, tp with
 | [.dl ds n, .sl ks m], false :: tp' => some (⟨fun _ => .tuple ⟨[.agg ⟨zPr⟩, .bool false]⟩, []⟩, tp', [FoOk ds ks m n, fnd (llOf ds) (intsOf ks) = none])
 | [.dl ds n, .sl ks m], true :: tp' => some (⟨fun nx => .tuple ⟨[pairV nx p, .bool true]⟩, [⟨.ow, byV p.1⟩, ⟨.ow, byV p.2.1⟩]⟩, tp', [FoOk ds ks m n, fnd (llOf ds) (intsOf ks) = some p])
 | _, _ => none
theorem rf_gok (p : Pr) : GOkO Try.prog 15 (gRf p) := by
 intro aL tp gr tp' ob hG ho cs hc
 have hLp : LOkZ (rfV (rqLo Try.prog p)) Try.prog := L_okV rfl (rqLo_one p)
 unfold gRf at hG
 split at hG
 ·rename_i ds n ks m tp2
  simp only [oI, pI] at hG
  obtain ⟨rfl, rfl, rfl⟩ := hG
  obtain ⟨h, h1, _⟩ := ho
  obtain ⟨h', nx', d, T⟩ := run_val rfX rfT hLp (rq_no n m ds ks p) ⟨rfl, rfl, rfl, rfl, h, h1, trivial⟩ rfl
  exact ⟨_, h', nx', d, fun n => n, T, GrO.flat fun σ => rfl⟩
 ·rename_i ds n ks m tp2
  simp only [oI, pI] at hG
  obtain ⟨rfl, rfl, rfl⟩ := hG
  obtain ⟨h, h1, _⟩ := ho
  have T := run_tri rfX rfT hLp (rq_yes n m ds ks p) ⟨rfl, rfl, rfl, rfl, h, h1, trivial⟩ rfl
  refine ⟨_, _, _, _, fun j => 20 + j, T, ⟨fun nx => ?_, fun j r hj => ?_, fun i j hi hj e => by simp at e; omega⟩⟩
  ·have e := mw2_ren (f := f2s nx 2 (fun j => 20 + j)) (A := nx) (B := 20) (C := 21) (a := p.1.length) (b := p.2.1.length) (g := p.2.2) (by simp [f2s]) (by simp [f2s]) (by simp [f2s]) (by simp [f2s]) (fun n => by simp [f2s]) rfl
   simp only [pairV, renV, renA, renL]
   simp only [List.length_cons, List.length_nil, Nat.zero_add, Nat.reduceAdd]
   rw [e]
   rfl
  ·match j, hj with
   | 0, hj => cases hj; exact ⟨byV_ren _, rfl, rfl⟩
   | 1, hj => cases hj; exact ⟨byV_ren _, rfl, rfl⟩
 ·cases hG
end Go.Proofs.Ytmoflcoijmmpjaa
