/-
  The told machine, part Zs: rows of slices that are made: append of an element (mode 44).
-/
import Derived.Test.YtojakfnljopjbaaGrAJ
namespace Go.Proofs.Ytojakfnljopjbaa
set_option linter.unusedSimpArgs false
set_option linter.unusedVariables false
set_option linter.unusedSectionVars false
open Go Go.RowKit

section
variable {P : Program} {W : World} {lo hi : Nat} {σ σ' : Sg} {h h' : Hp} {w w' : World}
def Bs (σ : Sg) (h : Hp) : List Nat := h.flatMap fun e => sh σ e.1
theorem lk_mem : ∀ {h : Hp} {n : Nat} {r : Rw}, (n, r) ∈ h → ∃ s, lk h n = some s
 | (m, s) :: h, n, r, hm => by
   rw [B3]
   by_cases e : m = n
   ·exact ⟨s, by rw [if_pos e]⟩
   ·rw [if_neg e]
    rcases List.mem_cons.1 hm with hm | hm
    ·cases hm; exact absurd rfl e
    ·exact lk_mem hm
theorem mem_lk : ∀ {h : Hp} {n : Nat} {r : Rw}, lk h n = some r → (n, r) ∈ h
 | (m, s) :: h, n, r, hl => by
   rw [B3] at hl
   split at hl
   ·rename_i e; cases hl; subst e; exact List.mem_cons_self ..
   ·exact List.mem_cons_of_mem _ (mem_lk hl)
theorem Ci {k : Nat} (hk : k ∈ Bs σ h) : ∃ m s, lk h m = some s ∧ k ∈ sh σ m := by
 obtain ⟨e, h1, h2⟩ := List.mem_flatMap.1 hk
 obtain ⟨s, hs⟩ := lk_mem (n := e.1) (r := e.2) h1
 exact ⟨e.1, s, hs, h2⟩
theorem D8 {k m : Nat} {s : Rw} (hl : lk h m = some s) (hk : k ∈ sh σ m) : k ∈ Bs σ h := List.mem_flatMap.2 ⟨(m, s), mem_lk hl, hk⟩
theorem Stp.toDp (S : Stp W lo hi σ h w σ' h' w') {NX : Nat} (h1 : lo ≤ NX) (h2 : hi ≤ NX) (hf : Fresh σ lo (NX + 1)) {k b c : Nat} {r r' : Rw} {F : List Nat} (hl : lk h' k = some r) (ho : r.own) (hb : σ'.b k = some (b, 0)) (ho' : r'.own) (hF : ∀ q, q ∈ F → ∃ m s, lk h' m = some s ∧ q ∈ sh σ' m)
  (hr : RowOk W (σ'.vwc NX (b, 0) c (some F) none) w' NX r') :
  Stp W lo (NX + 1) σ h w (σ'.vwc NX (b, 0) c (some F) none) ((NX, r') :: delH h' k) w' := by
 have hN : σ'.b NX = none ∧ σ'.c NX = none := by
  obtain ⟨e1, e2⟩ := S.only NX (.inr h2)
  obtain ⟨e3, e4⟩ := hf NX h1 (by omega)
  exact ⟨e1.trans e3, e2.trans e4⟩
 have hbs : ∀ m, m ≠ NX → (σ'.vwc NX (b, 0) c (some F) none).b m = σ'.b m ∧ (σ'.vwc NX (b, 0) c (some F) none).c m = σ'.c m ∧ (σ'.vwc NX (b, 0) c (some F) none).f m = σ'.f m ∧ (σ'.vwc NX (b, 0) c (some F) none).e m = σ'.e m ∧ (σ'.vwc NX (b, 0) c (some F) none).w = σ'.w := fun m hm => by simp only [Sg.vwc]; rw [if_neg hm, if_neg hm, if_neg hm, if_neg hm]; exact ⟨rfl, rfl, rfl, rfl, trivial⟩
 have hbN : (σ'.vwc NX (b, 0) c (some F) none).b NX = some (b, 0) := by simp [Sg.vwc]
 have hle : σ'.le (σ'.vwc NX (b, 0) c (some F) none) := by
  refine ⟨fun m q e => ?_, fun m k e => ?_, fun m q e => ?_⟩
  ·have hm : m ≠ NX := fun e2 => by subst e2; rw [hN.1] at e; cases e
   rw [(hbs m hm).1]; exact e
  ·have hm : m ≠ NX := fun e2 => by subst e2; rw [hN.2] at e; cases e
   rw [(hbs m hm).2.1]; exact e
  ·have hm : m ≠ NX := fun e2 => by subst e2; rw [hN.1] at e; cases e
   exact (hbs m hm).2
 have cls : ∀ n s, lk ((NX, r') :: delH h' k) n = some s → (n = NX ∧ s = r') ∨ (n ≠ NX ∧ n ≠ k ∧ lk h' n = some s) := fun n s e => by
  rw [B3] at e
  split at e
  ·rename_i e1; cases e; exact .inl ⟨e1.symm, rfl⟩
  ·rename_i e1
   rw [Bf] at e
   split at e
   ·cases e
   ·rename_i e2; exact .inr ⟨Ne.symm e1, Ne.symm e2, e⟩
 have hsh : sh (σ'.vwc NX (b, 0) c (some F) none) NX = F := by simp [sh, Sg.vwc]
 have shs : ∀ n, n ≠ NX → sh (σ'.vwc NX (b, 0) c (some F) none) n = sh σ' n := fun n hn => by unfold sh; rw [(hbs n hn).2.2.1]
 have own_ : ∀ m s q, lk ((NX, r') :: delH h' k) m = some s → s.own → (σ'.vwc NX (b, 0) c (some F) none).b m = some q → ∃ m0 s0, lk h' m0 = some s0 ∧ s0.own ∧ σ'.b m0 = some q := fun m s q hm hs hq => by
  rcases cls m s hm with ⟨rfl, rfl⟩ | ⟨e1, e2, e3⟩
  ·rw [hbN] at hq; cases hq; exact ⟨k, r, hl, ho, hb⟩
  ·rw [(hbs m e1).1] at hq; exact ⟨m, s, e3, hs, hq⟩
 have shr_ : ∀ n s q, lk ((NX, r') :: delH h' k) n = some s → q ∈ sh (σ'.vwc NX (b, 0) c (some F) none) n → ∃ m0 s0, lk h' m0 = some s0 ∧ q ∈ sh σ' m0 := fun n s q hn hq => by
  rcases cls n s hn with ⟨rfl, rfl⟩ | ⟨e1, e2, e3⟩
  ·rw [hsh] at hq; exact hF q hq
  ·rw [shs n e1] at hq; exact ⟨n, s, e3, hq⟩
 have exs : ∀ n s, lk ((NX, r') :: delH h' k) n = some s → ∀ kk, kk ∈ ex (σ'.vwc NX (b, 0) c (some F) none) n → ∃ s, lk h' n = some s ∧ kk ∈ ex σ' n := fun n s hn kk hk => by
  rcases cls n s hn with ⟨rfl, rfl⟩ | ⟨e1, e2, e3⟩
  ·rw [L8] at hk; cases hk
  ·exact ⟨s, e3, by unfold ex at hk ⊢; rw [(hbs n e1).2.2.1] at hk; exact hk⟩
 refine ⟨S.le.trans hle, fun n hn => ?_, ⟨⟨S.rl.ext, fun n s hn => ?_, fun n m r1 r2 p q hn hm hr1 hs hp hq e => ?_⟩, S.rl.wf, fun n s hn hs => ?_, fun n s kk hn hk => ?_, Exc.same S.rl.shr (Nat.le_refl _) (fun n s p hn hs hp => ?_) (fun n s kk hn hk => .inr (.inr (shr_ n s kk hn hk))) exs⟩, S.size, S.fr, fun n s p hn hs hp => ?_, fun n s kk hn hk => ?_, fun n s kk hn hk => ?_⟩
 ·have e0 : n ≠ NX := by omega
  obtain ⟨a1, a2⟩ := S.only n (by omega)
  exact ⟨(hbs n e0).1.trans a1, (hbs n e0).2.1.trans a2⟩
 ·rcases cls n s hn with ⟨rfl, rfl⟩ | ⟨e1, e2, e3⟩
  ·exact hr
  ·exact S.rl.keepA e3 hle fun _ _ => rfl
 ·rcases cls n r1 hn with ⟨rfl, rfl⟩ | ⟨e1, e2, e3⟩ <;> rcases cls m r2 hm with ⟨e4, e5⟩ | ⟨e4, e5, e6⟩
  ·exact e4.symm
  ·rw [hbN] at hp
   cases hp
   rw [(hbs m e4).1] at hq
   exact absurd (S.rl.inj k m r r2 (b, 0) q hl e6 ho hs hb hq e) (Ne.symm e5)
  ·subst e4
   rw [hbN] at hq
   cases hq
   rw [(hbs n e1).1] at hp
   exact absurd (S.rl.inj n k r1 r p (b, 0) e3 hl hr1 ho hp hb e) e2
  ·rw [(hbs n e1).1] at hp
   rw [(hbs m e4).1] at hq
   exact S.rl.inj n m r1 r2 p q e3 e6 hr1 hs hp hq e
 ·rcases cls n s hn with ⟨rfl, rfl⟩ | ⟨e1, e2, e3⟩
  ·simp [Sg.vwc]
  ·rw [(hbs n e1).2.2.1]; exact S.rl.shr.1 n s e3 hs
 ·obtain ⟨m0, s0, g1, g2⟩ := shr_ n s kk hn hk
  obtain ⟨g3, g4⟩ := S.rl.shr.2.1 m0 s0 kk g1 g2
  refine ⟨g3, fun m s q hm hs hq => ?_⟩
  obtain ⟨m1, s1, a1, a2, a3⟩ := own_ m s q hm hs hq
  exact g4 m1 s1 q a1 a2 a3
 ·obtain ⟨m0, s0, a1, a2, a3⟩ := own_ n s p hn hs hp
  exact .inr ⟨m0, s0, p, a1, a2, a3, rfl⟩
 ·obtain ⟨m0, s0, a1, a2, a3⟩ := own_ n s p hn hs hp
  exact S.src m0 s0 p a1 a2 a3
 ·obtain ⟨m0, s0, g1, g2⟩ := shr_ n s kk hn hk
  exact S.ssrc m0 s0 kk g1 g2
 ·obtain ⟨s1, e3, hk2⟩ := exs n s hn kk hk
  exact S.xsrc n s1 kk e3 hk2
def elD (h : Hp) : List Value → Option (List DV × List Prop)
 | [] => some ([], [])
 | v :: vs => match elD h vs with
  | some (ds, ob) => (match v with
   | .slice (some ⟨k, 0, none⟩) n _ => (match lk h k with
    | some ⟨.old, cs⟩ => some (.sl n none (cs.map DV.fl) :: ds, ((∀ τ, renL τ cs = some cs) ∧ (n = 0 → cs = [])) :: ob)
    | some ⟨.of, cs⟩ => some (.sl n none (cs.map DV.fl) :: ds, ((∀ τ, renL τ cs = some cs) ∧ (n = 0 → cs = [])) :: ob)
    | some ⟨.sd es, _⟩ => some (.sl n none es :: ds, (n = 0 → es = []) :: ob)
    | _ => none)
   | .slice none 0 0 => some (.sl 0 none [] :: ds, ob)
   | .slice _ _ _ => none
   | v => bif noAd v then some (.fl v :: ds, ob) else none)
  | none => none
theorem Jd {F : List Nat} {b : Nat} : ∀ {cs : List Value} {s : Nat}, (∀ τ, renL τ cs = some cs) → ((b < W.heap.size ∧ ∀ j v, cs[j]? = some v → W.cell? ⟨b, s + j, none⟩ = some v) ∨ (b ∈ F ∧ ∀ j v, cs[j]? = some v → w.cell? ⟨b, s + j, none⟩ = some v)) → DRs W w F b s (cs.map DV.fl)
 | [], s, _, h => by simp only [List.map_nil, DRs]; exact h.imp (fun e => e.1) fun e => e.1
 | x :: cs, s, hf, h => by
   simp only [List.map_cons, DRs, DR]
   have h1 : ∀ τ, renV τ x = some x ∧ renL τ cs = some cs := fun τ => by
    obtain ⟨y, l, a, b, e⟩ := B9 (hf τ)
    cases e
    exact ⟨a, b⟩
   refine ⟨⟨x, ?_, rfl, fun τ => (h1 τ).1⟩, Jd (fun τ => (h1 τ).2) ?_⟩
   ·rcases h with ⟨h2, h3⟩ | ⟨h2, h3⟩
    ·exact .inl ⟨h2, by have := h3 0 x rfl; rwa [Nat.add_zero] at this⟩
    ·exact .inr ⟨h2, by have := h3 0 x rfl; rwa [Nat.add_zero] at this⟩
   ·rcases h with ⟨h2, h3⟩ | ⟨h2, h3⟩
    ·exact .inl ⟨h2, fun j v hj => by have := h3 (j + 1) v (by simpa using hj); rwa [show s + (j + 1) = s + 1 + j by omega] at this⟩
    ·exact .inr ⟨h2, fun j v hj => by have := h3 (j + 1) v (by simpa using hj); rwa [show s + (j + 1) = s + 1 + j by omega] at this⟩
mutual
theorem DR.more {F G : List Nat} (hFG : ∀ k, k ∈ F → k ∈ G) : ∀ (d : DV) (u : Value), DR W w F d u → DR W w G d u
 | .fl v, u, hd => by simp only [DR] at hd ⊢; exact hd
 | .sl len cap ds, u, hd => by
   simp only [DR] at hd ⊢
   rcases hd with hd | ⟨b, s, c, h2, h5, h6⟩
   ·exact .inl hd
   ·exact .inr ⟨b, s, c, h2, h5, h6.imp (fun e => e) fun e => DRs.more hFG ds b s e⟩
theorem DRs.more {F G : List Nat} (hFG : ∀ k, k ∈ F → k ∈ G) : ∀ (ds : List DV) (b s : Nat), DRs W w F b s ds → DRs W w G b s ds
 | [], b, s, hd => by simp only [DRs] at hd ⊢; exact hd.imp (fun e => e) (hFG b)
 | d :: ds, b, s, hd => by
   simp only [DRs] at hd ⊢
   obtain ⟨⟨v, h1, h2⟩, h3⟩ := hd
   refine ⟨⟨v, ?_, DR.more hFG d v h2⟩, DRs.more hFG ds b (s + 1) h3⟩
   exact h1.imp (fun e => e) fun e => ⟨hFG b e.1, e.2⟩
end
theorem DRv.more {F G : List Nat} (hFG : ∀ k, k ∈ F → k ∈ G) : ∀ {ds : List DV} {us : List Value}, DRv W w F ds us → DRv W w G ds us
 | [], us, hd => by simp only [DRv] at hd ⊢; exact hd
 | d :: ds, us, hd => by
   simp only [DRv] at hd ⊢
   obtain ⟨u, us', h1, h2, h3⟩ := hd
   exact ⟨u, us', h1, DR.more hFG d u h2, DRv.more hFG h3⟩
theorem Im (hR : Rl W σ h w) : ∀ {cells : List Value} {ds : List DV} {ob : List Prop} {us : List Value}, elD h cells = some (ds, ob) → Alls ob → renL σ cells = some us → DRv W w (Bs σ h) ds us
 | [], ds, ob, us, h1, _, h3 => by
   simp only [elD, oI, pI] at h1
   obtain ⟨rfl, _⟩ := h1
   simp only [renL, oI] at h3
   subst h3
   simp [DRv]
 | v :: vs, ds, ob, us, h1, h2, h3 => by
   obtain ⟨u, us', hu, hus, rfl⟩ := B9 h3
   simp only [elD] at h1
   split at h1
   case h_2 => cases h1
   rename_i ds' ob' hrec
   split at h1
   ·rename_i k n c
    split at h1
    ·rename_i cs hl
     simp only [oI, pI] at h1
     obtain ⟨rfl, rfl⟩ := h1
     obtain ⟨⟨hf, hz⟩, ho⟩ := h2
     simp only [DRv]
     refine ⟨_, _, rfl, ?_, Im hR hrec ho hus⟩
     obtain ⟨b, s, vs', hb, hv, hk⟩ := hR.row k _ hl
     simp only at hv
     rw [hf σ] at hv
     cases hv
     simp only [DR]
     rcases B7 hu with ⟨p, c', hb', _, rfl, _⟩ | ⟨hn, rfl, _, rfl⟩
     ·rw [hb] at hb'
      cases hb'
      refine .inr ⟨b, s + 0, c', rfl, ⟨Bx hR.wf hu, fun k e => (by cases e)⟩, ?_⟩
      rcases hk with hk | hk | hk
      ·exact .inl (by rw [hk]; rfl)
      ·exact .inr (Jd hf (.inl hk))
      ·exact .inr (Jd hf (.inr ⟨D8 hl hk.1, hk.2⟩))
     ·obtain rfl := hz rfl
      exact .inl ⟨rfl, rfl, .inl trivial, _, rfl⟩
    ·rename_i cs hl
     simp only [oI, pI] at h1
     obtain ⟨rfl, rfl⟩ := h1
     obtain ⟨⟨hf, hz⟩, ho⟩ := h2
     simp only [DRv]
     refine ⟨_, _, rfl, ?_, Im hR hrec ho hus⟩
     obtain ⟨b, s, vs', hb, hv, hk⟩ := hR.row k _ hl
     simp only at hv
     rw [hf σ] at hv
     cases hv
     simp only [DR]
     rcases B7 hu with ⟨p, c', hb', _, rfl, _⟩ | ⟨hn, rfl, _, rfl⟩
     ·rw [hb] at hb'
      cases hb'
      refine .inr ⟨b, s + 0, c', rfl, ⟨Bx hR.wf hu, fun k e => (by cases e)⟩, ?_⟩
      rcases hk.2 with hk | hk
      ·exact .inl (by rw [hk]; rfl)
      ·exact .inr (Jd hf (.inr ⟨D8 hl hk.1, hk.2⟩))
     ·obtain rfl := hz rfl
      exact .inl ⟨rfl, rfl, .inl trivial, _, rfl⟩
    ·rename_i es cs0 hl
     simp only [oI, pI] at h1
     obtain ⟨rfl, rfl⟩ := h1
     obtain ⟨hz, ho⟩ := h2
     simp only [DRv]
     refine ⟨_, _, rfl, ?_, Im hR hrec ho hus⟩
     obtain ⟨b, s, vs', hb, hv, hk⟩ := hR.row k _ hl
     simp only [DR]
     rcases B7 hu with ⟨p, c', hb', _, rfl, _⟩ | ⟨hn, rfl, _, rfl⟩
     ·rw [hb] at hb'
      cases hb'
      exact .inr ⟨b, s + 0, c', rfl, ⟨Bx hR.wf hu, fun k e => (by cases e)⟩, hk.2.imp (fun e => e) fun e => DRs.more (fun q hq => D8 hl hq) _ _ _ e⟩
     ·obtain rfl := hz rfl
      exact .inl ⟨rfl, rfl, .inl trivial, _, rfl⟩
    ·cases h1
   ·simp only [oI, pI] at h1
    obtain ⟨rfl, rfl⟩ := h1
    simp only [DRv]
    refine ⟨_, _, rfl, ?_, Im hR hrec h2 hus⟩
    simp only [renV, oI] at hu
    subst hu
    rw [DR]
    exact .inl ⟨rfl, rfl, .inl rfl, none, rfl⟩
   ·cases h1
   ·obtain ⟨hna, h1⟩ := Ba h1
    simp only [oI, pI] at h1
    obtain ⟨rfl, rfl⟩ := h1
    simp only [DRv]
    refine ⟨_, _, rfl, ?_, Im hR hrec h2 hus⟩
    rw [Cs σ hna] at hu
    cases hu
    rw [DR]
    exact ⟨rfl, fun τ => Cs τ hna⟩
theorem Stp.turnW (hR : Rl W σ h w) {n : Nat} {r : Rw} (hl : lk h n = some r) (ho : r.own) {p : Nat × Nat} (hb : σ.b n = some p) (hx : Ext W w') (hz : w'.heap.size = w.heap.size) (hw : ∀ k, k ≠ p.1 → w'.heap[k]? = w.heap[k]?) (kd : Kd) (hkd : ¬ ShKd kd) (hk : KdOk W σ w' n p.1 p.2 [] kd) (lo : Nat) :
  Stp W lo lo σ h w σ (setH h n ⟨kd, []⟩) w' := by
 have hd : ∀ m s, lk (setH h n ⟨kd, []⟩) m = some s → (m = n ∧ s = ⟨kd, []⟩) ∨ (lk h m = some s ∧ m ≠ n) := fun m s e => by
  rw [Bo] at e
  split at e
  ·rename_i hm; cases e; exact .inl ⟨hm.symm, rfl⟩
  ·rename_i hne; exact .inr ⟨e, Ne.symm hne⟩
 have conv : ∀ m s, lk (setH h n ⟨kd, []⟩) m = some s → s.own → ∃ s', lk h m = some s' ∧ s'.own := fun m s e hs => by
  rcases hd m s e with ⟨rfl, _⟩ | ⟨e, _⟩
  ·exact ⟨r, hl, ho⟩
  ·exact ⟨s, e, hs⟩
 refine Stp0.up ⟨Sg.le.refl σ, fun _ _ => ⟨rfl, rfl⟩, ⟨hx, fun m s e => ?_, fun m k s t p q a b hs ht c d e => ?_⟩,
  Nat.le_of_eq hz.symm, fun b hb' hno _ => hw b fun e => hno n r p hl ho hb e.symm, fun m s q e hs hq => ?_⟩ hR.shr hR.wf (J0 hR.shr hl ho)
 ·rcases hd m s e with ⟨rfl, rfl⟩ | ⟨e, hne⟩
  ·exact ⟨p.1, p.2, [], hb, rfl, hk⟩
  ·exact hR.keepW hl ho hb e hne (Sg.le.refl σ) fun b hb' => hw b hb'
 ·obtain ⟨s', a', hs'⟩ := conv m s a hs
  obtain ⟨t', b', ht'⟩ := conv k t b ht
  exact hR.inj m k s' t' p q a' b' hs' ht' c d e
 ·obtain ⟨s', a', hs'⟩ := conv m s e hs
  exact .inr ⟨m, s', q, a', hs', hq, rfl⟩

def daZ (P : Program) (ev : Operand → Option Value) (h : Hp) (nx : Nat) : Op → Option (Out × List Prop)
 | .call ⟨.builtin .append, args, ts⟩ => match ts.toList, evL ev args.toList with
  | [t, tx], some [s, x] => match P.underlying t with
   | some (.slice e) => match P.info? e with
    | some i => match srcZ P h i.size tx x, i.zero with
     | some (n, news, ob2), some z => match elD h news with
      | some (es, ob) => bif Nat.beq n 1 && (Nat.beq z.cells.toList.length i.size && Nat.ble 1 i.size) then (match s with
       | .slice none 0 0 => some ((.slice (some ⟨nx + 1, 0, none⟩) 1 (B0 + (nx + 1)), (nx + 1, ⟨.dp i.size z.cells.toList es, []⟩) :: h, nx + 2, []), (i.bytes ≤ 140737488355328) :: (ob ++ ob2))
       | .slice (some ⟨m, 0, none⟩) len cap => (match lk h m with
        | some ⟨.dp sz zz ds, _⟩ => bif Nat.beq sz i.size && Iv zz z.cells.toList then some ((.slice (some ⟨nx + 1, 0, none⟩) (len + 1) (B0 + (nx + 1)), (nx + 1, ⟨.dp i.size z.cells.toList (ds ++ es), []⟩) :: delH h m, nx + 2, [m]), (cap = B0 + m ∧ ds.length = len * i.size) :: ((len + 1) * i.bytes ≤ 140737488355328 ∧ len + 1 ≤ 9223372036854775807) :: (ob ++ ob2)) else none
        | _ => none)
       | _ => none) else none
      | none => none
     | _, _ => none
    | none => none
   | _ => none
  | _, _ => none
 | _ => none
theorem DRv.len2 {F : List Nat} : ∀ {ds : List DV} {us : List Value}, DRv W w F ds us → us.length = ds.length
 | [], us, h => by simp only [DRv] at h; subst h; rfl
 | d :: ds, us, h => by simp only [DRv] at h; obtain ⟨u, us', rfl, _, h⟩ := h; simp [DRv.len2 h]
theorem DRv.app2 {F : List Nat} : ∀ {ds es : List DV} {us vs : List Value}, DRv W w F ds us → DRv W w F es vs → DRv W w F (ds ++ es) (us ++ vs)
 | [], es, us, vs, h, k => by simp only [DRv] at h; subst h; exact k
 | d :: ds, es, us, vs, h, k => by
   simp only [DRv] at h
   obtain ⟨u, us', rfl, h1, h2⟩ := h
   simp only [List.cons_append, DRv]
   exact ⟨u, us' ++ vs, rfl, h1, h2.app2 k⟩
theorem Stp.dpNew (hR : Rl W σ h w) {nx : Nat} (hf : Fresh σ nx (nx + 2)) {es : List DV} {vs zs : List Value} {t : TypeId} {size c : Nat} {z : List Value} (hv : DRv W w (Bs σ h) es vs) (hl : (vs ++ zs).length = c * size) (hc : c ≤ maxLen) (hz : ∀ x ∈ zs, x ∈ z) :
  Stp W nx (nx + 2) σ h w ((σ.bindc nx (w.heap.size, 0) c).vwc (nx + 1) (w.heap.size, 0) c (some (Bs σ h)) none) ((nx + 1, ⟨.dp size z es, []⟩) :: h) (w.alloc (.cells (vs ++ zs).toArray t)) := by
 have S := Stp.grow hR (hf.low (by omega)) (cs := []) (vs := []) rfl t (size := size) (c := c) (rest := vs ++ zs) (by simpa using hl) hc (z := vs ++ zs) (fun x hx => hx)
 simp only [List.nil_append] at S
 have hl0 : lk ((nx, (⟨.room size (vs ++ zs), []⟩ : Rw)) :: h) nx = some ⟨.room size (vs ++ zs), []⟩ := by rw [B3, if_pos rfl]
 have hne : ∀ m r, lk h m = some r → m ≠ nx := fun m r hm e => by
  subst e
  obtain ⟨b', s', vs', hb', _⟩ := hR.row _ _ hm
  rw [(hf m (Nat.le_refl _) (by omega)).1] at hb'
  cases hb'
 have hS : ∀ q, q ∈ Bs σ h → q < w.heap.size := fun q hq => by
  obtain ⟨m, s, h1, h2⟩ := Ci hq
  exact (hR.shr.2.1 m s q h1 h2).1
 have hw : ∀ k, k ∈ Bs σ h → (w.alloc (.cells (vs ++ zs).toArray t)).heap[k]? = w.heap[k]? := fun k hk => Below.block ((Ext.refl w).alloc _) k (hS k hk)
 have T := S.toDp (NX := nx + 1) (c := c) (F := Bs σ h) (r' := ⟨.dp size z es, []⟩) (b := w.heap.size) (by omega) (by omega) (hf.low (by omega)) hl0 (fun e => by cases e) (by simp [Sg.bindc]) (fun e => by cases e) (fun q hq => by
  obtain ⟨m, s, h1, h2⟩ := Ci hq
  have := hne m s h1
  refine ⟨m, s, by rw [B3, if_neg (Ne.symm this)]; exact h1, ?_⟩
  unfold sh at h2 ⊢
  simp only [Sg.bindc]
  rwa [if_neg this]) ⟨w.heap.size, 0, [], by simp [Sg.vwc], rfl, rfl, hR.ext.size, rfl, vs, t, zs, c, by simp [Sg.vwc], heap_alloc_new w _, hl, hc, hz, by
   rw [show sh ((σ.bindc nx (w.heap.size, 0) c).vwc (nx + 1) (w.heap.size, 0) c (some (Bs σ h)) none) (nx + 1) = Bs σ h by simp [sh, Sg.vwc]]
   exact DRv.keep hw _ _ hv⟩
 refine T.less fun m r hm => ?_
 rw [B3] at hm ⊢
 split
 ·rename_i e; rw [if_pos e] at hm; exact hm
 ·rename_i e
  rw [if_neg e] at hm
  have := hne m r hm
  rw [Bf, if_neg (Ne.symm this), B3, if_neg (Ne.symm this)]
  exact hm
theorem Stp.dpIn (hR : Rl W σ h w) {nx : Nat} (hf : Fresh σ nx (nx + 2)) {m b c size : Nat} {ds es : List DV} {vs z : List Value} (hl : lk h m = some ⟨.dp size z ds, []⟩) (hb : σ.b m = some (b, 0)) (hc : σ.c m = some c) (hv : DRv W w (Bs σ h) es vs) (hle : ds.length + vs.length ≤ c * size) :
  Stp W nx (nx + 2) σ h w (σ.vwc (nx + 1) (b, 0) c (some (Bs σ h)) none) ((nx + 1, ⟨.dp size z (ds ++ es), []⟩) :: delH h m) (w.setCells b ds.length vs) := by
 have hown : (⟨.dp size z ds, []⟩ : Rw).own := fun e => by cases e
 obtain ⟨b', s', vs', hb', _, h1, h2, h3, us, t, rest, c', hc', hcell, hlen, hcm, hz, hds⟩ := hR.row m _ hl
 rw [hb] at hb'
 cases hb'
 rw [hc] at hc'
 cases hc'
 have hul := hds.len2
 have hsp : Bg (us ++ rest) us.length vs = us ++ vs ++ rest.drop vs.length := D7 vs us rest (by
  simp only [List.length_append] at hlen
  omega)
 have hblk : (w.setCells b ds.length vs).heap[b]? = some (.cells (us ++ vs ++ rest.drop vs.length).toArray t (0, 0)) := by
  have := Cd vs w b ds.length _ t hcell
  simp only at this
  rw [← hul, hsp] at this
  rw [← hul]
  exact this
 have hoth : ∀ k, k ≠ b → (w.setCells b ds.length vs).heap[k]? = w.heap[k]? := fun k hk => Bu vs w b ds.length k hk
 have S := Stp.turnW hR hl hown hb (Cl vs hR.ext h2 ds.length) (Cc vs w b ds.length) hoth .lent (fun e => by cases e) ⟨rfl, h2, t, us ++ vs ++ rest.drop vs.length, (0, 0), by simpa using hblk⟩ nx
 have hS : ∀ q, q ∈ Bs σ h → q ≠ b := fun q hq e => by
  obtain ⟨m0, s0, g1, g2⟩ := Ci hq
  exact (hR.shr.2.1 m0 s0 q g1 g2).2 m _ (b, 0) hl hown hb e.symm
 have hw : ∀ k, k ∈ Bs σ h → (w.setCells b ds.length vs).heap[k]? = w.heap[k]? := fun k hk => hoth k (hS k hk)
 have hl0 : lk (setH h m ⟨.lent, []⟩) m = some ⟨.lent, []⟩ := by rw [Bo, if_pos rfl]
 have T := S.toDp (NX := nx + 1) (c := c) (F := Bs σ h) (r' := ⟨.dp size z (ds ++ es), []⟩) (b := b) (by omega) (by omega) (hf.low (by omega)) hl0 (fun e => by cases e) hb (fun e => by cases e) (fun q hq => by
  obtain ⟨m0, s0, g1, g2⟩ := Ci hq
  by_cases e : m0 = m
  ·subst e; exact ⟨m0, _, hl0, g2⟩
  ·exact ⟨m0, s0, by rw [Bo, if_neg (Ne.symm e)]; exact g1, g2⟩) ⟨b, 0, [], by simp [Sg.vwc], rfl, rfl, h2, rfl, us ++ vs, t, rest.drop vs.length, c, by simp [Sg.vwc], hblk, by
   simp only [List.length_append, List.length_drop] at hlen ⊢
   omega, hcm, (fun x hx => hz x (List.mem_of_mem_drop hx)), by
   rw [show sh (σ.vwc (nx + 1) (b, 0) c (some (Bs σ h)) none) (nx + 1) = Bs σ h by simp [sh, Sg.vwc]]
   exact DRv.keep hw _ _ ((hds.more fun k hk => D8 hl hk).app2 hv)⟩
 refine T.less fun k r hm => ?_
 rw [B3] at hm ⊢
 split
 ·rename_i e; rw [if_pos e] at hm; exact hm
 ·rename_i e
  rw [if_neg e, Bf] at hm
  split at hm
  ·cases hm
  ·rename_i e2
   rw [Bf, if_neg e2, Bo, if_neg e2]
   exact hm
theorem daZ_call {ev : Operand → Option Value} {nx : Nat} {op : Op} {x : Out × List Prop} (hs : daZ P ev h nx op = some x) : ∃ args ts, op = .call ⟨.builtin .append, args, ts⟩ := by
 unfold daZ at hs
 split at hs
 ·exact ⟨_, _, rfl⟩
 ·cases hs
theorem daZ_tidy {ev : Operand → Option Value} {nx : Nat} {op : Op} {v : Value} {h' : Hp} {nx' : Nat} {d : List Nat} {ob : List Prop} (hs : daZ P ev h nx op = some ((v, h', nx', d), ob)) : Tidy h nx h' nx' d := by
 unfold daZ at hs
 split at hs
 case h_2 => cases hs
 split at hs
 case h_2 => cases hs
 split at hs
 case h_2 => cases hs
 split at hs
 case h_2 => cases hs
 split at hs
 case h_2 => cases hs
 split at hs
 case h_2 => cases hs
 obtain ⟨_, hs⟩ := Ba hs
 split at hs
 ·simp only [oI, pI] at hs
  obtain ⟨⟨rfl, rfl, rfl, rfl⟩, _⟩ := hs
  exact ⟨by omega, fun n hn _ => by rw [B3, if_neg (by omega)], fun hB n hn => by rw [B3, if_neg (by omega)]; exact hB n (by omega)⟩
 ·split at hs
  ·obtain ⟨_, hs⟩ := Ba hs
   simp only [oI, pI] at hs
   obtain ⟨⟨rfl, rfl, rfl, rfl⟩, _⟩ := hs
   refine ⟨by omega, fun n hn hd => ?_, fun hB n hn => ?_⟩
   ·rw [B3, if_neg (by omega), Bf, if_neg (fun e => hd (by simp [e]))]
   ·rw [B3, if_neg (by omega), Bf]
    split
    ·rfl
    ·exact hB n (by omega)
  ·cases hs
 ·cases hs
theorem daZ_ok {a : Act} (hR : Rl W σ h w) {ev : Operand → Option Value} {nx nx' : Nat} (hf : Fresh σ nx nx') (H : Evs σ ev a) {o : Oper} {v : Value} {h' : Hp} {d : List Nat} {ob : List Prop} (hs : daZ P ev h nx o.op = some ((v, h', nx', d), ob)) (ho : Alls ob) :
  ∃ σ' w' v', Stp W nx nx' σ h w σ' h' w' ∧ renV σ' v = some v' ∧ Ends P a o w v' w' := by
 obtain ⟨args, ts, hop⟩ := daZ_call hs
 rw [hop] at hs
 simp only [daZ] at hs
 split at hs
 case h_2 => cases hs
 rename_i t tx s x hte hev
 split at hs
 case h_2 => cases hs
 rename_i e hu
 split at hs
 case h_2 => cases hs
 rename_i i hi
 split at hs
 case h_2 => cases hs
 rename_i n news ob2 z hsrc hz
 split at hs
 case h_2 => cases hs
 rename_i es ob1 hel
 obtain ⟨hg, hs1⟩ := Ba hs
 clear hs
 simp only [Bool.and_eq_true] at hg
 obtain ⟨g0, g1, g2⟩ := hg
 obtain rfl := Nat.eq_of_beq_eq_true g0
 have hzs : z.cells.size = i.size := by have := Nat.eq_of_beq_eq_true g1; simpa using this
 obtain ⟨s', l, hs', hl, e1⟩ := B9 (Dq H hev)
 obtain ⟨x', l', hx', hl', rfl⟩ := B9 hl
 simp only [renL, oI] at hl'
 subst hl'
 have hargs : args.map a.eval = #[s', x'] := by apply Array.toList_inj.1; rw [Array.toList_map, e1]
 have hts' : ts = #[t, tx] := by apply Array.toList_inj.1; simpa using hte
 have fin : ∀ {v' w'}, (Builtin.append_ #[t, tx] o.type #[s', x']).run P w = .ok v' w' → Ends P a o w v' w' := fun h3 => by
  refine .inl ?_
  unfold execOp
  simp only [hop, resolve, Sem.run_bind, Sem.run_pure, Result.andThen_ok, invoke, builtin, hargs, hts', h3]
 have ren_ : ∀ {τ : Sg} {b c len : Nat}, len ≤ c → renV (τ.vwc (nx + 1) (b, 0) c (some (Bs σ h)) none) (.slice (some ⟨nx + 1, 0, none⟩) len (B0 + (nx + 1))) = some (.slice (some ⟨b, 0, none⟩) len c) := fun {τ b c len} hl =>
  B5 (o := 0) (p := (b, 0)) (by simp [Sg.vwc]) (by unfold cpR; rw [if_neg (by omega), Nat.add_sub_cancel_left]; simp [Sg.vwc]) (by simp [Sg.vwc]) (.inr hl)
 have grow_ : ∀ {base : Option Addr} {sLen sCap : Nat} {olds : List Value} {ds : List DV}, s' = .slice base sLen sCap → Alls ob1 → Alls ob2 → (Builtin.firstCells i.size sLen (.slice base sLen sCap)).run P w.drew = .ok olds.toArray w.drew → DRv W w (Bs σ h) ds olds → olds.length = sLen * i.size → sCap < sLen + 1 → sLen + 1 ≤ 9223372036854775807 → (sLen + 1) * i.bytes ≤ 140737488355328 → Fresh σ nx (nx + 2) →
   ∃ σ' w' v', Stp W nx (nx + 2) σ h w σ' ((nx + 1, ⟨.dp i.size z.cells.toList (ds ++ es), []⟩) :: h) w' ∧ renV σ' (.slice (some ⟨nx + 1, 0, none⟩) (sLen + 1) (B0 + (nx + 1))) = some v' ∧ Ends P a o w v' w' := by
  intro base sLen sCap olds ds hse ho1 ho2 hold hds hol hg h63 hb hf
  obtain ⟨vn, hn, hsr⟩ := Dz hR (Cw hsrc ho2) hx'
  have hE := Im hR hel ho1 hn
  have hrun := run_append_grow_src (P := P) (ty := o.type) w t tx e i z hu hi hz base sLen sCap olds hold x' 1 vn hsr hg (by omega) (growslice_fits hg hb)
  have hge := grownCap_ge w (sLen + 1) sCap e
  have hle := grownCap_le_maxLen w (sLen + 1) sCap e (by unfold maxLen; omega)
  have hd := Stp.drew hR nx
  have hlen : (olds ++ vn ++ (Builtin.zeroCells z.cells (grownCap w (sLen + 1) sCap e - (sLen + 1))).toList).length = grownCap w (sLen + 1) sCap e * i.size := by
   rw [List.length_append, List.length_append, hol, hsr.newsLen, Array.length_toList, size_zeroCells, hzs, ← Nat.add_mul, ← Nat.add_mul]
   congr 1
   omega
  have S := Stp.dpNew hd.rl hf (t := e) (DRv.keep (w := w) (w1 := w.drew) (F := Bs σ h) (fun _ _ => rfl) (ds ++ es) (olds ++ vn) (hds.app2 hE)) hlen hle (z := z.cells.toList) Ht
  refine ⟨_, _, _, hd.trans S (Nat.le_refl _) (by omega), ren_ (by omega), fin ?_⟩
  rw [hse, hrun]
  congr 2
  apply congrArg (fun q => Obj.cells q e (0, 0))
  apply Array.toList_inj.1
  simp
 split at hs1
 ·simp only [oI, pI] at hs1
  obtain ⟨⟨rfl, rfl, rfl, rfl⟩, rfl⟩ := hs1
  obtain ⟨k1, k23⟩ := ho
  obtain ⟨k2, k3⟩ := Bw.1 k23
  have := grow_ (base := none) (sLen := 0) (sCap := 0) (olds := []) (ds := []) (by simpa only [renV, oI] using hs'.symm) k2 k3 (run_firstCells_none w.drew i.size 0 0 0) (by simp [DRv]) (by simp) (by omega) (by omega) (by omega) hf
  simpa using this
 ·rename_i m len cap
  split at hs1
  case h_2 => cases hs1
  rename_i sz zz ds cs0 hlm
  obtain ⟨hg3, hs2⟩ := Ba hs1
  clear hs1
  simp only [oI, pI] at hs2
  obtain ⟨⟨rfl, rfl, rfl, rfl⟩, rfl⟩ := hs2
  obtain ⟨⟨rfl, k0⟩, ⟨k1, k2⟩, k34⟩ := ho
  obtain ⟨k3, k4⟩ := Bw.1 k34
  simp only [Bool.and_eq_true] at hg3
  obtain rfl := Nat.eq_of_beq_eq_true hg3.1
  have gz := Er hg3.2
  subst gz
  have hrow := hR.row m _ hlm
  obtain ⟨b, s0, vs0, hb, hv0, q1, q2, q3, us, tt, rest, c, hcm, hblk, hrl, hcl, hrz, hds⟩ := hrow
  subst q1
  subst q3
  have hcs0 : cs0 = [] := by
   have := Bn hv0
   exact List.eq_nil_of_length_eq_zero this.symm
  subst hcs0
  have hul := hds.len2
  rcases B7 hs' with ⟨p, c', hb', hcp, hse, hnn⟩ | ⟨hnn, _, _, _⟩
  case inr => exact (hR.shr.1 m _ hlm (fun e => by cases e) hnn).elim
  rw [hb] at hb'
  cases hb'
  rw [Bq, hcm] at hcp
  cases hcp
  have hcell : ∀ j, j < (us ++ rest).length → w.cell? ⟨b, j, none⟩ = (us ++ rest)[j]? := fun j hj => by
   rw [cell_of_row w b j _ tt _ hblk]; simp
  have hmore : DRv W w (Bs σ h) ds us := hds.more fun k hk => D8 hlm hk
  by_cases hroom : len + 1 ≤ c
  ·obtain ⟨vn, hn, hsr⟩ := Dz hR (Cw hsrc k4) hx'
   have hE := Im hR hel k3 hn
   have hvn := hsr.newsLen
   have hfit : ds.length + vn.length ≤ c * i.size := by
    rw [k0, hvn, ← Nat.add_mul]; exact Nat.mul_le_mul_right _ hroom
   have hrun := run_append_room_src (P := P) (ty := o.type) w t tx e i hu hi b (0 + 0) len c x' 1 vn hsr hroom (fun j hj => by
    have hlt2 : len * i.size + j < (us ++ rest).length := by omega
    rw [show 0 + 0 + len * i.size + j = len * i.size + j by omega, hcell _ hlt2, List.getElem?_eq_getElem hlt2]; rfl) (fun j hj => frozen_of_row w b _ _ tt hblk)
   have S := Stp.dpIn hR hf hlm hb hcm hE hfit
   refine ⟨_, _, _, S, ren_ (τ := σ) (by omega), fin ?_⟩
   rw [hse, hrun, k0]
   simp
  ·have := grow_ (base := some ⟨b, 0 + 0, none⟩) (sLen := len) (sCap := c) (olds := us) (ds := ds) hse k3 k4 (run_firstCells_some (P := P) w.drew i.size len _ len c us (by omega) (fun j u hj => by
     rw [C3]
     show w.cell? ⟨b, 0 + 0 + j, none⟩ = some u
     rw [show 0 + 0 + j = j by omega]
     have hjl := (List.getElem?_eq_some_iff.1 hj).1
     rw [hcell j (by simp; omega), List.getElem?_append_left hjl]
     exact hj)) hmore (by omega) (by omega) k2 k1 hf
   obtain ⟨σ', w', v', h1, h2, h3⟩ := this
   refine ⟨σ', w', v', h1.less (fun k r hk => ?_), h2, h3⟩
   rw [B3] at hk ⊢
   split
   ·rename_i e5; rw [if_pos e5] at hk; exact hk
   ·rename_i e5
    rw [if_neg e5, Bf] at hk
    split at hk
    ·cases hk
    ·exact hk
 ·cases hs1
def odZ (P : Program) (md : Nat) (ev : Operand → Option Value) (h : Hp) (nx : Nat) (op : Op) : Option (Out × List Prop) := bif Nat.beq md 44 then daZ P ev h nx op else odX P md ev h nx op
theorem odZ_tidy {md : Nat} {ev : Operand → Option Value} {nx : Nat} {op : Op} {v : Value} {h' : Hp} {nx' : Nat} {d : List Nat} {ob : List Prop} (hs : odZ P md ev h nx op = some ((v, h', nx', d), ob)) : Tidy h nx h' nx' d := by
 unfold odZ at hs
 rcases Be hs with ⟨_, hs⟩ | ⟨_, hs⟩
 ·exact daZ_tidy hs
 ·exact odX_tidy hs
theorem odZ_ok {a : Act} (hR : Rl W σ h w) {md : Nat} {ev : Operand → Option Value} {nx nx' : Nat} (hf : Fresh σ nx nx') (H : Evs σ ev a) {o : Oper} {v : Value} {h' : Hp} {d : List Nat} {ob : List Prop} (hs : odZ P md ev h nx o.op = some ((v, h', nx', d), ob)) (ho : Alls ob) :
  ∃ σ' w' v', Stp W nx nx' σ h w σ' h' w' ∧ renV σ' v = some v' ∧ Ends P a o w v' w' := by
 unfold odZ at hs
 rcases Be hs with ⟨_, hs⟩ | ⟨_, hs⟩
 ·exact daZ_ok hR hf H hs ho
 ·exact odX_ok hR hf H hs ho
end
section
variable {P : Program} {W : World} {lo hi : Nat} {σ σ' : Sg} {h h' : Hp} {w w' : World}
def isFr : Kd → Bool
 | .of => true
 | .df _ _ _ => true
 | _ => false
def shF (σ : Sg) (h : Hp) : List Nat := h.flatMap fun e => match lk h e.1 with | some r => bif isFr r.kd then sh σ e.1 else [] | none => []
theorem Ke {k : Nat} (hk : k ∈ shF σ h) : ∃ m s, lk h m = some s ∧ isFr s.kd = true ∧ k ∈ sh σ m := by
 obtain ⟨e, h1, h2⟩ := List.mem_flatMap.1 hk
 split at h2
 ·rename_i r hr
  cases hb : isFr r.kd with
  | true => rw [hb] at h2; exact ⟨e.1, r, hr, hb, h2⟩
  | false => rw [hb] at h2; cases h2
 ·cases h2
theorem shF_of {k m : Nat} {s : Rw} (hl : lk h m = some s) (hb : isFr s.kd = true) (hk : k ∈ sh σ m) : k ∈ shF σ h := List.mem_flatMap.2 ⟨(m, s), mem_lk hl, by simp only [hl, hb, cond_true]; exact hk⟩
theorem shF_ok (hR : Rl W σ h w) : FOk W w (shF σ h) := fun k hk => by
 obtain ⟨m, s, h1, h2, h3⟩ := Ke hk
 obtain ⟨b, c, vs, e1, e2, e3⟩ := hR.row m s h1
 obtain ⟨kd, cs⟩ := s
 cases kd with
 | of => exact e3.1 k h3
 | df sz zz ds => exact e3.1 k h3
 | _ => cases h2
def elF (h : Hp) : List Value → Option (List DV × List Prop)
 | [] => some ([], [])
 | v :: vs => match elF h vs with
  | some (ds, ob) => (match v with
   | .slice (some ⟨k, 0, none⟩) n _ => (match lk h k with
    | some ⟨.of, cs⟩ => some (.sl n none (cs.map DV.fl) :: ds, ((∀ τ, renL τ cs = some cs) ∧ (n = 0 → cs = [])) :: ob)
    | _ => none)
   | .slice none 0 0 => some (.sl 0 none [] :: ds, ob)
   | .slice _ _ _ => none
   | v => bif noAd v then some (.fl v :: ds, ob) else none)
  | none => none
theorem elF_ok (hR : Rl W σ h w) {V : World} : ∀ {cells : List Value} {ds : List DV} {ob : List Prop} {us : List Value}, elF h cells = some (ds, ob) → Alls ob → renL σ cells = some us → DRv V w (shF σ h) ds us
 | [], ds, ob, us, h1, _, h3 => by
   simp only [elF, oI, pI] at h1
   obtain ⟨rfl, _⟩ := h1
   simp only [renL, oI] at h3
   subst h3
   simp [DRv]
 | v :: vs, ds, ob, us, h1, h2, h3 => by
   obtain ⟨u, us', hu, hus, rfl⟩ := B9 h3
   simp only [elF] at h1
   split at h1
   case h_2 => cases h1
   rename_i ds' ob' hrec
   split at h1
   ·rename_i k n c
    split at h1
    ·rename_i cs hl
     simp only [oI, pI] at h1
     obtain ⟨rfl, rfl⟩ := h1
     obtain ⟨⟨hf, hz⟩, ho⟩ := h2
     simp only [DRv]
     refine ⟨_, _, rfl, ?_, elF_ok hR hrec ho hus⟩
     obtain ⟨b, s, vs', hb, hv, hk⟩ := hR.row k _ hl
     simp only at hv
     rw [hf σ] at hv
     cases hv
     simp only [DR]
     rcases B7 hu with ⟨p, c', hb', _, rfl, _⟩ | ⟨hn, rfl, _, rfl⟩
     ·rw [hb] at hb'
      cases hb'
      refine .inr ⟨b, s + 0, c', rfl, ⟨Bx hR.wf hu, fun k e => (by cases e)⟩, ?_⟩
      rcases hk.2 with hk | hk
      ·exact .inl (by rw [hk]; rfl)
      ·exact .inr (Jd hf (.inr ⟨shF_of hl rfl hk.1, hk.2⟩))
     ·obtain rfl := hz rfl
      exact .inl ⟨rfl, rfl, .inl trivial, _, rfl⟩
    ·cases h1
   ·simp only [oI, pI] at h1
    obtain ⟨rfl, rfl⟩ := h1
    simp only [DRv]
    refine ⟨_, _, rfl, ?_, elF_ok hR hrec h2 hus⟩
    simp only [renV, oI] at hu
    subst hu
    rw [DR]
    exact .inl ⟨rfl, rfl, .inl rfl, none, rfl⟩
   ·cases h1
   ·obtain ⟨hna, h1⟩ := Ba h1
    simp only [oI, pI] at h1
    obtain ⟨rfl, rfl⟩ := h1
    simp only [DRv]
    refine ⟨_, _, rfl, ?_, elF_ok hR hrec h2 hus⟩
    rw [Cs σ hna] at hu
    cases hu
    rw [DR]
    exact ⟨rfl, fun τ => Cs τ hna⟩
def daF (P : Program) (ev : Operand → Option Value) (h : Hp) (nx : Nat) : Op → Option (Out × List Prop)
 | .call ⟨.builtin .append, args, ts⟩ => match ts.toList, evL ev args.toList with
  | [t, tx], some [s, x] => match P.underlying t with
   | some (.slice e) => match P.info? e with
    | some i => match srcZ P h i.size tx x, i.zero with
     | some (n, news, ob2), some z => match elF h news with
      | some (es, ob) => bif Nat.beq n 1 && (Nat.beq z.cells.toList.length i.size && Nat.ble 1 i.size) then (match s with
       | .slice none 0 0 => some ((.slice (some ⟨nx + 1, 0, none⟩) 1 (B0 + (nx + 1)), (nx + 1, ⟨.df i.size z.cells.toList es, []⟩) :: h, nx + 2, []), (i.bytes ≤ 140737488355328) :: (ob ++ ob2))
       | .slice (some ⟨m, 0, none⟩) len cap => (match lk h m with
        | some ⟨.df sz zz ds, _⟩ => bif Nat.beq sz i.size && Iv zz z.cells.toList then some ((.slice (some ⟨nx + 1, 0, none⟩) (len + 1) (B0 + (nx + 1)), (nx + 1, ⟨.df i.size z.cells.toList (ds ++ es), []⟩) :: delH h m, nx + 2, [m]), (cap = B0 + m ∧ ds.length = len * i.size) :: ((len + 1) * i.bytes ≤ 140737488355328 ∧ len + 1 ≤ 9223372036854775807) :: (ob ++ ob2)) else none
        | _ => none)
       | _ => none) else none
      | none => none
     | _, _ => none
    | none => none
   | _ => none
  | _, _ => none
 | _ => none
theorem Stp.dfNew (hR : Rl W σ h w) {nx : Nat} (hf : Fresh σ nx (nx + 2)) {es : List DV} {vs zs : List Value} {t : TypeId} {size c : Nat} {z : List Value} (hv : ∀ V, DRv V w (shF σ h) es vs) (hl : (vs ++ zs).length = c * size) (hc : c ≤ maxLen) (hz : ∀ x ∈ zs, x ∈ z) :
  Stp W nx (nx + 2) σ h w ((σ.bindc nx (w.heap.size, 0) c).vwc (nx + 1) (w.heap.size, 0) c (some (shF σ h)) none) ((nx + 1, ⟨.df size z es, []⟩) :: h) (w.alloc (.cells (vs ++ zs).toArray t)) := by
 have S := Stp.grow hR (hf.low (by omega)) (cs := []) (vs := []) rfl t (size := size) (c := c) (rest := vs ++ zs) (by simpa using hl) hc (z := vs ++ zs) (fun x hx => hx)
 simp only [List.nil_append] at S
 have hl0 : lk ((nx, (⟨.room size (vs ++ zs), []⟩ : Rw)) :: h) nx = some ⟨.room size (vs ++ zs), []⟩ := by rw [B3, if_pos rfl]
 have hne : ∀ m r, lk h m = some r → m ≠ nx := fun m r hm e => by
  subst e
  obtain ⟨b', s', vs', hb', _⟩ := hR.row _ _ hm
  rw [(hf m (Nat.le_refl _) (by omega)).1] at hb'
  cases hb'
 have hS : ∀ q, q ∈ shF σ h → q < w.heap.size := fun q hq => by
  obtain ⟨m, s, h1, _, h2⟩ := Ke hq
  exact (hR.shr.2.1 m s q h1 h2).1
 have hw : ∀ k, k ∈ shF σ h → (w.alloc (.cells (vs ++ zs).toArray t)).heap[k]? = w.heap[k]? := fun k hk => Below.block ((Ext.refl w).alloc _) k (hS k hk)
 have T := S.toDp (NX := nx + 1) (c := c) (F := shF σ h) (r' := ⟨.df size z es, []⟩) (b := w.heap.size) (by omega) (by omega) (hf.low (by omega)) hl0 (fun e => by cases e) (by simp [Sg.bindc]) (fun e => by cases e) (fun q hq => by
  obtain ⟨m, s, h1, _, h2⟩ := Ke hq
  have := hne m s h1
  refine ⟨m, s, by rw [B3, if_neg (Ne.symm this)]; exact h1, ?_⟩
  unfold sh at h2 ⊢
  simp only [Sg.bindc]
  rwa [if_neg this]) ⟨w.heap.size, 0, [], by simp [Sg.vwc], rfl, by
   rw [show sh ((σ.bindc nx (w.heap.size, 0) c).vwc (nx + 1) (w.heap.size, 0) c (some (shF σ h)) none) (nx + 1) = shF σ h by simp [sh, Sg.vwc]]
   exact (shF_ok hR).keep hw, rfl, hR.ext.size, rfl, vs, t, zs, c, by simp [Sg.vwc], heap_alloc_new w _, hl, hc, hz, fun V => by
   rw [show sh ((σ.bindc nx (w.heap.size, 0) c).vwc (nx + 1) (w.heap.size, 0) c (some (shF σ h)) none) (nx + 1) = shF σ h by simp [sh, Sg.vwc]]
   exact DRv.keep hw _ _ (hv V)⟩
 refine T.less fun m r hm => ?_
 rw [B3] at hm ⊢
 split
 ·rename_i e; rw [if_pos e] at hm; exact hm
 ·rename_i e
  rw [if_neg e] at hm
  have := hne m r hm
  rw [Bf, if_neg (Ne.symm this), B3, if_neg (Ne.symm this)]
  exact hm
theorem Stp.dfIn (hR : Rl W σ h w) {nx : Nat} (hf : Fresh σ nx (nx + 2)) {m b c size : Nat} {ds es : List DV} {vs z : List Value} (hl : lk h m = some ⟨.df size z ds, []⟩) (hb : σ.b m = some (b, 0)) (hc : σ.c m = some c) (hv : ∀ V, DRv V w (shF σ h) es vs) (hle : ds.length + vs.length ≤ c * size) :
  Stp W nx (nx + 2) σ h w (σ.vwc (nx + 1) (b, 0) c (some (shF σ h)) none) ((nx + 1, ⟨.df size z (ds ++ es), []⟩) :: delH h m) (w.setCells b ds.length vs) := by
 have hown : (⟨.df size z ds, []⟩ : Rw).own := fun e => by cases e
 obtain ⟨b', s', vs', hb', _, hf0, h1, h2, h3, us, t, rest, c', hc', hcell, hlen, hcm, hz, hds⟩ := hR.row m _ hl
 rw [hb] at hb'
 cases hb'
 rw [hc] at hc'
 cases hc'
 have hul := (hds W).len2
 have hsp : Bg (us ++ rest) us.length vs = us ++ vs ++ rest.drop vs.length := D7 vs us rest (by
  simp only [List.length_append] at hlen
  omega)
 have hblk : (w.setCells b ds.length vs).heap[b]? = some (.cells (us ++ vs ++ rest.drop vs.length).toArray t (0, 0)) := by
  have := Cd vs w b ds.length _ t hcell
  simp only at this
  rw [← hul, hsp] at this
  rw [← hul]
  exact this
 have hoth : ∀ k, k ≠ b → (w.setCells b ds.length vs).heap[k]? = w.heap[k]? := fun k hk => Bu vs w b ds.length k hk
 have S := Stp.turnW hR hl hown hb (Cl vs hR.ext h2 ds.length) (Cc vs w b ds.length) hoth .lent (fun e => by cases e) ⟨rfl, h2, t, us ++ vs ++ rest.drop vs.length, (0, 0), by simpa using hblk⟩ nx
 have hS : ∀ q, q ∈ shF σ h → q ≠ b := fun q hq e => by
  obtain ⟨m0, s0, g1, _, g2⟩ := Ke hq
  exact (hR.shr.2.1 m0 s0 q g1 g2).2 m _ (b, 0) hl hown hb e.symm
 have hw : ∀ k, k ∈ shF σ h → (w.setCells b ds.length vs).heap[k]? = w.heap[k]? := fun k hk => hoth k (hS k hk)
 have hl0 : lk (setH h m ⟨.lent, []⟩) m = some ⟨.lent, []⟩ := by rw [Bo, if_pos rfl]
 have T := S.toDp (NX := nx + 1) (c := c) (F := shF σ h) (r' := ⟨.df size z (ds ++ es), []⟩) (b := b) (by omega) (by omega) (hf.low (by omega)) hl0 (fun e => by cases e) hb (fun e => by cases e) (fun q hq => by
  obtain ⟨m0, s0, g1, _, g2⟩ := Ke hq
  by_cases e : m0 = m
  ·subst e; exact ⟨m0, _, hl0, g2⟩
  ·exact ⟨m0, s0, by rw [Bo, if_neg (Ne.symm e)]; exact g1, g2⟩) ⟨b, 0, [], by simp [Sg.vwc], rfl, by
   rw [show sh (σ.vwc (nx + 1) (b, 0) c (some (shF σ h)) none) (nx + 1) = shF σ h by simp [sh, Sg.vwc]]
   exact (shF_ok hR).keep hw, rfl, h2, rfl, us ++ vs, t, rest.drop vs.length, c, by simp [Sg.vwc], hblk, by
   simp only [List.length_append, List.length_drop] at hlen ⊢
   omega, hcm, (fun x hx => hz x (List.mem_of_mem_drop hx)), fun V => by
   rw [show sh (σ.vwc (nx + 1) (b, 0) c (some (shF σ h)) none) (nx + 1) = shF σ h by simp [sh, Sg.vwc]]
   exact DRv.keep hw _ _ (((hds V).more fun k hk => shF_of hl rfl hk).app2 (hv V))⟩
 refine T.less fun k r hm => ?_
 rw [B3] at hm ⊢
 split
 ·rename_i e; rw [if_pos e] at hm; exact hm
 ·rename_i e
  rw [if_neg e, Bf] at hm
  split at hm
  ·cases hm
  ·rename_i e2
   rw [Bf, if_neg e2, Bo, if_neg e2]
   exact hm
theorem daF_call {ev : Operand → Option Value} {nx : Nat} {op : Op} {x : Out × List Prop} (hs : daF P ev h nx op = some x) : ∃ args ts, op = .call ⟨.builtin .append, args, ts⟩ := by
 unfold daF at hs
 split at hs
 ·exact ⟨_, _, rfl⟩
 ·cases hs
theorem daF_tidy {ev : Operand → Option Value} {nx : Nat} {op : Op} {v : Value} {h' : Hp} {nx' : Nat} {d : List Nat} {ob : List Prop} (hs : daF P ev h nx op = some ((v, h', nx', d), ob)) : Tidy h nx h' nx' d := by
 unfold daF at hs
 split at hs
 case h_2 => cases hs
 split at hs
 case h_2 => cases hs
 split at hs
 case h_2 => cases hs
 split at hs
 case h_2 => cases hs
 split at hs
 case h_2 => cases hs
 split at hs
 case h_2 => cases hs
 obtain ⟨_, hs⟩ := Ba hs
 split at hs
 ·simp only [oI, pI] at hs
  obtain ⟨⟨rfl, rfl, rfl, rfl⟩, _⟩ := hs
  exact ⟨by omega, fun n hn _ => by rw [B3, if_neg (by omega)], fun hB n hn => by rw [B3, if_neg (by omega)]; exact hB n (by omega)⟩
 ·split at hs
  ·obtain ⟨_, hs⟩ := Ba hs
   simp only [oI, pI] at hs
   obtain ⟨⟨rfl, rfl, rfl, rfl⟩, _⟩ := hs
   refine ⟨by omega, fun n hn hd => ?_, fun hB n hn => ?_⟩
   ·rw [B3, if_neg (by omega), Bf, if_neg (fun e => hd (by simp [e]))]
   ·rw [B3, if_neg (by omega), Bf]
    split
    ·rfl
    ·exact hB n (by omega)
  ·cases hs
 ·cases hs
theorem daF_ok {a : Act} (hR : Rl W σ h w) {ev : Operand → Option Value} {nx nx' : Nat} (hf : Fresh σ nx nx') (H : Evs σ ev a) {o : Oper} {v : Value} {h' : Hp} {d : List Nat} {ob : List Prop} (hs : daF P ev h nx o.op = some ((v, h', nx', d), ob)) (ho : Alls ob) :
  ∃ σ' w' v', Stp W nx nx' σ h w σ' h' w' ∧ renV σ' v = some v' ∧ Ends P a o w v' w' := by
 obtain ⟨args, ts, hop⟩ := daF_call hs
 rw [hop] at hs
 simp only [daF] at hs
 split at hs
 case h_2 => cases hs
 rename_i t tx s x hte hev
 split at hs
 case h_2 => cases hs
 rename_i e hu
 split at hs
 case h_2 => cases hs
 rename_i i hi
 split at hs
 case h_2 => cases hs
 rename_i n news ob2 z hsrc hz
 split at hs
 case h_2 => cases hs
 rename_i es ob1 hel
 obtain ⟨hg, hs1⟩ := Ba hs
 clear hs
 simp only [Bool.and_eq_true] at hg
 obtain ⟨g0, g1, g2⟩ := hg
 obtain rfl := Nat.eq_of_beq_eq_true g0
 have hzs : z.cells.size = i.size := by have := Nat.eq_of_beq_eq_true g1; simpa using this
 obtain ⟨s', l, hs', hl, e1⟩ := B9 (Dq H hev)
 obtain ⟨x', l', hx', hl', rfl⟩ := B9 hl
 simp only [renL, oI] at hl'
 subst hl'
 have hargs : args.map a.eval = #[s', x'] := by apply Array.toList_inj.1; rw [Array.toList_map, e1]
 have hts' : ts = #[t, tx] := by apply Array.toList_inj.1; simpa using hte
 have fin : ∀ {v' w'}, (Builtin.append_ #[t, tx] o.type #[s', x']).run P w = .ok v' w' → Ends P a o w v' w' := fun h3 => by
  refine .inl ?_
  unfold execOp
  simp only [hop, resolve, Sem.run_bind, Sem.run_pure, Result.andThen_ok, invoke, builtin, hargs, hts', h3]
 have ren_ : ∀ {τ : Sg} {b c len : Nat}, len ≤ c → renV (τ.vwc (nx + 1) (b, 0) c (some (shF σ h)) none) (.slice (some ⟨nx + 1, 0, none⟩) len (B0 + (nx + 1))) = some (.slice (some ⟨b, 0, none⟩) len c) := fun {τ b c len} hl =>
  B5 (o := 0) (p := (b, 0)) (by simp [Sg.vwc]) (by unfold cpR; rw [if_neg (by omega), Nat.add_sub_cancel_left]; simp [Sg.vwc]) (by simp [Sg.vwc]) (.inr hl)
 have grow_ : ∀ {base : Option Addr} {sLen sCap : Nat} {olds : List Value} {ds : List DV}, s' = .slice base sLen sCap → Alls ob1 → Alls ob2 → (Builtin.firstCells i.size sLen (.slice base sLen sCap)).run P w.drew = .ok olds.toArray w.drew → (∀ V, DRv V w (shF σ h) ds olds) → olds.length = sLen * i.size → sCap < sLen + 1 → sLen + 1 ≤ 9223372036854775807 → (sLen + 1) * i.bytes ≤ 140737488355328 → Fresh σ nx (nx + 2) →
   ∃ σ' w' v', Stp W nx (nx + 2) σ h w σ' ((nx + 1, ⟨.df i.size z.cells.toList (ds ++ es), []⟩) :: h) w' ∧ renV σ' (.slice (some ⟨nx + 1, 0, none⟩) (sLen + 1) (B0 + (nx + 1))) = some v' ∧ Ends P a o w v' w' := by
  intro base sLen sCap olds ds hse ho1 ho2 hold hds hol hg h63 hb hf
  obtain ⟨vn, hn, hsr⟩ := Dz hR (Cw hsrc ho2) hx'
  have hE := fun V => elF_ok hR (V := V) hel ho1 hn
  have hrun := run_append_grow_src (P := P) (ty := o.type) w t tx e i z hu hi hz base sLen sCap olds hold x' 1 vn hsr hg (by omega) (growslice_fits hg hb)
  have hge := grownCap_ge w (sLen + 1) sCap e
  have hle := grownCap_le_maxLen w (sLen + 1) sCap e (by unfold maxLen; omega)
  have hd := Stp.drew hR nx
  have hlen : (olds ++ vn ++ (Builtin.zeroCells z.cells (grownCap w (sLen + 1) sCap e - (sLen + 1))).toList).length = grownCap w (sLen + 1) sCap e * i.size := by
   rw [List.length_append, List.length_append, hol, hsr.newsLen, Array.length_toList, size_zeroCells, hzs, ← Nat.add_mul, ← Nat.add_mul]
   congr 1
   omega
  have S := Stp.dfNew hd.rl hf (t := e) (fun V => DRv.keep (w := w) (w1 := w.drew) (F := shF σ h) (fun _ _ => rfl) (ds ++ es) (olds ++ vn) ((hds V).app2 (hE V))) hlen hle (z := z.cells.toList) Ht
  refine ⟨_, _, _, hd.trans S (Nat.le_refl _) (by omega), ren_ (by omega), fin ?_⟩
  rw [hse, hrun]
  congr 2
  apply congrArg (fun q => Obj.cells q e (0, 0))
  apply Array.toList_inj.1
  simp
 split at hs1
 ·simp only [oI, pI] at hs1
  obtain ⟨⟨rfl, rfl, rfl, rfl⟩, rfl⟩ := hs1
  obtain ⟨k1, k23⟩ := ho
  obtain ⟨k2, k3⟩ := Bw.1 k23
  have := grow_ (base := none) (sLen := 0) (sCap := 0) (olds := []) (ds := []) (by simpa only [renV, oI] using hs'.symm) k2 k3 (run_firstCells_none w.drew i.size 0 0 0) (fun V => by simp [DRv]) (by simp) (by omega) (by omega) (by omega) hf
  simpa using this
 ·rename_i m len cap
  split at hs1
  case h_2 => cases hs1
  rename_i sz zz ds cs0 hlm
  obtain ⟨hg3, hs2⟩ := Ba hs1
  clear hs1
  simp only [oI, pI] at hs2
  obtain ⟨⟨rfl, rfl, rfl, rfl⟩, rfl⟩ := hs2
  obtain ⟨⟨rfl, k0⟩, ⟨k1, k2⟩, k34⟩ := ho
  obtain ⟨k3, k4⟩ := Bw.1 k34
  simp only [Bool.and_eq_true] at hg3
  obtain rfl := Nat.eq_of_beq_eq_true hg3.1
  have gz := Er hg3.2
  subst gz
  have hrow := hR.row m _ hlm
  obtain ⟨b, s0, vs0, hb, hv0, _, q1, q2, q3, us, tt, rest, c, hcm, hblk, hrl, hcl, hrz, hds⟩ := hrow
  subst q1
  subst q3
  have hcs0 : cs0 = [] := by
   have := Bn hv0
   exact List.eq_nil_of_length_eq_zero this.symm
  subst hcs0
  have hul := (hds W).len2
  rcases B7 hs' with ⟨p, c', hb', hcp, hse, hnn⟩ | ⟨hnn, _, _, _⟩
  case inr => exact (hR.shr.1 m _ hlm (fun e => by cases e) hnn).elim
  rw [hb] at hb'
  cases hb'
  rw [Bq, hcm] at hcp
  cases hcp
  have hcell : ∀ j, j < (us ++ rest).length → w.cell? ⟨b, j, none⟩ = (us ++ rest)[j]? := fun j hj => by
   rw [cell_of_row w b j _ tt _ hblk]; simp
  have hmore : ∀ V, DRv V w (shF σ h) ds us := fun V => (hds V).more fun k hk => shF_of hlm rfl hk
  by_cases hroom : len + 1 ≤ c
  ·obtain ⟨vn, hn, hsr⟩ := Dz hR (Cw hsrc k4) hx'
   have hE := fun V => elF_ok hR (V := V) hel k3 hn
   have hvn := hsr.newsLen
   have hfit : ds.length + vn.length ≤ c * i.size := by
    rw [k0, hvn, ← Nat.add_mul]; exact Nat.mul_le_mul_right _ hroom
   have hrun := run_append_room_src (P := P) (ty := o.type) w t tx e i hu hi b (0 + 0) len c x' 1 vn hsr hroom (fun j hj => by
    have hlt2 : len * i.size + j < (us ++ rest).length := by omega
    rw [show 0 + 0 + len * i.size + j = len * i.size + j by omega, hcell _ hlt2, List.getElem?_eq_getElem hlt2]; rfl) (fun j hj => frozen_of_row w b _ _ tt hblk)
   have S := Stp.dfIn hR hf hlm hb hcm hE hfit
   refine ⟨_, _, _, S, ren_ (τ := σ) (by omega), fin ?_⟩
   rw [hse, hrun, k0]
   simp
  ·have := grow_ (base := some ⟨b, 0 + 0, none⟩) (sLen := len) (sCap := c) (olds := us) (ds := ds) hse k3 k4 (run_firstCells_some (P := P) w.drew i.size len _ len c us (by omega) (fun j u hj => by
     rw [C3]
     show w.cell? ⟨b, 0 + 0 + j, none⟩ = some u
     rw [show 0 + 0 + j = j by omega]
     have hjl := (List.getElem?_eq_some_iff.1 hj).1
     rw [hcell j (by simp; omega), List.getElem?_append_left hjl]
     exact hj)) hmore (by omega) (by omega) k2 k1 hf
   obtain ⟨σ', w', v', h1, h2, h3⟩ := this
   refine ⟨σ', w', v', h1.less (fun k r hk => ?_), h2, h3⟩
   rw [B3] at hk ⊢
   split
   ·rename_i e5; rw [if_pos e5] at hk; exact hk
   ·rename_i e5
    rw [if_neg e5, Bf] at hk
    split at hk
    ·cases hk
    ·exact hk
 ·cases hs1
def odW (P : Program) (md : Nat) (ev : Operand → Option Value) (h : Hp) (nx : Nat) (op : Op) : Option (Out × List Prop) := bif Nat.beq md 45 then daF P ev h nx op else odZ P md ev h nx op
theorem odW_tidy {md : Nat} {ev : Operand → Option Value} {nx : Nat} {op : Op} {v : Value} {h' : Hp} {nx' : Nat} {d : List Nat} {ob : List Prop} (hs : odW P md ev h nx op = some ((v, h', nx', d), ob)) : Tidy h nx h' nx' d := by
 unfold odW at hs
 rcases Be hs with ⟨_, hs⟩ | ⟨_, hs⟩
 ·exact daF_tidy hs
 ·exact odZ_tidy hs
theorem odW_ok {a : Act} (hR : Rl W σ h w) {md : Nat} {ev : Operand → Option Value} {nx nx' : Nat} (hf : Fresh σ nx nx') (H : Evs σ ev a) {o : Oper} {v : Value} {h' : Hp} {d : List Nat} {ob : List Prop} (hs : odW P md ev h nx o.op = some ((v, h', nx', d), ob)) (ho : Alls ob) :
  ∃ σ' w' v', Stp W nx nx' σ h w σ' h' w' ∧ renV σ' v = some v' ∧ Ends P a o w v' w' := by
 unfold odW at hs
 rcases Be hs with ⟨_, hs⟩ | ⟨_, hs⟩
 ·exact daF_ok hR hf H hs ho
 ·exact odZ_ok hR hf H hs ho
end
end Go.Proofs.Ytojakfnljopjbaa
