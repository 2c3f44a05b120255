/-
  A call that changes a grown row of flat cells, told: from a run over one whole row.
-/
import Derived.Test.YtojakfnljopjbaaInsG
namespace Go.Proofs.Ytojakfnljopjbaa
set_option linter.unusedSimpArgs false
set_option linter.unusedVariables false
set_option linter.unusedSectionVars false
open Go Go.RowKit

theorem room_tri {P : Program} {f : FuncId} {h : Hp} {nx m n n' sz : Nat} {z cs cs' vs0 : List Value} (hl : lk h m = some ⟨.room sz z, cs⟩) (hsz : 0 < sz) (hcs : cs.length = n * sz) (hz : ∀ x ∈ z, noAd x = true) (hF : Fl cs) (hF' : Fl cs') (hv0 : ∀ σ, renL σ vs0 = some vs0)
    (R : ∀ c rest, c ≤ maxLen → n ≤ c → (cs ++ rest).length = c * sz → (∀ x ∈ rest, x ∈ z) → ∃ h1 d rest', Tri P f (.slice (some ⟨0, 0, none⟩) n c :: vs0) [(0, ⟨.shut, cs ++ rest⟩)] 1 (.slice (some ⟨0, 0, none⟩) n' c, h1, 1, d) ∧ lk h1 0 = some ⟨.shut, cs' ++ rest'⟩ ∧ (cs' ++ rest').length = c * sz ∧ ∀ x ∈ rest', x ∈ z) :
    Tri P f (.slice (some ⟨m, 0, none⟩) n (capBig + m) :: vs0) h nx (.slice (some ⟨nx, 0, none⟩) n' (capBig + nx), (nx, ⟨.room sz z, cs'⟩) :: delH h m, nx + 1, [m]) := by
  refine ⟨tidy_into, fun hB W σ w args' hR hfr ha => ?_⟩
  simp only at hfr ⊢
  obtain ⟨b, c, vs, rest, t, hb, hc, hv, hw, hlen, hcm, hrz, _⟩ := hR.shutRow hl hz
  rw [hF σ] at hv
  cases hv
  have hge := (hR.ge hl (fun e => by cases e) hb).1
  have hbw := hR.lt hl (fun e => by cases e) hb
  have hcn : n ≤ c := by
    rw [List.length_append] at hlen
    have : n * sz ≤ c * sz := by omega
    exact Nat.le_of_mul_le_mul_right this hsz
  have hlow := Nat.lt_of_le_of_lt hcm maxLen_low
  obtain ⟨x1, l1, e1, e2, rfl⟩ := renL_cons ha
  rw [hv0 σ] at e2
  cases e2
  have h3 : cpR σ (capBig + m) = some c := by unfold cpR; rw [if_neg (by omega), Nat.add_sub_cancel_left]; exact hc
  rw [renV_slice_mk (o := 0) hb h3 (hR.shr.1 m _ hl fun e => by cases e)] at e1
  cases e1
  obtain ⟨h1, d, rest', hT, hl1, hlen1, hz1⟩ := R c rest hcm hcn hlen hrz
  obtain ⟨σ0, hσ0⟩ : ∃ σ0 : Sg, σ0 = sgO b := ⟨_, rfl⟩
  have s0 : σ0.b 0 = some (b, 0) := by subst hσ0; rfl
  have sn : ∀ k, k ≠ 0 → σ0.b k = none ∧ σ0.c k = none := fun k hk => by subst hσ0; simp [sgO, hk]
  have fixr : ∀ σ, renL σ (cs ++ rest) = some (cs ++ rest) := fun σ => renL_app (hF σ) (renL_fix fun x hx => noAd_ren σ (hz x (hrz x hx)))
  have cl0 : ∀ k r, lk [(0, (⟨.shut, cs ++ rest⟩ : Rw))] k = some r → k = 0 ∧ r = ⟨.shut, cs ++ rest⟩ := fun k r hk => by
    rw [lk_cons] at hk
    split at hk
    · rename_i e; cases hk; exact ⟨e.symm, rfl⟩
    · cases hk
  have hR0 : Rl W σ0 [(0, ⟨.shut, cs ++ rest⟩)] w := by
    rw [hσ0]
    exact rl_one hR.ext hge (fixr _) hw
  have ha0 : renL σ0 (.slice (some ⟨0, 0, none⟩) n c :: vs0) = some (.slice (some ⟨b, 0 + 0, none⟩) n c :: vs0) := by
    have h4 : cpR σ0 c = some c := by unfold cpR; rw [if_pos hlow]
    simp only [renL]
    rw [renV_slice_mk (o := 0) (l := n) s0 h4 (by subst hσ0; simp [sgO]), hv0 σ0]
  have hB0 : Bd [(0, (⟨.shut, cs ++ rest⟩ : Rw))] 1 := fun k hk => by rw [lk_cons, if_neg (by omega)]; rfl
  refine (hT.2 hB0 W σ0 w _ hR0 (fun k h1 _ => sn k (by omega)) ha0).mono ?_
  rintro e w' ⟨σ', v', S, hv', rfl⟩
  simp only at S hv'
  have s0' : σ'.b 0 = some (b, 0) := by rw [(S.only 0 (.inl (by omega))).1]; exact s0
  obtain ⟨b2, s2, vs2, q1, q2, q3, q4, t2, q5⟩ := S.rl.row _ _ hl1
  rw [s0'] at q1
  cases q1
  have fix' : renL σ' (cs' ++ rest') = some (cs' ++ rest') := renL_app (hF' σ') (renL_fix fun x hx => noAd_ren σ' (hz x (hz1 x hx)))
  simp only at q2
  rw [fix'] at q2
  cases q2
  have h4 : cpR σ' c = some c := by unfold cpR; rw [if_pos hlow]
  rw [renV_slice_mk (o := 0) (l := n') s0' h4 (S.rl.shr.1 0 _ hl1 fun e => by cases e)] at hv'
  cases hv'
  have keep : ∀ b', b' < w.heap.size → b' ≠ b → w'.heap[b']? = w.heap[b']? := fun b' h1 h2 => S.fr b' h1 fun k r1 p1 hk1 _ hp1 => by
    obtain ⟨rfl, _⟩ := cl0 k r1 hk1
    rw [s0] at hp1
    cases hp1
    exact Ne.symm h2
  obtain ⟨f1, f2⟩ := hfr nx (Nat.le_refl _) (by omega)
  have hle : σ.le (σ.bindc nx (b, 0) c) := Sg.le_bindc ⟨f1, f2⟩
  have hne : ∀ k r, lk h k = some r → k ≠ nx := fun k r hk e => by
    subst e
    obtain ⟨b', s', vs', hb', _⟩ := hR.row _ _ hk
    rw [f1] at hb'
    cases hb'
  have hbs : ∀ k, k ≠ nx → (σ.bindc nx (b, 0) c).b k = σ.b k := fun k hk => by simp only [Sg.bindc]; rw [if_neg hk]
  have hbN : (σ.bindc nx (b, 0) c).b nx = some (b, 0) := by simp [Sg.bindc]
  have cls : ∀ k s, lk ((nx, ⟨.room sz z, cs'⟩) :: delH h m) k = some s → (k = nx ∧ s = ⟨.room sz z, cs'⟩) ∨ (k ≠ nx ∧ k ≠ m ∧ lk h k = some s) := fun k s e => by
    rw [lk_cons] at e
    split at e
    · rename_i e1; cases e; exact .inl ⟨e1.symm, rfl⟩
    · rename_i e1
      rw [lk_delH] at e
      split at e
      · cases e
      · rename_i e2; exact .inr ⟨Ne.symm e1, Ne.symm e2, e⟩
  have hown : (⟨.room sz z, cs⟩ : Rw).own := fun e => by cases e
  have hup : Up σ h (σ.bindc nx (b, 0) c) ((nx, ⟨.room sz z, cs'⟩) :: delH h m) := fun n s hn => by
    rcases cls n s hn with ⟨rfl, rfl⟩ | ⟨e1, e2, e3⟩
    · have hfN : (σ.bindc n (b, 0) c).f n = some [] := by simp [Sg.bindc]
      unfold sh; rw [hfN]; exact ⟨fun _ e => (by cases e), fun k hk => (by cases hk)⟩
    · have hfs : (σ.bindc nx (b, 0) c).f n = σ.f n := by simp only [Sg.bindc]; rw [if_neg e1]
      unfold sh; rw [hfs]; exact ⟨fun ho => hR.shr.1 n s e3 ho, fun k hk => ⟨n, s, e3, hk⟩⟩
  refine ⟨_, _, Stp0.up ⟨hle, fun k hk => ?_, ⟨S.rl.ext, fun k s hk => ?_, fun k j r1 r2 p q hk hj hr hs hp hq e => ?_⟩, S.size, fun b' hb' hno => keep b' hb' fun e => hno m _ (b, 0) hl hown hb e.symm, fun k s p hk hs hp => ?_⟩ hR.shr hup, renV_slice_mk (o := 0) (c' := c) hbN (by unfold cpR; rw [if_neg (by omega), Nat.add_sub_cancel_left]; simp [Sg.bindc]) (by simp [Sg.bindc]), rfl⟩
  · have e0 : k ≠ nx := by omega
    simp only [Sg.bindc]
    rw [if_neg e0, if_neg e0]
    exact ⟨rfl, rfl⟩
  · rcases cls k s hk with ⟨rfl, rfl⟩ | ⟨e1, e2, e3⟩
    · exact ⟨b, 0, cs', hbN, hF' _, rfl, hge, t2, rest', c, by simp [Sg.bindc], q5, hlen1, hcm, hz1⟩
    · exact hR.keepV hl hown hb e3 e2 hle keep
  · rcases cls k r1 hk with ⟨rfl, rfl⟩ | ⟨e1, e2, e3⟩ <;> rcases cls j r2 hj with ⟨e4, e5⟩ | ⟨e4, e5, e6⟩
    · exact e4.symm
    · rw [hbN] at hp
      cases hp
      rw [hbs j e4] at hq
      exact absurd (hR.inj m j _ r2 (b, 0) q hl e6 hown hs hb hq e) (Ne.symm e5)
    · subst e4
      rw [hbN] at hq
      cases hq
      rw [hbs k e1] at hp
      exact absurd (hR.inj k m r1 _ p (b, 0) e3 hl hr hown hp hb e) e2
    · rw [hbs k e1] at hp
      rw [hbs j e4] at hq
      exact hR.inj k j r1 r2 p q e3 e6 hr hs hp hq e
  · rcases cls k s hk with ⟨rfl, rfl⟩ | ⟨e1, e2, e3⟩
    · rw [hbN] at hp
      cases hp
      exact .inr ⟨m, _, (b, 0), hl, hown, hb, rfl⟩
    · rw [hbs k e1] at hp
      exact .inr ⟨k, s, p, e3, hs, hp, rfl⟩
end Go.Proofs.Ytojakfnljopjbaa
