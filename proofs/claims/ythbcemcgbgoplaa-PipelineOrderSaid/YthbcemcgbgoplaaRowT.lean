/-
  A call that changes one row of flat cells, told: from a run over that row alone.
-/
import Derived.Test.YthbcemcgbgoplaaKitX
import Derived.Test.YthbcemcgbgoplaaKitW
namespace Go.Proofs.Ythbcemcgbgoplaa
set_option linter.unusedSimpArgs false
set_option linter.unusedVariables false
set_option linter.unusedSectionVars false
open Go Go.RowKit

theorem Stp.row_tri_aux {P : Program} {f : FuncId} {cs cs' vs0 : List Value} {v v' : Value} {h1 : Hp} {nx1 : Nat} {d1 : List Nat} {m : Nat} {h : Hp} {nx : Nat}
    (T : Tri P f (.pointer (some ⟨0, 0, none⟩) :: vs0) [(0, ⟨.shut, cs⟩)] 1 (v, h1, nx1, d1)) (hl1 : lk h1 0 = some ⟨.shut, cs'⟩)
    (hv0 : ∀ σ, renL σ vs0 = some vs0) (hF : Fl cs) (hF' : Fl cs')
    (hv : ∀ (σ τ : Sg) (u : Value), σ.b nx = none → σ.c nx = none → renV τ v = some u → ∃ σ' : Sg, σ.le σ' ∧ (∀ n, n ≠ nx → σ'.b n = σ.b n ∧ σ'.c n = σ.c n) ∧ renV σ' v' = some u)
    (l : lk h m = some ⟨.shut, cs⟩) :
    Tri P f (.pointer (some ⟨m, 0, none⟩) :: vs0) h nx (v', (m, ⟨.shut, cs'⟩) :: delH h m, nx + 1, [m]) := by
  refine ⟨⟨by simp only; omega, fun j _ hd => ?_, fun hB j hj => ?_⟩, fun hB W σ w args' hR hf ha => ?_⟩
  · simp only [List.mem_singleton] at hd
    simp only
    rw [lk_cons, if_neg (Ne.symm hd), lk_delH, if_neg (Ne.symm hd)]
  · simp only at hj ⊢
    have hn : m < nx := Nat.lt_of_not_le fun e => by have := hB m e; rw [l] at this; cases this
    rw [lk_cons, if_neg (by omega), lk_delH, if_neg (by omega)]
    exact hB j (by omega)
  simp only at hf ⊢
  have ho : (⟨.shut, cs⟩ : Rw).own := fun e => by cases e
  obtain ⟨b, s, vs, hp, _, hs0, hge, t0, hb0⟩ := hR.row m _ l
  have hvs : renL σ cs = some vs := by assumption
  rw [hF σ] at hvs
  cases hvs
  subst hs0
  obtain ⟨x1, l1, e1, e2, rfl⟩ := renL_cons ha
  rw [hv0 σ] at e2
  cases e2
  have hx1 : x1 = .pointer (some ⟨b, 0 + 0, none⟩) := by
    simp only [renV, adR, hp, Option.some.injEq] at e1
    exact e1.symm
  subst hx1
  obtain ⟨σ0, hσ0⟩ : ∃ σ0 : Sg, σ0 = ⟨fun k => if k = 0 then some (b, 0) else none, fun _ => none⟩ := ⟨_, rfl⟩
  have s0 : σ0.b 0 = some (b, 0) := by subst hσ0; rfl
  have sn : ∀ k, k ≠ 0 → σ0.b k = none ∧ σ0.c k = none := fun k hk => by subst hσ0; simp [hk]
  have cl0 : ∀ k r, lk [(0, (⟨.shut, cs⟩ : Rw))] k = some r → k = 0 ∧ r = ⟨.shut, cs⟩ := fun k r hk => by
    rw [lk_cons] at hk
    split at hk
    · rename_i e; cases hk; exact ⟨e.symm, rfl⟩
    · cases hk
  have hR0 : Rl W σ0 [(0, ⟨.shut, cs⟩)] w := by
    refine ⟨hR.ext, fun k r hk => ?_, fun k j r s p q hk hj _ _ _ _ _ => ?_⟩
    · obtain ⟨rfl, rfl⟩ := cl0 k r hk
      exact ⟨b, 0, cs, s0, hF σ0, rfl, hge, t0, hb0⟩
    · obtain ⟨rfl, _⟩ := cl0 k r hk
      obtain ⟨rfl, _⟩ := cl0 j s hj
      rfl
  have ha0 : renL σ0 (.pointer (some ⟨0, 0, none⟩) :: vs0) = some (.pointer (some ⟨b, 0 + 0, none⟩) :: vs0) := by
    simp only [renL, renV, adR, s0, hv0 σ0]
  refine (T.2 (bdB_ok rfl) W σ0 w _ hR0 (fun k h1 _ => sn k (by omega)) ha0).mono ?_
  rintro e w' ⟨τ, u, S, hu, rfl⟩
  simp only at S hu
  have s0' : τ.b 0 = some (b, 0) := by rw [(S.only 0 (.inl (by omega))).1]; exact s0
  obtain ⟨f1, f2⟩ := hf nx (Nat.le_refl _) (by omega)
  obtain ⟨σ', hle, hag, hu'⟩ := hv σ τ u f1 f2 hu
  have keep : ∀ b', b' < w.heap.size → b' ≠ b → w'.heap[b']? = w.heap[b']? := fun b' h1 h2 => S.fr b' h1 fun k r1 p1 hk1 _ hp1 => by
    obtain ⟨rfl, _⟩ := cl0 k r1 hk1
    rw [s0] at hp1
    cases hp1
    exact Ne.symm h2
  have hne : ∀ k r, lk h k = some r → k ≠ nx := fun k r hk e => by
    subst e
    obtain ⟨b', s', vs', hb', _⟩ := hR.row _ _ hk
    rw [f1] at hb'
    cases hb'
  have hbs : ∀ k, k ≠ nx → σ'.b k = σ.b k := fun k hk => (hag k hk).1
  have cls : ∀ j r', lk ((m, ⟨.shut, cs'⟩) :: delH h m) j = some r' → (j = m ∧ r' = ⟨.shut, cs'⟩) ∨ (lk h j = some r' ∧ j ≠ m) := fun j r' hj => by
    rw [lk_cons] at hj
    split at hj
    · rename_i e; cases hj; exact .inl ⟨e.symm, rfl⟩
    · rw [lk_delH] at hj
      split at hj
      · cases hj
      · rename_i e; exact .inr ⟨hj, Ne.symm e⟩
  have own : ∀ j r', lk ((m, ⟨.shut, cs'⟩) :: delH h m) j = some r' → r'.own → j ≠ nx ∧ ∃ s, lk h j = some s ∧ s.own := fun j r' hj hw => by
    rcases cls j r' hj with ⟨rfl, _⟩ | ⟨h1, _⟩
    · exact ⟨hne _ _ l, _, l, ho⟩
    · exact ⟨hne _ _ h1, r', h1, hw⟩
  obtain ⟨b2, s2, vs2, q1, q2, q3, q4, t2, q5⟩ := S.rl.row 0 _ hl1
  rw [s0'] at q1
  cases q1
  rw [hF' τ] at q2
  cases q2
  refine ⟨σ', u, ⟨hle, fun k hk => hag k (by omega), ⟨S.rl.ext, fun j r' hj => ?_, fun j k r1 s1 p1 q1 h1 h2 o1 o2 hp1 hq1 e => ?_⟩, S.size, fun b' h1 h2 => keep b' h1 fun e => h2 m _ (b, 0) l ho hp e.symm, fun j r1 p1 h1 h2 h3 => ?_⟩, hu', rfl⟩
  · rcases cls j r' hj with ⟨rfl, rfl⟩ | ⟨h1, h2⟩
    · exact ⟨b, 0, cs', by rw [hbs _ (hne _ _ l)]; exact hp, hF' _, rfl, hge, t2, q5⟩
    · exact (hR.row j r' h1).keep hle fun ho' q hq => keep _ (hR.lt h1 hq) fun e => h2 (hR.inj j m r' _ q (b, 0) h1 l ho' ho hq hp e)
  · obtain ⟨n1, s1', g1, g2⟩ := own _ _ h1 o1
    obtain ⟨n2, s2', g3, g4⟩ := own _ _ h2 o2
    rw [hbs _ n1] at hp1
    rw [hbs _ n2] at hq1
    exact hR.inj j k s1' s2' p1 q1 g1 g3 g2 g4 hp1 hq1 e
  · obtain ⟨n1, s1', g1, g2⟩ := own _ _ h1 h2
    rw [hbs _ n1] at h3
    exact .inr ⟨j, s1', p1, g1, g2, h3, rfl⟩
theorem row_tri {P : Program} {f : FuncId} {cs cs' vs0 : List Value} {v : Value} {h1 : Hp} {nx1 : Nat} {d1 : List Nat} {m : Nat} {h : Hp} {nx : Nat}
    (T : Tri P f (.pointer (some ⟨0, 0, none⟩) :: vs0) [(0, ⟨.shut, cs⟩)] 1 (v, h1, nx1, d1)) (hl1 : lk h1 0 = some ⟨.shut, cs'⟩)
    (hv0 : ∀ σ, renL σ vs0 = some vs0) (hF : Fl cs) (hF' : Fl cs') (hv : ∀ σ, renV σ v = some v) (l : lk h m = some ⟨.shut, cs⟩) :
    Tri P f (.pointer (some ⟨m, 0, none⟩) :: vs0) h nx (v, (m, ⟨.shut, cs'⟩) :: delH h m, nx + 1, [m]) :=
  Stp.row_tri_aux T hl1 hv0 hF hF' (fun σ τ u _ _ e => ⟨σ, Sg.le.refl σ, fun _ _ => ⟨rfl, rfl⟩, by rw [hv] at e; cases e; exact hv σ⟩) l
theorem row_tri_sl {P : Program} {f : FuncId} {cs cs' vs0 : List Value} {h1 : Hp} {nx1 : Nat} {d1 : List Nat} {m j k c : Nat} {h : Hp} {nx : Nat}
    (T : Tri P f (.pointer (some ⟨0, 0, none⟩) :: vs0) [(0, ⟨.shut, cs⟩)] 1 (.slice (some ⟨j, 0, none⟩) k c, h1, nx1, d1)) (hl1 : lk h1 0 = some ⟨.shut, cs'⟩)
    (hv0 : ∀ σ, renL σ vs0 = some vs0) (hF : Fl cs) (hF' : Fl cs') (l : lk h m = some ⟨.shut, cs⟩) :
    Tri P f (.pointer (some ⟨m, 0, none⟩) :: vs0) h nx (.slice (some ⟨nx, 0, none⟩) k (capBig + nx), (m, ⟨.shut, cs'⟩) :: delH h m, nx + 1, [m]) :=
  Stp.row_tri_aux T hl1 hv0 hF hF' (fun σ τ u f1 f2 e => by
    obtain ⟨p, c', hp, hc', rfl⟩ := renV_slice e
    refine ⟨σ.bindc nx p c', Sg.le_bindc ⟨f1, f2⟩, fun n hn => by simp only [Sg.bindc]; rw [if_neg hn, if_neg hn]; exact ⟨rfl, rfl⟩, ?_⟩
    have h1 : (σ.bindc nx p c').b nx = some (p.1, p.2) := by simp [Sg.bindc]
    have h2 : cpR (σ.bindc nx p c') (capBig + nx) = some c' := by
      unfold cpR
      rw [if_neg (by omega), Nat.add_sub_cancel_left]
      simp [Sg.bindc]
    exact renV_slice_mk (o := 0) h1 h2) l
end Go.Proofs.Ythbcemcgbgoplaa
