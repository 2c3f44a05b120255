/-
  A call that makes a grown row one element longer, told: in place where there is room, in new memory where there is none.
-/
import Derived.Test.YtojakfnljopjbaaVmZd
namespace Go.Proofs.Ytojakfnljopjbaa
set_option linter.unusedSimpArgs false
set_option linter.unusedVariables false
set_option linter.unusedSectionVars false
open Go Go.RowKit

theorem renL_fix {σ : Sg} : ∀ {l : List Value}, (∀ x ∈ l, renV σ x = some x) → renL σ l = some l
  | [], _ => rfl
  | x :: l, h => by simp only [renL]; rw [h x (by simp), renL_fix fun y hy => h y (by simp [hy])]
theorem renL_app_inv {σ : Sg} : ∀ {a b r : List Value}, renL σ (a ++ b) = some r → ∃ p q, renL σ a = some p ∧ renL σ b = some q ∧ r = p ++ q
  | [], b, r, h => ⟨[], r, rfl, h, rfl⟩
  | x :: a, b, r, h => by
      obtain ⟨y, l, h1, h2, rfl⟩ := renL_cons h
      obtain ⟨p, q, h3, h4, rfl⟩ := renL_app_inv h2
      exact ⟨y :: p, q, by simp only [renL]; rw [h1, h3], h4, rfl⟩
section
variable {W : World} {lo hi : Nat} {σ σ' : Sg} {h h1 h' : Hp} {w w' : World}
theorem Rl.shutRow (hR : Rl W σ h w) {m sz : Nat} {z cs : List Value} (hl : lk h m = some ⟨.room sz z, cs⟩) (hz : ∀ x ∈ z, noAd x = true) :
    ∃ b c vs rest t, σ.b m = some (b, 0) ∧ σ.c m = some c ∧ renL σ cs = some vs ∧ w.heap[b]? = some (.cells (vs ++ rest).toArray t (0, 0)) ∧ (vs ++ rest).length = c * sz ∧ c ≤ maxLen ∧ (∀ x ∈ rest, x ∈ z) ∧ Rl W σ (setH h m ⟨.shut, cs ++ rest⟩) w := by
  obtain ⟨b, s, vs, hb, hv, h1, h2, t, rest, c, hc, e, h3, h4, h5⟩ := hR.row _ _ hl
  subst h1
  refine ⟨b, c, vs, rest, t, hb, hc, hv, e, h3, h4, h5, ⟨hR.ext, fun n r hn => ?_, fun n k r s p q hn hk hr hs hp hq e => ?_⟩, hR.shr.of (Nat.le_refl _) (fun n r p hn hr hp => ?_) (setH_shr hR.shr hl fun e => by cases e)⟩
  · rw [lk_setH] at hn
    split at hn
    · rename_i e1
      subst e1
      cases hn
      exact ⟨b, 0, vs ++ rest, hb, renL_app hv (renL_fix fun x hx => noAd_ren σ (hz x (h5 x hx))), rfl, h2, t, e⟩
    · exact hR.row n r hn
  · have conv : ∀ n r, lk (setH h m ⟨.shut, cs ++ rest⟩) n = some r → r.own → ∃ r', lk h n = some r' ∧ r'.own := fun n r e ho => by
      rw [lk_setH] at e
      split at e
      · rename_i e1; subst e1; exact ⟨_, hl, fun e => by cases e⟩
      · exact ⟨r, e, ho⟩
    obtain ⟨r', a1, a2⟩ := conv n r hn hr
    obtain ⟨s', b1, b2⟩ := conv k s hk hs
    exact hR.inj n k r' s' p q a1 b1 a2 b2 hp hq e
  · rw [lk_setH] at hn
    split at hn
    · rename_i e1; subst e1; exact .inr ⟨_, _, p, hl, (fun e => by cases e), hp, rfl⟩
    · exact .inr ⟨n, r, p, hn, hr, hp, rfl⟩
theorem Stp.pre (S : Stp W lo hi σ h1 w σ' h' w') (hc : ∀ n r, lk h1 n = some r → r.own → ∃ r', lk h n = some r' ∧ r'.own) (hc2 : ∀ n r, lk h1 n = some r → ∃ r', lk h n = some r') : Stp W lo hi σ h w σ' h' w' :=
  ⟨S.le, S.only, S.rl, S.size, fun b hb hno => S.fr b hb fun n r p hl ho hp => by
    obtain ⟨r', h2, h3⟩ := hc n r hl ho
    exact hno n r' p h2 h3 hp, fun n r p hl ho hp => by
    rcases S.src n r p hl ho hp with h4 | ⟨m, s, q, h5, h6, h7, h8⟩
    · exact .inl h4
    · obtain ⟨r', h2, h3⟩ := hc m s h5 h6
      exact .inr ⟨m, r', q, h2, h3, h7, h8⟩, fun n r k hl hk => by
    rcases S.ssrc n r k hl hk with h4 | ⟨m, s, q, h5, h6, h7, h8⟩ | ⟨m, s, h5, h6⟩
    · exact .inl h4
    · obtain ⟨r', h2, h3⟩ := hc m s h5 h6
      exact .inr (.inl ⟨m, r', q, h2, h3, h7, h8⟩)
    · obtain ⟨r', h2⟩ := hc2 m s h5
      exact .inr (.inr ⟨m, r', h2, h6⟩)⟩
/-- A row of its own gets another name, with room behind it. -/
theorem Stp.regrow (S : Stp W lo hi σ h w σ' h' w') {NX : Nat} (h1 : lo ≤ NX) (h2 : hi ≤ NX) (hf : Fresh σ lo (NX + 1)) {k b c sz : Nat} {r : Rw} {z cs vs rest : List Value} {t : TypeId} (hl : lk h' k = some r) (ho : r.own) (hb : σ'.b k = some (b, 0))
    (hv : renL σ' cs = some vs) (hw : w'.heap[b]? = some (.cells (vs ++ rest).toArray t (0, 0))) (hlen : (vs ++ rest).length = c * sz) (hz : ∀ x ∈ rest, x ∈ z) (hc : c ≤ maxLen) :
    Stp W lo (NX + 1) σ h w (σ'.bindc NX (b, 0) c) ((NX, ⟨.room sz z, cs⟩) :: delH h' k) w' := by
  have hN : σ'.b NX = none ∧ σ'.c NX = none := by
    obtain ⟨e1, e2⟩ := S.only NX (.inr h2)
    obtain ⟨e3, e4⟩ := hf NX h1 (by omega)
    exact ⟨e1.trans e3, e2.trans e4⟩
  have hle : σ'.le (σ'.bindc NX (b, 0) c) := Sg.le_bindc hN
  have hne : ∀ n r, lk h' n = some r → n ≠ NX := fun n r hl e => by
    subst e
    obtain ⟨b', s', vs', hb', _⟩ := S.rl.row _ _ hl
    rw [hN.1] at hb'
    cases hb'
  have hbs : ∀ n, n ≠ NX → (σ'.bindc NX (b, 0) c).b n = σ'.b n := fun n hn => by simp only [Sg.bindc]; rw [if_neg hn]
  have hbN : (σ'.bindc NX (b, 0) c).b NX = some (b, 0) := by simp [Sg.bindc]
  have cls : ∀ n s, lk ((NX, ⟨.room sz z, cs⟩) :: delH h' k) n = some s → (n = NX ∧ s = ⟨.room sz z, cs⟩) ∨ (n ≠ NX ∧ n ≠ k ∧ lk h' n = some s) := fun n s e => by
    rw [lk_cons] at e
    split at e
    · rename_i e1; cases e; exact .inl ⟨e1.symm, rfl⟩
    · rename_i e1
      rw [lk_delH] at e
      split at e
      · cases e
      · rename_i e2; exact .inr ⟨Ne.symm e1, Ne.symm e2, e⟩
  have hfs : ∀ n, n ≠ NX → (σ'.bindc NX (b, 0) c).f n = σ'.f n := fun n hn => by simp only [Sg.bindc]; rw [if_neg hn]
  have hfN : (σ'.bindc NX (b, 0) c).f NX = some [] := by simp [Sg.bindc]
  have hup : Up σ' h' (σ'.bindc NX (b, 0) c) ((NX, ⟨.room sz z, cs⟩) :: delH h' k) := fun n s hn => by
    rcases cls n s hn with ⟨rfl, rfl⟩ | ⟨e1, e2, e3⟩
    · unfold sh; rw [hfN]; exact ⟨fun _ e => (by cases e), fun k hk => (by cases hk)⟩
    · unfold sh; rw [hfs n e1]; exact ⟨fun ho => S.rl.shr.1 n s e3 ho, fun k hk => ⟨n, s, e3, hk⟩⟩
  have hsrc : SrcO σ' h' w' (σ'.bindc NX (b, 0) c) ((NX, ⟨.room sz z, cs⟩) :: delH h' k) := fun n s p hn hs hp => by
    rcases cls n s hn with ⟨rfl, rfl⟩ | ⟨e1, e2, e3⟩
    · exact .inr ⟨k, r, (b, 0), hl, ho, hb, by rw [hbN] at hp; cases hp; rfl⟩
    · exact .inr ⟨n, s, p, e3, hs, by rw [hbs n e1] at hp; exact hp, rfl⟩
  refine ⟨S.le.trans hle, fun n hn => ?_, ⟨⟨S.rl.ext, fun n s hn => ?_, fun n m r1 r2 p q hn hm hr hs hp hq e => ?_⟩, S.rl.shr.of (Nat.le_refl _) hsrc hup⟩, S.size, S.fr, fun n s p hn hs hp => ?_, fun n s kk hn hk => ?_⟩
  · have e0 : n ≠ NX := by omega
    simp only [Sg.bindc]
    rw [if_neg e0, if_neg e0]
    exact S.only n (by omega)
  · rcases cls n s hn with ⟨rfl, rfl⟩ | ⟨e1, e2, e3⟩
    · exact ⟨b, 0, vs, hbN, renL_le hle _ _ hv, rfl, (S.rl.ge hl ho hb).1, t, rest, c, by simp [Sg.bindc], hw, hlen, hc, hz⟩
    · exact S.rl.keepA e3 hle fun _ _ => rfl
  · rcases cls n r1 hn with ⟨rfl, rfl⟩ | ⟨e1, e2, e3⟩ <;> rcases cls m r2 hm with ⟨e4, e5⟩ | ⟨e4, e5, e6⟩
    · exact e4.symm
    · rw [hbN] at hp
      cases hp
      rw [hbs m e4] at hq
      exact absurd (S.rl.inj k m r r2 (b, 0) q hl e6 ho hs hb hq e) (Ne.symm e5)
    · subst e4
      rw [hbN] at hq
      cases hq
      rw [hbs n e1] at hp
      exact absurd (S.rl.inj n k r1 r p (b, 0) e3 hl hr ho hp hb e) e2
    · rw [hbs n e1] at hp
      rw [hbs m e4] at hq
      exact S.rl.inj n m r1 r2 p q e3 e6 hr hs hp hq e
  · rcases cls n s hn with ⟨rfl, rfl⟩ | ⟨e1, e2, e3⟩
    · rw [hbN] at hp
      cases hp
      exact S.src k r (b, 0) hl ho hb
    · rw [hbs n e1] at hp
      exact S.src n s p e3 hs hp
  · obtain ⟨m, s', h3, h4⟩ := (hup n s hn).2 kk hk
    exact S.ssrc m s' kk h3 h4
end
theorem maxLen_low : maxLen < capBig := by unfold maxLen capBig; omega
theorem ins_tri {P : Program} {f : FuncId} {h : Hp} {nx m n sz K : Nat} {z cs cs' vs0 : List Value} (hK : 0 < K) (hl : lk h m = some ⟨.room sz z, cs⟩) (hsz : 0 < sz) (hcs : cs.length = n * sz) (hz : ∀ x ∈ z, noAd x = true)
    (R1 : ∀ k rest, n + 1 + k ≤ maxLen → rest.length = (k + 1) * sz → (∀ x ∈ rest, x ∈ z) → ∃ h1 hi d rest', Tri P f (.slice (some ⟨m, 0, none⟩) n (n + 1 + k) :: vs0) (setH h m ⟨.shut, cs ++ rest⟩) nx (.slice (some ⟨m, 0, none⟩) (n + 1) (n + 1 + k), h1, hi, d) ∧ hi ≤ nx + K ∧ lk h1 m = some ⟨.shut, cs' ++ rest'⟩ ∧ (cs' ++ rest').length = (n + 1 + k) * sz ∧ (∀ x ∈ rest', x ∈ z) ∧ ∀ j ∈ d, j = m)
    (R2 : ∃ h2 hi d, Tri P f (.slice (some ⟨m, 0, none⟩) n n :: vs0) (setH h m ⟨.shut, cs⟩) nx (.slice (some ⟨nx, 0, none⟩) (n + 1) (capBig + nx), h2, hi, d) ∧ hi ≤ nx + K ∧ lk h2 nx = some ⟨.room sz z, cs'⟩ ∧ ∀ j ∈ d, j = m) :
    Tri P f (.slice (some ⟨m, 0, none⟩) n (capBig + m) :: vs0) h nx (.slice (some ⟨nx + K, 0, none⟩) (n + 1) (capBig + (nx + K)), (nx + K, ⟨.room sz z, cs'⟩) :: delH h m, nx + K + 1, [m]) := by
  refine ⟨⟨by simp only; omega, fun j hj hd => ?_, fun hb j hj => ?_⟩, fun hB W σ w args' hR hfr ha => ?_⟩
  · simp only at hj hd ⊢
    rw [lk_cons, if_neg (by omega), lk_delH, if_neg (fun e => hd (by simp [e]))]
  · simp only at hj ⊢
    rw [lk_cons, if_neg (by omega), lk_delH]
    split
    · rfl
    · exact hb j (by omega)
  simp only at hfr ⊢
  have hm : m < nx := by
    rcases Nat.lt_or_ge m nx with h0 | h0
    · exact h0
    · rw [hB m h0] at hl; cases hl
  obtain ⟨b, c, vs, rest, t, hb, hc, hv, hw, hlen, hcm, hrz, hR'⟩ := hR.shutRow hl hz
  have hvl := renL_len hv
  rw [List.length_append] at hlen
  obtain ⟨x1, l1, e1, e2, rfl⟩ := renL_cons ha
  have hnn : σ.f m ≠ none := hR.shr.1 m _ hl fun e => by cases e
  have hx1 : x1 = .slice (some ⟨b, 0, none⟩) n c := by
    have h3 : cpR σ (capBig + m) = some c := by unfold cpR; rw [if_neg (by omega), Nat.add_sub_cancel_left]; exact hc
    have := renV_slice_mk (l := n) (o := 0) hb h3 hnn
    rw [this] at e1
    simpa using e1.symm
  have ha' : renL σ (.slice (some ⟨m, 0, none⟩) n c :: vs0) = some (x1 :: l1) := by
    have h3 : cpR σ c = some c := by unfold cpR; rw [if_pos (Nat.lt_of_le_of_lt hcm maxLen_low)]
    have := renV_slice_mk (l := n) (o := 0) hb h3 hnn
    simp only [renL]
    rw [this, e2, hx1]
  have hcn : n ≤ c := by
    have : n * sz ≤ c * sz := by omega
    exact Nat.le_of_mul_le_mul_right this hsz
  have own_ : ∀ (r' : Rw), r'.own → ∀ n r, lk (setH h m r') n = some r → r.own → ∃ r', lk h n = some r' ∧ r'.own := fun r' hr' n r e ho => by
    rw [lk_setH] at e
    split at e
    · rename_i e1; subst e1; exact ⟨_, hl, fun e => by cases e⟩
    · exact ⟨r, e, ho⟩
  have any_ : ∀ (r' : Rw) n r, lk (setH h m r') n = some r → ∃ r', lk h n = some r' := fun r' n r e => by
    rw [lk_setH] at e
    split at e
    · rename_i e1; subst e1; exact ⟨_, hl⟩
    · exact ⟨r, e⟩
  have hBs : ∀ r', Bd (setH h m r') nx := fun r' j hj => by rw [lk_setH, if_neg (by omega)]; exact hB j hj
  have fin : ∀ {h2 : Hp} {hi : Nat} {d : List Nat} {r' : Rw} {k : Nat}, Tidy (setH h m r') nx h2 hi d → (∀ j ∈ d, j = m) → (k = m ∨ k = nx) → ∀ n r, lk ((nx + K, ⟨.room sz z, cs'⟩) :: delH h m) n = some r → lk ((nx + K, (⟨.room sz z, cs'⟩ : Rw)) :: delH h2 k) n = some r := by
    intro h2 hi d r' k hT hd hk n r hn
    rw [lk_cons] at hn ⊢
    split
    · rename_i e; rw [if_pos e] at hn; exact hn
    · rename_i e
      rw [if_neg e, lk_delH] at hn
      split at hn
      · cases hn
      · rename_i e3
        have hnx : n < nx := by
          rcases Nat.lt_or_ge n nx with h0 | h0
          · exact h0
          · rw [hB n h0] at hn; cases hn
        rw [lk_delH, if_neg (by rcases hk with rfl | rfl <;> omega), hT.2.1 n hnx (fun e => e3 (hd n e).symm), lk_setH, if_neg e3]
        exact hn
  rcases Nat.eq_or_lt_of_le hcn with rfl | hlt
  · obtain ⟨h2, hi, d, hT, hhi, hl2, hd⟩ := R2
    have hr0 : rest = [] := List.eq_nil_of_length_eq_zero (by omega)
    subst hr0
    rw [List.append_nil] at hR'
    refine (hT.2 (hBs _) W σ w _ hR' (hfr.low (by simp only; omega)) ha').mono ?_
    rintro e w' ⟨σ', v', S, hv', rfl⟩
    obtain ⟨b2, c2, vs2, rest2, t2, q1, q2, q3, q4, q5, q6, q7, _⟩ := S.rl.shutRow hl2 hz
    simp only at S hv' hhi
    have S2 := ((S.pre (own_ _ (fun e => by cases e)) (any_ _)).regrow (NX := nx + K) (by omega) hhi hfr hl2 (fun e => by cases e) q1 q3 q4 q5 q7 q6).less (fin hT.1 hd (.inr rfl))
    refine ⟨_, v', S2, ?_, rfl⟩
    have h3 : cpR σ' (capBig + nx) = some c2 := by unfold cpR; rw [if_neg (by omega), Nat.add_sub_cancel_left]; exact q2
    rw [renV_slice_mk (o := 0) q1 h3 (S.rl.shr.1 _ _ hl2 fun e => by cases e)] at hv'
    have h4 : cpR (σ'.bindc (nx + K) (b2, 0) c2) (capBig + (nx + K)) = some c2 := by unfold cpR; rw [if_neg (by omega), Nat.add_sub_cancel_left]; simp [Sg.bindc]
    rw [renV_slice_mk (o := 0) (p := (b2, 0)) (by simp [Sg.bindc]) h4 (by simp [Sg.bindc])]
    exact hv'
  · obtain ⟨k, rfl⟩ : ∃ k, c = n + 1 + k := ⟨c - (n + 1), by omega⟩
    have hrl : rest.length = (k + 1) * sz := by
      have h1 : (n + 1 + k) * sz = n * sz + (k + 1) * sz := by rw [← Nat.add_mul]; congr 1; omega
      omega
    obtain ⟨h1, hi, d, rest', hT, hhi, hl1, hlen1, hz1, hd⟩ := R1 k rest hcm hrl hrz
    refine (hT.2 (hBs _) W σ w _ hR' (hfr.low (by simp only; omega)) ha').mono ?_
    rintro e w' ⟨σ', v', S, hv', rfl⟩
    simp only at S hv' hhi
    obtain ⟨b2, s2, vs2, q1, q2, q3, q4, t2, q5⟩ := S.rl.row _ _ hl1
    subst q3
    obtain ⟨va, vb, q6, q7, rfl⟩ := renL_app_inv q2
    rw [renL_fix fun x hx => noAd_ren σ' (hz x (hz1 x hx))] at q7
    cases q7
    have hla := renL_len q6
    have S2 := ((S.pre (own_ _ (fun e => by cases e)) (any_ _)).regrow (NX := nx + K) (c := n + 1 + k) (sz := sz) (by omega) hhi hfr hl1 (fun e => by cases e) q1 q6 q5 (by rw [List.length_append, hla, ← List.length_append]; exact hlen1) hz1 hcm).less (fin hT.1 hd (.inl rfl))
    refine ⟨_, v', S2, ?_, rfl⟩
    have h3 : cpR σ' (n + 1 + k) = some (n + 1 + k) := by unfold cpR; rw [if_pos (Nat.lt_of_le_of_lt hcm maxLen_low)]
    rw [renV_slice_mk (o := 0) q1 h3 (S.rl.shr.1 _ _ hl1 fun e => by cases e)] at hv'
    have h4 : cpR (σ'.bindc (nx + K) (b2, 0) (n + 1 + k)) (capBig + (nx + K)) = some (n + 1 + k) := by unfold cpR; rw [if_neg (by omega), Nat.add_sub_cancel_left]; simp [Sg.bindc]
    rw [renV_slice_mk (o := 0) (p := (b2, 0)) (by simp [Sg.bindc]) h4 (by simp [Sg.bindc])]
    exact hv'
end Go.Proofs.Ytojakfnljopjbaa
