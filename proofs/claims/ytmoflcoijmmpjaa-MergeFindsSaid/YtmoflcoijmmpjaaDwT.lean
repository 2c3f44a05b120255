/-
  A call that changes an own row of older memory's slices in place, told: from a run over that row alone.
-/
import Derived.Test.YtmoflcoijmmpjaaDtA
namespace Go.Proofs.Ytmoflcoijmmpjaa
set_option linter.unusedSimpArgs false
set_option linter.unusedVariables false
set_option linter.unusedSectionVars false
open Go Go.RowKit

theorem dw_tri {P : Program} {f : FuncId} {h h' : Hp} {nx nx' m n sz : Nat} {d : List Nat} {z vs0 : List Value} {ds ds' : List DV} {v : Value} (hl : lk h m = some ⟨.dw sz z ds, []⟩) (hv0 : ∀ σ, renL σ vs0 = some vs0) (hv : ∀ σ, renV σ v = some v)
    (T : Tri P f (.slice (some ⟨0, 0, none⟩) n (capBig + 0) :: vs0) [(0, ⟨.dw sz z ds, []⟩)] 1 (v, h', nx', d)) (hl' : lk h' 0 = some ⟨.dw sz z ds', []⟩) :
    Tri P f (.slice (some ⟨m, 0, none⟩) n (capBig + m) :: vs0) h nx (v, setH h m ⟨.dw sz z ds', []⟩, nx, [m]) := by
  refine ⟨tidy_set hl, fun hB W σ w args' hR hfr ha => ?_⟩
  have hown : (⟨.dw sz z ds, []⟩ : Rw).own := fun e => by cases e
  obtain ⟨b, s, vs, hb, hvs, q0, rfl, hge, q3, us, t, rest, c, hc, hw, hlen, hcm, hrz, hds⟩ := hR.row m _ hl
  subst q3
  obtain ⟨x1, l1, e1, e2, rfl⟩ := renL_cons ha
  rw [hv0 σ] at e2
  cases e2
  have h3 : cpR σ (capBig + m) = some c := by rw [cpR_big]; exact hc
  rcases renV_slice e1 with ⟨p, c', hb', hcp, rfl, hnn⟩ | ⟨hnn, _, _, _⟩
  case inr => exact (hR.shr.1 m _ hl hown hnn).elim
  rw [hb] at hb'
  cases hb'
  rw [h3] at hcp
  cases hcp
  have hnc := renV_len hR.wf e1
  obtain ⟨σ0, hσ0⟩ : ∃ σ0 : Sg, σ0 = ⟨fun k => if k = 0 then some (b, 0) else none, fun k => if k = 0 then some c else none, fun _ => some [], fun _ => none, true⟩ := ⟨_, rfl⟩
  have s0 : σ0.b 0 = some (b, 0) := by subst hσ0; rfl
  have c0 : σ0.c 0 = some c := by subst hσ0; rfl
  have sn : ∀ k, k ≠ 0 → σ0.b k = none ∧ σ0.c k = none := fun k hk => by subst hσ0; simp [hk]
  have shn : ∀ k, sh σ0 k = [] := fun k => by subst hσ0; rfl
  have cl0 : ∀ k r, lk [(0, (⟨.dw sz z ds, []⟩ : Rw))] k = some r → k = 0 ∧ r = ⟨.dw sz z ds, []⟩ := fun k r hk => by
    rw [lk_cons] at hk
    split at hk
    · rename_i e; cases hk; exact ⟨e.symm, rfl⟩
    · cases hk
  have hR0 : Rl W σ0 [(0, ⟨.dw sz z ds, []⟩)] w := by
    refine ⟨⟨hR.ext, fun k r hk => ?_, fun k j r1 r2 p q hk hj _ _ _ _ _ => ?_⟩, by subst hσ0; rfl, fun k r hk ho => (by subst hσ0; intro e; cases e), fun k r x hk hx => (by rw [shn] at hx; cases hx)⟩
    · obtain ⟨rfl, rfl⟩ := cl0 k r hk
      exact ⟨b, 0, [], s0, rfl, shn 0, rfl, hge, rfl, us, t, rest, c, c0, hw, hlen, hcm, hrz, hds⟩
    · rw [(cl0 k r1 hk).1, (cl0 j r2 hj).1]
  have ha0 : renL σ0 (.slice (some ⟨0, 0, none⟩) n (capBig + 0) :: vs0) = some (.slice (some ⟨b, 0 + 0, none⟩) n c :: vs0) := by
    simp only [renL]
    rw [renV_slice_mk (o := 0) (l := n) s0 (by rw [cpR_big]; exact c0) (by subst hσ0; intro e; cases e) (.inr hnc), hv0 σ0]
  have hB0 : Bd [(0, (⟨.dw sz z ds, []⟩ : Rw))] 1 := fun k hk => by rw [lk_cons, if_neg (by omega)]; rfl
  refine (T.2 hB0 W σ0 w _ hR0 (fun k h1 _ => sn k (by omega)) ha0).mono ?_
  rintro e w' ⟨σ', v', S, hv', rfl⟩
  simp only at S hv'
  rw [hv σ'] at hv'
  cases hv'
  have s0' := S.le.1 _ _ s0
  have c0' := S.le.2.1 _ _ c0
  obtain ⟨b2, s2, vs2, q1, q2, g0, g1, g2, g3, us2, t2, rest2, c2, g4, g5, g6, g7, g8, g9⟩ := S.rl.row _ _ hl'
  rw [s0'] at q1
  cases q1
  rw [c0'] at g4
  cases g4
  have keep : ∀ b', b' < w.heap.size → b' ≠ b → w'.heap[b']? = w.heap[b']? := fun b' h1 h2 => S.fr b' h1 fun k r1 p1 hk1 _ hp1 => by
    obtain ⟨rfl, _⟩ := cl0 k r1 hk1
    rw [s0] at hp1
    cases hp1
    exact Ne.symm h2
  have hd : ∀ k s, lk (setH h m ⟨.dw sz z ds', []⟩) k = some s → (k = m ∧ s = ⟨.dw sz z ds', []⟩) ∨ (lk h k = some s ∧ k ≠ m) := fun k s e => by
    rw [lk_setH] at e
    split at e
    · rename_i hm; cases e; exact .inl ⟨hm.symm, rfl⟩
    · rename_i hne; exact .inr ⟨e, Ne.symm hne⟩
  have conv : ∀ k s, lk (setH h m ⟨.dw sz z ds', []⟩) k = some s → s.own → ∃ s', lk h k = some s' ∧ s'.own := fun k s e hs => by
    rcases hd k s e with ⟨rfl, _⟩ | ⟨e, _⟩
    · exact ⟨_, hl, hown⟩
    · exact ⟨s, e, hs⟩
  refine ⟨σ, v, Stp0.up ⟨Sg.le.refl σ, fun _ _ => ⟨rfl, rfl⟩, ⟨S.rl.ext, fun k s e => ?_, fun k j s t p q a b hs ht c d e => ?_⟩,
    S.size, fun b' hb' hno => keep b' hb' fun e => hno m _ (b, 0) hl hown hb e.symm, fun k s q e hs hq => ?_⟩ hR.shr hR.wf (setH_shr hR.shr hl hown), hv σ, rfl⟩
  · rcases hd k s e with ⟨rfl, rfl⟩ | ⟨e, hne⟩
    · exact ⟨b, 0, [], hb, rfl, q0, rfl, hge, rfl, us2, t2, rest2, c, hc, g5, g6, g7, g8, g9⟩
    · exact hR.keepV hl hown hb e hne (Sg.le.refl σ) keep
  · obtain ⟨s', a', hs'⟩ := conv k s a hs
    obtain ⟨t', b', ht'⟩ := conv j t b ht
    exact hR.inj k j s' t' p q a' b' hs' ht' c d e
  · obtain ⟨s', a', hs'⟩ := conv k s e hs
    exact .inr ⟨k, s', q, a', hs', hq, rfl⟩
abbrev WSpec := Nat → List DV → List Value → Option (List DV × List Prop)
def WOk (P : Program) (f0 : FuncId) (sz : Nat) (z : List Value) (G : WSpec) : Prop := ∀ n ds vs0 ds' ob, G n ds vs0 = some (ds', ob) → Alls ob → (∀ σ, renL σ vs0 = some vs0) ∧ ∃ h' nx' d, Tri P f0 (.slice (some ⟨0, 0, none⟩) n (capBig + 0) :: vs0) [(0, ⟨.dw sz z ds, []⟩)] 1 (.tuple ⟨[]⟩, h', nx', d) ∧ lk h' 0 = some ⟨.dw sz z ds', []⟩
def mkW (f0 : FuncId) (sz : Nat) (z : List Value) (G : WSpec) : TFun := fun f args h nx tp => bif Nat.beq f f0 then some (match args with
  | .slice (some ⟨m, 0, none⟩) n c :: vs0 => (match lk h m with
    | some ⟨.dw sz' z' ds, []⟩ => bif Nat.beq sz' sz && beqZL z' z then (match G n ds vs0 with
      | some (ds', ob) => .ok ((.tuple ⟨[]⟩, setH h m ⟨.dw sz z ds', []⟩, nx, [m]), tp, (c = capBig + m) :: ob)
      | none => .no) else .no
    | _ => .no)
  | _ => .no) else none
theorem mkW_ok {P : Program} {f0 : FuncId} {sz : Nat} {z : List Value} {G : WSpec} (H : WOk P f0 sz z G) : TOneZ P (mkW f0 sz z G) := fun f args h nx tp out tp' ob e ho => by
  unfold mkW at e
  rcases bif_or e with ⟨hf, e1⟩ | ⟨_, e1⟩
  case inr => cases e1
  clear e
  obtain rfl := Nat.eq_of_beq_eq_true hf
  have e := Option.some.inj e1
  clear e1
  split at e
  case h_2 => cases e
  rename_i m n c vs0
  split at e
  case h_2 => cases e
  rename_i sz' z' ds hl
  obtain ⟨hg, e⟩ := bif_ok e
  simp only [Bool.and_eq_true] at hg
  obtain ⟨hg1, hg2⟩ := hg
  obtain rfl := Nat.eq_of_beq_eq_true hg1
  obtain rfl := beqZL_ok hg2
  split at e
  case h_2 => cases e
  rename_i ds' ob' hG
  simp only [Res.ok.injEq, Prod.mk.injEq] at e
  obtain ⟨rfl, rfl, rfl⟩ := e
  obtain ⟨rfl, ho⟩ := ho
  obtain ⟨hv0, h', nx', d, T, hl'⟩ := H _ _ _ _ _ hG ho
  exact dw_tri hl hv0 (fun σ => rfl) T hl'
end Go.Proofs.Ytmoflcoijmmpjaa
