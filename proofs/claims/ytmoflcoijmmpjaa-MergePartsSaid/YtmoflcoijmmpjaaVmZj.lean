/-
  The told machine, part Zj: an own row of slices is shared from now on (mode 50, at a move).
-/
import Derived.Test.YtmoflcoijmmpjaaVmZi
namespace Go.Proofs.Ytmoflcoijmmpjaa
set_option linter.unusedSimpArgs false
set_option linter.unusedVariables false
set_option linter.unusedSectionVars false
open Go Go.RowKit

section
variable {P : Program} {W : World} {lo hi : Nat} {σ σ' : Sg} {h h' : Hp} {w w' : World}
theorem drs_cells {F : List Nat} {b : Nat} (hb : b ∈ F) : ∀ {ds : List DV} {us : List Value} {s : Nat}, DRv W w F ds us → (∀ j u, us[j]? = some u → w.cell? ⟨b, s + j, none⟩ = some u) → DRs W w F b s ds
  | [], us, s, _, _ => by simp only [DRs]; exact .inr hb
  | d :: ds, us, s, h, hc => by
      simp only [DRv] at h
      obtain ⟨u, us', rfl, h1, h2⟩ := h
      simp only [DRs]
      refine ⟨⟨u, .inr ⟨hb, by simpa using hc 0 u rfl⟩, h1⟩, drs_cells hb h2 fun j v hj => ?_⟩
      have := hc (j + 1) v (by simpa using hj)
      rwa [show s + (j + 1) = s + 1 + j by omega] at this
/-- An own row is shared under a new name. -/
theorem Stp.freezeD (hR : Rl W σ h w) {nx : Nat} (hf : Fresh σ nx (nx + 1)) {n b c size : Nat} {z : List Value} {ds : List DV} {cs0 : List Value} (hl : lk h n = some ⟨.dp size z ds, cs0⟩) (hb : σ.b n = some (b, 0)) :
    Stp W nx (nx + 1) σ h w (σ.vwc nx (b, 0) c (some (b :: shAll σ h)) none) ((nx, ⟨.sd ds, []⟩) :: delH h n) w := by
  have hown : (⟨.dp size z ds, cs0⟩ : Rw).own := fun e => by cases e
  have hN := hf nx (Nat.le_refl _) (by omega)
  have hbs : ∀ m, m ≠ nx → (σ.vwc nx (b, 0) c (some (b :: shAll σ h)) none).b m = σ.b m ∧ (σ.vwc nx (b, 0) c (some (b :: shAll σ h)) none).c m = σ.c m ∧ (σ.vwc nx (b, 0) c (some (b :: shAll σ h)) none).f m = σ.f m ∧ (σ.vwc nx (b, 0) c (some (b :: shAll σ h)) none).e m = σ.e m := fun m hm => by simp only [Sg.vwc]; rw [if_neg hm, if_neg hm, if_neg hm, if_neg hm]; exact ⟨rfl, rfl, rfl, rfl⟩
  have hbN : (σ.vwc nx (b, 0) c (some (b :: shAll σ h)) none).b nx = some (b, 0) := by simp [Sg.vwc]
  have hle : σ.le (σ.vwc nx (b, 0) c (some (b :: shAll σ h)) none) := by
    refine ⟨fun m q e => ?_, fun m k e => ?_, fun m q e => ?_⟩
    · have hm : m ≠ nx := fun e2 => by subst e2; rw [hN.1] at e; cases e
      rw [(hbs m hm).1]; exact e
    · have hm : m ≠ nx := fun e2 => by subst e2; rw [hN.2] at e; cases e
      rw [(hbs m hm).2.1]; exact e
    · have hm : m ≠ nx := fun e2 => by subst e2; rw [hN.1] at e; cases e
      exact (hbs m hm).2
  have cls : ∀ m s, lk ((nx, ⟨.sd ds, []⟩) :: delH h n) m = some s → (m = nx ∧ s = ⟨.sd ds, []⟩) ∨ (m ≠ nx ∧ m ≠ n ∧ lk h m = some s) := fun m s e => by
    rw [lk_cons] at e
    split at e
    · rename_i e1; cases e; exact .inl ⟨e1.symm, rfl⟩
    · rename_i e1
      rw [lk_delH] at e
      split at e
      · cases e
      · rename_i e2; exact .inr ⟨Ne.symm e1, Ne.symm e2, e⟩
  have hsh : sh (σ.vwc nx (b, 0) c (some (b :: shAll σ h)) none) nx = b :: shAll σ h := by simp [sh, Sg.vwc]
  have shs : ∀ m, m ≠ nx → sh (σ.vwc nx (b, 0) c (some (b :: shAll σ h)) none) m = sh σ m := fun m hm => by unfold sh; rw [(hbs m hm).2.2.1]
  have own_ : ∀ m s q, lk ((nx, ⟨.sd ds, []⟩) :: delH h n) m = some s → s.own → (σ.vwc nx (b, 0) c (some (b :: shAll σ h)) none).b m = some q → lk h m = some s ∧ m ≠ n ∧ σ.b m = some q := fun m s q hm hs hq => by
    rcases cls m s hm with ⟨rfl, rfl⟩ | ⟨e1, e2, e3⟩
    · exact absurd (ShKd.sd ds) hs
    · rw [(hbs m e1).1] at hq; exact ⟨e3, e2, hq⟩
  obtain ⟨b', s', vs', hb', _, h1, h2, h3, us, t, rest, c', hc, hcell, hlen, hcm, hz, hds⟩ := hR.row n _ hl
  rw [hb] at hb'
  cases hb'
  have hlt : b < w.heap.size := by
    rcases Nat.lt_or_ge b w.heap.size with hh | hh
    · exact hh
    · rw [Array.getElem?_eq_none hh] at hcell; cases hcell
  refine ⟨hle, fun m hm => ⟨(hbs m (by omega)).1, (hbs m (by omega)).2.1⟩, ⟨⟨hR.ext, fun m s hm => ?_, fun m k r1 r2 p q hm hk hr1 hr2 hp hq e => ?_⟩, fun m s hm hs => ?_, fun m s kk hm hk => ?_⟩, Nat.le_refl _, fun _ _ _ => rfl, fun m s p hm hs hp => ?_, fun m s kk hm hk => ?_⟩
  · rcases cls m s hm with ⟨rfl, rfl⟩ | ⟨e1, e2, e3⟩
    · refine ⟨b, 0, [], hbN, rfl, rfl, .inr ?_⟩
      rw [hsh]
      refine drs_cells (List.mem_cons_self ..) (hds.more fun k hk => List.mem_cons_of_mem _ (shAll_of hl hk)) fun j u hj => ?_
      rw [cell_of_row w b (0 + j) _ t _ hcell]
      have hj2 : (us ++ rest)[j]? = some u := by rw [List.getElem?_append_left (List.getElem?_eq_some_iff.1 hj).1]; exact hj
      simpa using hj2
    · exact hR.keepA e3 hle fun _ _ => rfl
  · obtain ⟨a1, _, a3⟩ := own_ m r1 p hm hr1 hp
    obtain ⟨b1, _, b3⟩ := own_ k r2 q hk hr2 hq
    exact hR.inj m k r1 r2 p q a1 b1 hr1 hr2 a3 b3 e
  · rcases cls m s hm with ⟨rfl, rfl⟩ | ⟨e1, e2, e3⟩
    · exact absurd (ShKd.sd ds) hs
    · rw [(hbs m e1).2.2.1]; exact hR.shr.1 m s e3 hs
  · have old_ : ∀ m0 s0, lk h m0 = some s0 → kk ∈ sh σ m0 → kk < w.heap.size ∧ ∀ m s q, lk ((nx, ⟨.sd ds, []⟩) :: delH h n) m = some s → s.own → (σ.vwc nx (b, 0) c (some (b :: shAll σ h)) none).b m = some q → q.1 ≠ kk := fun m0 s0 g1 g2 => by
      obtain ⟨g3, g4⟩ := hR.shr.2 m0 s0 kk g1 g2
      refine ⟨g3, fun m s q hm hs hq => ?_⟩
      obtain ⟨a1, a2, a3⟩ := own_ m s q hm hs hq
      exact g4 m s q a1 hs a3
    rcases cls m s hm with ⟨rfl, rfl⟩ | ⟨e1, e2, e3⟩
    · rw [hsh] at hk
      rcases List.mem_cons.1 hk with rfl | hk
      · refine ⟨hlt, fun m s q hm hs hq e => ?_⟩
        obtain ⟨a1, a2, a3⟩ := own_ m s q hm hs hq
        exact a2 (hR.inj m n s _ q _ a1 hl hs hown a3 hb e)
      · obtain ⟨m0, s0, g1, g2⟩ := shAll_mem hk
        exact old_ m0 s0 g1 g2
    · rw [shs m e1] at hk
      exact old_ m s e3 hk
  · obtain ⟨a1, _, a3⟩ := own_ m s p hm hs hp
    exact .inr ⟨m, s, p, a1, hs, a3, rfl⟩
  · rcases cls m s hm with ⟨rfl, rfl⟩ | ⟨e1, e2, e3⟩
    · rw [hsh] at hk
      rcases List.mem_cons.1 hk with rfl | hk
      · exact .inr (.inl ⟨n, _, (kk, 0), hl, hown, hb, rfl⟩)
      · obtain ⟨m0, s0, g1, g2⟩ := shAll_mem hk
        exact .inr (.inr ⟨m0, s0, g1, g2⟩)
    · rw [shs m e1] at hk
      exact .inr (.inr ⟨m, s, e3, hk⟩)
def fzD (ev : Operand → Option Value) (h : Hp) (nx : Nat) : Op → Option (Out × List Prop)
  | .move x => match ev x with
    | some (.slice (some ⟨n, 0, none⟩) len cap) => match lk h n with
      | some ⟨.dp _ _ ds, _⟩ => some ((.slice (some ⟨nx, 0, none⟩) len (capBig + nx), (nx, ⟨.sd ds, []⟩) :: delH h n, nx + 1, [n]), [cap = capBig + n])
      | _ => none
    | _ => none
  | _ => none
theorem fzD_tidy {ev : Operand → Option Value} {nx : Nat} {op : Op} {v : Value} {h' : Hp} {nx' : Nat} {d : List Nat} {ob : List Prop} (hs : fzD ev h nx op = some ((v, h', nx', d), ob)) : Tidy h nx h' nx' d := by
  unfold fzD at hs
  split at hs
  case h_2 => cases hs
  split at hs
  case h_2 => cases hs
  split at hs
  case h_2 => cases hs
  simp only [Option.some.injEq, Prod.mk.injEq] at hs
  obtain ⟨⟨rfl, rfl, rfl, rfl⟩, _⟩ := hs
  refine ⟨by omega, fun m hn hd => ?_, fun hB m hn => ?_⟩
  · rw [lk_cons, if_neg (by omega), lk_delH, if_neg (fun e => hd (by simp [e]))]
  · rw [lk_cons, if_neg (by omega), lk_delH]
    split
    · rfl
    · exact hB m (by omega)
theorem fzD_ok {a : Act} (hR : Rl W σ h w) {ev : Operand → Option Value} {nx nx' : Nat} (hf : Fresh σ nx nx') (H : Evs σ ev a) {o : Oper} {v : Value} {h' : Hp} {d : List Nat} {ob : List Prop} (hs : fzD ev h nx o.op = some ((v, h', nx', d), ob)) (ho : Alls ob) :
    ∃ σ' w' v', Stp W nx nx' σ h w σ' h' w' ∧ renV σ' v = some v' ∧ Ends P a o w v' w' := by
  unfold fzD at hs
  split at hs
  case h_2 => cases hs
  rename_i x hop
  split at hs
  case h_2 => cases hs
  rename_i n len cap hx
  split at hs
  case h_2 => cases hs
  rename_i sz z ds cs0 hl
  simp only [Option.some.injEq, Prod.mk.injEq] at hs
  obtain ⟨⟨rfl, rfl, rfl, rfl⟩, rfl⟩ := hs
  obtain ⟨rfl, _⟩ := ho
  have hx' := H x _ hx
  obtain ⟨b, s0, vs0, hb, hv0, q1, q2, q3, us, tt, rest, c, hcm, hblk, hrl, hcl, hrz, hds⟩ := hR.row n _ hl
  subst q1
  rcases renV_slice hx' with ⟨p, c', hb', hcp, he, hnn⟩ | ⟨hnn, _, _, _⟩
  case inr => exact (hR.shr.1 n _ hl (fun e => by cases e) hnn).elim
  rw [hb] at hb'
  cases hb'
  rw [cpR_big, hcm] at hcp
  cases hcp
  refine ⟨_, w, _, Stp.freezeD (c := c) hR hf hl hb, renV_slice_mk (o := 0) (p := (b, 0)) (c' := c) (by simp [Sg.vwc]) (by unfold cpR; rw [if_neg (by omega), Nat.add_sub_cancel_left]; simp [Sg.vwc]) (by simp [Sg.vwc]), .inl ?_⟩
  unfold execOp
  simp only [hop, Sem.run_pure, he]
def odF (P : Program) (md : Nat) (ev : Operand → Option Value) (h : Hp) (nx : Nat) (op : Op) : Option (Out × List Prop) := bif Nat.beq md 50 then fzD ev h nx op else odS P md ev h nx op
theorem odF_tidy {P : Program} {h : Hp} {md : Nat} {ev : Operand → Option Value} {nx : Nat} {op : Op} {v : Value} {h' : Hp} {nx' : Nat} {d : List Nat} {ob : List Prop} (hs : odF P md ev h nx op = some ((v, h', nx', d), ob)) : Tidy h nx h' nx' d := by
  unfold odF at hs
  cases hb : Nat.beq md 50 with
  | true => rw [hb] at hs; exact fzD_tidy hs
  | false => rw [hb] at hs; exact odS_tidy hs
theorem odF_ok {a : Act} (hR : Rl W σ h w) {md : Nat} {ev : Operand → Option Value} {nx nx' : Nat} (hf : Fresh σ nx nx') (H : Evs σ ev a) {o : Oper} {v : Value} {h' : Hp} {d : List Nat} {ob : List Prop} (hs : odF P md ev h nx o.op = some ((v, h', nx', d), ob)) (ho : Alls ob) :
    ∃ σ' w' v', Stp W nx nx' σ h w σ' h' w' ∧ renV σ' v = some v' ∧ Ends P a o w v' w' := by
  unfold odF at hs
  cases hb : Nat.beq md 50 with
  | true => rw [hb] at hs; exact fzD_ok hR hf H hs ho
  | false => rw [hb] at hs; exact odS_ok hR hf H hs ho
end
end Go.Proofs.Ytmoflcoijmmpjaa
