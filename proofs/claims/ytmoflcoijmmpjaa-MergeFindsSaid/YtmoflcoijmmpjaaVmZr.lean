/-
  The told machine, part Zr: lists that are made and never written again: they are shared from the beginning.
-/
import Derived.Test.YtmoflcoijmmpjaaVmZq
namespace Go.Proofs.Ytmoflcoijmmpjaa
set_option linter.unusedSimpArgs false
set_option linter.unusedVariables false
set_option linter.unusedSectionVars false
open Go Go.RowKit

section
variable {P : Program} {W : World} {lo hi : Nat} {σ σ' : Sg} {h h' : Hp} {w w' : World}
theorem Stp.freeze (S : Stp W lo hi σ h w σ' h' w') {NX : Nat} (h1 : lo ≤ NX) (h2 : hi ≤ NX) (hf : Fresh σ lo (NX + 1)) {k b c : Nat} {r : Rw} {cs : List Value} (hl : lk h' k = some r) (ho : r.own) (hb : σ'.b k = some (b, 0)) (hF : ∀ τ, renL τ cs = some cs)
    (hw : ∀ j v, cs[j]? = some v → w'.cell? ⟨b, 0 + j, none⟩ = some v) (hfk : FOk W w' [b]) :
    Stp W lo (NX + 1) σ h w (σ'.vwc NX (b, 0) c (some [b]) none) ((NX, ⟨.of, cs⟩) :: delH h' k) w' := by
  have hN : σ'.b NX = none ∧ σ'.c NX = none := by
    obtain ⟨e1, e2⟩ := S.only NX (.inr h2)
    obtain ⟨e3, e4⟩ := hf NX h1 (by omega)
    exact ⟨e1.trans e3, e2.trans e4⟩
  have hne : ∀ n r, lk h' n = some r → n ≠ NX := fun n r hl e => by
    subst e
    obtain ⟨b', s', vs', hb', _⟩ := S.rl.row _ _ hl
    rw [hN.1] at hb'
    cases hb'
  have hbs : ∀ m, m ≠ NX → (σ'.vwc NX (b, 0) c (some [b]) none).b m = σ'.b m ∧ (σ'.vwc NX (b, 0) c (some [b]) none).c m = σ'.c m ∧ (σ'.vwc NX (b, 0) c (some [b]) none).f m = σ'.f m ∧ (σ'.vwc NX (b, 0) c (some [b]) none).e m = σ'.e m ∧ (σ'.vwc NX (b, 0) c (some [b]) none).w = σ'.w := fun m hm => by simp only [Sg.vwc]; rw [if_neg hm, if_neg hm, if_neg hm, if_neg hm]; exact ⟨rfl, rfl, rfl, rfl, trivial⟩
  have hle : σ'.le (σ'.vwc NX (b, 0) c (some [b]) none) := by
    refine ⟨fun m q e => ?_, fun m k e => ?_, fun m q e => ?_⟩
    · have hm : m ≠ NX := fun e2 => by subst e2; rw [hN.1] at e; cases e
      rw [(hbs m hm).1]; exact e
    · have hm : m ≠ NX := fun e2 => by subst e2; rw [hN.2] at e; cases e
      rw [(hbs m hm).2.1]; exact e
    · have hm : m ≠ NX := fun e2 => by subst e2; rw [hN.1] at e; cases e
      exact (hbs m hm).2
  have cls : ∀ n s, lk ((NX, (⟨.of, cs⟩ : Rw)) :: delH h' k) n = some s → (n = NX ∧ s = ⟨.of, cs⟩) ∨ (n ≠ NX ∧ n ≠ k ∧ lk h' n = some s) := fun n s e => by
    rw [lk_cons] at e
    split at e
    · rename_i e1; cases e; exact .inl ⟨e1.symm, rfl⟩
    · rename_i e1
      rw [lk_delH] at e
      split at e
      · cases e
      · rename_i e2; exact .inr ⟨Ne.symm e1, Ne.symm e2, e⟩
  have hsh : sh (σ'.vwc NX (b, 0) c (some [b]) none) NX = [b] := by simp [sh, Sg.vwc]
  have noO : ¬ (⟨.of, cs⟩ : Rw).own := fun e => e .of
  have shs : ∀ n, n ≠ NX → sh (σ'.vwc NX (b, 0) c (some [b]) none) n = sh σ' n := fun n hn => by unfold sh; rw [(hbs n hn).2.2.1]
  refine ⟨S.le.trans hle, fun n hn => ?_, ⟨⟨S.rl.ext, fun n s hn => ?_, fun n m r1 r2 p q hn hm hr hs hp hq e => ?_⟩, S.rl.wf, fun n s hn hs => ?_, fun n s kk hn hk => ?_⟩, S.size, S.fr, fun n s p hn hs hp => ?_, fun n s kk hn hk => ?_⟩
  · have e0 : n ≠ NX := by omega
    obtain ⟨a1, a2⟩ := S.only n (by omega)
    exact ⟨(hbs n e0).1.trans a1, (hbs n e0).2.1.trans a2⟩
  · rcases cls n s hn with ⟨rfl, rfl⟩ | ⟨e1, e2, e3⟩
    · refine ⟨b, 0, cs, by simp [Sg.vwc], hF _, ?_, .inr ⟨?_, hw⟩⟩
      · rw [hsh]; exact hfk
      · rw [hsh]; exact List.mem_singleton.2 rfl
    · exact S.rl.keepA e3 hle fun _ _ => rfl
  · rcases cls n r1 hn with ⟨rfl, rfl⟩ | ⟨e1, e2, e3⟩
    · exact absurd hr noO
    rcases cls m r2 hm with ⟨e4, e5⟩ | ⟨e4, e5, e6⟩
    · subst e5; exact absurd hs noO
    rw [(hbs n e1).1] at hp
    rw [(hbs m e4).1] at hq
    exact S.rl.inj n m r1 r2 p q e3 e6 hr hs hp hq e
  · rcases cls n s hn with ⟨rfl, rfl⟩ | ⟨e1, e2, e3⟩
    · exact absurd hs noO
    · rw [(hbs n e1).2.2.1]; exact S.rl.shr.1 n s e3 hs
  · have own_ : ∀ m s q, lk ((NX, (⟨.of, cs⟩ : Rw)) :: delH h' k) m = some s → s.own → (σ'.vwc NX (b, 0) c (some [b]) none).b m = some q → m ≠ k ∧ lk h' m = some s ∧ σ'.b m = some q := fun m s q hm hs hq => by
      rcases cls m s hm with ⟨rfl, rfl⟩ | ⟨e1, e2, e3⟩
      · exact absurd hs noO
      · rw [(hbs m e1).1] at hq; exact ⟨e2, e3, hq⟩
    rcases cls n s hn with ⟨rfl, rfl⟩ | ⟨e1, e2, e3⟩
    · rw [hsh] at hk
      obtain rfl := List.mem_singleton.1 hk
      refine ⟨S.rl.lt hl ho hb, fun m s q hm hs hq e => ?_⟩
      obtain ⟨a1, a2, a3⟩ := own_ m s q hm hs hq
      exact a1 (S.rl.inj m k s r q (kk, 0) a2 hl hs ho a3 hb e)
    · rw [shs n e1] at hk
      obtain ⟨g1, g2⟩ := S.rl.shr.2 n s kk e3 hk
      refine ⟨g1, fun m s q hm hs hq => ?_⟩
      obtain ⟨a1, a2, a3⟩ := own_ m s q hm hs hq
      exact g2 m s q a2 hs a3
  · rcases cls n s hn with ⟨rfl, rfl⟩ | ⟨e1, e2, e3⟩
    · exact absurd hs noO
    · rw [(hbs n e1).1] at hp
      exact S.src n s p e3 hs hp
  · rcases cls n s hn with ⟨rfl, rfl⟩ | ⟨e1, e2, e3⟩
    · rw [hsh] at hk
      obtain rfl := List.mem_singleton.1 hk
      rcases S.src k r (kk, 0) hl ho hb with h3 | ⟨m, s, q, a1, a2, a3, a4⟩
      · exact .inl h3
      · exact .inr (.inl ⟨m, s, q, a1, a2, a3, a4⟩)
    · rw [shs n e1] at hk
      exact S.ssrc n s kk e3 hk

def frZ (P : Program) (ev : Operand → Option Value) (h : Hp) (nx : Nat) : Op → Option (Out × List Prop)
  | .call ⟨.builtin .append, args, ts⟩ => match ts.toList, evL ev args.toList with
    | [t, tx], some [.slice A 0 0, x] => match P.underlying t with
      | some (.slice e) => match P.info? e with
        | some i => match srcZ P h i.size tx x, i.zero with
          | some (n, news, ob), some z => bif Nat.beq z.cells.toList.length i.size && Nat.ble 1 i.size && (match A with | none => true | some ⟨m, 0, none⟩ => (match lk h m with | some ⟨.shut, []⟩ => true | _ => false) | _ => false) then
              some ((.slice (some ⟨nx + 1, 0, none⟩) n (capBig + (nx + 1)), (nx + 1, ⟨.of, news⟩) :: h, nx + 2, []), (n * i.bytes ≤ 140737488355328 ∧ n ≤ 9223372036854775807) :: (news.length = n * i.size) :: (∀ τ, renL τ news = some news) :: ob) else none
          | _, _ => none
        | none => none
      | _ => none
    | _, _ => none
  | _ => none
theorem frZ_call {ev : Operand → Option Value} {nx : Nat} {op : Op} {x : Out × List Prop} (hs : frZ P ev h nx op = some x) : ∃ args ts, op = .call ⟨.builtin .append, args, ts⟩ := by
  unfold frZ at hs
  split at hs
  · exact ⟨_, _, rfl⟩
  · cases hs
theorem Stp.low {lo0 : Nat} (S : Stp W lo hi σ h w σ' h' w') (h0 : lo0 ≤ lo) : Stp W lo0 hi σ h w σ' h' w' :=
  ⟨S.le, fun n hn => S.only n (by omega), S.rl, S.size, S.fr, S.src, S.ssrc⟩
theorem frZ_tidy {ev : Operand → Option Value} {nx : Nat} {op : Op} {v : Value} {h' : Hp} {nx' : Nat} {d : List Nat} {ob : List Prop} (hs : frZ P ev h nx op = some ((v, h', nx', d), ob)) : Tidy h nx h' nx' d := by
  unfold frZ at hs
  split at hs
  case h_2 => cases hs
  split at hs
  case h_2 => cases hs
  split at hs
  case h_2 => cases hs
  split at hs
  case h_2 => cases hs
  split at hs
  case h_2 => cases hs
  obtain ⟨_, hs⟩ := bif_of hs
  simp only [Option.some.injEq, Prod.mk.injEq] at hs
  obtain ⟨⟨rfl, rfl, rfl, rfl⟩, _⟩ := hs
  exact ⟨by omega, fun n hn _ => by rw [lk_cons, if_neg (by omega)], fun hB n hn => by rw [lk_cons, if_neg (by omega)]; exact hB n (by omega)⟩
theorem Stp.nilName (S : Stp W lo hi σ h w σ' h' w') {NX : Nat} (h1 : lo ≤ NX) (h2 : hi ≤ NX) (hf : Fresh σ lo (NX + 1)) (E : Option Addr) : Stp W lo (NX + 1) σ h w (σ'.vwc NX (0, 0) 0 none E) ((NX, ⟨.of, []⟩) :: h') w' := by
  have hN : Fresh σ' NX (NX + 1) := fun n a b => by
    obtain ⟨e1, e2⟩ := S.only n (.inr (by omega))
    obtain ⟨e3, e4⟩ := hf n (by omega) b
    exact ⟨e1.trans e3, e2.trans e4⟩
  have T := Stp.viewc S.rl hN (r := ⟨.of, []⟩) (0, 0) 0 none E (fun k hk => by cases hk) .of ⟨0, 0, [], by simp [Sg.vwc], rfl, (fun k hk => by simp [sh, Sg.vwc] at hk), .inl rfl⟩
  refine ⟨S.le.trans T.le, fun n hn => ?_, T.rl, Nat.le_trans S.size T.size, fun b hb hno => ?_, fun n r p hl ho hp => ?_, fun n r k hl hk => ?_⟩
  · obtain ⟨a1, a2⟩ := T.only n (by omega)
    obtain ⟨b1, b2⟩ := S.only n (by omega)
    exact ⟨a1.trans b1, a2.trans b2⟩
  · exact S.fr b hb hno
  · rw [lk_cons] at hl
    split at hl
    · cases hl; exact absurd .of ho
    · rename_i e
      simp only [Sg.vwc] at hp
      rw [if_neg (Ne.symm e)] at hp
      exact S.src n r p hl ho hp
  · rw [lk_cons] at hl
    split at hl
    · rename_i e
      subst e
      simp [sh, Sg.vwc] at hk
    · rename_i e
      refine S.ssrc n r k hl ?_
      unfold sh at hk ⊢
      simp only [Sg.vwc] at hk
      rwa [if_neg (Ne.symm e)] at hk
theorem nilName_ren (σ : Sg) (NX : Nat) (E : Option Addr) : renV (σ.vwc NX (0, 0) 0 none E) (.slice (some ⟨NX, 0, none⟩) 0 (capBig + NX)) = some (.slice E 0 0) := by
  have := renV_nil (σ := σ.vwc NX (0, 0) 0 none E) (n := NX) (o := 0) (l := 0) (c := capBig + NX) (p := (0, 0)) (by simp [Sg.vwc]) (by simp [Sg.vwc]) rfl (by unfold cpR; rw [if_neg (by omega), Nat.add_sub_cancel_left]; simp [Sg.vwc])
  rw [show (σ.vwc NX (0, 0) 0 none E).e NX = E by simp [Sg.vwc]] at this
  exact this
theorem frZ_ok {a : Act} (hR : Rl W σ h w) {ev : Operand → Option Value} {nx nx' : Nat} (hf : Fresh σ nx nx') (H : Evs σ ev a) {o : Oper} {v : Value} {h' : Hp} {d : List Nat} {ob : List Prop} (hs : frZ P ev h nx o.op = some ((v, h', nx', d), ob)) (ho : Alls ob) :
    ∃ σ' w' v', Stp W nx nx' σ h w σ' h' w' ∧ renV σ' v = some v' ∧ Ends P a o w v' w' := by
  obtain ⟨args, ts, hop⟩ := frZ_call hs
  rw [hop] at hs
  simp only [frZ] at hs
  split at hs
  case h_2 => cases hs
  rename_i t tx A x hte hev
  split at hs
  case h_2 => cases hs
  rename_i e hu
  split at hs
  case h_2 => cases hs
  rename_i i hi
  split at hs
  case h_2 => cases hs
  rename_i n news ob' z hsrc hz
  obtain ⟨hg, hs⟩ := bif_of hs
  simp only [Option.some.injEq, Prod.mk.injEq] at hs
  obtain ⟨⟨rfl, rfl, rfl, rfl⟩, rfl⟩ := hs
  obtain ⟨⟨k1, k2⟩, k3, k4, k5⟩ := ho
  simp only [Bool.and_eq_true] at hg
  obtain ⟨⟨g1, g2⟩, g3⟩ := hg
  have hsV := srcZ_ok hsrc k5
  obtain ⟨s', l, hs', hl, e1⟩ := renL_cons (evL_ok H hev)
  obtain ⟨x', l', hx', hl', rfl⟩ := renL_cons hl
  simp only [renL, Option.some.injEq] at hl'
  subst hl'
  have hargs : args.map a.eval = #[s', x'] := by apply Array.toList_inj.1; rw [Array.toList_map, e1]
  have hts' : ts = #[t, tx] := by apply Array.toList_inj.1; simpa using hte
  have fin : ∀ {v' w'}, (Builtin.append_ #[t, tx] o.type #[s', x']).run P w = .ok v' w' → Ends P a o w v' w' := fun h3 => by
    refine .inl ?_
    unfold execOp
    simp only [hop, resolve, Sem.run_bind, Sem.run_pure, Result.andThen_ok, invoke, builtin, hargs, hts', h3]
  have grown : ∀ {hh : Hp}, (∀ n r, lk hh n = some r → lk h n = some r) → (∀ n r, lk h n = some r → lk hh n = some r) → appV P h nx t tx (.slice A 0 0) x = some (.slice (some ⟨nx, 0, none⟩) n (capBig + nx), (nx, ⟨.room i.size z.cells.toList, news⟩) :: hh, nx + 1, []) →
      ∃ σ' w' v', Stp W nx (nx + 2) σ h w σ' ((nx + 1, ⟨.of, news⟩) :: h) w' ∧ renV σ' (.slice (some ⟨nx + 1, 0, none⟩) n (capBig + (nx + 1))) = some v' ∧ Ends P a o w v' w' := by
    intro hh q1 q2 hc
    obtain ⟨σ', w', v', S, h2, h3⟩ := appV_ok (P := P) (ty := o.type) hR hc (hf.low (by omega)) hs' hx'
    have hl0 : lk ((nx, (⟨.room i.size z.cells.toList, news⟩ : Rw)) :: hh) nx = some ⟨.room i.size z.cells.toList, news⟩ := by rw [lk_cons, if_pos rfl]
    obtain ⟨b, s, vs, hb, hv, hk1, hk2, tt, rest, c, hc1, hc2, hc3, hc4, hc5⟩ := S.rl.row nx _ hl0
    subst hk1
    have hvs : vs = news := by
      have := k4 σ'
      simp only at hv
      rw [this] at hv
      exact (Option.some.inj hv).symm
    subst hvs
    have hcell := fun j v hj => (S.rl.cell hl0).elim fun p hp => by
      obtain ⟨us, a1, a2, a3⟩ := hp
      rw [hb] at a1
      cases a1
      simp only at a2
      rw [k4 σ'] at a2
      cases a2
      exact a3 j v hj
    have T := S.freeze (NX := nx + 1) (c := c) (by omega) (Nat.le_refl _) (hf.low (by omega)) hl0 (fun e => by cases e) hb k4 hcell (fun q hq => by
      obtain rfl := List.mem_singleton.1 hq
      exact ⟨hk2, _, _, hc2⟩)
    refine ⟨_, w', v', T.less fun m r hm => ?_, ?_, fin h3⟩
    · rw [lk_cons] at hm ⊢
      split
      · rename_i e; rw [if_pos e] at hm; exact hm
      · rename_i e
        rw [if_neg e] at hm
        have hne : m ≠ nx := fun e2 => by
          subst e2
          obtain ⟨b', s', vs', hb', _⟩ := hR.row _ _ hm
          rw [(hf m (Nat.le_refl _) (by omega)).1] at hb'
          cases hb'
        rw [lk_delH, if_neg (Ne.symm hne), lk_cons, if_neg (Ne.symm hne)]
        exact q2 m r hm
    · have e1 : cpR σ' (capBig + nx) = some c := by unfold cpR; rw [if_neg (by omega), Nat.add_sub_cancel_left]; exact hc1
      have hnc : n ≤ c := by
        rcases renV_slice h2 with ⟨p, c', hb2, hcp, hse, _⟩ | ⟨h0, _⟩
        · rw [hse] at h2
          have := renV_len S.rl.wf h2
          rw [e1] at hcp
          cases hcp
          exact this
        · exact (S.rl.shr.1 nx _ hl0 (fun e => by cases e) h0).elim
      rw [renV_slice_mk (o := 0) hb e1 (S.rl.shr.1 nx _ hl0 fun e => by cases e) (.inr hnc)] at h2
      rw [← h2]
      exact renV_slice_mk (o := 0) (p := (b, 0)) (by simp [Sg.vwc]) (by unfold cpR; rw [if_neg (by omega), Nat.add_sub_cancel_left]; simp [Sg.vwc]) (by simp [Sg.vwc]) (.inr hnc)
  have empty : ∀ {vv : Value} {hh : Hp} {dd : List Nat}, n = 0 → (∀ m r, lk h m = some r → lk hh m = some r) → appV P h nx t tx (.slice A 0 0) x = some (vv, hh, nx, dd) → (∀ σ' v', σ.le σ' → renV σ' vv = some v' → ∃ E, v' = .slice E 0 0) →
      ∃ σ' w' v', Stp W nx (nx + 2) σ h w σ' ((nx + 1, ⟨.of, news⟩) :: h) w' ∧ renV σ' (.slice (some ⟨nx + 1, 0, none⟩) n (capBig + (nx + 1))) = some v' ∧ Ends P a o w v' w' := by
    intro vv hh dd hn q1 hc hE
    subst hn
    obtain rfl : news = [] := List.eq_nil_of_length_eq_zero (by rw [k3, Nat.zero_mul])
    obtain ⟨σ', w', v', S, h2, h3⟩ := appV_ok (P := P) (ty := o.type) hR hc (hf.low (by omega)) hs' hx'
    obtain ⟨E, rfl⟩ := hE σ' v' S.le h2
    have T := S.nilName (NX := nx + 1) (by omega) (by omega) (hf.low (by omega)) E
    refine ⟨_, w', _, T.less fun m r hm => ?_, nilName_ren σ' (nx + 1) E, fin h3⟩
    rw [lk_cons] at hm ⊢
    split
    · rename_i e; rw [if_pos e] at hm; exact hm
    · rename_i e; rw [if_neg e] at hm; exact q1 m r hm
  rcases Nat.eq_zero_or_pos n with hn0 | hn0
  · have hnews : news = [] := List.eq_nil_of_length_eq_zero (by rw [k3, hn0, Nat.zero_mul])
    cases A with
    | none =>
      refine empty hn0 (fun m r hm => hm) (vv := .slice none 0 0) (dd := []) ?_ fun σ' v' _ hv => ⟨none, by simpa only [renV, Option.some.injEq] using hv.symm⟩
      unfold appV
      simp only [hu, hi, hsV, hz, g1, g2, hn0, Bool.and_self, cond_true, nbeq_rfl]
    | some ad =>
      obtain ⟨m, off, sp⟩ := ad
      split at g3
      · rename_i e1; cases e1
      · rename_i m' e1
        cases e1
        split at g3
        case h_2 => cases g3
        rename_i hlm
        refine empty hn0 (hh := setH h m ⟨.shut, []⟩) (vv := .slice (some ⟨m, 0, none⟩) 0 0) (dd := [m]) (fun k r hk => ?_) ?_ fun σ' v' _ hv => ?_
        · rw [lk_setH]
          split
          · rename_i e; subst e; rw [hlm] at hk; exact hk
          · exact hk
        · unfold appV
          simp only [hu, hi, hsV, hz, g1, g2, hn0, hnews, hlm, Bool.and_self, cond_true, blt_of (show 0 < capBig by unfold capBig; omega), Nat.add_zero, Nat.zero_mul, List.length_nil, isOwn, splice]
          rfl
        · rcases renV_slice hv with ⟨p, c', _, hcp, rfl, _⟩ | ⟨_, _, _, rfl⟩
          · rw [cpR_of (show 0 < capBig by unfold capBig; omega) (Nat.le_refl _)] at hcp
            cases hcp
            exact ⟨_, rfl⟩
          · exact ⟨_, rfl⟩
      · cases g3
  · have hnb : Nat.beq n 0 = false := nbeq_ne (by omega)
    cases A with
    | none =>
      refine grown (fun k r hk => hk) (fun k r hk => hk) ?_
      unfold appV
      simp only [hu, hi, hsV, hz, g1, g2, hnb, Bool.and_self, cond_true, cond_false, nbeq_rfl, Nat.ble_eq_true_of_le k1, Nat.ble_eq_true_of_le k2]
    | some ad =>
      obtain ⟨m, off, sp⟩ := ad
      split at g3
      · rename_i e1; cases e1
      · rename_i m' e1
        cases e1
        split at g3
        case h_2 => cases g3
        rename_i hlm
        refine grown (hh := h) (fun k r hk => hk) (fun k r hk => hk) ?_
        have hcl : cellsAt h m 0 0 = some [] := by
          have := cellsAt_of (o := 0) (len := 0) hlm (by simp)
          simpa using this
        unfold appV
        simp only [hu, hi, hsV, hz, g1, g2, Bool.and_self, cond_true, cond_false, blt_of (show 0 < capBig by unfold capBig; omega), Nat.zero_add, Nat.zero_mul, nble_false hn0, hcl, List.nil_append, Nat.ble_eq_true_of_le k1, Nat.ble_eq_true_of_le k2]
      · cases g3
def odX (P : Program) (md : Nat) (ev : Operand → Option Value) (h : Hp) (nx : Nat) (op : Op) : Option (Out × List Prop) := bif Nat.beq md 43 then frZ P ev h nx op else odY P md ev h nx op
theorem odX_tidy {md : Nat} {ev : Operand → Option Value} {nx : Nat} {op : Op} {v : Value} {h' : Hp} {nx' : Nat} {d : List Nat} {ob : List Prop} (hs : odX P md ev h nx op = some ((v, h', nx', d), ob)) : Tidy h nx h' nx' d := by
  unfold odX at hs
  rcases bif_or hs with ⟨_, hs⟩ | ⟨_, hs⟩
  · exact frZ_tidy hs
  · exact odY_tidy hs
theorem odX_ok {a : Act} (hR : Rl W σ h w) {md : Nat} {ev : Operand → Option Value} {nx nx' : Nat} (hf : Fresh σ nx nx') (H : Evs σ ev a) {o : Oper} {v : Value} {h' : Hp} {d : List Nat} {ob : List Prop} (hs : odX P md ev h nx o.op = some ((v, h', nx', d), ob)) (ho : Alls ob) :
    ∃ σ' w' v', Stp W nx nx' σ h w σ' h' w' ∧ renV σ' v = some v' ∧ Ends P a o w v' w' := by
  unfold odX at hs
  rcases bif_or hs with ⟨_, hs⟩ | ⟨_, hs⟩
  · exact frZ_ok hR hf H hs ho
  · exact odY_ok hR hf H hs ho
end
end Go.Proofs.Ytmoflcoijmmpjaa
