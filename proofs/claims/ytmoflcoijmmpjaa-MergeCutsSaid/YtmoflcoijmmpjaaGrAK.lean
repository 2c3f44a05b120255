/-
  The told machine, part Zk: what lies in older memory alone: loads (modes 36, 37), own rows of slices of older memory (append 51, store 52), cuts (53: ahead of the end, 54: at the end, 55: an own row's list is made shorter).
-/
import Derived.Test.YtmoflcoijmmpjaaGrAJ
namespace Go.Proofs.Ytmoflcoijmmpjaa
set_option linter.unusedSimpArgs false
set_option linter.unusedVariables false
set_option linter.unusedSectionVars false
open Go Go.RowKit

def oldOf : Kd → Option (List DV)
 | .sw ds => some ds
 | .dw _ _ ds => some ds
 | _ => none
def olR : Rw → Rw
 | ⟨.sd ds, cs⟩ => ⟨.sw ds, cs⟩
 | ⟨.old, cs⟩ => ⟨.ow, cs⟩
 | r => r
section
variable {P : Program} {W : World} {lo hi : Nat} {σ σ' : Sg} {h h' : Hp} {w w' : World}
theorem old_get (hR : Rl W σ h w) {n : Nat} {r : Rw} {ds : List DV} {b s : Nat} (hl : lk h n = some r) (hd : oldOf r.kd = some ds) (hb : σ.b n = some (b, s)) : ∀ j d, ds[j]? = some d → ∃ u, w.cell? ⟨b, s + j, none⟩ = some u ∧ DR W w [] d u := by
 obtain ⟨b', s', vs, h1, h2, h3⟩ := hR.row n r hl
 rw [hb] at h1
 cases h1
 unfold oldOf at hd
 intro j d hj
 split at hd
 ·rename_i ds' hk
  cases hd
  rw [hk] at h3
  rcases h3.2.2 with h4 | h4
  ·subst h4; simp at hj
  ·obtain ⟨u, hu, hdr⟩ := h4.get j d hj
   refine ⟨u, ?_, hdr⟩
   rcases hu with ⟨g1, g2⟩ | ⟨_, g2⟩
   ·exact (hR.ext.cell b (s + j) g1).trans g2
   ·exact g2
 ·rename_i sz z ds' hk
  cases hd
  rw [hk] at h3
  obtain ⟨_, rfl, _, _, us, t, rest, c, _, hc, _, _, _, hv⟩ := h3
  have key : ∀ {ds : List DV} {us : List Value} {j : Nat} {d : DV}, DRv W w [] ds us → ds[j]? = some d → ∃ u, us[j]? = some u ∧ DR W w [] d u := by
   intro ds
   induction ds with
   | nil => intro us j d _ h; simp at h
   | cons x ds ih =>
    intro us j d h hj
    simp only [DRv] at h
    obtain ⟨u, us', rfl, h1, h2⟩ := h
    cases j with
    | zero => simp only [List.getElem?_cons_zero, oI] at hj; subst hj; exact ⟨u, rfl, h1⟩
    | succ j =>
     obtain ⟨v, g1, g2⟩ := ih h2 (by simpa using hj)
     exact ⟨v, by simpa using g1, g2⟩
  obtain ⟨u, hu, hdr⟩ := key hv hj
  refine ⟨u, ?_, hdr⟩
  have hj2 : (us ++ rest)[j]? = some u := by rw [List.getElem?_append_left (List.getElem?_eq_some_iff.1 hu).1]; exact hu
  simp only [World.cell?, hc, Nat.zero_add]
  simpa using hj2
 ·cases hd
theorem shW_ok {deep uc : Bool} {ds : List DV} {b s : Nat} {o0 : Nat} (hget : ∀ j d, ds[j]? = some d → ∃ u, w.cell? ⟨b, s + j, none⟩ = some u ∧ DR W w [] d u) :
  ∀ {zs : List Value} {j0 nx : Nat} {l : List Value} {rs : List Rw} {ob : List Prop} {σ : Sg} {h : Hp}, shD deep uc ds o0 zs j0 nx = some (l, rs, ob) → Alls ob → Rl W σ h w → Fresh σ nx (nx + rs.length) →
  ∃ σ' us, Stp W nx (nx + rs.length) σ h w σ' (rowsU (rs.map olR) nx h) w ∧ renL σ' l = some us ∧ ∀ j u, us[j]? = some u → w.cell? ⟨b, s + (o0 + j0) + j, none⟩ = some u
 | [], j0, nx, l, rs, ob, σ, h, hs, ho, hR, hf => by
   simp only [shD, oI, pI] at hs
   obtain ⟨rfl, rfl, rfl⟩ := hs
   exact ⟨σ, [], Stp.refl hR nx, rfl, fun j u hj => by simp at hj⟩
 | z :: zs, j0, nx, l, rs, ob, σ, h, hs, ho, hR, hf => by
   have plain : ∀ (v : Value) {l' : List Value} {rs' : List Rw} {ob' : List Prop}, shD deep uc ds o0 zs (j0 + 1) nx = some (l', rs', ob') → l = v :: l' → rs = rs' → ob = (ds[(o0 + j0)]? = some (.fl v)) :: ob' →
     ∃ σ' us, Stp W nx (nx + rs.length) σ h w σ' (rowsU (rs.map olR) nx h) w ∧ renL σ' l = some us ∧ ∀ j u, us[j]? = some u → w.cell? ⟨b, s + (o0 + j0) + j, none⟩ = some u := by
    intro v l' rs' ob' hh e1 e2 e3
    subst e1; subst e2; subst e3
    obtain ⟨h1, h2⟩ := ho
    obtain ⟨σ', us, S, hv, hc⟩ := shW_ok hget hh h2 hR hf
    obtain ⟨u, hu, hdr⟩ := hget (o0 + j0) _ h1
    simp only [DR] at hdr
    obtain ⟨rfl, hfl⟩ := hdr
    refine ⟨σ', u :: us, S, renL_mk (hfl σ') hv, fun j x hj => ?_⟩
    cases j with
    | zero =>
     simp only [List.getElem?_cons_zero, oI] at hj
     subst hj
     rw [Nat.add_zero]; exact hu
    | succ j =>
     have := hc j x (by simpa using hj)
     rwa [show s + (o0 + (j0 + 1)) + j = s + (o0 + j0) + (j + 1) by omega] at this
   have slice : ∀ (r : Rw) (sub : List DV) (cc : Nat) {l' : List Value} {rs' : List Rw} {ob' : List Prop}, shD deep uc ds o0 zs (j0 + 1) (nx + 1) = some (l', rs', ob') → l = .slice (some ⟨nx, 0, none⟩) (dLen ds (o0 + j0)) (bif uc then capBig + nx else cc) :: l' → rs = r :: rs' → ob = (DSl ds (o0 + j0) (dLen ds (o0 + j0)) (bif uc then none else some cc) sub) :: ob' → ShKd (olR r).kd →
     (∀ (τ : Sg) (b' s' : Nat), τ.b nx = some (b', s') → sh τ nx = [] → (sub = [] ∨ DRs W w [] b' s' sub) → RowOk W τ w nx (olR r)) →
     ∃ σ' us, Stp W nx (nx + rs.length) σ h w σ' (rowsU (rs.map olR) nx h) w ∧ renL σ' l = some us ∧ ∀ j u, us[j]? = some u → w.cell? ⟨b, s + (o0 + j0) + j, none⟩ = some u := by
    intro r sub cc l' rs' ob' hh e1 e2 e3 hk hro
    subst e1; subst e2; subst e3
    simp only [List.length_cons] at hf ⊢
    obtain ⟨⟨c0, h1, hc0⟩, h2⟩ := ho
    obtain ⟨u, hu, hdr⟩ := hget (o0 + j0) _ h1
    have hf1 : Fresh σ nx (nx + 1) := hf.low (by omega)
    have step : ∃ p c F' E, Stp W nx (nx + 1) σ h w (σ.vwc nx p c F' E) ((nx, olR r) :: h) w ∧ renV (σ.vwc nx p c F' E) (.slice (some ⟨nx, 0, none⟩) (dLen ds (o0 + j0)) (bif uc then capBig + nx else cc)) = some u := by
     have cps : ∀ {p c F' E}, (∀ k, c0 = some k → c = k ∧ k ≤ 9223372036854775807) → cpR (σ.vwc nx p c F' E) (bif uc then capBig + nx else cc) = some c := fun {p c F' E} hk => by
      cases uc with
      | true => simp only [cond_true]; unfold cpR; rw [if_neg (by omega), Nat.add_sub_cancel_left]; simp [Sg.vwc]
      | false =>
       simp only [cond_false] at hc0 ⊢
       rcases hc0 with hc0 | hc0
       ·cases hc0
       ·obtain ⟨this, hc9⟩ := hk cc hc0
        subst this
        unfold cpR; rw [if_pos (by unfold capBig; omega)]
     simp only [DR] at hdr
     rcases hdr with ⟨g1, g2, g3, ea, rfl⟩ | ⟨b1, s1, c, rfl, g3, g4⟩
     ·refine ⟨(b, s), 0, none, ea, Stp.viewc hR hf1 _ _ _ _ (fun k hk => by cases hk) hk (hro _ b s (by simp [Sg.vwc]) (by simp [sh, Sg.vwc]) (.inl g2)), ?_⟩
      have hcp := cps (p := (b, s)) (c := 0) (F' := none) (E := ea) (fun k hk => by
       rcases g3 with g3 | g3
       ·rw [g3] at hk; cases hk
       ·rw [g3] at hk; cases hk; exact ⟨rfl, by omega⟩)
      rw [g1]
      have := renV_nil (σ := σ.vwc nx (b, s) 0 none ea) (n := nx) (o := 0) (l := 0) (c := bif uc then capBig + nx else cc) (p := (b, s)) (by simp [Sg.vwc]) (by simp [Sg.vwc]) rfl hcp
      rw [show (σ.vwc nx (b, s) 0 none ea).e nx = ea by simp [Sg.vwc]] at this
      exact this
     ·refine ⟨(b1, s1), c, some [], none, Stp.viewc hR hf1 _ _ _ _ (fun k hk => by cases hk) hk (hro _ b1 s1 (by simp [Sg.vwc]) (by simp [sh, Sg.vwc]) g4), ?_⟩
      ·have hcp := cps (p := (b1, s1)) (c := c) (F' := some []) (E := none) fun k hk => ⟨(g3.2 k hk).1, (g3.2 k hk).2.2⟩
       have := renV_slice_mk (σ := σ.vwc nx (b1, s1) c (some []) none) (n := nx) (o := 0) (l := dLen ds (o0 + j0)) (c := bif uc then capBig + nx else cc) (c' := c) (p := (b1, s1)) (by simp [Sg.vwc]) hcp (by simp [Sg.vwc]) (.inr g3.1)
       simpa using this
    obtain ⟨p, c, F', E, S1, hv1⟩ := step
    obtain ⟨σ', us, S2, hv, hc⟩ := shW_ok hget (σ := σ.vwc nx p c F' E) (h := (nx, olR r) :: h) hh h2 S1.rl (by
     intro k h1 h2
     have := hf k (by omega) (by omega)
     simp only [Sg.vwc]
     rw [if_neg (by omega), if_neg (by omega)]
     exact this)
    have hS := S1.trans S2 (by omega) (by omega)
    rw [show nx + 1 + rs'.length = nx + (rs'.length + 1) by omega] at hS
    refine ⟨σ', u :: us, hS, renL_mk (renV_le S2.le _ _ hv1) hv, fun j x hj => ?_⟩
    cases j with
    | zero =>
     simp only [List.getElem?_cons_zero, oI] at hj
     subst hj
     rw [Nat.add_zero]; exact hu
    | succ j =>
     have := hc j x (by simpa using hj)
     rwa [show s + (o0 + (j0 + 1)) + j = s + (o0 + j0) + (j + 1) by omega] at this
   cases z with
   | int k i =>
    simp only [shD] at hs
    split at hs
    ·rename_i l' rs' ob' hh
     simp only [oI, pI] at hs
     exact plain _ hh hs.1.symm hs.2.1.symm hs.2.2.symm
    ·cases hs
   | bool x =>
    simp only [shD] at hs
    split at hs
    ·rename_i l' rs' ob' hh
     simp only [oI, pI] at hs
     exact plain _ hh hs.1.symm hs.2.1.symm hs.2.2.symm
    ·cases hs
   | string x =>
    simp only [shD] at hs
    split at hs
    ·rename_i l' rs' ob' hh
     simp only [oI, pI] at hs
     exact plain _ hh hs.1.symm hs.2.1.symm hs.2.2.symm
    ·cases hs
   | slice a ll cc =>
    cases a with
    | some a => simp [shD] at hs
    | none =>
     simp only [shD] at hs
     split at hs
     ·rename_i l' rs' ob' hh
      simp only [oI, pI] at hs
      obtain ⟨rfl, rfl, rfl⟩ := hs
      cases deep with
      | true => exact slice ⟨.sd (dSub ds (o0 + j0)), []⟩ _ _ hh rfl rfl rfl (.sw _) fun τ b' s' e1 e0 e2 => ⟨b', s', [], e1, rfl, e0, rfl, e2⟩
      | false =>
       refine slice ⟨.old, dVals ds (o0 + j0)⟩ _ _ hh rfl rfl rfl .ow fun τ b' s' e1 e0 e2 => ?_
       simp only [cond_false] at e2
       rcases e2 with e2 | e2
       ·have : dVals ds (o0 + j0) = [] := by
         cases hv : dVals ds (o0 + j0) with
         | nil => rfl
         | cons x y => rw [hv] at e2; cases e2
        rw [this]
        exact ⟨b', s', [], e1, rfl, e0, .inl rfl⟩
       ·obtain ⟨g1, g2⟩ := e2.flat hR.ext
        exact ⟨b', s', _, e1, g1 τ, e0, .inr (g2.elim (fun e => e) fun e => by cases e.1)⟩
     ·cases hs
   | _ => simp [shD] at hs
def odLW (P : Program) (md : Nat) (ev : Operand → Option Value) (h : Hp) (nx : Nat) : Op → Option (Out × List Prop)
 | .load t x => match ev x with
  | some (.pointer (some ⟨n, o, none⟩)) => match lk h n with
   | some r => match oldOf r.kd, P.underlying t, P.info? t with
    | some ds, some d, some i => match i.zero with
     | some z => match shD (Nat.beq md 37) true ds o z.cells.toList 0 nx with
      | some (l, rs, _) => bif Nat.beq l.length i.size then (bif d.isRow then some ((.agg ⟨l⟩, rowsU (rs.map olR) nx h, nx + rs.length, []), [ShOb P t (Nat.beq md 37) true ds o nx]) else (match l with
        | [v] => some ((v, rowsU (rs.map olR) nx h, nx + rs.length, []), [ShOb P t (Nat.beq md 37) true ds o nx])
        | _ => none)) else none
      | none => none
     | none => none
    | _, _, _ => none
   | none => none
  | _ => none
 | _ => none
theorem odLW_tidy {md : Nat} {ev : Operand → Option Value} {nx : Nat} {op : Op} {v : Value} {h' : Hp} {nx' : Nat} {d : List Nat} {ob : List Prop} (hs : odLW P md ev h nx op = some ((v, h', nx', d), ob)) : Tidy h nx h' nx' d := by
 have key : ∀ rs : List Rw, Tidy h nx (rowsU (rs.map olR) nx h) (nx + rs.length) [] := fun rs =>
  ⟨Nat.le_add_right _ _, fun n hn _ => by rw [lk_rowsU, if_neg (by omega)], fun hB n hn => by rw [lk_rowsU, if_neg (by rw [List.length_map]; omega)]; exact hB n (by omega)⟩
 unfold odLW at hs
 split at hs
 case h_2 => cases hs
 split at hs
 case h_2 => cases hs
 split at hs
 case h_2 => cases hs
 split at hs
 case h_2 => cases hs
 split at hs
 case h_2 => cases hs
 split at hs
 case h_2 => cases hs
 obtain ⟨_, hs⟩ := bif_of hs
 rcases bif_or hs with ⟨_, hs⟩ | ⟨_, hs⟩
 ·simp only [oI, pI] at hs
  obtain ⟨⟨rfl, rfl, rfl, rfl⟩, _⟩ := hs
  exact key _
 ·split at hs
  ·simp only [oI, pI] at hs
   obtain ⟨⟨rfl, rfl, rfl, rfl⟩, _⟩ := hs
   exact key _
  ·cases hs
theorem odLW_ok {a : Act} (hR : Rl W σ h w) {md : Nat} {ev : Operand → Option Value} {nx nx' : Nat} (hf : Fresh σ nx nx') (H : Evs σ ev a) {o : Oper} {v : Value} {h' : Hp} {d : List Nat} {ob : List Prop} (hs : odLW P md ev h nx o.op = some ((v, h', nx', d), ob)) (ho : Alls ob) :
  ∃ σ' w' v', Stp W nx nx' σ h w σ' h' w' ∧ renV σ' v = some v' ∧ Ends P a o w v' w' := by
 unfold odLW at hs
 split at hs
 case h_2 => cases hs
 rename_i t x hop
 split at hs
 case h_2 => cases hs
 rename_i n off hx
 split at hs
 case h_2 => cases hs
 rename_i r0 hl
 split at hs
 case h_2 => cases hs
 rename_i ds dd i hdeep hu hi
 split at hs
 case h_2 => cases hs
 rename_i z hz
 split at hs
 case h_2 => cases hs
 rename_i l rs ob' hd
 obtain ⟨hlen, hs⟩ := bif_of hs
 have hob : ShOb P t (Nat.beq md 37) true ds off nx → Alls ob' := fun e => by unfold ShOb at e; simpa only [hi, hz, hd] using e
 have hx' := H x _ hx
 obtain ⟨p, hb, hp, hnn⟩ := renV_ptr hx'
 have main : ∀ v0, loadV P t l 0 = some v0 → nx' = nx + rs.length → h' = rowsU (rs.map olR) nx h → v = v0 → Alls ob' → ∃ σ' w' v', Stp W nx nx' σ h w σ' h' w' ∧ renV σ' v = some v' ∧ Ends P a o w v' w' := by
  intro v0 hld e1 e2 e3 ho'
  subst e1; subst e2; subst e3
  obtain ⟨σ', us, S, hv, hc⟩ := shW_ok (old_get hR hl hdeep (b := p.1) (s := p.2) hb) hd ho' hR hf
  obtain ⟨v', h4, h5⟩ := loadV_ok (P := P) hv hc hld
  refine ⟨σ', w, v', S, h4, .inl ?_⟩
  unfold execOp
  rw [hop]
  simp only [hp, Instr.loadAt, Instr.sureAddr, Sem.run_bind, Sem.run_pure, Result.andThen_ok]
  simp only [Nat.add_zero] at h5
  rw [h5]
  rfl
 rcases bif_or hs with ⟨hrow, hs⟩ | ⟨hrow, hs⟩
 ·simp only [oI, pI] at hs
  obtain ⟨⟨rfl, rfl, rfl, rfl⟩, rfl⟩ := hs
  refine main _ ?_ rfl rfl rfl (hob ho.1)
  unfold loadV
  rw [hu]
  simp only [hrow, cond_true, hi, frc_eq, List.drop_zero]
  have e := Nat.eq_of_beq_eq_true hlen
  rw [List.take_of_length_le (by omega), hlen]
  rfl
 ·split at hs
  ·simp only [oI, pI] at hs
   obtain ⟨⟨rfl, rfl, rfl, rfl⟩, rfl⟩ := hs
   refine main _ ?_ rfl rfl rfl (hob ho.1)
   unfold loadV
   rw [hu]
   simp only [hrow, cond_false]
   rfl
  ·cases hs
def elW (h : Hp) : List Value → Option (List DV × List Prop)
 | [] => some ([], [])
 | v :: vs => match elW h vs with
  | some (ds, ob) => (match v with
   | .slice (some ⟨k, 0, none⟩) n _ => (match lk h k with
    | some ⟨.ow, cs⟩ => some (.sl n none (cs.map DV.fl) :: ds, ((∀ τ, renL τ cs = some cs) ∧ (n = 0 → cs = [])) :: ob)
    | some ⟨.sw es, _⟩ => some (.sl n none es :: ds, (n = 0 → es = []) :: ob)
    | _ => none)
   | .slice none 0 0 => some (.sl 0 none [] :: ds, ob)
   | .slice _ _ _ => none
   | v => bif noAd v then some (.fl v :: ds, ob) else none)
  | none => none
theorem elW_ok (hR : Rl W σ h w) : ∀ {cells : List Value} {ds : List DV} {ob : List Prop} {us : List Value}, elW h cells = some (ds, ob) → Alls ob → renL σ cells = some us → DRv W w [] ds us
 | [], ds, ob, us, h1, _, h3 => by
   simp only [elW, oI, pI] at h1
   obtain ⟨rfl, _⟩ := h1
   simp only [renL, oI] at h3
   subst h3
   simp [DRv]
 | v :: vs, ds, ob, us, h1, h2, h3 => by
   obtain ⟨u, us', hu, hus, rfl⟩ := renL_cons h3
   simp only [elW] at h1
   split at h1
   case h_2 => cases h1
   rename_i ds' ob' hrec
   split at h1
   ·rename_i k n c
    split at h1
    ·rename_i cs hl
     simp only [oI, pI] at h1
     obtain ⟨rfl, rfl⟩ := h1
     obtain ⟨⟨hf, hz⟩, ho⟩ := h2
     simp only [DRv]
     refine ⟨_, _, rfl, ?_, elW_ok hR hrec ho hus⟩
     obtain ⟨b, s, vs', hb, hv, hk⟩ := hR.row k _ hl
     simp only at hv
     rw [hf σ] at hv
     cases hv
     simp only [DR]
     rcases renV_slice hu with ⟨p, c', hb', _, rfl, _⟩ | ⟨hn, rfl, _, rfl⟩
     ·rw [hb] at hb'
      cases hb'
      refine .inr ⟨b, s + 0, c', rfl, ⟨renV_len hR.wf hu, fun k e => (by cases e)⟩, ?_⟩
      rcases hk.2 with hk | hk
      ·exact .inl (by rw [hk]; rfl)
      ·exact .inr (drs_of hf (.inl hk))
     ·obtain rfl := hz rfl
      exact .inl ⟨rfl, rfl, .inl trivial, _, rfl⟩
    ·rename_i es cs0 hl
     simp only [oI, pI] at h1
     obtain ⟨rfl, rfl⟩ := h1
     obtain ⟨hz, ho⟩ := h2
     simp only [DRv]
     refine ⟨_, _, rfl, ?_, elW_ok hR hrec ho hus⟩
     obtain ⟨b, s, vs', hb, hv, hk⟩ := hR.row k _ hl
     simp only [DR]
     rcases renV_slice hu with ⟨p, c', hb', _, rfl, _⟩ | ⟨hn, rfl, _, rfl⟩
     ·rw [hb] at hb'
      cases hb'
      exact .inr ⟨b, s + 0, c', rfl, ⟨renV_len hR.wf hu, fun k e => (by cases e)⟩, hk.2.2⟩
     ·obtain rfl := hz rfl
      exact .inl ⟨rfl, rfl, .inl trivial, _, rfl⟩
    ·cases h1
   ·simp only [oI, pI] at h1
    obtain ⟨rfl, rfl⟩ := h1
    simp only [DRv]
    refine ⟨_, _, rfl, ?_, elW_ok hR hrec h2 hus⟩
    simp only [renV, oI] at hu
    subst hu
    rw [DR]
    exact .inl ⟨rfl, rfl, .inl rfl, none, rfl⟩
   ·cases h1
   ·obtain ⟨hna, h1⟩ := bif_of h1
    simp only [oI, pI] at h1
    obtain ⟨rfl, rfl⟩ := h1
    simp only [DRv]
    refine ⟨_, _, rfl, ?_, elW_ok hR hrec h2 hus⟩
    rw [noAd_ren σ hna] at hu
    cases hu
    rw [DR]
    exact ⟨rfl, fun τ => noAd_ren τ hna⟩
def daW (P : Program) (ev : Operand → Option Value) (h : Hp) (nx : Nat) : Op → Option (Out × List Prop)
 | .call ⟨.builtin .append, args, ts⟩ => match ts.toList, evL ev args.toList with
  | [t, tx], some [s, x] => match P.underlying t with
   | some (.slice e) => match P.info? e with
    | some i => match srcZ P h i.size tx x, i.zero with
     | some (n, news, ob2), some z => match elW h news with
      | some (es, ob) => bif Nat.beq n 1 && (Nat.beq z.cells.toList.length i.size && Nat.ble 1 i.size) then (match s with
       | .slice none 0 0 => some ((.slice (some ⟨nx + 1, 0, none⟩) 1 (capBig + (nx + 1)), (nx + 1, ⟨.dw i.size z.cells.toList es, []⟩) :: h, nx + 2, []), (i.bytes ≤ 140737488355328) :: (ob ++ ob2))
       | .slice (some ⟨m, 0, none⟩) len cap => (match lk h m with
        | some ⟨.dw sz zz ds, _⟩ => bif Nat.beq sz i.size && beqZL zz z.cells.toList then some ((.slice (some ⟨nx + 1, 0, none⟩) (len + 1) (capBig + (nx + 1)), (nx + 1, ⟨.dw i.size z.cells.toList (ds ++ es), []⟩) :: delH h m, nx + 2, [m]), (cap = capBig + m ∧ ds.length = len * i.size) :: ((len + 1) * i.bytes ≤ 140737488355328 ∧ len + 1 ≤ 9223372036854775807) :: (ob ++ ob2)) else none
        | _ => none)
       | _ => none) else none
      | none => none
     | _, _ => none
    | none => none
   | _ => none
  | _, _ => none
 | _ => none
theorem Stp.dwNew (hR : Rl W σ h w) {nx : Nat} (hf : Fresh σ nx (nx + 2)) {es : List DV} {vs zs : List Value} {t : TypeId} {size c : Nat} {z : List Value} (hv : DRv W w [] es vs) (hl : (vs ++ zs).length = c * size) (hc : c ≤ maxLen) (hz : ∀ x ∈ zs, x ∈ z) :
  Stp W nx (nx + 2) σ h w ((σ.bindc nx (w.heap.size, 0) c).vwc (nx + 1) (w.heap.size, 0) c (some []) none) ((nx + 1, ⟨.dw size z es, []⟩) :: h) (w.alloc (.cells (vs ++ zs).toArray t)) := by
 have S := Stp.grow hR (hf.low (by omega)) (cs := []) (vs := []) rfl t (size := size) (c := c) (rest := vs ++ zs) (by simpa using hl) hc (z := vs ++ zs) (fun x hx => hx)
 simp only [List.nil_append] at S
 have hl0 : lk ((nx, (⟨.room size (vs ++ zs), []⟩ : Rw)) :: h) nx = some ⟨.room size (vs ++ zs), []⟩ := by rw [lk_cons, if_pos rfl]
 have hne : ∀ m r, lk h m = some r → m ≠ nx := fun m r hm e => by
  subst e
  obtain ⟨b', s', vs', hb', _⟩ := hR.row _ _ hm
  rw [(hf m (Nat.le_refl _) (by omega)).1] at hb'
  cases hb'
 have T := S.toDp (NX := nx + 1) (c := c) (F := []) (r' := ⟨.dw size z es, []⟩) (b := w.heap.size) (by omega) (by omega) (hf.low (by omega)) hl0 (fun e => by cases e) (by simp [Sg.bindc]) (fun e => by cases e) (fun q hq => by cases hq) ⟨w.heap.size, 0, [], by simp [Sg.vwc], rfl, by simp [sh, Sg.vwc], rfl, hR.ext.size, rfl, vs, t, zs, c, by simp [Sg.vwc], heap_alloc_new w _, hl, hc, hz, DRv.keep (fun k hk => by cases hk) _ _ hv⟩
 refine T.less fun m r hm => ?_
 rw [lk_cons] at hm ⊢
 split
 ·rename_i e; rw [if_pos e] at hm; exact hm
 ·rename_i e
  rw [if_neg e] at hm
  have := hne m r hm
  rw [lk_delH, if_neg (Ne.symm this), lk_cons, if_neg (Ne.symm this)]
  exact hm
theorem Stp.dwIn (hR : Rl W σ h w) {nx : Nat} (hf : Fresh σ nx (nx + 2)) {m b c size : Nat} {ds es : List DV} {vs z : List Value} (hl : lk h m = some ⟨.dw size z ds, []⟩) (hb : σ.b m = some (b, 0)) (hc : σ.c m = some c) (hv : DRv W w [] es vs) (hle : ds.length + vs.length ≤ c * size) :
  Stp W nx (nx + 2) σ h w (σ.vwc (nx + 1) (b, 0) c (some []) none) ((nx + 1, ⟨.dw size z (ds ++ es), []⟩) :: delH h m) (w.setCells b ds.length vs) := by
 have hown : (⟨.dw size z ds, []⟩ : Rw).own := fun e => by cases e
 obtain ⟨b', s', vs', hb', _, hf0, h1, h2, h3, us, t, rest, c', hc', hcell, hlen, hcm, hz, hds⟩ := hR.row m _ hl
 rw [hb] at hb'
 cases hb'
 rw [hc] at hc'
 cases hc'
 have hul := hds.len2
 have hsp : splice (us ++ rest) us.length vs = us ++ vs ++ rest.drop vs.length := splice_mid vs us rest (by
  simp only [List.length_append] at hlen
  omega)
 have hblk : (w.setCells b ds.length vs).heap[b]? = some (.cells (us ++ vs ++ rest.drop vs.length).toArray t (0, 0)) := by
  have := setCells_same vs w b ds.length _ t hcell
  simp only at this
  rw [← hul, hsp] at this
  rw [← hul]
  exact this
 have hoth : ∀ k, k ≠ b → (w.setCells b ds.length vs).heap[k]? = w.heap[k]? := fun k hk => setCells_other vs w b ds.length k hk
 have S := Stp.turnW hR hl hown hb (ext_setCells vs hR.ext h2 ds.length) (setCells_size vs w b ds.length) hoth .lent (fun e => by cases e) ⟨rfl, h2, t, us ++ vs ++ rest.drop vs.length, (0, 0), by simpa using hblk⟩ nx
 have hl0 : lk (setH h m ⟨.lent, []⟩) m = some ⟨.lent, []⟩ := by rw [lk_setH, if_pos rfl]
 have T := S.toDp (NX := nx + 1) (c := c) (F := []) (r' := ⟨.dw size z (ds ++ es), []⟩) (b := b) (by omega) (by omega) (hf.low (by omega)) hl0 (fun e => by cases e) hb (fun e => by cases e) (fun q hq => by cases hq) ⟨b, 0, [], by simp [Sg.vwc], rfl, by simp [sh, Sg.vwc], rfl, h2, rfl, us ++ vs, t, rest.drop vs.length, c, by simp [Sg.vwc], hblk, by
   simp only [List.length_append, List.length_drop] at hlen ⊢
   omega, hcm, (fun x hx => hz x (List.mem_of_mem_drop hx)), DRv.keep (fun k hk => by cases hk) _ _ (hds.app2 hv)⟩
 refine T.less fun k r hm => ?_
 rw [lk_cons] at hm ⊢
 split
 ·rename_i e; rw [if_pos e] at hm; exact hm
 ·rename_i e
  rw [if_neg e, lk_delH] at hm
  split at hm
  ·cases hm
  ·rename_i e2
   rw [lk_delH, if_neg e2, lk_setH, if_neg e2]
   exact hm
theorem daW_call {ev : Operand → Option Value} {nx : Nat} {op : Op} {x : Out × List Prop} (hs : daW P ev h nx op = some x) : ∃ args ts, op = .call ⟨.builtin .append, args, ts⟩ := by
 unfold daW at hs
 split at hs
 ·exact ⟨_, _, rfl⟩
 ·cases hs
theorem daW_tidy {ev : Operand → Option Value} {nx : Nat} {op : Op} {v : Value} {h' : Hp} {nx' : Nat} {d : List Nat} {ob : List Prop} (hs : daW P ev h nx op = some ((v, h', nx', d), ob)) : Tidy h nx h' nx' d := by
 unfold daW at hs
 split at hs
 case h_2 => cases hs
 split at hs
 case h_2 => cases hs
 split at hs
 case h_2 => cases hs
 split at hs
 case h_2 => cases hs
 split at hs
 case h_2 => cases hs
 split at hs
 case h_2 => cases hs
 obtain ⟨_, hs⟩ := bif_of hs
 split at hs
 ·simp only [oI, pI] at hs
  obtain ⟨⟨rfl, rfl, rfl, rfl⟩, _⟩ := hs
  exact ⟨by omega, fun n hn _ => by rw [lk_cons, if_neg (by omega)], fun hB n hn => by rw [lk_cons, if_neg (by omega)]; exact hB n (by omega)⟩
 ·split at hs
  ·obtain ⟨_, hs⟩ := bif_of hs
   simp only [oI, pI] at hs
   obtain ⟨⟨rfl, rfl, rfl, rfl⟩, _⟩ := hs
   refine ⟨by omega, fun n hn hd => ?_, fun hB n hn => ?_⟩
   ·rw [lk_cons, if_neg (by omega), lk_delH, if_neg (fun e => hd (by simp [e]))]
   ·rw [lk_cons, if_neg (by omega), lk_delH]
    split
    ·rfl
    ·exact hB n (by omega)
  ·cases hs
 ·cases hs
theorem daW_ok {a : Act} (hR : Rl W σ h w) {ev : Operand → Option Value} {nx nx' : Nat} (hf : Fresh σ nx nx') (H : Evs σ ev a) {o : Oper} {v : Value} {h' : Hp} {d : List Nat} {ob : List Prop} (hs : daW P ev h nx o.op = some ((v, h', nx', d), ob)) (ho : Alls ob) :
  ∃ σ' w' v', Stp W nx nx' σ h w σ' h' w' ∧ renV σ' v = some v' ∧ Ends P a o w v' w' := by
 obtain ⟨args, ts, hop⟩ := daW_call hs
 rw [hop] at hs
 simp only [daW] at hs
 split at hs
 case h_2 => cases hs
 rename_i t tx s x hte hev
 split at hs
 case h_2 => cases hs
 rename_i e hu
 split at hs
 case h_2 => cases hs
 rename_i i hi
 split at hs
 case h_2 => cases hs
 rename_i n news ob2 z hsrc hz
 split at hs
 case h_2 => cases hs
 rename_i es ob1 hel
 obtain ⟨hg, hs1⟩ := bif_of hs
 clear hs
 simp only [Bool.and_eq_true] at hg
 obtain ⟨g0, g1, g2⟩ := hg
 obtain rfl := Nat.eq_of_beq_eq_true g0
 have hzs : z.cells.size = i.size := by have := Nat.eq_of_beq_eq_true g1; simpa using this
 obtain ⟨s', l, hs', hl, e1⟩ := renL_cons (evL_ok H hev)
 obtain ⟨x', l', hx', hl', rfl⟩ := renL_cons hl
 simp only [renL, oI] at hl'
 subst hl'
 have hargs : args.map a.eval = #[s', x'] := by apply Array.toList_inj.1; rw [Array.toList_map, e1]
 have hts' : ts = #[t, tx] := by apply Array.toList_inj.1; simpa using hte
 have fin : ∀ {v' w'}, (Builtin.append_ #[t, tx] o.type #[s', x']).run P w = .ok v' w' → Ends P a o w v' w' := fun h3 => by
  refine .inl ?_
  unfold execOp
  simp only [hop, resolve, Sem.run_bind, Sem.run_pure, Result.andThen_ok, invoke, builtin, hargs, hts', h3]
 have ren_ : ∀ {τ : Sg} {b c len : Nat}, len ≤ c → renV (τ.vwc (nx + 1) (b, 0) c (some []) none) (.slice (some ⟨nx + 1, 0, none⟩) len (capBig + (nx + 1))) = some (.slice (some ⟨b, 0, none⟩) len c) := fun {τ b c len} hl =>
  renV_slice_mk (o := 0) (p := (b, 0)) (by simp [Sg.vwc]) (by unfold cpR; rw [if_neg (by omega), Nat.add_sub_cancel_left]; simp [Sg.vwc]) (by simp [Sg.vwc]) (.inr hl)
 have grow_ : ∀ {base : Option Addr} {sLen sCap : Nat} {olds : List Value} {ds : List DV}, s' = .slice base sLen sCap → Alls ob1 → Alls ob2 → (Builtin.firstCells i.size sLen (.slice base sLen sCap)).run P w.drew = .ok olds.toArray w.drew → DRv W w [] ds olds → olds.length = sLen * i.size → sCap < sLen + 1 → sLen + 1 ≤ 9223372036854775807 → (sLen + 1) * i.bytes ≤ 140737488355328 → Fresh σ nx (nx + 2) →
   ∃ σ' w' v', Stp W nx (nx + 2) σ h w σ' ((nx + 1, ⟨.dw i.size z.cells.toList (ds ++ es), []⟩) :: h) w' ∧ renV σ' (.slice (some ⟨nx + 1, 0, none⟩) (sLen + 1) (capBig + (nx + 1))) = some v' ∧ Ends P a o w v' w' := by
  intro base sLen sCap olds ds hse ho1 ho2 hold hds hol hg h63 hb hf
  obtain ⟨vn, hn, hsr⟩ := srcV_ok hR (srcZ_ok hsrc ho2) hx'
  have hE := elW_ok hR hel ho1 hn
  have hrun := run_append_grow_src (P := P) (ty := o.type) w t tx e i z hu hi hz base sLen sCap olds hold x' 1 vn hsr hg (by omega) (growslice_fits hg hb)
  have hge := grownCap_ge w (sLen + 1) sCap e
  have hle := grownCap_le_maxLen w (sLen + 1) sCap e (by unfold maxLen; omega)
  have hd := Stp.drew hR nx
  have hlen : (olds ++ vn ++ (Builtin.zeroCells z.cells (grownCap w (sLen + 1) sCap e - (sLen + 1))).toList).length = grownCap w (sLen + 1) sCap e * i.size := by
   rw [List.length_append, List.length_append, hol, hsr.newsLen, Array.length_toList, size_zeroCells, hzs, ← Nat.add_mul, ← Nat.add_mul]
   congr 1
   omega
  have S := Stp.dwNew hd.rl hf (t := e) (DRv.keep (w := w) (w1 := w.drew) (F := []) (fun _ _ => rfl) (ds ++ es) (olds ++ vn) (hds.app2 hE)) hlen hle (z := z.cells.toList) zero_mem
  refine ⟨_, _, _, hd.trans S (Nat.le_refl _) (by omega), ren_ (by omega), fin ?_⟩
  rw [hse, hrun]
  congr 2
  apply congrArg (fun q => Obj.cells q e (0, 0))
  apply Array.toList_inj.1
  simp
 split at hs1
 ·simp only [oI, pI] at hs1
  obtain ⟨⟨rfl, rfl, rfl, rfl⟩, rfl⟩ := hs1
  obtain ⟨k1, k23⟩ := ho
  obtain ⟨k2, k3⟩ := Alls_app.1 k23
  have := grow_ (base := none) (sLen := 0) (sCap := 0) (olds := []) (ds := []) (by simpa only [renV, oI] using hs'.symm) k2 k3 (run_firstCells_none w.drew i.size 0 0 0) (by simp [DRv]) (by simp) (by omega) (by omega) (by omega) hf
  simpa using this
 ·rename_i m len cap
  split at hs1
  case h_2 => cases hs1
  rename_i sz zz ds cs0 hlm
  obtain ⟨hg3, hs2⟩ := bif_of hs1
  clear hs1
  simp only [oI, pI] at hs2
  obtain ⟨⟨rfl, rfl, rfl, rfl⟩, rfl⟩ := hs2
  obtain ⟨⟨rfl, k0⟩, ⟨k1, k2⟩, k34⟩ := ho
  obtain ⟨k3, k4⟩ := Alls_app.1 k34
  simp only [Bool.and_eq_true] at hg3
  obtain rfl := Nat.eq_of_beq_eq_true hg3.1
  have gz := beqZL_ok hg3.2
  subst gz
  have hrow := hR.row m _ hlm
  obtain ⟨b, s0, vs0, hb, hv0, _, q1, q2, q3, us, tt, rest, c, hcm, hblk, hrl, hcl, hrz, hds⟩ := hrow
  subst q1
  subst q3
  have hcs0 : cs0 = [] := by
   have := renL_len hv0
   exact List.eq_nil_of_length_eq_zero this.symm
  subst hcs0
  have hul := hds.len2
  rcases renV_slice hs' with ⟨p, c', hb', hcp, hse, hnn⟩ | ⟨hnn, _, _, _⟩
  case inr => exact (hR.shr.1 m _ hlm (fun e => by cases e) hnn).elim
  rw [hb] at hb'
  cases hb'
  rw [cpR_big, hcm] at hcp
  cases hcp
  have hcell : ∀ j, j < (us ++ rest).length → w.cell? ⟨b, j, none⟩ = (us ++ rest)[j]? := fun j hj => by
   rw [cell_of_row w b j _ tt _ hblk]; simp
  by_cases hroom : len + 1 ≤ c
  ·obtain ⟨vn, hn, hsr⟩ := srcV_ok hR (srcZ_ok hsrc k4) hx'
   have hE := elW_ok hR hel k3 hn
   have hvn := hsr.newsLen
   have hfit : ds.length + vn.length ≤ c * i.size := by
    rw [k0, hvn, ← Nat.add_mul]; exact Nat.mul_le_mul_right _ hroom
   have hrun := run_append_room_src (P := P) (ty := o.type) w t tx e i hu hi b (0 + 0) len c x' 1 vn hsr hroom (fun j hj => by
    have hlt2 : len * i.size + j < (us ++ rest).length := by omega
    rw [show 0 + 0 + len * i.size + j = len * i.size + j by omega, hcell _ hlt2, List.getElem?_eq_getElem hlt2]; rfl) (fun j hj => frozen_of_row w b _ _ tt hblk)
   have S := Stp.dwIn hR hf hlm hb hcm hE hfit
   refine ⟨_, _, _, S, ren_ (τ := σ) (by omega), fin ?_⟩
   rw [hse, hrun, k0]
   simp
  ·have := grow_ (base := some ⟨b, 0 + 0, none⟩) (sLen := len) (sCap := c) (olds := us) (ds := ds) hse k3 k4 (run_firstCells_some (P := P) w.drew i.size len _ len c us (by omega) (fun j u hj => by
     rw [addr_add]
     show w.cell? ⟨b, 0 + 0 + j, none⟩ = some u
     rw [show 0 + 0 + j = j by omega]
     have hjl := (List.getElem?_eq_some_iff.1 hj).1
     rw [hcell j (by simp; omega), List.getElem?_append_left hjl]
     exact hj)) hds (by omega) (by omega) k2 k1 hf
   obtain ⟨σ', w', v', h1, h2, h3⟩ := this
   refine ⟨σ', w', v', h1.less (fun k r hk => ?_), h2, h3⟩
   rw [lk_cons] at hk ⊢
   split
   ·rename_i e5; rw [if_pos e5] at hk; exact hk
   ·rename_i e5
    rw [if_neg e5, lk_delH] at hk
    split at hk
    ·cases hk
    ·exact hk
 ·cases hs1
def stW (P : Program) (ev : Operand → Option Value) (h : Hp) (nx : Nat) : Op → Option (Out × List Prop)
 | .store t x y => match ev x, ev y with
  | some (.pointer (some ⟨n, o, none⟩)), some v => match lk h n, P.info? t with
   | some ⟨.dw sz z ds, _⟩, some i => match elW h v.cells.toList with
    | some (es, ob) => bif Nat.beq v.cells.toList.length i.size && all1 v.cells.toList then some ((undef, setH h n ⟨.dw sz z (setD ds o es), []⟩, nx, [n]), (o + v.cells.toList.length ≤ ds.length) :: ob) else none
    | none => none
   | _, _ => none
  | _, _ => none
 | _ => none
theorem stW_tidy {ev : Operand → Option Value} {nx : Nat} {op : Op} {v : Value} {h' : Hp} {nx' : Nat} {d : List Nat} {ob : List Prop} (hs : stW P ev h nx op = some ((v, h', nx', d), ob)) : Tidy h nx h' nx' d := by
 unfold stW at hs
 split at hs
 case h_2 => cases hs
 split at hs
 case h_2 => cases hs
 split at hs
 case h_2 => cases hs
 rename_i hl _
 split at hs
 case h_2 => cases hs
 obtain ⟨_, hs⟩ := bif_of hs
 simp only [oI, pI] at hs
 obtain ⟨⟨rfl, rfl, rfl, rfl⟩, _⟩ := hs
 exact tidy_set hl
theorem stW_ok {a : Act} (hR : Rl W σ h w) {ev : Operand → Option Value} {nx nx' : Nat} (hf : Fresh σ nx nx') (H : Evs σ ev a) {o : Oper} {v : Value} {h' : Hp} {d : List Nat} {ob : List Prop} (hs : stW P ev h nx o.op = some ((v, h', nx', d), ob)) (ho : Alls ob) :
  ∃ σ' w' v', Stp W nx nx' σ h w σ' h' w' ∧ renV σ' v = some v' ∧ Ends P a o w v' w' := by
 unfold stW at hs
 split at hs
 case h_2 => cases hs
 rename_i t x y hop
 split at hs
 case h_2 => cases hs
 rename_i n o0 v0 hx hy
 split at hs
 case h_2 => cases hs
 rename_i sz z ds cs0 i hl hi
 split at hs
 case h_2 => cases hs
 rename_i es ob1 hel
 obtain ⟨hg, hs⟩ := bif_of hs
 simp only [oI, pI] at hs
 obtain ⟨⟨rfl, rfl, rfl, rfl⟩, rfl⟩ := hs
 simp only [Bool.and_eq_true] at hg
 obtain ⟨g1, g2⟩ := hg
 obtain ⟨k1, k2⟩ := ho
 have hx' := H x _ hx
 have hyv := H y _ hy
 obtain ⟨p, hb, hxe, hnn⟩ := renV_ptr hx'
 have hown : (⟨.dw sz z ds, cs0⟩ : Rw).own := fun e => by cases e
 have hge := hR.ge hl hown hb
 obtain ⟨b, s⟩ := p
 obtain rfl : s = 0 := hge.2
 have hvc := (renV_cells hyv).1
 have hlen := renL_len hvc
 have h1 := all1_ok g2 hvc
 have hE := elW_ok hR hel k2 hvc
 obtain ⟨b', s', vs', hb', _, q0, q1, q2, q3, us, tt, rest, c, hc, hcell, hcl, hcm, hz, hds⟩ := hR.row n _ hl
 rw [hb] at hb'
 cases hb'
 have hul := hds.len2
 have hvl := hE.len2
 obtain ⟨vs, hvs⟩ : ∃ vs, (a.eval y).cells.toList = vs := ⟨_, rfl⟩
 rw [hvs] at hE hvl hlen h1
 have hsp : splice (us ++ rest) o0 vs = us.take o0 ++ (vs ++ us.drop (o0 + vs.length)) ++ rest := by
  have e1 : us ++ rest = us.take o0 ++ (us.drop o0 ++ rest) := by rw [← List.append_assoc, List.take_append_drop]
  have l1 : (us.take o0).length = o0 := by rw [List.length_take]; omega
  have e2 := splice_mid vs (us.take o0) (us.drop o0 ++ rest) (by rw [List.length_append, List.length_drop]; omega)
  rw [l1] at e2
  rw [e1, e2, List.drop_append_of_le_length (by rw [List.length_drop]; omega), List.drop_drop]
  simp only [List.append_assoc]
 have hblk : (w.setCells b o0 vs).heap[b]? = some (.cells (us.take o0 ++ (vs ++ us.drop (o0 + vs.length)) ++ rest).toArray tt (0, 0)) := by
  have := setCells_same vs w b o0 _ tt hcell
  simp only at this
  rw [hsp] at this
  exact this
 have hlen2 : (us.take o0 ++ (vs ++ us.drop (o0 + vs.length)) ++ rest).length = c * sz := by
  simp only [List.length_append, List.length_take, List.length_drop] at hcl ⊢
  omega
 have S := Stp.turnW hR hl hown hb (ext_setCells vs hR.ext q2 o0) (setCells_size vs w b o0) (fun k hk => setCells_other vs w b o0 k hk) (.dw sz z (setD ds o0 es)) (fun e => by cases e) ⟨q0, rfl, q2, rfl, us.take o0 ++ (vs ++ us.drop (o0 + vs.length)), tt, rest, c, hc, hblk, hlen2, hcm, hz, by
  refine DRv.keep (fun k hk => by cases hk) _ _ ((hds.take o0).app2 (hE.app2 ?_))
  rw [← hvl]
  exact hds.dropv _⟩ nx
 have hst : (storeCells ⟨b, 0 + o0, none⟩ vs).run P w = .ok () (w.setCells b o0 vs) := by
  have := run_storeCells_cells (P := P) b o0 vs 0 w (fun k hk => by
   have hlt2 : o0 + k < (us ++ rest).length := by rw [List.length_append]; omega
   rw [cell_of_row w b _ _ tt _ hcell]
   simp [List.getElem?_eq_getElem hlt2]) (fun k hk => frozen_of_row w b _ _ tt hcell) h1
  rw [Nat.zero_add]
  simpa using this
 refine ⟨_, _, undef, S, rfl, .inr ⟨?_, rfl⟩⟩
 have e2 := Nat.eq_of_beq_eq_true g1
 have e3 : (a.eval y).cells.size = i.size := by rw [← e2, ← hlen, ← hvs]; simp
 rw [← hvs] at hst
 unfold execOp
 simp only [hop, hxe, Instr.storeAt, Instr.sureAddr, Sem.run_bind, Sem.run_pure, Result.andThen_ok, storeVar, sizeOf, typeInfo, run_program, hi, e3]
 simp [Nat.zero_add] at hst ⊢
 rw [hst]
 simp only [← hvs]
 rfl
theorem DRs.dropW {F : List Nat} : ∀ (o : Nat) {ds : List DV} {b s : Nat}, DRs W w F b s ds → ds.drop o = [] ∨ DRs W w F b (s + o) (ds.drop o)
 | 0, ds, b, s, hd => .inr hd
 | o + 1, [], b, s, hd => .inl (by simp)
 | o + 1, d :: ds, b, s, hd => by
   simp only [DRs] at hd
   have := DRs.dropW o hd.2
   rw [show s + (o + 1) = s + 1 + o by omega]
   exact this
def slW (P : Program) (md : Nat) (ev : Operand → Option Value) (h : Hp) (nx : Nat) : Op → Option (Out × List Prop)
 | .slice t x lo hi mx => match P.underlying t, ev x, evO ev lo, evO ev hi, evO ev mx with
  | some (.slice e), some (.slice (some ⟨n, 0, none⟩) len cap), some l0, some u0, some none => match P.info? e, lk h n with
   | some i, some r => (match r.kd, l0, u0 with
    | .sw ds, some (.int _ l), none => bif Nat.beq md 53 then some ((.slice (some ⟨nx, 0, none⟩) (sbN len l.toNat) (capBig + nx), (nx, ⟨.sw (ds.drop (mlN l.toNat i.size)), []⟩) :: h, nx + 1, []), [cap = capBig + n ∧ 0 ≤ l ∧ l < (len : Int)])
     else some ((.slice (some ⟨nx, 0, none⟩) 0 (capBig + nx), (nx, ⟨.sw [], []⟩) :: h, nx + 1, []), [cap = capBig + n ∧ 0 < l ∧ l = (len : Int)])
    | .dw sz _ ds, none, some (.int _ u) => bif Nat.beq sz i.size && Nat.ble 1 sz then some ((.slice (some ⟨n, 0, none⟩) u.toNat cap, h, nx, []), [cap = capBig + n ∧ 0 ≤ u ∧ u ≤ (len : Int), len * sz ≤ ds.length]) else none
    | _, _, _ => none)
   | _, _ => none
  | _, _, _, _, _ => none
 | _ => none
theorem slW_tidy {md : Nat} {ev : Operand → Option Value} {nx : Nat} {op : Op} {v : Value} {h' : Hp} {nx' : Nat} {d : List Nat} {ob : List Prop} (hs : slW P md ev h nx op = some ((v, h', nx', d), ob)) : Tidy h nx h' nx' d := by
 unfold slW at hs
 split at hs
 case h_2 => cases hs
 split at hs
 case h_2 => cases hs
 split at hs
 case h_2 => cases hs
 split at hs
 ·rcases bif_or hs with ⟨_, hs⟩ | ⟨_, hs⟩ <;>
  ·simp only [oI, pI] at hs
   obtain ⟨⟨rfl, rfl, rfl, rfl⟩, _⟩ := hs
   exact tidy_new
 ·obtain ⟨_, hs⟩ := bif_of hs
  simp only [oI, pI] at hs
  obtain ⟨⟨rfl, rfl, rfl, rfl⟩, _⟩ := hs
  exact Tidy.refl _ _
 ·cases hs
theorem slW_ok {a : Act} (hR : Rl W σ h w) {md : Nat} {ev : Operand → Option Value} {nx nx' : Nat} (hf : Fresh σ nx nx') (H : Evs σ ev a) {o : Oper} {v : Value} {h' : Hp} {d : List Nat} {ob : List Prop} (hs : slW P md ev h nx o.op = some ((v, h', nx', d), ob)) (ho : Alls ob) :
  ∃ σ' w' v', Stp W nx nx' σ h w σ' h' w' ∧ renV σ' v = some v' ∧ Ends P a o w v' w' := by
 unfold slW at hs
 split at hs
 case h_2 => cases hs
 rename_i t x lo hi mx hop
 split at hs
 case h_2 => cases hs
 rename_i e n len cap l0 u0 hu hx hl0 hu0 hm0
 split at hs
 case h_2 => cases hs
 rename_i i r hi0 hl
 have hx' := H x _ hx
 have ol := evO_ok H hl0
 have oz := evO_ok H hu0
 have om := evO_ok H hm0
 have hel : P.elem t = e := by simp [Program.elem, hu]
 have run_ : ∀ {A : Addr} {c' l u : Nat}, a.eval x = .slice (some A) len c' → bdsV len c' l0 u0 none = some (l, u, c') → (execOp a.eval o).run P w = .ok (.value (.slice (if c' = l then some A else some (A.add (l * i.size))) (u - l) (c' - l))) w := by
  intro A c' l u hxe hb2
  obtain ⟨q1, q2, q3⟩ := bdsV_same (σ := σ) hb2 ol.1 ol.2 oz.1 oz.2 om.1 om.2
  have h1 : (Instr.sliceAt t (.slice (some A) len c') l0 u0 none).run P w = .ok (.slice (if c' = l then some A else some (A.add (l * i.size))) (u - l) (c' - l)) w := by
   rw [run_sliceAt_slice w t _ l0 u0 none (by rw [hel]; exact hu)]
   simp [Instr.slice, run_underlying hu, bdsV_run true hb2, sizeOf, typeInfo, hi0]
  unfold execOp
  rw [hop]
  simp only [q1, q2, q3, hxe, h1, Sem.run_bind, Result.andThen_ok, Sem.run_pure]
 have hxe : a.eval x = a.eval x := rfl
 split at hs
 ·rename_i ds kl l hkd
  have lo_ : ∀ {c' : Nat}, 0 ≤ l → l ≤ (len : Int) → bdsV len c' (some (.int kl l)) none none = some (l.toNat, len, c') := fun {c'} k1 k2 => by
   have e : bdV (some (Value.int kl l)) 0 len = some l.toNat := by
    have : (0 ≤ l ∧ l ≤ (len : Int)) := ⟨k1, k2⟩
    simp only [bdV, decide_eq_true this, cond_true]
   exact bdsV_eq (m := 0) rfl rfl e fun _ => rfl
  have base : cap = capBig + n → 0 < len → ∃ p c', σ.b n = some p ∧ σ.c n = some c' ∧ a.eval x = .slice (some ⟨p.1, p.2, none⟩) len c' ∧ len ≤ c' := fun hc hlen => by
   rcases renV_slice hx' with ⟨p, c', hb, hcp, hse, _⟩ | ⟨_, e0, _⟩
   ·rw [hc, cpR_big] at hcp
    refine ⟨p, c', hb, hcp, by simpa using hse, ?_⟩
    have hx2 := hx'
    rw [hse] at hx2
    exact renV_len hR.wf hx2
   ·omega
  have row_ : ∀ {p : Nat × Nat} {c' : Nat} (q : Nat × Nat) (k : Nat) (es : List DV), Fresh σ nx (nx + 1) → σ.b n = some p → (es = [] ∨ DRs W w [] q.1 q.2 es) → Stp W nx (nx + 1) σ h w (σ.vwc nx q k (some []) none) ((nx, ⟨.sw es, []⟩) :: h) w := fun q k es hf hb he =>
   Stp.viewc hR hf q k (some []) none (fun k hk => by cases hk) (.sw es) ⟨q.1, q.2, [], by simp [Sg.vwc], rfl, by simp [sh, Sg.vwc], rfl, he⟩
  obtain ⟨b0, s0, vs0, hb0, _, hk0⟩ := hR.row n _ hl
  rw [hkd] at hk0
  rcases bif_or hs with ⟨_, hs⟩ | ⟨_, hs⟩
  ·simp only [oI, pI] at hs
   obtain ⟨⟨rfl, rfl, rfl, rfl⟩, rfl⟩ := hs
   obtain ⟨⟨k0, k1, k2⟩, _⟩ := ho
   obtain ⟨p, c', hb, hc, hse, hlc⟩ := base k0 (by omega)
   rw [hb] at hb0
   cases hb0
   have hrun := run_ hse (lo_ (c' := c') k1 (by omega))
   rw [if_neg (by omega), addr_add] at hrun
   refine ⟨_, w, _, row_ (c' := c') (b0, s0 + l.toNat * i.size) (c' - l.toNat) _ hf hb ?_, ?_, .inl hrun⟩
   ·rw [mlN_eq]
    rcases hk0.2.2 with e | e
    ·exact .inl (by rw [e]; simp)
    ·exact e.dropW _
   ·have := renV_slice_mk (σ := σ.vwc nx (b0, s0 + l.toNat * i.size) (c' - l.toNat) (some []) none) (n := nx) (o := 0) (l := sbN len l.toNat) (c := capBig + nx) (c' := c' - l.toNat) (p := (b0, s0 + l.toNat * i.size)) (by simp [Sg.vwc]) (by rw [cpR_big]; simp [Sg.vwc]) (by simp [Sg.vwc]) (.inr (by rw [sbN_eq]; omega))
    rw [this, sbN_eq]
    rfl
  ·simp only [oI, pI] at hs
   obtain ⟨⟨rfl, rfl, rfl, rfl⟩, rfl⟩ := hs
   obtain ⟨⟨k0, k1, k2⟩, _⟩ := ho
   obtain ⟨p, c', hb, hc, hse, hlc⟩ := base k0 (by omega)
   have hrun := run_ hse (lo_ (c' := c') (by omega) (by omega))
   obtain ⟨q, hq⟩ : ∃ q : Nat × Nat, (if c' = l.toNat then some (⟨p.1, p.2, none⟩ : Addr) else some ((⟨p.1, p.2, none⟩ : Addr).add (l.toNat * i.size))) = some ⟨q.1, q.2, none⟩ := by
    split
    ·exact ⟨(p.1, p.2), rfl⟩
    ·rw [addr_add]; exact ⟨(p.1, p.2 + l.toNat * i.size), rfl⟩
   rw [hq] at hrun
   refine ⟨_, w, _, row_ (c' := c') q (c' - l.toNat) [] hf hb (.inl rfl), ?_, .inl hrun⟩
   have := renV_slice_mk (σ := σ.vwc nx q (c' - l.toNat) (some []) none) (n := nx) (o := 0) (l := 0) (c := capBig + nx) (c' := c' - l.toNat) (p := q) (by simp [Sg.vwc]) (by rw [cpR_big]; simp [Sg.vwc]) (by simp [Sg.vwc]) (.inr (Nat.zero_le _))
   rw [this, show len - l.toNat = 0 by omega]
   rfl
 ·rename_i sz z ds ku u hkd
  obtain ⟨hg, hs⟩ := bif_of hs
  simp only [oI, pI] at hs
  obtain ⟨⟨rfl, rfl, rfl, rfl⟩, rfl⟩ := hs
  simp only [Bool.and_eq_true] at hg
  obtain ⟨g1, g2⟩ := hg
  obtain rfl := Nat.eq_of_beq_eq_true g1
  have hpos : 0 < i.size := Nat.le_of_ble_eq_true g2
  obtain ⟨⟨k0, k1, k2⟩, k3, _⟩ := ho
  obtain ⟨b, s, vs, hb, hv, hk⟩ := hR.row n _ hl
  rw [hkd] at hk
  obtain ⟨q0, q1, q2, q3, us, tt, rest, c, hcm, hblk, hrl, hcl, hrz, hds⟩ := hk
  have hown : r.own := fun e => by rw [hkd] at e; cases e
  rcases renV_slice hx' with ⟨p, c', hb', hcp, hse, hnn⟩ | ⟨hnn, _, _, _⟩
  case inr => exact (hR.shr.1 n r hl hown hnn).elim
  rw [hb] at hb'
  cases hb'
  have hcp0 := hcp
  rw [k0, cpR_big, hcm] at hcp
  cases hcp
  have hul := hds.len2
  have hlc : len ≤ c := by
   rw [List.length_append, hul] at hrl
   exact Nat.le_of_mul_le_mul_right (by omega) hpos
  have hb2 : bdsV len c none (some (.int ku u)) none = some (0, u.toNat, c) := by
   have hk2 : 0 ≤ u ∧ u ≤ (c : Int) := ⟨k1, by omega⟩
   simp [bdsV, bdV, hk2]
  have hrun := run_ hse hb2
  have hA : (if c = 0 then some (⟨b, s + 0, none⟩ : Addr) else some ((⟨b, s + 0, none⟩ : Addr).add (0 * i.size))) = some ⟨b, s + 0, none⟩ := by
   split
   ·rfl
   ·rw [addr_add, Nat.zero_mul]
  rw [hA] at hrun
  refine ⟨σ, w, _, Stp.refl hR nx, ?_, .inl hrun⟩
  rw [renV_slice_mk (o := 0) (p := (b, s)) hb hcp0 hnn (.inr (by omega))]
  simp
 ·cases hs
def odK (P : Program) (md : Nat) (ev : Operand → Option Value) (h : Hp) (nx : Nat) (op : Op) : Option (Out × List Prop) := bif Nat.beq md 36 || Nat.beq md 37 then odLW P md ev h nx op else bif Nat.beq md 51 then daW P ev h nx op else bif Nat.beq md 52 then stW P ev h nx op else bif Nat.beq md 53 || (Nat.beq md 54 || Nat.beq md 55) then slW P md ev h nx op else odL P md ev h nx op
theorem odK_tidy {md : Nat} {ev : Operand → Option Value} {nx : Nat} {op : Op} {v : Value} {h' : Hp} {nx' : Nat} {d : List Nat} {ob : List Prop} (hs : odK P md ev h nx op = some ((v, h', nx', d), ob)) : Tidy h nx h' nx' d := by
 unfold odK at hs
 rcases bif_or hs with ⟨_, hs⟩ | ⟨_, hs⟩
 ·exact odLW_tidy hs
 rcases bif_or hs with ⟨_, hs⟩ | ⟨_, hs⟩
 ·exact daW_tidy hs
 rcases bif_or hs with ⟨_, hs⟩ | ⟨_, hs⟩
 ·exact stW_tidy hs
 rcases bif_or hs with ⟨_, hs⟩ | ⟨_, hs⟩
 ·exact slW_tidy hs
 ·exact odL_tidy hs
theorem odK_ok {a : Act} (hR : Rl W σ h w) {md : Nat} {ev : Operand → Option Value} {nx nx' : Nat} (hf : Fresh σ nx nx') (H : Evs σ ev a) {o : Oper} {v : Value} {h' : Hp} {d : List Nat} {ob : List Prop} (hs : odK P md ev h nx o.op = some ((v, h', nx', d), ob)) (ho : Alls ob) :
  ∃ σ' w' v', Stp W nx nx' σ h w σ' h' w' ∧ renV σ' v = some v' ∧ Ends P a o w v' w' := by
 unfold odK at hs
 rcases bif_or hs with ⟨_, hs⟩ | ⟨_, hs⟩
 ·exact odLW_ok hR hf H hs ho
 rcases bif_or hs with ⟨_, hs⟩ | ⟨_, hs⟩
 ·exact daW_ok hR hf H hs ho
 rcases bif_or hs with ⟨_, hs⟩ | ⟨_, hs⟩
 ·exact stW_ok hR hf H hs ho
 rcases bif_or hs with ⟨_, hs⟩ | ⟨_, hs⟩
 ·exact slW_ok hR hf H hs ho
 ·exact odL_ok hR hf H hs ho
end
end Go.Proofs.Ytmoflcoijmmpjaa
