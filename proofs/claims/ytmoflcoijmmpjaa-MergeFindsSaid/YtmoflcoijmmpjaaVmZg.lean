/-
  The told machine, part Zg: an element of a row of slices is written over (modes from 1000 on: 1000 + the name of the struct that has the list).
-/
import Derived.Test.YtmoflcoijmmpjaaVmZf
namespace Go.Proofs.Ytmoflcoijmmpjaa
set_option linter.unusedSimpArgs false
set_option linter.unusedVariables false
set_option linter.unusedSectionVars false
open Go Go.RowKit

section
variable {P : Program} {W : World} {lo hi : Nat} {σ σ' : Sg} {h h' h1 h2 : Hp} {w w' : World}
def subV (n m : Nat) : Value → Value
  | .slice (some ⟨k, o, s⟩) l c => bif Nat.beq k n then .slice (some ⟨m, o, s⟩) l (bif Nat.beq c (capBig + n) then capBig + m else c) else .slice (some ⟨k, o, s⟩) l c
  | v => v
theorem subV_ok {n m : Nat} (hb : σ.b m = σ.b n) (hc : σ.c m = σ.c n) (hn : σ.f n ≠ none) (hm : σ.f m ≠ none) {v u : Value} (h : renV σ v = some u) : renV σ (subV n m v) = some u := by
  unfold subV
  split
  · rename_i k o s l c
    cases hk : Nat.beq k n with
    | false => exact h
    | true =>
      obtain rfl := Nat.eq_of_beq_eq_true hk
      simp only [cond_true]
      simp only [renV, slR, adR, if_neg hn, if_neg hm] at h ⊢
      rw [hb]
      have : cpR σ (bif Nat.beq c (capBig + k) then capBig + m else c) = cpR σ c := by
        cases hcc : Nat.beq c (capBig + k) with
        | false => rfl
        | true =>
          obtain rfl := Nat.eq_of_beq_eq_true hcc
          simp only [cond_true]
          rw [cpR_big, cpR_big, hc]
      rw [this]
      exact h
  · exact h
theorem subL_ok {n m : Nat} (hb : σ.b m = σ.b n) (hc : σ.c m = σ.c n) (hn : σ.f n ≠ none) (hm : σ.f m ≠ none) : ∀ {l us : List Value}, renL σ l = some us → renL σ (l.map (subV n m)) = some us
  | [], us, h => h
  | v :: l, us, h => by
      obtain ⟨a, b, h1, h2, rfl⟩ := renL_cons h
      exact renL_mk (subV_ok hb hc hn hm h1) (subL_ok hb hc hn hm h2)
theorem Stp.resub (S : Stp W lo hi σ h w σ' h1 w') (hs : ∀ m s, lk h2 m = some s → ∃ s1, lk h1 m = some s1 ∧ s.kd = s1.kd ∧ ∀ vs, renL σ' s1.cs = some vs → renL σ' s.cs = some vs) : Stp W lo hi σ h w σ' h2 w' := by
  have ow : ∀ {s s1 : Rw}, s.kd = s1.kd → s.own → s1.own := fun e ho => by unfold Rw.own at ho ⊢; rw [← e]; exact ho
  refine ⟨S.le, S.only, ⟨⟨S.rl.ext, fun m s hm => ?_, fun n m r s p q hn hm ho hs' hp hq e => ?_⟩, S.rl.wf, fun n r hn ho => ?_, fun n r k hn hk => ?_⟩, S.size, S.fr, fun n r p hn ho hp => ?_, fun n r k hn hk => ?_⟩
  · obtain ⟨s1, e1, e2, e3⟩ := hs m s hm
    obtain ⟨b, c, vs, g1, g2, g3⟩ := S.rl.row m s1 e1
    exact ⟨b, c, vs, g1, e3 vs g2, by rw [e2]; exact g3⟩
  · obtain ⟨r1, a1, a2, _⟩ := hs n r hn
    obtain ⟨s1, b1, b2, _⟩ := hs m s hm
    exact S.rl.inj n m r1 s1 p q a1 b1 (ow a2 ho) (ow b2 hs') hp hq e
  · obtain ⟨r1, a1, a2, _⟩ := hs n r hn
    exact S.rl.shr.1 n r1 a1 (ow a2 ho)
  · obtain ⟨r1, a1, a2, _⟩ := hs n r hn
    obtain ⟨g1, g2⟩ := S.rl.shr.2 n r1 k a1 hk
    refine ⟨g1, fun m s q hm hs' hq => ?_⟩
    obtain ⟨s1, b1, b2, _⟩ := hs m s hm
    exact g2 m s1 q b1 (ow b2 hs') hq
  · obtain ⟨r1, a1, a2, _⟩ := hs n r hn
    exact S.src n r1 p a1 (ow a2 ho) hp
  · obtain ⟨r1, a1, a2, _⟩ := hs n r hn
    exact S.ssrc n r1 k a1 hk
theorem DRv.take {F : List Nat} : ∀ (o : Nat) {ds : List DV} {us : List Value}, DRv W w F ds us → DRv W w F (ds.take o) (us.take o)
  | 0, ds, us, h => by simp [DRv]
  | o + 1, [], us, h => by simp only [DRv] at h; subst h; simp [DRv]
  | o + 1, d :: ds, us, h => by
      simp only [DRv] at h
      obtain ⟨u, us', rfl, h1, h2⟩ := h
      simp only [List.take_succ_cons, DRv]
      exact ⟨u, us'.take o, rfl, h1, DRv.take o h2⟩
theorem DRv.dropv {F : List Nat} : ∀ (o : Nat) {ds : List DV} {us : List Value}, DRv W w F ds us → DRv W w F (ds.drop o) (us.drop o)
  | 0, ds, us, h => by simpa using h
  | o + 1, [], us, h => by simp only [DRv] at h; subst h; simp [DRv]
  | o + 1, d :: ds, us, h => by
      simp only [DRv] at h
      obtain ⟨u, us', rfl, h1, h2⟩ := h
      simpa using DRv.dropv o h2
def setD (ds : List DV) (o : Nat) (es : List DV) : List DV := ds.take o ++ (es ++ ds.drop (o + es.length))
theorem Stp.dpSet (hR : Rl W σ h w) {nx : Nat} (hf : Fresh σ nx (nx + 1)) {m b o size : Nat} {ds es : List DV} {vs z : List Value} (hl : lk h m = some ⟨.dp size z ds, []⟩) (hb : σ.b m = some (b, 0)) (hv : DRv W w (shAll σ h) es vs) (hle : o + vs.length ≤ ds.length) :
    ∃ c, σ.c m = some c ∧ Stp W nx (nx + 1) σ h w (σ.vwc nx (b, 0) c (some (shAll σ h)) none) ((nx, ⟨.dp size z (setD ds o es), []⟩) :: delH h m) (w.setCells b o vs) := by
  have hown : (⟨.dp size z ds, []⟩ : Rw).own := fun e => by cases e
  obtain ⟨b', s', vs', hb', _, h1, h2, h3, us, t, rest, c, hc, hcell, hlen, hcm, hz, hds⟩ := hR.row m _ hl
  rw [hb] at hb'
  cases hb'
  refine ⟨c, hc, ?_⟩
  have hul := hds.len2
  have hvl := hv.len2
  have hsp : splice (us ++ rest) o vs = us.take o ++ (vs ++ us.drop (o + vs.length)) ++ rest := by
    have e1 : us ++ rest = us.take o ++ (us.drop o ++ rest) := by rw [← List.append_assoc, List.take_append_drop]
    have l1 : (us.take o).length = o := by rw [List.length_take]; omega
    have e2 := splice_mid vs (us.take o) (us.drop o ++ rest) (by rw [List.length_append, List.length_drop]; omega)
    rw [l1] at e2
    rw [e1, e2, List.drop_append_of_le_length (by rw [List.length_drop]; omega), List.drop_drop]
    simp only [List.append_assoc]
  have hblk : (w.setCells b o vs).heap[b]? = some (.cells (us.take o ++ (vs ++ us.drop (o + vs.length)) ++ rest).toArray t (0, 0)) := by
    have := setCells_same vs w b o _ t hcell
    simp only at this
    rw [hsp] at this
    exact this
  have hoth : ∀ k, k ≠ b → (w.setCells b o vs).heap[k]? = w.heap[k]? := fun k hk => setCells_other vs w b o k hk
  have S := Stp.turnW hR hl hown hb (ext_setCells vs hR.ext h2 o) (setCells_size vs w b o) hoth .lent (fun e => by cases e) ⟨rfl, h2, t, us.take o ++ (vs ++ us.drop (o + vs.length)) ++ rest, (0, 0), by simpa using hblk⟩ nx
  have hS : ∀ q, q ∈ shAll σ h → q ≠ b := fun q hq e => by
    obtain ⟨m0, s0, g1, g2⟩ := shAll_mem hq
    exact (hR.shr.2 m0 s0 q g1 g2).2 m _ (b, 0) hl hown hb e.symm
  have hw : ∀ k, k ∈ shAll σ h → (w.setCells b o vs).heap[k]? = w.heap[k]? := fun k hk => hoth k (hS k hk)
  have hl0 : lk (setH h m ⟨.lent, []⟩) m = some ⟨.lent, []⟩ := by rw [lk_setH, if_pos rfl]
  have hlen2 : (us.take o ++ (vs ++ us.drop (o + vs.length)) ++ rest).length = c * size := by
    simp only [List.length_append, List.length_take, List.length_drop] at hlen ⊢
    omega
  have T := S.toDp (NX := nx) (c := c) (F := shAll σ h) (r' := ⟨.dp size z (setD ds o es), []⟩) (b := b) (Nat.le_refl _) (Nat.le_refl _) hf hl0 (fun e => by cases e) hb (fun e => by cases e) (fun q hq => by
    obtain ⟨m0, s0, g1, g2⟩ := shAll_mem hq
    by_cases e : m0 = m
    · subst e; exact ⟨m0, _, hl0, g2⟩
    · exact ⟨m0, s0, by rw [lk_setH, if_neg (Ne.symm e)]; exact g1, g2⟩) ⟨b, 0, [], by simp [Sg.vwc], rfl, rfl, h2, rfl, us.take o ++ (vs ++ us.drop (o + vs.length)), t, rest, c, by simp [Sg.vwc], hblk, hlen2, hcm, hz, by
      rw [show sh (σ.vwc nx (b, 0) c (some (shAll σ h)) none) nx = shAll σ h by simp [sh, Sg.vwc]]
      have hds2 := hds.more fun k hk => shAll_of hl hk
      refine DRv.keep hw _ _ ((hds2.take o).app2 (hv.app2 ?_))
      rw [← hvl]
      exact hds2.dropv _⟩
  refine T.less fun k r hm => ?_
  rw [lk_cons] at hm ⊢
  split
  · rename_i e; rw [if_pos e] at hm; exact hm
  · rename_i e
    rw [if_neg e, lk_delH] at hm
    split at hm
    · cases hm
    · rename_i e2
      rw [lk_delH, if_neg e2, lk_setH, if_neg e2]
      exact hm
def stD (P : Program) (t0 : Nat) (ev : Operand → Option Value) (h : Hp) (nx : Nat) : Op → Option (Out × List Prop)
  | .store t x y => match ev x, ev y with
    | some (.pointer (some ⟨n, o, none⟩)), some v => match lk h n, P.info? t, lk h t0 with
      | some ⟨.dp sz z ds, _⟩, some i, some ⟨.shut, cs⟩ => match elD h v.cells.toList with
        | some (es, ob) => bif Nat.beq v.cells.toList.length i.size && (all1 v.cells.toList && !(Nat.beq t0 n)) then some ((undef, (nx, ⟨.dp sz z (setD ds o es), []⟩) :: setH (delH h n) t0 ⟨.shut, cs.map (subV n nx)⟩, nx + 1, [n, t0]), (o + v.cells.toList.length ≤ ds.length) :: ob) else none
        | none => none
      | _, _, _ => none
    | _, _ => none
  | _ => none
theorem stD_tidy {t0 : Nat} {ev : Operand → Option Value} {nx : Nat} {op : Op} {v : Value} {h' : Hp} {nx' : Nat} {d : List Nat} {ob : List Prop} (hs : stD P t0 ev h nx op = some ((v, h', nx', d), ob)) : Tidy h nx h' nx' d := by
  unfold stD at hs
  split at hs
  case h_2 => cases hs
  split at hs
  case h_2 => cases hs
  split at hs
  case h_2 => cases hs
  rename_i n o v0 _ _ _ _ _ sz z ds cs0 i cs hl hi hl0
  split at hs
  case h_2 => cases hs
  obtain ⟨hg, hs⟩ := bif_of hs
  simp only [Option.some.injEq, Prod.mk.injEq] at hs
  obtain ⟨⟨rfl, rfl, rfl, rfl⟩, _⟩ := hs
  simp only [Bool.and_eq_true, Bool.not_eq_true'] at hg
  have hlt : t0 ≠ n := fun e => by subst e; rw [nbeq_rfl] at hg; cases hg.2.2
  refine ⟨by omega, fun k hk hd => ?_, fun hB k hk => ?_⟩
  · have h1 : k ≠ n := fun e => hd (by simp [e])
    have h2 : k ≠ t0 := fun e => hd (by simp [e])
    rw [lk_cons, if_neg (by omega), lk_setH, if_neg (Ne.symm h2), lk_delH, if_neg (Ne.symm h1)]
  · have h2 : t0 ≠ k := fun e => by subst e; rw [hB t0 (by omega)] at hl0; cases hl0
    rw [lk_cons, if_neg (by omega), lk_setH, if_neg h2, lk_delH]
    split
    · rfl
    · exact hB k (by omega)
theorem stD_ok {a : Act} (hR : Rl W σ h w) {t0 : Nat} {ev : Operand → Option Value} {nx nx' : Nat} (hf : Fresh σ nx nx') (H : Evs σ ev a) {o : Oper} {v : Value} {h' : Hp} {d : List Nat} {ob : List Prop} (hs : stD P t0 ev h nx o.op = some ((v, h', nx', d), ob)) (ho : Alls ob) :
    ∃ σ' w' v', Stp W nx nx' σ h w σ' h' w' ∧ renV σ' v = some v' ∧ Ends P a o w v' w' := by
  unfold stD at hs
  split at hs
  case h_2 => cases hs
  rename_i t x y hop
  split at hs
  case h_2 => cases hs
  rename_i n o0 v0 hx hy
  split at hs
  case h_2 => cases hs
  rename_i sz z ds cs0 i cs hl hi hl0
  split at hs
  case h_2 => cases hs
  rename_i es ob1 hel
  obtain ⟨hg, hs⟩ := bif_of hs
  simp only [Option.some.injEq, Prod.mk.injEq] at hs
  obtain ⟨⟨rfl, rfl, rfl, rfl⟩, rfl⟩ := hs
  simp only [Bool.and_eq_true, Bool.not_eq_true'] at hg
  obtain ⟨g1, g2, g3⟩ := hg
  obtain ⟨k1, k2⟩ := ho
  have hlt : t0 ≠ n := fun e => by subst e; rw [nbeq_rfl] at g3; cases g3
  have hcs0 : cs0 = [] := by
    obtain ⟨b, s, vs, hb, hv, hk⟩ := hR.row n _ hl
    obtain ⟨_, _, rfl, _⟩ := hk
    have := renL_len hv
    exact List.eq_nil_of_length_eq_zero this.symm
  subst hcs0
  obtain ⟨x', hx'⟩ : ∃ x', renV σ (.pointer (some ⟨n, o0, none⟩)) = some x' := ⟨_, H x _ hx⟩
  have hxe : a.eval x = x' := by have := H x _ hx; rw [hx'] at this; exact (Option.some.inj this).symm
  have hyv := H y _ hy
  obtain ⟨p, hb, rfl, hnn⟩ := renV_ptr hx'
  have hge := hR.ge hl (fun e => by cases e) hb
  obtain ⟨b, s⟩ := p
  obtain rfl : s = 0 := hge.2
  have hvc := (renV_cells hyv).1
  have hlen := renL_len hvc
  have h1 := all1_ok g2 hvc
  have hE := elD_ok hR hel k2 hvc
  have hEl := hE.len2
  obtain ⟨c, hcc, S⟩ := Stp.dpSet (nx := nx) hR hf hl hb (o := o0) hE (by omega)
  obtain ⟨b', s', vs', hb', _, q1, q2, q3, us, tt, rest, c', hc', hcell, hcl, hcm, hz, hds⟩ := hR.row n _ hl
  rw [hb] at hb'
  cases hb'
  have hul := hds.len2
  have hst : (storeCells ⟨b, 0 + o0, none⟩ (a.eval y).cells.toList).run P w = .ok () (w.setCells b o0 (a.eval y).cells.toList) := by
    have := run_storeCells_cells (P := P) b o0 (a.eval y).cells.toList 0 w (fun k hk => by
      have hlt2 : o0 + k < (us ++ rest).length := by rw [List.length_append]; omega
      rw [cell_of_row w b _ _ tt _ hcell]
      simp [List.getElem?_eq_getElem hlt2]) (fun k hk => frozen_of_row w b _ _ tt hcell) h1
    rw [Nat.zero_add]
    simpa using this
  refine ⟨_, _, undef, (S.resub (h2 := (nx, ⟨.dp sz z (setD ds o0 es), []⟩) :: setH (delH h n) t0 ⟨.shut, cs.map (subV n nx)⟩) fun m s hm => ?_), rfl, .inr ⟨?_, rfl⟩⟩
  · rw [lk_cons] at hm
    split at hm
    · rename_i e
      cases hm
      exact ⟨_, by rw [lk_cons, if_pos e], rfl, fun vs hv => hv⟩
    · rename_i e
      rw [lk_setH] at hm
      split at hm
      · rename_i e2
        cases hm
        subst e2
        refine ⟨⟨.shut, cs⟩, by rw [lk_cons, if_neg e, lk_delH, if_neg (Ne.symm hlt)]; exact hl0, rfl, fun vs hv => ?_⟩
        have hnx : n ≠ nx := fun e2 => by
          subst e2
          rw [(hf n (Nat.le_refl _) (by omega)).1] at hb
          cases hb
        refine subL_ok ?_ ?_ ?_ ?_ hv
        · simp only [Sg.vwc, if_true]; rw [if_neg hnx]; exact hb.symm
        · simp only [Sg.vwc, if_true]; rw [if_neg hnx]; exact hcc.symm
        · simp only [Sg.vwc]; rw [if_neg hnx]; exact hnn
        · simp [Sg.vwc]
      · exact ⟨s, by rw [lk_cons, if_neg e]; exact hm, rfl, fun vs hv => hv⟩
  · have e2 := Nat.eq_of_beq_eq_true g1
    simp only [Array.length_toList] at e2 hlen
    have e3 : (a.eval y).cells.size = i.size := by rw [hlen, e2]
    unfold execOp
    simp only [hop, hxe, Instr.storeAt, Instr.sureAddr, Sem.run_bind, Sem.run_pure, Result.andThen_ok, storeVar, sizeOf, typeInfo, run_program, hi, e3]
    simp [Nat.zero_add] at hst ⊢
    rw [hst]
    rfl
def odT (P : Program) (md : Nat) (ev : Operand → Option Value) (h : Hp) (nx : Nat) (op : Op) : Option (Out × List Prop) := bif Nat.ble 1000 md then stD P (md - 1000) ev h nx op else odW P md ev h nx op
theorem odT_tidy {md : Nat} {ev : Operand → Option Value} {nx : Nat} {op : Op} {v : Value} {h' : Hp} {nx' : Nat} {d : List Nat} {ob : List Prop} (hs : odT P md ev h nx op = some ((v, h', nx', d), ob)) : Tidy h nx h' nx' d := by
  unfold odT at hs
  rcases bif_or hs with ⟨_, hs⟩ | ⟨_, hs⟩
  · exact stD_tidy hs
  · exact odW_tidy hs
theorem odT_ok {a : Act} (hR : Rl W σ h w) {md : Nat} {ev : Operand → Option Value} {nx nx' : Nat} (hf : Fresh σ nx nx') (H : Evs σ ev a) {o : Oper} {v : Value} {h' : Hp} {d : List Nat} {ob : List Prop} (hs : odT P md ev h nx o.op = some ((v, h', nx', d), ob)) (ho : Alls ob) :
    ∃ σ' w' v', Stp W nx nx' σ h w σ' h' w' ∧ renV σ' v = some v' ∧ Ends P a o w v' w' := by
  unfold odT at hs
  rcases bif_or hs with ⟨_, hs⟩ | ⟨_, hs⟩
  · exact stD_ok hR hf H hs ho
  · exact odW_ok hR hf H hs ho
end
end Go.Proofs.Ytmoflcoijmmpjaa
