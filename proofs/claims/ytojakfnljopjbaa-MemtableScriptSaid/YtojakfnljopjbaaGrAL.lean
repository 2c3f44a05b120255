/-
  The told machine, part Zg: an element of a row of slices is written over (modes from 1000 on: 1000 + the name of the struct that has the list).
-/
import Derived.Test.YtojakfnljopjbaaGrAK
namespace Go.Proofs.Ytojakfnljopjbaa
set_option linter.unusedSimpArgs false
set_option linter.unusedVariables false
set_option linter.unusedSectionVars false
open Go Go.RowKit

section
variable {P : Program} {W : World} {lo hi : Nat} {σ σ' : Sg} {h h' h1 h2 : Hp} {w w' : World}
def subV (n m : Nat) : Value → Value
 | .slice (some ⟨k, o, s⟩) l c => bif Nat.beq k n then .slice (some ⟨m, o, s⟩) l (bif Nat.beq c (B0 + n) then B0 + m else c) else .slice (some ⟨k, o, s⟩) l c
 | v => v
theorem subV_ok {n m : Nat} (hb : σ.b m = σ.b n) (hc : σ.c m = σ.c n) (hn : σ.f n ≠ none) (hm : σ.f m ≠ none) {v u : Value} (h : renV σ v = some u) : renV σ (subV n m v) = some u := by
 unfold subV
 split
 ·rename_i k o s l c
  cases hk : Nat.beq k n with
  | false => exact h
  | true =>
   obtain rfl := Nat.eq_of_beq_eq_true hk
   simp only [cond_true]
   simp only [renV, slR, adR, if_neg hn, if_neg hm] at h ⊢
   rw [hb]
   have : cpR σ (bif Nat.beq c (B0 + k) then B0 + m else c) = cpR σ c := by
    cases hcc : Nat.beq c (B0 + k) with
    | false => rfl
    | true =>
     obtain rfl := Nat.eq_of_beq_eq_true hcc
     simp only [cond_true]
     rw [Bq, Bq, hc]
   rw [this]
   exact h
 ·exact h
theorem subL_ok {n m : Nat} (hb : σ.b m = σ.b n) (hc : σ.c m = σ.c n) (hn : σ.f n ≠ none) (hm : σ.f m ≠ none) : ∀ {l us : List Value}, renL σ l = some us → renL σ (l.map (subV n m)) = some us
 | [], us, h => h
 | v :: l, us, h => by
   obtain ⟨a, b, h1, h2, rfl⟩ := B9 h
   exact Bi (subV_ok hb hc hn hm h1) (subL_ok hb hc hn hm h2)
theorem Stp.resub (S : Stp W lo hi σ h w σ' h1 w') (hs : ∀ m s, lk h2 m = some s → ∃ s1, lk h1 m = some s1 ∧ s.kd = s1.kd ∧ ∀ vs, renL σ' s1.cs = some vs → renL σ' s.cs = some vs) : Stp W lo hi σ h w σ' h2 w' := by
 have ow : ∀ {s s1 : Rw}, s.kd = s1.kd → s.own → s1.own := fun e ho => by unfold Rw.own at ho ⊢; rw [← e]; exact ho
 refine ⟨S.le, S.only, ⟨⟨S.rl.ext, fun m s hm => ?_, fun n m r s p q hn hm ho hs' hp hq e => ?_⟩, S.rl.wf, fun n r hn ho => ?_, fun n r k hn hk => ?_, fun n r k hn hk => ?_⟩, S.size, S.fr, fun n r p hn ho hp => ?_, fun n r k hn hk => ?_, fun n r k hn hk => ?_⟩
 ·obtain ⟨s1, e1, e2, e3⟩ := hs m s hm
  obtain ⟨b, c, vs, g1, g2, g3⟩ := S.rl.row m s1 e1
  exact ⟨b, c, vs, g1, e3 vs g2, by rw [e2]; exact g3⟩
 ·obtain ⟨r1, a1, a2, _⟩ := hs n r hn
  obtain ⟨s1, b1, b2, _⟩ := hs m s hm
  exact S.rl.inj n m r1 s1 p q a1 b1 (ow a2 ho) (ow b2 hs') hp hq e
 ·obtain ⟨r1, a1, a2, _⟩ := hs n r hn
  exact S.rl.shr.1 n r1 a1 (ow a2 ho)
 ·obtain ⟨r1, a1, a2, _⟩ := hs n r hn
  obtain ⟨g1, g2⟩ := S.rl.shr.2.1 n r1 k a1 hk
  refine ⟨g1, fun m s q hm hs' hq => ?_⟩
  obtain ⟨s1, b1, b2, _⟩ := hs m s hm
  exact g2 m s1 q b1 (ow b2 hs') hq
 ·obtain ⟨r1, a1, a2, _⟩ := hs n r hn
  obtain ⟨g1, g2, g3⟩ := S.rl.shr.2.2 n r1 k a1 hk
  refine ⟨g1, fun m s q hm hs' hq => ?_, fun m s hm => ?_⟩
  ·obtain ⟨s1, b1, b2, _⟩ := hs m s hm
   exact g2 m s1 q b1 (ow b2 hs') hq
  ·obtain ⟨s1, b1, b2, _⟩ := hs m s hm
   exact g3 m s1 b1
 ·obtain ⟨r1, a1, a2, _⟩ := hs n r hn
  exact S.src n r1 p a1 (ow a2 ho) hp
 ·obtain ⟨r1, a1, a2, _⟩ := hs n r hn
  exact S.ssrc n r1 k a1 hk
 ·obtain ⟨r1, a1, a2, _⟩ := hs n r hn
  exact S.xsrc n r1 k a1 hk
theorem DRv.take {F : List Nat} : ∀ (o : Nat) {ds : List DV} {us : List Value}, DRv W w F ds us → DRv W w F (ds.take o) (us.take o)
 | 0, ds, us, h => by simp [DRv]
 | o + 1, [], us, h => by simp only [DRv] at h; subst h; simp [DRv]
 | o + 1, d :: ds, us, h => by
   simp only [DRv] at h
   obtain ⟨u, us', rfl, h1, h2⟩ := h
   simp only [List.take_succ_cons, DRv]
   exact ⟨u, us'.take o, rfl, h1, DRv.take o h2⟩
theorem DRv.dropv {F : List Nat} : ∀ (o : Nat) {ds : List DV} {us : List Value}, DRv W w F ds us → DRv W w F (ds.drop o) (us.drop o)
 | 0, ds, us, h => by simpa using h
 | o + 1, [], us, h => by simp only [DRv] at h; subst h; simp [DRv]
 | o + 1, d :: ds, us, h => by
   simp only [DRv] at h
   obtain ⟨u, us', rfl, h1, h2⟩ := h
   simpa using DRv.dropv o h2
def setD (ds : List DV) (o : Nat) (es : List DV) : List DV := ds.take o ++ (es ++ ds.drop (o + es.length))
theorem Stp.dpSet (hR : Rl W σ h w) {nx : Nat} (hf : Fresh σ nx (nx + 1)) {m b o size : Nat} {ds es : List DV} {vs z : List Value} (hl : lk h m = some ⟨.dp size z ds, []⟩) (hb : σ.b m = some (b, 0)) (hv : DRv W w (Bs σ h) es vs) (hle : o + vs.length ≤ ds.length) :
  ∃ c, σ.c m = some c ∧ Stp W nx (nx + 1) σ h w (σ.vwc nx (b, 0) c (some (Bs σ h)) none) ((nx, ⟨.dp size z (setD ds o es), []⟩) :: delH h m) (w.setCells b o vs) := by
 have hown : (⟨.dp size z ds, []⟩ : Rw).own := fun e => by cases e
 obtain ⟨b', s', vs', hb', _, h1, h2, h3, us, t, rest, c, hc, hcell, hlen, hcm, hz, hds⟩ := hR.row m _ hl
 rw [hb] at hb'
 cases hb'
 refine ⟨c, hc, ?_⟩
 have hul := hds.len2
 have hvl := hv.len2
 have hsp : Bg (us ++ rest) o vs = us.take o ++ (vs ++ us.drop (o + vs.length)) ++ rest := by
  have e1 : us ++ rest = us.take o ++ (us.drop o ++ rest) := by rw [← List.append_assoc, List.take_append_drop]
  have l1 : (us.take o).length = o := by rw [List.length_take]; omega
  have e2 := D7 vs (us.take o) (us.drop o ++ rest) (by rw [List.length_append, List.length_drop]; omega)
  rw [l1] at e2
  rw [e1, e2, List.drop_append_of_le_length (by rw [List.length_drop]; omega), List.drop_drop]
  simp only [List.append_assoc]
 have hblk : (w.setCells b o vs).heap[b]? = some (.cells (us.take o ++ (vs ++ us.drop (o + vs.length)) ++ rest).toArray t (0, 0)) := by
  have := Cd vs w b o _ t hcell
  simp only at this
  rw [hsp] at this
  exact this
 have hoth : ∀ k, k ≠ b → (w.setCells b o vs).heap[k]? = w.heap[k]? := fun k hk => Bu vs w b o k hk
 have S := Stp.turnW hR hl hown hb (Cl vs hR.ext h2 o) (Cc vs w b o) hoth .lent (fun e => by cases e) ⟨rfl, h2, t, us.take o ++ (vs ++ us.drop (o + vs.length)) ++ rest, (0, 0), by simpa using hblk⟩ nx
 have hS : ∀ q, q ∈ Bs σ h → q ≠ b := fun q hq e => by
  obtain ⟨m0, s0, g1, g2⟩ := Ci hq
  exact (hR.shr.2.1 m0 s0 q g1 g2).2 m _ (b, 0) hl hown hb e.symm
 have hw : ∀ k, k ∈ Bs σ h → (w.setCells b o vs).heap[k]? = w.heap[k]? := fun k hk => hoth k (hS k hk)
 have hl0 : lk (setH h m ⟨.lent, []⟩) m = some ⟨.lent, []⟩ := by rw [Bo, if_pos rfl]
 have hlen2 : (us.take o ++ (vs ++ us.drop (o + vs.length)) ++ rest).length = c * size := by
  simp only [List.length_append, List.length_take, List.length_drop] at hlen ⊢
  omega
 have T := S.toDp (NX := nx) (c := c) (F := Bs σ h) (r' := ⟨.dp size z (setD ds o es), []⟩) (b := b) (Nat.le_refl _) (Nat.le_refl _) hf hl0 (fun e => by cases e) hb (fun e => by cases e) (fun q hq => by
  obtain ⟨m0, s0, g1, g2⟩ := Ci hq
  by_cases e : m0 = m
  ·subst e; exact ⟨m0, _, hl0, g2⟩
  ·exact ⟨m0, s0, by rw [Bo, if_neg (Ne.symm e)]; exact g1, g2⟩) ⟨b, 0, [], by simp [Sg.vwc], rfl, rfl, h2, rfl, us.take o ++ (vs ++ us.drop (o + vs.length)), t, rest, c, by simp [Sg.vwc], hblk, hlen2, hcm, hz, by
   rw [show sh (σ.vwc nx (b, 0) c (some (Bs σ h)) none) nx = Bs σ h by simp [sh, Sg.vwc]]
   have hds2 := hds.more fun k hk => D8 hl hk
   refine DRv.keep hw _ _ ((hds2.take o).app2 (hv.app2 ?_))
   rw [← hvl]
   exact hds2.dropv _⟩
 refine T.less fun k r hm => ?_
 rw [B3] at hm ⊢
 split
 ·rename_i e; rw [if_pos e] at hm; exact hm
 ·rename_i e
  rw [if_neg e, Bf] at hm
  split at hm
  ·cases hm
  ·rename_i e2
   rw [Bf, if_neg e2, Bo, if_neg e2]
   exact hm
def stD (P : Program) (t0 : Nat) (ev : Operand → Option Value) (h : Hp) (nx : Nat) : Op → Option (Out × List Prop)
 | .store t x y => match ev x, ev y with
  | some (.pointer (some ⟨n, o, none⟩)), some v => match lk h n, P.info? t, lk h t0 with
   | some ⟨.dp sz z ds, _⟩, some i, some ⟨.shut, cs⟩ => match elD h v.cells.toList with
    | some (es, ob) => bif Nat.beq v.cells.toList.length i.size && (all1 v.cells.toList && !(Nat.beq t0 n)) then some ((undef, (nx, ⟨.dp sz z (setD ds o es), []⟩) :: setH (delH h n) t0 ⟨.shut, cs.map (subV n nx)⟩, nx + 1, [n, t0]), (o + v.cells.toList.length ≤ ds.length) :: ob) else none
    | none => none
   | _, _, _ => none
  | _, _ => none
 | _ => none
theorem stD_tidy {t0 : Nat} {ev : Operand → Option Value} {nx : Nat} {op : Op} {v : Value} {h' : Hp} {nx' : Nat} {d : List Nat} {ob : List Prop} (hs : stD P t0 ev h nx op = some ((v, h', nx', d), ob)) : Tidy h nx h' nx' d := by
 unfold stD at hs
 split at hs
 case h_2 => cases hs
 split at hs
 case h_2 => cases hs
 split at hs
 case h_2 => cases hs
 rename_i n o v0 _ _ _ _ _ sz z ds cs0 i cs hl hi hl0
 split at hs
 case h_2 => cases hs
 obtain ⟨hg, hs⟩ := Ba hs
 simp only [oI, pI] at hs
 obtain ⟨⟨rfl, rfl, rfl, rfl⟩, _⟩ := hs
 simp only [Bool.and_eq_true, Bool.not_eq_true'] at hg
 have hlt : t0 ≠ n := fun e => by subst e; rw [Dc] at hg; cases hg.2.2
 refine ⟨by omega, fun k hk hd => ?_, fun hB k hk => ?_⟩
 ·have h1 : k ≠ n := fun e => hd (by simp [e])
  have h2 : k ≠ t0 := fun e => hd (by simp [e])
  rw [B3, if_neg (by omega), Bo, if_neg (Ne.symm h2), Bf, if_neg (Ne.symm h1)]
 ·have h2 : t0 ≠ k := fun e => by subst e; rw [hB t0 (by omega)] at hl0; cases hl0
  rw [B3, if_neg (by omega), Bo, if_neg h2, Bf]
  split
  ·rfl
  ·exact hB k (by omega)
theorem stD_ok {a : Act} (hR : Rl W σ h w) {t0 : Nat} {ev : Operand → Option Value} {nx nx' : Nat} (hf : Fresh σ nx nx') (H : Evs σ ev a) {o : Oper} {v : Value} {h' : Hp} {d : List Nat} {ob : List Prop} (hs : stD P t0 ev h nx o.op = some ((v, h', nx', d), ob)) (ho : Alls ob) :
  ∃ σ' w' v', Stp W nx nx' σ h w σ' h' w' ∧ renV σ' v = some v' ∧ Ends P a o w v' w' := by
 unfold stD at hs
 split at hs
 case h_2 => cases hs
 rename_i t x y hop
 split at hs
 case h_2 => cases hs
 rename_i n o0 v0 hx hy
 split at hs
 case h_2 => cases hs
 rename_i sz z ds cs0 i cs hl hi hl0
 split at hs
 case h_2 => cases hs
 rename_i es ob1 hel
 obtain ⟨hg, hs⟩ := Ba hs
 simp only [oI, pI] at hs
 obtain ⟨⟨rfl, rfl, rfl, rfl⟩, rfl⟩ := hs
 simp only [Bool.and_eq_true, Bool.not_eq_true'] at hg
 obtain ⟨g1, g2, g3⟩ := hg
 obtain ⟨k1, k2⟩ := ho
 have hlt : t0 ≠ n := fun e => by subst e; rw [Dc] at g3; cases g3
 have hcs0 : cs0 = [] := by
  obtain ⟨b, s, vs, hb, hv, hk⟩ := hR.row n _ hl
  obtain ⟨_, _, rfl, _⟩ := hk
  have := Bn hv
  exact List.eq_nil_of_length_eq_zero this.symm
 subst hcs0
 obtain ⟨x', hx'⟩ : ∃ x', renV σ (.pointer (some ⟨n, o0, none⟩)) = some x' := ⟨_, H x _ hx⟩
 have hxe : a.eval x = x' := by have := H x _ hx; rw [hx'] at this; exact (Option.some.inj this).symm
 have hyv := H y _ hy
 obtain ⟨p, hb, rfl, hnn⟩ := E4 hx'
 have hge := hR.ge hl (fun e => by cases e) hb
 obtain ⟨b, s⟩ := p
 obtain rfl : s = 0 := hge.2
 have hvc := (H8 hyv).1
 have hlen := Bn hvc
 have h1 := Ma g2 hvc
 have hE := Im hR hel k2 hvc
 have hEl := hE.len2
 obtain ⟨c, hcc, S⟩ := Stp.dpSet (nx := nx) hR hf hl hb (o := o0) hE (by omega)
 obtain ⟨b', s', vs', hb', _, q1, q2, q3, us, tt, rest, c', hc', hcell, hcl, hcm, hz, hds⟩ := hR.row n _ hl
 rw [hb] at hb'
 cases hb'
 have hul := hds.len2
 have hst : (storeCells ⟨b, 0 + o0, none⟩ (a.eval y).cells.toList).run P w = .ok () (w.setCells b o0 (a.eval y).cells.toList) := by
  have := run_storeCells_cells (P := P) b o0 (a.eval y).cells.toList 0 w (fun k hk => by
   have hlt2 : o0 + k < (us ++ rest).length := by rw [List.length_append]; omega
   rw [cell_of_row w b _ _ tt _ hcell]
   simp [List.getElem?_eq_getElem hlt2]) (fun k hk => frozen_of_row w b _ _ tt hcell) h1
  rw [Nat.zero_add]
  simpa using this
 refine ⟨_, _, undef, (S.resub (h2 := (nx, ⟨.dp sz z (setD ds o0 es), []⟩) :: setH (delH h n) t0 ⟨.shut, cs.map (subV n nx)⟩) fun m s hm => ?_), rfl, .inr ⟨?_, rfl⟩⟩
 ·rw [B3] at hm
  split at hm
  ·rename_i e
   cases hm
   exact ⟨_, by rw [B3, if_pos e], rfl, fun vs hv => hv⟩
  ·rename_i e
   rw [Bo] at hm
   split at hm
   ·rename_i e2
    cases hm
    subst e2
    refine ⟨⟨.shut, cs⟩, by rw [B3, if_neg e, Bf, if_neg (Ne.symm hlt)]; exact hl0, rfl, fun vs hv => ?_⟩
    have hnx : n ≠ nx := fun e2 => by
     subst e2
     rw [(hf n (Nat.le_refl _) (by omega)).1] at hb
     cases hb
    refine subL_ok ?_ ?_ ?_ ?_ hv
    ·simp only [Sg.vwc, if_true]; rw [if_neg hnx]; exact hb.symm
    ·simp only [Sg.vwc, if_true]; rw [if_neg hnx]; exact hcc.symm
    ·simp only [Sg.vwc]; rw [if_neg hnx]; exact hnn
    ·simp [Sg.vwc]
   ·exact ⟨s, by rw [B3, if_neg e]; exact hm, rfl, fun vs hv => hv⟩
 ·have e2 := Nat.eq_of_beq_eq_true g1
  simp only [Array.length_toList] at e2 hlen
  have e3 : (a.eval y).cells.size = i.size := by rw [hlen, e2]
  unfold execOp
  simp only [hop, hxe, Instr.storeAt, Instr.sureAddr, Sem.run_bind, Sem.run_pure, Result.andThen_ok, storeVar, sizeOf, typeInfo, run_program, hi, e3]
  simp [Nat.zero_add] at hst ⊢
  rw [hst]
  rfl
def odT (P : Program) (md : Nat) (ev : Operand → Option Value) (h : Hp) (nx : Nat) (op : Op) : Option (Out × List Prop) := bif Nat.ble 1000 md then stD P (md - 1000) ev h nx op else odW P md ev h nx op
theorem odT_tidy {md : Nat} {ev : Operand → Option Value} {nx : Nat} {op : Op} {v : Value} {h' : Hp} {nx' : Nat} {d : List Nat} {ob : List Prop} (hs : odT P md ev h nx op = some ((v, h', nx', d), ob)) : Tidy h nx h' nx' d := by
 unfold odT at hs
 rcases Be hs with ⟨_, hs⟩ | ⟨_, hs⟩
 ·exact stD_tidy hs
 ·exact odW_tidy hs
theorem odT_ok {a : Act} (hR : Rl W σ h w) {md : Nat} {ev : Operand → Option Value} {nx nx' : Nat} (hf : Fresh σ nx nx') (H : Evs σ ev a) {o : Oper} {v : Value} {h' : Hp} {d : List Nat} {ob : List Prop} (hs : odT P md ev h nx o.op = some ((v, h', nx', d), ob)) (ho : Alls ob) :
  ∃ σ' w' v', Stp W nx nx' σ h w σ' h' w' ∧ renV σ' v = some v' ∧ Ends P a o w v' w' := by
 unfold odT at hs
 rcases Be hs with ⟨_, hs⟩ | ⟨_, hs⟩
 ·exact stD_ok hR hf H hs ho
 ·exact odW_ok hR hf H hs ho
end
section
variable {P : Program} {W : World} {lo hi : Nat} {σ σ' : Sg} {h h' : Hp} {w w' : World}
def DVone : DV → Prop
 | .fl v => one1 v = true
 | .sl _ _ _ => True
def Br (es : List DV) : Prop := ∀ d ∈ es, DVone d
theorem DR.one {F : List Nat} : ∀ {d : DV} {u : Value}, DR W w F d u → DVone d → u.oneCell' = true
 | .fl v, u, h, h1 => by
   simp only [DR] at h
   obtain ⟨rfl, _⟩ := h
   exact (one1_eq u).symm.trans h1
 | .sl len cap ds, u, h, _ => by
   simp only [DR] at h
   rcases h with ⟨_, _, _, a, rfl⟩ | ⟨b, s, c, rfl, _⟩ <;> rfl
theorem DRv.one {F : List Nat} : ∀ {ds : List DV} {us : List Value}, DRv W w F ds us → (∀ d ∈ ds, DVone d) → ∀ u ∈ us, u.oneCell' = true
 | [], us, h, _, u, hu => by simp only [DRv] at h; subst h; cases hu
 | d :: ds, us, h, h1, u, hu => by
   simp only [DRv] at h
   obtain ⟨v, us', rfl, h2, h3⟩ := h
   rcases List.mem_cons.1 hu with rfl | hu
   ·exact h2.one (h1 d (List.mem_cons_self ..))
   ·exact h3.one (fun e he => h1 e (List.mem_cons_of_mem _ he)) u hu
theorem deep_src (hR : Rl W σ h w) {n : Nat} {r : Rw} {ds : List DV} {b s : Nat} (hl : lk h n = some r) (hd : Hq r.kd = some ds) (hb : σ.b n = some (b, s)) : ∃ us, DRv W w (sh σ n) ds us ∧ ∀ j u, us[j]? = some u → w.cell? ⟨b, s + j, none⟩ = some u := by
 have hget := deep_get hR hl hd hb
 have : ∀ {ds : List DV} {s : Nat}, (∀ j d, ds[j]? = some d → ∃ u, w.cell? ⟨b, s + j, none⟩ = some u ∧ DR W w (sh σ n) d u) → ∃ us, DRv W w (sh σ n) ds us ∧ ∀ j u, us[j]? = some u → w.cell? ⟨b, s + j, none⟩ = some u := by
  intro ds
  induction ds with
  | nil => intro s _; exact ⟨[], by simp [DRv], fun j u hj => by simp at hj⟩
  | cons d ds ih =>
   intro s hg
   obtain ⟨u, h1, h2⟩ := hg 0 d rfl
   obtain ⟨us, h3, h4⟩ := ih (s := s + 1) fun j e he => by
    have := hg (j + 1) e (by simpa using he)
    rwa [show s + (j + 1) = s + 1 + j by omega] at this
   refine ⟨u :: us, by simp only [DRv]; exact ⟨u, us, rfl, h2, h3⟩, fun j v hj => ?_⟩
   cases j with
   | zero => simp only [List.getElem?_cons_zero, oI] at hj; subst hj; exact h1
   | succ j =>
    have := h4 j v (by simpa using hj)
    rwa [show s + 1 + j = s + (j + 1) by omega] at this
 exact this hget
def daS (P : Program) (ev : Operand → Option Value) (h : Hp) (nx : Nat) : Op → Option (Out × List Prop)
 | .call ⟨.builtin .append, args, ts⟩ => match ts.toList, evL ev args.toList with
  | [t, tx], some [s, .slice (some ⟨k, o, none⟩) len c] => match P.underlying t, P.underlying tx with
   | some (.slice e), some (.slice e2) => match P.info? e, lk h k with
    | some i, some r => match Hq r.kd, i.zero with
     | some ds, some z => bif Nat.beq z.cells.toList.length i.size && Nat.ble 1 i.size then (match s with
       | .slice none 0 0 => some ((.slice (some ⟨nx + 1, 0, none⟩) len (B0 + (nx + 1)), (nx + 1, ⟨.dp i.size z.cells.toList ((ds.drop o).take (len * i.size)), []⟩) :: h, nx + 2, []), (0 < len ∧ len * i.bytes ≤ 140737488355328 ∧ len ≤ 9223372036854775807) :: (o + len * i.size ≤ ds.length) :: [Br ((ds.drop o).take (len * i.size))])
       | .slice (some ⟨m, 0, none⟩) l0 cap => (match lk h m with
        | some ⟨.dp sz zz ds0, _⟩ => bif Nat.beq sz i.size && Iv zz z.cells.toList then some ((.slice (some ⟨nx + 1, 0, none⟩) (l0 + len) (B0 + (nx + 1)), (nx + 1, ⟨.dp i.size z.cells.toList (ds0 ++ (ds.drop o).take (len * i.size)), []⟩) :: delH h m, nx + 2, [m]), (cap = B0 + m ∧ ds0.length = l0 * i.size) :: ((l0 + len) * i.bytes ≤ 140737488355328 ∧ l0 + len ≤ 9223372036854775807) :: (o + len * i.size ≤ ds.length) :: [Br ((ds.drop o).take (len * i.size))]) else none
        | some ⟨.shut, []⟩ => bif Nat.beq l0 0 && Nat.beq cap 0 then some ((.slice (some ⟨nx + 1, 0, none⟩) len (B0 + (nx + 1)), (nx + 1, ⟨.dp i.size z.cells.toList ((ds.drop o).take (len * i.size)), []⟩) :: h, nx + 2, []), (0 < len ∧ len * i.bytes ≤ 140737488355328 ∧ len ≤ 9223372036854775807) :: (o + len * i.size ≤ ds.length) :: [Br ((ds.drop o).take (len * i.size))]) else none
        | _ => none)
       | _ => none) else none
     | _, _ => none
    | _, _ => none
   | _, _ => none
  | _, _ => none
 | _ => none
theorem daS_call {ev : Operand → Option Value} {nx : Nat} {op : Op} {x : Out × List Prop} (hs : daS P ev h nx op = some x) : ∃ args ts, op = .call ⟨.builtin .append, args, ts⟩ := by
 unfold daS at hs
 split at hs
 ·exact ⟨_, _, rfl⟩
 ·cases hs
theorem daS_tidy {ev : Operand → Option Value} {nx : Nat} {op : Op} {v : Value} {h' : Hp} {nx' : Nat} {d : List Nat} {ob : List Prop} (hs : daS P ev h nx op = some ((v, h', nx', d), ob)) : Tidy h nx h' nx' d := by
 unfold daS at hs
 have new : ∀ {r : Rw}, Tidy h nx ((nx + 1, r) :: h) (nx + 2) [] := fun {r} => ⟨by omega, fun n hn _ => by rw [B3, if_neg (by omega)], fun hB n hn => by rw [B3, if_neg (by omega)]; exact hB n (by omega)⟩
 split at hs
 case h_2 => cases hs
 split at hs
 case h_2 => cases hs
 split at hs
 case h_2 => cases hs
 split at hs
 case h_2 => cases hs
 split at hs
 case h_2 => cases hs
 obtain ⟨_, hs⟩ := Ba hs
 split at hs
 ·simp only [oI, pI] at hs
  obtain ⟨⟨rfl, rfl, rfl, rfl⟩, _⟩ := hs
  exact new
 ·split at hs
  ·obtain ⟨_, hs⟩ := Ba hs
   simp only [oI, pI] at hs
   obtain ⟨⟨rfl, rfl, rfl, rfl⟩, _⟩ := hs
   refine ⟨by omega, fun n hn hd => ?_, fun hB n hn => ?_⟩
   ·rw [B3, if_neg (by omega), Bf, if_neg (fun e => hd (by simp [e]))]
   ·rw [B3, if_neg (by omega), Bf]
    split
    ·rfl
    ·exact hB n (by omega)
  ·obtain ⟨_, hs⟩ := Ba hs
   simp only [oI, pI] at hs
   obtain ⟨⟨rfl, rfl, rfl, rfl⟩, _⟩ := hs
   exact new
  ·cases hs
 ·cases hs
theorem daS_ok {a : Act} (hR : Rl W σ h w) {ev : Operand → Option Value} {nx nx' : Nat} (hf : Fresh σ nx nx') (H : Evs σ ev a) {o : Oper} {v : Value} {h' : Hp} {d : List Nat} {ob : List Prop} (hs : daS P ev h nx o.op = some ((v, h', nx', d), ob)) (ho : Alls ob) :
  ∃ σ' w' v', Stp W nx nx' σ h w σ' h' w' ∧ renV σ' v = some v' ∧ Ends P a o w v' w' := by
 obtain ⟨args, ts, hop⟩ := daS_call hs
 rw [hop] at hs
 simp only [daS] at hs
 split at hs
 case h_2 => cases hs
 rename_i t tx s k o0 len0 c0 hte hev
 split at hs
 case h_2 => cases hs
 rename_i e e2 hu hu2
 split at hs
 case h_2 => cases hs
 rename_i i r hi hlk
 split at hs
 case h_2 => cases hs
 rename_i ds z hd hz
 obtain ⟨hg, hs1⟩ := Ba hs
 clear hs
 simp only [Bool.and_eq_true] at hg
 obtain ⟨g1, g2⟩ := hg
 have hzs : z.cells.size = i.size := by have := Nat.eq_of_beq_eq_true g1; simpa using this
 obtain ⟨s', l, hs', hl, e1⟩ := B9 (Dq H hev)
 obtain ⟨x', l', hx', hl', rfl⟩ := B9 hl
 simp only [renL, oI] at hl'
 subst hl'
 have hargs : args.map a.eval = #[s', x'] := by apply Array.toList_inj.1; rw [Array.toList_map, e1]
 have hts' : ts = #[t, tx] := by apply Array.toList_inj.1; simpa using hte
 have fin : ∀ {v' w'}, (Builtin.append_ #[t, tx] o.type #[s', x']).run P w = .ok v' w' → Ends P a o w v' w' := fun h3 => by
  refine .inl ?_
  unfold execOp
  simp only [hop, resolve, Sem.run_bind, Sem.run_pure, Result.andThen_ok, invoke, builtin, hargs, hts', h3]
 have ren_ : ∀ {τ : Sg} {b c len : Nat}, len ≤ c → renV (τ.vwc (nx + 1) (b, 0) c (some (Bs σ h)) none) (.slice (some ⟨nx + 1, 0, none⟩) len (B0 + (nx + 1))) = some (.slice (some ⟨b, 0, none⟩) len c) := fun {τ b c len} hl =>
  B5 (o := 0) (p := (b, 0)) (by simp [Sg.vwc]) (by unfold cpR; rw [if_neg (by omega), Nat.add_sub_cancel_left]; simp [Sg.vwc]) (by simp [Sg.vwc]) (.inr hl)
 have src_ : o0 + len0 * i.size ≤ ds.length → (∀ d ∈ (ds.drop o0).take (len0 * i.size), DVone d) → ∃ vn, DRv W w (Bs σ h) ((ds.drop o0).take (len0 * i.size)) vn ∧ Src P i.size tx x' len0 vn w := fun hle hone => by
  obtain ⟨b, s, vs0, hb, _⟩ := hR.row k r hlk
  obtain ⟨us, hv, hcell⟩ := deep_src hR hlk hd hb
  have hv2 : DRv W w (Bs σ h) ((ds.drop o0).take (len0 * i.size)) ((us.drop o0).take (len0 * i.size)) := ((hv.dropv o0).take _).more fun q hq => D8 hlk hq
  have hlen : ((us.drop o0).take (len0 * i.size)).length = len0 * i.size := by rw [hv2.len2, List.length_take, List.length_drop]; omega
  rcases B7 hx' with ⟨p, c', hb', _, rfl, _⟩ | ⟨_, rfl, _, rfl⟩
  ·rw [hb] at hb'
   cases hb'
   refine ⟨_, hv2, Src.ofSlice w hu2 ⟨b, s + o0, none⟩ _ c' _ hlen (fun j u hj => ?_) (hv2.one hone)⟩
   rw [C3]
   have hj2 := hj
   rw [List.getElem?_take, if_pos (by have := (List.getElem?_eq_some_iff.1 hj).1; omega), List.getElem?_drop] at hj2
   have := hcell _ u hj2
   show w.cell? ⟨b, s + o0 + j, none⟩ = some u
   rwa [show s + o0 + j = s + (o0 + j) by omega]
  ·have e0 : (us.drop o0).take (0 * i.size) = [] := by simp
   rw [e0] at hv2
   exact ⟨[], hv2, Src.ofEmpty w hu2 _ 0⟩
 have grow_ : ∀ {base : Option Addr} {sLen sCap : Nat} {olds : List Value} {ds1 : List DV}, s' = .slice base sLen sCap → o0 + len0 * i.size ≤ ds.length → (∀ d ∈ (ds.drop o0).take (len0 * i.size), DVone d) → (Builtin.firstCells i.size sLen (.slice base sLen sCap)).run P w.drew = .ok olds.toArray w.drew → DRv W w (Bs σ h) ds1 olds → olds.length = sLen * i.size → sCap < sLen + len0 → sLen + len0 ≤ 9223372036854775807 → (sLen + len0) * i.bytes ≤ 140737488355328 → Fresh σ nx (nx + 2) →
   ∃ σ' w' v', Stp W nx (nx + 2) σ h w σ' ((nx + 1, ⟨.dp i.size z.cells.toList (ds1 ++ (ds.drop o0).take (len0 * i.size)), []⟩) :: h) w' ∧ renV σ' (.slice (some ⟨nx + 1, 0, none⟩) (sLen + len0) (B0 + (nx + 1))) = some v' ∧ Ends P a o w v' w' := by
  intro base sLen sCap olds ds1 hse ho1 ho2 hold hds hol hg h63 hb hf
  obtain ⟨vn, hE, hsr⟩ := src_ ho1 ho2
  have hrun := run_append_grow_src (P := P) (ty := o.type) w t tx e i z hu hi hz base sLen sCap olds hold x' len0 vn hsr hg (by omega) (growslice_fits hg hb)
  have hge := grownCap_ge w (sLen + len0) sCap e
  have hle := grownCap_le_maxLen w (sLen + len0) sCap e (by unfold maxLen; omega)
  have hd := Stp.drew hR nx
  have hlen : (olds ++ vn ++ (Builtin.zeroCells z.cells (grownCap w (sLen + len0) sCap e - (sLen + len0))).toList).length = grownCap w (sLen + len0) sCap e * i.size := by
   rw [List.length_append, List.length_append, hol, hsr.newsLen, Array.length_toList, size_zeroCells, hzs, ← Nat.add_mul, ← Nat.add_mul]
   congr 1
   omega
  have S := Stp.dpNew hd.rl hf (t := e) (DRv.keep (w := w) (w1 := w.drew) (F := Bs σ h) (fun _ _ => rfl) (ds1 ++ (ds.drop o0).take (len0 * i.size)) (olds ++ vn) (hds.app2 hE)) hlen hle (z := z.cells.toList) Ht
  refine ⟨_, _, _, hd.trans S (Nat.le_refl _) (by omega), ren_ (by omega), fin ?_⟩
  rw [hse, hrun]
  congr 2
  apply congrArg (fun q => Obj.cells q e (0, 0))
  apply Array.toList_inj.1
  simp
 split at hs1
 ·simp only [oI, pI] at hs1
  obtain ⟨⟨rfl, rfl, rfl, rfl⟩, rfl⟩ := hs1
  obtain ⟨⟨k0, k1, k2⟩, k3, k4, _⟩ := ho
  have := grow_ (base := none) (sLen := 0) (sCap := 0) (olds := []) (ds1 := []) (by simpa only [renV, oI] using hs'.symm) k3 k4 (run_firstCells_none w.drew i.size 0 0 0) (by simp [DRv]) (by simp) (by omega) (by omega) (by rw [Nat.zero_add]; exact k1) hf
  simpa using this
 ·rename_i m len cap
  split at hs1
  ·rename_i sz zz ds0 cs0 hlm
   obtain ⟨hg3, hs2⟩ := Ba hs1
   clear hs1
   simp only [oI, pI] at hs2
   obtain ⟨⟨rfl, rfl, rfl, rfl⟩, rfl⟩ := hs2
   obtain ⟨⟨rfl, k0⟩, ⟨k1, k2⟩, k3, k4, _⟩ := ho
   simp only [Bool.and_eq_true] at hg3
   obtain rfl := Nat.eq_of_beq_eq_true hg3.1
   have gz := Er hg3.2
   subst gz
   have hrow := hR.row m _ hlm
   obtain ⟨b, s0, vs0, hb, hv0, q1, q2, q3, us, tt, rest, c, hcm, hblk, hrl, hcl, hrz, hds⟩ := hrow
   subst q1
   subst q3
   have hcs0 : cs0 = [] := by
    have := Bn hv0
    exact List.eq_nil_of_length_eq_zero this.symm
   subst hcs0
   have hul := hds.len2
   rcases B7 hs' with ⟨p, c', hb', hcp, hse, hnn⟩ | ⟨hnn, _, _, _⟩
   case inr => exact (hR.shr.1 m _ hlm (fun e => by cases e) hnn).elim
   rw [hb] at hb'
   cases hb'
   rw [Bq, hcm] at hcp
   cases hcp
   have hcell : ∀ j, j < (us ++ rest).length → w.cell? ⟨b, j, none⟩ = (us ++ rest)[j]? := fun j hj => by
    rw [cell_of_row w b j _ tt _ hblk]; simp
   have hmore : DRv W w (Bs σ h) ds0 us := hds.more fun k hk => D8 hlm hk
   by_cases hroom : len + len0 ≤ c
   ·obtain ⟨vn, hE, hsr⟩ := src_ k3 k4
    have hvn := hsr.newsLen
    have hfit : ds0.length + vn.length ≤ c * i.size := by
     rw [k0, hvn, ← Nat.add_mul]; exact Nat.mul_le_mul_right _ hroom
    have hrun := run_append_room_src (P := P) (ty := o.type) w t tx e i hu hi b (0 + 0) len c x' len0 vn hsr hroom (fun j hj => by
     have hlt2 : len * i.size + j < (us ++ rest).length := by omega
     rw [show 0 + 0 + len * i.size + j = len * i.size + j by omega, hcell _ hlt2, List.getElem?_eq_getElem hlt2]; rfl) (fun j hj => frozen_of_row w b _ _ tt hblk)
    have S := Stp.dpIn hR hf hlm hb hcm hE hfit
    refine ⟨_, _, _, S, ren_ (τ := σ) (by omega), fin ?_⟩
    rw [hse, hrun, k0]
    simp
   ·have := grow_ (base := some ⟨b, 0 + 0, none⟩) (sLen := len) (sCap := c) (olds := us) (ds1 := ds0) hse k3 k4 (run_firstCells_some (P := P) w.drew i.size len _ len c us (by omega) (fun j u hj => by
      rw [C3]
      show w.cell? ⟨b, 0 + 0 + j, none⟩ = some u
      rw [show 0 + 0 + j = j by omega]
      have hjl := (List.getElem?_eq_some_iff.1 hj).1
      rw [hcell j (by simp; omega), List.getElem?_append_left hjl]
      exact hj)) hmore (by omega) (by omega) k2 k1 hf
    obtain ⟨σ', w', v', h1, h2, h3⟩ := this
    refine ⟨σ', w', v', h1.less (fun k r hk => ?_), h2, h3⟩
    rw [B3] at hk ⊢
    split
    ·rename_i e5; rw [if_pos e5] at hk; exact hk
    ·rename_i e5
     rw [if_neg e5, Bf] at hk
     split at hk
     ·cases hk
     ·exact hk
  ·rename_i hlm
   obtain ⟨hg3, hs2⟩ := Ba hs1
   clear hs1
   simp only [oI, pI] at hs2
   obtain ⟨⟨rfl, rfl, rfl, rfl⟩, rfl⟩ := hs2
   obtain ⟨⟨k0, k1, k2⟩, k3, k4, _⟩ := ho
   simp only [Bool.and_eq_true] at hg3
   obtain rfl := Nat.eq_of_beq_eq_true hg3.1
   obtain rfl := Nat.eq_of_beq_eq_true hg3.2
   have hse : ∃ A, s' = .slice A 0 0 := by
    rcases B7 hs' with ⟨p, c', _, hcp, hse, _⟩ | ⟨_, _, _, hse⟩
    ·rw [E8 (show 0 < B0 by unfold B0; omega) (Nat.le_refl _)] at hcp
     cases hcp
     exact ⟨_, hse⟩
    ·exact ⟨_, hse⟩
   obtain ⟨A, hse⟩ := hse
   have hfc : (Builtin.firstCells i.size 0 (.slice A 0 0)).run P w.drew = .ok ([] : List Value).toArray w.drew := D9 w.drew i.size A 0
   have := grow_ (base := A) (sLen := 0) (sCap := 0) (olds := []) (ds1 := []) hse k3 k4 hfc (by simp [DRv]) (by simp) (by omega) (by omega) (by rw [Nat.zero_add]; exact k1) hf
   simpa using this
  ·cases hs1
 ·cases hs1
def odU (P : Program) (md : Nat) (ev : Operand → Option Value) (h : Hp) (nx : Nat) (op : Op) : Option (Out × List Prop) := bif Nat.beq md 46 then daS P ev h nx op else odT P md ev h nx op
theorem odU_tidy {md : Nat} {ev : Operand → Option Value} {nx : Nat} {op : Op} {v : Value} {h' : Hp} {nx' : Nat} {d : List Nat} {ob : List Prop} (hs : odU P md ev h nx op = some ((v, h', nx', d), ob)) : Tidy h nx h' nx' d := by
 unfold odU at hs
 rcases Be hs with ⟨_, hs⟩ | ⟨_, hs⟩
 ·exact daS_tidy hs
 ·exact odT_tidy hs
theorem odU_ok {a : Act} (hR : Rl W σ h w) {md : Nat} {ev : Operand → Option Value} {nx nx' : Nat} (hf : Fresh σ nx nx') (H : Evs σ ev a) {o : Oper} {v : Value} {h' : Hp} {d : List Nat} {ob : List Prop} (hs : odU P md ev h nx o.op = some ((v, h', nx', d), ob)) (ho : Alls ob) :
  ∃ σ' w' v', Stp W nx nx' σ h w σ' h' w' ∧ renV σ' v = some v' ∧ Ends P a o w v' w' := by
 unfold odU at hs
 rcases Be hs with ⟨_, hs⟩ | ⟨_, hs⟩
 ·exact daS_ok hR hf H hs ho
 ·exact odT_ok hR hf H hs ho
end
section
variable {P : Program} {W : World} {lo hi : Nat} {σ σ' : Sg} {h h' : Hp} {w w' : World}
def daN (P : Program) (ev : Operand → Option Value) (h : Hp) (nx : Nat) : Op → Option (Out × List Prop)
 | .call ⟨.builtin .append, args, ts⟩ => match ts.toList, evL ev args.toList with
  | [t, tx], some [.slice (some ⟨m, 0, none⟩) len cap, .slice none 0 0] => match P.underlying t, P.underlying tx, lk h m with
   | some (.slice e), some (.slice e2), some ⟨.dp sz zz ds, _⟩ => match P.info? e with
    | some i => bif Nat.beq sz i.size && Nat.ble 1 i.size then some ((.slice (some ⟨m, 0, none⟩) len cap, h, nx, []), [cap = B0 + m ∧ ds.length = len * i.size]) else none
    | none => none
   | _, _, _ => none
  | _, _ => none
 | _ => none
theorem daN_call {ev : Operand → Option Value} {nx : Nat} {op : Op} {x : Out × List Prop} (hs : daN P ev h nx op = some x) : ∃ args ts, op = .call ⟨.builtin .append, args, ts⟩ := by
 unfold daN at hs
 split at hs
 ·exact ⟨_, _, rfl⟩
 ·cases hs
theorem daN_tidy {ev : Operand → Option Value} {nx : Nat} {op : Op} {v : Value} {h' : Hp} {nx' : Nat} {d : List Nat} {ob : List Prop} (hs : daN P ev h nx op = some ((v, h', nx', d), ob)) : Tidy h nx h' nx' d := by
 unfold daN at hs
 split at hs
 case h_2 => cases hs
 split at hs
 case h_2 => cases hs
 split at hs
 case h_2 => cases hs
 split at hs
 case h_2 => cases hs
 obtain ⟨_, hs⟩ := Ba hs
 simp only [oI, pI] at hs
 obtain ⟨⟨rfl, rfl, rfl, rfl⟩, _⟩ := hs
 exact ⟨Nat.le_refl _, fun n hn _ => rfl, fun hB n hn => hB n hn⟩
theorem daN_ok {a : Act} (hR : Rl W σ h w) {ev : Operand → Option Value} {nx nx' : Nat} (hf : Fresh σ nx nx') (H : Evs σ ev a) {o : Oper} {v : Value} {h' : Hp} {d : List Nat} {ob : List Prop} (hs : daN P ev h nx o.op = some ((v, h', nx', d), ob)) (ho : Alls ob) :
  ∃ σ' w' v', Stp W nx nx' σ h w σ' h' w' ∧ renV σ' v = some v' ∧ Ends P a o w v' w' := by
 obtain ⟨args, ts, hop⟩ := daN_call hs
 rw [hop] at hs
 simp only [daN] at hs
 split at hs
 case h_2 => cases hs
 rename_i t tx m len cap hte hev
 split at hs
 case h_2 => cases hs
 rename_i e e2 sz zz ds cs0 hu hu2 hlm
 split at hs
 case h_2 => cases hs
 rename_i i hi
 obtain ⟨hg, hs⟩ := Ba hs
 simp only [oI, pI] at hs
 obtain ⟨⟨rfl, rfl, rfl, rfl⟩, rfl⟩ := hs
 obtain ⟨⟨rfl, k0⟩, _⟩ := ho
 simp only [Bool.and_eq_true] at hg
 obtain ⟨g1, g2⟩ := hg
 obtain rfl := Nat.eq_of_beq_eq_true g1
 have hpos : 0 < i.size := Nat.le_of_ble_eq_true g2
 obtain ⟨s', l, hs', hl, e1⟩ := B9 (Dq H hev)
 obtain ⟨x', l', hx', hl', rfl⟩ := B9 hl
 simp only [renL, oI] at hl'
 subst hl'
 simp only [renV, oI] at hx'
 subst hx'
 have hargs : args.map a.eval = #[s', .slice none 0 0] := by apply Array.toList_inj.1; rw [Array.toList_map, e1]
 have hts' : ts = #[t, tx] := by apply Array.toList_inj.1; simpa using hte
 obtain ⟨b, s0, vs0, hb, hv0, q1, q2, q3, us, tt, rest, c, hcm, hblk, hrl, hcl, hrz, hds⟩ := hR.row m _ hlm
 subst q1
 have hul := hds.len2
 rcases B7 hs' with ⟨p, c', hb', hcp, rfl, hnn⟩ | ⟨hnn, _, _, _⟩
 case inr => exact (hR.shr.1 m _ hlm (fun e => by cases e) hnn).elim
 rw [hb] at hb'
 cases hb'
 rw [Bq, hcm] at hcp
 cases hcp
 have hlc : len ≤ c := by
  rw [List.length_append, hul, k0] at hrl
  exact Nat.le_of_mul_le_mul_right (by omega) hpos
 have hrun := run_append_room_src (P := P) (ty := o.type) w t tx e i hu hi b (0 + 0) len c (.slice none 0 0) 0 [] (Src.ofNil w hu2 0) (by omega) (fun j hj => by simp at hj) (fun j hj => by simp at hj)
 refine ⟨σ, w, _, Stp.refl hR nx, hs', .inl ?_⟩
 unfold execOp
 simp only [hop, resolve, Sem.run_bind, Sem.run_pure, Result.andThen_ok, invoke, builtin, hargs, hts', hrun]
 simp [World.setCells]
def odS (P : Program) (md : Nat) (ev : Operand → Option Value) (h : Hp) (nx : Nat) (op : Op) : Option (Out × List Prop) := bif Nat.beq md 49 then daN P ev h nx op else odU P md ev h nx op
theorem odS_tidy {md : Nat} {ev : Operand → Option Value} {nx : Nat} {op : Op} {v : Value} {h' : Hp} {nx' : Nat} {d : List Nat} {ob : List Prop} (hs : odS P md ev h nx op = some ((v, h', nx', d), ob)) : Tidy h nx h' nx' d := by
 unfold odS at hs
 rcases Be hs with ⟨_, hs⟩ | ⟨_, hs⟩
 ·exact daN_tidy hs
 ·exact odU_tidy hs
theorem odS_ok {a : Act} (hR : Rl W σ h w) {md : Nat} {ev : Operand → Option Value} {nx nx' : Nat} (hf : Fresh σ nx nx') (H : Evs σ ev a) {o : Oper} {v : Value} {h' : Hp} {d : List Nat} {ob : List Prop} (hs : odS P md ev h nx o.op = some ((v, h', nx', d), ob)) (ho : Alls ob) :
  ∃ σ' w' v', Stp W nx nx' σ h w σ' h' w' ∧ renV σ' v = some v' ∧ Ends P a o w v' w' := by
 unfold odS at hs
 rcases Be hs with ⟨_, hs⟩ | ⟨_, hs⟩
 ·exact daN_ok hR hf H hs ho
 ·exact odU_ok hR hf H hs ho
end
section
variable {P : Program} {W : World} {lo hi : Nat} {σ σ' : Sg} {h h' : Hp} {w w' : World}
theorem drs_cells {F : List Nat} {b : Nat} (hb : b ∈ F) : ∀ {ds : List DV} {us : List Value} {s : Nat}, DRv W w F ds us → (∀ j u, us[j]? = some u → w.cell? ⟨b, s + j, none⟩ = some u) → DRs W w F b s ds
 | [], us, s, _, _ => by simp only [DRs]; exact .inr hb
 | d :: ds, us, s, h, hc => by
   simp only [DRv] at h
   obtain ⟨u, us', rfl, h1, h2⟩ := h
   simp only [DRs]
   refine ⟨⟨u, .inr ⟨hb, by simpa using hc 0 u rfl⟩, h1⟩, drs_cells hb h2 fun j v hj => ?_⟩
   have := hc (j + 1) v (by simpa using hj)
   rwa [show s + (j + 1) = s + 1 + j by omega] at this
theorem Stp.freezeD (hR : Rl W σ h w) {nx : Nat} (hf : Fresh σ nx (nx + 1)) {n b c size : Nat} {z : List Value} {ds : List DV} {cs0 : List Value} (hl : lk h n = some ⟨.dp size z ds, cs0⟩) (hb : σ.b n = some (b, 0)) :
  Stp W nx (nx + 1) σ h w (σ.vwc nx (b, 0) c (some (b :: Bs σ h)) none) ((nx, ⟨.sd ds, []⟩) :: delH h n) w := by
 have hown : (⟨.dp size z ds, cs0⟩ : Rw).own := fun e => by cases e
 have hN := hf nx (Nat.le_refl _) (by omega)
 have hbs : ∀ m, m ≠ nx → (σ.vwc nx (b, 0) c (some (b :: Bs σ h)) none).b m = σ.b m ∧ (σ.vwc nx (b, 0) c (some (b :: Bs σ h)) none).c m = σ.c m ∧ (σ.vwc nx (b, 0) c (some (b :: Bs σ h)) none).f m = σ.f m ∧ (σ.vwc nx (b, 0) c (some (b :: Bs σ h)) none).e m = σ.e m ∧ (σ.vwc nx (b, 0) c (some (b :: Bs σ h)) none).w = σ.w := fun m hm => by simp only [Sg.vwc]; rw [if_neg hm, if_neg hm, if_neg hm, if_neg hm]; exact ⟨rfl, rfl, rfl, rfl, trivial⟩
 have hbN : (σ.vwc nx (b, 0) c (some (b :: Bs σ h)) none).b nx = some (b, 0) := by simp [Sg.vwc]
 have hle : σ.le (σ.vwc nx (b, 0) c (some (b :: Bs σ h)) none) := by
  refine ⟨fun m q e => ?_, fun m k e => ?_, fun m q e => ?_⟩
  ·have hm : m ≠ nx := fun e2 => by subst e2; rw [hN.1] at e; cases e
   rw [(hbs m hm).1]; exact e
  ·have hm : m ≠ nx := fun e2 => by subst e2; rw [hN.2] at e; cases e
   rw [(hbs m hm).2.1]; exact e
  ·have hm : m ≠ nx := fun e2 => by subst e2; rw [hN.1] at e; cases e
   exact (hbs m hm).2
 have cls : ∀ m s, lk ((nx, ⟨.sd ds, []⟩) :: delH h n) m = some s → (m = nx ∧ s = ⟨.sd ds, []⟩) ∨ (m ≠ nx ∧ m ≠ n ∧ lk h m = some s) := fun m s e => by
  rw [B3] at e
  split at e
  ·rename_i e1; cases e; exact .inl ⟨e1.symm, rfl⟩
  ·rename_i e1
   rw [Bf] at e
   split at e
   ·cases e
   ·rename_i e2; exact .inr ⟨Ne.symm e1, Ne.symm e2, e⟩
 have hsh : sh (σ.vwc nx (b, 0) c (some (b :: Bs σ h)) none) nx = b :: Bs σ h := by simp [sh, Sg.vwc]
 have shs : ∀ m, m ≠ nx → sh (σ.vwc nx (b, 0) c (some (b :: Bs σ h)) none) m = sh σ m := fun m hm => by unfold sh; rw [(hbs m hm).2.2.1]
 have own_ : ∀ m s q, lk ((nx, ⟨.sd ds, []⟩) :: delH h n) m = some s → s.own → (σ.vwc nx (b, 0) c (some (b :: Bs σ h)) none).b m = some q → lk h m = some s ∧ m ≠ n ∧ σ.b m = some q := fun m s q hm hs hq => by
  rcases cls m s hm with ⟨rfl, rfl⟩ | ⟨e1, e2, e3⟩
  ·exact absurd (ShKd.sd ds) hs
  ·rw [(hbs m e1).1] at hq; exact ⟨e3, e2, hq⟩
 obtain ⟨b', s', vs', hb', _, h1, h2, h3, us, t, rest, c', hc, hcell, hlen, hcm, hz, hds⟩ := hR.row n _ hl
 rw [hb] at hb'
 cases hb'
 have hlt : b < w.heap.size := by
  rcases Nat.lt_or_ge b w.heap.size with hh | hh
  ·exact hh
  ·rw [Array.getElem?_eq_none hh] at hcell; cases hcell
 have srcO : SrcO σ h w (σ.vwc nx (b, 0) c (some (b :: Bs σ h)) none) ((nx, ⟨.sd ds, []⟩) :: delH h n) := fun m s p hm hs hp => by
  obtain ⟨a1, _, a3⟩ := own_ m s p hm hs hp
  exact .inr ⟨m, s, p, a1, hs, a3, rfl⟩
 have srcS : SrcS σ h w (σ.vwc nx (b, 0) c (some (b :: Bs σ h)) none) ((nx, ⟨.sd ds, []⟩) :: delH h n) := fun m s kk hm hk => by
  rcases cls m s hm with ⟨rfl, rfl⟩ | ⟨e1, e2, e3⟩
  ·rw [hsh] at hk
   rcases List.mem_cons.1 hk with rfl | hk
   ·exact .inr (.inl ⟨n, _, (kk, 0), hl, hown, hb, rfl⟩)
   ·obtain ⟨m0, s0, g1, g2⟩ := Ci hk
    exact .inr (.inr ⟨m0, s0, g1, g2⟩)
  ·rw [shs m e1] at hk
   exact .inr (.inr ⟨m, s, e3, hk⟩)
 have exs : ∀ m s, lk ((nx, (⟨.sd ds, []⟩ : Rw)) :: delH h n) m = some s → ∀ kk, kk ∈ ex (σ.vwc nx (b, 0) c (some (b :: Bs σ h)) none) m → ∃ s, lk h m = some s ∧ kk ∈ ex σ m := fun m s hm kk hk => by
  rcases cls m s hm with ⟨rfl, rfl⟩ | ⟨e1, e2, e3⟩
  ·rw [L8] at hk; cases hk
  ·exact ⟨s, e3, by unfold ex at hk ⊢; rw [(hbs m e1).2.2.1] at hk; exact hk⟩
 refine ⟨hle, fun m hm => ⟨(hbs m (by omega)).1, (hbs m (by omega)).2.1⟩, ⟨⟨hR.ext, fun m s hm => ?_, fun m k r1 r2 p q hm hk hr1 hr2 hp hq e => ?_⟩, hR.wf, fun m s hm hs => ?_, fun m s kk hm hk => ?_, Exc.same hR.shr (Nat.le_refl _) srcO srcS exs⟩, Nat.le_refl _, fun _ _ _ _ => rfl, srcO, srcS, fun m s kk hm hk => .inr (.inr (let ⟨s1, e1, e2⟩ := exs m s hm kk hk; ⟨m, s1, e1, e2⟩))⟩
 ·rcases cls m s hm with ⟨rfl, rfl⟩ | ⟨e1, e2, e3⟩
  ·refine ⟨b, 0, [], hbN, rfl, rfl, .inr ?_⟩
   rw [hsh]
   refine drs_cells (List.mem_cons_self ..) (hds.more fun k hk => List.mem_cons_of_mem _ (D8 hl hk)) fun j u hj => ?_
   rw [cell_of_row w b (0 + j) _ t _ hcell]
   have hj2 : (us ++ rest)[j]? = some u := by rw [List.getElem?_append_left (List.getElem?_eq_some_iff.1 hj).1]; exact hj
   simpa using hj2
  ·exact hR.keepA e3 hle fun _ _ => rfl
 ·obtain ⟨a1, _, a3⟩ := own_ m r1 p hm hr1 hp
  obtain ⟨b1, _, b3⟩ := own_ k r2 q hk hr2 hq
  exact hR.inj m k r1 r2 p q a1 b1 hr1 hr2 a3 b3 e
 ·rcases cls m s hm with ⟨rfl, rfl⟩ | ⟨e1, e2, e3⟩
  ·exact absurd (ShKd.sd ds) hs
  ·rw [(hbs m e1).2.2.1]; exact hR.shr.1 m s e3 hs
 ·have old_ : ∀ m0 s0, lk h m0 = some s0 → kk ∈ sh σ m0 → kk < w.heap.size ∧ ∀ m s q, lk ((nx, ⟨.sd ds, []⟩) :: delH h n) m = some s → s.own → (σ.vwc nx (b, 0) c (some (b :: Bs σ h)) none).b m = some q → q.1 ≠ kk := fun m0 s0 g1 g2 => by
   obtain ⟨g3, g4⟩ := hR.shr.2.1 m0 s0 kk g1 g2
   refine ⟨g3, fun m s q hm hs hq => ?_⟩
   obtain ⟨a1, a2, a3⟩ := own_ m s q hm hs hq
   exact g4 m s q a1 hs a3
  rcases cls m s hm with ⟨rfl, rfl⟩ | ⟨e1, e2, e3⟩
  ·rw [hsh] at hk
   rcases List.mem_cons.1 hk with rfl | hk
   ·refine ⟨hlt, fun m s q hm hs hq e => ?_⟩
    obtain ⟨a1, a2, a3⟩ := own_ m s q hm hs hq
    exact a2 (hR.inj m n s _ q _ a1 hl hs hown a3 hb e)
   ·obtain ⟨m0, s0, g1, g2⟩ := Ci hk
    exact old_ m0 s0 g1 g2
  ·rw [shs m e1] at hk
   exact old_ m s e3 hk
end
section
variable {P : Program} {W : World} {lo hi : Nat} {σ σ' : Sg} {h h' : Hp} {w w' : World}
theorem DRs.dropW {F : List Nat} : ∀ (o : Nat) {ds : List DV} {b s : Nat}, DRs W w F b s ds → ds.drop o = [] ∨ DRs W w F b (s + o) (ds.drop o)
 | 0, ds, b, s, hd => .inr hd
 | o + 1, [], b, s, hd => .inl (by simp)
 | o + 1, d :: ds, b, s, hd => by
   simp only [DRs] at hd
   have := DRs.dropW o hd.2
   rw [show s + (o + 1) = s + 1 + o by omega]
   exact this
end
end Go.Proofs.Ytojakfnljopjbaa
