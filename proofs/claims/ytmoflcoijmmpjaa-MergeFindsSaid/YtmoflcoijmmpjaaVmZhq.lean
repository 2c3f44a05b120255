/-
  The told machine, part Zh: rows of slices: append of the elements of another one (mode 46).
-/
import Derived.Test.YtmoflcoijmmpjaaVmZg
namespace Go.Proofs.Ytmoflcoijmmpjaa
set_option linter.unusedSimpArgs false
set_option linter.unusedVariables false
set_option linter.unusedSectionVars false
open Go Go.RowKit

section
variable {P : Program} {W : World} {lo hi : Nat} {σ σ' : Sg} {h h' : Hp} {w w' : World}
def DVone : DV → Prop
  | .fl v => one1 v = true
  | .sl _ _ _ => True
def DVones (es : List DV) : Prop := ∀ d ∈ es, DVone d
theorem DR.one {F : List Nat} : ∀ {d : DV} {u : Value}, DR W w F d u → DVone d → u.oneCell' = true
  | .fl v, u, h, h1 => by
      simp only [DR] at h
      obtain ⟨rfl, _⟩ := h
      exact (one1_eq u).symm.trans h1
  | .sl len cap ds, u, h, _ => by
      simp only [DR] at h
      rcases h with ⟨_, _, _, a, rfl⟩ | ⟨b, s, c, rfl, _⟩ <;> rfl
theorem DRv.one {F : List Nat} : ∀ {ds : List DV} {us : List Value}, DRv W w F ds us → (∀ d ∈ ds, DVone d) → ∀ u ∈ us, u.oneCell' = true
  | [], us, h, _, u, hu => by simp only [DRv] at h; subst h; cases hu
  | d :: ds, us, h, h1, u, hu => by
      simp only [DRv] at h
      obtain ⟨v, us', rfl, h2, h3⟩ := h
      rcases List.mem_cons.1 hu with rfl | hu
      · exact h2.one (h1 d (List.mem_cons_self ..))
      · exact h3.one (fun e he => h1 e (List.mem_cons_of_mem _ he)) u hu
theorem deep_src (hR : Rl W σ h w) {n : Nat} {r : Rw} {ds : List DV} {b s : Nat} (hl : lk h n = some r) (hd : deepOf r.kd = some ds) (hb : σ.b n = some (b, s)) : ∃ us, DRv W w (sh σ n) ds us ∧ ∀ j u, us[j]? = some u → w.cell? ⟨b, s + j, none⟩ = some u := by
  have hget := deep_get hR hl hd hb
  have : ∀ {ds : List DV} {s : Nat}, (∀ j d, ds[j]? = some d → ∃ u, w.cell? ⟨b, s + j, none⟩ = some u ∧ DR W w (sh σ n) d u) → ∃ us, DRv W w (sh σ n) ds us ∧ ∀ j u, us[j]? = some u → w.cell? ⟨b, s + j, none⟩ = some u := by
    intro ds
    induction ds with
    | nil => intro s _; exact ⟨[], by simp [DRv], fun j u hj => by simp at hj⟩
    | cons d ds ih =>
      intro s hg
      obtain ⟨u, h1, h2⟩ := hg 0 d rfl
      obtain ⟨us, h3, h4⟩ := ih (s := s + 1) fun j e he => by
        have := hg (j + 1) e (by simpa using he)
        rwa [show s + (j + 1) = s + 1 + j by omega] at this
      refine ⟨u :: us, by simp only [DRv]; exact ⟨u, us, rfl, h2, h3⟩, fun j v hj => ?_⟩
      cases j with
      | zero => simp only [List.getElem?_cons_zero, Option.some.injEq] at hj; subst hj; exact h1
      | succ j =>
        have := h4 j v (by simpa using hj)
        rwa [show s + 1 + j = s + (j + 1) by omega] at this
  exact this hget
def daS (P : Program) (ev : Operand → Option Value) (h : Hp) (nx : Nat) : Op → Option (Out × List Prop)
  | .call ⟨.builtin .append, args, ts⟩ => match ts.toList, evL ev args.toList with
    | [t, tx], some [s, .slice (some ⟨k, o, none⟩) len c] => match P.underlying t, P.underlying tx with
      | some (.slice e), some (.slice e2) => match P.info? e, lk h k with
        | some i, some r => match deepOf r.kd, i.zero with
          | some ds, some z => bif Nat.beq z.cells.toList.length i.size && Nat.ble 1 i.size then (match s with
              | .slice none 0 0 => some ((.slice (some ⟨nx + 1, 0, none⟩) len (capBig + (nx + 1)), (nx + 1, ⟨.dp i.size z.cells.toList ((ds.drop o).take (len * i.size)), []⟩) :: h, nx + 2, []), (0 < len ∧ len * i.bytes ≤ 140737488355328 ∧ len ≤ 9223372036854775807) :: (o + len * i.size ≤ ds.length) :: [DVones ((ds.drop o).take (len * i.size))])
              | .slice (some ⟨m, 0, none⟩) l0 cap => (match lk h m with
                | some ⟨.dp sz zz ds0, _⟩ => bif Nat.beq sz i.size && beqZL zz z.cells.toList then some ((.slice (some ⟨nx + 1, 0, none⟩) (l0 + len) (capBig + (nx + 1)), (nx + 1, ⟨.dp i.size z.cells.toList (ds0 ++ (ds.drop o).take (len * i.size)), []⟩) :: delH h m, nx + 2, [m]), (cap = capBig + m ∧ ds0.length = l0 * i.size) :: ((l0 + len) * i.bytes ≤ 140737488355328 ∧ l0 + len ≤ 9223372036854775807) :: (o + len * i.size ≤ ds.length) :: [DVones ((ds.drop o).take (len * i.size))]) else none
                | some ⟨.shut, []⟩ => bif Nat.beq l0 0 && Nat.beq cap 0 then some ((.slice (some ⟨nx + 1, 0, none⟩) len (capBig + (nx + 1)), (nx + 1, ⟨.dp i.size z.cells.toList ((ds.drop o).take (len * i.size)), []⟩) :: h, nx + 2, []), (0 < len ∧ len * i.bytes ≤ 140737488355328 ∧ len ≤ 9223372036854775807) :: (o + len * i.size ≤ ds.length) :: [DVones ((ds.drop o).take (len * i.size))]) else none
                | _ => none)
              | _ => none) else none
          | _, _ => none
        | _, _ => none
      | _, _ => none
    | _, _ => none
  | _ => none
theorem daS_call {ev : Operand → Option Value} {nx : Nat} {op : Op} {x : Out × List Prop} (hs : daS P ev h nx op = some x) : ∃ args ts, op = .call ⟨.builtin .append, args, ts⟩ := by
  unfold daS at hs
  split at hs
  · exact ⟨_, _, rfl⟩
  · cases hs
theorem daS_tidy {ev : Operand → Option Value} {nx : Nat} {op : Op} {v : Value} {h' : Hp} {nx' : Nat} {d : List Nat} {ob : List Prop} (hs : daS P ev h nx op = some ((v, h', nx', d), ob)) : Tidy h nx h' nx' d := by
  unfold daS at hs
  have new : ∀ {r : Rw}, Tidy h nx ((nx + 1, r) :: h) (nx + 2) [] := fun {r} => ⟨by omega, fun n hn _ => by rw [lk_cons, if_neg (by omega)], fun hB n hn => by rw [lk_cons, if_neg (by omega)]; exact hB n (by omega)⟩
  split at hs
  case h_2 => cases hs
  split at hs
  case h_2 => cases hs
  split at hs
  case h_2 => cases hs
  split at hs
  case h_2 => cases hs
  split at hs
  case h_2 => cases hs
  obtain ⟨_, hs⟩ := bif_of hs
  split at hs
  · simp only [Option.some.injEq, Prod.mk.injEq] at hs
    obtain ⟨⟨rfl, rfl, rfl, rfl⟩, _⟩ := hs
    exact new
  · split at hs
    · obtain ⟨_, hs⟩ := bif_of hs
      simp only [Option.some.injEq, Prod.mk.injEq] at hs
      obtain ⟨⟨rfl, rfl, rfl, rfl⟩, _⟩ := hs
      refine ⟨by omega, fun n hn hd => ?_, fun hB n hn => ?_⟩
      · rw [lk_cons, if_neg (by omega), lk_delH, if_neg (fun e => hd (by simp [e]))]
      · rw [lk_cons, if_neg (by omega), lk_delH]
        split
        · rfl
        · exact hB n (by omega)
    · obtain ⟨_, hs⟩ := bif_of hs
      simp only [Option.some.injEq, Prod.mk.injEq] at hs
      obtain ⟨⟨rfl, rfl, rfl, rfl⟩, _⟩ := hs
      exact new
    · cases hs
  · cases hs
theorem daS_ok {a : Act} (hR : Rl W σ h w) {ev : Operand → Option Value} {nx nx' : Nat} (hf : Fresh σ nx nx') (H : Evs σ ev a) {o : Oper} {v : Value} {h' : Hp} {d : List Nat} {ob : List Prop} (hs : daS P ev h nx o.op = some ((v, h', nx', d), ob)) (ho : Alls ob) :
    ∃ σ' w' v', Stp W nx nx' σ h w σ' h' w' ∧ renV σ' v = some v' ∧ Ends P a o w v' w' := by
  obtain ⟨args, ts, hop⟩ := daS_call hs
  rw [hop] at hs
  simp only [daS] at hs
  split at hs
  case h_2 => cases hs
  rename_i t tx s k o0 len0 c0 hte hev
  split at hs
  case h_2 => cases hs
  rename_i e e2 hu hu2
  split at hs
  case h_2 => cases hs
  rename_i i r hi hlk
  split at hs
  case h_2 => cases hs
  rename_i ds z hd hz
  obtain ⟨hg, hs1⟩ := bif_of hs
  clear hs
  simp only [Bool.and_eq_true] at hg
  obtain ⟨g1, g2⟩ := hg
  have hzs : z.cells.size = i.size := by have := Nat.eq_of_beq_eq_true g1; simpa using this
  obtain ⟨s', l, hs', hl, e1⟩ := renL_cons (evL_ok H hev)
  obtain ⟨x', l', hx', hl', rfl⟩ := renL_cons hl
  simp only [renL, Option.some.injEq] at hl'
  subst hl'
  have hargs : args.map a.eval = #[s', x'] := by apply Array.toList_inj.1; rw [Array.toList_map, e1]
  have hts' : ts = #[t, tx] := by apply Array.toList_inj.1; simpa using hte
  have fin : ∀ {v' w'}, (Builtin.append_ #[t, tx] o.type #[s', x']).run P w = .ok v' w' → Ends P a o w v' w' := fun h3 => by
    refine .inl ?_
    unfold execOp
    simp only [hop, resolve, Sem.run_bind, Sem.run_pure, Result.andThen_ok, invoke, builtin, hargs, hts', h3]
  have ren_ : ∀ {τ : Sg} {b c len : Nat}, len ≤ c → renV (τ.vwc (nx + 1) (b, 0) c (some (shAll σ h)) none) (.slice (some ⟨nx + 1, 0, none⟩) len (capBig + (nx + 1))) = some (.slice (some ⟨b, 0, none⟩) len c) := fun {τ b c len} hl =>
    renV_slice_mk (o := 0) (p := (b, 0)) (by simp [Sg.vwc]) (by unfold cpR; rw [if_neg (by omega), Nat.add_sub_cancel_left]; simp [Sg.vwc]) (by simp [Sg.vwc]) (.inr hl)
  have src_ : o0 + len0 * i.size ≤ ds.length → (∀ d ∈ (ds.drop o0).take (len0 * i.size), DVone d) → ∃ vn, DRv W w (shAll σ h) ((ds.drop o0).take (len0 * i.size)) vn ∧ Src P i.size tx x' len0 vn w := fun hle hone => by
    obtain ⟨b, s, vs0, hb, _⟩ := hR.row k r hlk
    obtain ⟨us, hv, hcell⟩ := deep_src hR hlk hd hb
    have hv2 : DRv W w (shAll σ h) ((ds.drop o0).take (len0 * i.size)) ((us.drop o0).take (len0 * i.size)) := ((hv.dropv o0).take _).more fun q hq => shAll_of hlk hq
    have hlen : ((us.drop o0).take (len0 * i.size)).length = len0 * i.size := by rw [hv2.len2, List.length_take, List.length_drop]; omega
    rcases renV_slice hx' with ⟨p, c', hb', _, rfl, _⟩ | ⟨_, rfl, _, rfl⟩
    · rw [hb] at hb'
      cases hb'
      refine ⟨_, hv2, Src.ofSlice w hu2 ⟨b, s + o0, none⟩ _ c' _ hlen (fun j u hj => ?_) (hv2.one hone)⟩
      rw [addr_add]
      have hj2 := hj
      rw [List.getElem?_take, if_pos (by have := (List.getElem?_eq_some_iff.1 hj).1; omega), List.getElem?_drop] at hj2
      have := hcell _ u hj2
      show w.cell? ⟨b, s + o0 + j, none⟩ = some u
      rwa [show s + o0 + j = s + (o0 + j) by omega]
    · have e0 : (us.drop o0).take (0 * i.size) = [] := by simp
      rw [e0] at hv2
      exact ⟨[], hv2, Src.ofEmpty w hu2 _ 0⟩
  have grow_ : ∀ {base : Option Addr} {sLen sCap : Nat} {olds : List Value} {ds1 : List DV}, s' = .slice base sLen sCap → o0 + len0 * i.size ≤ ds.length → (∀ d ∈ (ds.drop o0).take (len0 * i.size), DVone d) → (Builtin.firstCells i.size sLen (.slice base sLen sCap)).run P w.drew = .ok olds.toArray w.drew → DRv W w (shAll σ h) ds1 olds → olds.length = sLen * i.size → sCap < sLen + len0 → sLen + len0 ≤ 9223372036854775807 → (sLen + len0) * i.bytes ≤ 140737488355328 → Fresh σ nx (nx + 2) →
      ∃ σ' w' v', Stp W nx (nx + 2) σ h w σ' ((nx + 1, ⟨.dp i.size z.cells.toList (ds1 ++ (ds.drop o0).take (len0 * i.size)), []⟩) :: h) w' ∧ renV σ' (.slice (some ⟨nx + 1, 0, none⟩) (sLen + len0) (capBig + (nx + 1))) = some v' ∧ Ends P a o w v' w' := by
    intro base sLen sCap olds ds1 hse ho1 ho2 hold hds hol hg h63 hb hf
    obtain ⟨vn, hE, hsr⟩ := src_ ho1 ho2
    have hrun := run_append_grow_src (P := P) (ty := o.type) w t tx e i z hu hi hz base sLen sCap olds hold x' len0 vn hsr hg (by omega) (growslice_fits hg hb)
    have hge := grownCap_ge w (sLen + len0) sCap e
    have hle := grownCap_le_maxLen w (sLen + len0) sCap e (by unfold maxLen; omega)
    have hd := Stp.drew hR nx
    have hlen : (olds ++ vn ++ (Builtin.zeroCells z.cells (grownCap w (sLen + len0) sCap e - (sLen + len0))).toList).length = grownCap w (sLen + len0) sCap e * i.size := by
      rw [List.length_append, List.length_append, hol, hsr.newsLen, Array.length_toList, size_zeroCells, hzs, ← Nat.add_mul, ← Nat.add_mul]
      congr 1
      omega
    have S := Stp.dpNew hd.rl hf (t := e) (DRv.keep (w := w) (w1 := w.drew) (F := shAll σ h) (fun _ _ => rfl) (ds1 ++ (ds.drop o0).take (len0 * i.size)) (olds ++ vn) (hds.app2 hE)) hlen hle (z := z.cells.toList) zero_mem
    refine ⟨_, _, _, hd.trans S (Nat.le_refl _) (by omega), ren_ (by omega), fin ?_⟩
    rw [hse, hrun]
    congr 2
    apply congrArg (fun q => Obj.cells q e (0, 0))
    apply Array.toList_inj.1
    simp
  split at hs1
  · simp only [Option.some.injEq, Prod.mk.injEq] at hs1
    obtain ⟨⟨rfl, rfl, rfl, rfl⟩, rfl⟩ := hs1
    obtain ⟨⟨k0, k1, k2⟩, k3, k4, _⟩ := ho
    have := grow_ (base := none) (sLen := 0) (sCap := 0) (olds := []) (ds1 := []) (by simpa only [renV, Option.some.injEq] using hs'.symm) k3 k4 (run_firstCells_none w.drew i.size 0 0 0) (by simp [DRv]) (by simp) (by omega) (by omega) (by rw [Nat.zero_add]; exact k1) hf
    simpa using this
  · rename_i m len cap
    split at hs1
    · rename_i sz zz ds0 cs0 hlm
      obtain ⟨hg3, hs2⟩ := bif_of hs1
      clear hs1
      simp only [Option.some.injEq, Prod.mk.injEq] at hs2
      obtain ⟨⟨rfl, rfl, rfl, rfl⟩, rfl⟩ := hs2
      obtain ⟨⟨rfl, k0⟩, ⟨k1, k2⟩, k3, k4, _⟩ := ho
      simp only [Bool.and_eq_true] at hg3
      obtain rfl := Nat.eq_of_beq_eq_true hg3.1
      have gz := beqZL_ok hg3.2
      subst gz
      have hrow := hR.row m _ hlm
      obtain ⟨b, s0, vs0, hb, hv0, q1, q2, q3, us, tt, rest, c, hcm, hblk, hrl, hcl, hrz, hds⟩ := hrow
      subst q1
      subst q3
      have hcs0 : cs0 = [] := by
        have := renL_len hv0
        exact List.eq_nil_of_length_eq_zero this.symm
      subst hcs0
      have hul := hds.len2
      rcases renV_slice hs' with ⟨p, c', hb', hcp, hse, hnn⟩ | ⟨hnn, _, _, _⟩
      case inr => exact (hR.shr.1 m _ hlm (fun e => by cases e) hnn).elim
      rw [hb] at hb'
      cases hb'
      rw [cpR_big, hcm] at hcp
      cases hcp
      have hcell : ∀ j, j < (us ++ rest).length → w.cell? ⟨b, j, none⟩ = (us ++ rest)[j]? := fun j hj => by
        rw [cell_of_row w b j _ tt _ hblk]; simp
      have hmore : DRv W w (shAll σ h) ds0 us := hds.more fun k hk => shAll_of hlm hk
      by_cases hroom : len + len0 ≤ c
      · obtain ⟨vn, hE, hsr⟩ := src_ k3 k4
        have hvn := hsr.newsLen
        have hfit : ds0.length + vn.length ≤ c * i.size := by
          rw [k0, hvn, ← Nat.add_mul]; exact Nat.mul_le_mul_right _ hroom
        have hrun := run_append_room_src (P := P) (ty := o.type) w t tx e i hu hi b (0 + 0) len c x' len0 vn hsr hroom (fun j hj => by
          have hlt2 : len * i.size + j < (us ++ rest).length := by omega
          rw [show 0 + 0 + len * i.size + j = len * i.size + j by omega, hcell _ hlt2, List.getElem?_eq_getElem hlt2]; rfl) (fun j hj => frozen_of_row w b _ _ tt hblk)
        have S := Stp.dpIn hR hf hlm hb hcm hE hfit
        refine ⟨_, _, _, S, ren_ (τ := σ) (by omega), fin ?_⟩
        rw [hse, hrun, k0]
        simp
      · have := grow_ (base := some ⟨b, 0 + 0, none⟩) (sLen := len) (sCap := c) (olds := us) (ds1 := ds0) hse k3 k4 (run_firstCells_some (P := P) w.drew i.size len _ len c us (by omega) (fun j u hj => by
            rw [addr_add]
            show w.cell? ⟨b, 0 + 0 + j, none⟩ = some u
            rw [show 0 + 0 + j = j by omega]
            have hjl := (List.getElem?_eq_some_iff.1 hj).1
            rw [hcell j (by simp; omega), List.getElem?_append_left hjl]
            exact hj)) hmore (by omega) (by omega) k2 k1 hf
        obtain ⟨σ', w', v', h1, h2, h3⟩ := this
        refine ⟨σ', w', v', h1.less (fun k r hk => ?_), h2, h3⟩
        rw [lk_cons] at hk ⊢
        split
        · rename_i e5; rw [if_pos e5] at hk; exact hk
        · rename_i e5
          rw [if_neg e5, lk_delH] at hk
          split at hk
          · cases hk
          · exact hk
    · rename_i hlm
      obtain ⟨hg3, hs2⟩ := bif_of hs1
      clear hs1
      simp only [Option.some.injEq, Prod.mk.injEq] at hs2
      obtain ⟨⟨rfl, rfl, rfl, rfl⟩, rfl⟩ := hs2
      obtain ⟨⟨k0, k1, k2⟩, k3, k4, _⟩ := ho
      simp only [Bool.and_eq_true] at hg3
      obtain rfl := Nat.eq_of_beq_eq_true hg3.1
      obtain rfl := Nat.eq_of_beq_eq_true hg3.2
      have hse : ∃ A, s' = .slice A 0 0 := by
        rcases renV_slice hs' with ⟨p, c', _, hcp, hse, _⟩ | ⟨_, _, _, hse⟩
        · rw [cpR_of (show 0 < capBig by unfold capBig; omega) (Nat.le_refl _)] at hcp
          cases hcp
          exact ⟨_, hse⟩
        · exact ⟨_, hse⟩
      obtain ⟨A, hse⟩ := hse
      have hfc : (Builtin.firstCells i.size 0 (.slice A 0 0)).run P w.drew = .ok ([] : List Value).toArray w.drew := run_firstCells_empty w.drew i.size A 0
      have := grow_ (base := A) (sLen := 0) (sCap := 0) (olds := []) (ds1 := []) hse k3 k4 hfc (by simp [DRv]) (by simp) (by omega) (by omega) (by rw [Nat.zero_add]; exact k1) hf
      simpa using this
    · cases hs1
  · cases hs1
def odU (P : Program) (md : Nat) (ev : Operand → Option Value) (h : Hp) (nx : Nat) (op : Op) : Option (Out × List Prop) := bif Nat.beq md 46 then daS P ev h nx op else odT P md ev h nx op
theorem odU_tidy {md : Nat} {ev : Operand → Option Value} {nx : Nat} {op : Op} {v : Value} {h' : Hp} {nx' : Nat} {d : List Nat} {ob : List Prop} (hs : odU P md ev h nx op = some ((v, h', nx', d), ob)) : Tidy h nx h' nx' d := by
  unfold odU at hs
  rcases bif_or hs with ⟨_, hs⟩ | ⟨_, hs⟩
  · exact daS_tidy hs
  · exact odT_tidy hs
theorem odU_ok {a : Act} (hR : Rl W σ h w) {md : Nat} {ev : Operand → Option Value} {nx nx' : Nat} (hf : Fresh σ nx nx') (H : Evs σ ev a) {o : Oper} {v : Value} {h' : Hp} {d : List Nat} {ob : List Prop} (hs : odU P md ev h nx o.op = some ((v, h', nx', d), ob)) (ho : Alls ob) :
    ∃ σ' w' v', Stp W nx nx' σ h w σ' h' w' ∧ renV σ' v = some v' ∧ Ends P a o w v' w' := by
  unfold odU at hs
  rcases bif_or hs with ⟨_, hs⟩ | ⟨_, hs⟩
  · exact daS_ok hR hf H hs ho
  · exact odT_ok hR hf H hs ho
end
end Go.Proofs.Ytmoflcoijmmpjaa
/-
  The told machine, part Zi: append of nothing to a row of slices (mode 49).
-/
namespace Go.Proofs.Ytmoflcoijmmpjaa
set_option linter.unusedSimpArgs false
set_option linter.unusedVariables false
set_option linter.unusedSectionVars false
open Go Go.RowKit

section
variable {P : Program} {W : World} {lo hi : Nat} {σ σ' : Sg} {h h' : Hp} {w w' : World}
def daN (P : Program) (ev : Operand → Option Value) (h : Hp) (nx : Nat) : Op → Option (Out × List Prop)
  | .call ⟨.builtin .append, args, ts⟩ => match ts.toList, evL ev args.toList with
    | [t, tx], some [.slice (some ⟨m, 0, none⟩) len cap, .slice none 0 0] => match P.underlying t, P.underlying tx, lk h m with
      | some (.slice e), some (.slice e2), some ⟨.dp sz zz ds, _⟩ => match P.info? e with
        | some i => bif Nat.beq sz i.size && Nat.ble 1 i.size then some ((.slice (some ⟨m, 0, none⟩) len cap, h, nx, []), [cap = capBig + m ∧ ds.length = len * i.size]) else none
        | none => none
      | _, _, _ => none
    | _, _ => none
  | _ => none
theorem daN_call {ev : Operand → Option Value} {nx : Nat} {op : Op} {x : Out × List Prop} (hs : daN P ev h nx op = some x) : ∃ args ts, op = .call ⟨.builtin .append, args, ts⟩ := by
  unfold daN at hs
  split at hs
  · exact ⟨_, _, rfl⟩
  · cases hs
theorem daN_tidy {ev : Operand → Option Value} {nx : Nat} {op : Op} {v : Value} {h' : Hp} {nx' : Nat} {d : List Nat} {ob : List Prop} (hs : daN P ev h nx op = some ((v, h', nx', d), ob)) : Tidy h nx h' nx' d := by
  unfold daN at hs
  split at hs
  case h_2 => cases hs
  split at hs
  case h_2 => cases hs
  split at hs
  case h_2 => cases hs
  split at hs
  case h_2 => cases hs
  obtain ⟨_, hs⟩ := bif_of hs
  simp only [Option.some.injEq, Prod.mk.injEq] at hs
  obtain ⟨⟨rfl, rfl, rfl, rfl⟩, _⟩ := hs
  exact ⟨Nat.le_refl _, fun n hn _ => rfl, fun hB n hn => hB n hn⟩
theorem daN_ok {a : Act} (hR : Rl W σ h w) {ev : Operand → Option Value} {nx nx' : Nat} (hf : Fresh σ nx nx') (H : Evs σ ev a) {o : Oper} {v : Value} {h' : Hp} {d : List Nat} {ob : List Prop} (hs : daN P ev h nx o.op = some ((v, h', nx', d), ob)) (ho : Alls ob) :
    ∃ σ' w' v', Stp W nx nx' σ h w σ' h' w' ∧ renV σ' v = some v' ∧ Ends P a o w v' w' := by
  obtain ⟨args, ts, hop⟩ := daN_call hs
  rw [hop] at hs
  simp only [daN] at hs
  split at hs
  case h_2 => cases hs
  rename_i t tx m len cap hte hev
  split at hs
  case h_2 => cases hs
  rename_i e e2 sz zz ds cs0 hu hu2 hlm
  split at hs
  case h_2 => cases hs
  rename_i i hi
  obtain ⟨hg, hs⟩ := bif_of hs
  simp only [Option.some.injEq, Prod.mk.injEq] at hs
  obtain ⟨⟨rfl, rfl, rfl, rfl⟩, rfl⟩ := hs
  obtain ⟨⟨rfl, k0⟩, _⟩ := ho
  simp only [Bool.and_eq_true] at hg
  obtain ⟨g1, g2⟩ := hg
  obtain rfl := Nat.eq_of_beq_eq_true g1
  have hpos : 0 < i.size := Nat.le_of_ble_eq_true g2
  obtain ⟨s', l, hs', hl, e1⟩ := renL_cons (evL_ok H hev)
  obtain ⟨x', l', hx', hl', rfl⟩ := renL_cons hl
  simp only [renL, Option.some.injEq] at hl'
  subst hl'
  simp only [renV, Option.some.injEq] at hx'
  subst hx'
  have hargs : args.map a.eval = #[s', .slice none 0 0] := by apply Array.toList_inj.1; rw [Array.toList_map, e1]
  have hts' : ts = #[t, tx] := by apply Array.toList_inj.1; simpa using hte
  obtain ⟨b, s0, vs0, hb, hv0, q1, q2, q3, us, tt, rest, c, hcm, hblk, hrl, hcl, hrz, hds⟩ := hR.row m _ hlm
  subst q1
  have hul := hds.len2
  rcases renV_slice hs' with ⟨p, c', hb', hcp, rfl, hnn⟩ | ⟨hnn, _, _, _⟩
  case inr => exact (hR.shr.1 m _ hlm (fun e => by cases e) hnn).elim
  rw [hb] at hb'
  cases hb'
  rw [cpR_big, hcm] at hcp
  cases hcp
  have hlc : len ≤ c := by
    rw [List.length_append, hul, k0] at hrl
    exact Nat.le_of_mul_le_mul_right (by omega) hpos
  have hrun := run_append_room_src (P := P) (ty := o.type) w t tx e i hu hi b (0 + 0) len c (.slice none 0 0) 0 [] (Src.ofNil w hu2 0) (by omega) (fun j hj => by simp at hj) (fun j hj => by simp at hj)
  refine ⟨σ, w, _, Stp.refl hR nx, hs', .inl ?_⟩
  unfold execOp
  simp only [hop, resolve, Sem.run_bind, Sem.run_pure, Result.andThen_ok, invoke, builtin, hargs, hts', hrun]
  simp [World.setCells]
def odS (P : Program) (md : Nat) (ev : Operand → Option Value) (h : Hp) (nx : Nat) (op : Op) : Option (Out × List Prop) := bif Nat.beq md 49 then daN P ev h nx op else odU P md ev h nx op
theorem odS_tidy {md : Nat} {ev : Operand → Option Value} {nx : Nat} {op : Op} {v : Value} {h' : Hp} {nx' : Nat} {d : List Nat} {ob : List Prop} (hs : odS P md ev h nx op = some ((v, h', nx', d), ob)) : Tidy h nx h' nx' d := by
  unfold odS at hs
  rcases bif_or hs with ⟨_, hs⟩ | ⟨_, hs⟩
  · exact daN_tidy hs
  · exact odU_tidy hs
theorem odS_ok {a : Act} (hR : Rl W σ h w) {md : Nat} {ev : Operand → Option Value} {nx nx' : Nat} (hf : Fresh σ nx nx') (H : Evs σ ev a) {o : Oper} {v : Value} {h' : Hp} {d : List Nat} {ob : List Prop} (hs : odS P md ev h nx o.op = some ((v, h', nx', d), ob)) (ho : Alls ob) :
    ∃ σ' w' v', Stp W nx nx' σ h w σ' h' w' ∧ renV σ' v = some v' ∧ Ends P a o w v' w' := by
  unfold odS at hs
  rcases bif_or hs with ⟨_, hs⟩ | ⟨_, hs⟩
  · exact daN_ok hR hf H hs ho
  · exact odU_ok hR hf H hs ho
end
end Go.Proofs.Ytmoflcoijmmpjaa
/-
  The told machine, part Zj: an own row of slices is shared from now on (mode 50, at a move).
-/
namespace Go.Proofs.Ytmoflcoijmmpjaa
set_option linter.unusedSimpArgs false
set_option linter.unusedVariables false
set_option linter.unusedSectionVars false
open Go Go.RowKit

section
variable {P : Program} {W : World} {lo hi : Nat} {σ σ' : Sg} {h h' : Hp} {w w' : World}
theorem drs_cells {F : List Nat} {b : Nat} (hb : b ∈ F) : ∀ {ds : List DV} {us : List Value} {s : Nat}, DRv W w F ds us → (∀ j u, us[j]? = some u → w.cell? ⟨b, s + j, none⟩ = some u) → DRs W w F b s ds
  | [], us, s, _, _ => by simp only [DRs]; exact .inr hb
  | d :: ds, us, s, h, hc => by
      simp only [DRv] at h
      obtain ⟨u, us', rfl, h1, h2⟩ := h
      simp only [DRs]
      refine ⟨⟨u, .inr ⟨hb, by simpa using hc 0 u rfl⟩, h1⟩, drs_cells hb h2 fun j v hj => ?_⟩
      have := hc (j + 1) v (by simpa using hj)
      rwa [show s + (j + 1) = s + 1 + j by omega] at this
theorem Stp.freezeD (hR : Rl W σ h w) {nx : Nat} (hf : Fresh σ nx (nx + 1)) {n b c size : Nat} {z : List Value} {ds : List DV} {cs0 : List Value} (hl : lk h n = some ⟨.dp size z ds, cs0⟩) (hb : σ.b n = some (b, 0)) :
    Stp W nx (nx + 1) σ h w (σ.vwc nx (b, 0) c (some (b :: shAll σ h)) none) ((nx, ⟨.sd ds, []⟩) :: delH h n) w := by
  have hown : (⟨.dp size z ds, cs0⟩ : Rw).own := fun e => by cases e
  have hN := hf nx (Nat.le_refl _) (by omega)
  have hbs : ∀ m, m ≠ nx → (σ.vwc nx (b, 0) c (some (b :: shAll σ h)) none).b m = σ.b m ∧ (σ.vwc nx (b, 0) c (some (b :: shAll σ h)) none).c m = σ.c m ∧ (σ.vwc nx (b, 0) c (some (b :: shAll σ h)) none).f m = σ.f m ∧ (σ.vwc nx (b, 0) c (some (b :: shAll σ h)) none).e m = σ.e m ∧ (σ.vwc nx (b, 0) c (some (b :: shAll σ h)) none).w = σ.w := fun m hm => by simp only [Sg.vwc]; rw [if_neg hm, if_neg hm, if_neg hm, if_neg hm]; exact ⟨rfl, rfl, rfl, rfl, trivial⟩
  have hbN : (σ.vwc nx (b, 0) c (some (b :: shAll σ h)) none).b nx = some (b, 0) := by simp [Sg.vwc]
  have hle : σ.le (σ.vwc nx (b, 0) c (some (b :: shAll σ h)) none) := by
    refine ⟨fun m q e => ?_, fun m k e => ?_, fun m q e => ?_⟩
    · have hm : m ≠ nx := fun e2 => by subst e2; rw [hN.1] at e; cases e
      rw [(hbs m hm).1]; exact e
    · have hm : m ≠ nx := fun e2 => by subst e2; rw [hN.2] at e; cases e
      rw [(hbs m hm).2.1]; exact e
    · have hm : m ≠ nx := fun e2 => by subst e2; rw [hN.1] at e; cases e
      exact (hbs m hm).2
  have cls : ∀ m s, lk ((nx, ⟨.sd ds, []⟩) :: delH h n) m = some s → (m = nx ∧ s = ⟨.sd ds, []⟩) ∨ (m ≠ nx ∧ m ≠ n ∧ lk h m = some s) := fun m s e => by
    rw [lk_cons] at e
    split at e
    · rename_i e1; cases e; exact .inl ⟨e1.symm, rfl⟩
    · rename_i e1
      rw [lk_delH] at e
      split at e
      · cases e
      · rename_i e2; exact .inr ⟨Ne.symm e1, Ne.symm e2, e⟩
  have hsh : sh (σ.vwc nx (b, 0) c (some (b :: shAll σ h)) none) nx = b :: shAll σ h := by simp [sh, Sg.vwc]
  have shs : ∀ m, m ≠ nx → sh (σ.vwc nx (b, 0) c (some (b :: shAll σ h)) none) m = sh σ m := fun m hm => by unfold sh; rw [(hbs m hm).2.2.1]
  have own_ : ∀ m s q, lk ((nx, ⟨.sd ds, []⟩) :: delH h n) m = some s → s.own → (σ.vwc nx (b, 0) c (some (b :: shAll σ h)) none).b m = some q → lk h m = some s ∧ m ≠ n ∧ σ.b m = some q := fun m s q hm hs hq => by
    rcases cls m s hm with ⟨rfl, rfl⟩ | ⟨e1, e2, e3⟩
    · exact absurd (ShKd.sd ds) hs
    · rw [(hbs m e1).1] at hq; exact ⟨e3, e2, hq⟩
  obtain ⟨b', s', vs', hb', _, h1, h2, h3, us, t, rest, c', hc, hcell, hlen, hcm, hz, hds⟩ := hR.row n _ hl
  rw [hb] at hb'
  cases hb'
  have hlt : b < w.heap.size := by
    rcases Nat.lt_or_ge b w.heap.size with hh | hh
    · exact hh
    · rw [Array.getElem?_eq_none hh] at hcell; cases hcell
  refine ⟨hle, fun m hm => ⟨(hbs m (by omega)).1, (hbs m (by omega)).2.1⟩, ⟨⟨hR.ext, fun m s hm => ?_, fun m k r1 r2 p q hm hk hr1 hr2 hp hq e => ?_⟩, hR.wf, fun m s hm hs => ?_, fun m s kk hm hk => ?_⟩, Nat.le_refl _, fun _ _ _ => rfl, fun m s p hm hs hp => ?_, fun m s kk hm hk => ?_⟩
  · rcases cls m s hm with ⟨rfl, rfl⟩ | ⟨e1, e2, e3⟩
    · refine ⟨b, 0, [], hbN, rfl, rfl, .inr ?_⟩
      rw [hsh]
      refine drs_cells (List.mem_cons_self ..) (hds.more fun k hk => List.mem_cons_of_mem _ (shAll_of hl hk)) fun j u hj => ?_
      rw [cell_of_row w b (0 + j) _ t _ hcell]
      have hj2 : (us ++ rest)[j]? = some u := by rw [List.getElem?_append_left (List.getElem?_eq_some_iff.1 hj).1]; exact hj
      simpa using hj2
    · exact hR.keepA e3 hle fun _ _ => rfl
  · obtain ⟨a1, _, a3⟩ := own_ m r1 p hm hr1 hp
    obtain ⟨b1, _, b3⟩ := own_ k r2 q hk hr2 hq
    exact hR.inj m k r1 r2 p q a1 b1 hr1 hr2 a3 b3 e
  · rcases cls m s hm with ⟨rfl, rfl⟩ | ⟨e1, e2, e3⟩
    · exact absurd (ShKd.sd ds) hs
    · rw [(hbs m e1).2.2.1]; exact hR.shr.1 m s e3 hs
  · have old_ : ∀ m0 s0, lk h m0 = some s0 → kk ∈ sh σ m0 → kk < w.heap.size ∧ ∀ m s q, lk ((nx, ⟨.sd ds, []⟩) :: delH h n) m = some s → s.own → (σ.vwc nx (b, 0) c (some (b :: shAll σ h)) none).b m = some q → q.1 ≠ kk := fun m0 s0 g1 g2 => by
      obtain ⟨g3, g4⟩ := hR.shr.2 m0 s0 kk g1 g2
      refine ⟨g3, fun m s q hm hs hq => ?_⟩
      obtain ⟨a1, a2, a3⟩ := own_ m s q hm hs hq
      exact g4 m s q a1 hs a3
    rcases cls m s hm with ⟨rfl, rfl⟩ | ⟨e1, e2, e3⟩
    · rw [hsh] at hk
      rcases List.mem_cons.1 hk with rfl | hk
      · refine ⟨hlt, fun m s q hm hs hq e => ?_⟩
        obtain ⟨a1, a2, a3⟩ := own_ m s q hm hs hq
        exact a2 (hR.inj m n s _ q _ a1 hl hs hown a3 hb e)
      · obtain ⟨m0, s0, g1, g2⟩ := shAll_mem hk
        exact old_ m0 s0 g1 g2
    · rw [shs m e1] at hk
      exact old_ m s e3 hk
  · obtain ⟨a1, _, a3⟩ := own_ m s p hm hs hp
    exact .inr ⟨m, s, p, a1, hs, a3, rfl⟩
  · rcases cls m s hm with ⟨rfl, rfl⟩ | ⟨e1, e2, e3⟩
    · rw [hsh] at hk
      rcases List.mem_cons.1 hk with rfl | hk
      · exact .inr (.inl ⟨n, _, (kk, 0), hl, hown, hb, rfl⟩)
      · obtain ⟨m0, s0, g1, g2⟩ := shAll_mem hk
        exact .inr (.inr ⟨m0, s0, g1, g2⟩)
    · rw [shs m e1] at hk
      exact .inr (.inr ⟨m, s, e3, hk⟩)
def fzD (ev : Operand → Option Value) (h : Hp) (nx : Nat) : Op → Option (Out × List Prop)
  | .move x => match ev x with
    | some (.slice (some ⟨n, 0, none⟩) len cap) => match lk h n with
      | some ⟨.dp _ _ ds, _⟩ => some ((.slice (some ⟨nx, 0, none⟩) len (capBig + nx), (nx, ⟨.sd ds, []⟩) :: delH h n, nx + 1, [n]), [cap = capBig + n])
      | _ => none
    | _ => none
  | _ => none
theorem fzD_tidy {ev : Operand → Option Value} {nx : Nat} {op : Op} {v : Value} {h' : Hp} {nx' : Nat} {d : List Nat} {ob : List Prop} (hs : fzD ev h nx op = some ((v, h', nx', d), ob)) : Tidy h nx h' nx' d := by
  unfold fzD at hs
  split at hs
  case h_2 => cases hs
  split at hs
  case h_2 => cases hs
  split at hs
  case h_2 => cases hs
  simp only [Option.some.injEq, Prod.mk.injEq] at hs
  obtain ⟨⟨rfl, rfl, rfl, rfl⟩, _⟩ := hs
  refine ⟨by omega, fun m hn hd => ?_, fun hB m hn => ?_⟩
  · rw [lk_cons, if_neg (by omega), lk_delH, if_neg (fun e => hd (by simp [e]))]
  · rw [lk_cons, if_neg (by omega), lk_delH]
    split
    · rfl
    · exact hB m (by omega)
theorem fzD_ok {a : Act} (hR : Rl W σ h w) {ev : Operand → Option Value} {nx nx' : Nat} (hf : Fresh σ nx nx') (H : Evs σ ev a) {o : Oper} {v : Value} {h' : Hp} {d : List Nat} {ob : List Prop} (hs : fzD ev h nx o.op = some ((v, h', nx', d), ob)) (ho : Alls ob) :
    ∃ σ' w' v', Stp W nx nx' σ h w σ' h' w' ∧ renV σ' v = some v' ∧ Ends P a o w v' w' := by
  unfold fzD at hs
  split at hs
  case h_2 => cases hs
  rename_i x hop
  split at hs
  case h_2 => cases hs
  rename_i n len cap hx
  split at hs
  case h_2 => cases hs
  rename_i sz z ds cs0 hl
  simp only [Option.some.injEq, Prod.mk.injEq] at hs
  obtain ⟨⟨rfl, rfl, rfl, rfl⟩, rfl⟩ := hs
  obtain ⟨rfl, _⟩ := ho
  have hx' := H x _ hx
  obtain ⟨b, s0, vs0, hb, hv0, q1, q2, q3, us, tt, rest, c, hcm, hblk, hrl, hcl, hrz, hds⟩ := hR.row n _ hl
  subst q1
  rcases renV_slice hx' with ⟨p, c', hb', hcp, he, hnn⟩ | ⟨hnn, _, _, _⟩
  case inr => exact (hR.shr.1 n _ hl (fun e => by cases e) hnn).elim
  rw [hb] at hb'
  cases hb'
  rw [cpR_big, hcm] at hcp
  cases hcp
  refine ⟨_, w, _, Stp.freezeD (c := c) hR hf hl hb, renV_slice_mk (o := 0) (p := (b, 0)) (c' := c) (by simp [Sg.vwc]) (by unfold cpR; rw [if_neg (by omega), Nat.add_sub_cancel_left]; simp [Sg.vwc]) (by simp [Sg.vwc]) (.inr (by rw [he] at hx'; exact renV_len hR.wf hx')), .inl ?_⟩
  unfold execOp
  simp only [hop, Sem.run_pure, he]
def odF (P : Program) (md : Nat) (ev : Operand → Option Value) (h : Hp) (nx : Nat) (op : Op) : Option (Out × List Prop) := bif Nat.beq md 50 then fzD ev h nx op else odS P md ev h nx op
theorem odF_tidy {P : Program} {h : Hp} {md : Nat} {ev : Operand → Option Value} {nx : Nat} {op : Op} {v : Value} {h' : Hp} {nx' : Nat} {d : List Nat} {ob : List Prop} (hs : odF P md ev h nx op = some ((v, h', nx', d), ob)) : Tidy h nx h' nx' d := by
  unfold odF at hs
  cases hb : Nat.beq md 50 with
  | true => rw [hb] at hs; exact fzD_tidy hs
  | false => rw [hb] at hs; exact odS_tidy hs
theorem odF_ok {a : Act} (hR : Rl W σ h w) {md : Nat} {ev : Operand → Option Value} {nx nx' : Nat} (hf : Fresh σ nx nx') (H : Evs σ ev a) {o : Oper} {v : Value} {h' : Hp} {d : List Nat} {ob : List Prop} (hs : odF P md ev h nx o.op = some ((v, h', nx', d), ob)) (ho : Alls ob) :
    ∃ σ' w' v', Stp W nx nx' σ h w σ' h' w' ∧ renV σ' v = some v' ∧ Ends P a o w v' w' := by
  unfold odF at hs
  cases hb : Nat.beq md 50 with
  | true => rw [hb] at hs; exact fzD_ok hR hf H hs ho
  | false => rw [hb] at hs; exact odS_ok hR hf H hs ho
end
end Go.Proofs.Ytmoflcoijmmpjaa
