/-
  The told machine, part Zf: rows of slices that are made of new memory alone: append of an element (mode 45).
-/
import Derived.Test.YtmoflcoijmmpjaaVmZs
namespace Go.Proofs.Ytmoflcoijmmpjaa
set_option linter.unusedSimpArgs false
set_option linter.unusedVariables false
set_option linter.unusedSectionVars false
open Go Go.RowKit

section
variable {P : Program} {W : World} {lo hi : Nat} {σ σ' : Sg} {h h' : Hp} {w w' : World}
def isFr : Kd → Bool
  | .of => true
  | .df _ _ _ => true
  | _ => false
def shF (σ : Sg) (h : Hp) : List Nat := h.flatMap fun e => match lk h e.1 with | some r => bif isFr r.kd then sh σ e.1 else [] | none => []
theorem shF_mem {k : Nat} (hk : k ∈ shF σ h) : ∃ m s, lk h m = some s ∧ isFr s.kd = true ∧ k ∈ sh σ m := by
  obtain ⟨e, h1, h2⟩ := List.mem_flatMap.1 hk
  split at h2
  · rename_i r hr
    cases hb : isFr r.kd with
    | true => rw [hb] at h2; exact ⟨e.1, r, hr, hb, h2⟩
    | false => rw [hb] at h2; cases h2
  · cases h2
theorem shF_of {k m : Nat} {s : Rw} (hl : lk h m = some s) (hb : isFr s.kd = true) (hk : k ∈ sh σ m) : k ∈ shF σ h := List.mem_flatMap.2 ⟨(m, s), mem_lk hl, by simp only [hl, hb, cond_true]; exact hk⟩
theorem shF_ok (hR : Rl W σ h w) : FOk W w (shF σ h) := fun k hk => by
  obtain ⟨m, s, h1, h2, h3⟩ := shF_mem hk
  obtain ⟨b, c, vs, e1, e2, e3⟩ := hR.row m s h1
  obtain ⟨kd, cs⟩ := s
  cases kd with
  | of => exact e3.1 k h3
  | df sz zz ds => exact e3.1 k h3
  | _ => cases h2
def elF (h : Hp) : List Value → Option (List DV × List Prop)
  | [] => some ([], [])
  | v :: vs => match elF h vs with
    | some (ds, ob) => (match v with
      | .slice (some ⟨k, 0, none⟩) n _ => (match lk h k with
        | some ⟨.of, cs⟩ => some (.sl n none (cs.map DV.fl) :: ds, ((∀ τ, renL τ cs = some cs) ∧ (n = 0 → cs = [])) :: ob)
        | _ => none)
      | .slice none 0 0 => some (.sl 0 none [] :: ds, ob)
      | .slice _ _ _ => none
      | v => bif noAd v then some (.fl v :: ds, ob) else none)
    | none => none
theorem elF_ok (hR : Rl W σ h w) {V : World} : ∀ {cells : List Value} {ds : List DV} {ob : List Prop} {us : List Value}, elF h cells = some (ds, ob) → Alls ob → renL σ cells = some us → DRv V w (shF σ h) ds us
  | [], ds, ob, us, h1, _, h3 => by
      simp only [elF, Option.some.injEq, Prod.mk.injEq] at h1
      obtain ⟨rfl, _⟩ := h1
      simp only [renL, Option.some.injEq] at h3
      subst h3
      simp [DRv]
  | v :: vs, ds, ob, us, h1, h2, h3 => by
      obtain ⟨u, us', hu, hus, rfl⟩ := renL_cons h3
      simp only [elF] at h1
      split at h1
      case h_2 => cases h1
      rename_i ds' ob' hrec
      split at h1
      · rename_i k n c
        split at h1
        · rename_i cs hl
          simp only [Option.some.injEq, Prod.mk.injEq] at h1
          obtain ⟨rfl, rfl⟩ := h1
          obtain ⟨⟨hf, hz⟩, ho⟩ := h2
          simp only [DRv]
          refine ⟨_, _, rfl, ?_, elF_ok hR hrec ho hus⟩
          obtain ⟨b, s, vs', hb, hv, hk⟩ := hR.row k _ hl
          simp only at hv
          rw [hf σ] at hv
          cases hv
          simp only [DR]
          rcases renV_slice hu with ⟨p, c', hb', _, rfl, _⟩ | ⟨hn, rfl, _, rfl⟩
          · rw [hb] at hb'
            cases hb'
            refine .inr ⟨b, s + 0, c', rfl, ⟨renV_len hR.wf hu, fun k e => (by cases e)⟩, ?_⟩
            rcases hk.2 with hk | hk
            · exact .inl (by rw [hk]; rfl)
            · exact .inr (drs_of hf (.inr ⟨shF_of hl rfl hk.1, hk.2⟩))
          · obtain rfl := hz rfl
            exact .inl ⟨rfl, rfl, .inl trivial, _, rfl⟩
        · cases h1
      · simp only [Option.some.injEq, Prod.mk.injEq] at h1
        obtain ⟨rfl, rfl⟩ := h1
        simp only [DRv]
        refine ⟨_, _, rfl, ?_, elF_ok hR hrec h2 hus⟩
        simp only [renV, Option.some.injEq] at hu
        subst hu
        rw [DR]
        exact .inl ⟨rfl, rfl, .inl rfl, none, rfl⟩
      · cases h1
      · obtain ⟨hna, h1⟩ := bif_of h1
        simp only [Option.some.injEq, Prod.mk.injEq] at h1
        obtain ⟨rfl, rfl⟩ := h1
        simp only [DRv]
        refine ⟨_, _, rfl, ?_, elF_ok hR hrec h2 hus⟩
        rw [noAd_ren σ hna] at hu
        cases hu
        rw [DR]
        exact ⟨rfl, fun τ => noAd_ren τ hna⟩
def daF (P : Program) (ev : Operand → Option Value) (h : Hp) (nx : Nat) : Op → Option (Out × List Prop)
  | .call ⟨.builtin .append, args, ts⟩ => match ts.toList, evL ev args.toList with
    | [t, tx], some [s, x] => match P.underlying t with
      | some (.slice e) => match P.info? e with
        | some i => match srcZ P h i.size tx x, i.zero with
          | some (n, news, ob2), some z => match elF h news with
            | some (es, ob) => bif Nat.beq n 1 && (Nat.beq z.cells.toList.length i.size && Nat.ble 1 i.size) then (match s with
              | .slice none 0 0 => some ((.slice (some ⟨nx + 1, 0, none⟩) 1 (capBig + (nx + 1)), (nx + 1, ⟨.df i.size z.cells.toList es, []⟩) :: h, nx + 2, []), (i.bytes ≤ 140737488355328) :: (ob ++ ob2))
              | .slice (some ⟨m, 0, none⟩) len cap => (match lk h m with
                | some ⟨.df sz zz ds, _⟩ => bif Nat.beq sz i.size && beqZL zz z.cells.toList then some ((.slice (some ⟨nx + 1, 0, none⟩) (len + 1) (capBig + (nx + 1)), (nx + 1, ⟨.df i.size z.cells.toList (ds ++ es), []⟩) :: delH h m, nx + 2, [m]), (cap = capBig + m ∧ ds.length = len * i.size) :: ((len + 1) * i.bytes ≤ 140737488355328 ∧ len + 1 ≤ 9223372036854775807) :: (ob ++ ob2)) else none
                | _ => none)
              | _ => none) else none
            | none => none
          | _, _ => none
        | none => none
      | _ => none
    | _, _ => none
  | _ => none
theorem Stp.dfNew (hR : Rl W σ h w) {nx : Nat} (hf : Fresh σ nx (nx + 2)) {es : List DV} {vs zs : List Value} {t : TypeId} {size c : Nat} {z : List Value} (hv : ∀ V, DRv V w (shF σ h) es vs) (hl : (vs ++ zs).length = c * size) (hc : c ≤ maxLen) (hz : ∀ x ∈ zs, x ∈ z) :
    Stp W nx (nx + 2) σ h w ((σ.bindc nx (w.heap.size, 0) c).vwc (nx + 1) (w.heap.size, 0) c (some (shF σ h)) none) ((nx + 1, ⟨.df size z es, []⟩) :: h) (w.alloc (.cells (vs ++ zs).toArray t)) := by
  have S := Stp.grow hR (hf.low (by omega)) (cs := []) (vs := []) rfl t (size := size) (c := c) (rest := vs ++ zs) (by simpa using hl) hc (z := vs ++ zs) (fun x hx => hx)
  simp only [List.nil_append] at S
  have hl0 : lk ((nx, (⟨.room size (vs ++ zs), []⟩ : Rw)) :: h) nx = some ⟨.room size (vs ++ zs), []⟩ := by rw [lk_cons, if_pos rfl]
  have hne : ∀ m r, lk h m = some r → m ≠ nx := fun m r hm e => by
    subst e
    obtain ⟨b', s', vs', hb', _⟩ := hR.row _ _ hm
    rw [(hf m (Nat.le_refl _) (by omega)).1] at hb'
    cases hb'
  have hS : ∀ q, q ∈ shF σ h → q < w.heap.size := fun q hq => by
    obtain ⟨m, s, h1, _, h2⟩ := shF_mem hq
    exact (hR.shr.2 m s q h1 h2).1
  have hw : ∀ k, k ∈ shF σ h → (w.alloc (.cells (vs ++ zs).toArray t)).heap[k]? = w.heap[k]? := fun k hk => Below.block ((Ext.refl w).alloc _) k (hS k hk)
  have T := S.toDp (NX := nx + 1) (c := c) (F := shF σ h) (r' := ⟨.df size z es, []⟩) (b := w.heap.size) (by omega) (by omega) (hf.low (by omega)) hl0 (fun e => by cases e) (by simp [Sg.bindc]) (fun e => by cases e) (fun q hq => by
    obtain ⟨m, s, h1, _, h2⟩ := shF_mem hq
    have := hne m s h1
    refine ⟨m, s, by rw [lk_cons, if_neg (Ne.symm this)]; exact h1, ?_⟩
    unfold sh at h2 ⊢
    simp only [Sg.bindc]
    rwa [if_neg this]) ⟨w.heap.size, 0, [], by simp [Sg.vwc], rfl, by
      rw [show sh ((σ.bindc nx (w.heap.size, 0) c).vwc (nx + 1) (w.heap.size, 0) c (some (shF σ h)) none) (nx + 1) = shF σ h by simp [sh, Sg.vwc]]
      exact (shF_ok hR).keep hw, rfl, hR.ext.size, rfl, vs, t, zs, c, by simp [Sg.vwc], heap_alloc_new w _, hl, hc, hz, fun V => by
      rw [show sh ((σ.bindc nx (w.heap.size, 0) c).vwc (nx + 1) (w.heap.size, 0) c (some (shF σ h)) none) (nx + 1) = shF σ h by simp [sh, Sg.vwc]]
      exact DRv.keep hw _ _ (hv V)⟩
  refine T.less fun m r hm => ?_
  rw [lk_cons] at hm ⊢
  split
  · rename_i e; rw [if_pos e] at hm; exact hm
  · rename_i e
    rw [if_neg e] at hm
    have := hne m r hm
    rw [lk_delH, if_neg (Ne.symm this), lk_cons, if_neg (Ne.symm this)]
    exact hm
theorem Stp.dfIn (hR : Rl W σ h w) {nx : Nat} (hf : Fresh σ nx (nx + 2)) {m b c size : Nat} {ds es : List DV} {vs z : List Value} (hl : lk h m = some ⟨.df size z ds, []⟩) (hb : σ.b m = some (b, 0)) (hc : σ.c m = some c) (hv : ∀ V, DRv V w (shF σ h) es vs) (hle : ds.length + vs.length ≤ c * size) :
    Stp W nx (nx + 2) σ h w (σ.vwc (nx + 1) (b, 0) c (some (shF σ h)) none) ((nx + 1, ⟨.df size z (ds ++ es), []⟩) :: delH h m) (w.setCells b ds.length vs) := by
  have hown : (⟨.df size z ds, []⟩ : Rw).own := fun e => by cases e
  obtain ⟨b', s', vs', hb', _, hf0, h1, h2, h3, us, t, rest, c', hc', hcell, hlen, hcm, hz, hds⟩ := hR.row m _ hl
  rw [hb] at hb'
  cases hb'
  rw [hc] at hc'
  cases hc'
  have hul := (hds W).len2
  have hsp : splice (us ++ rest) us.length vs = us ++ vs ++ rest.drop vs.length := splice_mid vs us rest (by
    simp only [List.length_append] at hlen
    omega)
  have hblk : (w.setCells b ds.length vs).heap[b]? = some (.cells (us ++ vs ++ rest.drop vs.length).toArray t (0, 0)) := by
    have := setCells_same vs w b ds.length _ t hcell
    simp only at this
    rw [← hul, hsp] at this
    rw [← hul]
    exact this
  have hoth : ∀ k, k ≠ b → (w.setCells b ds.length vs).heap[k]? = w.heap[k]? := fun k hk => setCells_other vs w b ds.length k hk
  have S := Stp.turnW hR hl hown hb (ext_setCells vs hR.ext h2 ds.length) (setCells_size vs w b ds.length) hoth .lent (fun e => by cases e) ⟨rfl, h2, t, us ++ vs ++ rest.drop vs.length, (0, 0), by simpa using hblk⟩ nx
  have hS : ∀ q, q ∈ shF σ h → q ≠ b := fun q hq e => by
    obtain ⟨m0, s0, g1, _, g2⟩ := shF_mem hq
    exact (hR.shr.2 m0 s0 q g1 g2).2 m _ (b, 0) hl hown hb e.symm
  have hw : ∀ k, k ∈ shF σ h → (w.setCells b ds.length vs).heap[k]? = w.heap[k]? := fun k hk => hoth k (hS k hk)
  have hl0 : lk (setH h m ⟨.lent, []⟩) m = some ⟨.lent, []⟩ := by rw [lk_setH, if_pos rfl]
  have T := S.toDp (NX := nx + 1) (c := c) (F := shF σ h) (r' := ⟨.df size z (ds ++ es), []⟩) (b := b) (by omega) (by omega) (hf.low (by omega)) hl0 (fun e => by cases e) hb (fun e => by cases e) (fun q hq => by
    obtain ⟨m0, s0, g1, _, g2⟩ := shF_mem hq
    by_cases e : m0 = m
    · subst e; exact ⟨m0, _, hl0, g2⟩
    · exact ⟨m0, s0, by rw [lk_setH, if_neg (Ne.symm e)]; exact g1, g2⟩) ⟨b, 0, [], by simp [Sg.vwc], rfl, by
      rw [show sh (σ.vwc (nx + 1) (b, 0) c (some (shF σ h)) none) (nx + 1) = shF σ h by simp [sh, Sg.vwc]]
      exact (shF_ok hR).keep hw, rfl, h2, rfl, us ++ vs, t, rest.drop vs.length, c, by simp [Sg.vwc], hblk, by
      simp only [List.length_append, List.length_drop] at hlen ⊢
      omega, hcm, (fun x hx => hz x (List.mem_of_mem_drop hx)), fun V => by
      rw [show sh (σ.vwc (nx + 1) (b, 0) c (some (shF σ h)) none) (nx + 1) = shF σ h by simp [sh, Sg.vwc]]
      exact DRv.keep hw _ _ (((hds V).more fun k hk => shF_of hl rfl hk).app2 (hv V))⟩
  refine T.less fun k r hm => ?_
  rw [lk_cons] at hm ⊢
  split
  · rename_i e; rw [if_pos e] at hm; exact hm
  · rename_i e
    rw [if_neg e, lk_delH] at hm
    split at hm
    · cases hm
    · rename_i e2
      rw [lk_delH, if_neg e2, lk_setH, if_neg e2]
      exact hm
theorem daF_call {ev : Operand → Option Value} {nx : Nat} {op : Op} {x : Out × List Prop} (hs : daF P ev h nx op = some x) : ∃ args ts, op = .call ⟨.builtin .append, args, ts⟩ := by
  unfold daF at hs
  split at hs
  · exact ⟨_, _, rfl⟩
  · cases hs
theorem daF_tidy {ev : Operand → Option Value} {nx : Nat} {op : Op} {v : Value} {h' : Hp} {nx' : Nat} {d : List Nat} {ob : List Prop} (hs : daF P ev h nx op = some ((v, h', nx', d), ob)) : Tidy h nx h' nx' d := by
  unfold daF at hs
  split at hs
  case h_2 => cases hs
  split at hs
  case h_2 => cases hs
  split at hs
  case h_2 => cases hs
  split at hs
  case h_2 => cases hs
  split at hs
  case h_2 => cases hs
  split at hs
  case h_2 => cases hs
  obtain ⟨_, hs⟩ := bif_of hs
  split at hs
  · simp only [Option.some.injEq, Prod.mk.injEq] at hs
    obtain ⟨⟨rfl, rfl, rfl, rfl⟩, _⟩ := hs
    exact ⟨by omega, fun n hn _ => by rw [lk_cons, if_neg (by omega)], fun hB n hn => by rw [lk_cons, if_neg (by omega)]; exact hB n (by omega)⟩
  · split at hs
    · obtain ⟨_, hs⟩ := bif_of hs
      simp only [Option.some.injEq, Prod.mk.injEq] at hs
      obtain ⟨⟨rfl, rfl, rfl, rfl⟩, _⟩ := hs
      refine ⟨by omega, fun n hn hd => ?_, fun hB n hn => ?_⟩
      · rw [lk_cons, if_neg (by omega), lk_delH, if_neg (fun e => hd (by simp [e]))]
      · rw [lk_cons, if_neg (by omega), lk_delH]
        split
        · rfl
        · exact hB n (by omega)
    · cases hs
  · cases hs
theorem daF_ok {a : Act} (hR : Rl W σ h w) {ev : Operand → Option Value} {nx nx' : Nat} (hf : Fresh σ nx nx') (H : Evs σ ev a) {o : Oper} {v : Value} {h' : Hp} {d : List Nat} {ob : List Prop} (hs : daF P ev h nx o.op = some ((v, h', nx', d), ob)) (ho : Alls ob) :
    ∃ σ' w' v', Stp W nx nx' σ h w σ' h' w' ∧ renV σ' v = some v' ∧ Ends P a o w v' w' := by
  obtain ⟨args, ts, hop⟩ := daF_call hs
  rw [hop] at hs
  simp only [daF] at hs
  split at hs
  case h_2 => cases hs
  rename_i t tx s x hte hev
  split at hs
  case h_2 => cases hs
  rename_i e hu
  split at hs
  case h_2 => cases hs
  rename_i i hi
  split at hs
  case h_2 => cases hs
  rename_i n news ob2 z hsrc hz
  split at hs
  case h_2 => cases hs
  rename_i es ob1 hel
  obtain ⟨hg, hs1⟩ := bif_of hs
  clear hs
  simp only [Bool.and_eq_true] at hg
  obtain ⟨g0, g1, g2⟩ := hg
  obtain rfl := Nat.eq_of_beq_eq_true g0
  have hzs : z.cells.size = i.size := by have := Nat.eq_of_beq_eq_true g1; simpa using this
  obtain ⟨s', l, hs', hl, e1⟩ := renL_cons (evL_ok H hev)
  obtain ⟨x', l', hx', hl', rfl⟩ := renL_cons hl
  simp only [renL, Option.some.injEq] at hl'
  subst hl'
  have hargs : args.map a.eval = #[s', x'] := by apply Array.toList_inj.1; rw [Array.toList_map, e1]
  have hts' : ts = #[t, tx] := by apply Array.toList_inj.1; simpa using hte
  have fin : ∀ {v' w'}, (Builtin.append_ #[t, tx] o.type #[s', x']).run P w = .ok v' w' → Ends P a o w v' w' := fun h3 => by
    refine .inl ?_
    unfold execOp
    simp only [hop, resolve, Sem.run_bind, Sem.run_pure, Result.andThen_ok, invoke, builtin, hargs, hts', h3]
  have ren_ : ∀ {τ : Sg} {b c len : Nat}, len ≤ c → renV (τ.vwc (nx + 1) (b, 0) c (some (shF σ h)) none) (.slice (some ⟨nx + 1, 0, none⟩) len (capBig + (nx + 1))) = some (.slice (some ⟨b, 0, none⟩) len c) := fun {τ b c len} hl =>
    renV_slice_mk (o := 0) (p := (b, 0)) (by simp [Sg.vwc]) (by unfold cpR; rw [if_neg (by omega), Nat.add_sub_cancel_left]; simp [Sg.vwc]) (by simp [Sg.vwc]) (.inr hl)
  have grow_ : ∀ {base : Option Addr} {sLen sCap : Nat} {olds : List Value} {ds : List DV}, s' = .slice base sLen sCap → Alls ob1 → Alls ob2 → (Builtin.firstCells i.size sLen (.slice base sLen sCap)).run P w.drew = .ok olds.toArray w.drew → (∀ V, DRv V w (shF σ h) ds olds) → olds.length = sLen * i.size → sCap < sLen + 1 → sLen + 1 ≤ 9223372036854775807 → (sLen + 1) * i.bytes ≤ 140737488355328 → Fresh σ nx (nx + 2) →
      ∃ σ' w' v', Stp W nx (nx + 2) σ h w σ' ((nx + 1, ⟨.df i.size z.cells.toList (ds ++ es), []⟩) :: h) w' ∧ renV σ' (.slice (some ⟨nx + 1, 0, none⟩) (sLen + 1) (capBig + (nx + 1))) = some v' ∧ Ends P a o w v' w' := by
    intro base sLen sCap olds ds hse ho1 ho2 hold hds hol hg h63 hb hf
    obtain ⟨vn, hn, hsr⟩ := srcV_ok hR (srcZ_ok hsrc ho2) hx'
    have hE := fun V => elF_ok hR (V := V) hel ho1 hn
    have hrun := run_append_grow_src (P := P) (ty := o.type) w t tx e i z hu hi hz base sLen sCap olds hold x' 1 vn hsr hg (by omega) (growslice_fits hg hb)
    have hge := grownCap_ge w (sLen + 1) sCap e
    have hle := grownCap_le_maxLen w (sLen + 1) sCap e (by unfold maxLen; omega)
    have hd := Stp.drew hR nx
    have hlen : (olds ++ vn ++ (Builtin.zeroCells z.cells (grownCap w (sLen + 1) sCap e - (sLen + 1))).toList).length = grownCap w (sLen + 1) sCap e * i.size := by
      rw [List.length_append, List.length_append, hol, hsr.newsLen, Array.length_toList, size_zeroCells, hzs, ← Nat.add_mul, ← Nat.add_mul]
      congr 1
      omega
    have S := Stp.dfNew hd.rl hf (t := e) (fun V => DRv.keep (w := w) (w1 := w.drew) (F := shF σ h) (fun _ _ => rfl) (ds ++ es) (olds ++ vn) ((hds V).app2 (hE V))) hlen hle (z := z.cells.toList) zero_mem
    refine ⟨_, _, _, hd.trans S (Nat.le_refl _) (by omega), ren_ (by omega), fin ?_⟩
    rw [hse, hrun]
    congr 2
    apply congrArg (fun q => Obj.cells q e (0, 0))
    apply Array.toList_inj.1
    simp
  split at hs1
  · simp only [Option.some.injEq, Prod.mk.injEq] at hs1
    obtain ⟨⟨rfl, rfl, rfl, rfl⟩, rfl⟩ := hs1
    obtain ⟨k1, k23⟩ := ho
    obtain ⟨k2, k3⟩ := Alls_app.1 k23
    have := grow_ (base := none) (sLen := 0) (sCap := 0) (olds := []) (ds := []) (by simpa only [renV, Option.some.injEq] using hs'.symm) k2 k3 (run_firstCells_none w.drew i.size 0 0 0) (fun V => by simp [DRv]) (by simp) (by omega) (by omega) (by omega) hf
    simpa using this
  · rename_i m len cap
    split at hs1
    case h_2 => cases hs1
    rename_i sz zz ds cs0 hlm
    obtain ⟨hg3, hs2⟩ := bif_of hs1
    clear hs1
    simp only [Option.some.injEq, Prod.mk.injEq] at hs2
    obtain ⟨⟨rfl, rfl, rfl, rfl⟩, rfl⟩ := hs2
    obtain ⟨⟨rfl, k0⟩, ⟨k1, k2⟩, k34⟩ := ho
    obtain ⟨k3, k4⟩ := Alls_app.1 k34
    simp only [Bool.and_eq_true] at hg3
    obtain rfl := Nat.eq_of_beq_eq_true hg3.1
    have gz := beqZL_ok hg3.2
    subst gz
    have hrow := hR.row m _ hlm
    obtain ⟨b, s0, vs0, hb, hv0, _, q1, q2, q3, us, tt, rest, c, hcm, hblk, hrl, hcl, hrz, hds⟩ := hrow
    subst q1
    subst q3
    have hcs0 : cs0 = [] := by
      have := renL_len hv0
      exact List.eq_nil_of_length_eq_zero this.symm
    subst hcs0
    have hul := (hds W).len2
    rcases renV_slice hs' with ⟨p, c', hb', hcp, hse, hnn⟩ | ⟨hnn, _, _, _⟩
    case inr => exact (hR.shr.1 m _ hlm (fun e => by cases e) hnn).elim
    rw [hb] at hb'
    cases hb'
    rw [cpR_big, hcm] at hcp
    cases hcp
    have hcell : ∀ j, j < (us ++ rest).length → w.cell? ⟨b, j, none⟩ = (us ++ rest)[j]? := fun j hj => by
      rw [cell_of_row w b j _ tt _ hblk]; simp
    have hmore : ∀ V, DRv V w (shF σ h) ds us := fun V => (hds V).more fun k hk => shF_of hlm rfl hk
    by_cases hroom : len + 1 ≤ c
    · obtain ⟨vn, hn, hsr⟩ := srcV_ok hR (srcZ_ok hsrc k4) hx'
      have hE := fun V => elF_ok hR (V := V) hel k3 hn
      have hvn := hsr.newsLen
      have hfit : ds.length + vn.length ≤ c * i.size := by
        rw [k0, hvn, ← Nat.add_mul]; exact Nat.mul_le_mul_right _ hroom
      have hrun := run_append_room_src (P := P) (ty := o.type) w t tx e i hu hi b (0 + 0) len c x' 1 vn hsr hroom (fun j hj => by
        have hlt2 : len * i.size + j < (us ++ rest).length := by omega
        rw [show 0 + 0 + len * i.size + j = len * i.size + j by omega, hcell _ hlt2, List.getElem?_eq_getElem hlt2]; rfl) (fun j hj => frozen_of_row w b _ _ tt hblk)
      have S := Stp.dfIn hR hf hlm hb hcm hE hfit
      refine ⟨_, _, _, S, ren_ (τ := σ) (by omega), fin ?_⟩
      rw [hse, hrun, k0]
      simp
    · have := grow_ (base := some ⟨b, 0 + 0, none⟩) (sLen := len) (sCap := c) (olds := us) (ds := ds) hse k3 k4 (run_firstCells_some (P := P) w.drew i.size len _ len c us (by omega) (fun j u hj => by
          rw [addr_add]
          show w.cell? ⟨b, 0 + 0 + j, none⟩ = some u
          rw [show 0 + 0 + j = j by omega]
          have hjl := (List.getElem?_eq_some_iff.1 hj).1
          rw [hcell j (by simp; omega), List.getElem?_append_left hjl]
          exact hj)) hmore (by omega) (by omega) k2 k1 hf
      obtain ⟨σ', w', v', h1, h2, h3⟩ := this
      refine ⟨σ', w', v', h1.less (fun k r hk => ?_), h2, h3⟩
      rw [lk_cons] at hk ⊢
      split
      · rename_i e5; rw [if_pos e5] at hk; exact hk
      · rename_i e5
        rw [if_neg e5, lk_delH] at hk
        split at hk
        · cases hk
        · exact hk
  · cases hs1
def odW (P : Program) (md : Nat) (ev : Operand → Option Value) (h : Hp) (nx : Nat) (op : Op) : Option (Out × List Prop) := bif Nat.beq md 45 then daF P ev h nx op else odZ P md ev h nx op
theorem odW_tidy {md : Nat} {ev : Operand → Option Value} {nx : Nat} {op : Op} {v : Value} {h' : Hp} {nx' : Nat} {d : List Nat} {ob : List Prop} (hs : odW P md ev h nx op = some ((v, h', nx', d), ob)) : Tidy h nx h' nx' d := by
  unfold odW at hs
  rcases bif_or hs with ⟨_, hs⟩ | ⟨_, hs⟩
  · exact daF_tidy hs
  · exact odZ_tidy hs
theorem odW_ok {a : Act} (hR : Rl W σ h w) {md : Nat} {ev : Operand → Option Value} {nx nx' : Nat} (hf : Fresh σ nx nx') (H : Evs σ ev a) {o : Oper} {v : Value} {h' : Hp} {d : List Nat} {ob : List Prop} (hs : odW P md ev h nx o.op = some ((v, h', nx', d), ob)) (ho : Alls ob) :
    ∃ σ' w' v', Stp W nx nx' σ h w σ' h' w' ∧ renV σ' v = some v' ∧ Ends P a o w v' w' := by
  unfold odW at hs
  rcases bif_or hs with ⟨_, hs⟩ | ⟨_, hs⟩
  · exact daF_ok hR hf H hs ho
  · exact odZ_ok hR hf H hs ho
end
end Go.Proofs.Ytmoflcoijmmpjaa
