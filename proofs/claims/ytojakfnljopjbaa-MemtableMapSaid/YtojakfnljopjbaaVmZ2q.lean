/-
  The told machine, part Zf: rows of slices that are made of new memory alone: append of an element (mode 45).
-/
import Derived.Test.YtojakfnljopjbaaVmZ1q
namespace Go.Proofs.Ytojakfnljopjbaa
set_option linter.unusedSimpArgs false
set_option linter.unusedVariables false
set_option linter.unusedSectionVars false
open Go Go.RowKit

section
variable {P : Program} {W : World} {lo hi : Nat} {σ σ' : Sg} {h h' : Hp} {w w' : World}
def isFr : Kd → Bool
  | .of => true
  | .df _ _ _ => true
  | _ => false
/-- All new memory that is shared. -/
def shF (σ : Sg) (h : Hp) : List Nat := h.flatMap fun e => match lk h e.1 with | some r => bif isFr r.kd then sh σ e.1 else [] | none => []
theorem shF_mem {k : Nat} (hk : k ∈ shF σ h) : ∃ m s, lk h m = some s ∧ isFr s.kd = true ∧ k ∈ sh σ m := by
  obtain ⟨e, h1, h2⟩ := List.mem_flatMap.1 hk
  split at h2
  · rename_i r hr
    cases hb : isFr r.kd with
    | true => rw [hb] at h2; exact ⟨e.1, r, hr, hb, h2⟩
    | false => rw [hb] at h2; cases h2
  · cases h2
theorem shF_of {k m : Nat} {s : Rw} (hl : lk h m = some s) (hb : isFr s.kd = true) (hk : k ∈ sh σ m) : k ∈ shF σ h := List.mem_flatMap.2 ⟨(m, s), mem_lk hl, by simp only [hl, hb, cond_true]; exact hk⟩
theorem shF_ok (hR : Rl W σ h w) : FOk W w (shF σ h) := fun k hk => by
  obtain ⟨m, s, h1, h2, h3⟩ := shF_mem hk
  obtain ⟨b, c, vs, e1, e2, e3⟩ := hR.row m s h1
  obtain ⟨kd, cs⟩ := s
  cases kd with
  | of => exact e3.1 k h3
  | df sz zz ds => exact e3.1 k h3
  | _ => cases h2
def elF (h : Hp) : List Value → Option (List DV × List Prop)
  | [] => some ([], [])
  | v :: vs => match elF h vs with
    | some (ds, ob) => (match v with
      | .slice (some ⟨k, 0, none⟩) n _ => (match lk h k with
        | some ⟨.of, cs⟩ => some (.sl n none (cs.map DV.fl) :: ds, ((∀ τ, renL τ cs = some cs) ∧ (n = 0 → cs = [])) :: ob)
        | _ => none)
      | .slice none 0 0 => some (.sl 0 none [] :: ds, ob)
      | .slice _ _ _ => none
      | v => bif noAd v then some (.fl v :: ds, ob) else none)
    | none => none
theorem elF_ok (hR : Rl W σ h w) {V : World} : ∀ {cells : List Value} {ds : List DV} {ob : List Prop} {us : List Value}, elF h cells = some (ds, ob) → Alls ob → renL σ cells = some us → DRv V w (shF σ h) ds us
  | [], ds, ob, us, h1, _, h3 => by
      simp only [elF, Option.some.injEq, Prod.mk.injEq] at h1
      obtain ⟨rfl, _⟩ := h1
      simp only [renL, Option.some.injEq] at h3
      subst h3
      simp [DRv]
  | v :: vs, ds, ob, us, h1, h2, h3 => by
      obtain ⟨u, us', hu, hus, rfl⟩ := renL_cons h3
      simp only [elF] at h1
      split at h1
      case h_2 => cases h1
      rename_i ds' ob' hrec
      split at h1
      · rename_i k n c
        split at h1
        · rename_i cs hl
          simp only [Option.some.injEq, Prod.mk.injEq] at h1
          obtain ⟨rfl, rfl⟩ := h1
          obtain ⟨⟨hf, hz⟩, ho⟩ := h2
          simp only [DRv]
          refine ⟨_, _, rfl, ?_, elF_ok hR hrec ho hus⟩
          obtain ⟨b, s, vs', hb, hv, hk⟩ := hR.row k _ hl
          simp only at hv
          rw [hf σ] at hv
          cases hv
          simp only [DR]
          rcases renV_slice hu with ⟨p, c', hb', _, rfl, _⟩ | ⟨hn, rfl, _, rfl⟩
          · rw [hb] at hb'
            cases hb'
            refine .inr ⟨b, s + 0, c', rfl, fun k e => (by cases e), ?_⟩
            rcases hk.2 with hk | hk
            · exact .inl (by rw [hk]; rfl)
            · exact .inr (drs_of hf (.inr ⟨shF_of hl rfl hk.1, hk.2⟩))
          · obtain rfl := hz rfl
            exact .inl ⟨rfl, rfl, .inl trivial, _, rfl⟩
        · cases h1
      · simp only [Option.some.injEq, Prod.mk.injEq] at h1
        obtain ⟨rfl, rfl⟩ := h1
        simp only [DRv]
        refine ⟨_, _, rfl, ?_, elF_ok hR hrec h2 hus⟩
        simp only [renV, Option.some.injEq] at hu
        subst hu
        rw [DR]
        exact .inl ⟨rfl, rfl, .inl rfl, none, rfl⟩
      · cases h1
      · obtain ⟨hna, h1⟩ := bif_of h1
        simp only [Option.some.injEq, Prod.mk.injEq] at h1
        obtain ⟨rfl, rfl⟩ := h1
        simp only [DRv]
        refine ⟨_, _, rfl, ?_, elF_ok hR hrec h2 hus⟩
        rw [noAd_ren σ hna] at hu
        cases hu
        rw [DR]
        exact ⟨rfl, fun τ => noAd_ren τ hna⟩
/-! ### append of an element (mode 45) -/
def daF (P : Program) (ev : Operand → Option Value) (h : Hp) (nx : Nat) : Op → Option (Out × List Prop)
  | .call ⟨.builtin .append, args, ts⟩ => match ts.toList, evL ev args.toList with
    | [t, tx], some [s, x] => match P.underlying t with
      | some (.slice e) => match P.info? e with
        | some i => match srcZ P h i.size tx x, i.zero with
          | some (n, news, ob2), some z => match elF h news with
            | some (es, ob) => bif Nat.beq n 1 && (Nat.beq z.cells.toList.length i.size && Nat.ble 1 i.size) then (match s with
              | .slice none 0 0 => some ((.slice (some ⟨nx + 1, 0, none⟩) 1 (capBig + (nx + 1)), (nx + 1, ⟨.df i.size z.cells.toList es, []⟩) :: h, nx + 2, []), (i.bytes ≤ 140737488355328) :: (ob ++ ob2))
              | .slice (some ⟨m, 0, none⟩) len cap => (match lk h m with
                | some ⟨.df sz zz ds, _⟩ => bif Nat.beq sz i.size && beqZL zz z.cells.toList then some ((.slice (some ⟨nx + 1, 0, none⟩) (len + 1) (capBig + (nx + 1)), (nx + 1, ⟨.df i.size z.cells.toList (ds ++ es), []⟩) :: delH h m, nx + 2, [m]), (cap = capBig + m ∧ ds.length = len * i.size) :: ((len + 1) * i.bytes ≤ 140737488355328 ∧ len + 1 ≤ 9223372036854775807) :: (ob ++ ob2)) else none
                | _ => none)
              | _ => none) else none
            | none => none
          | _, _ => none
        | none => none
      | _ => none
    | _, _ => none
  | _ => none
/-- New memory: the elements that were there, the new one, zeros. -/
theorem Stp.dfNew (hR : Rl W σ h w) {nx : Nat} (hf : Fresh σ nx (nx + 2)) {es : List DV} {vs zs : List Value} {t : TypeId} {size c : Nat} {z : List Value} (hv : ∀ V, DRv V w (shF σ h) es vs) (hl : (vs ++ zs).length = c * size) (hc : c ≤ maxLen) (hz : ∀ x ∈ zs, x ∈ z) :
    Stp W nx (nx + 2) σ h w ((σ.bindc nx (w.heap.size, 0) c).vwc (nx + 1) (w.heap.size, 0) c (some (shF σ h)) none) ((nx + 1, ⟨.df size z es, []⟩) :: h) (w.alloc (.cells (vs ++ zs).toArray t)) := by
  have S := Stp.grow hR (hf.low (by omega)) (cs := []) (vs := []) rfl t (size := size) (c := c) (rest := vs ++ zs) (by simpa using hl) hc (z := vs ++ zs) (fun x hx => hx)
  simp only [List.nil_append] at S
  have hl0 : lk ((nx, (⟨.room size (vs ++ zs), []⟩ : Rw)) :: h) nx = some ⟨.room size (vs ++ zs), []⟩ := by rw [lk_cons, if_pos rfl]
  have hne : ∀ m r, lk h m = some r → m ≠ nx := fun m r hm e => by
    subst e
    obtain ⟨b', s', vs', hb', _⟩ := hR.row _ _ hm
    rw [(hf m (Nat.le_refl _) (by omega)).1] at hb'
    cases hb'
  have hS : ∀ q, q ∈ shF σ h → q < w.heap.size := fun q hq => by
    obtain ⟨m, s, h1, _, h2⟩ := shF_mem hq
    exact (hR.shr.2 m s q h1 h2).1
  have hw : ∀ k, k ∈ shF σ h → (w.alloc (.cells (vs ++ zs).toArray t)).heap[k]? = w.heap[k]? := fun k hk => Below.block ((Ext.refl w).alloc _) k (hS k hk)
  have T := S.toDp (NX := nx + 1) (c := c) (F := shF σ h) (r' := ⟨.df size z es, []⟩) (b := w.heap.size) (by omega) (by omega) (hf.low (by omega)) hl0 (fun e => by cases e) (by simp [Sg.bindc]) (fun e => by cases e) (fun q hq => by
    obtain ⟨m, s, h1, _, h2⟩ := shF_mem hq
    have := hne m s h1
    refine ⟨m, s, by rw [lk_cons, if_neg (Ne.symm this)]; exact h1, ?_⟩
    unfold sh at h2 ⊢
    simp only [Sg.bindc]
    rwa [if_neg this]) ⟨w.heap.size, 0, [], by simp [Sg.vwc], rfl, by
      rw [show sh ((σ.bindc nx (w.heap.size, 0) c).vwc (nx + 1) (w.heap.size, 0) c (some (shF σ h)) none) (nx + 1) = shF σ h by simp [sh, Sg.vwc]]
      exact (shF_ok hR).keep hw, rfl, hR.ext.size, rfl, vs, t, zs, c, by simp [Sg.vwc], heap_alloc_new w _, hl, hc, hz, fun V => by
      rw [show sh ((σ.bindc nx (w.heap.size, 0) c).vwc (nx + 1) (w.heap.size, 0) c (some (shF σ h)) none) (nx + 1) = shF σ h by simp [sh, Sg.vwc]]
      exact DRv.keep hw _ _ (hv V)⟩
  refine T.less fun m r hm => ?_
  rw [lk_cons] at hm ⊢
  split
  · rename_i e; rw [if_pos e] at hm; exact hm
  · rename_i e
    rw [if_neg e] at hm
    have := hne m r hm
    rw [lk_delH, if_neg (Ne.symm this), lk_cons, if_neg (Ne.symm this)]
    exact hm
/-- In place. -/
theorem Stp.dfIn (hR : Rl W σ h w) {nx : Nat} (hf : Fresh σ nx (nx + 2)) {m b c size : Nat} {ds es : List DV} {vs z : List Value} (hl : lk h m = some ⟨.df size z ds, []⟩) (hb : σ.b m = some (b, 0)) (hc : σ.c m = some c) (hv : ∀ V, DRv V w (shF σ h) es vs) (hle : ds.length + vs.length ≤ c * size) :
    Stp W nx (nx + 2) σ h w (σ.vwc (nx + 1) (b, 0) c (some (shF σ h)) none) ((nx + 1, ⟨.df size z (ds ++ es), []⟩) :: delH h m) (w.setCells b ds.length vs) := by
  have hown : (⟨.df size z ds, []⟩ : Rw).own := fun e => by cases e
  obtain ⟨b', s', vs', hb', _, hf0, h1, h2, h3, us, t, rest, c', hc', hcell, hlen, hcm, hz, hds⟩ := hR.row m _ hl
  rw [hb] at hb'
  cases hb'
  rw [hc] at hc'
  cases hc'
  have hul := (hds W).len2
  have hsp : splice (us ++ rest) us.length vs = us ++ vs ++ rest.drop vs.length := splice_mid vs us rest (by
    simp only [List.length_append] at hlen
    omega)
  have hblk : (w.setCells b ds.length vs).heap[b]? = some (.cells (us ++ vs ++ rest.drop vs.length).toArray t (0, 0)) := by
    have := setCells_same vs w b ds.length _ t hcell
    simp only at this
    rw [← hul, hsp] at this
    rw [← hul]
    exact this
  have hoth : ∀ k, k ≠ b → (w.setCells b ds.length vs).heap[k]? = w.heap[k]? := fun k hk => setCells_other vs w b ds.length k hk
  have S := Stp.turnW hR hl hown hb (ext_setCells vs hR.ext h2 ds.length) (setCells_size vs w b ds.length) hoth .lent (fun e => by cases e) ⟨rfl, h2, t, us ++ vs ++ rest.drop vs.length, (0, 0), by simpa using hblk⟩ nx
  have hS : ∀ q, q ∈ shF σ h → q ≠ b := fun q hq e => by
    obtain ⟨m0, s0, g1, _, g2⟩ := shF_mem hq
    exact (hR.shr.2 m0 s0 q g1 g2).2 m _ (b, 0) hl hown hb e.symm
  have hw : ∀ k, k ∈ shF σ h → (w.setCells b ds.length vs).heap[k]? = w.heap[k]? := fun k hk => hoth k (hS k hk)
  have hl0 : lk (setH h m ⟨.lent, []⟩) m = some ⟨.lent, []⟩ := by rw [lk_setH, if_pos rfl]
  have T := S.toDp (NX := nx + 1) (c := c) (F := shF σ h) (r' := ⟨.df size z (ds ++ es), []⟩) (b := b) (by omega) (by omega) (hf.low (by omega)) hl0 (fun e => by cases e) hb (fun e => by cases e) (fun q hq => by
    obtain ⟨m0, s0, g1, _, g2⟩ := shF_mem hq
    by_cases e : m0 = m
    · subst e; exact ⟨m0, _, hl0, g2⟩
    · exact ⟨m0, s0, by rw [lk_setH, if_neg (Ne.symm e)]; exact g1, g2⟩) ⟨b, 0, [], by simp [Sg.vwc], rfl, by
      rw [show sh (σ.vwc (nx + 1) (b, 0) c (some (shF σ h)) none) (nx + 1) = shF σ h by simp [sh, Sg.vwc]]
      exact (shF_ok hR).keep hw, rfl, h2, rfl, us ++ vs, t, rest.drop vs.length, c, by simp [Sg.vwc], hblk, by
      simp only [List.length_append, List.length_drop] at hlen ⊢
      omega, hcm, (fun x hx => hz x (List.mem_of_mem_drop hx)), fun V => by
      rw [show sh (σ.vwc (nx + 1) (b, 0) c (some (shF σ h)) none) (nx + 1) = shF σ h by simp [sh, Sg.vwc]]
      exact DRv.keep hw _ _ (((hds V).more fun k hk => shF_of hl rfl hk).app2 (hv V))⟩
  refine T.less fun k r hm => ?_
  rw [lk_cons] at hm ⊢
  split
  · rename_i e; rw [if_pos e] at hm; exact hm
  · rename_i e
    rw [if_neg e, lk_delH] at hm
    split at hm
    · cases hm
    · rename_i e2
      rw [lk_delH, if_neg e2, lk_setH, if_neg e2]
      exact hm
theorem daF_call {ev : Operand → Option Value} {nx : Nat} {op : Op} {x : Out × List Prop} (hs : daF P ev h nx op = some x) : ∃ args ts, op = .call ⟨.builtin .append, args, ts⟩ := by
  unfold daF at hs
  split at hs
  · exact ⟨_, _, rfl⟩
  · cases hs
theorem daF_tidy {ev : Operand → Option Value} {nx : Nat} {op : Op} {v : Value} {h' : Hp} {nx' : Nat} {d : List Nat} {ob : List Prop} (hs : daF P ev h nx op = some ((v, h', nx', d), ob)) : Tidy h nx h' nx' d := by
  unfold daF at hs
  split at hs
  case h_2 => cases hs
  split at hs
  case h_2 => cases hs
  split at hs
  case h_2 => cases hs
  split at hs
  case h_2 => cases hs
  split at hs
  case h_2 => cases hs
  split at hs
  case h_2 => cases hs
  obtain ⟨_, hs⟩ := bif_of hs
  split at hs
  · simp only [Option.some.injEq, Prod.mk.injEq] at hs
    obtain ⟨⟨rfl, rfl, rfl, rfl⟩, _⟩ := hs
    exact ⟨by omega, fun n hn _ => by rw [lk_cons, if_neg (by omega)], fun hB n hn => by rw [lk_cons, if_neg (by omega)]; exact hB n (by omega)⟩
  · split at hs
    · obtain ⟨_, hs⟩ := bif_of hs
      simp only [Option.some.injEq, Prod.mk.injEq] at hs
      obtain ⟨⟨rfl, rfl, rfl, rfl⟩, _⟩ := hs
      refine ⟨by omega, fun n hn hd => ?_, fun hB n hn => ?_⟩
      · rw [lk_cons, if_neg (by omega), lk_delH, if_neg (fun e => hd (by simp [e]))]
      · rw [lk_cons, if_neg (by omega), lk_delH]
        split
        · rfl
        · exact hB n (by omega)
    · cases hs
  · cases hs
theorem daF_ok {a : Act} (hR : Rl W σ h w) {ev : Operand → Option Value} {nx nx' : Nat} (hf : Fresh σ nx nx') (H : Evs σ ev a) {o : Oper} {v : Value} {h' : Hp} {d : List Nat} {ob : List Prop} (hs : daF P ev h nx o.op = some ((v, h', nx', d), ob)) (ho : Alls ob) :
    ∃ σ' w' v', Stp W nx nx' σ h w σ' h' w' ∧ renV σ' v = some v' ∧ Ends P a o w v' w' := by
  obtain ⟨args, ts, hop⟩ := daF_call hs
  rw [hop] at hs
  simp only [daF] at hs
  split at hs
  case h_2 => cases hs
  rename_i t tx s x hte hev
  split at hs
  case h_2 => cases hs
  rename_i e hu
  split at hs
  case h_2 => cases hs
  rename_i i hi
  split at hs
  case h_2 => cases hs
  rename_i n news ob2 z hsrc hz
  split at hs
  case h_2 => cases hs
  rename_i es ob1 hel
  obtain ⟨hg, hs1⟩ := bif_of hs
  clear hs
  simp only [Bool.and_eq_true] at hg
  obtain ⟨g0, g1, g2⟩ := hg
  obtain rfl := Nat.eq_of_beq_eq_true g0
  have hzs : z.cells.size = i.size := by have := Nat.eq_of_beq_eq_true g1; simpa using this
  obtain ⟨s', l, hs', hl, e1⟩ := renL_cons (evL_ok H hev)
  obtain ⟨x', l', hx', hl', rfl⟩ := renL_cons hl
  simp only [renL, Option.some.injEq] at hl'
  subst hl'
  have hargs : args.map a.eval = #[s', x'] := by apply Array.toList_inj.1; rw [Array.toList_map, e1]
  have hts' : ts = #[t, tx] := by apply Array.toList_inj.1; simpa using hte
  have fin : ∀ {v' w'}, (Builtin.append_ #[t, tx] o.type #[s', x']).run P w = .ok v' w' → Ends P a o w v' w' := fun h3 => by
    refine .inl ?_
    unfold execOp
    simp only [hop, resolve, Sem.run_bind, Sem.run_pure, Result.andThen_ok, invoke, builtin, hargs, hts', h3]
  have ren_ : ∀ {τ : Sg} {b c len : Nat}, renV (τ.vwc (nx + 1) (b, 0) c (some (shF σ h)) none) (.slice (some ⟨nx + 1, 0, none⟩) len (capBig + (nx + 1))) = some (.slice (some ⟨b, 0, none⟩) len c) := fun {τ b c len} =>
    renV_slice_mk (o := 0) (p := (b, 0)) (by simp [Sg.vwc]) (by unfold cpR; rw [if_neg (by omega), Nat.add_sub_cancel_left]; simp [Sg.vwc]) (by simp [Sg.vwc])
  -- new memory
  have grow_ : ∀ {base : Option Addr} {sLen sCap : Nat} {olds : List Value} {ds : List DV}, s' = .slice base sLen sCap → Alls ob1 → Alls ob2 → (Builtin.firstCells i.size sLen (.slice base sLen sCap)).run P w.drew = .ok olds.toArray w.drew → (∀ V, DRv V w (shF σ h) ds olds) → olds.length = sLen * i.size → sCap < sLen + 1 → sLen + 1 ≤ 9223372036854775807 → (sLen + 1) * i.bytes ≤ 140737488355328 → Fresh σ nx (nx + 2) →
      ∃ σ' w' v', Stp W nx (nx + 2) σ h w σ' ((nx + 1, ⟨.df i.size z.cells.toList (ds ++ es), []⟩) :: h) w' ∧ renV σ' (.slice (some ⟨nx + 1, 0, none⟩) (sLen + 1) (capBig + (nx + 1))) = some v' ∧ Ends P a o w v' w' := by
    intro base sLen sCap olds ds hse ho1 ho2 hold hds hol hg h63 hb hf
    obtain ⟨vn, hn, hsr⟩ := srcV_ok hR (srcZ_ok hsrc ho2) hx'
    have hE := fun V => elF_ok hR (V := V) hel ho1 hn
    have hrun := run_append_grow_src (P := P) (ty := o.type) w t tx e i z hu hi hz base sLen sCap olds hold x' 1 vn hsr hg (by omega) (growslice_fits hg hb)
    have hge := grownCap_ge w (sLen + 1) sCap e
    have hle := grownCap_le_maxLen w (sLen + 1) sCap e (by unfold maxLen; omega)
    have hd := Stp.drew hR nx
    have hlen : (olds ++ vn ++ (Builtin.zeroCells z.cells (grownCap w (sLen + 1) sCap e - (sLen + 1))).toList).length = grownCap w (sLen + 1) sCap e * i.size := by
      rw [List.length_append, List.length_append, hol, hsr.newsLen, Array.length_toList, size_zeroCells, hzs, ← Nat.add_mul, ← Nat.add_mul]
      congr 1
      omega
    have S := Stp.dfNew hd.rl hf (t := e) (fun V => DRv.keep (w := w) (w1 := w.drew) (F := shF σ h) (fun _ _ => rfl) (ds ++ es) (olds ++ vn) ((hds V).app2 (hE V))) hlen hle (z := z.cells.toList) zero_mem
    refine ⟨_, _, _, hd.trans S (Nat.le_refl _) (by omega), ren_, fin ?_⟩
    rw [hse, hrun]
    congr 2
    apply congrArg (fun q => Obj.cells q e (0, 0))
    apply Array.toList_inj.1
    simp
  split at hs1
  · simp only [Option.some.injEq, Prod.mk.injEq] at hs1
    obtain ⟨⟨rfl, rfl, rfl, rfl⟩, rfl⟩ := hs1
    obtain ⟨k1, k23⟩ := ho
    obtain ⟨k2, k3⟩ := Alls_app.1 k23
    have := grow_ (base := none) (sLen := 0) (sCap := 0) (olds := []) (ds := []) (by simpa only [renV, Option.some.injEq] using hs'.symm) k2 k3 (run_firstCells_none w.drew i.size 0 0 0) (fun V => by simp [DRv]) (by simp) (by omega) (by omega) (by omega) hf
    simpa using this
  · rename_i m len cap
    split at hs1
    case h_2 => cases hs1
    rename_i sz zz ds cs0 hlm
    obtain ⟨hg3, hs2⟩ := bif_of hs1
    clear hs1
    simp only [Option.some.injEq, Prod.mk.injEq] at hs2
    obtain ⟨⟨rfl, rfl, rfl, rfl⟩, rfl⟩ := hs2
    obtain ⟨⟨rfl, k0⟩, ⟨k1, k2⟩, k34⟩ := ho
    obtain ⟨k3, k4⟩ := Alls_app.1 k34
    simp only [Bool.and_eq_true] at hg3
    obtain rfl := Nat.eq_of_beq_eq_true hg3.1
    have gz := beqZL_ok hg3.2
    subst gz
    have hrow := hR.row m _ hlm
    obtain ⟨b, s0, vs0, hb, hv0, _, q1, q2, q3, us, tt, rest, c, hcm, hblk, hrl, hcl, hrz, hds⟩ := hrow
    subst q1
    subst q3
    have hcs0 : cs0 = [] := by
      have := renL_len hv0
      exact List.eq_nil_of_length_eq_zero this.symm
    subst hcs0
    have hul := (hds W).len2
    rcases renV_slice hs' with ⟨p, c', hb', hcp, hse, hnn⟩ | ⟨hnn, _, _, _⟩
    case inr => exact (hR.shr.1 m _ hlm (fun e => by cases e) hnn).elim
    rw [hb] at hb'
    cases hb'
    rw [cpR_big, hcm] at hcp
    cases hcp
    have hcell : ∀ j, j < (us ++ rest).length → w.cell? ⟨b, j, none⟩ = (us ++ rest)[j]? := fun j hj => by
      rw [cell_of_row w b j _ tt _ hblk]; simp
    have hmore : ∀ V, DRv V w (shF σ h) ds us := fun V => (hds V).more fun k hk => shF_of hlm rfl hk
    by_cases hroom : len + 1 ≤ c
    · obtain ⟨vn, hn, hsr⟩ := srcV_ok hR (srcZ_ok hsrc k4) hx'
      have hE := fun V => elF_ok hR (V := V) hel k3 hn
      have hvn := hsr.newsLen
      have hfit : ds.length + vn.length ≤ c * i.size := by
        rw [k0, hvn, ← Nat.add_mul]; exact Nat.mul_le_mul_right _ hroom
      have hrun := run_append_room_src (P := P) (ty := o.type) w t tx e i hu hi b (0 + 0) len c x' 1 vn hsr hroom (fun j hj => by
        have hlt2 : len * i.size + j < (us ++ rest).length := by omega
        rw [show 0 + 0 + len * i.size + j = len * i.size + j by omega, hcell _ hlt2, List.getElem?_eq_getElem hlt2]; rfl) (fun j hj => frozen_of_row w b _ _ tt hblk)
      have S := Stp.dfIn hR hf hlm hb hcm hE hfit
      refine ⟨_, _, _, S, ren_ (τ := σ), fin ?_⟩
      rw [hse, hrun, k0]
      simp
    · have := grow_ (base := some ⟨b, 0 + 0, none⟩) (sLen := len) (sCap := c) (olds := us) (ds := ds) hse k3 k4 (run_firstCells_some (P := P) w.drew i.size len _ len c us (by omega) (fun j u hj => by
          rw [addr_add]
          show w.cell? ⟨b, 0 + 0 + j, none⟩ = some u
          rw [show 0 + 0 + j = j by omega]
          have hjl := (List.getElem?_eq_some_iff.1 hj).1
          rw [hcell j (by simp; omega), List.getElem?_append_left hjl]
          exact hj)) hmore (by omega) (by omega) k2 k1 hf
      obtain ⟨σ', w', v', h1, h2, h3⟩ := this
      refine ⟨σ', w', v', h1.less (fun k r hk => ?_), h2, h3⟩
      rw [lk_cons] at hk ⊢
      split
      · rename_i e5; rw [if_pos e5] at hk; exact hk
      · rename_i e5
        rw [if_neg e5, lk_delH] at hk
        split at hk
        · cases hk
        · exact hk
  · cases hs1
def odW (P : Program) (md : Nat) (ev : Operand → Option Value) (h : Hp) (nx : Nat) (op : Op) : Option (Out × List Prop) := bif Nat.beq md 45 then daF P ev h nx op else odZ P md ev h nx op
theorem odW_tidy {md : Nat} {ev : Operand → Option Value} {nx : Nat} {op : Op} {v : Value} {h' : Hp} {nx' : Nat} {d : List Nat} {ob : List Prop} (hs : odW P md ev h nx op = some ((v, h', nx', d), ob)) : Tidy h nx h' nx' d := by
  unfold odW at hs
  rcases bif_or hs with ⟨_, hs⟩ | ⟨_, hs⟩
  · exact daF_tidy hs
  · exact odZ_tidy hs
theorem odW_ok {a : Act} (hR : Rl W σ h w) {md : Nat} {ev : Operand → Option Value} {nx nx' : Nat} (hf : Fresh σ nx nx') (H : Evs σ ev a) {o : Oper} {v : Value} {h' : Hp} {d : List Nat} {ob : List Prop} (hs : odW P md ev h nx o.op = some ((v, h', nx', d), ob)) (ho : Alls ob) :
    ∃ σ' w' v', Stp W nx nx' σ h w σ' h' w' ∧ renV σ' v = some v' ∧ Ends P a o w v' w' := by
  unfold odW at hs
  rcases bif_or hs with ⟨_, hs⟩ | ⟨_, hs⟩
  · exact daF_ok hR hf H hs ho
  · exact odZ_ok hR hf H hs ho
end
end Go.Proofs.Ytojakfnljopjbaa
/-
  The told machine, part Zg: an element of a row of slices is written over (modes from 1000 on: 1000 + the name of the struct that has the list).
-/
namespace Go.Proofs.Ytojakfnljopjbaa
set_option linter.unusedSimpArgs false
set_option linter.unusedVariables false
set_option linter.unusedSectionVars false
open Go Go.RowKit

section
variable {P : Program} {W : World} {lo hi : Nat} {σ σ' : Sg} {h h' h1 h2 : Hp} {w w' : World}
def subV (n m : Nat) : Value → Value
  | .slice (some ⟨k, o, s⟩) l c => bif Nat.beq k n then .slice (some ⟨m, o, s⟩) l (bif Nat.beq c (capBig + n) then capBig + m else c) else .slice (some ⟨k, o, s⟩) l c
  | v => v
theorem subV_ok {n m : Nat} (hb : σ.b m = σ.b n) (hc : σ.c m = σ.c n) (hn : σ.f n ≠ none) (hm : σ.f m ≠ none) {v u : Value} (h : renV σ v = some u) : renV σ (subV n m v) = some u := by
  unfold subV
  split
  · rename_i k o s l c
    cases hk : Nat.beq k n with
    | false => exact h
    | true =>
      obtain rfl := Nat.eq_of_beq_eq_true hk
      simp only [cond_true]
      simp only [renV, slR, adR, if_neg hn, if_neg hm] at h ⊢
      rw [hb]
      have : cpR σ (bif Nat.beq c (capBig + k) then capBig + m else c) = cpR σ c := by
        cases hcc : Nat.beq c (capBig + k) with
        | false => rfl
        | true =>
          obtain rfl := Nat.eq_of_beq_eq_true hcc
          simp only [cond_true]
          rw [cpR_big, cpR_big, hc]
      rw [this]
      exact h
  · exact h
theorem subL_ok {n m : Nat} (hb : σ.b m = σ.b n) (hc : σ.c m = σ.c n) (hn : σ.f n ≠ none) (hm : σ.f m ≠ none) : ∀ {l us : List Value}, renL σ l = some us → renL σ (l.map (subV n m)) = some us
  | [], us, h => h
  | v :: l, us, h => by
      obtain ⟨a, b, h1, h2, rfl⟩ := renL_cons h
      exact renL_mk (subV_ok hb hc hn hm h1) (subL_ok hb hc hn hm h2)
/-- A row's cells are told by other names. -/
theorem Stp.resub (S : Stp W lo hi σ h w σ' h1 w') (hs : ∀ m s, lk h2 m = some s → ∃ s1, lk h1 m = some s1 ∧ s.kd = s1.kd ∧ ∀ vs, renL σ' s1.cs = some vs → renL σ' s.cs = some vs) : Stp W lo hi σ h w σ' h2 w' := by
  have ow : ∀ {s s1 : Rw}, s.kd = s1.kd → s.own → s1.own := fun e ho => by unfold Rw.own at ho ⊢; rw [← e]; exact ho
  refine ⟨S.le, S.only, ⟨⟨S.rl.ext, fun m s hm => ?_, fun n m r s p q hn hm ho hs' hp hq e => ?_⟩, fun n r hn ho => ?_, fun n r k hn hk => ?_⟩, S.size, S.fr, fun n r p hn ho hp => ?_, fun n r k hn hk => ?_⟩
  · obtain ⟨s1, e1, e2, e3⟩ := hs m s hm
    obtain ⟨b, c, vs, g1, g2, g3⟩ := S.rl.row m s1 e1
    exact ⟨b, c, vs, g1, e3 vs g2, by rw [e2]; exact g3⟩
  · obtain ⟨r1, a1, a2, _⟩ := hs n r hn
    obtain ⟨s1, b1, b2, _⟩ := hs m s hm
    exact S.rl.inj n m r1 s1 p q a1 b1 (ow a2 ho) (ow b2 hs') hp hq e
  · obtain ⟨r1, a1, a2, _⟩ := hs n r hn
    exact S.rl.shr.1 n r1 a1 (ow a2 ho)
  · obtain ⟨r1, a1, a2, _⟩ := hs n r hn
    obtain ⟨g1, g2⟩ := S.rl.shr.2 n r1 k a1 hk
    refine ⟨g1, fun m s q hm hs' hq => ?_⟩
    obtain ⟨s1, b1, b2, _⟩ := hs m s hm
    exact g2 m s1 q b1 (ow b2 hs') hq
  · obtain ⟨r1, a1, a2, _⟩ := hs n r hn
    exact S.src n r1 p a1 (ow a2 ho) hp
  · obtain ⟨r1, a1, a2, _⟩ := hs n r hn
    exact S.ssrc n r1 k a1 hk
theorem DRv.take {F : List Nat} : ∀ (o : Nat) {ds : List DV} {us : List Value}, DRv W w F ds us → DRv W w F (ds.take o) (us.take o)
  | 0, ds, us, h => by simp [DRv]
  | o + 1, [], us, h => by simp only [DRv] at h; subst h; simp [DRv]
  | o + 1, d :: ds, us, h => by
      simp only [DRv] at h
      obtain ⟨u, us', rfl, h1, h2⟩ := h
      simp only [List.take_succ_cons, DRv]
      exact ⟨u, us'.take o, rfl, h1, DRv.take o h2⟩
theorem DRv.dropv {F : List Nat} : ∀ (o : Nat) {ds : List DV} {us : List Value}, DRv W w F ds us → DRv W w F (ds.drop o) (us.drop o)
  | 0, ds, us, h => by simpa using h
  | o + 1, [], us, h => by simp only [DRv] at h; subst h; simp [DRv]
  | o + 1, d :: ds, us, h => by
      simp only [DRv] at h
      obtain ⟨u, us', rfl, h1, h2⟩ := h
      simpa using DRv.dropv o h2
def setD (ds : List DV) (o : Nat) (es : List DV) : List DV := ds.take o ++ (es ++ ds.drop (o + es.length))
/-- An element is written over. -/
theorem Stp.dpSet (hR : Rl W σ h w) {nx : Nat} (hf : Fresh σ nx (nx + 1)) {m b o size : Nat} {ds es : List DV} {vs z : List Value} (hl : lk h m = some ⟨.dp size z ds, []⟩) (hb : σ.b m = some (b, 0)) (hv : DRv W w (shAll σ h) es vs) (hle : o + vs.length ≤ ds.length) :
    ∃ c, σ.c m = some c ∧ Stp W nx (nx + 1) σ h w (σ.vwc nx (b, 0) c (some (shAll σ h)) none) ((nx, ⟨.dp size z (setD ds o es), []⟩) :: delH h m) (w.setCells b o vs) := by
  have hown : (⟨.dp size z ds, []⟩ : Rw).own := fun e => by cases e
  obtain ⟨b', s', vs', hb', _, h1, h2, h3, us, t, rest, c, hc, hcell, hlen, hcm, hz, hds⟩ := hR.row m _ hl
  rw [hb] at hb'
  cases hb'
  refine ⟨c, hc, ?_⟩
  have hul := hds.len2
  have hvl := hv.len2
  have hsp : splice (us ++ rest) o vs = us.take o ++ (vs ++ us.drop (o + vs.length)) ++ rest := by
    have e1 : us ++ rest = us.take o ++ (us.drop o ++ rest) := by rw [← List.append_assoc, List.take_append_drop]
    have l1 : (us.take o).length = o := by rw [List.length_take]; omega
    have e2 := splice_mid vs (us.take o) (us.drop o ++ rest) (by rw [List.length_append, List.length_drop]; omega)
    rw [l1] at e2
    rw [e1, e2, List.drop_append_of_le_length (by rw [List.length_drop]; omega), List.drop_drop]
    simp only [List.append_assoc]
  have hblk : (w.setCells b o vs).heap[b]? = some (.cells (us.take o ++ (vs ++ us.drop (o + vs.length)) ++ rest).toArray t (0, 0)) := by
    have := setCells_same vs w b o _ t hcell
    simp only at this
    rw [hsp] at this
    exact this
  have hoth : ∀ k, k ≠ b → (w.setCells b o vs).heap[k]? = w.heap[k]? := fun k hk => setCells_other vs w b o k hk
  have S := Stp.turnW hR hl hown hb (ext_setCells vs hR.ext h2 o) (setCells_size vs w b o) hoth .lent (fun e => by cases e) ⟨rfl, h2, t, us.take o ++ (vs ++ us.drop (o + vs.length)) ++ rest, (0, 0), by simpa using hblk⟩ nx
  have hS : ∀ q, q ∈ shAll σ h → q ≠ b := fun q hq e => by
    obtain ⟨m0, s0, g1, g2⟩ := shAll_mem hq
    exact (hR.shr.2 m0 s0 q g1 g2).2 m _ (b, 0) hl hown hb e.symm
  have hw : ∀ k, k ∈ shAll σ h → (w.setCells b o vs).heap[k]? = w.heap[k]? := fun k hk => hoth k (hS k hk)
  have hl0 : lk (setH h m ⟨.lent, []⟩) m = some ⟨.lent, []⟩ := by rw [lk_setH, if_pos rfl]
  have hlen2 : (us.take o ++ (vs ++ us.drop (o + vs.length)) ++ rest).length = c * size := by
    simp only [List.length_append, List.length_take, List.length_drop] at hlen ⊢
    omega
  have T := S.toDp (NX := nx) (c := c) (F := shAll σ h) (r' := ⟨.dp size z (setD ds o es), []⟩) (b := b) (Nat.le_refl _) (Nat.le_refl _) hf hl0 (fun e => by cases e) hb (fun e => by cases e) (fun q hq => by
    obtain ⟨m0, s0, g1, g2⟩ := shAll_mem hq
    by_cases e : m0 = m
    · subst e; exact ⟨m0, _, hl0, g2⟩
    · exact ⟨m0, s0, by rw [lk_setH, if_neg (Ne.symm e)]; exact g1, g2⟩) ⟨b, 0, [], by simp [Sg.vwc], rfl, rfl, h2, rfl, us.take o ++ (vs ++ us.drop (o + vs.length)), t, rest, c, by simp [Sg.vwc], hblk, hlen2, hcm, hz, by
      rw [show sh (σ.vwc nx (b, 0) c (some (shAll σ h)) none) nx = shAll σ h by simp [sh, Sg.vwc]]
      have hds2 := hds.more fun k hk => shAll_of hl hk
      refine DRv.keep hw _ _ ((hds2.take o).app2 (hv.app2 ?_))
      rw [← hvl]
      exact hds2.dropv _⟩
  refine T.less fun k r hm => ?_
  rw [lk_cons] at hm ⊢
  split
  · rename_i e; rw [if_pos e] at hm; exact hm
  · rename_i e
    rw [if_neg e, lk_delH] at hm
    split at hm
    · cases hm
    · rename_i e2
      rw [lk_delH, if_neg e2, lk_setH, if_neg e2]
      exact hm
def stD (P : Program) (t0 : Nat) (ev : Operand → Option Value) (h : Hp) (nx : Nat) : Op → Option (Out × List Prop)
  | .store t x y => match ev x, ev y with
    | some (.pointer (some ⟨n, o, none⟩)), some v => match lk h n, P.info? t, lk h t0 with
      | some ⟨.dp sz z ds, _⟩, some i, some ⟨.shut, cs⟩ => match elD h v.cells.toList with
        | some (es, ob) => bif Nat.beq v.cells.toList.length i.size && (all1 v.cells.toList && !(Nat.beq t0 n)) then some ((undef, (nx, ⟨.dp sz z (setD ds o es), []⟩) :: setH (delH h n) t0 ⟨.shut, cs.map (subV n nx)⟩, nx + 1, [n, t0]), (o + v.cells.toList.length ≤ ds.length) :: ob) else none
        | none => none
      | _, _, _ => none
    | _, _ => none
  | _ => none
theorem stD_tidy {t0 : Nat} {ev : Operand → Option Value} {nx : Nat} {op : Op} {v : Value} {h' : Hp} {nx' : Nat} {d : List Nat} {ob : List Prop} (hs : stD P t0 ev h nx op = some ((v, h', nx', d), ob)) : Tidy h nx h' nx' d := by
  unfold stD at hs
  split at hs
  case h_2 => cases hs
  split at hs
  case h_2 => cases hs
  split at hs
  case h_2 => cases hs
  rename_i n o v0 _ _ _ _ _ sz z ds cs0 i cs hl hi hl0
  split at hs
  case h_2 => cases hs
  obtain ⟨hg, hs⟩ := bif_of hs
  simp only [Option.some.injEq, Prod.mk.injEq] at hs
  obtain ⟨⟨rfl, rfl, rfl, rfl⟩, _⟩ := hs
  simp only [Bool.and_eq_true, Bool.not_eq_true'] at hg
  have hlt : t0 ≠ n := fun e => by subst e; rw [nbeq_rfl] at hg; cases hg.2.2
  refine ⟨by omega, fun k hk hd => ?_, fun hB k hk => ?_⟩
  · have h1 : k ≠ n := fun e => hd (by simp [e])
    have h2 : k ≠ t0 := fun e => hd (by simp [e])
    rw [lk_cons, if_neg (by omega), lk_setH, if_neg (Ne.symm h2), lk_delH, if_neg (Ne.symm h1)]
  · have h2 : t0 ≠ k := fun e => by subst e; rw [hB t0 (by omega)] at hl0; cases hl0
    rw [lk_cons, if_neg (by omega), lk_setH, if_neg h2, lk_delH]
    split
    · rfl
    · exact hB k (by omega)
theorem stD_ok {a : Act} (hR : Rl W σ h w) {t0 : Nat} {ev : Operand → Option Value} {nx nx' : Nat} (hf : Fresh σ nx nx') (H : Evs σ ev a) {o : Oper} {v : Value} {h' : Hp} {d : List Nat} {ob : List Prop} (hs : stD P t0 ev h nx o.op = some ((v, h', nx', d), ob)) (ho : Alls ob) :
    ∃ σ' w' v', Stp W nx nx' σ h w σ' h' w' ∧ renV σ' v = some v' ∧ Ends P a o w v' w' := by
  unfold stD at hs
  split at hs
  case h_2 => cases hs
  rename_i t x y hop
  split at hs
  case h_2 => cases hs
  rename_i n o0 v0 hx hy
  split at hs
  case h_2 => cases hs
  rename_i sz z ds cs0 i cs hl hi hl0
  split at hs
  case h_2 => cases hs
  rename_i es ob1 hel
  obtain ⟨hg, hs⟩ := bif_of hs
  simp only [Option.some.injEq, Prod.mk.injEq] at hs
  obtain ⟨⟨rfl, rfl, rfl, rfl⟩, rfl⟩ := hs
  simp only [Bool.and_eq_true, Bool.not_eq_true'] at hg
  obtain ⟨g1, g2, g3⟩ := hg
  obtain ⟨k1, k2⟩ := ho
  have hlt : t0 ≠ n := fun e => by subst e; rw [nbeq_rfl] at g3; cases g3
  have hcs0 : cs0 = [] := by
    obtain ⟨b, s, vs, hb, hv, hk⟩ := hR.row n _ hl
    obtain ⟨_, _, rfl, _⟩ := hk
    have := renL_len hv
    exact List.eq_nil_of_length_eq_zero this.symm
  subst hcs0
  obtain ⟨x', hx'⟩ : ∃ x', renV σ (.pointer (some ⟨n, o0, none⟩)) = some x' := ⟨_, H x _ hx⟩
  have hxe : a.eval x = x' := by have := H x _ hx; rw [hx'] at this; exact (Option.some.inj this).symm
  have hyv := H y _ hy
  obtain ⟨p, hb, rfl, hnn⟩ := renV_ptr hx'
  have hge := hR.ge hl (fun e => by cases e) hb
  obtain ⟨b, s⟩ := p
  obtain rfl : s = 0 := hge.2
  have hvc := (renV_cells hyv).1
  have hlen := renL_len hvc
  have h1 := all1_ok g2 hvc
  have hE := elD_ok hR hel k2 hvc
  have hEl := hE.len2
  obtain ⟨c, hcc, S⟩ := Stp.dpSet (nx := nx) hR hf hl hb (o := o0) hE (by omega)
  -- the store runs
  obtain ⟨b', s', vs', hb', _, q1, q2, q3, us, tt, rest, c', hc', hcell, hcl, hcm, hz, hds⟩ := hR.row n _ hl
  rw [hb] at hb'
  cases hb'
  have hul := hds.len2
  have hst : (storeCells ⟨b, 0 + o0, none⟩ (a.eval y).cells.toList).run P w = .ok () (w.setCells b o0 (a.eval y).cells.toList) := by
    have := run_storeCells_cells (P := P) b o0 (a.eval y).cells.toList 0 w (fun k hk => by
      have hlt2 : o0 + k < (us ++ rest).length := by rw [List.length_append]; omega
      rw [cell_of_row w b _ _ tt _ hcell]
      simp [List.getElem?_eq_getElem hlt2]) (fun k hk => frozen_of_row w b _ _ tt hcell) h1
    rw [Nat.zero_add]
    simpa using this
  refine ⟨_, _, undef, (S.resub (h2 := (nx, ⟨.dp sz z (setD ds o0 es), []⟩) :: setH (delH h n) t0 ⟨.shut, cs.map (subV n nx)⟩) fun m s hm => ?_), rfl, .inr ⟨?_, rfl⟩⟩
  · rw [lk_cons] at hm
    split at hm
    · rename_i e
      cases hm
      exact ⟨_, by rw [lk_cons, if_pos e], rfl, fun vs hv => hv⟩
    · rename_i e
      rw [lk_setH] at hm
      split at hm
      · rename_i e2
        cases hm
        subst e2
        refine ⟨⟨.shut, cs⟩, by rw [lk_cons, if_neg e, lk_delH, if_neg (Ne.symm hlt)]; exact hl0, rfl, fun vs hv => ?_⟩
        have hnx : n ≠ nx := fun e2 => by
          subst e2
          rw [(hf n (Nat.le_refl _) (by omega)).1] at hb
          cases hb
        refine subL_ok ?_ ?_ ?_ ?_ hv
        · simp only [Sg.vwc, if_true]; rw [if_neg hnx]; exact hb.symm
        · simp only [Sg.vwc, if_true]; rw [if_neg hnx]; exact hcc.symm
        · simp only [Sg.vwc]; rw [if_neg hnx]; exact hnn
        · simp [Sg.vwc]
      · exact ⟨s, by rw [lk_cons, if_neg e]; exact hm, rfl, fun vs hv => hv⟩
  · have e2 := Nat.eq_of_beq_eq_true g1
    simp only [Array.length_toList] at e2 hlen
    have e3 : (a.eval y).cells.size = i.size := by rw [hlen, e2]
    unfold execOp
    simp only [hop, hxe, Instr.storeAt, Instr.sureAddr, Sem.run_bind, Sem.run_pure, Result.andThen_ok, storeVar, sizeOf, typeInfo, run_program, hi, e3]
    simp [Nat.zero_add] at hst ⊢
    rw [hst]
    rfl
def odT (P : Program) (md : Nat) (ev : Operand → Option Value) (h : Hp) (nx : Nat) (op : Op) : Option (Out × List Prop) := bif Nat.ble 1000 md then stD P (md - 1000) ev h nx op else odW P md ev h nx op
theorem odT_tidy {md : Nat} {ev : Operand → Option Value} {nx : Nat} {op : Op} {v : Value} {h' : Hp} {nx' : Nat} {d : List Nat} {ob : List Prop} (hs : odT P md ev h nx op = some ((v, h', nx', d), ob)) : Tidy h nx h' nx' d := by
  unfold odT at hs
  rcases bif_or hs with ⟨_, hs⟩ | ⟨_, hs⟩
  · exact stD_tidy hs
  · exact odW_tidy hs
theorem odT_ok {a : Act} (hR : Rl W σ h w) {md : Nat} {ev : Operand → Option Value} {nx nx' : Nat} (hf : Fresh σ nx nx') (H : Evs σ ev a) {o : Oper} {v : Value} {h' : Hp} {d : List Nat} {ob : List Prop} (hs : odT P md ev h nx o.op = some ((v, h', nx', d), ob)) (ho : Alls ob) :
    ∃ σ' w' v', Stp W nx nx' σ h w σ' h' w' ∧ renV σ' v = some v' ∧ Ends P a o w v' w' := by
  unfold odT at hs
  rcases bif_or hs with ⟨_, hs⟩ | ⟨_, hs⟩
  · exact stD_ok hR hf H hs ho
  · exact odW_ok hR hf H hs ho
end
end Go.Proofs.Ytojakfnljopjbaa
/-
  The told machine, part Zh: rows of slices: append of the elements of another one (mode 46).
-/
namespace Go.Proofs.Ytojakfnljopjbaa
set_option linter.unusedSimpArgs false
set_option linter.unusedVariables false
set_option linter.unusedSectionVars false
open Go Go.RowKit

section
variable {P : Program} {W : World} {lo hi : Nat} {σ σ' : Sg} {h h' : Hp} {w w' : World}
/-- One cell each. -/
def DVone : DV → Prop
  | .fl v => one1 v = true
  | .sl _ _ _ => True
def DVones (es : List DV) : Prop := ∀ d ∈ es, DVone d
theorem DR.one {F : List Nat} : ∀ {d : DV} {u : Value}, DR W w F d u → DVone d → u.oneCell' = true
  | .fl v, u, h, h1 => by
      simp only [DR] at h
      obtain ⟨rfl, _⟩ := h
      exact (one1_eq u).symm.trans h1
  | .sl len cap ds, u, h, _ => by
      simp only [DR] at h
      rcases h with ⟨_, _, _, a, rfl⟩ | ⟨b, s, c, rfl, _⟩ <;> rfl
theorem DRv.one {F : List Nat} : ∀ {ds : List DV} {us : List Value}, DRv W w F ds us → (∀ d ∈ ds, DVone d) → ∀ u ∈ us, u.oneCell' = true
  | [], us, h, _, u, hu => by simp only [DRv] at h; subst h; cases hu
  | d :: ds, us, h, h1, u, hu => by
      simp only [DRv] at h
      obtain ⟨v, us', rfl, h2, h3⟩ := h
      rcases List.mem_cons.1 hu with rfl | hu
      · exact h2.one (h1 d (List.mem_cons_self ..))
      · exact h3.one (fun e he => h1 e (List.mem_cons_of_mem _ he)) u hu
/-- The cells of a deep row. -/
theorem deep_src (hR : Rl W σ h w) {n : Nat} {r : Rw} {ds : List DV} {b s : Nat} (hl : lk h n = some r) (hd : deepOf r.kd = some ds) (hb : σ.b n = some (b, s)) : ∃ us, DRv W w (sh σ n) ds us ∧ ∀ j u, us[j]? = some u → w.cell? ⟨b, s + j, none⟩ = some u := by
  have hget := deep_get hR hl hd hb
  have : ∀ {ds : List DV} {s : Nat}, (∀ j d, ds[j]? = some d → ∃ u, w.cell? ⟨b, s + j, none⟩ = some u ∧ DR W w (sh σ n) d u) → ∃ us, DRv W w (sh σ n) ds us ∧ ∀ j u, us[j]? = some u → w.cell? ⟨b, s + j, none⟩ = some u := by
    intro ds
    induction ds with
    | nil => intro s _; exact ⟨[], by simp [DRv], fun j u hj => by simp at hj⟩
    | cons d ds ih =>
      intro s hg
      obtain ⟨u, h1, h2⟩ := hg 0 d rfl
      obtain ⟨us, h3, h4⟩ := ih (s := s + 1) fun j e he => by
        have := hg (j + 1) e (by simpa using he)
        rwa [show s + (j + 1) = s + 1 + j by omega] at this
      refine ⟨u :: us, by simp only [DRv]; exact ⟨u, us, rfl, h2, h3⟩, fun j v hj => ?_⟩
      cases j with
      | zero => simp only [List.getElem?_cons_zero, Option.some.injEq] at hj; subst hj; exact h1
      | succ j =>
        have := h4 j v (by simpa using hj)
        rwa [show s + 1 + j = s + (j + 1) by omega] at this
  exact this hget
def daS (P : Program) (ev : Operand → Option Value) (h : Hp) (nx : Nat) : Op → Option (Out × List Prop)
  | .call ⟨.builtin .append, args, ts⟩ => match ts.toList, evL ev args.toList with
    | [t, tx], some [s, .slice (some ⟨k, o, none⟩) len c] => match P.underlying t, P.underlying tx with
      | some (.slice e), some (.slice e2) => match P.info? e, lk h k with
        | some i, some r => match deepOf r.kd, i.zero with
          | some ds, some z => bif Nat.beq z.cells.toList.length i.size && Nat.ble 1 i.size then (match s with
              | .slice none 0 0 => some ((.slice (some ⟨nx + 1, 0, none⟩) len (capBig + (nx + 1)), (nx + 1, ⟨.dp i.size z.cells.toList ((ds.drop o).take (len * i.size)), []⟩) :: h, nx + 2, []), (0 < len ∧ len * i.bytes ≤ 140737488355328 ∧ len ≤ 9223372036854775807) :: (o + len * i.size ≤ ds.length) :: [DVones ((ds.drop o).take (len * i.size))])
              | .slice (some ⟨m, 0, none⟩) l0 cap => (match lk h m with
                | some ⟨.dp sz zz ds0, _⟩ => bif Nat.beq sz i.size && beqZL zz z.cells.toList then some ((.slice (some ⟨nx + 1, 0, none⟩) (l0 + len) (capBig + (nx + 1)), (nx + 1, ⟨.dp i.size z.cells.toList (ds0 ++ (ds.drop o).take (len * i.size)), []⟩) :: delH h m, nx + 2, [m]), (cap = capBig + m ∧ ds0.length = l0 * i.size) :: ((l0 + len) * i.bytes ≤ 140737488355328 ∧ l0 + len ≤ 9223372036854775807) :: (o + len * i.size ≤ ds.length) :: [DVones ((ds.drop o).take (len * i.size))]) else none
                | some ⟨.shut, []⟩ => bif Nat.beq l0 0 && Nat.beq cap 0 then some ((.slice (some ⟨nx + 1, 0, none⟩) len (capBig + (nx + 1)), (nx + 1, ⟨.dp i.size z.cells.toList ((ds.drop o).take (len * i.size)), []⟩) :: h, nx + 2, []), (0 < len ∧ len * i.bytes ≤ 140737488355328 ∧ len ≤ 9223372036854775807) :: (o + len * i.size ≤ ds.length) :: [DVones ((ds.drop o).take (len * i.size))]) else none
                | _ => none)
              | _ => none) else none
          | _, _ => none
        | _, _ => none
      | _, _ => none
    | _, _ => none
  | _ => none
theorem daS_call {ev : Operand → Option Value} {nx : Nat} {op : Op} {x : Out × List Prop} (hs : daS P ev h nx op = some x) : ∃ args ts, op = .call ⟨.builtin .append, args, ts⟩ := by
  unfold daS at hs
  split at hs
  · exact ⟨_, _, rfl⟩
  · cases hs
theorem daS_tidy {ev : Operand → Option Value} {nx : Nat} {op : Op} {v : Value} {h' : Hp} {nx' : Nat} {d : List Nat} {ob : List Prop} (hs : daS P ev h nx op = some ((v, h', nx', d), ob)) : Tidy h nx h' nx' d := by
  unfold daS at hs
  have new : ∀ {r : Rw}, Tidy h nx ((nx + 1, r) :: h) (nx + 2) [] := fun {r} => ⟨by omega, fun n hn _ => by rw [lk_cons, if_neg (by omega)], fun hB n hn => by rw [lk_cons, if_neg (by omega)]; exact hB n (by omega)⟩
  split at hs
  case h_2 => cases hs
  split at hs
  case h_2 => cases hs
  split at hs
  case h_2 => cases hs
  split at hs
  case h_2 => cases hs
  split at hs
  case h_2 => cases hs
  obtain ⟨_, hs⟩ := bif_of hs
  split at hs
  · simp only [Option.some.injEq, Prod.mk.injEq] at hs
    obtain ⟨⟨rfl, rfl, rfl, rfl⟩, _⟩ := hs
    exact new
  · split at hs
    · obtain ⟨_, hs⟩ := bif_of hs
      simp only [Option.some.injEq, Prod.mk.injEq] at hs
      obtain ⟨⟨rfl, rfl, rfl, rfl⟩, _⟩ := hs
      refine ⟨by omega, fun n hn hd => ?_, fun hB n hn => ?_⟩
      · rw [lk_cons, if_neg (by omega), lk_delH, if_neg (fun e => hd (by simp [e]))]
      · rw [lk_cons, if_neg (by omega), lk_delH]
        split
        · rfl
        · exact hB n (by omega)
    · obtain ⟨_, hs⟩ := bif_of hs
      simp only [Option.some.injEq, Prod.mk.injEq] at hs
      obtain ⟨⟨rfl, rfl, rfl, rfl⟩, _⟩ := hs
      exact new
    · cases hs
  · cases hs
theorem daS_ok {a : Act} (hR : Rl W σ h w) {ev : Operand → Option Value} {nx nx' : Nat} (hf : Fresh σ nx nx') (H : Evs σ ev a) {o : Oper} {v : Value} {h' : Hp} {d : List Nat} {ob : List Prop} (hs : daS P ev h nx o.op = some ((v, h', nx', d), ob)) (ho : Alls ob) :
    ∃ σ' w' v', Stp W nx nx' σ h w σ' h' w' ∧ renV σ' v = some v' ∧ Ends P a o w v' w' := by
  obtain ⟨args, ts, hop⟩ := daS_call hs
  rw [hop] at hs
  simp only [daS] at hs
  split at hs
  case h_2 => cases hs
  rename_i t tx s k o0 len0 c0 hte hev
  split at hs
  case h_2 => cases hs
  rename_i e e2 hu hu2
  split at hs
  case h_2 => cases hs
  rename_i i r hi hlk
  split at hs
  case h_2 => cases hs
  rename_i ds z hd hz
  obtain ⟨hg, hs1⟩ := bif_of hs
  clear hs
  simp only [Bool.and_eq_true] at hg
  obtain ⟨g1, g2⟩ := hg
  have hzs : z.cells.size = i.size := by have := Nat.eq_of_beq_eq_true g1; simpa using this
  obtain ⟨s', l, hs', hl, e1⟩ := renL_cons (evL_ok H hev)
  obtain ⟨x', l', hx', hl', rfl⟩ := renL_cons hl
  simp only [renL, Option.some.injEq] at hl'
  subst hl'
  have hargs : args.map a.eval = #[s', x'] := by apply Array.toList_inj.1; rw [Array.toList_map, e1]
  have hts' : ts = #[t, tx] := by apply Array.toList_inj.1; simpa using hte
  have fin : ∀ {v' w'}, (Builtin.append_ #[t, tx] o.type #[s', x']).run P w = .ok v' w' → Ends P a o w v' w' := fun h3 => by
    refine .inl ?_
    unfold execOp
    simp only [hop, resolve, Sem.run_bind, Sem.run_pure, Result.andThen_ok, invoke, builtin, hargs, hts', h3]
  have ren_ : ∀ {τ : Sg} {b c len : Nat}, renV (τ.vwc (nx + 1) (b, 0) c (some (shAll σ h)) none) (.slice (some ⟨nx + 1, 0, none⟩) len (capBig + (nx + 1))) = some (.slice (some ⟨b, 0, none⟩) len c) := fun {τ b c len} =>
    renV_slice_mk (o := 0) (p := (b, 0)) (by simp [Sg.vwc]) (by unfold cpR; rw [if_neg (by omega), Nat.add_sub_cancel_left]; simp [Sg.vwc]) (by simp [Sg.vwc])
  -- what is appended
  have src_ : o0 + len0 * i.size ≤ ds.length → (∀ d ∈ (ds.drop o0).take (len0 * i.size), DVone d) → ∃ vn, DRv W w (shAll σ h) ((ds.drop o0).take (len0 * i.size)) vn ∧ Src P i.size tx x' len0 vn w := fun hle hone => by
    obtain ⟨b, s, vs0, hb, _⟩ := hR.row k r hlk
    obtain ⟨us, hv, hcell⟩ := deep_src hR hlk hd hb
    have hv2 : DRv W w (shAll σ h) ((ds.drop o0).take (len0 * i.size)) ((us.drop o0).take (len0 * i.size)) := ((hv.dropv o0).take _).more fun q hq => shAll_of hlk hq
    have hlen : ((us.drop o0).take (len0 * i.size)).length = len0 * i.size := by rw [hv2.len2, List.length_take, List.length_drop]; omega
    rcases renV_slice hx' with ⟨p, c', hb', _, rfl, _⟩ | ⟨_, rfl, _, rfl⟩
    · rw [hb] at hb'
      cases hb'
      refine ⟨_, hv2, Src.ofSlice w hu2 ⟨b, s + o0, none⟩ _ c' _ hlen (fun j u hj => ?_) (hv2.one hone)⟩
      rw [addr_add]
      have hj2 := hj
      rw [List.getElem?_take, if_pos (by have := (List.getElem?_eq_some_iff.1 hj).1; omega), List.getElem?_drop] at hj2
      have := hcell _ u hj2
      show w.cell? ⟨b, s + o0 + j, none⟩ = some u
      rwa [show s + o0 + j = s + (o0 + j) by omega]
    · have e0 : (us.drop o0).take (0 * i.size) = [] := by simp
      rw [e0] at hv2
      exact ⟨[], hv2, Src.ofEmpty w hu2 _ 0⟩
  -- new memory
  have grow_ : ∀ {base : Option Addr} {sLen sCap : Nat} {olds : List Value} {ds1 : List DV}, s' = .slice base sLen sCap → o0 + len0 * i.size ≤ ds.length → (∀ d ∈ (ds.drop o0).take (len0 * i.size), DVone d) → (Builtin.firstCells i.size sLen (.slice base sLen sCap)).run P w.drew = .ok olds.toArray w.drew → DRv W w (shAll σ h) ds1 olds → olds.length = sLen * i.size → sCap < sLen + len0 → sLen + len0 ≤ 9223372036854775807 → (sLen + len0) * i.bytes ≤ 140737488355328 → Fresh σ nx (nx + 2) →
      ∃ σ' w' v', Stp W nx (nx + 2) σ h w σ' ((nx + 1, ⟨.dp i.size z.cells.toList (ds1 ++ (ds.drop o0).take (len0 * i.size)), []⟩) :: h) w' ∧ renV σ' (.slice (some ⟨nx + 1, 0, none⟩) (sLen + len0) (capBig + (nx + 1))) = some v' ∧ Ends P a o w v' w' := by
    intro base sLen sCap olds ds1 hse ho1 ho2 hold hds hol hg h63 hb hf
    obtain ⟨vn, hE, hsr⟩ := src_ ho1 ho2
    have hrun := run_append_grow_src (P := P) (ty := o.type) w t tx e i z hu hi hz base sLen sCap olds hold x' len0 vn hsr hg (by omega) (growslice_fits hg hb)
    have hge := grownCap_ge w (sLen + len0) sCap e
    have hle := grownCap_le_maxLen w (sLen + len0) sCap e (by unfold maxLen; omega)
    have hd := Stp.drew hR nx
    have hlen : (olds ++ vn ++ (Builtin.zeroCells z.cells (grownCap w (sLen + len0) sCap e - (sLen + len0))).toList).length = grownCap w (sLen + len0) sCap e * i.size := by
      rw [List.length_append, List.length_append, hol, hsr.newsLen, Array.length_toList, size_zeroCells, hzs, ← Nat.add_mul, ← Nat.add_mul]
      congr 1
      omega
    have S := Stp.dpNew hd.rl hf (t := e) (DRv.keep (w := w) (w1 := w.drew) (F := shAll σ h) (fun _ _ => rfl) (ds1 ++ (ds.drop o0).take (len0 * i.size)) (olds ++ vn) (hds.app2 hE)) hlen hle (z := z.cells.toList) zero_mem
    refine ⟨_, _, _, hd.trans S (Nat.le_refl _) (by omega), ren_, fin ?_⟩
    rw [hse, hrun]
    congr 2
    apply congrArg (fun q => Obj.cells q e (0, 0))
    apply Array.toList_inj.1
    simp
  split at hs1
  · simp only [Option.some.injEq, Prod.mk.injEq] at hs1
    obtain ⟨⟨rfl, rfl, rfl, rfl⟩, rfl⟩ := hs1
    obtain ⟨⟨k0, k1, k2⟩, k3, k4, _⟩ := ho
    have := grow_ (base := none) (sLen := 0) (sCap := 0) (olds := []) (ds1 := []) (by simpa only [renV, Option.some.injEq] using hs'.symm) k3 k4 (run_firstCells_none w.drew i.size 0 0 0) (by simp [DRv]) (by simp) (by omega) (by omega) (by rw [Nat.zero_add]; exact k1) hf
    simpa using this
  · rename_i m len cap
    split at hs1
    · rename_i sz zz ds0 cs0 hlm
      obtain ⟨hg3, hs2⟩ := bif_of hs1
      clear hs1
      simp only [Option.some.injEq, Prod.mk.injEq] at hs2
      obtain ⟨⟨rfl, rfl, rfl, rfl⟩, rfl⟩ := hs2
      obtain ⟨⟨rfl, k0⟩, ⟨k1, k2⟩, k3, k4, _⟩ := ho
      simp only [Bool.and_eq_true] at hg3
      obtain rfl := Nat.eq_of_beq_eq_true hg3.1
      have gz := beqZL_ok hg3.2
      subst gz
      have hrow := hR.row m _ hlm
      obtain ⟨b, s0, vs0, hb, hv0, q1, q2, q3, us, tt, rest, c, hcm, hblk, hrl, hcl, hrz, hds⟩ := hrow
      subst q1
      subst q3
      have hcs0 : cs0 = [] := by
        have := renL_len hv0
        exact List.eq_nil_of_length_eq_zero this.symm
      subst hcs0
      have hul := hds.len2
      rcases renV_slice hs' with ⟨p, c', hb', hcp, hse, hnn⟩ | ⟨hnn, _, _, _⟩
      case inr => exact (hR.shr.1 m _ hlm (fun e => by cases e) hnn).elim
      rw [hb] at hb'
      cases hb'
      rw [cpR_big, hcm] at hcp
      cases hcp
      have hcell : ∀ j, j < (us ++ rest).length → w.cell? ⟨b, j, none⟩ = (us ++ rest)[j]? := fun j hj => by
        rw [cell_of_row w b j _ tt _ hblk]; simp
      have hmore : DRv W w (shAll σ h) ds0 us := hds.more fun k hk => shAll_of hlm hk
      by_cases hroom : len + len0 ≤ c
      · obtain ⟨vn, hE, hsr⟩ := src_ k3 k4
        have hvn := hsr.newsLen
        have hfit : ds0.length + vn.length ≤ c * i.size := by
          rw [k0, hvn, ← Nat.add_mul]; exact Nat.mul_le_mul_right _ hroom
        have hrun := run_append_room_src (P := P) (ty := o.type) w t tx e i hu hi b (0 + 0) len c x' len0 vn hsr hroom (fun j hj => by
          have hlt2 : len * i.size + j < (us ++ rest).length := by omega
          rw [show 0 + 0 + len * i.size + j = len * i.size + j by omega, hcell _ hlt2, List.getElem?_eq_getElem hlt2]; rfl) (fun j hj => frozen_of_row w b _ _ tt hblk)
        have S := Stp.dpIn hR hf hlm hb hcm hE hfit
        refine ⟨_, _, _, S, ren_ (τ := σ), fin ?_⟩
        rw [hse, hrun, k0]
        simp
      · have := grow_ (base := some ⟨b, 0 + 0, none⟩) (sLen := len) (sCap := c) (olds := us) (ds1 := ds0) hse k3 k4 (run_firstCells_some (P := P) w.drew i.size len _ len c us (by omega) (fun j u hj => by
            rw [addr_add]
            show w.cell? ⟨b, 0 + 0 + j, none⟩ = some u
            rw [show 0 + 0 + j = j by omega]
            have hjl := (List.getElem?_eq_some_iff.1 hj).1
            rw [hcell j (by simp; omega), List.getElem?_append_left hjl]
            exact hj)) hmore (by omega) (by omega) k2 k1 hf
        obtain ⟨σ', w', v', h1, h2, h3⟩ := this
        refine ⟨σ', w', v', h1.less (fun k r hk => ?_), h2, h3⟩
        rw [lk_cons] at hk ⊢
        split
        · rename_i e5; rw [if_pos e5] at hk; exact hk
        · rename_i e5
          rw [if_neg e5, lk_delH] at hk
          split at hk
          · cases hk
          · exact hk
    · rename_i hlm
      obtain ⟨hg3, hs2⟩ := bif_of hs1
      clear hs1
      simp only [Option.some.injEq, Prod.mk.injEq] at hs2
      obtain ⟨⟨rfl, rfl, rfl, rfl⟩, rfl⟩ := hs2
      obtain ⟨⟨k0, k1, k2⟩, k3, k4, _⟩ := ho
      simp only [Bool.and_eq_true] at hg3
      obtain rfl := Nat.eq_of_beq_eq_true hg3.1
      obtain rfl := Nat.eq_of_beq_eq_true hg3.2
      have hse : ∃ A, s' = .slice A 0 0 := by
        rcases renV_slice hs' with ⟨p, c', _, hcp, hse, _⟩ | ⟨_, _, _, hse⟩
        · rw [cpR_of (show 0 < capBig by unfold capBig; omega) (Nat.le_refl _)] at hcp
          cases hcp
          exact ⟨_, hse⟩
        · exact ⟨_, hse⟩
      obtain ⟨A, hse⟩ := hse
      have hfc : (Builtin.firstCells i.size 0 (.slice A 0 0)).run P w.drew = .ok ([] : List Value).toArray w.drew := run_firstCells_empty w.drew i.size A 0
      have := grow_ (base := A) (sLen := 0) (sCap := 0) (olds := []) (ds1 := []) hse k3 k4 hfc (by simp [DRv]) (by simp) (by omega) (by omega) (by rw [Nat.zero_add]; exact k1) hf
      simpa using this
    · cases hs1
  · cases hs1
def odU (P : Program) (md : Nat) (ev : Operand → Option Value) (h : Hp) (nx : Nat) (op : Op) : Option (Out × List Prop) := bif Nat.beq md 46 then daS P ev h nx op else odT P md ev h nx op
theorem odU_tidy {md : Nat} {ev : Operand → Option Value} {nx : Nat} {op : Op} {v : Value} {h' : Hp} {nx' : Nat} {d : List Nat} {ob : List Prop} (hs : odU P md ev h nx op = some ((v, h', nx', d), ob)) : Tidy h nx h' nx' d := by
  unfold odU at hs
  rcases bif_or hs with ⟨_, hs⟩ | ⟨_, hs⟩
  · exact daS_tidy hs
  · exact odT_tidy hs
theorem odU_ok {a : Act} (hR : Rl W σ h w) {md : Nat} {ev : Operand → Option Value} {nx nx' : Nat} (hf : Fresh σ nx nx') (H : Evs σ ev a) {o : Oper} {v : Value} {h' : Hp} {d : List Nat} {ob : List Prop} (hs : odU P md ev h nx o.op = some ((v, h', nx', d), ob)) (ho : Alls ob) :
    ∃ σ' w' v', Stp W nx nx' σ h w σ' h' w' ∧ renV σ' v = some v' ∧ Ends P a o w v' w' := by
  unfold odU at hs
  rcases bif_or hs with ⟨_, hs⟩ | ⟨_, hs⟩
  · exact daS_ok hR hf H hs ho
  · exact odT_ok hR hf H hs ho
end
end Go.Proofs.Ytojakfnljopjbaa
/-
  The told machine, part Zi: append of nothing to a row of slices (mode 49).
-/
namespace Go.Proofs.Ytojakfnljopjbaa
set_option linter.unusedSimpArgs false
set_option linter.unusedVariables false
set_option linter.unusedSectionVars false
open Go Go.RowKit

section
variable {P : Program} {W : World} {lo hi : Nat} {σ σ' : Sg} {h h' : Hp} {w w' : World}
def daN (P : Program) (ev : Operand → Option Value) (h : Hp) (nx : Nat) : Op → Option (Out × List Prop)
  | .call ⟨.builtin .append, args, ts⟩ => match ts.toList, evL ev args.toList with
    | [t, tx], some [.slice (some ⟨m, 0, none⟩) len cap, .slice none 0 0] => match P.underlying t, P.underlying tx, lk h m with
      | some (.slice e), some (.slice e2), some ⟨.dp sz zz ds, _⟩ => match P.info? e with
        | some i => bif Nat.beq sz i.size && Nat.ble 1 i.size then some ((.slice (some ⟨m, 0, none⟩) len cap, h, nx, []), [cap = capBig + m ∧ ds.length = len * i.size]) else none
        | none => none
      | _, _, _ => none
    | _, _ => none
  | _ => none
theorem daN_call {ev : Operand → Option Value} {nx : Nat} {op : Op} {x : Out × List Prop} (hs : daN P ev h nx op = some x) : ∃ args ts, op = .call ⟨.builtin .append, args, ts⟩ := by
  unfold daN at hs
  split at hs
  · exact ⟨_, _, rfl⟩
  · cases hs
theorem daN_tidy {ev : Operand → Option Value} {nx : Nat} {op : Op} {v : Value} {h' : Hp} {nx' : Nat} {d : List Nat} {ob : List Prop} (hs : daN P ev h nx op = some ((v, h', nx', d), ob)) : Tidy h nx h' nx' d := by
  unfold daN at hs
  split at hs
  case h_2 => cases hs
  split at hs
  case h_2 => cases hs
  split at hs
  case h_2 => cases hs
  split at hs
  case h_2 => cases hs
  obtain ⟨_, hs⟩ := bif_of hs
  simp only [Option.some.injEq, Prod.mk.injEq] at hs
  obtain ⟨⟨rfl, rfl, rfl, rfl⟩, _⟩ := hs
  exact ⟨Nat.le_refl _, fun n hn _ => rfl, fun hB n hn => hB n hn⟩
theorem daN_ok {a : Act} (hR : Rl W σ h w) {ev : Operand → Option Value} {nx nx' : Nat} (hf : Fresh σ nx nx') (H : Evs σ ev a) {o : Oper} {v : Value} {h' : Hp} {d : List Nat} {ob : List Prop} (hs : daN P ev h nx o.op = some ((v, h', nx', d), ob)) (ho : Alls ob) :
    ∃ σ' w' v', Stp W nx nx' σ h w σ' h' w' ∧ renV σ' v = some v' ∧ Ends P a o w v' w' := by
  obtain ⟨args, ts, hop⟩ := daN_call hs
  rw [hop] at hs
  simp only [daN] at hs
  split at hs
  case h_2 => cases hs
  rename_i t tx m len cap hte hev
  split at hs
  case h_2 => cases hs
  rename_i e e2 sz zz ds cs0 hu hu2 hlm
  split at hs
  case h_2 => cases hs
  rename_i i hi
  obtain ⟨hg, hs⟩ := bif_of hs
  simp only [Option.some.injEq, Prod.mk.injEq] at hs
  obtain ⟨⟨rfl, rfl, rfl, rfl⟩, rfl⟩ := hs
  obtain ⟨⟨rfl, k0⟩, _⟩ := ho
  simp only [Bool.and_eq_true] at hg
  obtain ⟨g1, g2⟩ := hg
  obtain rfl := Nat.eq_of_beq_eq_true g1
  have hpos : 0 < i.size := Nat.le_of_ble_eq_true g2
  obtain ⟨s', l, hs', hl, e1⟩ := renL_cons (evL_ok H hev)
  obtain ⟨x', l', hx', hl', rfl⟩ := renL_cons hl
  simp only [renL, Option.some.injEq] at hl'
  subst hl'
  simp only [renV, Option.some.injEq] at hx'
  subst hx'
  have hargs : args.map a.eval = #[s', .slice none 0 0] := by apply Array.toList_inj.1; rw [Array.toList_map, e1]
  have hts' : ts = #[t, tx] := by apply Array.toList_inj.1; simpa using hte
  obtain ⟨b, s0, vs0, hb, hv0, q1, q2, q3, us, tt, rest, c, hcm, hblk, hrl, hcl, hrz, hds⟩ := hR.row m _ hlm
  subst q1
  have hul := hds.len2
  rcases renV_slice hs' with ⟨p, c', hb', hcp, rfl, hnn⟩ | ⟨hnn, _, _, _⟩
  case inr => exact (hR.shr.1 m _ hlm (fun e => by cases e) hnn).elim
  rw [hb] at hb'
  cases hb'
  rw [cpR_big, hcm] at hcp
  cases hcp
  have hlc : len ≤ c := by
    rw [List.length_append, hul, k0] at hrl
    exact Nat.le_of_mul_le_mul_right (by omega) hpos
  have hrun := run_append_room_src (P := P) (ty := o.type) w t tx e i hu hi b (0 + 0) len c (.slice none 0 0) 0 [] (Src.ofNil w hu2 0) (by omega) (fun j hj => by simp at hj) (fun j hj => by simp at hj)
  refine ⟨σ, w, _, Stp.refl hR nx, hs', .inl ?_⟩
  unfold execOp
  simp only [hop, resolve, Sem.run_bind, Sem.run_pure, Result.andThen_ok, invoke, builtin, hargs, hts', hrun]
  simp [World.setCells]
def odS (P : Program) (md : Nat) (ev : Operand → Option Value) (h : Hp) (nx : Nat) (op : Op) : Option (Out × List Prop) := bif Nat.beq md 49 then daN P ev h nx op else odU P md ev h nx op
theorem odS_tidy {md : Nat} {ev : Operand → Option Value} {nx : Nat} {op : Op} {v : Value} {h' : Hp} {nx' : Nat} {d : List Nat} {ob : List Prop} (hs : odS P md ev h nx op = some ((v, h', nx', d), ob)) : Tidy h nx h' nx' d := by
  unfold odS at hs
  rcases bif_or hs with ⟨_, hs⟩ | ⟨_, hs⟩
  · exact daN_tidy hs
  · exact odU_tidy hs
theorem odS_ok {a : Act} (hR : Rl W σ h w) {md : Nat} {ev : Operand → Option Value} {nx nx' : Nat} (hf : Fresh σ nx nx') (H : Evs σ ev a) {o : Oper} {v : Value} {h' : Hp} {d : List Nat} {ob : List Prop} (hs : odS P md ev h nx o.op = some ((v, h', nx', d), ob)) (ho : Alls ob) :
    ∃ σ' w' v', Stp W nx nx' σ h w σ' h' w' ∧ renV σ' v = some v' ∧ Ends P a o w v' w' := by
  unfold odS at hs
  rcases bif_or hs with ⟨_, hs⟩ | ⟨_, hs⟩
  · exact daN_ok hR hf H hs ho
  · exact odU_ok hR hf H hs ho
end
end Go.Proofs.Ytojakfnljopjbaa
