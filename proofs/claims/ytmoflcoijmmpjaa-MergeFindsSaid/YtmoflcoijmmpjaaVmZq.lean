/-
  The told machine, part Zq: what is read of rows whose cells are slices; each slice gets a name of its own.
-/
import Derived.Test.YtmoflcoijmmpjaaVmZa
namespace Go.Proofs.Ytmoflcoijmmpjaa
set_option linter.unusedSimpArgs false
set_option linter.unusedVariables false
set_option linter.unusedSectionVars false
open Go Go.RowKit

def dInt (ds : List DV) (o : Nat) : Int := match ds[o]? with | some (.fl (.int _ n)) => n | _ => 0
def dBool (ds : List DV) (o : Nat) : Bool := match ds[o]? with | some (.fl (.bool b)) => b | _ => false
def dStr (ds : List DV) (o : Nat) : ByteArray := match ds[o]? with | some (.fl (.string s)) => s | _ => ByteArray.empty
def dLen (ds : List DV) (o : Nat) : Nat := match ds[o]? with | some (.sl n _ _) => n | _ => 0
def dCap (ds : List DV) (o : Nat) : Nat := match ds[o]? with | some (.sl _ (some c) _) => c | _ => 0
def dSub (ds : List DV) (o : Nat) : List DV := match ds[o]? with | some (.sl _ _ l) => l | _ => []
def DV.val : DV → Value
  | .fl v => v
  | _ => undef
def dVals (ds : List DV) (o : Nat) : List Value := (dSub ds o).map DV.val
def DSl (ds : List DV) (o len : Nat) (cap : Option Nat) (l : List DV) : Prop := ∃ c, ds[o]? = some (.sl len c l) ∧ (cap = none ∨ c = cap)
def shD (deep uc : Bool) (ds : List DV) (o : Nat) : List Value → Nat → Nat → Option (List Value × List Rw × List Prop)
  | [], _, _ => some ([], [], [])
  | .int k _ :: zs, j, nx => match shD deep uc ds o zs (j + 1) nx with
    | some (l, rs, ob) => some (.int k (dInt ds (o + j)) :: l, rs, (ds[o + j]? = some (.fl (.int k (dInt ds (o + j))))) :: ob)
    | none => none
  | .bool _ :: zs, j, nx => match shD deep uc ds o zs (j + 1) nx with
    | some (l, rs, ob) => some (.bool (dBool ds (o + j)) :: l, rs, (ds[o + j]? = some (.fl (.bool (dBool ds (o + j))))) :: ob)
    | none => none
  | .string _ :: zs, j, nx => match shD deep uc ds o zs (j + 1) nx with
    | some (l, rs, ob) => some (.string (dStr ds (o + j)) :: l, rs, (ds[o + j]? = some (.fl (.string (dStr ds (o + j))))) :: ob)
    | none => none
  | .slice none _ _ :: zs, j, nx => match shD deep uc ds o zs (j + 1) (nx + 1) with
    | some (l, rs, ob) => some (.slice (some ⟨nx, 0, none⟩) (dLen ds (o + j)) (bif uc then capBig + nx else dCap ds (o + j)) :: l, (bif deep then ⟨.sd (dSub ds (o + j)), []⟩ else ⟨.old, dVals ds (o + j)⟩) :: rs,
        (DSl ds (o + j) (dLen ds (o + j)) (bif uc then none else some (dCap ds (o + j))) (bif deep then dSub ds (o + j) else (dVals ds (o + j)).map DV.fl)) :: ob)
    | none => none
  | _, _, _ => none
def rowsU : List Rw → Nat → Hp → Hp
  | [], _, h => h
  | r :: rs, nx, h => rowsU rs (nx + 1) ((nx, r) :: h)
def ShOb (P : Program) (t : TypeId) (deep uc : Bool) (ds : List DV) (o nx : Nat) : Prop := match P.info? t with
  | some i => (match i.zero with
    | some z => (match shD deep uc ds o z.cells.toList 0 nx with | some (_, _, ob) => Alls ob | none => True)
    | none => True)
  | none => True
def mdD (md : Nat) : Bool := bif Nat.beq md 31 then true else Nat.beq md 33
def mdU (md : Nat) : Bool := bif Nat.beq md 32 then true else Nat.beq md 33
def deepOf : Kd → Option (List DV)
  | .sd ds => some ds
  | .dp _ _ ds => some ds
  | .df _ _ ds => some ds
  | .sw ds => some ds
  | _ => none
def odL (P : Program) (md : Nat) (ev : Operand → Option Value) (h : Hp) (nx : Nat) : Op → Option (Out × List Prop)
  | .load t x => match ev x with
    | some (.pointer (some ⟨n, o, none⟩)) => match lk h n with
      | some r => match deepOf r.kd, P.underlying t, P.info? t with
        | some ds, some d, some i => match i.zero with
          | some z => match shD (mdD md) (mdU md) ds o z.cells.toList 0 nx with
            | some (l, rs, _) => bif Nat.beq l.length i.size then (bif d.isRow then some ((.agg ⟨l⟩, rowsU rs nx h, nx + rs.length, []), [ShOb P t (mdD md) (mdU md) ds o nx]) else (match l with
                | [v] => some ((v, rowsU rs nx h, nx + rs.length, []), [ShOb P t (mdD md) (mdU md) ds o nx])
                | _ => none)) else none
            | none => none
          | none => none
        | _, _, _ => none
      | none => none
    | _ => none
  | _ => none
section
variable {P : Program} {W : World} {σ : Sg} {h : Hp} {w : World}
theorem DRs.get {F : List Nat} : ∀ {ds : List DV} {b s : Nat}, DRs W w F b s ds → ∀ j d, ds[j]? = some d → ∃ v, ((b < W.heap.size ∧ W.cell? ⟨b, s + j, none⟩ = some v) ∨ (b ∈ F ∧ w.cell? ⟨b, s + j, none⟩ = some v)) ∧ DR W w F d v
  | [], b, s, _, j, d, h => by simp at h
  | x :: ds, b, s, hd, j, d, h => by
      simp only [DRs] at hd
      cases j with
      | zero => simp only [List.getElem?_cons_zero, Option.some.injEq] at h; subst h; exact hd.1
      | succ j =>
        have := DRs.get hd.2 j d (by simpa using h)
        rwa [show s + 1 + j = s + (j + 1) by omega] at this
theorem DRs.blk {F : List Nat} : ∀ {ds : List DV} {b s : Nat}, DRs W w F b s ds → b < W.heap.size ∨ b ∈ F
  | [], b, s, hd => by simpa only [DRs] using hd
  | x :: ds, b, s, hd => by simp only [DRs] at hd; exact DRs.blk hd.2
theorem DRs.flat {F : List Nat} {X : List Value} {b s : Nat} (hx : Ext W w) (hd : DRs W w F b s (X.map DV.fl)) : (∀ σ, renL σ X = some X) ∧ ((b < W.heap.size ∧ ∀ j v, X[j]? = some v → W.cell? ⟨b, s + j, none⟩ = some v) ∨ (b ∈ F ∧ ∀ j v, X[j]? = some v → w.cell? ⟨b, s + j, none⟩ = some v)) := by
  have key : ∀ j v, X[j]? = some v → (∀ σ, renV σ v = some v) ∧ ((b < W.heap.size ∧ W.cell? ⟨b, s + j, none⟩ = some v) ∨ (b ∈ F ∧ w.cell? ⟨b, s + j, none⟩ = some v)) := fun j v hj => by
    obtain ⟨u, h1, h2⟩ := hd.get j (.fl v) (by simp [hj])
    simp only [DR] at h2
    obtain ⟨rfl, h2⟩ := h2
    exact ⟨h2, h1⟩
  refine ⟨fun σ => ?_, ?_⟩
  · have : ∀ l : List Value, (∀ v ∈ l, renV σ v = some v) → renL σ l = some l := by
      intro l
      induction l with
      | nil => intro _; rfl
      | cons x l ih => intro hl; exact renL_mk (hl x (List.mem_cons_self ..)) (ih fun v hv => hl v (List.mem_cons_of_mem _ hv))
    refine this X fun v hv => ?_
    obtain ⟨j, hj⟩ := List.getElem?_of_mem hv
    exact (key j v hj).1 σ
  · by_cases hb : b < W.heap.size
    · refine .inl ⟨hb, fun j v hj => ?_⟩
      rcases (key j v hj).2 with ⟨_, h2⟩ | ⟨_, h2⟩
      · exact h2
      · rw [← hx.cell b (s + j) hb]; exact h2
    · rcases hd.blk with h1 | h1
      · exact absurd h1 hb
      · refine .inr ⟨h1, fun j v hj => ?_⟩
        rcases (key j v hj).2 with ⟨h2, _⟩ | ⟨_, h2⟩
        · exact absurd h2 hb
        · exact h2
def Sg.vwc (σ : Sg) (n : Nat) (p : Nat × Nat) (c : Nat) (F : Option (List Nat)) (E : Option Addr) : Sg := ⟨fun m => if m = n then some p else σ.b m, fun m => if m = n then some c else σ.c m, fun m => if m = n then F else σ.f m, fun m => if m = n then E else σ.e m, σ.w⟩
theorem Stp.viewc (hR : Rl W σ h w) {nx : Nat} (hf : Fresh σ nx (nx + 1)) {r : Rw} (p : Nat × Nat) (c : Nat) (F : Option (List Nat)) (E : Option Addr) (hF : ∀ k, k ∈ F.getD [] → ∃ m s, lk h m = some s ∧ k ∈ sh σ m) (hs : ShKd r.kd) (hr : RowOk W (σ.vwc nx p c F E) w nx r) :
    Stp W nx (nx + 1) σ h w (σ.vwc nx p c F E) ((nx, r) :: h) w := by
  have hf0 := hf nx (Nat.le_refl _) (by omega)
  have hne : ∀ k x, lk h k = some x → k ≠ nx := fun k x hk e => by
    subst e
    obtain ⟨b', s', vs', hb', _⟩ := hR.row _ _ hk
    rw [hf0.1] at hb'
    cases hb'
  have hbs : ∀ k, k ≠ nx → (σ.vwc nx p c F E).b k = σ.b k ∧ (σ.vwc nx p c F E).c k = σ.c k ∧ (σ.vwc nx p c F E).f k = σ.f k ∧ (σ.vwc nx p c F E).e k = σ.e k ∧ (σ.vwc nx p c F E).w = σ.w := fun k hk => by simp only [Sg.vwc]; rw [if_neg hk, if_neg hk, if_neg hk, if_neg hk]; exact ⟨rfl, rfl, rfl, rfl, trivial⟩
  have hle : σ.le (σ.vwc nx p c F E) := by
    refine ⟨fun m q e => ?_, fun m k e => ?_, fun m q e => ?_⟩
    · have hm : m ≠ nx := fun e2 => by subst e2; rw [hf0.1] at e; cases e
      rw [(hbs m hm).1]; exact e
    · have hm : m ≠ nx := fun e2 => by subst e2; rw [hf0.2] at e; cases e
      rw [(hbs m hm).2.1]; exact e
    · have hm : m ≠ nx := fun e2 => by subst e2; rw [hf0.1] at e; cases e
      exact (hbs m hm).2
  have cls : ∀ m s, lk ((nx, r) :: h) m = some s → s.own → lk h m = some s := fun m s hm ho => by
    rw [lk_cons] at hm
    split at hm
    · cases hm; exact absurd hs ho
    · exact hm
  refine Stp0.up ⟨hle, fun m hm => ?_, ⟨hR.ext, fun m s hm => ?_, fun m k s t q q' hm hk hs' ht hq hq' e => ?_⟩, Nat.le_refl _, fun _ _ _ => rfl, fun m s q hm hs' hq => ?_⟩ hR.shr hR.wf fun m s hm => ?_
  · exact ⟨(hbs m (by omega)).1, (hbs m (by omega)).2.1⟩
  · rw [lk_cons] at hm
    split at hm
    · rename_i e; cases hm; subst e; exact hr
    · exact hR.keepA hm hle fun _ _ => rfl
  · have hm := cls m s hm hs'
    have hk := cls k t hk ht
    rw [(hbs m (hne m s hm)).1] at hq
    rw [(hbs k (hne k t hk)).1] at hq'
    exact hR.inj m k s t q q' hm hk hs' ht hq hq' e
  · have hm := cls m s hm hs'
    rw [(hbs m (hne m s hm)).1] at hq
    exact .inr ⟨m, s, q, hm, hs', hq, rfl⟩
  · refine ⟨fun ho => ?_, fun k hk => ?_⟩
    · have hm := cls m s hm ho
      rw [(hbs m (hne m s hm)).2.2.1]
      exact hR.shr.1 m s hm ho
    · rw [lk_cons] at hm
      split at hm
      · rename_i e
        subst e
        refine hF k ?_
        simpa only [sh, Sg.vwc, if_true] using hk
      · have hm2 := hne m s hm
        refine ⟨m, s, hm, ?_⟩
        unfold sh at hk ⊢
        rw [(hbs m hm2).2.2.1] at hk
        exact hk
theorem lk_rowsU : ∀ {rs : List Rw} {nx n : Nat} {h : Hp}, lk (rowsU rs nx h) n = if nx ≤ n ∧ n < nx + rs.length then rs[n - nx]? else lk h n
  | [], nx, n, h => by simp only [rowsU, List.length_nil, Nat.add_zero]; rw [if_neg (by omega)]
  | r :: rs, nx, n, h => by
      simp only [rowsU]
      rw [lk_rowsU, lk_cons]
      simp only [List.length_cons]
      by_cases h1 : nx = n
      · subst h1
        rw [if_neg (by omega), if_pos rfl, if_pos (by omega)]; simp
      · by_cases h2 : nx + 1 ≤ n ∧ n < nx + 1 + rs.length
        · rw [if_pos h2, if_pos (by omega), show n - nx = (n - (nx + 1)) + 1 by omega, List.getElem?_cons_succ]
        · rw [if_neg h2, if_neg h1, if_neg (by omega)]
theorem deep_get (hR : Rl W σ h w) {n : Nat} {r : Rw} {ds : List DV} {b s : Nat} (hl : lk h n = some r) (hd : deepOf r.kd = some ds) (hb : σ.b n = some (b, s)) : ∀ j d, ds[j]? = some d → ∃ u, w.cell? ⟨b, s + j, none⟩ = some u ∧ DR W w (sh σ n) d u := by
  obtain ⟨b', s', vs, h1, h2, h3⟩ := hR.row n r hl
  rw [hb] at h1
  cases h1
  unfold deepOf at hd
  intro j d hj
  have fin : ∀ (us rest : List Value) (t : TypeId), s = 0 → w.heap[b]? = some (.cells (us ++ rest).toArray t (0, 0)) → DRv W w (sh σ n) ds us → ds[j]? = some d → ∃ u, w.cell? ⟨b, s + j, none⟩ = some u ∧ DR W w (sh σ n) d u := fun us rest t hs hc hv hj => by
    subst hs
    have key : ∀ {ds : List DV} {us : List Value} {j : Nat} {d : DV}, DRv W w (sh σ n) ds us → ds[j]? = some d → ∃ u, us[j]? = some u ∧ DR W w (sh σ n) d u := by
      intro ds
      induction ds with
      | nil => intro us j d _ h; simp at h
      | cons x ds ih =>
        intro us j d h hj
        simp only [DRv] at h
        obtain ⟨u, us', rfl, h1, h2⟩ := h
        cases j with
        | zero => simp only [List.getElem?_cons_zero, Option.some.injEq] at hj; subst hj; exact ⟨u, rfl, h1⟩
        | succ j =>
          obtain ⟨v, g1, g2⟩ := ih h2 (by simpa using hj)
          exact ⟨v, by simpa using g1, g2⟩
    obtain ⟨u, hu, hdr⟩ := key hv hj
    refine ⟨u, ?_, hdr⟩
    have hj2 : (us ++ rest)[j]? = some u := by rw [List.getElem?_append_left (List.getElem?_eq_some_iff.1 hu).1]; exact hu
    simp only [World.cell?, hc, Nat.zero_add]
    simpa using hj2
  split at hd
  · rename_i ds' hk
    cases hd
    rw [hk] at h3
    rcases h3.2 with h4 | h4
    · subst h4; simp at hj
    · obtain ⟨u, hu, hdr⟩ := h4.get j d hj
      refine ⟨u, ?_, hdr⟩
      rcases hu with ⟨g1, g2⟩ | ⟨_, g2⟩
      · exact (hR.ext.cell b (s + j) g1).trans g2
      · exact g2
  · rename_i sz z ds' hk
    cases hd
    rw [hk] at h3
    obtain ⟨rfl, _, _, us, t, rest, c, _, hc, _, _, _, hv⟩ := h3
    exact fin us rest t rfl hc hv hj
  · rename_i sz z ds' hk
    cases hd
    rw [hk] at h3
    obtain ⟨_, rfl, _, _, us, t, rest, c, _, hc, _, _, _, hv⟩ := h3
    exact fin us rest t rfl hc (hv W) hj
  · rename_i ds' hk
    cases hd
    rw [hk] at h3
    rcases h3.2.2 with h4 | h4
    · subst h4; simp at hj
    · obtain ⟨u, hu, hdr⟩ := h4.get j d hj
      refine ⟨u, ?_, by rw [h3.1]; exact hdr⟩
      rcases hu with ⟨g1, g2⟩ | ⟨_, g2⟩
      · exact (hR.ext.cell b (s + j) g1).trans g2
      · exact g2
  · cases hd
theorem shD_ok {deep uc : Bool} {n : Nat} {r0 : Rw} {ds : List DV} {F : List Nat} {b s : Nat} {o0 : Nat} (hget : ∀ j d, ds[j]? = some d → ∃ u, w.cell? ⟨b, s + j, none⟩ = some u ∧ DR W w F d u) :
    ∀ {zs : List Value} {j0 nx : Nat} {l : List Value} {rs : List Rw} {ob : List Prop} {σ : Sg} {h : Hp}, shD deep uc ds o0 zs j0 nx = some (l, rs, ob) → Alls ob → Rl W σ h w → Fresh σ nx (nx + rs.length) → lk h n = some r0 → σ.b n = some (b, s) → sh σ n = F →
    ∃ σ' us, Stp W nx (nx + rs.length) σ h w σ' (rowsU rs nx h) w ∧ renL σ' l = some us ∧ ∀ j u, us[j]? = some u → w.cell? ⟨b, s + (o0 + j0) + j, none⟩ = some u
  | [], j0, nx, l, rs, ob, σ, h, hs, ho, hR, hf, hl, hb, hsh => by
      simp only [shD, Option.some.injEq, Prod.mk.injEq] at hs
      obtain ⟨rfl, rfl, rfl⟩ := hs
      exact ⟨σ, [], Stp.refl hR nx, rfl, fun j u hj => by simp at hj⟩
  | z :: zs, j0, nx, l, rs, ob, σ, h, hs, ho, hR, hf, hl, hb, hsh => by
      have plain : ∀ (v : Value) {l' : List Value} {rs' : List Rw} {ob' : List Prop}, shD deep uc ds o0 zs (j0 + 1) nx = some (l', rs', ob') → l = v :: l' → rs = rs' → ob = (ds[(o0 + j0)]? = some (.fl v)) :: ob' →
          ∃ σ' us, Stp W nx (nx + rs.length) σ h w σ' (rowsU rs nx h) w ∧ renL σ' l = some us ∧ ∀ j u, us[j]? = some u → w.cell? ⟨b, s + (o0 + j0) + j, none⟩ = some u := by
        intro v l' rs' ob' hh e1 e2 e3
        subst e1; subst e2; subst e3
        obtain ⟨h1, h2⟩ := ho
        obtain ⟨σ', us, S, hv, hc⟩ := shD_ok hget hh h2 hR hf hl hb hsh
        obtain ⟨u, hu, hdr⟩ := hget (o0 + j0) _ h1
        simp only [DR] at hdr
        obtain ⟨rfl, hfl⟩ := hdr
        refine ⟨σ', u :: us, S, renL_mk (hfl σ') hv, fun j x hj => ?_⟩
        cases j with
        | zero =>
          simp only [List.getElem?_cons_zero, Option.some.injEq] at hj
          subst hj
          rw [Nat.add_zero]; exact hu
        | succ j =>
          have := hc j x (by simpa using hj)
          rwa [show s + (o0 + (j0 + 1)) + j = s + (o0 + j0) + (j + 1) by omega] at this
      have slice : ∀ (r : Rw) (sub : List DV) (cc : Nat) {l' : List Value} {rs' : List Rw} {ob' : List Prop}, shD deep uc ds o0 zs (j0 + 1) (nx + 1) = some (l', rs', ob') → l = .slice (some ⟨nx, 0, none⟩) (dLen ds (o0 + j0)) (bif uc then capBig + nx else cc) :: l' → rs = r :: rs' → ob = (DSl ds (o0 + j0) (dLen ds (o0 + j0)) (bif uc then none else some cc) sub) :: ob' → ShKd r.kd →
          (∀ (τ : Sg) (b' s' : Nat), τ.b nx = some (b', s') → (sub = [] ∨ DRs W w (sh τ nx) b' s' sub) → RowOk W τ w nx r) →
          ∃ σ' us, Stp W nx (nx + rs.length) σ h w σ' (rowsU rs nx h) w ∧ renL σ' l = some us ∧ ∀ j u, us[j]? = some u → w.cell? ⟨b, s + (o0 + j0) + j, none⟩ = some u := by
        intro r sub cc l' rs' ob' hh e1 e2 e3 hk hro
        subst e1; subst e2; subst e3
        simp only [List.length_cons] at hf ⊢
        obtain ⟨⟨c0, h1, hc0⟩, h2⟩ := ho
        obtain ⟨u, hu, hdr⟩ := hget (o0 + j0) _ h1
        have hf1 : Fresh σ nx (nx + 1) := hf.low (by omega)
        have step : ∃ p c F' E, Stp W nx (nx + 1) σ h w (σ.vwc nx p c F' E) ((nx, r) :: h) w ∧ renV (σ.vwc nx p c F' E) (.slice (some ⟨nx, 0, none⟩) (dLen ds (o0 + j0)) (bif uc then capBig + nx else cc)) = some u := by
          have cps : ∀ {p c F' E}, (∀ k, c0 = some k → c = k ∧ k ≤ 9223372036854775807) → cpR (σ.vwc nx p c F' E) (bif uc then capBig + nx else cc) = some c := fun {p c F' E} hk => by
            cases uc with
            | true => simp only [cond_true]; unfold cpR; rw [if_neg (by omega), Nat.add_sub_cancel_left]; simp [Sg.vwc]
            | false =>
              simp only [cond_false] at hc0 ⊢
              rcases hc0 with hc0 | hc0
              · cases hc0
              · obtain ⟨this, hc9⟩ := hk cc hc0
                subst this
                unfold cpR; rw [if_pos (by unfold capBig; omega)]
          simp only [DR] at hdr
          rcases hdr with ⟨g1, g2, g3, ea, rfl⟩ | ⟨b1, s1, c, rfl, g3, g4⟩
          · refine ⟨(b, s), 0, none, ea, Stp.viewc hR hf1 _ _ _ _ (fun k hk => by cases hk) hk (hro _ b s (by simp [Sg.vwc]) (.inl g2)), ?_⟩
            have hcp := cps (p := (b, s)) (c := 0) (F' := none) (E := ea) (fun k hk => by
              rcases g3 with g3 | g3
              · rw [g3] at hk; cases hk
              · rw [g3] at hk; cases hk; exact ⟨rfl, by omega⟩)
            rw [g1]
            have := renV_nil (σ := σ.vwc nx (b, s) 0 none ea) (n := nx) (o := 0) (l := 0) (c := bif uc then capBig + nx else cc) (p := (b, s)) (by simp [Sg.vwc]) (by simp [Sg.vwc]) rfl hcp
            rw [show (σ.vwc nx (b, s) 0 none ea).e nx = ea by simp [Sg.vwc]] at this
            exact this
          · refine ⟨(b1, s1), c, some F, none, Stp.viewc hR hf1 _ _ _ _ (fun k hk => ⟨n, r0, hl, by rw [hsh]; exact hk⟩) hk (hro _ b1 s1 (by simp [Sg.vwc]) ?_), ?_⟩
            · have : sh (σ.vwc nx (b1, s1) c (some F) none) nx = F := by simp [sh, Sg.vwc]
              rw [this]; exact g4
            · have hcp := cps (p := (b1, s1)) (c := c) (F' := some F) (E := none) fun k hk => ⟨(g3.2 k hk).1, (g3.2 k hk).2.2⟩
              have := renV_slice_mk (σ := σ.vwc nx (b1, s1) c (some F) none) (n := nx) (o := 0) (l := dLen ds (o0 + j0)) (c := bif uc then capBig + nx else cc) (c' := c) (p := (b1, s1)) (by simp [Sg.vwc]) hcp (by simp [Sg.vwc]) (.inr g3.1)
              simpa using this
        obtain ⟨p, c, F', E, S1, hv1⟩ := step
        have hne : n ≠ nx := fun e => by
          subst e
          rw [(hf1 n (Nat.le_refl _) (by omega)).1] at hb
          cases hb
        obtain ⟨σ', us, S2, hv, hc⟩ := shD_ok hget (σ := σ.vwc nx p c F' E) (h := (nx, r) :: h) hh h2 S1.rl (by
          intro k h1 h2
          have := hf k (by omega) (by omega)
          simp only [Sg.vwc]
          rw [if_neg (by omega), if_neg (by omega)]
          exact this) (by rw [lk_cons, if_neg (Ne.symm hne)]; exact hl) (by simp only [Sg.vwc]; rw [if_neg hne]; exact hb) (by
          unfold sh at hsh ⊢
          simp only [Sg.vwc]
          rw [if_neg hne]; exact hsh)
        have hS := S1.trans S2 (by omega) (by omega)
        rw [show nx + 1 + rs'.length = nx + (rs'.length + 1) by omega] at hS
        refine ⟨σ', u :: us, hS, renL_mk (renV_le S2.le _ _ hv1) hv, fun j x hj => ?_⟩
        cases j with
        | zero =>
          simp only [List.getElem?_cons_zero, Option.some.injEq] at hj
          subst hj
          rw [Nat.add_zero]; exact hu
        | succ j =>
          have := hc j x (by simpa using hj)
          rwa [show s + (o0 + (j0 + 1)) + j = s + (o0 + j0) + (j + 1) by omega] at this
      cases z with
      | int k i =>
        simp only [shD] at hs
        split at hs
        · rename_i l' rs' ob' hh
          simp only [Option.some.injEq, Prod.mk.injEq] at hs
          exact plain _ hh hs.1.symm hs.2.1.symm hs.2.2.symm
        · cases hs
      | bool x =>
        simp only [shD] at hs
        split at hs
        · rename_i l' rs' ob' hh
          simp only [Option.some.injEq, Prod.mk.injEq] at hs
          exact plain _ hh hs.1.symm hs.2.1.symm hs.2.2.symm
        · cases hs
      | string x =>
        simp only [shD] at hs
        split at hs
        · rename_i l' rs' ob' hh
          simp only [Option.some.injEq, Prod.mk.injEq] at hs
          exact plain _ hh hs.1.symm hs.2.1.symm hs.2.2.symm
        · cases hs
      | slice a ll cc =>
        cases a with
        | some a => simp [shD] at hs
        | none =>
          simp only [shD] at hs
          split at hs
          · rename_i l' rs' ob' hh
            simp only [Option.some.injEq, Prod.mk.injEq] at hs
            obtain ⟨rfl, rfl, rfl⟩ := hs
            cases deep with
            | true => exact slice ⟨.sd (dSub ds (o0 + j0)), []⟩ _ _ hh rfl rfl rfl (.sd _) fun τ b' s' e1 e2 => ⟨b', s', [], e1, rfl, rfl, e2⟩
            | false =>
              refine slice ⟨.old, dVals ds (o0 + j0)⟩ _ _ hh rfl rfl rfl .old fun τ b' s' e1 e2 => ?_
              simp only [cond_false] at e2
              rcases e2 with e2 | e2
              · have : dVals ds (o0 + j0) = [] := by
                  cases hv : dVals ds (o0 + j0) with
                  | nil => rfl
                  | cons x y => rw [hv] at e2; cases e2
                rw [this]
                exact ⟨b', s', [], e1, rfl, .inl rfl⟩
              · obtain ⟨g1, g2⟩ := e2.flat hR.ext
                exact ⟨b', s', _, e1, g1 τ, .inr g2⟩
          · cases hs
      | _ => simp [shD] at hs
theorem odL_tidy {md : Nat} {ev : Operand → Option Value} {nx : Nat} {op : Op} {v : Value} {h' : Hp} {nx' : Nat} {d : List Nat} {ob : List Prop} (hs : odL P md ev h nx op = some ((v, h', nx', d), ob)) : Tidy h nx h' nx' d := by
  have key : ∀ rs : List Rw, Tidy h nx (rowsU rs nx h) (nx + rs.length) [] := fun rs =>
    ⟨Nat.le_add_right _ _, fun n hn _ => by rw [lk_rowsU, if_neg (by omega)], fun hB n hn => by rw [lk_rowsU, if_neg (by omega)]; exact hB n (by omega)⟩
  unfold odL at hs
  split at hs
  case h_2 => cases hs
  split at hs
  case h_2 => cases hs
  split at hs
  case h_2 => cases hs
  split at hs
  case h_2 => cases hs
  split at hs
  case h_2 => cases hs
  split at hs
  case h_2 => cases hs
  obtain ⟨_, hs⟩ := bif_of hs
  rcases bif_or hs with ⟨_, hs⟩ | ⟨_, hs⟩
  · simp only [Option.some.injEq, Prod.mk.injEq] at hs
    obtain ⟨⟨rfl, rfl, rfl, rfl⟩, _⟩ := hs
    exact key _
  · split at hs
    · simp only [Option.some.injEq, Prod.mk.injEq] at hs
      obtain ⟨⟨rfl, rfl, rfl, rfl⟩, _⟩ := hs
      exact key _
    · cases hs
theorem odL_ok {a : Act} (hR : Rl W σ h w) {md : Nat} {ev : Operand → Option Value} {nx nx' : Nat} (hf : Fresh σ nx nx') (H : Evs σ ev a) {o : Oper} {v : Value} {h' : Hp} {d : List Nat} {ob : List Prop} (hs : odL P md ev h nx o.op = some ((v, h', nx', d), ob)) (ho : Alls ob) :
    ∃ σ' w' v', Stp W nx nx' σ h w σ' h' w' ∧ renV σ' v = some v' ∧ Ends P a o w v' w' := by
  unfold odL at hs
  split at hs
  case h_2 => cases hs
  rename_i t x hop
  split at hs
  case h_2 => cases hs
  rename_i n off hx
  split at hs
  case h_2 => cases hs
  rename_i r0 hl
  split at hs
  case h_2 => cases hs
  rename_i ds dd i hdeep hu hi
  split at hs
  case h_2 => cases hs
  rename_i z hz
  split at hs
  case h_2 => cases hs
  rename_i l rs ob' hd
  obtain ⟨hlen, hs⟩ := bif_of hs
  have hob : ShOb P t (mdD md) (mdU md) ds off nx → Alls ob' := fun e => by unfold ShOb at e; simpa only [hi, hz, hd] using e
  have hx' := H x _ hx
  obtain ⟨p, hb, hp, hnn⟩ := renV_ptr hx'
  have main : ∀ v0, loadV P t l 0 = some v0 → nx' = nx + rs.length → h' = rowsU rs nx h → v = v0 → Alls ob' → ∃ σ' w' v', Stp W nx nx' σ h w σ' h' w' ∧ renV σ' v = some v' ∧ Ends P a o w v' w' := by
    intro v0 hld e1 e2 e3 ho'
    subst e1; subst e2; subst e3
    obtain ⟨σ', us, S, hv, hc⟩ := shD_ok (deep_get hR hl hdeep (b := p.1) (s := p.2) hb) hd ho' hR hf hl hb rfl
    obtain ⟨v', h4, h5⟩ := loadV_ok (P := P) hv hc hld
    refine ⟨σ', w, v', S, h4, .inl ?_⟩
    unfold execOp
    rw [hop]
    simp only [hp, Instr.loadAt, Instr.sureAddr, Sem.run_bind, Sem.run_pure, Result.andThen_ok]
    simp only [Nat.add_zero] at h5
    rw [h5]
    rfl
  rcases bif_or hs with ⟨hrow, hs⟩ | ⟨hrow, hs⟩
  · simp only [Option.some.injEq, Prod.mk.injEq] at hs
    obtain ⟨⟨rfl, rfl, rfl, rfl⟩, rfl⟩ := hs
    refine main _ ?_ rfl rfl rfl (hob ho.1)
    unfold loadV
    rw [hu]
    simp only [hrow, cond_true, hi, frc_eq, List.drop_zero]
    have e := Nat.eq_of_beq_eq_true hlen
    rw [List.take_of_length_le (by omega), hlen]
    rfl
  · split at hs
    · simp only [Option.some.injEq, Prod.mk.injEq] at hs
      obtain ⟨⟨rfl, rfl, rfl, rfl⟩, rfl⟩ := hs
      refine main _ ?_ rfl rfl rfl (hob ho.1)
      unfold loadV
      rw [hu]
      simp only [hrow, cond_false]
      rfl
    · cases hs
end

def keyEq : Value → Value → Bool
  | .agg ⟨[.int a x, .int b y]⟩, .agg ⟨[.int c u, .int d v]⟩ => (decide (a = c) && (x == u)) && (decide (b = d) && (y == v))
  | _, _ => false
theorem keyEq_ok {k k' : Value} (h : keyEq k k' = true) : k = k' := by
  unfold keyEq at h
  split at h
  · simp only [Bool.and_eq_true, decide_eq_true_eq, beq_iff_eq] at h
    obtain ⟨⟨rfl, rfl⟩, rfl, rfl⟩ := h
    rfl
  · cases h
def upE (k v : Value) : List (Value × Value) → List (Value × Value)
  | [] => [(k, v)]
  | (k', u) :: es => bif keyEq k k' then (k, v) :: es else (k', u) :: upE k v es
def fdE (k : Value) : List (Value × Value) → Option Value
  | [] => none
  | (k', u) :: es => bif keyEq k k' then some u else fdE k es
def bE (k : Value) (es : List (Value × Value)) : Bool := match fdE k es with | some (.bool b) => b | _ => false
def KeysOk (P : Program) (t : TypeId) (k : Value) (es : List (Value × Value)) : Prop := ∀ e ∈ es, fixK e.1 = true ∧ eqV P 10000 t k e.1 = some (keyEq k e.1)
def BoolsOk (es : List (Value × Value)) : Prop := ∀ e ∈ es, ∃ b, e.2 = .bool b
theorem KeysOk.find {P : Program} {t : TypeId} {k : Value} : ∀ {es : List (Value × Value)}, KeysOk P t k es → findV P t k es = some (fdE k es)
  | [], _ => rfl
  | (k', u) :: es, h => by
      obtain ⟨h1, h2⟩ := h (k', u) (List.mem_cons_self ..)
      have ih := KeysOk.find (es := es) fun e he => h e (List.mem_cons_of_mem _ he)
      simp only at h1 h2
      simp only [findV, fdE, h1, cond_true, h2]
      cases keyEq k k' with
      | true => rfl
      | false => simpa using ih
theorem BoolsOk.find {k : Value} : ∀ {es : List (Value × Value)}, BoolsOk es → fdE k es = none ∨ ∃ b, fdE k es = some (.bool b)
  | [], _ => .inl rfl
  | (k', u) :: es, h => by
      obtain ⟨b, hb⟩ := h (k', u) (List.mem_cons_self ..)
      simp only at hb
      subst hb
      simp only [fdE]
      cases keyEq k k' with
      | true => exact .inr ⟨b, rfl⟩
      | false => exact BoolsOk.find fun e he => h e (List.mem_cons_of_mem _ he)
section
variable {P : Program} {W : World} {σ : Sg} {h : Hp} {w : World}
theorem ask_up {t : TypeId} {k v : Value} (hk : fixK k = true) : ∀ (A : List MapEntry) (j : Nat), KeysOk P t k (A.map fun e => (e.key, e.val)) →
    ((Instr.findAsking t k A j).run P w = .ok none w ∧ upE k v (A.map fun e => (e.key, e.val)) = (A.map fun e => (e.key, e.val)) ++ [(k, v)]) ∨
    ∃ i u e, (Instr.findAsking t k A j).run P w = .ok (some (j + i, u)) w ∧ A[i]? = some e ∧ e.key = k ∧ upE k v (A.map fun e => (e.key, e.val)) = ((A.modify i fun e => { e with key := k, val := v }).map fun e => (e.key, e.val))
  | [], j, _ => .inl ⟨rfl, rfl⟩
  | a :: A, j, h => by
      obtain ⟨hf, he⟩ := h (a.key, a.val) (by simp)
      have ih := ask_up (v := v) hk A (j + 1) fun e he => h e (by simp only [List.map_cons]; exact List.mem_cons_of_mem _ he)
      simp only at hf he
      have e2 : (Op.equal t k a.key).run P w = .ok (keyEq k a.key) w := eqV_ok (P := P) (σ := ⟨fun _ => none, fun _ => none, fun _ => none, fun _ => none, true⟩) (w := w) 10000 t k a.key k a.key _ he (fixK_ren _ hk) (fixK_ren _ hf)
      cases hb : keyEq k a.key with
      | true =>
        rw [hb] at e2
        refine .inr ⟨0, a.val, a, by simp [Instr.findAsking, e2], rfl, (keyEq_ok hb).symm, ?_⟩
        simp only [List.map_cons, upE, hb, cond_true, List.modify_zero_cons]
      | false =>
        rw [hb] at e2
        rcases ih with ⟨h1, h2⟩ | ⟨i, u, e, h1, h2, h3, h4⟩
        · refine .inl ⟨by simpa [Instr.findAsking, e2] using h1, ?_⟩
          simp only [List.map_cons, upE, hb, cond_false, h2, List.cons_append]
        · refine .inr ⟨i + 1, u, e, ?_, by simpa using h2, h3, ?_⟩
          · rw [show j + (i + 1) = j + 1 + i by omega]
            simpa [Instr.findAsking, e2] using h1
          · simp only [List.map_cons, upE, hb, cond_false, h4, List.modify_succ_cons]
theorem find_up {t : TypeId} (ht : keyT P t = true) {k v : Value} (hk : fixK k = true) {A : List MapEntry} (h : KeysOk P t k (A.map fun e => (e.key, e.val))) :
    ((Instr.findKey t k A).run P w = .ok none w ∧ upE k v (A.map fun e => (e.key, e.val)) = (A.map fun e => (e.key, e.val)) ++ [(k, v)]) ∨
    ∃ i u e, (Instr.findKey t k A).run P w = .ok (some (i, u)) w ∧ A[i]? = some e ∧ e.key = k ∧ upE k v (A.map fun e => (e.key, e.val)) = ((A.modify i fun e => { e with key := k, val := v }).map fun e => (e.key, e.val)) := by
  obtain ⟨e, kk, i, h1, h2, h3, h4⟩ := keyT_ok ht
  have key : (Instr.findKey t k A).run P w = (Instr.findAsking t k A 0).run P w := by
    cases A with
    | nil => simp [Instr.findKey, run_underlying h1, Instr.findNow, Instr.findAsking]
    | cons a A => simp [Instr.findKey, run_underlying h1, Instr.findNow, Instr.sameNow]
  have := ask_up (P := P) (w := w) (v := v) hk A 0 h
  rw [key]
  simpa only [Nat.zero_add] using this
theorem fix_bits {k : Value} (hk : fixK k = true) : Instr.sameBits 10000 k k = true := by
  unfold fixK at hk
  split at hk
  · simp [Instr.sameBits]
  · cases hk
def mpZ (P : Program) (ev : Operand → Option Value) (h : Hp) (nx : Nat) : Op → Option (Out × List Prop)
  | .lookup t x i false => match ev x, ev i, P.underlying t with
    | some x', some i', some (.map kt et) => match mapEs h x', P.info? et with
      | some es, some inf => match inf.zero with
        | some (.bool false) => bif keyT P kt && fixK i' then some ((.bool (bE i' es), h, nx, []), [KeysOk P kt i' es, BoolsOk es]) else none
        | _ => none
      | _, _ => none
    | _, _, _ => none
  | .mapUpdate t m k v => match P.underlying t, ev m, ev k, ev v with
    | some (.map kt _), some (.map (some n)), some k', some v' => match lk h n with
      | some ⟨.mp es, _⟩ => bif keyT P kt && fixK k' && noAd v' then some ((undef, setH h n ⟨.mp (upE k' v' es), []⟩, nx, [n]), [KeysOk P kt k' es]) else none
      | _ => none
    | _, _, _, _ => none
  | _ => none
theorem mpZ_tidy {ev : Operand → Option Value} {nx : Nat} {op : Op} {v : Value} {h' : Hp} {nx' : Nat} {d : List Nat} {ob : List Prop} (hs : mpZ P ev h nx op = some ((v, h', nx', d), ob)) : Tidy h nx h' nx' d := by
  unfold mpZ at hs
  split at hs
  · split at hs
    case h_2 => cases hs
    split at hs
    case h_2 => cases hs
    split at hs
    case h_2 => cases hs
    obtain ⟨_, hs⟩ := bif_of hs
    simp only [Option.some.injEq, Prod.mk.injEq] at hs
    obtain ⟨⟨rfl, rfl, rfl, rfl⟩, _⟩ := hs
    exact ⟨Nat.le_refl _, fun _ _ _ => rfl, fun hB => hB⟩
  · split at hs
    case h_2 => cases hs
    split at hs
    case h_2 => cases hs
    rename_i n k' v' _ _ _ _ _ es cs hl
    obtain ⟨_, hs⟩ := bif_of hs
    simp only [Option.some.injEq, Prod.mk.injEq] at hs
    obtain ⟨⟨rfl, rfl, rfl, rfl⟩, _⟩ := hs
    have tdy : ∀ m, m ≠ n → lk (setH h n ⟨.mp (upE k' v' es), []⟩) m = lk h m := fun m hm => by rw [lk_setH, if_neg (Ne.symm hm)]
    refine ⟨Nat.le_refl _, fun m _ hm => tdy m (by simpa using hm), fun hB m hm => ?_⟩
    rw [tdy m (fun e => by subst e; rw [hB m hm] at hl; cases hl)]
    exact hB m hm
  · cases hs
theorem mpZ_ok {a : Act} (hR : Rl W σ h w) {ev : Operand → Option Value} {nx nx' : Nat} (hf : Fresh σ nx nx') (H : Evs σ ev a) {o : Oper} {v : Value} {h' : Hp} {d : List Nat} {ob : List Prop} (hs : mpZ P ev h nx o.op = some ((v, h', nx', d), ob)) (ho : Alls ob) :
    ∃ σ' w' v', Stp W nx nx' σ h w σ' h' w' ∧ renV σ' v = some v' ∧ Ends P a o w v' w' := by
  unfold mpZ at hs
  split at hs
  · rename_i t x i hop
    split at hs
    case h_2 => cases hs
    rename_i x' i' kt et hx hi hu
    split at hs
    case h_2 => cases hs
    rename_i es inf hes hinf
    split at hs
    case h_2 => cases hs
    rename_i hz
    obtain ⟨hg, hs⟩ := bif_of hs
    simp only [Option.some.injEq, Prod.mk.injEq] at hs
    obtain ⟨⟨rfl, rfl, rfl, rfl⟩, rfl⟩ := hs
    obtain ⟨g1, g2, _⟩ := ho
    have hl : lookV P h t x' i' false = some (.bool (bE i' es)) := by
      unfold lookV
      simp only [hu, hes, hinf, hg, cond_true, g1.find, hz]
      unfold bE
      rcases BoolsOk.find (k := i') g2 with e | ⟨b, e⟩
      · rw [e]; rfl
      · rw [e]; rfl
    obtain ⟨h1, h2⟩ := lookV_ok hR hl (H x _ hx) (H i _ hi)
    refine ⟨σ, w, _, Stp.refl hR nx, h1, .inl ?_⟩
    unfold execOp
    rw [hop]
    simp only [h2, Sem.run_bind, Result.andThen_ok, Sem.run_pure]
  · rename_i t m k v0 hop
    split at hs
    case h_2 => cases hs
    rename_i kt et n k' v' hu hm hk hv0
    split at hs
    case h_2 => cases hs
    rename_i es cs hl
    obtain ⟨hg, hs⟩ := bif_of hs
    simp only [Option.some.injEq, Prod.mk.injEq] at hs
    obtain ⟨⟨rfl, rfl, rfl, rfl⟩, rfl⟩ := hs
    simp only [Bool.and_eq_true] at hg
    obtain ⟨⟨g1, g2⟩, g3⟩ := hg
    obtain ⟨hKO, _⟩ := ho
    have hm' := H m _ hm
    have hk' := H k _ hk
    have hv' := H v0 _ hv0
    rw [fixK_ren σ g2] at hk'
    rw [noAd_ren σ g3] at hv'
    obtain ⟨b, s, vs, hb, hvs, h1, h2, h3, A, kk, hA, hAe⟩ := hR.row _ _ hl
    simp only [renV, hb, Option.some.injEq] at hm'
    have hck := check_ok (P := P) (w := w) g1 g2 false
    have hlt := hR.lt hl (fun e => by cases e) hb
    have step : ∀ (A' : Array MapEntry) (kk' : Nat), A'.toList.map (fun e => (e.key, e.val)) = upE k' v' es → Stp W nx nx σ h w σ (setH h n ⟨.mp (upE k' v' es), []⟩) (w.putObj b (.map A' kk')) := fun A' kk' e =>
      Stp.turn hR hl (fun e => by cases e) hb (.map A' kk') (.mp (upE k' v' es)) (fun e => by cases e) ⟨h1, h2, rfl, _, _, World.putObj_heap_same hlt, e⟩ nx
    rw [← hAe] at hKO
    rcases find_up (P := P) (w := w) (v := v') g1 g2 hKO with ⟨f1, f2⟩ | ⟨i, u, e, f1, f2, f3, f4⟩
    · refine ⟨σ, _, undef, step (A.push { key := k', val := v', born := kk }) (kk + 1) (by rw [← hAe, f2]; simp), rfl, .inr ⟨?_, rfl⟩⟩
      unfold execOp
      rw [hop]
      have hset := MapKept.run_setObj_map (P := P) (.map (A.push { key := k', val := v', born := kk }) (kk + 1)) hA
      simp only [← hm', ← Option.some.inj hk', ← Option.some.inj hv', Instr.mapUpdate, Sem.run_bind, run_underlying hu, Result.andThen_ok, MapKept.run_getObj_map hA, hck, f1, hset, Sem.run_pure]
      rfl
    · have hA2 : A[i]? = some e := by rw [← f2]; simp
      refine ⟨σ, _, undef, step (A.modify i fun e => { e with key := k', val := v' }) kk (by rw [← hAe, f4]; simp), rfl, .inr ⟨?_, rfl⟩⟩
      unfold execOp
      rw [hop]
      have hset := MapKept.run_setObj_map (P := P) (.map (A.modify i fun e => { e with key := k', val := v' }) kk) hA
      simp only [← hm', ← Option.some.inj hk', ← Option.some.inj hv', Instr.mapUpdate, Sem.run_bind, run_underlying hu, Result.andThen_ok, MapKept.run_getObj_map hA, hck, f1, hA2, Option.map_some, Option.getD_some, f3, Instr.keyThatStays, fix_bits g2, if_true, hset, Sem.run_pure]
      rfl
  · cases hs
def anZ (P : Program) (ev : Operand → Option Value) (h : Hp) (nx : Nat) : Op → Option (Out × List Prop)
  | .call ⟨.builtin .append, args, ts⟩ => match ts.toList, evL ev args.toList with
    | [t, tx], some [.slice (some ⟨m, o, none⟩) len cap, .int kq k] => match P.underlying t, P.underlying tx with
      | some (.slice e), some (.int _) => match P.info? e, lk h m with
        | some i, some r => match i.zero with
          | some z => bif noAdL z.cells.toList && Nat.beq z.cells.toList.length i.size && Nat.ble 1 i.size then
              some ((.slice (some ⟨nx, 0, none⟩) (len + k.toNat) (capBig + nx), (nx, ⟨.room i.size z.cells.toList, tkD o (mlN len i.size) r.cs ++ zrep z.cells.toList (mlN k.toNat i.size)⟩) :: h, nx + 1, []), [0 < k ∧ cap < capBig ∧ cap < len + k.toNat, (len + k.toNat) * i.bytes ≤ 140737488355328 ∧ len + k.toNat ≤ 9223372036854775807, adN o (mlN len i.size) ≤ r.cs.length]) else none
          | none => none
        | _, _ => none
      | _, _ => none
    | _, _ => none
  | _ => none
theorem anZ_app {ev : Operand → Option Value} {nx : Nat} {args : Array Operand} {ts : Array TypeId} {out : Out} {ob : List Prop} (hs : anZ P ev h nx (.call ⟨.builtin .append, args, ts⟩) = some (out, ob)) (ho : Alls ob) :
    ∃ t tx s x, ts.toList = [t, tx] ∧ evL ev args.toList = some [s, x] ∧ appN P h nx t tx s x = some out := by
  simp only [anZ] at hs
  split at hs
  case h_2 => cases hs
  rename_i t tx m o len cap kq k ht hev
  split at hs
  case h_2 => cases hs
  rename_i e kk hu hux
  split at hs
  case h_2 => cases hs
  rename_i i r hi hl
  split at hs
  case h_2 => cases hs
  rename_i z hz
  obtain ⟨hg, hs⟩ := bif_of hs
  simp only [Option.some.injEq, Prod.mk.injEq] at hs
  obtain ⟨rfl, rfl⟩ := hs
  simp only [Bool.and_eq_true] at hg
  obtain ⟨⟨g1, g2⟩, g3⟩ := hg
  obtain ⟨⟨k1, k2, k3⟩, ⟨k4, k5⟩, k6, _⟩ := ho
  refine ⟨t, tx, _, _, ht, hev, ?_⟩
  simp only [adN_eq, mlN_eq, tkD_eq] at k6 ⊢
  unfold appN
  simp only [hu, hux, hi, hz, cellsAt_of hl k6, g1, g2, g3, decide_eq_true k1, blt_of k2, blt_of k3, Nat.ble_eq_true_of_le k4, Nat.ble_eq_true_of_le k5, Bool.and_self, cond_true, if_true]
theorem anZ_call {ev : Operand → Option Value} {nx : Nat} {op : Op} {x : Out × List Prop} (hs : anZ P ev h nx op = some x) : ∃ args ts, op = .call ⟨.builtin .append, args, ts⟩ := by
  unfold anZ at hs
  split at hs
  · exact ⟨_, _, rfl⟩
  · cases hs
theorem anZ_tidy {ev : Operand → Option Value} {nx : Nat} {op : Op} {v : Value} {h' : Hp} {nx' : Nat} {d : List Nat} {ob : List Prop} (hs : anZ P ev h nx op = some ((v, h', nx', d), ob)) : Tidy h nx h' nx' d := by
  unfold anZ at hs
  split at hs
  case h_2 => cases hs
  split at hs
  case h_2 => cases hs
  split at hs
  case h_2 => cases hs
  split at hs
  case h_2 => cases hs
  split at hs
  case h_2 => cases hs
  obtain ⟨_, hs⟩ := bif_of hs
  simp only [Option.some.injEq, Prod.mk.injEq] at hs
  obtain ⟨⟨rfl, rfl, rfl, rfl⟩, _⟩ := hs
  exact ⟨Nat.le_succ _, fun n hn _ => by rw [lk_cons, if_neg (by omega)], fun hB n hn => by rw [lk_cons, if_neg (by omega)]; exact hB n (by omega)⟩
theorem anZ_ok {a : Act} (hR : Rl W σ h w) {ev : Operand → Option Value} {nx nx' : Nat} (hf : Fresh σ nx nx') (H : Evs σ ev a) {o : Oper} {v : Value} {h' : Hp} {d : List Nat} {ob : List Prop} (hs : anZ P ev h nx o.op = some ((v, h', nx', d), ob)) (ho : Alls ob) :
    ∃ σ' w' v', Stp W nx nx' σ h w σ' h' w' ∧ renV σ' v = some v' ∧ Ends P a o w v' w' := by
  obtain ⟨args, ts, hop⟩ := anZ_call hs
  rw [hop] at hs
  obtain ⟨t, tx, s, x, hte, hev, hc⟩ := anZ_app hs ho
  obtain ⟨s', l, hs', hl, e1⟩ := renL_cons (evL_ok H hev)
  obtain ⟨x', l', hx', hl', rfl⟩ := renL_cons hl
  simp only [renL, Option.some.injEq] at hl'
  subst hl'
  have hargs : args.map a.eval = #[s', x'] := by apply Array.toList_inj.1; rw [Array.toList_map, e1]
  have hts' : ts = #[t, tx] := by apply Array.toList_inj.1; simpa using hte
  obtain ⟨σ', w', v', h1, h2, h3⟩ := appN_ok (P := P) (ty := o.type) hR hc hf hs' hx'
  refine ⟨σ', w', v', h1, h2, .inl ?_⟩
  unfold execOp
  simp only [hop, resolve, Sem.run_bind, Sem.run_pure, Result.andThen_ok, invoke, builtin, hargs, hts', h3]
def saZ (P : Program) (ev : Operand → Option Value) (h : Hp) (nx : Nat) : Op → Option (Out × List Prop)
  | .slice t x (some lo) none none => match P.underlying t, ev x, ev lo with
    | some (.slice e), some (.slice (some ⟨n, o, none⟩) len cap), some (.int _ l) => match P.info? e, lk h n with
      | some i, some ⟨.room sz _, cs⟩ => bif Nat.beq sz i.size && Nat.blt 0 sz then
          some ((.slice (some ⟨n, ixO o l.toNat sz, none⟩) (sbN len l.toNat) (capBig + nx), h, nx + 1, []), [cap = capBig + n, 0 ≤ l ∧ l < (len : Int), len * sz ≤ cs.length]) else none
      | _, _ => none
    | _, _, _ => none
  | _ => none
theorem saZ_slc {ev : Operand → Option Value} {nx : Nat} {op : Op} {out : Out} {ob : List Prop} (hs : saZ P ev h nx op = some (out, ob)) (ho : Alls ob) : slcN P ev h nx op = some out := by
  unfold saZ at hs
  split at hs
  case h_2 => cases hs
  rename_i t x lo
  split at hs
  case h_2 => cases hs
  rename_i e n o len cap kl l hu hx hl
  split at hs
  case h_2 => cases hs
  rename_i i sz z cs hi hlk
  obtain ⟨hg, hs⟩ := bif_of hs
  simp only [Option.some.injEq, Prod.mk.injEq] at hs
  obtain ⟨rfl, rfl⟩ := hs
  obtain ⟨rfl, ⟨k1, k2⟩, k3, _⟩ := ho
  simp only [Bool.and_eq_true] at hg
  have hsz : 0 < sz := Nat.le_of_ble_eq_true hg.2
  have hd : len ≤ cs.length / sz := (Nat.le_div_iff_mul_le hsz).2 k3
  have hlt : l.toNat < cs.length / sz := by omega
  have hb : bdsV len (cs.length / sz) (some (.int kl l)) none none = some (l.toNat, len, cs.length / sz) := by
    have e : bdV (some (Value.int kl l)) 0 len = some l.toNat := by
      have : (0 ≤ l ∧ l ≤ (len : Int)) := ⟨k1, by omega⟩
      simp only [bdV, decide_eq_true this, cond_true]
    exact bdsV_eq (m := 0) rfl rfl e fun _ => rfl
  unfold slcN
  simp only [hu, hx, evO, hl, hi, Nat.add_sub_cancel_left, hlk, hb, hg.1, hg.2, Nat.ble_eq_true_of_le (Nat.le_add_right capBig n), Nat.beq_refl, Bool.and_self, cond_true, blt_of hlt, ixO_eq, sbN_eq]
theorem saZ_tidy {ev : Operand → Option Value} {nx : Nat} {op : Op} {v : Value} {h' : Hp} {nx' : Nat} {d : List Nat} {ob : List Prop} (hs : saZ P ev h nx op = some ((v, h', nx', d), ob)) : Tidy h nx h' nx' d := by
  unfold saZ at hs
  split at hs
  case h_2 => cases hs
  split at hs
  case h_2 => cases hs
  split at hs
  case h_2 => cases hs
  obtain ⟨_, hs⟩ := bif_of hs
  simp only [Option.some.injEq, Prod.mk.injEq] at hs
  obtain ⟨⟨rfl, rfl, rfl, rfl⟩, _⟩ := hs
  exact ⟨Nat.le_succ _, fun n _ _ => rfl, fun hB n hn => hB n (by omega)⟩
theorem saZ_ok {a : Act} (hR : Rl W σ h w) {ev : Operand → Option Value} {nx nx' : Nat} (hf : Fresh σ nx nx') (H : Evs σ ev a) {o : Oper} {v : Value} {h' : Hp} {d : List Nat} {ob : List Prop} (hs : saZ P ev h nx o.op = some ((v, h', nx', d), ob)) (ho : Alls ob) :
    ∃ σ' w' v', Stp W nx nx' σ h w σ' h' w' ∧ renV σ' v = some v' ∧ Ends P a o w v' w' := by
  obtain ⟨σ', w', v', h1, h2, h3⟩ := slcN_ok hR hf H (saZ_slc hs ho)
  exact ⟨σ', w', v', h1, h2, .inl h3⟩
def odY (P : Program) (md : Nat) (ev : Operand → Option Value) (h : Hp) (nx : Nat) (op : Op) : Option (Out × List Prop) := bif Nat.beq md 40 then mpZ P ev h nx op else bif Nat.beq md 41 then anZ P ev h nx op else bif Nat.beq md 42 then saZ P ev h nx op else odL P md ev h nx op
theorem odY_tidy {md : Nat} {ev : Operand → Option Value} {nx : Nat} {op : Op} {v : Value} {h' : Hp} {nx' : Nat} {d : List Nat} {ob : List Prop} (hs : odY P md ev h nx op = some ((v, h', nx', d), ob)) : Tidy h nx h' nx' d := by
  unfold odY at hs
  rcases bif_or hs with ⟨_, hs⟩ | ⟨_, hs⟩
  · exact mpZ_tidy hs
  rcases bif_or hs with ⟨_, hs⟩ | ⟨_, hs⟩
  · exact anZ_tidy hs
  rcases bif_or hs with ⟨_, hs⟩ | ⟨_, hs⟩
  · exact saZ_tidy hs
  · exact odL_tidy hs
theorem odY_ok {a : Act} (hR : Rl W σ h w) {md : Nat} {ev : Operand → Option Value} {nx nx' : Nat} (hf : Fresh σ nx nx') (H : Evs σ ev a) {o : Oper} {v : Value} {h' : Hp} {d : List Nat} {ob : List Prop} (hs : odY P md ev h nx o.op = some ((v, h', nx', d), ob)) (ho : Alls ob) :
    ∃ σ' w' v', Stp W nx nx' σ h w σ' h' w' ∧ renV σ' v = some v' ∧ Ends P a o w v' w' := by
  unfold odY at hs
  rcases bif_or hs with ⟨_, hs⟩ | ⟨_, hs⟩
  · exact mpZ_ok hR hf H hs ho
  rcases bif_or hs with ⟨_, hs⟩ | ⟨_, hs⟩
  · exact anZ_ok hR hf H hs ho
  rcases bif_or hs with ⟨_, hs⟩ | ⟨_, hs⟩
  · exact saZ_ok hR hf H hs ho
  · exact odL_ok hR hf H hs ho
end
end Go.Proofs.Ytmoflcoijmmpjaa
