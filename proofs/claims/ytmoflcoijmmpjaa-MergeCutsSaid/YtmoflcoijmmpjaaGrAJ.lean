/-
  The told machine, part Zq: what is read of rows whose cells are slices; each slice gets a name of its own.
-/
import Derived.Test.YtmoflcoijmmpjaaGrAI
namespace Go.Proofs.Ytmoflcoijmmpjaa
set_option linter.unusedSimpArgs false
set_option linter.unusedVariables false
set_option linter.unusedSectionVars false
open Go Go.RowKit

def dInt (ds : List DV) (o : Nat) : Int := match ds[o]? with | some (.fl (.int _ n)) => n | _ => 0
def dBool (ds : List DV) (o : Nat) : Bool := match ds[o]? with | some (.fl (.bool b)) => b | _ => false
def dStr (ds : List DV) (o : Nat) : ByteArray := match ds[o]? with | some (.fl (.string s)) => s | _ => ByteArray.empty
def dLen (ds : List DV) (o : Nat) : Nat := match ds[o]? with | some (.sl n _ _) => n | _ => 0
def dCap (ds : List DV) (o : Nat) : Nat := match ds[o]? with | some (.sl _ (some c) _) => c | _ => 0
def dSub (ds : List DV) (o : Nat) : List DV := match ds[o]? with | some (.sl _ _ l) => l | _ => []
def DV.val : DV → Value
 | .fl v => v
 | _ => undef
def dVals (ds : List DV) (o : Nat) : List Value := (dSub ds o).map DV.val
def DSl (ds : List DV) (o len : Nat) (cap : Option Nat) (l : List DV) : Prop := ∃ c, ds[o]? = some (.sl len c l) ∧ (cap = none ∨ c = cap)
def shD (deep uc : Bool) (ds : List DV) (o : Nat) : List Value → Nat → Nat → Option (List Value × List Rw × List Prop)
 | [], _, _ => some ([], [], [])
 | .int k _ :: zs, j, nx => match shD deep uc ds o zs (j + 1) nx with
  | some (l, rs, ob) => some (.int k (dInt ds (o + j)) :: l, rs, (ds[o + j]? = some (.fl (.int k (dInt ds (o + j))))) :: ob)
  | none => none
 | .bool _ :: zs, j, nx => match shD deep uc ds o zs (j + 1) nx with
  | some (l, rs, ob) => some (.bool (dBool ds (o + j)) :: l, rs, (ds[o + j]? = some (.fl (.bool (dBool ds (o + j))))) :: ob)
  | none => none
 | .string _ :: zs, j, nx => match shD deep uc ds o zs (j + 1) nx with
  | some (l, rs, ob) => some (.string (dStr ds (o + j)) :: l, rs, (ds[o + j]? = some (.fl (.string (dStr ds (o + j))))) :: ob)
  | none => none
 | .slice none _ _ :: zs, j, nx => match shD deep uc ds o zs (j + 1) (nx + 1) with
  | some (l, rs, ob) => some (.slice (some ⟨nx, 0, none⟩) (dLen ds (o + j)) (bif uc then capBig + nx else dCap ds (o + j)) :: l, (bif deep then ⟨.sd (dSub ds (o + j)), []⟩ else ⟨.old, dVals ds (o + j)⟩) :: rs,
    (DSl ds (o + j) (dLen ds (o + j)) (bif uc then none else some (dCap ds (o + j))) (bif deep then dSub ds (o + j) else (dVals ds (o + j)).map DV.fl)) :: ob)
  | none => none
 | _, _, _ => none
def rowsU : List Rw → Nat → Hp → Hp
 | [], _, h => h
 | r :: rs, nx, h => rowsU rs (nx + 1) ((nx, r) :: h)
def ShOb (P : Program) (t : TypeId) (deep uc : Bool) (ds : List DV) (o nx : Nat) : Prop := match P.info? t with
 | some i => (match i.zero with
  | some z => (match shD deep uc ds o z.cells.toList 0 nx with | some (_, _, ob) => Alls ob | none => True)
  | none => True)
 | none => True
def mdD (md : Nat) : Bool := bif Nat.beq md 31 then true else Nat.beq md 33
def mdU (md : Nat) : Bool := bif Nat.beq md 32 then true else Nat.beq md 33
def deepOf : Kd → Option (List DV)
 | .sd ds => some ds
 | .dp _ _ ds => some ds
 | .df _ _ ds => some ds
 | .sw ds => some ds
 | _ => none
def odL (P : Program) (md : Nat) (ev : Operand → Option Value) (h : Hp) (nx : Nat) : Op → Option (Out × List Prop)
 | .load t x => match ev x with
  | some (.pointer (some ⟨n, o, none⟩)) => match lk h n with
   | some r => match deepOf r.kd, P.underlying t, P.info? t with
    | some ds, some d, some i => match i.zero with
     | some z => match shD (mdD md) (mdU md) ds o z.cells.toList 0 nx with
      | some (l, rs, _) => bif Nat.beq l.length i.size then (bif d.isRow then some ((.agg ⟨l⟩, rowsU rs nx h, nx + rs.length, []), [ShOb P t (mdD md) (mdU md) ds o nx]) else (match l with
        | [v] => some ((v, rowsU rs nx h, nx + rs.length, []), [ShOb P t (mdD md) (mdU md) ds o nx])
        | _ => none)) else none
      | none => none
     | none => none
    | _, _, _ => none
   | none => none
  | _ => none
 | _ => none
section
variable {P : Program} {W : World} {σ : Sg} {h : Hp} {w : World}
theorem DRs.get {F : List Nat} : ∀ {ds : List DV} {b s : Nat}, DRs W w F b s ds → ∀ j d, ds[j]? = some d → ∃ v, ((b < W.heap.size ∧ W.cell? ⟨b, s + j, none⟩ = some v) ∨ (b ∈ F ∧ w.cell? ⟨b, s + j, none⟩ = some v)) ∧ DR W w F d v
 | [], b, s, _, j, d, h => by simp at h
 | x :: ds, b, s, hd, j, d, h => by
   simp only [DRs] at hd
   cases j with
   | zero => simp only [List.getElem?_cons_zero, oI] at h; subst h; exact hd.1
   | succ j =>
    have := DRs.get hd.2 j d (by simpa using h)
    rwa [show s + 1 + j = s + (j + 1) by omega] at this
theorem DRs.blk {F : List Nat} : ∀ {ds : List DV} {b s : Nat}, DRs W w F b s ds → b < W.heap.size ∨ b ∈ F
 | [], b, s, hd => by simpa only [DRs] using hd
 | x :: ds, b, s, hd => by simp only [DRs] at hd; exact DRs.blk hd.2
theorem DRs.flat {F : List Nat} {X : List Value} {b s : Nat} (hx : Ext W w) (hd : DRs W w F b s (X.map DV.fl)) : (∀ σ, renL σ X = some X) ∧ ((b < W.heap.size ∧ ∀ j v, X[j]? = some v → W.cell? ⟨b, s + j, none⟩ = some v) ∨ (b ∈ F ∧ ∀ j v, X[j]? = some v → w.cell? ⟨b, s + j, none⟩ = some v)) := by
 have key : ∀ j v, X[j]? = some v → (∀ σ, renV σ v = some v) ∧ ((b < W.heap.size ∧ W.cell? ⟨b, s + j, none⟩ = some v) ∨ (b ∈ F ∧ w.cell? ⟨b, s + j, none⟩ = some v)) := fun j v hj => by
  obtain ⟨u, h1, h2⟩ := hd.get j (.fl v) (by simp [hj])
  simp only [DR] at h2
  obtain ⟨rfl, h2⟩ := h2
  exact ⟨h2, h1⟩
 refine ⟨fun σ => ?_, ?_⟩
 ·have : ∀ l : List Value, (∀ v ∈ l, renV σ v = some v) → renL σ l = some l := by
   intro l
   induction l with
   | nil => intro _; rfl
   | cons x l ih => intro hl; exact renL_mk (hl x (List.mem_cons_self ..)) (ih fun v hv => hl v (List.mem_cons_of_mem _ hv))
  refine this X fun v hv => ?_
  obtain ⟨j, hj⟩ := List.getElem?_of_mem hv
  exact (key j v hj).1 σ
 ·by_cases hb : b < W.heap.size
  ·refine .inl ⟨hb, fun j v hj => ?_⟩
   rcases (key j v hj).2 with ⟨_, h2⟩ | ⟨_, h2⟩
   ·exact h2
   ·rw [← hx.cell b (s + j) hb]; exact h2
  ·rcases hd.blk with h1 | h1
   ·exact absurd h1 hb
   ·refine .inr ⟨h1, fun j v hj => ?_⟩
    rcases (key j v hj).2 with ⟨h2, _⟩ | ⟨_, h2⟩
    ·exact absurd h2 hb
    ·exact h2
def Sg.vwc (σ : Sg) (n : Nat) (p : Nat × Nat) (c : Nat) (F : Option (List Nat)) (E : Option Addr) : Sg := ⟨fun m => if m = n then some p else σ.b m, fun m => if m = n then some c else σ.c m, fun m => if m = n then F.map fun l => (l, []) else σ.f m, fun m => if m = n then E else σ.e m, σ.w⟩
theorem vwc_sh {σ : Sg} {n : Nat} {p : Nat × Nat} {c : Nat} {F : Option (List Nat)} {E : Option Addr} : sh (σ.vwc n p c F E) n = F.getD [] := by
 simp only [sh, Sg.vwc, if_true]; cases F <;> rfl
theorem vwc_ex {σ : Sg} {n : Nat} {p : Nat × Nat} {c : Nat} {F : Option (List Nat)} {E : Option Addr} : ex (σ.vwc n p c F E) n = [] := by
 simp only [ex, Sg.vwc, if_true]; cases F <;> rfl
theorem Stp.viewc (hR : Rl W σ h w) {nx : Nat} (hf : Fresh σ nx (nx + 1)) {r : Rw} (p : Nat × Nat) (c : Nat) (F : Option (List Nat)) (E : Option Addr) (hF : ∀ k, k ∈ F.getD [] → ∃ m s, lk h m = some s ∧ k ∈ sh σ m) (hs : ShKd r.kd) (hr : RowOk W (σ.vwc nx p c F E) w nx r) :
  Stp W nx (nx + 1) σ h w (σ.vwc nx p c F E) ((nx, r) :: h) w := by
 have hf0 := hf nx (Nat.le_refl _) (by omega)
 have hne : ∀ k x, lk h k = some x → k ≠ nx := fun k x hk e => by
  subst e
  obtain ⟨b', s', vs', hb', _⟩ := hR.row _ _ hk
  rw [hf0.1] at hb'
  cases hb'
 have hbs : ∀ k, k ≠ nx → (σ.vwc nx p c F E).b k = σ.b k ∧ (σ.vwc nx p c F E).c k = σ.c k ∧ (σ.vwc nx p c F E).f k = σ.f k ∧ (σ.vwc nx p c F E).e k = σ.e k ∧ (σ.vwc nx p c F E).w = σ.w := fun k hk => by simp only [Sg.vwc]; rw [if_neg hk, if_neg hk, if_neg hk, if_neg hk]; exact ⟨rfl, rfl, rfl, rfl, trivial⟩
 have hle : σ.le (σ.vwc nx p c F E) := by
  refine ⟨fun m q e => ?_, fun m k e => ?_, fun m q e => ?_⟩
  ·have hm : m ≠ nx := fun e2 => by subst e2; rw [hf0.1] at e; cases e
   rw [(hbs m hm).1]; exact e
  ·have hm : m ≠ nx := fun e2 => by subst e2; rw [hf0.2] at e; cases e
   rw [(hbs m hm).2.1]; exact e
  ·have hm : m ≠ nx := fun e2 => by subst e2; rw [hf0.1] at e; cases e
   exact (hbs m hm).2
 have cls : ∀ m s, lk ((nx, r) :: h) m = some s → s.own → lk h m = some s := fun m s hm ho => by
  rw [lk_cons] at hm
  split at hm
  ·cases hm; exact absurd hs ho
  ·exact hm
 refine Stp0.up ⟨hle, fun m hm => ?_, ⟨hR.ext, fun m s hm => ?_, fun m k s t q q' hm hk hs' ht hq hq' e => ?_⟩, Nat.le_refl _, fun _ _ _ _ => rfl, fun m s q hm hs' hq => ?_⟩ hR.shr hR.wf fun m s hm => ?_
 ·exact ⟨(hbs m (by omega)).1, (hbs m (by omega)).2.1⟩
 ·rw [lk_cons] at hm
  split at hm
  ·rename_i e; cases hm; subst e; exact hr
  ·exact hR.keepA hm hle fun _ _ => rfl
 ·have hm := cls m s hm hs'
  have hk := cls k t hk ht
  rw [(hbs m (hne m s hm)).1] at hq
  rw [(hbs k (hne k t hk)).1] at hq'
  exact hR.inj m k s t q q' hm hk hs' ht hq hq' e
 ·have hm := cls m s hm hs'
  rw [(hbs m (hne m s hm)).1] at hq
  exact .inr ⟨m, s, q, hm, hs', hq, rfl⟩
 ·refine ⟨fun ho => ?_, fun k hk => ?_, fun k hk => ?_⟩
  ·have hm := cls m s hm ho
   rw [(hbs m (hne m s hm)).2.2.1]
   exact hR.shr.1 m s hm ho
  ·rw [lk_cons] at hm
   split at hm
   ·rename_i e
    subst e
    refine hF k ?_
    simpa only [vwc_sh] using hk
   ·have hm2 := hne m s hm
    refine ⟨m, s, hm, ?_⟩
    unfold sh at hk ⊢
    rw [(hbs m hm2).2.2.1] at hk
    exact hk
  ·rw [lk_cons] at hm
   split at hm
   ·rename_i e
    subst e
    rw [vwc_ex] at hk
    cases hk
   ·have hm2 := hne m s hm
    refine ⟨s, hm, ?_⟩
    unfold ex at hk ⊢
    rw [(hbs m hm2).2.2.1] at hk
    exact hk
theorem lk_rowsU : ∀ {rs : List Rw} {nx n : Nat} {h : Hp}, lk (rowsU rs nx h) n = if nx ≤ n ∧ n < nx + rs.length then rs[n - nx]? else lk h n
 | [], nx, n, h => by simp only [rowsU, List.length_nil, Nat.add_zero]; rw [if_neg (by omega)]
 | r :: rs, nx, n, h => by
   simp only [rowsU]
   rw [lk_rowsU, lk_cons]
   simp only [List.length_cons]
   by_cases h1 : nx = n
   ·subst h1
    rw [if_neg (by omega), if_pos rfl, if_pos (by omega)]; simp
   ·by_cases h2 : nx + 1 ≤ n ∧ n < nx + 1 + rs.length
    ·rw [if_pos h2, if_pos (by omega), show n - nx = (n - (nx + 1)) + 1 by omega, List.getElem?_cons_succ]
    ·rw [if_neg h2, if_neg h1, if_neg (by omega)]
theorem deep_get (hR : Rl W σ h w) {n : Nat} {r : Rw} {ds : List DV} {b s : Nat} (hl : lk h n = some r) (hd : deepOf r.kd = some ds) (hb : σ.b n = some (b, s)) : ∀ j d, ds[j]? = some d → ∃ u, w.cell? ⟨b, s + j, none⟩ = some u ∧ DR W w (sh σ n) d u := by
 obtain ⟨b', s', vs, h1, h2, h3⟩ := hR.row n r hl
 rw [hb] at h1
 cases h1
 unfold deepOf at hd
 intro j d hj
 have fin : ∀ (us rest : List Value) (t : TypeId), s = 0 → w.heap[b]? = some (.cells (us ++ rest).toArray t (0, 0)) → DRv W w (sh σ n) ds us → ds[j]? = some d → ∃ u, w.cell? ⟨b, s + j, none⟩ = some u ∧ DR W w (sh σ n) d u := fun us rest t hs hc hv hj => by
  subst hs
  have key : ∀ {ds : List DV} {us : List Value} {j : Nat} {d : DV}, DRv W w (sh σ n) ds us → ds[j]? = some d → ∃ u, us[j]? = some u ∧ DR W w (sh σ n) d u := by
   intro ds
   induction ds with
   | nil => intro us j d _ h; simp at h
   | cons x ds ih =>
    intro us j d h hj
    simp only [DRv] at h
    obtain ⟨u, us', rfl, h1, h2⟩ := h
    cases j with
    | zero => simp only [List.getElem?_cons_zero, oI] at hj; subst hj; exact ⟨u, rfl, h1⟩
    | succ j =>
     obtain ⟨v, g1, g2⟩ := ih h2 (by simpa using hj)
     exact ⟨v, by simpa using g1, g2⟩
  obtain ⟨u, hu, hdr⟩ := key hv hj
  refine ⟨u, ?_, hdr⟩
  have hj2 : (us ++ rest)[j]? = some u := by rw [List.getElem?_append_left (List.getElem?_eq_some_iff.1 hu).1]; exact hu
  simp only [World.cell?, hc, Nat.zero_add]
  simpa using hj2
 split at hd
 ·rename_i ds' hk
  cases hd
  rw [hk] at h3
  rcases h3.2 with h4 | h4
  ·subst h4; simp at hj
  ·obtain ⟨u, hu, hdr⟩ := h4.get j d hj
   refine ⟨u, ?_, hdr⟩
   rcases hu with ⟨g1, g2⟩ | ⟨_, g2⟩
   ·exact (hR.ext.cell b (s + j) g1).trans g2
   ·exact g2
 ·rename_i sz z ds' hk
  cases hd
  rw [hk] at h3
  obtain ⟨rfl, _, _, us, t, rest, c, _, hc, _, _, _, hv⟩ := h3
  exact fin us rest t rfl hc hv hj
 ·rename_i sz z ds' hk
  cases hd
  rw [hk] at h3
  obtain ⟨_, rfl, _, _, us, t, rest, c, _, hc, _, _, _, hv⟩ := h3
  exact fin us rest t rfl hc (hv W) hj
 ·rename_i ds' hk
  cases hd
  rw [hk] at h3
  rcases h3.2.2 with h4 | h4
  ·subst h4; simp at hj
  ·obtain ⟨u, hu, hdr⟩ := h4.get j d hj
   refine ⟨u, ?_, by rw [h3.1]; exact hdr⟩
   rcases hu with ⟨g1, g2⟩ | ⟨_, g2⟩
   ·exact (hR.ext.cell b (s + j) g1).trans g2
   ·exact g2
 ·cases hd
theorem shD_ok {deep uc : Bool} {n : Nat} {r0 : Rw} {ds : List DV} {F : List Nat} {b s : Nat} {o0 : Nat} (hget : ∀ j d, ds[j]? = some d → ∃ u, w.cell? ⟨b, s + j, none⟩ = some u ∧ DR W w F d u) :
  ∀ {zs : List Value} {j0 nx : Nat} {l : List Value} {rs : List Rw} {ob : List Prop} {σ : Sg} {h : Hp}, shD deep uc ds o0 zs j0 nx = some (l, rs, ob) → Alls ob → Rl W σ h w → Fresh σ nx (nx + rs.length) → lk h n = some r0 → σ.b n = some (b, s) → sh σ n = F →
  ∃ σ' us, Stp W nx (nx + rs.length) σ h w σ' (rowsU rs nx h) w ∧ renL σ' l = some us ∧ ∀ j u, us[j]? = some u → w.cell? ⟨b, s + (o0 + j0) + j, none⟩ = some u
 | [], j0, nx, l, rs, ob, σ, h, hs, ho, hR, hf, hl, hb, hsh => by
   simp only [shD, oI, pI] at hs
   obtain ⟨rfl, rfl, rfl⟩ := hs
   exact ⟨σ, [], Stp.refl hR nx, rfl, fun j u hj => by simp at hj⟩
 | z :: zs, j0, nx, l, rs, ob, σ, h, hs, ho, hR, hf, hl, hb, hsh => by
   have plain : ∀ (v : Value) {l' : List Value} {rs' : List Rw} {ob' : List Prop}, shD deep uc ds o0 zs (j0 + 1) nx = some (l', rs', ob') → l = v :: l' → rs = rs' → ob = (ds[(o0 + j0)]? = some (.fl v)) :: ob' →
     ∃ σ' us, Stp W nx (nx + rs.length) σ h w σ' (rowsU rs nx h) w ∧ renL σ' l = some us ∧ ∀ j u, us[j]? = some u → w.cell? ⟨b, s + (o0 + j0) + j, none⟩ = some u := by
    intro v l' rs' ob' hh e1 e2 e3
    subst e1; subst e2; subst e3
    obtain ⟨h1, h2⟩ := ho
    obtain ⟨σ', us, S, hv, hc⟩ := shD_ok hget hh h2 hR hf hl hb hsh
    obtain ⟨u, hu, hdr⟩ := hget (o0 + j0) _ h1
    simp only [DR] at hdr
    obtain ⟨rfl, hfl⟩ := hdr
    refine ⟨σ', u :: us, S, renL_mk (hfl σ') hv, fun j x hj => ?_⟩
    cases j with
    | zero =>
     simp only [List.getElem?_cons_zero, oI] at hj
     subst hj
     rw [Nat.add_zero]; exact hu
    | succ j =>
     have := hc j x (by simpa using hj)
     rwa [show s + (o0 + (j0 + 1)) + j = s + (o0 + j0) + (j + 1) by omega] at this
   have slice : ∀ (r : Rw) (sub : List DV) (cc : Nat) {l' : List Value} {rs' : List Rw} {ob' : List Prop}, shD deep uc ds o0 zs (j0 + 1) (nx + 1) = some (l', rs', ob') → l = .slice (some ⟨nx, 0, none⟩) (dLen ds (o0 + j0)) (bif uc then capBig + nx else cc) :: l' → rs = r :: rs' → ob = (DSl ds (o0 + j0) (dLen ds (o0 + j0)) (bif uc then none else some cc) sub) :: ob' → ShKd r.kd →
     (∀ (τ : Sg) (b' s' : Nat), τ.b nx = some (b', s') → (sub = [] ∨ DRs W w (sh τ nx) b' s' sub) → RowOk W τ w nx r) →
     ∃ σ' us, Stp W nx (nx + rs.length) σ h w σ' (rowsU rs nx h) w ∧ renL σ' l = some us ∧ ∀ j u, us[j]? = some u → w.cell? ⟨b, s + (o0 + j0) + j, none⟩ = some u := by
    intro r sub cc l' rs' ob' hh e1 e2 e3 hk hro
    subst e1; subst e2; subst e3
    simp only [List.length_cons] at hf ⊢
    obtain ⟨⟨c0, h1, hc0⟩, h2⟩ := ho
    obtain ⟨u, hu, hdr⟩ := hget (o0 + j0) _ h1
    have hf1 : Fresh σ nx (nx + 1) := hf.low (by omega)
    have step : ∃ p c F' E, Stp W nx (nx + 1) σ h w (σ.vwc nx p c F' E) ((nx, r) :: h) w ∧ renV (σ.vwc nx p c F' E) (.slice (some ⟨nx, 0, none⟩) (dLen ds (o0 + j0)) (bif uc then capBig + nx else cc)) = some u := by
     have cps : ∀ {p c F' E}, (∀ k, c0 = some k → c = k ∧ k ≤ 9223372036854775807) → cpR (σ.vwc nx p c F' E) (bif uc then capBig + nx else cc) = some c := fun {p c F' E} hk => by
      cases uc with
      | true => simp only [cond_true]; unfold cpR; rw [if_neg (by omega), Nat.add_sub_cancel_left]; simp [Sg.vwc]
      | false =>
       simp only [cond_false] at hc0 ⊢
       rcases hc0 with hc0 | hc0
       ·cases hc0
       ·obtain ⟨this, hc9⟩ := hk cc hc0
        subst this
        unfold cpR; rw [if_pos (by unfold capBig; omega)]
     simp only [DR] at hdr
     rcases hdr with ⟨g1, g2, g3, ea, rfl⟩ | ⟨b1, s1, c, rfl, g3, g4⟩
     ·refine ⟨(b, s), 0, none, ea, Stp.viewc hR hf1 _ _ _ _ (fun k hk => by cases hk) hk (hro _ b s (by simp [Sg.vwc]) (.inl g2)), ?_⟩
      have hcp := cps (p := (b, s)) (c := 0) (F' := none) (E := ea) (fun k hk => by
       rcases g3 with g3 | g3
       ·rw [g3] at hk; cases hk
       ·rw [g3] at hk; cases hk; exact ⟨rfl, by omega⟩)
      rw [g1]
      have := renV_nil (σ := σ.vwc nx (b, s) 0 none ea) (n := nx) (o := 0) (l := 0) (c := bif uc then capBig + nx else cc) (p := (b, s)) (by simp [Sg.vwc]) (by simp [Sg.vwc]) rfl hcp
      rw [show (σ.vwc nx (b, s) 0 none ea).e nx = ea by simp [Sg.vwc]] at this
      exact this
     ·refine ⟨(b1, s1), c, some F, none, Stp.viewc hR hf1 _ _ _ _ (fun k hk => ⟨n, r0, hl, by rw [hsh]; exact hk⟩) hk (hro _ b1 s1 (by simp [Sg.vwc]) ?_), ?_⟩
      ·have : sh (σ.vwc nx (b1, s1) c (some F) none) nx = F := by simp [sh, Sg.vwc]
       rw [this]; exact g4
      ·have hcp := cps (p := (b1, s1)) (c := c) (F' := some F) (E := none) fun k hk => ⟨(g3.2 k hk).1, (g3.2 k hk).2.2⟩
       have := renV_slice_mk (σ := σ.vwc nx (b1, s1) c (some F) none) (n := nx) (o := 0) (l := dLen ds (o0 + j0)) (c := bif uc then capBig + nx else cc) (c' := c) (p := (b1, s1)) (by simp [Sg.vwc]) hcp (by simp [Sg.vwc]) (.inr g3.1)
       simpa using this
    obtain ⟨p, c, F', E, S1, hv1⟩ := step
    have hne : n ≠ nx := fun e => by
     subst e
     rw [(hf1 n (Nat.le_refl _) (by omega)).1] at hb
     cases hb
    obtain ⟨σ', us, S2, hv, hc⟩ := shD_ok hget (σ := σ.vwc nx p c F' E) (h := (nx, r) :: h) hh h2 S1.rl (by
     intro k h1 h2
     have := hf k (by omega) (by omega)
     simp only [Sg.vwc]
     rw [if_neg (by omega), if_neg (by omega)]
     exact this) (by rw [lk_cons, if_neg (Ne.symm hne)]; exact hl) (by simp only [Sg.vwc]; rw [if_neg hne]; exact hb) (by
     unfold sh at hsh ⊢
     simp only [Sg.vwc]
     rw [if_neg hne]; exact hsh)
    have hS := S1.trans S2 (by omega) (by omega)
    rw [show nx + 1 + rs'.length = nx + (rs'.length + 1) by omega] at hS
    refine ⟨σ', u :: us, hS, renL_mk (renV_le S2.le _ _ hv1) hv, fun j x hj => ?_⟩
    cases j with
    | zero =>
     simp only [List.getElem?_cons_zero, oI] at hj
     subst hj
     rw [Nat.add_zero]; exact hu
    | succ j =>
     have := hc j x (by simpa using hj)
     rwa [show s + (o0 + (j0 + 1)) + j = s + (o0 + j0) + (j + 1) by omega] at this
   cases z with
   | int k i =>
    simp only [shD] at hs
    split at hs
    ·rename_i l' rs' ob' hh
     simp only [oI, pI] at hs
     exact plain _ hh hs.1.symm hs.2.1.symm hs.2.2.symm
    ·cases hs
   | bool x =>
    simp only [shD] at hs
    split at hs
    ·rename_i l' rs' ob' hh
     simp only [oI, pI] at hs
     exact plain _ hh hs.1.symm hs.2.1.symm hs.2.2.symm
    ·cases hs
   | string x =>
    simp only [shD] at hs
    split at hs
    ·rename_i l' rs' ob' hh
     simp only [oI, pI] at hs
     exact plain _ hh hs.1.symm hs.2.1.symm hs.2.2.symm
    ·cases hs
   | slice a ll cc =>
    cases a with
    | some a => simp [shD] at hs
    | none =>
     simp only [shD] at hs
     split at hs
     ·rename_i l' rs' ob' hh
      simp only [oI, pI] at hs
      obtain ⟨rfl, rfl, rfl⟩ := hs
      cases deep with
      | true => exact slice ⟨.sd (dSub ds (o0 + j0)), []⟩ _ _ hh rfl rfl rfl (.sd _) fun τ b' s' e1 e2 => ⟨b', s', [], e1, rfl, rfl, e2⟩
      | false =>
       refine slice ⟨.old, dVals ds (o0 + j0)⟩ _ _ hh rfl rfl rfl .old fun τ b' s' e1 e2 => ?_
       simp only [cond_false] at e2
       rcases e2 with e2 | e2
       ·have : dVals ds (o0 + j0) = [] := by
         cases hv : dVals ds (o0 + j0) with
         | nil => rfl
         | cons x y => rw [hv] at e2; cases e2
        rw [this]
        exact ⟨b', s', [], e1, rfl, .inl rfl⟩
       ·obtain ⟨g1, g2⟩ := e2.flat hR.ext
        exact ⟨b', s', _, e1, g1 τ, .inr g2⟩
     ·cases hs
   | _ => simp [shD] at hs
theorem odL_tidy {md : Nat} {ev : Operand → Option Value} {nx : Nat} {op : Op} {v : Value} {h' : Hp} {nx' : Nat} {d : List Nat} {ob : List Prop} (hs : odL P md ev h nx op = some ((v, h', nx', d), ob)) : Tidy h nx h' nx' d := by
 have key : ∀ rs : List Rw, Tidy h nx (rowsU rs nx h) (nx + rs.length) [] := fun rs =>
  ⟨Nat.le_add_right _ _, fun n hn _ => by rw [lk_rowsU, if_neg (by omega)], fun hB n hn => by rw [lk_rowsU, if_neg (by omega)]; exact hB n (by omega)⟩
 unfold odL at hs
 split at hs
 case h_2 => cases hs
 split at hs
 case h_2 => cases hs
 split at hs
 case h_2 => cases hs
 split at hs
 case h_2 => cases hs
 split at hs
 case h_2 => cases hs
 split at hs
 case h_2 => cases hs
 obtain ⟨_, hs⟩ := bif_of hs
 rcases bif_or hs with ⟨_, hs⟩ | ⟨_, hs⟩
 ·simp only [oI, pI] at hs
  obtain ⟨⟨rfl, rfl, rfl, rfl⟩, _⟩ := hs
  exact key _
 ·split at hs
  ·simp only [oI, pI] at hs
   obtain ⟨⟨rfl, rfl, rfl, rfl⟩, _⟩ := hs
   exact key _
  ·cases hs
theorem odL_ok {a : Act} (hR : Rl W σ h w) {md : Nat} {ev : Operand → Option Value} {nx nx' : Nat} (hf : Fresh σ nx nx') (H : Evs σ ev a) {o : Oper} {v : Value} {h' : Hp} {d : List Nat} {ob : List Prop} (hs : odL P md ev h nx o.op = some ((v, h', nx', d), ob)) (ho : Alls ob) :
  ∃ σ' w' v', Stp W nx nx' σ h w σ' h' w' ∧ renV σ' v = some v' ∧ Ends P a o w v' w' := by
 unfold odL at hs
 split at hs
 case h_2 => cases hs
 rename_i t x hop
 split at hs
 case h_2 => cases hs
 rename_i n off hx
 split at hs
 case h_2 => cases hs
 rename_i r0 hl
 split at hs
 case h_2 => cases hs
 rename_i ds dd i hdeep hu hi
 split at hs
 case h_2 => cases hs
 rename_i z hz
 split at hs
 case h_2 => cases hs
 rename_i l rs ob' hd
 obtain ⟨hlen, hs⟩ := bif_of hs
 have hob : ShOb P t (mdD md) (mdU md) ds off nx → Alls ob' := fun e => by unfold ShOb at e; simpa only [hi, hz, hd] using e
 have hx' := H x _ hx
 obtain ⟨p, hb, hp, hnn⟩ := renV_ptr hx'
 have main : ∀ v0, loadV P t l 0 = some v0 → nx' = nx + rs.length → h' = rowsU rs nx h → v = v0 → Alls ob' → ∃ σ' w' v', Stp W nx nx' σ h w σ' h' w' ∧ renV σ' v = some v' ∧ Ends P a o w v' w' := by
  intro v0 hld e1 e2 e3 ho'
  subst e1; subst e2; subst e3
  obtain ⟨σ', us, S, hv, hc⟩ := shD_ok (deep_get hR hl hdeep (b := p.1) (s := p.2) hb) hd ho' hR hf hl hb rfl
  obtain ⟨v', h4, h5⟩ := loadV_ok (P := P) hv hc hld
  refine ⟨σ', w, v', S, h4, .inl ?_⟩
  unfold execOp
  rw [hop]
  simp only [hp, Instr.loadAt, Instr.sureAddr, Sem.run_bind, Sem.run_pure, Result.andThen_ok]
  simp only [Nat.add_zero] at h5
  rw [h5]
  rfl
 rcases bif_or hs with ⟨hrow, hs⟩ | ⟨hrow, hs⟩
 ·simp only [oI, pI] at hs
  obtain ⟨⟨rfl, rfl, rfl, rfl⟩, rfl⟩ := hs
  refine main _ ?_ rfl rfl rfl (hob ho.1)
  unfold loadV
  rw [hu]
  simp only [hrow, cond_true, hi, frc_eq, List.drop_zero]
  have e := Nat.eq_of_beq_eq_true hlen
  rw [List.take_of_length_le (by omega), hlen]
  rfl
 ·split at hs
  ·simp only [oI, pI] at hs
   obtain ⟨⟨rfl, rfl, rfl, rfl⟩, rfl⟩ := hs
   refine main _ ?_ rfl rfl rfl (hob ho.1)
   unfold loadV
   rw [hu]
   simp only [hrow, cond_false]
   rfl
  ·cases hs
end

section
variable {P : Program} {W : World} {σ : Sg} {h : Hp} {w : World}
end
section
variable {P : Program} {W : World} {lo hi : Nat} {σ σ' : Sg} {h h' : Hp} {w w' : World}
theorem Stp.freeze (S : Stp W lo hi σ h w σ' h' w') {NX : Nat} (h1 : lo ≤ NX) (h2 : hi ≤ NX) (hf : Fresh σ lo (NX + 1)) {k b c : Nat} {r : Rw} {cs : List Value} (hl : lk h' k = some r) (ho : r.own) (hb : σ'.b k = some (b, 0)) (hF : ∀ τ, renL τ cs = some cs)
  (hw : ∀ j v, cs[j]? = some v → w'.cell? ⟨b, 0 + j, none⟩ = some v) (hfk : FOk W w' [b]) :
  Stp W lo (NX + 1) σ h w (σ'.vwc NX (b, 0) c (some [b]) none) ((NX, ⟨.of, cs⟩) :: delH h' k) w' := by
 have hN : σ'.b NX = none ∧ σ'.c NX = none := by
  obtain ⟨e1, e2⟩ := S.only NX (.inr h2)
  obtain ⟨e3, e4⟩ := hf NX h1 (by omega)
  exact ⟨e1.trans e3, e2.trans e4⟩
 have hne : ∀ n r, lk h' n = some r → n ≠ NX := fun n r hl e => by
  subst e
  obtain ⟨b', s', vs', hb', _⟩ := S.rl.row _ _ hl
  rw [hN.1] at hb'
  cases hb'
 have hbs : ∀ m, m ≠ NX → (σ'.vwc NX (b, 0) c (some [b]) none).b m = σ'.b m ∧ (σ'.vwc NX (b, 0) c (some [b]) none).c m = σ'.c m ∧ (σ'.vwc NX (b, 0) c (some [b]) none).f m = σ'.f m ∧ (σ'.vwc NX (b, 0) c (some [b]) none).e m = σ'.e m ∧ (σ'.vwc NX (b, 0) c (some [b]) none).w = σ'.w := fun m hm => by simp only [Sg.vwc]; rw [if_neg hm, if_neg hm, if_neg hm, if_neg hm]; exact ⟨rfl, rfl, rfl, rfl, trivial⟩
 have hle : σ'.le (σ'.vwc NX (b, 0) c (some [b]) none) := by
  refine ⟨fun m q e => ?_, fun m k e => ?_, fun m q e => ?_⟩
  ·have hm : m ≠ NX := fun e2 => by subst e2; rw [hN.1] at e; cases e
   rw [(hbs m hm).1]; exact e
  ·have hm : m ≠ NX := fun e2 => by subst e2; rw [hN.2] at e; cases e
   rw [(hbs m hm).2.1]; exact e
  ·have hm : m ≠ NX := fun e2 => by subst e2; rw [hN.1] at e; cases e
   exact (hbs m hm).2
 have cls : ∀ n s, lk ((NX, (⟨.of, cs⟩ : Rw)) :: delH h' k) n = some s → (n = NX ∧ s = ⟨.of, cs⟩) ∨ (n ≠ NX ∧ n ≠ k ∧ lk h' n = some s) := fun n s e => by
  rw [lk_cons] at e
  split at e
  ·rename_i e1; cases e; exact .inl ⟨e1.symm, rfl⟩
  ·rename_i e1
   rw [lk_delH] at e
   split at e
   ·cases e
   ·rename_i e2; exact .inr ⟨Ne.symm e1, Ne.symm e2, e⟩
 have hsh : sh (σ'.vwc NX (b, 0) c (some [b]) none) NX = [b] := by simp [sh, Sg.vwc]
 have noO : ¬ (⟨.of, cs⟩ : Rw).own := fun e => e .of
 have shs : ∀ n, n ≠ NX → sh (σ'.vwc NX (b, 0) c (some [b]) none) n = sh σ' n := fun n hn => by unfold sh; rw [(hbs n hn).2.2.1]
 have own_ : ∀ m s q, lk ((NX, (⟨.of, cs⟩ : Rw)) :: delH h' k) m = some s → s.own → (σ'.vwc NX (b, 0) c (some [b]) none).b m = some q → m ≠ k ∧ lk h' m = some s ∧ σ'.b m = some q := fun m s q hm hs hq => by
  rcases cls m s hm with ⟨rfl, rfl⟩ | ⟨e1, e2, e3⟩
  ·exact absurd hs noO
  ·rw [(hbs m e1).1] at hq; exact ⟨e2, e3, hq⟩
 have exs : ∀ n s, lk ((NX, (⟨.of, cs⟩ : Rw)) :: delH h' k) n = some s → ∀ kk, kk ∈ ex (σ'.vwc NX (b, 0) c (some [b]) none) n → ∃ s, lk h' n = some s ∧ kk ∈ ex σ' n := fun n s hn kk hk => by
  rcases cls n s hn with ⟨rfl, rfl⟩ | ⟨e1, e2, e3⟩
  ·rw [vwc_ex] at hk; cases hk
  ·exact ⟨s, e3, by unfold ex at hk ⊢; rw [(hbs n e1).2.2.1] at hk; exact hk⟩
 refine ⟨S.le.trans hle, fun n hn => ?_, ⟨⟨S.rl.ext, fun n s hn => ?_, fun n m r1 r2 p q hn hm hr hs hp hq e => ?_⟩, S.rl.wf, fun n s hn hs => ?_, fun n s kk hn hk => ?_, Exc.same S.rl.shr (Nat.le_refl _) (fun n s p hn hs hp => ?_) (fun n s kk hn hk => ?_) exs⟩, S.size, S.fr, fun n s p hn hs hp => ?_, fun n s kk hn hk => ?_, fun n s kk hn hk => ?_⟩
 ·have e0 : n ≠ NX := by omega
  obtain ⟨a1, a2⟩ := S.only n (by omega)
  exact ⟨(hbs n e0).1.trans a1, (hbs n e0).2.1.trans a2⟩
 ·rcases cls n s hn with ⟨rfl, rfl⟩ | ⟨e1, e2, e3⟩
  ·refine ⟨b, 0, cs, by simp [Sg.vwc], hF _, ?_, .inr ⟨?_, hw⟩⟩
   ·rw [hsh]; exact hfk
   ·rw [hsh]; exact List.mem_singleton.2 rfl
  ·exact S.rl.keepA e3 hle fun _ _ => rfl
 ·rcases cls n r1 hn with ⟨rfl, rfl⟩ | ⟨e1, e2, e3⟩
  ·exact absurd hr noO
  rcases cls m r2 hm with ⟨e4, e5⟩ | ⟨e4, e5, e6⟩
  ·subst e5; exact absurd hs noO
  rw [(hbs n e1).1] at hp
  rw [(hbs m e4).1] at hq
  exact S.rl.inj n m r1 r2 p q e3 e6 hr hs hp hq e
 ·rcases cls n s hn with ⟨rfl, rfl⟩ | ⟨e1, e2, e3⟩
  ·exact absurd hs noO
  ·rw [(hbs n e1).2.2.1]; exact S.rl.shr.1 n s e3 hs
 ·rcases cls n s hn with ⟨rfl, rfl⟩ | ⟨e1, e2, e3⟩
  ·rw [hsh] at hk
   obtain rfl := List.mem_singleton.1 hk
   refine ⟨S.rl.lt hl ho hb, fun m s q hm hs hq e => ?_⟩
   obtain ⟨a1, a2, a3⟩ := own_ m s q hm hs hq
   exact a1 (S.rl.inj m k s r q (kk, 0) a2 hl hs ho a3 hb e)
  ·rw [shs n e1] at hk
   obtain ⟨g1, g2⟩ := S.rl.shr.2.1 n s kk e3 hk
   refine ⟨g1, fun m s q hm hs hq => ?_⟩
   obtain ⟨a1, a2, a3⟩ := own_ m s q hm hs hq
   exact g2 m s q a2 hs a3
 ·obtain ⟨a1, a2, a3⟩ := own_ n s p hn hs hp
  exact .inr ⟨n, s, p, a2, hs, a3, rfl⟩
 ·rcases cls n s hn with ⟨rfl, rfl⟩ | ⟨e1, e2, e3⟩
  ·rw [hsh] at hk
   obtain rfl := List.mem_singleton.1 hk
   exact .inr (.inl ⟨k, r, (kk, 0), hl, ho, hb, rfl⟩)
  ·rw [shs n e1] at hk
   exact .inr (.inr ⟨n, s, e3, hk⟩)
 ·rcases cls n s hn with ⟨rfl, rfl⟩ | ⟨e1, e2, e3⟩
  ·exact absurd hs noO
  ·rw [(hbs n e1).1] at hp
   exact S.src n s p e3 hs hp
 ·rcases cls n s hn with ⟨rfl, rfl⟩ | ⟨e1, e2, e3⟩
  ·rw [hsh] at hk
   obtain rfl := List.mem_singleton.1 hk
   rcases S.src k r (kk, 0) hl ho hb with h3 | ⟨m, s, q, a1, a2, a3, a4⟩
   ·exact .inl h3
   ·exact .inr (.inl ⟨m, s, q, a1, a2, a3, a4⟩)
  ·rw [shs n e1] at hk
   exact S.ssrc n s kk e3 hk
 ·obtain ⟨s1, e3, hk2⟩ := exs n s hn kk hk
  exact S.xsrc n s1 kk e3 hk2

theorem nilName_ren (σ : Sg) (NX : Nat) (E : Option Addr) : renV (σ.vwc NX (0, 0) 0 none E) (.slice (some ⟨NX, 0, none⟩) 0 (capBig + NX)) = some (.slice E 0 0) := by
 have := renV_nil (σ := σ.vwc NX (0, 0) 0 none E) (n := NX) (o := 0) (l := 0) (c := capBig + NX) (p := (0, 0)) (by simp [Sg.vwc]) (by simp [Sg.vwc]) rfl (by unfold cpR; rw [if_neg (by omega), Nat.add_sub_cancel_left]; simp [Sg.vwc])
 rw [show (σ.vwc NX (0, 0) 0 none E).e NX = E by simp [Sg.vwc]] at this
 exact this
end
section
variable {P : Program} {W : World} {lo hi : Nat} {σ σ' : Sg} {h h' : Hp} {w w' : World}
theorem Stp.toDp (S : Stp W lo hi σ h w σ' h' w') {NX : Nat} (h1 : lo ≤ NX) (h2 : hi ≤ NX) (hf : Fresh σ lo (NX + 1)) {k b c : Nat} {r r' : Rw} {F : List Nat} (hl : lk h' k = some r) (ho : r.own) (hb : σ'.b k = some (b, 0)) (ho' : r'.own) (hF : ∀ q, q ∈ F → ∃ m s, lk h' m = some s ∧ q ∈ sh σ' m)
  (hr : RowOk W (σ'.vwc NX (b, 0) c (some F) none) w' NX r') :
  Stp W lo (NX + 1) σ h w (σ'.vwc NX (b, 0) c (some F) none) ((NX, r') :: delH h' k) w' := by
 have hN : σ'.b NX = none ∧ σ'.c NX = none := by
  obtain ⟨e1, e2⟩ := S.only NX (.inr h2)
  obtain ⟨e3, e4⟩ := hf NX h1 (by omega)
  exact ⟨e1.trans e3, e2.trans e4⟩
 have hbs : ∀ m, m ≠ NX → (σ'.vwc NX (b, 0) c (some F) none).b m = σ'.b m ∧ (σ'.vwc NX (b, 0) c (some F) none).c m = σ'.c m ∧ (σ'.vwc NX (b, 0) c (some F) none).f m = σ'.f m ∧ (σ'.vwc NX (b, 0) c (some F) none).e m = σ'.e m ∧ (σ'.vwc NX (b, 0) c (some F) none).w = σ'.w := fun m hm => by simp only [Sg.vwc]; rw [if_neg hm, if_neg hm, if_neg hm, if_neg hm]; exact ⟨rfl, rfl, rfl, rfl, trivial⟩
 have hbN : (σ'.vwc NX (b, 0) c (some F) none).b NX = some (b, 0) := by simp [Sg.vwc]
 have hle : σ'.le (σ'.vwc NX (b, 0) c (some F) none) := by
  refine ⟨fun m q e => ?_, fun m k e => ?_, fun m q e => ?_⟩
  ·have hm : m ≠ NX := fun e2 => by subst e2; rw [hN.1] at e; cases e
   rw [(hbs m hm).1]; exact e
  ·have hm : m ≠ NX := fun e2 => by subst e2; rw [hN.2] at e; cases e
   rw [(hbs m hm).2.1]; exact e
  ·have hm : m ≠ NX := fun e2 => by subst e2; rw [hN.1] at e; cases e
   exact (hbs m hm).2
 have cls : ∀ n s, lk ((NX, r') :: delH h' k) n = some s → (n = NX ∧ s = r') ∨ (n ≠ NX ∧ n ≠ k ∧ lk h' n = some s) := fun n s e => by
  rw [lk_cons] at e
  split at e
  ·rename_i e1; cases e; exact .inl ⟨e1.symm, rfl⟩
  ·rename_i e1
   rw [lk_delH] at e
   split at e
   ·cases e
   ·rename_i e2; exact .inr ⟨Ne.symm e1, Ne.symm e2, e⟩
 have hsh : sh (σ'.vwc NX (b, 0) c (some F) none) NX = F := by simp [sh, Sg.vwc]
 have shs : ∀ n, n ≠ NX → sh (σ'.vwc NX (b, 0) c (some F) none) n = sh σ' n := fun n hn => by unfold sh; rw [(hbs n hn).2.2.1]
 have own_ : ∀ m s q, lk ((NX, r') :: delH h' k) m = some s → s.own → (σ'.vwc NX (b, 0) c (some F) none).b m = some q → ∃ m0 s0, lk h' m0 = some s0 ∧ s0.own ∧ σ'.b m0 = some q := fun m s q hm hs hq => by
  rcases cls m s hm with ⟨rfl, rfl⟩ | ⟨e1, e2, e3⟩
  ·rw [hbN] at hq; cases hq; exact ⟨k, r, hl, ho, hb⟩
  ·rw [(hbs m e1).1] at hq; exact ⟨m, s, e3, hs, hq⟩
 have shr_ : ∀ n s q, lk ((NX, r') :: delH h' k) n = some s → q ∈ sh (σ'.vwc NX (b, 0) c (some F) none) n → ∃ m0 s0, lk h' m0 = some s0 ∧ q ∈ sh σ' m0 := fun n s q hn hq => by
  rcases cls n s hn with ⟨rfl, rfl⟩ | ⟨e1, e2, e3⟩
  ·rw [hsh] at hq; exact hF q hq
  ·rw [shs n e1] at hq; exact ⟨n, s, e3, hq⟩
 have exs : ∀ n s, lk ((NX, r') :: delH h' k) n = some s → ∀ kk, kk ∈ ex (σ'.vwc NX (b, 0) c (some F) none) n → ∃ s, lk h' n = some s ∧ kk ∈ ex σ' n := fun n s hn kk hk => by
  rcases cls n s hn with ⟨rfl, rfl⟩ | ⟨e1, e2, e3⟩
  ·rw [vwc_ex] at hk; cases hk
  ·exact ⟨s, e3, by unfold ex at hk ⊢; rw [(hbs n e1).2.2.1] at hk; exact hk⟩
 refine ⟨S.le.trans hle, fun n hn => ?_, ⟨⟨S.rl.ext, fun n s hn => ?_, fun n m r1 r2 p q hn hm hr1 hs hp hq e => ?_⟩, S.rl.wf, fun n s hn hs => ?_, fun n s kk hn hk => ?_, Exc.same S.rl.shr (Nat.le_refl _) (fun n s p hn hs hp => ?_) (fun n s kk hn hk => .inr (.inr (shr_ n s kk hn hk))) exs⟩, S.size, S.fr, fun n s p hn hs hp => ?_, fun n s kk hn hk => ?_, fun n s kk hn hk => ?_⟩
 ·have e0 : n ≠ NX := by omega
  obtain ⟨a1, a2⟩ := S.only n (by omega)
  exact ⟨(hbs n e0).1.trans a1, (hbs n e0).2.1.trans a2⟩
 ·rcases cls n s hn with ⟨rfl, rfl⟩ | ⟨e1, e2, e3⟩
  ·exact hr
  ·exact S.rl.keepA e3 hle fun _ _ => rfl
 ·rcases cls n r1 hn with ⟨rfl, rfl⟩ | ⟨e1, e2, e3⟩ <;> rcases cls m r2 hm with ⟨e4, e5⟩ | ⟨e4, e5, e6⟩
  ·exact e4.symm
  ·rw [hbN] at hp
   cases hp
   rw [(hbs m e4).1] at hq
   exact absurd (S.rl.inj k m r r2 (b, 0) q hl e6 ho hs hb hq e) (Ne.symm e5)
  ·subst e4
   rw [hbN] at hq
   cases hq
   rw [(hbs n e1).1] at hp
   exact absurd (S.rl.inj n k r1 r p (b, 0) e3 hl hr1 ho hp hb e) e2
  ·rw [(hbs n e1).1] at hp
   rw [(hbs m e4).1] at hq
   exact S.rl.inj n m r1 r2 p q e3 e6 hr1 hs hp hq e
 ·rcases cls n s hn with ⟨rfl, rfl⟩ | ⟨e1, e2, e3⟩
  ·simp [Sg.vwc]
  ·rw [(hbs n e1).2.2.1]; exact S.rl.shr.1 n s e3 hs
 ·obtain ⟨m0, s0, g1, g2⟩ := shr_ n s kk hn hk
  obtain ⟨g3, g4⟩ := S.rl.shr.2.1 m0 s0 kk g1 g2
  refine ⟨g3, fun m s q hm hs hq => ?_⟩
  obtain ⟨m1, s1, a1, a2, a3⟩ := own_ m s q hm hs hq
  exact g4 m1 s1 q a1 a2 a3
 ·obtain ⟨m0, s0, a1, a2, a3⟩ := own_ n s p hn hs hp
  exact .inr ⟨m0, s0, p, a1, a2, a3, rfl⟩
 ·obtain ⟨m0, s0, a1, a2, a3⟩ := own_ n s p hn hs hp
  exact S.src m0 s0 p a1 a2 a3
 ·obtain ⟨m0, s0, g1, g2⟩ := shr_ n s kk hn hk
  exact S.ssrc m0 s0 kk g1 g2
 ·obtain ⟨s1, e3, hk2⟩ := exs n s hn kk hk
  exact S.xsrc n s1 kk e3 hk2
theorem drs_of {F : List Nat} {b : Nat} : ∀ {cs : List Value} {s : Nat}, (∀ τ, renL τ cs = some cs) → ((b < W.heap.size ∧ ∀ j v, cs[j]? = some v → W.cell? ⟨b, s + j, none⟩ = some v) ∨ (b ∈ F ∧ ∀ j v, cs[j]? = some v → w.cell? ⟨b, s + j, none⟩ = some v)) → DRs W w F b s (cs.map DV.fl)
 | [], s, _, h => by simp only [List.map_nil, DRs]; exact h.imp (fun e => e.1) fun e => e.1
 | x :: cs, s, hf, h => by
   simp only [List.map_cons, DRs, DR]
   have h1 : ∀ τ, renV τ x = some x ∧ renL τ cs = some cs := fun τ => by
    obtain ⟨y, l, a, b, e⟩ := renL_cons (hf τ)
    cases e
    exact ⟨a, b⟩
   refine ⟨⟨x, ?_, rfl, fun τ => (h1 τ).1⟩, drs_of (fun τ => (h1 τ).2) ?_⟩
   ·rcases h with ⟨h2, h3⟩ | ⟨h2, h3⟩
    ·exact .inl ⟨h2, by have := h3 0 x rfl; rwa [Nat.add_zero] at this⟩
    ·exact .inr ⟨h2, by have := h3 0 x rfl; rwa [Nat.add_zero] at this⟩
   ·rcases h with ⟨h2, h3⟩ | ⟨h2, h3⟩
    ·exact .inl ⟨h2, fun j v hj => by have := h3 (j + 1) v (by simpa using hj); rwa [show s + (j + 1) = s + 1 + j by omega] at this⟩
    ·exact .inr ⟨h2, fun j v hj => by have := h3 (j + 1) v (by simpa using hj); rwa [show s + (j + 1) = s + 1 + j by omega] at this⟩
mutual
theorem DR.more {F G : List Nat} (hFG : ∀ k, k ∈ F → k ∈ G) : ∀ (d : DV) (u : Value), DR W w F d u → DR W w G d u
 | .fl v, u, hd => by simp only [DR] at hd ⊢; exact hd
 | .sl len cap ds, u, hd => by
   simp only [DR] at hd ⊢
   rcases hd with hd | ⟨b, s, c, h2, h5, h6⟩
   ·exact .inl hd
   ·exact .inr ⟨b, s, c, h2, h5, h6.imp (fun e => e) fun e => DRs.more hFG ds b s e⟩
theorem DRs.more {F G : List Nat} (hFG : ∀ k, k ∈ F → k ∈ G) : ∀ (ds : List DV) (b s : Nat), DRs W w F b s ds → DRs W w G b s ds
 | [], b, s, hd => by simp only [DRs] at hd ⊢; exact hd.imp (fun e => e) (hFG b)
 | d :: ds, b, s, hd => by
   simp only [DRs] at hd ⊢
   obtain ⟨⟨v, h1, h2⟩, h3⟩ := hd
   refine ⟨⟨v, ?_, DR.more hFG d v h2⟩, DRs.more hFG ds b (s + 1) h3⟩
   exact h1.imp (fun e => e) fun e => ⟨hFG b e.1, e.2⟩
end
theorem DRv.more {F G : List Nat} (hFG : ∀ k, k ∈ F → k ∈ G) : ∀ {ds : List DV} {us : List Value}, DRv W w F ds us → DRv W w G ds us
 | [], us, hd => by simp only [DRv] at hd ⊢; exact hd
 | d :: ds, us, hd => by
   simp only [DRv] at hd ⊢
   obtain ⟨u, us', h1, h2, h3⟩ := hd
   exact ⟨u, us', h1, DR.more hFG d u h2, DRv.more hFG h3⟩
theorem Stp.turnW (hR : Rl W σ h w) {n : Nat} {r : Rw} (hl : lk h n = some r) (ho : r.own) {p : Nat × Nat} (hb : σ.b n = some p) (hx : Ext W w') (hz : w'.heap.size = w.heap.size) (hw : ∀ k, k ≠ p.1 → w'.heap[k]? = w.heap[k]?) (kd : Kd) (hkd : ¬ ShKd kd) (hk : KdOk W σ w' n p.1 p.2 [] kd) (lo : Nat) :
  Stp W lo lo σ h w σ (setH h n ⟨kd, []⟩) w' := by
 have hd : ∀ m s, lk (setH h n ⟨kd, []⟩) m = some s → (m = n ∧ s = ⟨kd, []⟩) ∨ (lk h m = some s ∧ m ≠ n) := fun m s e => by
  rw [lk_setH] at e
  split at e
  ·rename_i hm; cases e; exact .inl ⟨hm.symm, rfl⟩
  ·rename_i hne; exact .inr ⟨e, Ne.symm hne⟩
 have conv : ∀ m s, lk (setH h n ⟨kd, []⟩) m = some s → s.own → ∃ s', lk h m = some s' ∧ s'.own := fun m s e hs => by
  rcases hd m s e with ⟨rfl, _⟩ | ⟨e, _⟩
  ·exact ⟨r, hl, ho⟩
  ·exact ⟨s, e, hs⟩
 refine Stp0.up ⟨Sg.le.refl σ, fun _ _ => ⟨rfl, rfl⟩, ⟨hx, fun m s e => ?_, fun m k s t p q a b hs ht c d e => ?_⟩,
  Nat.le_of_eq hz.symm, fun b hb' hno _ => hw b fun e => hno n r p hl ho hb e.symm, fun m s q e hs hq => ?_⟩ hR.shr hR.wf (setH_shr hR.shr hl ho)
 ·rcases hd m s e with ⟨rfl, rfl⟩ | ⟨e, hne⟩
  ·exact ⟨p.1, p.2, [], hb, rfl, hk⟩
  ·exact hR.keepW hl ho hb e hne (Sg.le.refl σ) fun b hb' => hw b hb'
 ·obtain ⟨s', a', hs'⟩ := conv m s a hs
  obtain ⟨t', b', ht'⟩ := conv k t b ht
  exact hR.inj m k s' t' p q a' b' hs' ht' c d e
 ·obtain ⟨s', a', hs'⟩ := conv m s e hs
  exact .inr ⟨m, s', q, a', hs', hq, rfl⟩

theorem DRv.len2 {F : List Nat} : ∀ {ds : List DV} {us : List Value}, DRv W w F ds us → us.length = ds.length
 | [], us, h => by simp only [DRv] at h; subst h; rfl
 | d :: ds, us, h => by simp only [DRv] at h; obtain ⟨u, us', rfl, _, h⟩ := h; simp [DRv.len2 h]
theorem DRv.app2 {F : List Nat} : ∀ {ds es : List DV} {us vs : List Value}, DRv W w F ds us → DRv W w F es vs → DRv W w F (ds ++ es) (us ++ vs)
 | [], es, us, vs, h, k => by simp only [DRv] at h; subst h; exact k
 | d :: ds, es, us, vs, h, k => by
   simp only [DRv] at h
   obtain ⟨u, us', rfl, h1, h2⟩ := h
   simp only [List.cons_append, DRv]
   exact ⟨u, us' ++ vs, rfl, h1, h2.app2 k⟩
end
section
variable {P : Program} {W : World} {lo hi : Nat} {σ σ' : Sg} {h h' : Hp} {w w' : World}
def isFr : Kd → Bool
 | .of => true
 | .df _ _ _ => true
 | _ => false
def shF (σ : Sg) (h : Hp) : List Nat := h.flatMap fun e => match lk h e.1 with | some r => bif isFr r.kd then sh σ e.1 else [] | none => []
end
section
variable {P : Program} {W : World} {lo hi : Nat} {σ σ' : Sg} {h h' h1 h2 : Hp} {w w' : World}
theorem DRv.take {F : List Nat} : ∀ (o : Nat) {ds : List DV} {us : List Value}, DRv W w F ds us → DRv W w F (ds.take o) (us.take o)
 | 0, ds, us, h => by simp [DRv]
 | o + 1, [], us, h => by simp only [DRv] at h; subst h; simp [DRv]
 | o + 1, d :: ds, us, h => by
   simp only [DRv] at h
   obtain ⟨u, us', rfl, h1, h2⟩ := h
   simp only [List.take_succ_cons, DRv]
   exact ⟨u, us'.take o, rfl, h1, DRv.take o h2⟩
theorem DRv.dropv {F : List Nat} : ∀ (o : Nat) {ds : List DV} {us : List Value}, DRv W w F ds us → DRv W w F (ds.drop o) (us.drop o)
 | 0, ds, us, h => by simpa using h
 | o + 1, [], us, h => by simp only [DRv] at h; subst h; simp [DRv]
 | o + 1, d :: ds, us, h => by
   simp only [DRv] at h
   obtain ⟨u, us', rfl, h1, h2⟩ := h
   simpa using DRv.dropv o h2
def setD (ds : List DV) (o : Nat) (es : List DV) : List DV := ds.take o ++ (es ++ ds.drop (o + es.length))
end
section
variable {P : Program} {W : World} {lo hi : Nat} {σ σ' : Sg} {h h' : Hp} {w w' : World}
def DVone : DV → Prop
 | .fl v => one1 v = true
 | .sl _ _ _ => True
theorem DR.one {F : List Nat} : ∀ {d : DV} {u : Value}, DR W w F d u → DVone d → u.oneCell' = true
 | .fl v, u, h, h1 => by
   simp only [DR] at h
   obtain ⟨rfl, _⟩ := h
   exact (one1_eq u).symm.trans h1
 | .sl len cap ds, u, h, _ => by
   simp only [DR] at h
   rcases h with ⟨_, _, _, a, rfl⟩ | ⟨b, s, c, rfl, _⟩ <;> rfl
theorem DRv.one {F : List Nat} : ∀ {ds : List DV} {us : List Value}, DRv W w F ds us → (∀ d ∈ ds, DVone d) → ∀ u ∈ us, u.oneCell' = true
 | [], us, h, _, u, hu => by simp only [DRv] at h; subst h; cases hu
 | d :: ds, us, h, h1, u, hu => by
   simp only [DRv] at h
   obtain ⟨v, us', rfl, h2, h3⟩ := h
   rcases List.mem_cons.1 hu with rfl | hu
   ·exact h2.one (h1 d (List.mem_cons_self ..))
   ·exact h3.one (fun e he => h1 e (List.mem_cons_of_mem _ he)) u hu
end
section
variable {P : Program} {W : World} {lo hi : Nat} {σ σ' : Sg} {h h' : Hp} {w w' : World}
end
section
variable {P : Program} {W : World} {lo hi : Nat} {σ σ' : Sg} {h h' : Hp} {w w' : World}
theorem drs_cells {F : List Nat} {b : Nat} (hb : b ∈ F) : ∀ {ds : List DV} {us : List Value} {s : Nat}, DRv W w F ds us → (∀ j u, us[j]? = some u → w.cell? ⟨b, s + j, none⟩ = some u) → DRs W w F b s ds
 | [], us, s, _, _ => by simp only [DRs]; exact .inr hb
 | d :: ds, us, s, h, hc => by
   simp only [DRv] at h
   obtain ⟨u, us', rfl, h1, h2⟩ := h
   simp only [DRs]
   refine ⟨⟨u, .inr ⟨hb, by simpa using hc 0 u rfl⟩, h1⟩, drs_cells hb h2 fun j v hj => ?_⟩
   have := hc (j + 1) v (by simpa using hj)
   rwa [show s + (j + 1) = s + 1 + j by omega] at this
end
end Go.Proofs.Ytmoflcoijmmpjaa
