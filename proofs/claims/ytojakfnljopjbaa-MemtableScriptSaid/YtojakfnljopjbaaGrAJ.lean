/-
  The told machine, part Zq: what is read of rows whose cells are slices; each slice gets a name of its own.
-/
import Derived.Test.YtojakfnljopjbaaGrAI
namespace Go.Proofs.Ytojakfnljopjbaa
set_option linter.unusedSimpArgs false
set_option linter.unusedVariables false
set_option linter.unusedSectionVars false
open Go Go.RowKit

def dInt (ds : List DV) (o : Nat) : Int := match ds[o]? with | some (.fl (.int _ n)) => n | _ => 0
def Dx (ds : List DV) (o : Nat) : Bool := match ds[o]? with | some (.fl (.bool b)) => b | _ => false
def dStr (ds : List DV) (o : Nat) : ByteArray := match ds[o]? with | some (.fl (.string s)) => s | _ => ByteArray.empty
def dLen (ds : List DV) (o : Nat) : Nat := match ds[o]? with | some (.sl n _ _) => n | _ => 0
def dCap (ds : List DV) (o : Nat) : Nat := match ds[o]? with | some (.sl _ (some c) _) => c | _ => 0
def dSub (ds : List DV) (o : Nat) : List DV := match ds[o]? with | some (.sl _ _ l) => l | _ => []
def DV.val : DV → Value
 | .fl v => v
 | _ => undef
def B4 (ds : List DV) (o : Nat) : List Value := (dSub ds o).map DV.val
def DSl (ds : List DV) (o len : Nat) (cap : Option Nat) (l : List DV) : Prop := ∃ c, ds[o]? = some (.sl len c l) ∧ (cap = none ∨ c = cap)
def shD (deep uc : Bool) (ds : List DV) (o : Nat) : List Value → Nat → Nat → Option (List Value × List Rw × List Prop)
 | [], _, _ => some ([], [], [])
 | .int k _ :: zs, j, nx => match shD deep uc ds o zs (j + 1) nx with
  | some (l, rs, ob) => some (.int k (dInt ds (o + j)) :: l, rs, (ds[o + j]? = some (.fl (.int k (dInt ds (o + j))))) :: ob)
  | none => none
 | .bool _ :: zs, j, nx => match shD deep uc ds o zs (j + 1) nx with
  | some (l, rs, ob) => some (.bool (Dx ds (o + j)) :: l, rs, (ds[o + j]? = some (.fl (.bool (Dx ds (o + j))))) :: ob)
  | none => none
 | .string _ :: zs, j, nx => match shD deep uc ds o zs (j + 1) nx with
  | some (l, rs, ob) => some (.string (dStr ds (o + j)) :: l, rs, (ds[o + j]? = some (.fl (.string (dStr ds (o + j))))) :: ob)
  | none => none
 | .slice none _ _ :: zs, j, nx => match shD deep uc ds o zs (j + 1) (nx + 1) with
  | some (l, rs, ob) => some (.slice (some ⟨nx, 0, none⟩) (dLen ds (o + j)) (bif uc then B0 + nx else dCap ds (o + j)) :: l, (bif deep then ⟨.sd (dSub ds (o + j)), []⟩ else ⟨.old, B4 ds (o + j)⟩) :: rs,
    (DSl ds (o + j) (dLen ds (o + j)) (bif uc then none else some (dCap ds (o + j))) (bif deep then dSub ds (o + j) else (B4 ds (o + j)).map DV.fl)) :: ob)
  | none => none
 | _, _, _ => none
def J1 : List Rw → Nat → Hp → Hp
 | [], _, h => h
 | r :: rs, nx, h => J1 rs (nx + 1) ((nx, r) :: h)
def ShOb (P : Program) (t : TypeId) (deep uc : Bool) (ds : List DV) (o nx : Nat) : Prop := match P.info? t with
 | some i => (match i.zero with
  | some z => (match shD deep uc ds o z.cells.toList 0 nx with | some (_, _, ob) => Alls ob | none => True)
  | none => True)
 | none => True
def mdD (md : Nat) : Bool := bif Nat.beq md 31 then true else Nat.beq md 33
def mdU (md : Nat) : Bool := bif Nat.beq md 32 then true else Nat.beq md 33
def Hq : Kd → Option (List DV)
 | .sd ds => some ds
 | .dp _ _ ds => some ds
 | .df _ _ ds => some ds
 | .sw ds => some ds
 | _ => none
def odL (P : Program) (md : Nat) (ev : Operand → Option Value) (h : Hp) (nx : Nat) : Op → Option (Out × List Prop)
 | .load t x => match ev x with
  | some (.pointer (some ⟨n, o, none⟩)) => match lk h n with
   | some r => match Hq r.kd, P.underlying t, P.info? t with
    | some ds, some d, some i => match i.zero with
     | some z => match shD (mdD md) (mdU md) ds o z.cells.toList 0 nx with
      | some (l, rs, _) => bif Nat.beq l.length i.size then (bif d.isRow then some ((.agg ⟨l⟩, J1 rs nx h, nx + rs.length, []), [ShOb P t (mdD md) (mdU md) ds o nx]) else (match l with
        | [v] => some ((v, J1 rs nx h, nx + rs.length, []), [ShOb P t (mdD md) (mdU md) ds o nx])
        | _ => none)) else none
      | none => none
     | none => none
    | _, _, _ => none
   | none => none
  | _ => none
 | _ => none
section
variable {P : Program} {W : World} {σ : Sg} {h : Hp} {w : World}
theorem DRs.get {F : List Nat} : ∀ {ds : List DV} {b s : Nat}, DRs W w F b s ds → ∀ j d, ds[j]? = some d → ∃ v, ((b < W.heap.size ∧ W.cell? ⟨b, s + j, none⟩ = some v) ∨ (b ∈ F ∧ w.cell? ⟨b, s + j, none⟩ = some v)) ∧ DR W w F d v
 | [], b, s, _, j, d, h => by simp at h
 | x :: ds, b, s, hd, j, d, h => by
   simp only [DRs] at hd
   cases j with
   | zero => simp only [List.getElem?_cons_zero, oI] at h; subst h; exact hd.1
   | succ j =>
    have := DRs.get hd.2 j d (by simpa using h)
    rwa [show s + 1 + j = s + (j + 1) by omega] at this
theorem DRs.blk {F : List Nat} : ∀ {ds : List DV} {b s : Nat}, DRs W w F b s ds → b < W.heap.size ∨ b ∈ F
 | [], b, s, hd => by simpa only [DRs] using hd
 | x :: ds, b, s, hd => by simp only [DRs] at hd; exact DRs.blk hd.2
theorem DRs.flat {F : List Nat} {X : List Value} {b s : Nat} (hx : Ext W w) (hd : DRs W w F b s (X.map DV.fl)) : (∀ σ, renL σ X = some X) ∧ ((b < W.heap.size ∧ ∀ j v, X[j]? = some v → W.cell? ⟨b, s + j, none⟩ = some v) ∨ (b ∈ F ∧ ∀ j v, X[j]? = some v → w.cell? ⟨b, s + j, none⟩ = some v)) := by
 have key : ∀ j v, X[j]? = some v → (∀ σ, renV σ v = some v) ∧ ((b < W.heap.size ∧ W.cell? ⟨b, s + j, none⟩ = some v) ∨ (b ∈ F ∧ w.cell? ⟨b, s + j, none⟩ = some v)) := fun j v hj => by
  obtain ⟨u, h1, h2⟩ := hd.get j (.fl v) (by simp [hj])
  simp only [DR] at h2
  obtain ⟨rfl, h2⟩ := h2
  exact ⟨h2, h1⟩
 refine ⟨fun σ => ?_, ?_⟩
 ·have : ∀ l : List Value, (∀ v ∈ l, renV σ v = some v) → renL σ l = some l := by
   intro l
   induction l with
   | nil => intro _; rfl
   | cons x l ih => intro hl; exact Bi (hl x (List.mem_cons_self ..)) (ih fun v hv => hl v (List.mem_cons_of_mem _ hv))
  refine this X fun v hv => ?_
  obtain ⟨j, hj⟩ := List.getElem?_of_mem hv
  exact (key j v hj).1 σ
 ·by_cases hb : b < W.heap.size
  ·refine .inl ⟨hb, fun j v hj => ?_⟩
   rcases (key j v hj).2 with ⟨_, h2⟩ | ⟨_, h2⟩
   ·exact h2
   ·rw [← hx.cell b (s + j) hb]; exact h2
  ·rcases hd.blk with h1 | h1
   ·exact absurd h1 hb
   ·refine .inr ⟨h1, fun j v hj => ?_⟩
    rcases (key j v hj).2 with ⟨h2, _⟩ | ⟨_, h2⟩
    ·exact absurd h2 hb
    ·exact h2
def Sg.vwc (σ : Sg) (n : Nat) (p : Nat × Nat) (c : Nat) (F : Option (List Nat)) (E : Option Addr) : Sg := ⟨fun m => if m = n then some p else σ.b m, fun m => if m = n then some c else σ.c m, fun m => if m = n then F.map fun l => (l, []) else σ.f m, fun m => if m = n then E else σ.e m, σ.w⟩
theorem vwc_sh {σ : Sg} {n : Nat} {p : Nat × Nat} {c : Nat} {F : Option (List Nat)} {E : Option Addr} : sh (σ.vwc n p c F E) n = F.getD [] := by
 simp only [sh, Sg.vwc, if_true]; cases F <;> rfl
theorem L8 {σ : Sg} {n : Nat} {p : Nat × Nat} {c : Nat} {F : Option (List Nat)} {E : Option Addr} : ex (σ.vwc n p c F E) n = [] := by
 simp only [ex, Sg.vwc, if_true]; cases F <;> rfl
theorem Stp.viewc (hR : Rl W σ h w) {nx : Nat} (hf : Fresh σ nx (nx + 1)) {r : Rw} (p : Nat × Nat) (c : Nat) (F : Option (List Nat)) (E : Option Addr) (hF : ∀ k, k ∈ F.getD [] → ∃ m s, lk h m = some s ∧ k ∈ sh σ m) (hs : ShKd r.kd) (hr : RowOk W (σ.vwc nx p c F E) w nx r) :
  Stp W nx (nx + 1) σ h w (σ.vwc nx p c F E) ((nx, r) :: h) w := by
 have hf0 := hf nx (Nat.le_refl _) (by omega)
 have hne : ∀ k x, lk h k = some x → k ≠ nx := fun k x hk e => by
  subst e
  obtain ⟨b', s', vs', hb', _⟩ := hR.row _ _ hk
  rw [hf0.1] at hb'
  cases hb'
 have hbs : ∀ k, k ≠ nx → (σ.vwc nx p c F E).b k = σ.b k ∧ (σ.vwc nx p c F E).c k = σ.c k ∧ (σ.vwc nx p c F E).f k = σ.f k ∧ (σ.vwc nx p c F E).e k = σ.e k ∧ (σ.vwc nx p c F E).w = σ.w := fun k hk => by simp only [Sg.vwc]; rw [if_neg hk, if_neg hk, if_neg hk, if_neg hk]; exact ⟨rfl, rfl, rfl, rfl, trivial⟩
 have hle : σ.le (σ.vwc nx p c F E) := by
  refine ⟨fun m q e => ?_, fun m k e => ?_, fun m q e => ?_⟩
  ·have hm : m ≠ nx := fun e2 => by subst e2; rw [hf0.1] at e; cases e
   rw [(hbs m hm).1]; exact e
  ·have hm : m ≠ nx := fun e2 => by subst e2; rw [hf0.2] at e; cases e
   rw [(hbs m hm).2.1]; exact e
  ·have hm : m ≠ nx := fun e2 => by subst e2; rw [hf0.1] at e; cases e
   exact (hbs m hm).2
 have cls : ∀ m s, lk ((nx, r) :: h) m = some s → s.own → lk h m = some s := fun m s hm ho => by
  rw [B3] at hm
  split at hm
  ·cases hm; exact absurd hs ho
  ·exact hm
 refine Stp0.up ⟨hle, fun m hm => ?_, ⟨hR.ext, fun m s hm => ?_, fun m k s t q q' hm hk hs' ht hq hq' e => ?_⟩, Nat.le_refl _, fun _ _ _ _ => rfl, fun m s q hm hs' hq => ?_⟩ hR.shr hR.wf fun m s hm => ?_
 ·exact ⟨(hbs m (by omega)).1, (hbs m (by omega)).2.1⟩
 ·rw [B3] at hm
  split at hm
  ·rename_i e; cases hm; subst e; exact hr
  ·exact hR.keepA hm hle fun _ _ => rfl
 ·have hm := cls m s hm hs'
  have hk := cls k t hk ht
  rw [(hbs m (hne m s hm)).1] at hq
  rw [(hbs k (hne k t hk)).1] at hq'
  exact hR.inj m k s t q q' hm hk hs' ht hq hq' e
 ·have hm := cls m s hm hs'
  rw [(hbs m (hne m s hm)).1] at hq
  exact .inr ⟨m, s, q, hm, hs', hq, rfl⟩
 ·refine ⟨fun ho => ?_, fun k hk => ?_, fun k hk => ?_⟩
  ·have hm := cls m s hm ho
   rw [(hbs m (hne m s hm)).2.2.1]
   exact hR.shr.1 m s hm ho
  ·rw [B3] at hm
   split at hm
   ·rename_i e
    subst e
    refine hF k ?_
    simpa only [vwc_sh] using hk
   ·have hm2 := hne m s hm
    refine ⟨m, s, hm, ?_⟩
    unfold sh at hk ⊢
    rw [(hbs m hm2).2.2.1] at hk
    exact hk
  ·rw [B3] at hm
   split at hm
   ·rename_i e
    subst e
    rw [L8] at hk
    cases hk
   ·have hm2 := hne m s hm
    refine ⟨s, hm, ?_⟩
    unfold ex at hk ⊢
    rw [(hbs m hm2).2.2.1] at hk
    exact hk
theorem lk_rowsU : ∀ {rs : List Rw} {nx n : Nat} {h : Hp}, lk (J1 rs nx h) n = if nx ≤ n ∧ n < nx + rs.length then rs[n - nx]? else lk h n
 | [], nx, n, h => by simp only [J1, List.length_nil, Nat.add_zero]; rw [if_neg (by omega)]
 | r :: rs, nx, n, h => by
   simp only [J1]
   rw [lk_rowsU, B3]
   simp only [List.length_cons]
   by_cases h1 : nx = n
   ·subst h1
    rw [if_neg (by omega), if_pos rfl, if_pos (by omega)]; simp
   ·by_cases h2 : nx + 1 ≤ n ∧ n < nx + 1 + rs.length
    ·rw [if_pos h2, if_pos (by omega), show n - nx = (n - (nx + 1)) + 1 by omega, List.getElem?_cons_succ]
    ·rw [if_neg h2, if_neg h1, if_neg (by omega)]
theorem deep_get (hR : Rl W σ h w) {n : Nat} {r : Rw} {ds : List DV} {b s : Nat} (hl : lk h n = some r) (hd : Hq r.kd = some ds) (hb : σ.b n = some (b, s)) : ∀ j d, ds[j]? = some d → ∃ u, w.cell? ⟨b, s + j, none⟩ = some u ∧ DR W w (sh σ n) d u := by
 obtain ⟨b', s', vs, h1, h2, h3⟩ := hR.row n r hl
 rw [hb] at h1
 cases h1
 unfold Hq at hd
 intro j d hj
 have fin : ∀ (us rest : List Value) (t : TypeId), s = 0 → w.heap[b]? = some (.cells (us ++ rest).toArray t (0, 0)) → DRv W w (sh σ n) ds us → ds[j]? = some d → ∃ u, w.cell? ⟨b, s + j, none⟩ = some u ∧ DR W w (sh σ n) d u := fun us rest t hs hc hv hj => by
  subst hs
  have key : ∀ {ds : List DV} {us : List Value} {j : Nat} {d : DV}, DRv W w (sh σ n) ds us → ds[j]? = some d → ∃ u, us[j]? = some u ∧ DR W w (sh σ n) d u := by
   intro ds
   induction ds with
   | nil => intro us j d _ h; simp at h
   | cons x ds ih =>
    intro us j d h hj
    simp only [DRv] at h
    obtain ⟨u, us', rfl, h1, h2⟩ := h
    cases j with
    | zero => simp only [List.getElem?_cons_zero, oI] at hj; subst hj; exact ⟨u, rfl, h1⟩
    | succ j =>
     obtain ⟨v, g1, g2⟩ := ih h2 (by simpa using hj)
     exact ⟨v, by simpa using g1, g2⟩
  obtain ⟨u, hu, hdr⟩ := key hv hj
  refine ⟨u, ?_, hdr⟩
  have hj2 : (us ++ rest)[j]? = some u := by rw [List.getElem?_append_left (List.getElem?_eq_some_iff.1 hu).1]; exact hu
  simp only [World.cell?, hc, Nat.zero_add]
  simpa using hj2
 split at hd
 ·rename_i ds' hk
  cases hd
  rw [hk] at h3
  rcases h3.2 with h4 | h4
  ·subst h4; simp at hj
  ·obtain ⟨u, hu, hdr⟩ := h4.get j d hj
   refine ⟨u, ?_, hdr⟩
   rcases hu with ⟨g1, g2⟩ | ⟨_, g2⟩
   ·exact (hR.ext.cell b (s + j) g1).trans g2
   ·exact g2
 ·rename_i sz z ds' hk
  cases hd
  rw [hk] at h3
  obtain ⟨rfl, _, _, us, t, rest, c, _, hc, _, _, _, hv⟩ := h3
  exact fin us rest t rfl hc hv hj
 ·rename_i sz z ds' hk
  cases hd
  rw [hk] at h3
  obtain ⟨_, rfl, _, _, us, t, rest, c, _, hc, _, _, _, hv⟩ := h3
  exact fin us rest t rfl hc (hv W) hj
 ·rename_i ds' hk
  cases hd
  rw [hk] at h3
  rcases h3.2.2 with h4 | h4
  ·subst h4; simp at hj
  ·obtain ⟨u, hu, hdr⟩ := h4.get j d hj
   refine ⟨u, ?_, by rw [h3.1]; exact hdr⟩
   rcases hu with ⟨g1, g2⟩ | ⟨_, g2⟩
   ·exact (hR.ext.cell b (s + j) g1).trans g2
   ·exact g2
 ·cases hd
theorem shD_ok {deep uc : Bool} {n : Nat} {r0 : Rw} {ds : List DV} {F : List Nat} {b s : Nat} {o0 : Nat} (hget : ∀ j d, ds[j]? = some d → ∃ u, w.cell? ⟨b, s + j, none⟩ = some u ∧ DR W w F d u) :
  ∀ {zs : List Value} {j0 nx : Nat} {l : List Value} {rs : List Rw} {ob : List Prop} {σ : Sg} {h : Hp}, shD deep uc ds o0 zs j0 nx = some (l, rs, ob) → Alls ob → Rl W σ h w → Fresh σ nx (nx + rs.length) → lk h n = some r0 → σ.b n = some (b, s) → sh σ n = F →
  ∃ σ' us, Stp W nx (nx + rs.length) σ h w σ' (J1 rs nx h) w ∧ renL σ' l = some us ∧ ∀ j u, us[j]? = some u → w.cell? ⟨b, s + (o0 + j0) + j, none⟩ = some u
 | [], j0, nx, l, rs, ob, σ, h, hs, ho, hR, hf, hl, hb, hsh => by
   simp only [shD, oI, pI] at hs
   obtain ⟨rfl, rfl, rfl⟩ := hs
   exact ⟨σ, [], Stp.refl hR nx, rfl, fun j u hj => by simp at hj⟩
 | z :: zs, j0, nx, l, rs, ob, σ, h, hs, ho, hR, hf, hl, hb, hsh => by
   have plain : ∀ (v : Value) {l' : List Value} {rs' : List Rw} {ob' : List Prop}, shD deep uc ds o0 zs (j0 + 1) nx = some (l', rs', ob') → l = v :: l' → rs = rs' → ob = (ds[(o0 + j0)]? = some (.fl v)) :: ob' →
     ∃ σ' us, Stp W nx (nx + rs.length) σ h w σ' (J1 rs nx h) w ∧ renL σ' l = some us ∧ ∀ j u, us[j]? = some u → w.cell? ⟨b, s + (o0 + j0) + j, none⟩ = some u := by
    intro v l' rs' ob' hh e1 e2 e3
    subst e1; subst e2; subst e3
    obtain ⟨h1, h2⟩ := ho
    obtain ⟨σ', us, S, hv, hc⟩ := shD_ok hget hh h2 hR hf hl hb hsh
    obtain ⟨u, hu, hdr⟩ := hget (o0 + j0) _ h1
    simp only [DR] at hdr
    obtain ⟨rfl, hfl⟩ := hdr
    refine ⟨σ', u :: us, S, Bi (hfl σ') hv, fun j x hj => ?_⟩
    cases j with
    | zero =>
     simp only [List.getElem?_cons_zero, oI] at hj
     subst hj
     rw [Nat.add_zero]; exact hu
    | succ j =>
     have := hc j x (by simpa using hj)
     rwa [show s + (o0 + (j0 + 1)) + j = s + (o0 + j0) + (j + 1) by omega] at this
   have slice : ∀ (r : Rw) (sub : List DV) (cc : Nat) {l' : List Value} {rs' : List Rw} {ob' : List Prop}, shD deep uc ds o0 zs (j0 + 1) (nx + 1) = some (l', rs', ob') → l = .slice (some ⟨nx, 0, none⟩) (dLen ds (o0 + j0)) (bif uc then B0 + nx else cc) :: l' → rs = r :: rs' → ob = (DSl ds (o0 + j0) (dLen ds (o0 + j0)) (bif uc then none else some cc) sub) :: ob' → ShKd r.kd →
     (∀ (τ : Sg) (b' s' : Nat), τ.b nx = some (b', s') → (sub = [] ∨ DRs W w (sh τ nx) b' s' sub) → RowOk W τ w nx r) →
     ∃ σ' us, Stp W nx (nx + rs.length) σ h w σ' (J1 rs nx h) w ∧ renL σ' l = some us ∧ ∀ j u, us[j]? = some u → w.cell? ⟨b, s + (o0 + j0) + j, none⟩ = some u := by
    intro r sub cc l' rs' ob' hh e1 e2 e3 hk hro
    subst e1; subst e2; subst e3
    simp only [List.length_cons] at hf ⊢
    obtain ⟨⟨c0, h1, hc0⟩, h2⟩ := ho
    obtain ⟨u, hu, hdr⟩ := hget (o0 + j0) _ h1
    have hf1 : Fresh σ nx (nx + 1) := hf.low (by omega)
    have step : ∃ p c F' E, Stp W nx (nx + 1) σ h w (σ.vwc nx p c F' E) ((nx, r) :: h) w ∧ renV (σ.vwc nx p c F' E) (.slice (some ⟨nx, 0, none⟩) (dLen ds (o0 + j0)) (bif uc then B0 + nx else cc)) = some u := by
     have cps : ∀ {p c F' E}, (∀ k, c0 = some k → c = k ∧ k ≤ 9223372036854775807) → cpR (σ.vwc nx p c F' E) (bif uc then B0 + nx else cc) = some c := fun {p c F' E} hk => by
      cases uc with
      | true => simp only [cond_true]; unfold cpR; rw [if_neg (by omega), Nat.add_sub_cancel_left]; simp [Sg.vwc]
      | false =>
       simp only [cond_false] at hc0 ⊢
       rcases hc0 with hc0 | hc0
       ·cases hc0
       ·obtain ⟨this, hc9⟩ := hk cc hc0
        subst this
        unfold cpR; rw [if_pos (by unfold B0; omega)]
     simp only [DR] at hdr
     rcases hdr with ⟨g1, g2, g3, ea, rfl⟩ | ⟨b1, s1, c, rfl, g3, g4⟩
     ·refine ⟨(b, s), 0, none, ea, Stp.viewc hR hf1 _ _ _ _ (fun k hk => by cases hk) hk (hro _ b s (by simp [Sg.vwc]) (.inl g2)), ?_⟩
      have hcp := cps (p := (b, s)) (c := 0) (F' := none) (E := ea) (fun k hk => by
       rcases g3 with g3 | g3
       ·rw [g3] at hk; cases hk
       ·rw [g3] at hk; cases hk; exact ⟨rfl, by omega⟩)
      rw [g1]
      have := Dl (σ := σ.vwc nx (b, s) 0 none ea) (n := nx) (o := 0) (l := 0) (c := bif uc then B0 + nx else cc) (p := (b, s)) (by simp [Sg.vwc]) (by simp [Sg.vwc]) rfl hcp
      rw [show (σ.vwc nx (b, s) 0 none ea).e nx = ea by simp [Sg.vwc]] at this
      exact this
     ·refine ⟨(b1, s1), c, some F, none, Stp.viewc hR hf1 _ _ _ _ (fun k hk => ⟨n, r0, hl, by rw [hsh]; exact hk⟩) hk (hro _ b1 s1 (by simp [Sg.vwc]) ?_), ?_⟩
      ·have : sh (σ.vwc nx (b1, s1) c (some F) none) nx = F := by simp [sh, Sg.vwc]
       rw [this]; exact g4
      ·have hcp := cps (p := (b1, s1)) (c := c) (F' := some F) (E := none) fun k hk => ⟨(g3.2 k hk).1, (g3.2 k hk).2.2⟩
       have := B5 (σ := σ.vwc nx (b1, s1) c (some F) none) (n := nx) (o := 0) (l := dLen ds (o0 + j0)) (c := bif uc then B0 + nx else cc) (c' := c) (p := (b1, s1)) (by simp [Sg.vwc]) hcp (by simp [Sg.vwc]) (.inr g3.1)
       simpa using this
    obtain ⟨p, c, F', E, S1, hv1⟩ := step
    have hne : n ≠ nx := fun e => by
     subst e
     rw [(hf1 n (Nat.le_refl _) (by omega)).1] at hb
     cases hb
    obtain ⟨σ', us, S2, hv, hc⟩ := shD_ok hget (σ := σ.vwc nx p c F' E) (h := (nx, r) :: h) hh h2 S1.rl (by
     intro k h1 h2
     have := hf k (by omega) (by omega)
     simp only [Sg.vwc]
     rw [if_neg (by omega), if_neg (by omega)]
     exact this) (by rw [B3, if_neg (Ne.symm hne)]; exact hl) (by simp only [Sg.vwc]; rw [if_neg hne]; exact hb) (by
     unfold sh at hsh ⊢
     simp only [Sg.vwc]
     rw [if_neg hne]; exact hsh)
    have hS := S1.trans S2 (by omega) (by omega)
    rw [show nx + 1 + rs'.length = nx + (rs'.length + 1) by omega] at hS
    refine ⟨σ', u :: us, hS, Bi (Jk S2.le _ _ hv1) hv, fun j x hj => ?_⟩
    cases j with
    | zero =>
     simp only [List.getElem?_cons_zero, oI] at hj
     subst hj
     rw [Nat.add_zero]; exact hu
    | succ j =>
     have := hc j x (by simpa using hj)
     rwa [show s + (o0 + (j0 + 1)) + j = s + (o0 + j0) + (j + 1) by omega] at this
   cases z with
   | int k i =>
    simp only [shD] at hs
    split at hs
    ·rename_i l' rs' ob' hh
     simp only [oI, pI] at hs
     exact plain _ hh hs.1.symm hs.2.1.symm hs.2.2.symm
    ·cases hs
   | bool x =>
    simp only [shD] at hs
    split at hs
    ·rename_i l' rs' ob' hh
     simp only [oI, pI] at hs
     exact plain _ hh hs.1.symm hs.2.1.symm hs.2.2.symm
    ·cases hs
   | string x =>
    simp only [shD] at hs
    split at hs
    ·rename_i l' rs' ob' hh
     simp only [oI, pI] at hs
     exact plain _ hh hs.1.symm hs.2.1.symm hs.2.2.symm
    ·cases hs
   | slice a ll cc =>
    cases a with
    | some a => simp [shD] at hs
    | none =>
     simp only [shD] at hs
     split at hs
     ·rename_i l' rs' ob' hh
      simp only [oI, pI] at hs
      obtain ⟨rfl, rfl, rfl⟩ := hs
      cases deep with
      | true => exact slice ⟨.sd (dSub ds (o0 + j0)), []⟩ _ _ hh rfl rfl rfl (.sd _) fun τ b' s' e1 e2 => ⟨b', s', [], e1, rfl, rfl, e2⟩
      | false =>
       refine slice ⟨.old, B4 ds (o0 + j0)⟩ _ _ hh rfl rfl rfl .old fun τ b' s' e1 e2 => ?_
       simp only [cond_false] at e2
       rcases e2 with e2 | e2
       ·have : B4 ds (o0 + j0) = [] := by
         cases hv : B4 ds (o0 + j0) with
         | nil => rfl
         | cons x y => rw [hv] at e2; cases e2
        rw [this]
        exact ⟨b', s', [], e1, rfl, .inl rfl⟩
       ·obtain ⟨g1, g2⟩ := e2.flat hR.ext
        exact ⟨b', s', _, e1, g1 τ, .inr g2⟩
     ·cases hs
   | _ => simp [shD] at hs
theorem odL_tidy {md : Nat} {ev : Operand → Option Value} {nx : Nat} {op : Op} {v : Value} {h' : Hp} {nx' : Nat} {d : List Nat} {ob : List Prop} (hs : odL P md ev h nx op = some ((v, h', nx', d), ob)) : Tidy h nx h' nx' d := by
 have key : ∀ rs : List Rw, Tidy h nx (J1 rs nx h) (nx + rs.length) [] := fun rs =>
  ⟨Nat.le_add_right _ _, fun n hn _ => by rw [lk_rowsU, if_neg (by omega)], fun hB n hn => by rw [lk_rowsU, if_neg (by omega)]; exact hB n (by omega)⟩
 unfold odL at hs
 split at hs
 case h_2 => cases hs
 split at hs
 case h_2 => cases hs
 split at hs
 case h_2 => cases hs
 split at hs
 case h_2 => cases hs
 split at hs
 case h_2 => cases hs
 split at hs
 case h_2 => cases hs
 obtain ⟨_, hs⟩ := Ba hs
 rcases Be hs with ⟨_, hs⟩ | ⟨_, hs⟩
 ·simp only [oI, pI] at hs
  obtain ⟨⟨rfl, rfl, rfl, rfl⟩, _⟩ := hs
  exact key _
 ·split at hs
  ·simp only [oI, pI] at hs
   obtain ⟨⟨rfl, rfl, rfl, rfl⟩, _⟩ := hs
   exact key _
  ·cases hs
theorem odL_ok {a : Act} (hR : Rl W σ h w) {md : Nat} {ev : Operand → Option Value} {nx nx' : Nat} (hf : Fresh σ nx nx') (H : Evs σ ev a) {o : Oper} {v : Value} {h' : Hp} {d : List Nat} {ob : List Prop} (hs : odL P md ev h nx o.op = some ((v, h', nx', d), ob)) (ho : Alls ob) :
  ∃ σ' w' v', Stp W nx nx' σ h w σ' h' w' ∧ renV σ' v = some v' ∧ Ends P a o w v' w' := by
 unfold odL at hs
 split at hs
 case h_2 => cases hs
 rename_i t x hop
 split at hs
 case h_2 => cases hs
 rename_i n off hx
 split at hs
 case h_2 => cases hs
 rename_i r0 hl
 split at hs
 case h_2 => cases hs
 rename_i ds dd i hdeep hu hi
 split at hs
 case h_2 => cases hs
 rename_i z hz
 split at hs
 case h_2 => cases hs
 rename_i l rs ob' hd
 obtain ⟨hlen, hs⟩ := Ba hs
 have hob : ShOb P t (mdD md) (mdU md) ds off nx → Alls ob' := fun e => by unfold ShOb at e; simpa only [hi, hz, hd] using e
 have hx' := H x _ hx
 obtain ⟨p, hb, hp, hnn⟩ := E4 hx'
 have main : ∀ v0, Is P t l 0 = some v0 → nx' = nx + rs.length → h' = J1 rs nx h → v = v0 → Alls ob' → ∃ σ' w' v', Stp W nx nx' σ h w σ' h' w' ∧ renV σ' v = some v' ∧ Ends P a o w v' w' := by
  intro v0 hld e1 e2 e3 ho'
  subst e1; subst e2; subst e3
  obtain ⟨σ', us, S, hv, hc⟩ := shD_ok (deep_get hR hl hdeep (b := p.1) (s := p.2) hb) hd ho' hR hf hl hb rfl
  obtain ⟨v', h4, h5⟩ := loadV_ok (P := P) hv hc hld
  refine ⟨σ', w, v', S, h4, .inl ?_⟩
  unfold execOp
  rw [hop]
  simp only [hp, Instr.loadAt, Instr.sureAddr, Sem.run_bind, Sem.run_pure, Result.andThen_ok]
  simp only [Nat.add_zero] at h5
  rw [h5]
  rfl
 rcases Be hs with ⟨hrow, hs⟩ | ⟨hrow, hs⟩
 ·simp only [oI, pI] at hs
  obtain ⟨⟨rfl, rfl, rfl, rfl⟩, rfl⟩ := hs
  refine main _ ?_ rfl rfl rfl (hob ho.1)
  unfold Is
  rw [hu]
  simp only [hrow, cond_true, hi, Cz, List.drop_zero]
  have e := Nat.eq_of_beq_eq_true hlen
  rw [List.take_of_length_le (by omega), hlen]
  rfl
 ·split at hs
  ·simp only [oI, pI] at hs
   obtain ⟨⟨rfl, rfl, rfl, rfl⟩, rfl⟩ := hs
   refine main _ ?_ rfl rfl rfl (hob ho.1)
   unfold Is
   rw [hu]
   simp only [hrow, cond_false]
   rfl
  ·cases hs
end

section
variable {P : Program} {W : World} {σ : Sg} {h : Hp} {w : World}
def anZ (P : Program) (ev : Operand → Option Value) (h : Hp) (nx : Nat) : Op → Option (Out × List Prop)
 | .call ⟨.builtin .append, args, ts⟩ => match ts.toList, evL ev args.toList with
  | [t, tx], some [.slice (some ⟨m, o, none⟩) len cap, .int kq k] => match P.underlying t, P.underlying tx with
   | some (.slice e), some (.int _) => match P.info? e, lk h m with
    | some i, some r => match i.zero with
     | some z => bif D5 z.cells.toList && Nat.beq z.cells.toList.length i.size && Nat.ble 1 i.size then
       some ((.slice (some ⟨nx, 0, none⟩) (len + k.toNat) (B0 + nx), (nx, ⟨.room i.size z.cells.toList, tkD o (mlN len i.size) r.cs ++ zrep z.cells.toList (mlN k.toNat i.size)⟩) :: h, nx + 1, []), [0 < k ∧ cap < B0 ∧ cap < len + k.toNat, (len + k.toNat) * i.bytes ≤ 140737488355328 ∧ len + k.toNat ≤ 9223372036854775807, adN o (mlN len i.size) ≤ r.cs.length]) else none
     | none => none
    | _, _ => none
   | _, _ => none
  | _, _ => none
 | _ => none
theorem anZ_app {ev : Operand → Option Value} {nx : Nat} {args : Array Operand} {ts : Array TypeId} {out : Out} {ob : List Prop} (hs : anZ P ev h nx (.call ⟨.builtin .append, args, ts⟩) = some (out, ob)) (ho : Alls ob) :
  ∃ t tx s x, ts.toList = [t, tx] ∧ evL ev args.toList = some [s, x] ∧ appN P h nx t tx s x = some out := by
 simp only [anZ] at hs
 split at hs
 case h_2 => cases hs
 rename_i t tx m o len cap kq k ht hev
 split at hs
 case h_2 => cases hs
 rename_i e kk hu hux
 split at hs
 case h_2 => cases hs
 rename_i i r hi hl
 split at hs
 case h_2 => cases hs
 rename_i z hz
 obtain ⟨hg, hs⟩ := Ba hs
 simp only [oI, pI] at hs
 obtain ⟨rfl, rfl⟩ := hs
 simp only [Bool.and_eq_true] at hg
 obtain ⟨⟨g1, g2⟩, g3⟩ := hg
 obtain ⟨⟨k1, k2, k3⟩, ⟨k4, k5⟩, k6, _⟩ := ho
 refine ⟨t, tx, _, _, ht, hev, ?_⟩
 simp only [Iq, E6, Jx] at k6 ⊢
 unfold appN
 simp only [hu, hux, hi, hz, Ea hl k6, g1, g2, g3, decide_eq_true k1, Dd k2, Dd k3, Nat.ble_eq_true_of_le k4, Nat.ble_eq_true_of_le k5, Bool.and_self, cond_true, if_true]
theorem anZ_call {ev : Operand → Option Value} {nx : Nat} {op : Op} {x : Out × List Prop} (hs : anZ P ev h nx op = some x) : ∃ args ts, op = .call ⟨.builtin .append, args, ts⟩ := by
 unfold anZ at hs
 split at hs
 ·exact ⟨_, _, rfl⟩
 ·cases hs
theorem anZ_tidy {ev : Operand → Option Value} {nx : Nat} {op : Op} {v : Value} {h' : Hp} {nx' : Nat} {d : List Nat} {ob : List Prop} (hs : anZ P ev h nx op = some ((v, h', nx', d), ob)) : Tidy h nx h' nx' d := by
 unfold anZ at hs
 split at hs
 case h_2 => cases hs
 split at hs
 case h_2 => cases hs
 split at hs
 case h_2 => cases hs
 split at hs
 case h_2 => cases hs
 split at hs
 case h_2 => cases hs
 obtain ⟨_, hs⟩ := Ba hs
 simp only [oI, pI] at hs
 obtain ⟨⟨rfl, rfl, rfl, rfl⟩, _⟩ := hs
 exact ⟨Nat.le_succ _, fun n hn _ => by rw [B3, if_neg (by omega)], fun hB n hn => by rw [B3, if_neg (by omega)]; exact hB n (by omega)⟩
theorem anZ_ok {a : Act} (hR : Rl W σ h w) {ev : Operand → Option Value} {nx nx' : Nat} (hf : Fresh σ nx nx') (H : Evs σ ev a) {o : Oper} {v : Value} {h' : Hp} {d : List Nat} {ob : List Prop} (hs : anZ P ev h nx o.op = some ((v, h', nx', d), ob)) (ho : Alls ob) :
  ∃ σ' w' v', Stp W nx nx' σ h w σ' h' w' ∧ renV σ' v = some v' ∧ Ends P a o w v' w' := by
 obtain ⟨args, ts, hop⟩ := anZ_call hs
 rw [hop] at hs
 obtain ⟨t, tx, s, x, hte, hev, hc⟩ := anZ_app hs ho
 obtain ⟨s', l, hs', hl, e1⟩ := B9 (Dq H hev)
 obtain ⟨x', l', hx', hl', rfl⟩ := B9 hl
 simp only [renL, oI] at hl'
 subst hl'
 have hargs : args.map a.eval = #[s', x'] := by apply Array.toList_inj.1; rw [Array.toList_map, e1]
 have hts' : ts = #[t, tx] := by apply Array.toList_inj.1; simpa using hte
 obtain ⟨σ', w', v', h1, h2, h3⟩ := appN_ok (P := P) (ty := o.type) hR hc hf hs' hx'
 refine ⟨σ', w', v', h1, h2, .inl ?_⟩
 unfold execOp
 simp only [hop, resolve, Sem.run_bind, Sem.run_pure, Result.andThen_ok, invoke, builtin, hargs, hts', h3]
def saZ (P : Program) (ev : Operand → Option Value) (h : Hp) (nx : Nat) : Op → Option (Out × List Prop)
 | .slice t x (some lo) none none => match P.underlying t, ev x, ev lo with
  | some (.slice e), some (.slice (some ⟨n, o, none⟩) len cap), some (.int _ l) => match P.info? e, lk h n with
   | some i, some ⟨.room sz _, cs⟩ => bif Nat.beq sz i.size && Nat.blt 0 sz then
     some ((.slice (some ⟨n, ixO o l.toNat sz, none⟩) (sbN len l.toNat) (B0 + nx), h, nx + 1, []), [cap = B0 + n, 0 ≤ l ∧ l < (len : Int), len * sz ≤ cs.length]) else none
   | _, _ => none
  | _, _, _ => none
 | _ => none
theorem saZ_slc {ev : Operand → Option Value} {nx : Nat} {op : Op} {out : Out} {ob : List Prop} (hs : saZ P ev h nx op = some (out, ob)) (ho : Alls ob) : slcN P ev h nx op = some out := by
 unfold saZ at hs
 split at hs
 case h_2 => cases hs
 rename_i t x lo
 split at hs
 case h_2 => cases hs
 rename_i e n o len cap kl l hu hx hl
 split at hs
 case h_2 => cases hs
 rename_i i sz z cs hi hlk
 obtain ⟨hg, hs⟩ := Ba hs
 simp only [oI, pI] at hs
 obtain ⟨rfl, rfl⟩ := hs
 obtain ⟨rfl, ⟨k1, k2⟩, k3, _⟩ := ho
 simp only [Bool.and_eq_true] at hg
 have hsz : 0 < sz := Nat.le_of_ble_eq_true hg.2
 have hd : len ≤ cs.length / sz := (Nat.le_div_iff_mul_le hsz).2 k3
 have hlt : l.toNat < cs.length / sz := by omega
 have hb : bdsV len (cs.length / sz) (some (.int kl l)) none none = some (l.toNat, len, cs.length / sz) := by
  have e : bdV (some (Value.int kl l)) 0 len = some l.toNat := by
   have : (0 ≤ l ∧ l ≤ (len : Int)) := ⟨k1, by omega⟩
   simp only [bdV, decide_eq_true this, cond_true]
  exact M8 (m := 0) rfl rfl e fun _ => rfl
 unfold slcN
 simp only [hu, hx, evO, hl, hi, Nat.add_sub_cancel_left, hlk, hb, hg.1, hg.2, Nat.ble_eq_true_of_le (Nat.le_add_right B0 n), Nat.beq_refl, Bool.and_self, cond_true, Dd hlt, J7, Dh]
theorem saZ_tidy {ev : Operand → Option Value} {nx : Nat} {op : Op} {v : Value} {h' : Hp} {nx' : Nat} {d : List Nat} {ob : List Prop} (hs : saZ P ev h nx op = some ((v, h', nx', d), ob)) : Tidy h nx h' nx' d := by
 unfold saZ at hs
 split at hs
 case h_2 => cases hs
 split at hs
 case h_2 => cases hs
 split at hs
 case h_2 => cases hs
 obtain ⟨_, hs⟩ := Ba hs
 simp only [oI, pI] at hs
 obtain ⟨⟨rfl, rfl, rfl, rfl⟩, _⟩ := hs
 exact ⟨Nat.le_succ _, fun n _ _ => rfl, fun hB n hn => hB n (by omega)⟩
theorem saZ_ok {a : Act} (hR : Rl W σ h w) {ev : Operand → Option Value} {nx nx' : Nat} (hf : Fresh σ nx nx') (H : Evs σ ev a) {o : Oper} {v : Value} {h' : Hp} {d : List Nat} {ob : List Prop} (hs : saZ P ev h nx o.op = some ((v, h', nx', d), ob)) (ho : Alls ob) :
  ∃ σ' w' v', Stp W nx nx' σ h w σ' h' w' ∧ renV σ' v = some v' ∧ Ends P a o w v' w' := by
 obtain ⟨σ', w', v', h1, h2, h3⟩ := slcN_ok hR hf H (saZ_slc hs ho)
 exact ⟨σ', w', v', h1, h2, .inl h3⟩
def odY (P : Program) (md : Nat) (ev : Operand → Option Value) (h : Hp) (nx : Nat) (op : Op) : Option (Out × List Prop) := bif Nat.beq md 41 then anZ P ev h nx op else bif Nat.beq md 42 then saZ P ev h nx op else odL P md ev h nx op
theorem odY_tidy {md : Nat} {ev : Operand → Option Value} {nx : Nat} {op : Op} {v : Value} {h' : Hp} {nx' : Nat} {d : List Nat} {ob : List Prop} (hs : odY P md ev h nx op = some ((v, h', nx', d), ob)) : Tidy h nx h' nx' d := by
 unfold odY at hs
 rcases Be hs with ⟨_, hs⟩ | ⟨_, hs⟩
 ·exact anZ_tidy hs
 rcases Be hs with ⟨_, hs⟩ | ⟨_, hs⟩
 ·exact saZ_tidy hs
 ·exact odL_tidy hs
theorem odY_ok {a : Act} (hR : Rl W σ h w) {md : Nat} {ev : Operand → Option Value} {nx nx' : Nat} (hf : Fresh σ nx nx') (H : Evs σ ev a) {o : Oper} {v : Value} {h' : Hp} {d : List Nat} {ob : List Prop} (hs : odY P md ev h nx o.op = some ((v, h', nx', d), ob)) (ho : Alls ob) :
  ∃ σ' w' v', Stp W nx nx' σ h w σ' h' w' ∧ renV σ' v = some v' ∧ Ends P a o w v' w' := by
 unfold odY at hs
 rcases Be hs with ⟨_, hs⟩ | ⟨_, hs⟩
 ·exact anZ_ok hR hf H hs ho
 rcases Be hs with ⟨_, hs⟩ | ⟨_, hs⟩
 ·exact saZ_ok hR hf H hs ho
 ·exact odL_ok hR hf H hs ho
end
section
variable {P : Program} {W : World} {lo hi : Nat} {σ σ' : Sg} {h h' : Hp} {w w' : World}
theorem Stp.freeze (S : Stp W lo hi σ h w σ' h' w') {NX : Nat} (h1 : lo ≤ NX) (h2 : hi ≤ NX) (hf : Fresh σ lo (NX + 1)) {k b c : Nat} {r : Rw} {cs : List Value} (hl : lk h' k = some r) (ho : r.own) (hb : σ'.b k = some (b, 0)) (hF : ∀ τ, renL τ cs = some cs)
  (hw : ∀ j v, cs[j]? = some v → w'.cell? ⟨b, 0 + j, none⟩ = some v) (hfk : FOk W w' [b]) :
  Stp W lo (NX + 1) σ h w (σ'.vwc NX (b, 0) c (some [b]) none) ((NX, ⟨.of, cs⟩) :: delH h' k) w' := by
 have hN : σ'.b NX = none ∧ σ'.c NX = none := by
  obtain ⟨e1, e2⟩ := S.only NX (.inr h2)
  obtain ⟨e3, e4⟩ := hf NX h1 (by omega)
  exact ⟨e1.trans e3, e2.trans e4⟩
 have hne : ∀ n r, lk h' n = some r → n ≠ NX := fun n r hl e => by
  subst e
  obtain ⟨b', s', vs', hb', _⟩ := S.rl.row _ _ hl
  rw [hN.1] at hb'
  cases hb'
 have hbs : ∀ m, m ≠ NX → (σ'.vwc NX (b, 0) c (some [b]) none).b m = σ'.b m ∧ (σ'.vwc NX (b, 0) c (some [b]) none).c m = σ'.c m ∧ (σ'.vwc NX (b, 0) c (some [b]) none).f m = σ'.f m ∧ (σ'.vwc NX (b, 0) c (some [b]) none).e m = σ'.e m ∧ (σ'.vwc NX (b, 0) c (some [b]) none).w = σ'.w := fun m hm => by simp only [Sg.vwc]; rw [if_neg hm, if_neg hm, if_neg hm, if_neg hm]; exact ⟨rfl, rfl, rfl, rfl, trivial⟩
 have hle : σ'.le (σ'.vwc NX (b, 0) c (some [b]) none) := by
  refine ⟨fun m q e => ?_, fun m k e => ?_, fun m q e => ?_⟩
  ·have hm : m ≠ NX := fun e2 => by subst e2; rw [hN.1] at e; cases e
   rw [(hbs m hm).1]; exact e
  ·have hm : m ≠ NX := fun e2 => by subst e2; rw [hN.2] at e; cases e
   rw [(hbs m hm).2.1]; exact e
  ·have hm : m ≠ NX := fun e2 => by subst e2; rw [hN.1] at e; cases e
   exact (hbs m hm).2
 have cls : ∀ n s, lk ((NX, (⟨.of, cs⟩ : Rw)) :: delH h' k) n = some s → (n = NX ∧ s = ⟨.of, cs⟩) ∨ (n ≠ NX ∧ n ≠ k ∧ lk h' n = some s) := fun n s e => by
  rw [B3] at e
  split at e
  ·rename_i e1; cases e; exact .inl ⟨e1.symm, rfl⟩
  ·rename_i e1
   rw [Bf] at e
   split at e
   ·cases e
   ·rename_i e2; exact .inr ⟨Ne.symm e1, Ne.symm e2, e⟩
 have hsh : sh (σ'.vwc NX (b, 0) c (some [b]) none) NX = [b] := by simp [sh, Sg.vwc]
 have noO : ¬ (⟨.of, cs⟩ : Rw).own := fun e => e .of
 have shs : ∀ n, n ≠ NX → sh (σ'.vwc NX (b, 0) c (some [b]) none) n = sh σ' n := fun n hn => by unfold sh; rw [(hbs n hn).2.2.1]
 have own_ : ∀ m s q, lk ((NX, (⟨.of, cs⟩ : Rw)) :: delH h' k) m = some s → s.own → (σ'.vwc NX (b, 0) c (some [b]) none).b m = some q → m ≠ k ∧ lk h' m = some s ∧ σ'.b m = some q := fun m s q hm hs hq => by
  rcases cls m s hm with ⟨rfl, rfl⟩ | ⟨e1, e2, e3⟩
  ·exact absurd hs noO
  ·rw [(hbs m e1).1] at hq; exact ⟨e2, e3, hq⟩
 have exs : ∀ n s, lk ((NX, (⟨.of, cs⟩ : Rw)) :: delH h' k) n = some s → ∀ kk, kk ∈ ex (σ'.vwc NX (b, 0) c (some [b]) none) n → ∃ s, lk h' n = some s ∧ kk ∈ ex σ' n := fun n s hn kk hk => by
  rcases cls n s hn with ⟨rfl, rfl⟩ | ⟨e1, e2, e3⟩
  ·rw [L8] at hk; cases hk
  ·exact ⟨s, e3, by unfold ex at hk ⊢; rw [(hbs n e1).2.2.1] at hk; exact hk⟩
 refine ⟨S.le.trans hle, fun n hn => ?_, ⟨⟨S.rl.ext, fun n s hn => ?_, fun n m r1 r2 p q hn hm hr hs hp hq e => ?_⟩, S.rl.wf, fun n s hn hs => ?_, fun n s kk hn hk => ?_, Exc.same S.rl.shr (Nat.le_refl _) (fun n s p hn hs hp => ?_) (fun n s kk hn hk => ?_) exs⟩, S.size, S.fr, fun n s p hn hs hp => ?_, fun n s kk hn hk => ?_, fun n s kk hn hk => ?_⟩
 ·have e0 : n ≠ NX := by omega
  obtain ⟨a1, a2⟩ := S.only n (by omega)
  exact ⟨(hbs n e0).1.trans a1, (hbs n e0).2.1.trans a2⟩
 ·rcases cls n s hn with ⟨rfl, rfl⟩ | ⟨e1, e2, e3⟩
  ·refine ⟨b, 0, cs, by simp [Sg.vwc], hF _, ?_, .inr ⟨?_, hw⟩⟩
   ·rw [hsh]; exact hfk
   ·rw [hsh]; exact List.mem_singleton.2 rfl
  ·exact S.rl.keepA e3 hle fun _ _ => rfl
 ·rcases cls n r1 hn with ⟨rfl, rfl⟩ | ⟨e1, e2, e3⟩
  ·exact absurd hr noO
  rcases cls m r2 hm with ⟨e4, e5⟩ | ⟨e4, e5, e6⟩
  ·subst e5; exact absurd hs noO
  rw [(hbs n e1).1] at hp
  rw [(hbs m e4).1] at hq
  exact S.rl.inj n m r1 r2 p q e3 e6 hr hs hp hq e
 ·rcases cls n s hn with ⟨rfl, rfl⟩ | ⟨e1, e2, e3⟩
  ·exact absurd hs noO
  ·rw [(hbs n e1).2.2.1]; exact S.rl.shr.1 n s e3 hs
 ·rcases cls n s hn with ⟨rfl, rfl⟩ | ⟨e1, e2, e3⟩
  ·rw [hsh] at hk
   obtain rfl := List.mem_singleton.1 hk
   refine ⟨S.rl.lt hl ho hb, fun m s q hm hs hq e => ?_⟩
   obtain ⟨a1, a2, a3⟩ := own_ m s q hm hs hq
   exact a1 (S.rl.inj m k s r q (kk, 0) a2 hl hs ho a3 hb e)
  ·rw [shs n e1] at hk
   obtain ⟨g1, g2⟩ := S.rl.shr.2.1 n s kk e3 hk
   refine ⟨g1, fun m s q hm hs hq => ?_⟩
   obtain ⟨a1, a2, a3⟩ := own_ m s q hm hs hq
   exact g2 m s q a2 hs a3
 ·obtain ⟨a1, a2, a3⟩ := own_ n s p hn hs hp
  exact .inr ⟨n, s, p, a2, hs, a3, rfl⟩
 ·rcases cls n s hn with ⟨rfl, rfl⟩ | ⟨e1, e2, e3⟩
  ·rw [hsh] at hk
   obtain rfl := List.mem_singleton.1 hk
   exact .inr (.inl ⟨k, r, (kk, 0), hl, ho, hb, rfl⟩)
  ·rw [shs n e1] at hk
   exact .inr (.inr ⟨n, s, e3, hk⟩)
 ·rcases cls n s hn with ⟨rfl, rfl⟩ | ⟨e1, e2, e3⟩
  ·exact absurd hs noO
  ·rw [(hbs n e1).1] at hp
   exact S.src n s p e3 hs hp
 ·rcases cls n s hn with ⟨rfl, rfl⟩ | ⟨e1, e2, e3⟩
  ·rw [hsh] at hk
   obtain rfl := List.mem_singleton.1 hk
   rcases S.src k r (kk, 0) hl ho hb with h3 | ⟨m, s, q, a1, a2, a3, a4⟩
   ·exact .inl h3
   ·exact .inr (.inl ⟨m, s, q, a1, a2, a3, a4⟩)
  ·rw [shs n e1] at hk
   exact S.ssrc n s kk e3 hk
 ·obtain ⟨s1, e3, hk2⟩ := exs n s hn kk hk
  exact S.xsrc n s1 kk e3 hk2

def frZ (P : Program) (ev : Operand → Option Value) (h : Hp) (nx : Nat) : Op → Option (Out × List Prop)
 | .call ⟨.builtin .append, args, ts⟩ => match ts.toList, evL ev args.toList with
  | [t, tx], some [.slice A 0 0, x] => match P.underlying t with
   | some (.slice e) => match P.info? e with
    | some i => match srcZ P h i.size tx x, i.zero with
     | some (n, news, ob), some z => bif Nat.beq z.cells.toList.length i.size && Nat.ble 1 i.size && (match A with | none => true | some ⟨m, 0, none⟩ => (match lk h m with | some ⟨.shut, []⟩ => true | _ => false) | _ => false) then
       some ((.slice (some ⟨nx + 1, 0, none⟩) n (B0 + (nx + 1)), (nx + 1, ⟨.of, news⟩) :: h, nx + 2, []), (n * i.bytes ≤ 140737488355328 ∧ n ≤ 9223372036854775807) :: (news.length = n * i.size) :: (∀ τ, renL τ news = some news) :: ob) else none
     | _, _ => none
    | none => none
   | _ => none
  | _, _ => none
 | _ => none
theorem frZ_call {ev : Operand → Option Value} {nx : Nat} {op : Op} {x : Out × List Prop} (hs : frZ P ev h nx op = some x) : ∃ args ts, op = .call ⟨.builtin .append, args, ts⟩ := by
 unfold frZ at hs
 split at hs
 ·exact ⟨_, _, rfl⟩
 ·cases hs
theorem frZ_tidy {ev : Operand → Option Value} {nx : Nat} {op : Op} {v : Value} {h' : Hp} {nx' : Nat} {d : List Nat} {ob : List Prop} (hs : frZ P ev h nx op = some ((v, h', nx', d), ob)) : Tidy h nx h' nx' d := by
 unfold frZ at hs
 split at hs
 case h_2 => cases hs
 split at hs
 case h_2 => cases hs
 split at hs
 case h_2 => cases hs
 split at hs
 case h_2 => cases hs
 split at hs
 case h_2 => cases hs
 obtain ⟨_, hs⟩ := Ba hs
 simp only [oI, pI] at hs
 obtain ⟨⟨rfl, rfl, rfl, rfl⟩, _⟩ := hs
 exact ⟨by omega, fun n hn _ => by rw [B3, if_neg (by omega)], fun hB n hn => by rw [B3, if_neg (by omega)]; exact hB n (by omega)⟩
theorem Stp.nilName (S : Stp W lo hi σ h w σ' h' w') {NX : Nat} (h1 : lo ≤ NX) (h2 : hi ≤ NX) (hf : Fresh σ lo (NX + 1)) (E : Option Addr) : Stp W lo (NX + 1) σ h w (σ'.vwc NX (0, 0) 0 none E) ((NX, ⟨.of, []⟩) :: h') w' := by
 have hN : Fresh σ' NX (NX + 1) := fun n a b => by
  obtain ⟨e1, e2⟩ := S.only n (.inr (by omega))
  obtain ⟨e3, e4⟩ := hf n (by omega) b
  exact ⟨e1.trans e3, e2.trans e4⟩
 have T := Stp.viewc S.rl hN (r := ⟨.of, []⟩) (0, 0) 0 none E (fun k hk => by cases hk) .of ⟨0, 0, [], by simp [Sg.vwc], rfl, (fun k hk => by simp [sh, Sg.vwc] at hk), .inl rfl⟩
 refine ⟨S.le.trans T.le, fun n hn => ?_, T.rl, Nat.le_trans S.size T.size, fun b hb hno hnx => ?_, fun n r p hl ho hp => ?_, fun n r k hl hk => ?_, fun n r k hl hk => ?_⟩
 ·obtain ⟨a1, a2⟩ := T.only n (by omega)
  obtain ⟨b1, b2⟩ := S.only n (by omega)
  exact ⟨a1.trans b1, a2.trans b2⟩
 ·exact S.fr b hb hno hnx
 ·rw [B3] at hl
  split at hl
  ·cases hl; exact absurd .of ho
  ·rename_i e
   simp only [Sg.vwc] at hp
   rw [if_neg (Ne.symm e)] at hp
   exact S.src n r p hl ho hp
 ·rw [B3] at hl
  split at hl
  ·rename_i e
   subst e
   simp [sh, Sg.vwc] at hk
  ·rename_i e
   refine S.ssrc n r k hl ?_
   unfold sh at hk ⊢
   simp only [Sg.vwc] at hk
   rwa [if_neg (Ne.symm e)] at hk
 ·rw [B3] at hl
  split at hl
  ·rename_i e
   subst e
   rw [L8] at hk
   cases hk
  ·rename_i e
   refine S.xsrc n r k hl ?_
   unfold ex at hk ⊢
   simp only [Sg.vwc] at hk
   rwa [if_neg (Ne.symm e)] at hk
theorem Lt (σ : Sg) (NX : Nat) (E : Option Addr) : renV (σ.vwc NX (0, 0) 0 none E) (.slice (some ⟨NX, 0, none⟩) 0 (B0 + NX)) = some (.slice E 0 0) := by
 have := Dl (σ := σ.vwc NX (0, 0) 0 none E) (n := NX) (o := 0) (l := 0) (c := B0 + NX) (p := (0, 0)) (by simp [Sg.vwc]) (by simp [Sg.vwc]) rfl (by unfold cpR; rw [if_neg (by omega), Nat.add_sub_cancel_left]; simp [Sg.vwc])
 rw [show (σ.vwc NX (0, 0) 0 none E).e NX = E by simp [Sg.vwc]] at this
 exact this
theorem frZ_ok {a : Act} (hR : Rl W σ h w) {ev : Operand → Option Value} {nx nx' : Nat} (hf : Fresh σ nx nx') (H : Evs σ ev a) {o : Oper} {v : Value} {h' : Hp} {d : List Nat} {ob : List Prop} (hs : frZ P ev h nx o.op = some ((v, h', nx', d), ob)) (ho : Alls ob) :
  ∃ σ' w' v', Stp W nx nx' σ h w σ' h' w' ∧ renV σ' v = some v' ∧ Ends P a o w v' w' := by
 obtain ⟨args, ts, hop⟩ := frZ_call hs
 rw [hop] at hs
 simp only [frZ] at hs
 split at hs
 case h_2 => cases hs
 rename_i t tx A x hte hev
 split at hs
 case h_2 => cases hs
 rename_i e hu
 split at hs
 case h_2 => cases hs
 rename_i i hi
 split at hs
 case h_2 => cases hs
 rename_i n news ob' z hsrc hz
 obtain ⟨hg, hs⟩ := Ba hs
 simp only [oI, pI] at hs
 obtain ⟨⟨rfl, rfl, rfl, rfl⟩, rfl⟩ := hs
 obtain ⟨⟨k1, k2⟩, k3, k4, k5⟩ := ho
 simp only [Bool.and_eq_true] at hg
 obtain ⟨⟨g1, g2⟩, g3⟩ := hg
 have hsV := Cw hsrc k5
 obtain ⟨s', l, hs', hl, e1⟩ := B9 (Dq H hev)
 obtain ⟨x', l', hx', hl', rfl⟩ := B9 hl
 simp only [renL, oI] at hl'
 subst hl'
 have hargs : args.map a.eval = #[s', x'] := by apply Array.toList_inj.1; rw [Array.toList_map, e1]
 have hts' : ts = #[t, tx] := by apply Array.toList_inj.1; simpa using hte
 have fin : ∀ {v' w'}, (Builtin.append_ #[t, tx] o.type #[s', x']).run P w = .ok v' w' → Ends P a o w v' w' := fun h3 => by
  refine .inl ?_
  unfold execOp
  simp only [hop, resolve, Sem.run_bind, Sem.run_pure, Result.andThen_ok, invoke, builtin, hargs, hts', h3]
 have grown : ∀ {hh : Hp}, (∀ n r, lk hh n = some r → lk h n = some r) → (∀ n r, lk h n = some r → lk hh n = some r) → appV P h nx t tx (.slice A 0 0) x = some (.slice (some ⟨nx, 0, none⟩) n (B0 + nx), (nx, ⟨.room i.size z.cells.toList, news⟩) :: hh, nx + 1, []) →
   ∃ σ' w' v', Stp W nx (nx + 2) σ h w σ' ((nx + 1, ⟨.of, news⟩) :: h) w' ∧ renV σ' (.slice (some ⟨nx + 1, 0, none⟩) n (B0 + (nx + 1))) = some v' ∧ Ends P a o w v' w' := by
  intro hh q1 q2 hc
  obtain ⟨σ', w', v', S, h2, h3⟩ := Ky (P := P) (ty := o.type) hR hc (hf.low (by omega)) hs' hx'
  have hl0 : lk ((nx, (⟨.room i.size z.cells.toList, news⟩ : Rw)) :: hh) nx = some ⟨.room i.size z.cells.toList, news⟩ := by rw [B3, if_pos rfl]
  obtain ⟨b, s, vs, hb, hv, hk1, hk2, tt, rest, c, hc1, hc2, hc3, hc4, hc5⟩ := S.rl.row nx _ hl0
  subst hk1
  have hvs : vs = news := by
   have := k4 σ'
   simp only at hv
   rw [this] at hv
   exact (Option.some.inj hv).symm
  subst hvs
  have hcell := fun j v hj => (S.rl.cell hl0).elim fun p hp => by
   obtain ⟨us, a1, a2, a3⟩ := hp
   rw [hb] at a1
   cases a1
   simp only at a2
   rw [k4 σ'] at a2
   cases a2
   exact a3 j v hj
  have T := S.freeze (NX := nx + 1) (c := c) (by omega) (Nat.le_refl _) (hf.low (by omega)) hl0 (fun e => by cases e) hb k4 hcell (fun q hq => by
   obtain rfl := List.mem_singleton.1 hq
   exact ⟨hk2, _, _, hc2⟩)
  refine ⟨_, w', v', T.less fun m r hm => ?_, ?_, fin h3⟩
  ·rw [B3] at hm ⊢
   split
   ·rename_i e; rw [if_pos e] at hm; exact hm
   ·rename_i e
    rw [if_neg e] at hm
    have hne : m ≠ nx := fun e2 => by
     subst e2
     obtain ⟨b', s', vs', hb', _⟩ := hR.row _ _ hm
     rw [(hf m (Nat.le_refl _) (by omega)).1] at hb'
     cases hb'
    rw [Bf, if_neg (Ne.symm hne), B3, if_neg (Ne.symm hne)]
    exact q2 m r hm
  ·have e1 : cpR σ' (B0 + nx) = some c := by unfold cpR; rw [if_neg (by omega), Nat.add_sub_cancel_left]; exact hc1
   have hnc : n ≤ c := by
    rcases B7 h2 with ⟨p, c', hb2, hcp, hse, _⟩ | ⟨h0, _⟩
    ·rw [hse] at h2
     have := Bx S.rl.wf h2
     rw [e1] at hcp
     cases hcp
     exact this
    ·exact (S.rl.shr.1 nx _ hl0 (fun e => by cases e) h0).elim
   rw [B5 (o := 0) hb e1 (S.rl.shr.1 nx _ hl0 fun e => by cases e) (.inr hnc)] at h2
   rw [← h2]
   exact B5 (o := 0) (p := (b, 0)) (by simp [Sg.vwc]) (by unfold cpR; rw [if_neg (by omega), Nat.add_sub_cancel_left]; simp [Sg.vwc]) (by simp [Sg.vwc]) (.inr hnc)
 have empty : ∀ {vv : Value} {hh : Hp} {dd : List Nat}, n = 0 → (∀ m r, lk h m = some r → lk hh m = some r) → appV P h nx t tx (.slice A 0 0) x = some (vv, hh, nx, dd) → (∀ σ' v', σ.le σ' → renV σ' vv = some v' → ∃ E, v' = .slice E 0 0) →
   ∃ σ' w' v', Stp W nx (nx + 2) σ h w σ' ((nx + 1, ⟨.of, news⟩) :: h) w' ∧ renV σ' (.slice (some ⟨nx + 1, 0, none⟩) n (B0 + (nx + 1))) = some v' ∧ Ends P a o w v' w' := by
  intro vv hh dd hn q1 hc hE
  subst hn
  obtain rfl : news = [] := List.eq_nil_of_length_eq_zero (by rw [k3, Nat.zero_mul])
  obtain ⟨σ', w', v', S, h2, h3⟩ := Ky (P := P) (ty := o.type) hR hc (hf.low (by omega)) hs' hx'
  obtain ⟨E, rfl⟩ := hE σ' v' S.le h2
  have T := S.nilName (NX := nx + 1) (by omega) (by omega) (hf.low (by omega)) E
  refine ⟨_, w', _, T.less fun m r hm => ?_, Lt σ' (nx + 1) E, fin h3⟩
  rw [B3] at hm ⊢
  split
  ·rename_i e; rw [if_pos e] at hm; exact hm
  ·rename_i e; rw [if_neg e] at hm; exact q1 m r hm
 rcases Nat.eq_zero_or_pos n with hn0 | hn0
 ·have hnews : news = [] := List.eq_nil_of_length_eq_zero (by rw [k3, hn0, Nat.zero_mul])
  cases A with
  | none =>
   refine empty hn0 (fun m r hm => hm) (vv := .slice none 0 0) (dd := []) ?_ fun σ' v' _ hv => ⟨none, by simpa only [renV, oI] using hv.symm⟩
   unfold appV
   simp only [hu, hi, hsV, hz, g1, g2, hn0, Bool.and_self, cond_true, Dc]
  | some ad =>
   obtain ⟨m, off, sp⟩ := ad
   split at g3
   ·rename_i e1; cases e1
   ·rename_i m' e1
    cases e1
    split at g3
    case h_2 => cases g3
    rename_i hlm
    refine empty hn0 (hh := setH h m ⟨.shut, []⟩) (vv := .slice (some ⟨m, 0, none⟩) 0 0) (dd := [m]) (fun k r hk => ?_) ?_ fun σ' v' _ hv => ?_
    ·rw [Bo]
     split
     ·rename_i e; subst e; rw [hlm] at hk; exact hk
     ·exact hk
    ·unfold appV
     simp only [hu, hi, hsV, hz, g1, g2, hn0, hnews, hlm, Bool.and_self, cond_true, Dd (show 0 < B0 by unfold B0; omega), Nat.add_zero, Nat.zero_mul, List.length_nil, I1, Bg]
     rfl
    ·rcases B7 hv with ⟨p, c', _, hcp, rfl, _⟩ | ⟨_, _, _, rfl⟩
     ·rw [E8 (show 0 < B0 by unfold B0; omega) (Nat.le_refl _)] at hcp
      cases hcp
      exact ⟨_, rfl⟩
     ·exact ⟨_, rfl⟩
   ·cases g3
 ·have hnb : Nat.beq n 0 = false := Ca (by omega)
  cases A with
  | none =>
   refine grown (fun k r hk => hk) (fun k r hk => hk) ?_
   unfold appV
   simp only [hu, hi, hsV, hz, g1, g2, hnb, Bool.and_self, cond_true, cond_false, Dc, Nat.ble_eq_true_of_le k1, Nat.ble_eq_true_of_le k2]
  | some ad =>
   obtain ⟨m, off, sp⟩ := ad
   split at g3
   ·rename_i e1; cases e1
   ·rename_i m' e1
    cases e1
    split at g3
    case h_2 => cases g3
    rename_i hlm
    refine grown (hh := h) (fun k r hk => hk) (fun k r hk => hk) ?_
    have hcl : Ej h m 0 0 = some [] := by
     have := Ea (o := 0) (len := 0) hlm (by simp)
     simpa using this
    unfold appV
    simp only [hu, hi, hsV, hz, g1, g2, Bool.and_self, cond_true, cond_false, Dd (show 0 < B0 by unfold B0; omega), Nat.zero_add, Nat.zero_mul, Dp hn0, hcl, List.nil_append, Nat.ble_eq_true_of_le k1, Nat.ble_eq_true_of_le k2]
   ·cases g3
def odX (P : Program) (md : Nat) (ev : Operand → Option Value) (h : Hp) (nx : Nat) (op : Op) : Option (Out × List Prop) := bif Nat.beq md 43 then frZ P ev h nx op else odY P md ev h nx op
theorem odX_tidy {md : Nat} {ev : Operand → Option Value} {nx : Nat} {op : Op} {v : Value} {h' : Hp} {nx' : Nat} {d : List Nat} {ob : List Prop} (hs : odX P md ev h nx op = some ((v, h', nx', d), ob)) : Tidy h nx h' nx' d := by
 unfold odX at hs
 rcases Be hs with ⟨_, hs⟩ | ⟨_, hs⟩
 ·exact frZ_tidy hs
 ·exact odY_tidy hs
theorem odX_ok {a : Act} (hR : Rl W σ h w) {md : Nat} {ev : Operand → Option Value} {nx nx' : Nat} (hf : Fresh σ nx nx') (H : Evs σ ev a) {o : Oper} {v : Value} {h' : Hp} {d : List Nat} {ob : List Prop} (hs : odX P md ev h nx o.op = some ((v, h', nx', d), ob)) (ho : Alls ob) :
  ∃ σ' w' v', Stp W nx nx' σ h w σ' h' w' ∧ renV σ' v = some v' ∧ Ends P a o w v' w' := by
 unfold odX at hs
 rcases Be hs with ⟨_, hs⟩ | ⟨_, hs⟩
 ·exact frZ_ok hR hf H hs ho
 ·exact odY_ok hR hf H hs ho
end
end Go.Proofs.Ytojakfnljopjbaa
