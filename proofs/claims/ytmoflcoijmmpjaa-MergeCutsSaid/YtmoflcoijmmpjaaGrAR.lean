/-
  Contracts of functions that read lists of structs with slices, in any heap.
-/
import Derived.Test.YtmoflcoijmmpjaaGrAQ
import Derived.Test.YtmoflcoijmmpjaaProg
namespace Go.Proofs.Ytmoflcoijmmpjaa
section
set_option linter.unusedSimpArgs false
set_option linter.unusedVariables false
set_option linter.unusedSectionVars false
open Go Go.RowKit

section
variable {W w : World} {F : List Nat}
mutual
theorem DR.base (hx : Ext W w) (hF : ∀ k, k ∈ F → k < w.heap.size) : ∀ (d : DV) (u : Value), DR W w F d u → DR w w [] d u
 | .fl v, u, hd => by simp only [DR] at hd ⊢; exact hd
 | .sl len cap ds, u, hd => by
   simp only [DR] at hd ⊢
   rcases hd with hd | ⟨b, s, c, h2, h5, h6⟩
   ·exact .inl hd
   ·exact .inr ⟨b, s, c, h2, h5, h6.imp (fun e => e) fun e => DRs.base hx hF ds b s e⟩
theorem DRs.base (hx : Ext W w) (hF : ∀ k, k ∈ F → k < w.heap.size) : ∀ (ds : List DV) (b s : Nat), DRs W w F b s ds → DRs w w [] b s ds
 | [], b, s, hd => by
   simp only [DRs] at hd ⊢
   exact .inl (hd.elim (fun e => Nat.lt_of_lt_of_le e hx.size) (hF b))
 | d :: ds, b, s, hd => by
   simp only [DRs] at hd ⊢
   obtain ⟨⟨v, h1, h2⟩, h3⟩ := hd
   refine ⟨⟨v, .inl ?_, DR.base hx hF d v h2⟩, DRs.base hx hF ds b (s + 1) h3⟩
   rcases h1 with ⟨h1, h4⟩ | ⟨h1, h4⟩
   ·exact ⟨Nat.lt_of_lt_of_le h1 hx.size, (hx.cell b s h1).trans h4⟩
   ·exact ⟨hF b h1, h4⟩
end
theorem DRv.base (hx : Ext W w) (hF : ∀ k, k ∈ F → k < w.heap.size) : ∀ {ds : List DV} {us : List Value}, DRv W w F ds us → DRv w w [] ds us
 | [], us, hd => by simp only [DRv] at hd ⊢; exact hd
 | d :: ds, us, hd => by
   simp only [DRv] at hd ⊢
   obtain ⟨u, us', h1, h2, h3⟩ := hd
   exact ⟨u, us', h1, DR.base hx hF d u h2, DRv.base hx hF h3⟩
end
section
variable {W : World} {σ : Sg} {h : Hp} {w : World}
def deepX : Kd → Option (List DV)
 | .dx _ _ _ ds => some ds
 | .dw _ _ ds => some ds
 | k => deepOf k
theorem deep_base (hR : Rl W σ h w) {n : Nat} {r : Rw} {ds : List DV} {b s : Nat} (hl : lk h n = some r) (hd : deepX r.kd = some ds) (hb : σ.b n = some (b, s)) : ds = [] ∨ DRs w w [] b s ds := by
 have hF : ∀ k, k ∈ sh σ n → k < w.heap.size := fun k hk => (hR.shr.2.1 n r k hl hk).1
 obtain ⟨b', s', vs, h1, h2, h3⟩ := hR.row n r hl
 rw [hb] at h1
 cases h1
 have fin : ∀ (F : List Nat) (us rest : List Value) (t : TypeId), (∀ k, k ∈ F → k < w.heap.size) → s = 0 → w.heap[b]? = some (.cells (us ++ rest).toArray t (0, 0)) → DRv W w F ds us → DRs w w [] b s ds := fun F us rest t hF hs hc hv => by
  subst hs
  have hb : b < w.heap.size := by
   rcases Nat.lt_or_ge b w.heap.size with hh | hh
   ·exact hh
   ·rw [Array.getElem?_eq_none hh] at hc; cases hc
  have := DRv.cells hb (s := 0) (es := []) (hv.base hR.ext hF) (fun j u hj => by
   rw [cell_of_row w b (0 + j) _ t _ hc]
   have hj2 : (us ++ rest)[j]? = some u := by rw [List.getElem?_append_left (List.getElem?_eq_some_iff.1 hj).1]; exact hj
   simpa using hj2) (by simp only [DRs]; exact .inl hb)
  rwa [List.append_nil] at this
 obtain ⟨kd, cs⟩ := r
 cases kd with
 | sd es =>
  simp only [deepX, deepOf, oI] at hd
  subst hd
  exact h3.2.imp (fun e => e) (DRs.base hR.ext hF _ _ _)
 | sw es =>
  simp only [deepX, deepOf, oI] at hd
  subst hd
  exact h3.2.2.imp (fun e => e) (DRs.base hR.ext (fun k hk => by cases hk) _ _ _)
 | dp sz z es =>
  simp only [deepX, deepOf, oI] at hd
  subst hd
  obtain ⟨e0, _, _, us, t, rest, c, _, hc, _, _, _, hv⟩ := h3
  exact .inr (fin _ us rest t hF e0 hc hv)
 | df sz z es =>
  simp only [deepX, deepOf, oI] at hd
  subst hd
  obtain ⟨_, e0, _, _, us, t, rest, c, _, hc, _, _, _, hv⟩ := h3
  exact .inr (fin _ us rest t hF e0 hc (hv W))
 | dw sz z es =>
  simp only [deepX, oI] at hd
  subst hd
  obtain ⟨_, e0, _, _, us, t, rest, c, _, hc, _, _, _, hv⟩ := h3
  exact .inr (fin [] us rest t (fun k hk => by cases hk) e0 hc hv)
 | dx d2 sz z es =>
  simp only [deepX, oI] at hd
  subst hd
  obtain ⟨e0, _, _, _, us, t, rest, c, E, _, hc, _, _, _, hE, _, hv⟩ := h3
  exact .inr (fin E us rest t (fun k hk => (hR.shr.2.2 n _ k hl (by rw [hE]; exact List.mem_cons_of_mem _ hk)).1) e0 hc (hv W))
 | _ => cases hd
theorem DRs.drop : ∀ {W w : World} {F : List Nat} (o : Nat) {ds : List DV} {b s : Nat}, DRs W w F b s ds → ds.drop o = [] ∨ DRs W w F b (s + o) (ds.drop o)
 | W, w, F, 0, ds, b, s, hd => .inr hd
 | W, w, F, o + 1, [], b, s, hd => .inl (by simp)
 | W, w, F, o + 1, d :: ds, b, s, hd => by
   simp only [DRs] at hd
   have := DRs.drop o hd.2
   rw [show s + (o + 1) = s + 1 + o by omega]
   exact this
end

theorem DR.nil {W w : World} {F : List Nat} {cap : Option Nat} {a : Option Addr} {len : Nat} {ds : List DV} (h0 : len = 0) (hd : ds = []) (h : cap = none ∨ cap = some 0) : DR W w F (.sl len cap ds) (.slice a 0 0) := by
 subst h0; subst hd
 rw [DR]
 exact .inl ⟨rfl, rfl, h, a, rfl⟩
theorem DR.mk {W w : World} {F : List Nat} {cap : Option Nat} {len b s c : Nat} {ds : List DV} (h : len ≤ c ∧ ∀ k, cap = some k → c = k ∧ len ≤ k ∧ k ≤ 9223372036854775807) (hd : ds = [] ∨ DRs W w F b s ds) : DR W w F (.sl len cap ds) (.slice (some ⟨b, s, none⟩) len c) := by
 rw [DR]
 exact .inr ⟨b, s, c, rfl, h, hd⟩
structure Pl where
 b : Nat × Nat
 c : Nat
 f : Option (List Nat)
 e : Option Addr
def sgL (ps : List Pl) : Sg := ⟨fun n => (ps[n]?).map (·.b), fun n => (ps[n]?).map (·.c), fun n => match ps[n]? with | some p => p.f.map fun l => (l, []) | none => none, fun n => match ps[n]? with | some p => p.e | none => none, true⟩
structure On (σ : Sg) (k : Nat) (p : Pl) : Prop where
 b : σ.b k = some p.b
 c : σ.c k = some p.c
 f : σ.f k = p.f.map fun l => (l, [])
 e : σ.e k = p.e
theorem sgL_on {ps : List Pl} {k : Nat} {p : Pl} (h : ps[k]? = some p) : On (sgL ps) k p := ⟨by simp [sgL, h], by simp [sgL, h], by simp [sgL, h], by simp [sgL, h]⟩
theorem sgL_out {ps : List Pl} {k : Nat} (h : ps.length ≤ k) : (sgL ps).b k = none ∧ (sgL ps).c k = none := by simp [sgL, List.getElem?_eq_none h]
theorem On.sh {σ : Sg} {k : Nat} {p : Pl} (h : On σ k p) (hp : p.f.getD [] = []) : sh σ k = [] := by
 unfold Go.Proofs.Ytmoflcoijmmpjaa.sh
 rw [h.f]
 cases hh : p.f with
 | none => rfl
 | some l => rw [hh] at hp; exact hp
theorem dr_pl {W : World} {len : Nat} {cap : Option Nat} {ds : List DV} {u : Value} (h : DR W W [] (.sl len cap ds) u) : ∃ p : Pl, p.f.getD [] = [] ∧ (ds = [] ∨ DRs W W [] p.b.1 p.b.2 ds) ∧ ∀ σ k, On σ k p → renV σ (.slice (some ⟨k, 0, none⟩) len (capBig + k)) = some u ∧ ∀ c, cap = some c → renV σ (.slice (some ⟨k, 0, none⟩) len c) = some u := by
 simp only [DR] at h
 rcases h with ⟨rfl, rfl, h1, a, rfl⟩ | ⟨b, s, c', rfl, h1, h2⟩
 ·refine ⟨⟨(0, 0), 0, none, a⟩, rfl, .inl rfl, fun σ k O => ?_⟩
  have e : cpR σ (capBig + k) = some 0 := by rw [cpR_big]; exact O.c
  refine ⟨(renV_nil O.b O.f rfl e).trans (by rw [O.e]), fun c hc => ?_⟩
  rcases h1 with h1 | h1
  ·rw [h1] at hc; cases hc
  ·rw [h1] at hc; cases hc
   exact (renV_nil O.b O.f rfl (by unfold cpR; rw [if_pos (by unfold capBig; omega)])).trans (by rw [O.e])
 ·refine ⟨⟨(b, s), c', some [], none⟩, rfl, h2, fun σ k O => ?_⟩
  have e : cpR σ (capBig + k) = some c' := by rw [cpR_big]; exact O.c
  have hn : σ.f k ≠ none := by rw [O.f]; intro e; cases e
  refine ⟨by simpa using renV_slice_mk (o := 0) (l := len) O.b e hn (.inr h1.1), fun c hc => ?_⟩
  obtain ⟨rfl, g2, g3⟩ := h1.2 c hc
  simpa using renV_slice_mk (o := 0) (l := len) (c := c') (c' := c') O.b (by unfold cpR; rw [if_pos (by unfold capBig; omega)]) hn (.inr h1.1)

inductive Dv where
 | fl (v : Value)
 | sl (xs : List Value) (len : Nat)
 | dl (ds : List DV) (len : Nat)
 | dk (ds : List DV) (len : Nat)
 | tb (pre : List Value) (ds : List DV) (len : Nat)
def dvV1 (c k : Nat) : Dv → Value
 | .fl v => v
 | .sl _ len => .slice (some ⟨k, 0, none⟩) len (capBig + k)
 | .dl _ len => .slice (some ⟨k, 0, none⟩) len (capBig + k)
 | .dk _ len => .slice (some ⟨k, 0, none⟩) len c
 | .tb _ _ _ => .pointer (some ⟨k, 0, none⟩)
def dvH1 (c k : Nat) (h : Hp) : Dv → Hp
 | .fl _ => h
 | .sl xs _ => (k, ⟨.ow, xs⟩) :: h
 | .dl ds _ => (k, ⟨.sw ds, []⟩) :: h
 | .dk ds _ => (k, ⟨.sw ds, []⟩) :: h
 | .tb pre ds len => (k, ⟨.ow, pre ++ [.slice (some ⟨k + 1, 0, none⟩) len c]⟩) :: (k + 1, ⟨.sw ds, []⟩) :: h
def dvV : List Dv → List Nat → Nat → List Value
 | [], _, _ => []
 | a :: l, cs, k => dvV1 (cs.headD 0) k a :: dvV l cs.tail (k + 2)
def dvH : List Dv → List Nat → Nat → Hp
 | [], _, _ => []
 | a :: l, cs, k => dvH1 (cs.headD 0) k (dvH l cs.tail (k + 2)) a
def Dv.at (W : World) (u : Value) (c : Nat) : Dv → Prop
 | .fl v => u = v ∧ ∀ σ, renV σ v = some v
 | .sl xs len => (∀ τ, renL τ xs = some xs) ∧ DR W W [] (.sl len none (xs.map DV.fl)) u
 | .dl ds len => DR W W [] (.sl len none ds) u
 | .dk ds len => DR W W [] (.sl len (some c) ds) u
 | .tb pre ds len => ∃ b s u', u = .pointer (some ⟨b, s, none⟩) ∧ b < W.heap.size ∧ (∀ j v, (pre ++ [u'])[j]? = some v → W.cell? ⟨b, s + j, none⟩ = some v) ∧ (∀ τ, renL τ pre = some pre) ∧ DR W W [] (.sl len (some c) ds) u'
def CapOk (c : Nat) : Dv → Prop
 | .dk _ len => len ≤ c ∧ c ≤ 9223372036854775807
 | .tb _ _ len => len ≤ c ∧ c ≤ 9223372036854775807
 | _ => True
def DvAts (W : World) : List Dv → List Value → List Nat → Prop
 | [], [], [] => True
 | a :: aL, u :: us, c :: cs => (a.at W u c ∧ CapOk c a) ∧ DvAts W aL us cs
 | _, _, _ => False
def CapsD : List Dv → List Nat → Prop
 | [], [] => True
 | a :: aL, c :: cs => CapOk c a ∧ CapsD aL cs
 | _, _ => False
theorem DvAts.caps {W : World} : ∀ {aL : List Dv} {us : List Value} {cs : List Nat}, DvAts W aL us cs → CapsD aL cs
 | [], [], [], _ => trivial
 | a :: aL, u :: us, c :: cs, h => ⟨h.1.2, h.2.caps⟩
 | [], _ :: _, _, h => by simp [DvAts] at h
 | [], [], _ :: _, h => by simp [DvAts] at h
 | _ :: _, [], _, h => by simp [DvAts] at h
 | _ :: _, _ :: _, [], h => by simp [DvAts] at h
theorem ow_ok {W : World} {σ : Sg} {k : Nat} {p : Pl} {xs : List Value} (O : On σ k p) (hp : p.f.getD [] = []) (hf : ∀ τ, renL τ xs = some xs) (h : xs.map DV.fl = [] ∨ DRs W W [] p.b.1 p.b.2 (xs.map DV.fl)) : RowOk W σ W k ⟨.ow, xs⟩ := by
 refine ⟨p.b.1, p.b.2, xs, O.b, hf σ, O.sh hp, ?_⟩
 rcases h with h | h
 ·exact .inl (by simpa using h)
 ·obtain ⟨h1, h2, _⟩ := h.flt
  exact .inr ⟨h1, h2⟩
theorem Dv.pl {W : World} {a : Dv} {u : Value} {c : Nat} (h : a.at W u c) (hc : CapOk c a) : ∃ p q : Pl, p.f.getD [] = [] ∧ q.f.getD [] = [] ∧ ∀ σ k, On σ k p → On σ (k + 1) q → renV σ (dvV1 c k a) = some u ∧ ∀ hp n r, lk (dvH1 c k hp a) n = some r → lk hp n = some r ∨ (k ≤ n ∧ n < k + 2 ∧ RowOk W σ W n r ∧ ShKd r.kd) := by
 let z : Pl := ⟨(0, 0), 0, some [], none⟩
 cases a with
 | fl v =>
  obtain ⟨rfl, hv⟩ := h
  exact ⟨z, z, rfl, rfl, fun σ k _ _ => ⟨hv σ, fun hp n r e => .inl e⟩⟩
 | sl xs len =>
  obtain ⟨hf, h⟩ := h
  obtain ⟨p, h1, h2, h3⟩ := dr_pl h
  refine ⟨p, z, h1, rfl, fun σ k O _ => ⟨(h3 σ k O).1, fun hp n r e => ?_⟩⟩
  simp only [dvH1, lk_cons] at e
  split at e
  ·rename_i e1; cases e; subst e1
   exact .inr ⟨Nat.le_refl _, by omega, ow_ok O h1 hf h2, .ow⟩
  ·exact .inl e
 | dl ds len =>
  obtain ⟨p, h1, h2, h3⟩ := dr_pl h
  refine ⟨p, z, h1, rfl, fun σ k O _ => ⟨(h3 σ k O).1, fun hp n r e => ?_⟩⟩
  simp only [dvH1, lk_cons] at e
  split at e
  ·rename_i e1; cases e; subst e1
   exact .inr ⟨Nat.le_refl _, by omega, ⟨p.b.1, p.b.2, [], O.b, rfl, O.sh h1, rfl, h2⟩, .sw ds⟩
  ·exact .inl e
 | dk ds len =>
  obtain ⟨p, h1, h2, h3⟩ := dr_pl h
  refine ⟨p, z, h1, rfl, fun σ k O _ => ⟨(h3 σ k O).2 c rfl, fun hp n r e => ?_⟩⟩
  simp only [dvH1, lk_cons] at e
  split at e
  ·rename_i e1; cases e; subst e1
   exact .inr ⟨Nat.le_refl _, by omega, ⟨p.b.1, p.b.2, [], O.b, rfl, O.sh h1, rfl, h2⟩, .sw ds⟩
  ·exact .inl e
 | tb pre ds len =>
  obtain ⟨b, s, u', rfl, hb, hcell, hf, h⟩ := h
  obtain ⟨q, h1, h2, h3⟩ := dr_pl h
  refine ⟨⟨(b, s), 0, some [], none⟩, q, rfl, h1, fun σ k O O2 => ⟨?_, fun hp n r e => ?_⟩⟩
  ·have := renV_ptr_mk (o := 0) O.b (by rw [O.f]; intro e; cases e)
   simpa [dvV1] using this
  simp only [dvH1, lk_cons] at e
  split at e
  ·rename_i e1; cases e; subst e1
   refine .inr ⟨Nat.le_refl _, by omega, ⟨b, s, pre ++ [u'], O.b, ?_, O.sh rfl, .inr ⟨hb, hcell⟩⟩, .ow⟩
   exact renL_app (hf σ) (renL_mk ((h3 σ (k + 1) O2).2 c rfl) rfl)
  ·split at e
   ·rename_i e1; cases e; subst e1
    exact .inr ⟨by omega, by omega, ⟨q.b.1, q.b.2, [], O2.b, rfl, O2.sh h1, rfl, h2⟩, .sw ds⟩
   ·exact .inl e
theorem dvs_pl {W : World} : ∀ {aL : List Dv} {us : List Value} {cs : List Nat}, DvAts W aL us cs → ∃ ps : List Pl, ps.length = 2 * aL.length ∧ (∀ p, p ∈ ps → p.f.getD [] = []) ∧ ∀ σ k, (∀ j p, ps[j]? = some p → On σ (k + j) p) → renL σ (dvV aL cs k) = some us ∧ ∀ n r, lk (dvH aL cs k) n = some r → k ≤ n ∧ n < k + 2 * aL.length ∧ RowOk W σ W n r ∧ ShKd r.kd
 | [], [], [], _ => ⟨[], rfl, fun p hp => (by cases hp), fun σ k _ => ⟨rfl, fun n r e => by cases e⟩⟩
 | a :: aL, u :: us, c :: cs, h => by
   obtain ⟨p, q, h1, h2, h3⟩ := Dv.pl h.1.1 h.1.2
   obtain ⟨ps, g1, g2, g3⟩ := dvs_pl h.2
   refine ⟨p :: q :: ps, by simp only [List.length_cons, g1]; omega, fun x hx => ?_, fun σ k hO => ?_⟩
   ·rcases List.mem_cons.1 hx with rfl | hx
    ·exact h1
    ·rcases List.mem_cons.1 hx with rfl | hx
     ·exact h2
     ·exact g2 x hx
   ·obtain ⟨e1, e2⟩ := h3 σ k (by simpa using hO 0 p rfl) (hO 1 q rfl)
    obtain ⟨f1, f2⟩ := g3 σ (k + 2) fun j x hx => by
     have := hO (j + 2) x (by simpa using hx)
     rwa [show k + (j + 2) = k + 2 + j by omega] at this
    refine ⟨renL_mk e1 f1, fun n r e => ?_⟩
    simp only [List.length_cons]
    rcases e2 _ n r e with e | ⟨y1, y2, y3, y4⟩
    ·obtain ⟨y1, y2, y3, y4⟩ := f2 n r e
     exact ⟨by omega, by omega, y3, y4⟩
    ·exact ⟨y1, by omega, y3, y4⟩
 | [], _ :: _, _, h => by simp [DvAts] at h
 | [], [], _ :: _, h => by simp [DvAts] at h
 | _ :: _, [], _, h => by simp [DvAts] at h
 | _ :: _, _ :: _, [], h => by simp [DvAts] at h
theorem dvs_rl {W : World} {aL : List Dv} {us : List Value} {cs : List Nat} (h : DvAts W aL us cs) : ∃ σ, Rl W σ (dvH aL cs 0) W ∧ renL σ (dvV aL cs 0) = some us ∧ (∀ n, 2 * aL.length ≤ n → σ.b n = none ∧ σ.c n = none) ∧ Bd (dvH aL cs 0) (2 * aL.length) := by
 obtain ⟨ps, g1, g2, g3⟩ := dvs_pl h
 obtain ⟨f1, f2⟩ := g3 (sgL ps) 0 fun j p hp => by rw [Nat.zero_add]; exact sgL_on hp
 have hsh : ∀ n, sh (sgL ps) n = [] := fun n => by
  unfold sh
  simp only [sgL]
  split
  ·rename_i p hp
   have := g2 p (List.mem_of_getElem? hp)
   cases hh : p.f with
   | none => rfl
   | some l => rw [hh] at this; exact this
  ·rfl
 have hex : ∀ n, ex (sgL ps) n = [] := fun n => by
  unfold ex
  simp only [sgL]
  split
  ·rename_i p hp; cases p.f <;> rfl
  ·rfl
 refine ⟨sgL ps, ⟨⟨Ext.refl W, fun n r e => (f2 n r e).2.2.1, fun n m r s p q hn hm ho => absurd (f2 n r hn).2.2.2 ho⟩, rfl, fun n r hn ho => absurd (f2 n r hn).2.2.2 ho, fun n r k hn hk => (by rw [hsh] at hk; cases hk), fun n r k hn hk => (by rw [hex] at hk; cases hk)⟩, f1, fun n hn => sgL_out (by omega), fun n hn => ?_⟩
 cases hl : lk (dvH aL cs 0) n with
 | none => rfl
 | some r => have := (f2 n r hl).2.1; omega

mutual
def cnD : DV → DV
 | .fl v => .fl v
 | .sl len _ ds => .sl len none (cnL ds)
def cnL : List DV → List DV
 | [] => []
 | d :: ds => cnD d :: cnL ds
end
section
variable {W w : World} {F : List Nat}
mutual
theorem DR.canon : ∀ (d : DV) (u : Value), DR W w F d u → DR W w F (cnD d) u
 | .fl v, u, hd => by simpa only [cnD] using hd
 | .sl len cap ds, u, hd => by
   simp only [cnD, DR] at hd ⊢
   rcases hd with ⟨h1, h2, h3, h4⟩ | ⟨b, s, c, h2, h5, h6⟩
   ·exact .inl ⟨h1, by rw [h2]; rfl, .inl trivial, h4⟩
   ·exact .inr ⟨b, s, c, h2, ⟨h5.1, fun k e => by cases e⟩, h6.imp (fun e => by rw [e]; rfl) fun e => DRs.canon ds b s e⟩
theorem DRs.canon : ∀ (ds : List DV) (b s : Nat), DRs W w F b s ds → DRs W w F b s (cnL ds)
 | [], b, s, hd => by simpa only [cnL] using hd
 | d :: ds, b, s, hd => by
   simp only [cnL, DRs] at hd ⊢
   obtain ⟨⟨v, h1, h2⟩, h3⟩ := hd
   exact ⟨⟨v, h1, DR.canon d v h2⟩, DRs.canon ds b (s + 1) h3⟩
end
theorem DRs.take : ∀ (k : Nat) {ds : List DV} {b s : Nat}, DRs W w F b s ds → DRs W w F b s (ds.take k)
 | 0, ds, b, s, hd => by
   rw [List.take_zero]
   simp only [DRs]
   exact hd.blk
 | k + 1, [], b, s, hd => by simpa using hd
 | k + 1, d :: ds, b, s, hd => by
   simp only [List.take_succ_cons, DRs] at hd ⊢
   exact ⟨hd.1, DRs.take k hd.2⟩
end
def elB (h : Hp) : List Value → Option (List DV × List Prop)
 | [] => some ([], [])
 | .slice none 0 0 :: vs => (match elB h vs with
  | some (ds, ob) => some (.sl 0 none [] :: ds, ob)
  | none => none)
 | .slice (some ⟨k, 0, none⟩) n _ :: vs => (match elB h vs, lk h k with
  | some (ds, ob), some r => (match deepX r.kd with
   | some es => some (.sl n none (cnL es) :: ds, (n = 0 → es = []) :: ob)
   | none => none)
  | _, _ => none)
 | _ => none
theorem elB_ok {W : World} {σ : Sg} {h : Hp} {w : World} (hR : Rl W σ h w) : ∀ {cells : List Value} {ds : List DV} {ob : List Prop} {us : List Value}, elB h cells = some (ds, ob) → Alls ob → renL σ cells = some us → DRv w w [] ds us
 | [], ds, ob, us, h1, _, h3 => by
   simp only [elB, oI, pI] at h1
   obtain ⟨rfl, _⟩ := h1
   simp only [renL, oI] at h3
   subst h3
   simp [DRv]
 | v :: vs, ds, ob, us, h1, h2, h3 => by
   obtain ⟨u, us', hu, hus, rfl⟩ := renL_cons h3
   unfold elB at h1
   split at h1
   ·rename_i e; cases e
   ·rename_i vs' e
    cases e
    split at h1
    case h_2 => cases h1
    rename_i ds' ob' hrec
    simp only [oI, pI] at h1
    obtain ⟨rfl, rfl⟩ := h1
    simp only [DRv]
    refine ⟨_, _, rfl, ?_, elB_ok hR hrec h2 hus⟩
    simp only [renV, oI] at hu
    subst hu
    exact DR.nil rfl rfl (.inl rfl)
   ·rename_i k n c vs' e
    cases e
    split at h1
    case h_2 => cases h1
    rename_i ds' ob' r hrec hl
    split at h1
    case h_2 => cases h1
    rename_i es hd
    simp only [oI, pI] at h1
    obtain ⟨rfl, rfl⟩ := h1
    obtain ⟨hz, ho⟩ := h2
    simp only [DRv]
    refine ⟨_, _, rfl, ?_, elB_ok hR hrec ho hus⟩
    obtain ⟨b, s, vs', hb, _⟩ := hR.row k _ hl
    rcases renV_slice hu with ⟨p, c', hb', _, rfl, _⟩ | ⟨hn, h0, _, rfl⟩
    ·rw [hb] at hb'
     cases hb'
     refine DR.mk ⟨renV_len hR.wf hu, fun k e => by cases e⟩ ?_
     exact (deep_base hR hl hd hb).imp (fun e => by rw [e]; rfl) fun e => DRs.canon _ _ _ e
    ·exact DR.nil h0 (by rw [hz h0]; rfl) (.inl rfl)
   ·cases h1
structure GrD (gr : Gr) (v0 : Value) (h0' : Hp) (g : Nat → Nat) : Prop where
 v : ∀ nx, renV (f2s nx gr.rows.length g) (gr.v nx) = some v0
 rows : ∀ j r, gr.rows[j]? = some r → Fl r.cs ∧ adKd r.kd = true ∧ lk h0' (g j) = some r
 inj : ∀ i j, i < gr.rows.length → j < gr.rows.length → g i = g j → i = j
abbrev GSpecD := List Dv → Tape → Option (Gr × Tape × List Prop)
def GOkD (P : Program) (f0 : FuncId) (G : GSpecD) : Prop := ∀ aL tp gr tp' ob, G aL tp = some (gr, tp', ob) → Alls ob → ∀ cs, CapsD aL cs → ∃ v0 h0' nx0' d0 g, Tri P f0 (dvV aL cs 0) (dvH aL cs 0) (2 * aL.length) (v0, h0', nx0', d0) ∧ GrD gr v0 h0' g
inductive Pd where
 | f
 | s
 | d
 | k (size : Nat)
 | t (size : Nat)
 | c (size : Nat)
 | e (size : Nat)
def rdK (h : Hp) (size : Nat) : Value → Option ((List DV × Nat) × List Prop)
 | .slice none 0 0 => some (([], 0), [])
 | .slice (some ⟨n, 0, none⟩) len c => (match lk h n with
  | some r => (match r.kd with
   | .dp sz _ ds => bif Nat.beq sz size then some ((ds, len), [c = capBig + n ∧ ds.length = len * size ∧ 0 < size]) else none
   | .df sz _ ds => bif Nat.beq sz size then some ((ds, len), [c = capBig + n ∧ ds.length = len * size ∧ 0 < size]) else none
   | .sd ds => some ((ds, len), [len ≤ c ∧ c ≤ 9223372036854775807 ∧ (len = 0 → ds = [])])
   | .sw ds => some ((ds, len), [len ≤ c ∧ c ≤ 9223372036854775807 ∧ (len = 0 → ds = [])])
   | _ => none)
  | none => none)
 | _ => none
def rdD (h : Hp) : Pd → Value → Option (Dv × List Prop)
 | .f, .func (.func k) ⟨[]⟩ ⟨[]⟩ => some (.fl (.func (.func k) ⟨[]⟩ ⟨[]⟩), [])
 | .f, v => bif flat1 v then some (.fl v, []) else none
 | .s, .slice none 0 0 => some (.sl [] 0, [])
 | .s, .slice (some ⟨n, o, none⟩) len _ => (match lk h n with
  | some r => bif Nat.beq o 0 then some (.sl r.cs len, [(∀ τ, renL τ r.cs = some r.cs) ∧ (len = 0 → r.cs = [])]) else some (.sl (r.cs.drop o) len, [(∀ τ, renL τ r.cs = some r.cs) ∧ (len = 0 → r.cs.drop o = [])])
  | none => none)
 | .d, .slice none 0 0 => some (.dl [] 0, [])
 | .d, .slice (some ⟨n, o, none⟩) len _ => (match lk h n with
  | some r => (match deepX r.kd with
   | some ds => bif Nat.beq o 0 then some (.dl ds len, [len = 0 → ds = []]) else some (.dl (ds.drop o) len, [len = 0 → ds.drop o = []])
   | none => (match len with
    | 0 => some (.dl [] 0, [])
    | _ => none))
  | none => none)
 | .c _, .slice none 0 0 => some (.dl [] 0, [])
 | .c size, .slice (some ⟨n, o, none⟩) len _ => (match lk h n with
  | some r => (match deepX r.kd with
   | some ds => bif Nat.beq o 0 then some (.dl (cnL (ds.take (mlN len size))) len, []) else some (.dl (cnL ((ds.drop o).take (mlN len size))) len, [])
   | none => (match r.kd with
    | .shut => (match elB h r.cs with
     | some (ds, ob) => bif Nat.beq o 0 then some (.dl ds len, (len = 0 → ds = []) :: ob) else none
     | none => none)
    | _ => none))
  | none => none)
 | .e _, .slice none 0 0 => some (.dl [] 0, [])
 | .e size, .slice (some ⟨n, o, none⟩) len _ => (match lk h n with
  | some r => (match deepX r.kd with
   | some ds => some (.dl (cnL ((ds.drop o).take (mlN len size))) len, [])
   | none => (match r.kd with
    | .shut => (match elB h r.cs with
     | some (ds, ob) => bif Nat.beq o 0 then some (.dl ds len, (len = 0 → ds = []) :: ob) else none
     | none => none)
    | _ => none))
  | none => none)
 | .k size, v => (match rdK h size v with
  | some ((ds, len), ob) => some (.dk ds len, ob)
  | none => none)
 | .t size, .pointer (some ⟨n, 0, none⟩) => (match lk h n with
  | some r => (match lastOf r.cs with
   | some (pre, v) => (match rdK h size v with
    | some ((ds, len), ob) => bif noAdL pre then some (.tb pre ds len, ob) else none
    | none => none)
   | none => none)
  | none => none)
 | _, _ => none
def rdDs (h : Hp) : List Pd → List Value → Option (List Dv × List Prop)
 | [], [] => some ([], [])
 | p :: ps, v :: vs => (match rdD h p v, rdDs h ps vs with
  | some (a, o1), some (aL, o2) => some (a :: aL, o1 ++ o2)
  | _, _ => none)
 | _, _ => none
theorem rdK_ok {h : Hp} {size : Nat} {v : Value} {ds : List DV} {len : Nat} {ob : List Prop} (hr : rdK h size v = some ((ds, len), ob)) (ho : Alls ob) {W : World} {σ : Sg} {w : World} {v' : Value} (hR : Rl W σ h w) (hv : renV σ v = some v') : ∃ c, DR w w [] (.sl len (some c) ds) v' ∧ len ≤ c ∧ c ≤ 9223372036854775807 := by
 unfold rdK at hr
 split at hr
 ·simp only [oI, pI] at hr
  obtain ⟨⟨rfl, rfl⟩, _⟩ := hr
  simp only [renV, oI] at hv
  subst hv
  exact ⟨0, DR.nil rfl rfl (.inr rfl), Nat.le_refl _, by omega⟩
 ·rename_i n len0 c0
  split at hr
  case h_2 => cases hr
  rename_i r hl
  have grown : ∀ sz z es, (r.kd = .dp sz z es ∨ r.kd = .df sz z es) → Nat.beq sz size = true → ds = es → len = len0 → c0 = capBig + n → ds.length = len * size → 0 < size → ∃ c, DR w w [] (.sl len (some c) ds) v' ∧ len ≤ c ∧ c ≤ 9223372036854775807 := fun sz z es hk hs e1 e2 h1 h2 h3 => by
   subst e1; subst e2; subst h1
   obtain rfl := Nat.eq_of_beq_eq_true hs
   obtain ⟨b, s, vs, hb, hv0, hkd⟩ := hR.row n r hl
   have hown : r.own := by unfold Rw.own; rcases hk with e | e <;> rw [e] <;> intro x <;> cases x
   have hdeep : deepX r.kd = some ds := by rcases hk with e | e <;> rw [e] <;> rfl
   obtain ⟨c, us, t, rest, g1, g2, g3, g4, g5⟩ : ∃ c us t rest, σ.c n = some c ∧ w.heap[b]? = some (.cells (us ++ rest).toArray t (0, 0)) ∧ (us ++ rest).length = c * sz ∧ c ≤ maxLen ∧ DRv W w (sh σ n) ds us := by
    rcases hk with e | e
    ·rw [e] at hkd
     obtain ⟨_, _, _, us, t, rest, c, a1, a2, a3, a4, a5, a6⟩ := hkd
     exact ⟨c, us, t, rest, a1, a2, a3, a4, a6⟩
    ·rw [e] at hkd
     obtain ⟨_, _, _, _, us, t, rest, c, a1, a2, a3, a4, a5, a6⟩ := hkd
     exact ⟨c, us, t, rest, a1, a2, a3, a4, a6 W⟩
   have hlc : len ≤ c := by
    have e1 := DRv.len g5
    rw [List.length_append, e1, h2] at g3
    exact Nat.le_of_mul_le_mul_right (by omega) h3
   have hc9 : c ≤ 9223372036854775807 := by unfold maxLen at g4; omega
   rcases renV_slice hv with ⟨p, c', hb', hcp, rfl, _⟩ | ⟨hnn, _, _, _⟩
   case inr => exact (hR.shr.1 n r hl hown hnn).elim
   rw [hb] at hb'
   cases hb'
   rw [cpR_big, g1] at hcp
   cases hcp
   exact ⟨c, DR.mk ⟨hlc, fun k e => by cases e; exact ⟨rfl, hlc, hc9⟩⟩ (deep_base hR hl hdeep hb), hlc, hc9⟩
  have shared : deepX r.kd = some ds → len = len0 → len ≤ c0 → c0 ≤ 9223372036854775807 → (len = 0 → ds = []) → ∃ c, DR w w [] (.sl len (some c) ds) v' ∧ len ≤ c ∧ c ≤ 9223372036854775807 := fun hd e1 h1 h2 h3 => by
   subst e1
   obtain ⟨b, s, vs, hb, _⟩ := hR.row n r hl
   refine ⟨c0, ?_, h1, h2⟩
   rcases renV_slice hv with ⟨p, c', hb', hcp, rfl, _⟩ | ⟨hnn, hz, hcp, rfl⟩
   ·rw [hb] at hb'
    cases hb'
    unfold cpR at hcp
    rw [if_pos (by unfold capBig; omega)] at hcp
    cases hcp
    exact DR.mk ⟨h1, fun k e => by cases e; exact ⟨rfl, h1, h2⟩⟩ (deep_base hR hl hd hb)
   ·unfold cpR at hcp
    rw [if_pos (by unfold capBig; omega)] at hcp
    cases hcp
    exact DR.nil hz (h3 hz) (.inr rfl)
  split at hr
  ·rename_i sz z es hk
   obtain ⟨hs, hr⟩ := bif_of hr
   simp only [oI, pI] at hr
   obtain ⟨⟨rfl, rfl⟩, rfl⟩ := hr
   obtain ⟨⟨h1, h2, h3⟩, _⟩ := ho
   exact grown sz z _ (.inl hk) hs rfl rfl h1 h2 h3
  ·rename_i sz z es hk
   obtain ⟨hs, hr⟩ := bif_of hr
   simp only [oI, pI] at hr
   obtain ⟨⟨rfl, rfl⟩, rfl⟩ := hr
   obtain ⟨⟨h1, h2, h3⟩, _⟩ := ho
   exact grown sz z _ (.inr hk) hs rfl rfl h1 h2 h3
  ·rename_i es hk
   simp only [oI, pI] at hr
   obtain ⟨⟨rfl, rfl⟩, rfl⟩ := hr
   obtain ⟨⟨h1, h2, h3⟩, _⟩ := ho
   exact shared (by rw [hk]; rfl) rfl h1 h2 h3
  ·rename_i es hk
   simp only [oI, pI] at hr
   obtain ⟨⟨rfl, rfl⟩, rfl⟩ := hr
   obtain ⟨⟨h1, h2, h3⟩, _⟩ := ho
   exact shared (by rw [hk]; rfl) rfl h1 h2 h3
  ·cases hr
 ·cases hr
theorem rdD_ok {h : Hp} {p : Pd} {v : Value} {a : Dv} {ob : List Prop} (hr : rdD h p v = some (a, ob)) (ho : Alls ob) {W : World} {σ : Sg} {w : World} {v' : Value} (hR : Rl W σ h w) (hv : renV σ v = some v') : ∃ c, a.at w v' c ∧ CapOk c a := by
 unfold rdD at hr
 split at hr
 ·simp only [oI, pI] at hr
  obtain ⟨rfl, rfl⟩ := hr
  have hz : ∀ (τ : Sg) (f : FuncId), renV τ (.func (.func f) ⟨[]⟩ ⟨[]⟩) = some (.func (.func f) ⟨[]⟩ ⟨[]⟩) := fun τ f => rfl
  rw [hz] at hv
  exact ⟨0, ⟨(Option.some.inj hv).symm, fun τ => hz τ _⟩, trivial⟩
 ·obtain ⟨hf, hr⟩ := bif_of hr
  simp only [oI, pI] at hr
  obtain ⟨rfl, rfl⟩ := hr
  rw [flat1_ren hf] at hv
  exact ⟨0, ⟨(Option.some.inj hv).symm, flat1_ren hf⟩, trivial⟩
 ·simp only [oI, pI] at hr
  obtain ⟨rfl, rfl⟩ := hr
  simp only [renV, oI] at hv
  subst hv
  exact ⟨0, ⟨fun τ => rfl, DR.nil rfl rfl (.inl rfl)⟩, trivial⟩
 ·rename_i n o len c
  split at hr
  case h_2 => cases hr
  rename_i r hl
  obtain ⟨h2, h3, rfl⟩ : (∀ τ, renL τ r.cs = some r.cs) ∧ (len = 0 → r.cs.drop o = []) ∧ a = .sl (r.cs.drop o) len := by
   rcases bif_or hr with ⟨e0, e⟩ | ⟨_, e⟩
   ·simp only [oI, pI] at e
    obtain ⟨rfl, rfl⟩ := e
    obtain rfl := Nat.eq_of_beq_eq_true e0
    exact ⟨ho.1.1, by simpa using ho.1.2, by simp⟩
   ·simp only [oI, pI] at e
    obtain ⟨rfl, rfl⟩ := e
    exact ⟨ho.1.1, ho.1.2, rfl⟩
  have h1 : ∀ τ, renL τ (r.cs.drop o) = some (r.cs.drop o) := fun τ => renL_drop o (h2 τ)
  refine ⟨0, ⟨h1, ?_⟩, trivial⟩
  obtain ⟨p, vs, hb, hvs, hcell⟩ := hR.cell hl
  rw [h2 σ] at hvs
  cases hvs
  rcases renV_slice hv with ⟨p', c', hb', hcp, rfl, _⟩ | ⟨hnn, hz, hcp, rfl⟩
  ·rw [hb] at hb'
   cases hb'
   refine DR.mk ⟨renV_len hR.wf hv, fun k e => by cases e⟩ ?_
   have hget : ∀ j x, (r.cs.drop o)[j]? = some x → w.cell? ⟨p.1, p.2 + o + j, none⟩ = some x := fun j x hx => by
    have := hcell (o + j) x (by rw [List.getElem?_drop] at hx; exact hx)
    rwa [show p.2 + (o + j) = p.2 + o + j by omega] at this
   by_cases hx : r.cs.drop o = []
   ·exact .inl (by rw [hx]; rfl)
   ·refine .inr (drs_of h1 (.inl ⟨?_, hget⟩))
    obtain ⟨x, l, e⟩ := List.exists_cons_of_ne_nil hx
    exact cell_lt (hget 0 x (by rw [e]; rfl))
  ·exact DR.nil hz (by rw [h3 hz]; rfl) (.inl rfl)
 ·simp only [oI, pI] at hr
  obtain ⟨rfl, rfl⟩ := hr
  simp only [renV, oI] at hv
  subst hv
  exact ⟨0, DR.nil rfl rfl (.inl rfl), trivial⟩
 ·rename_i n o len c
  split at hr
  case h_2 => cases hr
  rename_i r hl
  split at hr
  case h_2 =>
   split at hr
   case h_2 => cases hr
   simp only [oI, pI] at hr
   obtain ⟨rfl, rfl⟩ := hr
   refine ⟨0, ?_, trivial⟩
   show DR w w [] _ _
   rcases renV_slice hv with ⟨p', c', hb', hcp, rfl, _⟩ | ⟨hnn, hz, hcp, rfl⟩
   ·exact DR.mk ⟨renV_len hR.wf hv, fun k e => by cases e⟩ (.inl rfl)
   ·exact DR.nil rfl rfl (.inl rfl)
  rename_i ds hd
  obtain ⟨h3, rfl⟩ : (len = 0 → ds.drop o = []) ∧ a = .dl (ds.drop o) len := by
   rcases bif_or hr with ⟨e0, e⟩ | ⟨_, e⟩
   ·simp only [oI, pI] at e
    obtain ⟨rfl, rfl⟩ := e
    obtain rfl := Nat.eq_of_beq_eq_true e0
    exact ⟨by simpa using ho.1, by simp⟩
   ·simp only [oI, pI] at e
    obtain ⟨rfl, rfl⟩ := e
    exact ⟨ho.1, rfl⟩
  refine ⟨0, ?_, trivial⟩
  obtain ⟨b, s, vs, hb, _⟩ := hR.row n r hl
  show DR w w [] _ _
  rcases renV_slice hv with ⟨p', c', hb', hcp, rfl, _⟩ | ⟨hnn, hz, hcp, rfl⟩
  ·rw [hb] at hb'
   cases hb'
   refine DR.mk ⟨renV_len hR.wf hv, fun k e => by cases e⟩ ?_
   rcases deep_base hR hl hd hb with e | e
   ·exact .inl (by rw [e]; simp)
   ·exact e.drop o
  ·exact DR.nil hz (h3 hz) (.inl rfl)
 ·simp only [oI, pI] at hr
  obtain ⟨rfl, rfl⟩ := hr
  simp only [renV, oI] at hv
  subst hv
  exact ⟨0, DR.nil rfl rfl (.inl rfl), trivial⟩
 ·rename_i size n o len c
  split at hr
  case h_2 => cases hr
  rename_i r hl
  obtain ⟨b, s, vs0, hb, hvs0, hk0⟩ := hR.row n r hl
  split at hr
  ·rename_i ds hd
   obtain rfl : a = .dl (cnL ((ds.drop o).take (len * size))) len := by
    rcases bif_or hr with ⟨e0, e⟩ | ⟨_, e⟩
    ·simp only [oI, pI] at e
     obtain ⟨rfl, rfl⟩ := e
     obtain rfl := Nat.eq_of_beq_eq_true e0
     rw [mlN_eq, List.drop_zero]
    ·simp only [oI, pI] at e
     obtain ⟨rfl, rfl⟩ := e
     rw [mlN_eq]
   refine ⟨0, ?_, trivial⟩
   show DR w w [] _ _
   rcases renV_slice hv with ⟨p', c', hb', hcp, rfl, _⟩ | ⟨hnn, hz, hcp, rfl⟩
   ·rw [hb] at hb'
    cases hb'
    refine DR.mk ⟨renV_len hR.wf hv, fun k e => by cases e⟩ ?_
    rcases deep_base hR hl hd hb with e | e
    ·exact .inl (by rw [e]; simp [cnL])
    ·rcases e.drop o with e | e
     ·exact .inl (by rw [e]; simp [cnL])
     ·exact .inr (DRs.canon _ _ _ (e.take _))
   ·exact DR.nil hz (by rw [hz]; simp [cnL]) (.inl rfl)
  ·split at hr
   case h_2 => cases hr
   rename_i hkd
   split at hr
   case h_2 => cases hr
   rename_i ds ob' hel
   obtain ⟨e0, hr2⟩ := bif_of hr
   obtain rfl := Nat.eq_of_beq_eq_true e0
   simp only [oI, pI] at hr2
   obtain ⟨rfl, rfl⟩ := hr2
   obtain ⟨hz, ho⟩ := ho
   refine ⟨0, ?_, trivial⟩
   show DR w w [] _ _
   rcases renV_slice hv with ⟨p', c', hb', hcp, rfl, _⟩ | ⟨hnn, hz', hcp, rfl⟩
   ·rw [hb] at hb'
    cases hb'
    refine DR.mk ⟨renV_len hR.wf hv, fun k e => by cases e⟩ (.inr ?_)
    rw [hkd] at hk0
    obtain ⟨rfl, hge, t, hc⟩ := hk0
    have hlt : b < w.heap.size := by
     rcases Nat.lt_or_ge b w.heap.size with hh | hh
     ·exact hh
     ·rw [Array.getElem?_eq_none hh] at hc; cases hc
    have := DRv.cells hlt (s := 0) (es := []) (elB_ok hR hel ho hvs0) (fun j u hj => by
     rw [cell_of_row w b (0 + j) _ t _ hc]
     simpa using hj) (by simp only [DRs]; exact .inl hlt)
    rwa [List.append_nil] at this
   ·exact DR.nil hz' (hz hz') (.inl rfl)
 ·simp only [oI, pI] at hr
  obtain ⟨rfl, rfl⟩ := hr
  simp only [renV, oI] at hv
  subst hv
  exact ⟨0, DR.nil rfl rfl (.inl rfl), trivial⟩
 ·rename_i size n o len c
  split at hr
  case h_2 => cases hr
  rename_i r hl
  obtain ⟨b, s, vs0, hb, hvs0, hk0⟩ := hR.row n r hl
  split at hr
  ·rename_i ds hd
   obtain rfl : a = .dl (cnL ((ds.drop o).take (len * size))) len := by
    simp only [oI, pI] at hr
    obtain ⟨rfl, rfl⟩ := hr
    rw [mlN_eq]
   refine ⟨0, ?_, trivial⟩
   show DR w w [] _ _
   rcases renV_slice hv with ⟨p', c', hb', hcp, rfl, _⟩ | ⟨hnn, hz, hcp, rfl⟩
   ·rw [hb] at hb'
    cases hb'
    refine DR.mk ⟨renV_len hR.wf hv, fun k e => by cases e⟩ ?_
    rcases deep_base hR hl hd hb with e | e
    ·exact .inl (by rw [e]; simp [cnL])
    ·rcases e.drop o with e | e
     ·exact .inl (by rw [e]; simp [cnL])
     ·exact .inr (DRs.canon _ _ _ (e.take _))
   ·exact DR.nil hz (by rw [hz]; simp [cnL]) (.inl rfl)
  ·split at hr
   case h_2 => cases hr
   rename_i hkd
   split at hr
   case h_2 => cases hr
   rename_i ds ob' hel
   obtain ⟨e0, hr2⟩ := bif_of hr
   obtain rfl := Nat.eq_of_beq_eq_true e0
   simp only [oI, pI] at hr2
   obtain ⟨rfl, rfl⟩ := hr2
   obtain ⟨hz, ho⟩ := ho
   refine ⟨0, ?_, trivial⟩
   show DR w w [] _ _
   rcases renV_slice hv with ⟨p', c', hb', hcp, rfl, _⟩ | ⟨hnn, hz', hcp, rfl⟩
   ·rw [hb] at hb'
    cases hb'
    refine DR.mk ⟨renV_len hR.wf hv, fun k e => by cases e⟩ (.inr ?_)
    rw [hkd] at hk0
    obtain ⟨rfl, hge, t, hc⟩ := hk0
    have hlt : b < w.heap.size := by
     rcases Nat.lt_or_ge b w.heap.size with hh | hh
     ·exact hh
     ·rw [Array.getElem?_eq_none hh] at hc; cases hc
    have := DRv.cells hlt (s := 0) (es := []) (elB_ok hR hel ho hvs0) (fun j u hj => by
     rw [cell_of_row w b (0 + j) _ t _ hc]
     simpa using hj) (by simp only [DRs]; exact .inl hlt)
    rwa [List.append_nil] at this
   ·exact DR.nil hz' (hz hz') (.inl rfl)
 ·rename_i size v0
  split at hr
  case h_2 => cases hr
  rename_i ds len ob' hk
  simp only [oI, pI] at hr
  obtain ⟨rfl, rfl⟩ := hr
  obtain ⟨c, g1, g2⟩ := rdK_ok hk ho hR hv
  exact ⟨c, g1, g2⟩
 ·rename_i size n
  split at hr
  case h_2 => cases hr
  rename_i r hl
  split at hr
  case h_2 => cases hr
  rename_i pre v0 hlast
  split at hr
  case h_2 => cases hr
  rename_i ds len ob' hk
  obtain ⟨hf, hr⟩ := bif_of hr
  simp only [oI, pI] at hr
  obtain ⟨rfl, rfl⟩ := hr
  obtain ⟨p, vs, hb, hvs, hcell⟩ := hR.cell hl
  rw [lastOf_ok hlast] at hvs
  have hu : ∃ u, renV σ v0 = some u ∧ vs = pre ++ [u] := by
   cases hu : renV σ v0 with
   | none =>
    exfalso
    have hd := renL_drop pre.length hvs
    simp only [List.drop_left, renL, hu] at hd
    cases hd
   | some u =>
    have : renL σ (pre ++ [v0]) = some (pre ++ [u]) := renL_app (noAdL_ren σ hf) (renL_mk hu rfl)
    rw [hvs] at this
    exact ⟨u, rfl, Option.some.inj this⟩
  obtain ⟨u, hu, rfl⟩ := hu
  obtain ⟨c, g1, g2⟩ := rdK_ok hk ho hR hu
  obtain ⟨q, hq, rfl, hnn⟩ := renV_ptr hv
  rw [hb] at hq
  cases hq
  refine ⟨c, ⟨p.1, p.2 + 0, u, rfl, ?_, hcell, (fun τ => noAdL_ren τ hf), g1⟩, g2⟩
  obtain ⟨x, l, e⟩ := List.exists_cons_of_ne_nil (l := pre ++ [u]) (by simp)
  exact cell_lt (hcell 0 x (by rw [e]; rfl))
 ·cases hr
theorem rdDs_ok {h : Hp} : ∀ {ps : List Pd} {vs : List Value} {aL : List Dv} {ob : List Prop}, rdDs h ps vs = some (aL, ob) → Alls ob → ∀ {W σ w vs'}, Rl W σ h w → renL σ vs = some vs' → ∃ cs, DvAts w aL vs' cs
 | [], [], aL, ob, hr, _, W, σ, w, vs', _, hv => by
   simp only [rdDs, oI, pI] at hr
   obtain ⟨rfl, rfl⟩ := hr
   simp only [renL, oI] at hv
   subst hv
   exact ⟨[], trivial⟩
 | p :: ps, v :: vs, aL, ob, hr, ho, W, σ, w, vs', hR, hv => by
   simp only [rdDs] at hr
   split at hr
   ·rename_i a o1 aL' o2 h1 h2
    simp only [oI, pI] at hr
    obtain ⟨rfl, rfl⟩ := hr
    obtain ⟨g1, g2⟩ := Alls_app.1 ho
    obtain ⟨v1, vs1, e1, e2, rfl⟩ := renL_cons hv
    obtain ⟨c, x1⟩ := rdD_ok h1 g1 hR e1
    obtain ⟨cs, x2⟩ := rdDs_ok h2 g2 hR e2
    exact ⟨c :: cs, x1, x2⟩
   ·cases hr
 | [], _ :: _, _, _, hr, _, _, _, _, _, _, _ => by simp [rdDs] at hr
 | _ :: _, [], _, _, hr, _, _, _, _, _, _, _ => by simp [rdDs] at hr
def mkD (f0 : FuncId) (ps : List Pd) (G : GSpecD) : TFun := fun f args h nx tp => bif Nat.beq f f0 then some (match rdDs h ps args with
 | some (aL, o1) => (match G aL tp with
  | some (gr, tp', o2) => .ok ((gr.v nx, rowsN nx gr.rows h, nx + gr.rows.length, []), tp', o1 ++ o2)
  | none => .no)
 | none => .no) else none
theorem mkD_ok {P : Program} {f0 : FuncId} {ps : List Pd} {G : GSpecD} (H : GOkD P f0 G) : TOneZ P (mkD f0 ps G) := fun f args h nx tp out tp' ob e ho => by
 unfold mkD at e
 rcases bif_or e with ⟨hf, e1⟩ | ⟨_, e1⟩
 case inr => cases e1
 clear e
 obtain rfl := Nat.eq_of_beq_eq_true hf
 have e := Option.some.inj e1
 clear e1
 split at e
 case h_2 => cases e
 rename_i aL o1 hr
 split at e
 case h_2 => cases e
 rename_i gr tp2 o2 hG
 simp only [Res.ok.injEq, pI] at e
 obtain ⟨rfl, rfl, rfl⟩ := e
 obtain ⟨g1, g2⟩ := Alls_app.1 ho
 refine Tri.adopt (k := gr.rows.length) (fun n hn => ?_) (fun n r hn hlk => ?_) fun W σ w args' hR ha => ?_
 ·rw [lk_rowsN, if_neg (by omega)]
 ·rw [lk_rowsN] at hlk
  split at hlk
  ·rename_i hc; exact .inr hc.2
  ·exact .inl hlk
 obtain ⟨cs, hAt⟩ := rdDs_ok hr g1 hR ha
 obtain ⟨σ0, h1, h2, h3, h4⟩ := dvs_rl hAt
 obtain ⟨v0, h0', nx0', d0, g, T, I⟩ := H _ _ _ _ _ hG g2 _ hAt.caps
 refine ⟨σ0, _, _, _, v0, h0', nx0', d0, fun n => g (n - nx), f2s nx gr.rows.length g, h1, h3, h4, h2, T, fun n m o e => ?_, fun n q e => ?_, (fun n e => by simp [f2s] at e), fun n r hn hn2 hlk _ => ?_, fun n m a1 a2 b1 b2 e => ?_, I.v nx⟩
 ·simp only [f2s] at e
  split at e
  ·rename_i hc; cases e; exact ⟨hc.1, hc.2, rfl, rfl⟩
  ·cases e
 ·simp only [f2s] at e
  split at e
  ·rename_i hc; cases e; exact ⟨hc.1, hc.2, rfl⟩
  ·cases e
 ·rw [lk_rowsN, if_pos ⟨hn, hn2⟩] at hlk
  obtain ⟨i1, i2, i4⟩ := I.rows _ _ hlk
  exact ⟨r, i4, rfl, i2, i1 _⟩
 ·have := I.inj (n - nx) (m - nx) (by omega) (by omega) e
  omega
end
set_option linter.unusedSimpArgs false
set_option linter.unusedVariables false
set_option linter.unusedSectionVars false
open Go Go.RowKit
abbrev XFun := FuncId → List Value → Hp → Option (Value × List Prop)
def XOneZ (P : Program) (X : XFun) : Prop := ∀ f args h v ob, X f args h = some (v, ob) → Alls ob → ∀ W σ w args', Rl W σ h w → renL σ args = some args' → renV σ v = some v ∧ (callFunc f args'.toArray).run P w = .ok (.value v) w
theorem XOneZ.ok {V : Tv} {P : Program} {X : XFun} (H : XOneZ P X) (h : V.X = X) : XOkZ V P := fun f args hp v ob e ho => by rw [h] at e; exact H f args hp v ob e ho
def BytI (n : Nat) (cs : List Value) : Prop := cs = (intsOf cs).map (Value.int .u8) ∧ (∀ x ∈ intsOf cs, 0 ≤ x ∧ x < 256) ∧ cs.length = n
theorem intsV_of : ∀ {l : List Int}, (∀ x ∈ l, 0 ≤ x ∧ x < 256) → intsV l.length (l.map (Value.int .u8)) = some l
 | [], _ => rfl
 | x :: l, h => by
   have ih := intsV_of (l := l) fun y hy => h y (List.mem_cons_of_mem _ hy)
   have hx := h x (List.mem_cons_self ..)
   simp only [List.length_cons, List.map_cons, intsV, hx, and_self, decide_true, cond_true, ih]
theorem BytI.bytes {h : Hp} {a n c : Nat} {r : Rw} (hl : lk h a = some r) (hb : BytI n r.cs) : bytesV h (.slice (some ⟨a, 0, none⟩) n c) = some (intsOf r.cs) := by
 obtain ⟨h1, h2, h3⟩ := hb
 have e : (intsOf r.cs).length = n := by
  have := congrArg List.length h1
  rw [List.length_map] at this
  omega
 have := intsV_of h2
 rw [e, ← h1] at this
 simp only [bytesV, hl, List.drop_zero, this]
def cmpY : XFun := fun f args h => bif Nat.beq f 45 then (match args with
 | [.slice (some ⟨a, 0, none⟩) n c, .slice (some ⟨b, 0, none⟩) m d] => match lk h a, lk h b with
  | some r, some s => some (.int .i64 (cmpI (intsOf r.cs) (intsOf s.cs)), [BytI n r.cs, BytI m s.cs])
  | _, _ => none
 | _ => none) else none
theorem cmpY_ok : XOneZ Try.prog cmpY := by
 intro f args h v ob e ho
 unfold cmpY at e
 obtain ⟨hf, e1⟩ := bif_of e
 clear e
 split at e1
 case h_2 => cases e1
 rename_i a n c b m d
 split at e1
 case h_2 => cases e1
 rename_i r s hl hm
 simp only [oI, pI] at e1
 obtain ⟨rfl, rfl⟩ := e1
 obtain ⟨g1, g2, _⟩ := ho
 exact cmp_one (f0 := 45) (fun args w => run_callFunc_extern Try.func45 (by kernel_rfl) (by kernel_rfl) (by kernel_rfl) (e := Extern.BytealgCompare.compare) (by kernel_rfl) args w) f _ h _ (by
  simp only [cmpX, hf, cond_true, g1.bytes hl, g2.bytes hm])

def zPr : List Value := [.slice none 0 0, .slice none 0 0, .bool false]
def iV (i : Nat) : Value := .int .i64 (i : Int)
abbrev Pr : Type := List Int × List Int × Bool
def byD (l : List Int) : List DV := l.map fun x => .fl (.int .u8 x)
def byV (l : List Int) : List Value := l.map (Value.int .u8)
def prD (c1 c2 : Option Nat) (p : Pr) : List DV := [.sl p.1.length c1 (byD p.1), .sl p.2.1.length c2 (byD p.2.1), .fl (.bool p.2.2)]
def Prs : List DV → List Pr → Prop
 | ds, [] => ds = []
 | ds, p :: ps => ∃ c1 c2 r, ds = prD c1 c2 p ++ r ∧ Prs r ps
def PrOk (p : Pr) : Prop := (∀ x ∈ p.1, 0 ≤ x ∧ x < 256) ∧ ∀ x ∈ p.2.1, 0 ≤ x ∧ x < 256
theorem Prs.len : ∀ {ps : List Pr} {ds : List DV}, Prs ds ps → ds.length = ps.length * 3
 | [], ds, h => by rw [show ds = [] from h]; rfl
 | p :: ps, ds, h => by
   obtain ⟨c1, c2, r, rfl, hr⟩ := h
   rw [List.length_append, hr.len, List.length_cons]
   simp only [prD, List.length_cons, List.length_nil]
   omega
theorem Prs.at : ∀ {ps : List Pr} {ds : List DV} {i : Nat} {p : Pr}, Prs ds ps → ps[i]? = some p → ∃ c1 c2, ds[i * 3]? = some (.sl p.1.length c1 (byD p.1)) ∧ ds[i * 3 + 1]? = some (.sl p.2.1.length c2 (byD p.2.1)) ∧ ds[i * 3 + 2]? = some (.fl (.bool p.2.2))
 | [], ds, i, p, _, h => by simp at h
 | q :: ps, ds, 0, p, h, hp => by
   simp only [List.getElem?_cons_zero, oI] at hp
   subst hp
   obtain ⟨c1, c2, r, rfl, hr⟩ := h
   exact ⟨c1, c2, rfl, rfl, rfl⟩
 | q :: ps, ds, i + 1, p, h, hp => by
   obtain ⟨c1, c2, r, rfl, hr⟩ := h
   obtain ⟨d1, d2, g1, g2, g3⟩ := hr.at (by simpa using hp)
   have e : (prD c1 c2 q).length = 3 := rfl
   refine ⟨d1, d2, ?_, ?_, ?_⟩
   ·rw [List.getElem?_append_right (by rw [e]; omega), e, show (i + 1) * 3 - 3 = i * 3 by omega]; exact g1
   ·rw [List.getElem?_append_right (by rw [e]; omega), e, show (i + 1) * 3 + 1 - 3 = i * 3 + 1 by omega]; exact g2
   ·rw [List.getElem?_append_right (by rw [e]; omega), e, show (i + 1) * 3 + 2 - 3 = i * 3 + 2 by omega]; exact g3
theorem byD_val (l : List Int) : (byD l).map DV.val = byV l := by simp [byD, byV, DV.val]
theorem byV_fl (l : List Int) : (byV l).map DV.fl = byD l := by simp [byD, byV]
theorem byV_len (l : List Int) : (byV l).length = l.length := by simp [byV]
theorem byV_ints (l : List Int) : intsOf (byV l) = l := by
 unfold byV intsOf
 rw [List.map_map]
 exact (List.map_congr_left (g := id) fun x _ => rfl).trans (List.map_id l)
theorem byV_ren (l : List Int) (τ : Sg) : renL τ (byV l) = some (byV l) := Fl.ints .u8 l τ
theorem byV_bytI {l : List Int} (h : ∀ x ∈ l, 0 ≤ x ∧ x < 256) : BytI l.length (byV l) := ⟨by rw [byV_ints]; rfl, by rw [byV_ints]; exact h, byV_len l⟩
section
variable {ds : List DV} {o : Nat} {l : List Int} {c : Option Nat}
theorem sl_len (h : ds[o]? = some (.sl l.length c (byD l))) : dLen ds o = l.length := by unfold dLen; rw [h]
theorem sl_vals (h : ds[o]? = some (.sl l.length c (byD l))) : dVals ds o = byV l := by unfold dVals dSub; rw [h]; exact byD_val l
theorem sl_ok (h : ds[o]? = some (.sl l.length c (byD l))) : DSl ds o (dLen ds o) none ((dVals ds o).map DV.fl) := ⟨c, by rw [sl_len h, sl_vals h, byV_fl]; exact h, .inl rfl⟩
theorem bo_ok {b : Bool} (h : ds[o]? = some (.fl (.bool b))) : dBool ds o = b := by unfold dBool; rw [h]
end
theorem ob29 (ds : List DV) (o nx : Nat) : ShOb Try.prog 32 false true ds o nx = Alls [DSl ds (o + 0) (dLen ds (o + 0)) none ((dVals ds (o + 0)).map DV.fl), DSl ds (o + 1) (dLen ds (o + 1)) none ((dVals ds (o + 1)).map DV.fl), ds[o + 2]? = some (.fl (.bool (dBool ds (o + 2))))] := by kernel_rfl
theorem ob27 (ds : List DV) (o nx : Nat) : ShOb Try.prog 23 false true ds o nx = Alls [DSl ds (o + 0) (dLen ds (o + 0)) none ((dVals ds (o + 0)).map DV.fl)] := by kernel_rfl
theorem ob4 (ds : List DV) (o nx : Nat) : ShOb Try.prog 4 false true ds o nx = Alls [ds[o + 0]? = some (.fl (.bool (dBool ds (o + 0))))] := by kernel_rfl
structure PrAt (ds : List DV) (i : Nat) (p : Pr) : Prop where
 l0 : dLen ds (i * 3) = p.1.length
 l1 : dLen ds (i * 3 + 1) = p.2.1.length
 v0 : dVals ds (i * 3) = byV p.1
 v1 : dVals ds (i * 3 + 1) = byV p.2.1
 g : dBool ds (i * 3 + 2) = p.2.2
 o29 : ∀ nx, ShOb Try.prog 32 false true ds (i * 3) nx
 o27 : ∀ nx, ShOb Try.prog 23 false true ds (i * 3) nx
 o27' : ∀ nx, ShOb Try.prog 23 false true ds (i * 3 + 1) nx
 o4 : ∀ nx, ShOb Try.prog 4 false true ds (i * 3 + 2) nx
theorem Prs.facts {ds : List DV} {ps : List Pr} {i : Nat} {p : Pr} (h : Prs ds ps) (hp : ps[i]? = some p) : PrAt ds i p := by
 obtain ⟨c1, c2, g1, g2, g3⟩ := h.at hp
 have e3 := bo_ok g3
 refine ⟨sl_len g1, sl_len g2, sl_vals g1, sl_vals g2, e3, fun nx => ?_, fun nx => ?_, fun nx => ?_, fun nx => ?_⟩
 ·rw [ob29]
  exact ⟨sl_ok g1, sl_ok g2, by rw [e3]; exact g3, trivial⟩
 ·rw [ob27]; exact ⟨sl_ok g1, trivial⟩
 ·rw [ob27]; exact ⟨sl_ok g2, trivial⟩
 ·rw [ob4]; exact ⟨by simp only [Nat.add_zero]; rw [e3]; exact g3, trivial⟩
theorem bys_of : ∀ {rows : List (List DV)}, (∀ r, r ∈ rows → ShsOk [.i .u8] r) → ∃ l : List Int, rows.flatten = byD l ∧ l.length = rows.length ∧ ∀ x ∈ l, 0 ≤ x ∧ x < 256
 | [], _ => ⟨[], rfl, rfl, fun x hx => by cases hx⟩
 | r :: rows, h => by
   obtain ⟨l, h1, h2, h3⟩ := bys_of (rows := rows) fun x hx => h x (List.mem_cons_of_mem _ hx)
   have hr := h r (List.mem_cons_self ..)
   simp only [ShsOk, ShOk] at hr
   obtain ⟨d, ds', rfl, ⟨z, rfl, hw⟩, rfl⟩ := hr
   refine ⟨z :: l, by rw [List.flatten_cons, h1]; rfl, by simp [h2], fun x hx => ?_⟩
   rcases List.mem_cons.1 hx with rfl | hx
   ·simp [Lit.wf, IntKind.min, IntKind.max, IntKind.signed, IntKind.bits] at hw
    omega
   ·exact h3 x hx
theorem sl_of {d : DV} (h : ShOk (.sl [.i .u8]) d) : ∃ (c : Option Nat) (l : List Int), d = .sl l.length c (byD l) ∧ ∀ x ∈ l, 0 ≤ x ∧ x < 256 := by
 simp only [ShOk] at h
 obtain ⟨len, cap, rows, rfl, _, _, hl, hr⟩ := h
 obtain ⟨l, h1, h2, h3⟩ := bys_of hr
 exact ⟨some cap, l, by rw [h1, h2, hl], h3⟩
theorem prs_of : ∀ {rows : List (List DV)}, (∀ r, r ∈ rows → ShsOk [.sl [.i .u8], .sl [.i .u8], .b] r) → ∃ ps : List Pr, Prs rows.flatten ps ∧ ps.length = rows.length ∧ ∀ p ∈ ps, PrOk p
 | [], _ => ⟨[], rfl, rfl, fun x hx => by cases hx⟩
 | r :: rows, h => by
   obtain ⟨ps, h1, h2, h3⟩ := prs_of (rows := rows) fun x hx => h x (List.mem_cons_of_mem _ hx)
   have hr := h r (List.mem_cons_self ..)
   simp only [ShsOk] at hr
   obtain ⟨d1, _, rfl, g1, d2, _, rfl, g2, d3, _, rfl, g3, rfl⟩ := hr
   obtain ⟨c1, k, rfl, hk⟩ := sl_of g1
   obtain ⟨c2, v, rfl, hv⟩ := sl_of g2
   simp only [ShOk] at g3
   obtain ⟨b, rfl⟩ := g3
   refine ⟨(k, v, b) :: ps, ⟨c1, c2, rows.flatten, rfl, h1⟩, by simp [h2], fun p hp => ?_⟩
   rcases List.mem_cons.1 hp with rfl | hp
   ·exact ⟨hk, hv⟩
   ·exact h3 p hp
def cpD (ps : List Pr) : List DV := ps.flatMap (prD none none)
theorem cpD_prs : ∀ ps : List Pr, Prs (cpD ps) ps
 | [] => rfl
 | p :: ps => ⟨none, none, cpD ps, rfl, cpD_prs ps⟩
theorem cpD_snoc (ps : List Pr) (p : Pr) : cpD (ps ++ [p]) = cpD ps ++ prD none none p := by simp [cpD]
def dvInts : DV → List Int
 | .sl _ _ ds => ds.map fun d => match d with | .fl (.int _ x) => x | _ => 0
 | _ => []
def prsOf : List DV → List Pr
 | d1 :: d2 :: .fl (.bool b) :: r => (dvInts d1, dvInts d2, b) :: prsOf r
 | _ => []
theorem dvInts_sl (n : Nat) (c : Option Nat) (l : List Int) : dvInts (.sl n c (byD l)) = l := by
 simp only [dvInts, byD, List.map_map]
 exact (List.map_congr_left (g := id) fun x _ => rfl).trans (List.map_id l)
theorem prsOf_of : ∀ {ps : List Pr} {ds : List DV}, Prs ds ps → prsOf ds = ps
 | [], ds, h => by rw [show ds = [] from h]; rfl
 | p :: ps, ds, h => by
   obtain ⟨c1, c2, r, rfl, hr⟩ := h
   have := prsOf_of hr
   show (dvInts _, dvInts _, p.2.2) :: prsOf r = _
   rw [dvInts_sl, dvInts_sl, this]
def big (p : Pr) : Bool := decide (200 < p.1.length) || decide (200 < p.2.1.length)
theorem sw_row {lo N : Nat} {ρ : Nat → Nat} {h0 h1 : Hp} {n m : Nat} {ds : List DV} (hn : fnN lo N ρ n = some m) (hl : lk h1 m = some ⟨.sw ds, []⟩) : RbRow lo N ρ h0 h1 n ⟨.sw ds, []⟩ := rb_rec hn hl trivial
theorem cpD_app (a b : List Pr) : cpD (a ++ b) = cpD a ++ cpD b := by simp [cpD]
theorem cpD_len (ts : List Pr) : (cpD ts).length = ts.length * 3 := (cpD_prs ts).len
theorem cpD_take (ts : List Pr) (i : Nat) : (cpD ts).take (i * 3) = cpD (ts.take i) := by
 have e := cpD_app (ts.take i) (ts.drop i)
 rw [List.take_append_drop] at e
 rw [e]
 by_cases h : i ≤ ts.length
 ·rw [List.take_left' (by rw [cpD_len, List.length_take]; omega)]
 ·rw [List.drop_of_length_le (by omega)]
  simp only [cpD, List.flatMap_nil, List.append_nil]
  have := cpD_len (ts.take i)
  rw [List.length_take] at this
  exact List.take_of_length_le (by show (cpD (ts.take i)).length ≤ _; rw [this]; omega)
theorem cpD_drop (ts : List Pr) (i : Nat) : (cpD ts).drop (i * 3) = cpD (ts.drop i) := by
 have e := cpD_app (ts.take i) (ts.drop i)
 rw [List.take_append_drop] at e
 rw [e]
 by_cases h : i ≤ ts.length
 ·rw [List.drop_left' (by rw [cpD_len, List.length_take]; omega)]
 ·have h0 : ts.drop i = [] := List.drop_of_length_le (by omega)
  rw [h0]
  simp only [cpD, List.flatMap_nil, List.append_nil]
  exact List.drop_of_length_le (by show (cpD (ts.take i)).length ≤ _; rw [cpD_len, List.length_take]; omega)
theorem cpD_cons (p : Pr) (ts : List Pr) : cpD (p :: ts) = prD none none p ++ cpD ts := rfl
theorem prsOf_cp (ts : List Pr) : prsOf (cpD ts) = ts := prsOf_of (cpD_prs ts)
theorem GrD.flat {v : Value} {h0' : Hp} (hv : ∀ σ, renV σ v = some v) : GrD ⟨fun _ => v, []⟩ v h0' (fun n => n) := ⟨fun nx => hv _, fun j r h => by simp at h, fun i j h => by simp at h⟩
theorem sh1_row {lo N : Nat} {ρ : Nat → Nat} {h0 h1 : Hp} {n m : Nat} {v v1 : Value} (hn : fnN lo N ρ n = some m) (hl : lk h1 m = some ⟨.shut, [v1]⟩) (hv : renV (sgf lo N ρ) v = some v1) : RbRow lo N ρ h0 h1 n ⟨.shut, [v]⟩ := ⟨m, _, hn, hl, rfl, rfl, .inl (renL_mk hv rfl)⟩
theorem u8_by {l : List Int} (h : ∀ x ∈ l, 0 ≤ x ∧ x < 256) : U8s (byV l) := fun x hx => by
 obtain ⟨n, hn, rfl⟩ := List.mem_map.1 hx
 exact ⟨n, rfl, h n hn⟩
def seqA : Code → Code | .seq x _ => x | _ => .skip
def seqB : Code → Code | .seq _ y => y | _ => .skip
def blkI : Code → Code | .block _ x => x | _ => .skip
def ncB (P : Program) : Code := bodyIn P 4 9
def ncT (P : Program) : Code := seqA (ncB P)
def ncO (P : Program) : Code := blkI (seqA (seqB (ncB P)))
def ncN (P : Program) : Code := seqB (seqB (ncB P))
theorem nc_shape : ncB Try.prog = .seq (ncT Try.prog) (.seq (.block 1 (ncO Try.prog)) (ncN Try.prog)) := by kernel_rfl
def ncOps : Code → List Oper | .region _ ops _ => ops.toList | _ => []
theorem nc_over : ∃ id, ncO Try.prog = .region id (ncOps (ncO Try.prog)).toArray false := ⟨11, by kernel_rfl⟩
def ncV : Tv := ⟨noTz, noXz, noL, fun _ => [45], lsSy 4 [(45, 0), (47, 0)], fun _ => [], fun _ => 0⟩
def ncS (u v : Value) (nm c n i : Nat) : List (Nat × Value) := [(0, u), (5, v), (6, .slice (some ⟨nm, 0, none⟩) n c), (10, iV i)]
theorem nc_go (inr : Bool) (u v : Value) (nm c n i : Nat) : prjP [0, 5, 6, 10] 300 (codeZ ncV Try.prog (runZ ncV Try.prog 9) 4 inr 100000 (ncT Try.prog) (SL 59 (ncS u v nm c n i)) [] 300 [true]) =
 Res.ok ((Xt.normal, 59, [(0, u), (5, v), (6, Value.slice (some (Addr.mk nm 0 none)) n c), (10, Value.int IntKind.i64 (↑i : Int))], [], 300, [], []), [], [decide ((↑i : Int) < (↑n : Int)) = true]) := by kernel_rfl
theorem nc_x (inr : Bool) (u v : Value) (nm c n i : Nat) : prjP [0, 5] 300 (codeZ ncV Try.prog (runZ ncV Try.prog 9) 4 inr 100000 (ncT Try.prog) (SL 59 (ncS u v nm c n i)) [] 300 [false]) =
 Res.ok ((Xt.exit 0, 59, [(0, u), (5, v)], [], 300, [], []), [], [decide ((↑i : Int) < (↑n : Int)) = false]) := by kernel_rfl
theorem nc_nx (inr : Bool) (u v : Value) (nm c n i : Nat) : prjP [0, 5, 6, 10] 300 (codeZ ncV Try.prog (runZ ncV Try.prog 9) 4 inr 100000 (ncN Try.prog) (SL 59 (ncS u v nm c n i)) [] 300 []) =
 Res.ok ((Xt.normal, 59, [(0, u), (5, v), (6, Value.slice (some (Addr.mk nm 0 none)) n c), (10, Value.int IntKind.i64 (↑(i + 1) : Int))], [], 300, [], []), [], [rg IntKind.i64 (↑(i + 1) : Int)]) := by kernel_rfl
end Go.Proofs.Ytmoflcoijmmpjaa
