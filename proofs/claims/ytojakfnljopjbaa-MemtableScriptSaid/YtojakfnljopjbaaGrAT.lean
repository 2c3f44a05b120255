/-
  Contracts of functions that read lists of structs with slices, in any heap.
-/
import Derived.Test.YtojakfnljopjbaaGrAS
namespace Go.Proofs.Ytojakfnljopjbaa
section
set_option linter.unusedSimpArgs false
set_option linter.unusedVariables false
set_option linter.unusedSectionVars false
open Go Go.RowKit

section
variable {W w : World} {F : List Nat}
mutual
theorem DR.base (hx : Ext W w) (hF : ∀ k, k ∈ F → k < w.heap.size) : ∀ (d : DV) (u : Value), DR W w F d u → DR w w [] d u
 | .fl v, u, hd => by simp only [DR] at hd ⊢; exact hd
 | .sl len cap ds, u, hd => by
   simp only [DR] at hd ⊢
   rcases hd with hd | ⟨b, s, c, h2, h5, h6⟩
   ·exact .inl hd
   ·exact .inr ⟨b, s, c, h2, h5, h6.imp (fun e => e) fun e => DRs.base hx hF ds b s e⟩
theorem DRs.base (hx : Ext W w) (hF : ∀ k, k ∈ F → k < w.heap.size) : ∀ (ds : List DV) (b s : Nat), DRs W w F b s ds → DRs w w [] b s ds
 | [], b, s, hd => by
   simp only [DRs] at hd ⊢
   exact .inl (hd.elim (fun e => Nat.lt_of_lt_of_le e hx.size) (hF b))
 | d :: ds, b, s, hd => by
   simp only [DRs] at hd ⊢
   obtain ⟨⟨v, h1, h2⟩, h3⟩ := hd
   refine ⟨⟨v, .inl ?_, DR.base hx hF d v h2⟩, DRs.base hx hF ds b (s + 1) h3⟩
   rcases h1 with ⟨h1, h4⟩ | ⟨h1, h4⟩
   ·exact ⟨Nat.lt_of_lt_of_le h1 hx.size, (hx.cell b s h1).trans h4⟩
   ·exact ⟨hF b h1, h4⟩
end
theorem DRv.base (hx : Ext W w) (hF : ∀ k, k ∈ F → k < w.heap.size) : ∀ {ds : List DV} {us : List Value}, DRv W w F ds us → DRv w w [] ds us
 | [], us, hd => by simp only [DRv] at hd ⊢; exact hd
 | d :: ds, us, hd => by
   simp only [DRv] at hd ⊢
   obtain ⟨u, us', h1, h2, h3⟩ := hd
   exact ⟨u, us', h1, DR.base hx hF d u h2, DRv.base hx hF h3⟩
end
section
variable {W : World} {σ : Sg} {h : Hp} {w : World}
def I6 : Kd → Option (List DV)
 | .dx _ _ _ ds => some ds
 | .dw _ _ ds => some ds
 | k => Hq k
theorem H6 (hR : Rl W σ h w) {n : Nat} {r : Rw} {ds : List DV} {b s : Nat} (hl : lk h n = some r) (hd : I6 r.kd = some ds) (hb : σ.b n = some (b, s)) : ds = [] ∨ DRs w w [] b s ds := by
 have hF : ∀ k, k ∈ sh σ n → k < w.heap.size := fun k hk => (hR.shr.2.1 n r k hl hk).1
 obtain ⟨b', s', vs, h1, h2, h3⟩ := hR.row n r hl
 rw [hb] at h1
 cases h1
 have fin : ∀ (F : List Nat) (us rest : List Value) (t : TypeId), (∀ k, k ∈ F → k < w.heap.size) → s = 0 → w.heap[b]? = some (.cells (us ++ rest).toArray t (0, 0)) → DRv W w F ds us → DRs w w [] b s ds := fun F us rest t hF hs hc hv => by
  subst hs
  have hb : b < w.heap.size := by
   rcases Nat.lt_or_ge b w.heap.size with hh | hh
   ·exact hh
   ·rw [Array.getElem?_eq_none hh] at hc; cases hc
  have := DRv.cells hb (s := 0) (es := []) (hv.base hR.ext hF) (fun j u hj => by
   rw [cell_of_row w b (0 + j) _ t _ hc]
   have hj2 : (us ++ rest)[j]? = some u := by rw [List.getElem?_append_left (List.getElem?_eq_some_iff.1 hj).1]; exact hj
   simpa using hj2) (by simp only [DRs]; exact .inl hb)
  rwa [List.append_nil] at this
 obtain ⟨kd, cs⟩ := r
 cases kd with
 | sd es =>
  simp only [I6, Hq, oI] at hd
  subst hd
  exact h3.2.imp (fun e => e) (DRs.base hR.ext hF _ _ _)
 | sw es =>
  simp only [I6, Hq, oI] at hd
  subst hd
  exact h3.2.2.imp (fun e => e) (DRs.base hR.ext (fun k hk => by cases hk) _ _ _)
 | dp sz z es =>
  simp only [I6, Hq, oI] at hd
  subst hd
  obtain ⟨e0, _, _, us, t, rest, c, _, hc, _, _, _, hv⟩ := h3
  exact .inr (fin _ us rest t hF e0 hc hv)
 | df sz z es =>
  simp only [I6, Hq, oI] at hd
  subst hd
  obtain ⟨_, e0, _, _, us, t, rest, c, _, hc, _, _, _, hv⟩ := h3
  exact .inr (fin _ us rest t hF e0 hc (hv W))
 | dw sz z es =>
  simp only [I6, oI] at hd
  subst hd
  obtain ⟨_, e0, _, _, us, t, rest, c, _, hc, _, _, _, hv⟩ := h3
  exact .inr (fin [] us rest t (fun k hk => by cases hk) e0 hc hv)
 | dx d2 sz z es =>
  simp only [I6, oI] at hd
  subst hd
  obtain ⟨e0, _, _, _, us, t, rest, c, E, _, hc, _, _, _, hE, _, hv⟩ := h3
  exact .inr (fin E us rest t (fun k hk => (hR.shr.2.2 n _ k hl (by rw [hE]; exact List.mem_cons_of_mem _ hk)).1) e0 hc (hv W))
 | _ => cases hd
theorem DRs.drop : ∀ {W w : World} {F : List Nat} (o : Nat) {ds : List DV} {b s : Nat}, DRs W w F b s ds → ds.drop o = [] ∨ DRs W w F b (s + o) (ds.drop o)
 | W, w, F, 0, ds, b, s, hd => .inr hd
 | W, w, F, o + 1, [], b, s, hd => .inl (by simp)
 | W, w, F, o + 1, d :: ds, b, s, hd => by
   simp only [DRs] at hd
   have := DRs.drop o hd.2
   rw [show s + (o + 1) = s + 1 + o by omega]
   exact this
end

theorem DR.nil {W w : World} {F : List Nat} {cap : Option Nat} {a : Option Addr} {len : Nat} {ds : List DV} (h0 : len = 0) (hd : ds = []) (h : cap = none ∨ cap = some 0) : DR W w F (.sl len cap ds) (.slice a 0 0) := by
 subst h0; subst hd
 rw [DR]
 exact .inl ⟨rfl, rfl, h, a, rfl⟩
theorem DR.mk {W w : World} {F : List Nat} {cap : Option Nat} {len b s c : Nat} {ds : List DV} (h : len ≤ c ∧ ∀ k, cap = some k → c = k ∧ len ≤ k ∧ k ≤ 9223372036854775807) (hd : ds = [] ∨ DRs W w F b s ds) : DR W w F (.sl len cap ds) (.slice (some ⟨b, s, none⟩) len c) := by
 rw [DR]
 exact .inr ⟨b, s, c, rfl, h, hd⟩
structure Pl where
 b : Nat × Nat
 c : Nat
 f : Option (List Nat)
 e : Option Addr
def sgL (ps : List Pl) : Sg := ⟨fun n => (ps[n]?).map (·.b), fun n => (ps[n]?).map (·.c), fun n => match ps[n]? with | some p => p.f.map fun l => (l, []) | none => none, fun n => match ps[n]? with | some p => p.e | none => none, true⟩
structure On (σ : Sg) (k : Nat) (p : Pl) : Prop where
 b : σ.b k = some p.b
 c : σ.c k = some p.c
 f : σ.f k = p.f.map fun l => (l, [])
 e : σ.e k = p.e
theorem sgL_on {ps : List Pl} {k : Nat} {p : Pl} (h : ps[k]? = some p) : On (sgL ps) k p := ⟨by simp [sgL, h], by simp [sgL, h], by simp [sgL, h], by simp [sgL, h]⟩
theorem sgL_out {ps : List Pl} {k : Nat} (h : ps.length ≤ k) : (sgL ps).b k = none ∧ (sgL ps).c k = none := by simp [sgL, List.getElem?_eq_none h]
theorem On.sh {σ : Sg} {k : Nat} {p : Pl} (h : On σ k p) (hp : p.f.getD [] = []) : sh σ k = [] := by
 unfold Go.Proofs.Ytojakfnljopjbaa.sh
 rw [h.f]
 cases hh : p.f with
 | none => rfl
 | some l => rw [hh] at hp; exact hp
theorem dr_pl {W : World} {len : Nat} {cap : Option Nat} {ds : List DV} {u : Value} (h : DR W W [] (.sl len cap ds) u) : ∃ p : Pl, p.f.getD [] = [] ∧ (ds = [] ∨ DRs W W [] p.b.1 p.b.2 ds) ∧ ∀ σ k, On σ k p → renV σ (.slice (some ⟨k, 0, none⟩) len (B0 + k)) = some u ∧ ∀ c, cap = some c → renV σ (.slice (some ⟨k, 0, none⟩) len c) = some u := by
 simp only [DR] at h
 rcases h with ⟨rfl, rfl, h1, a, rfl⟩ | ⟨b, s, c', rfl, h1, h2⟩
 ·refine ⟨⟨(0, 0), 0, none, a⟩, rfl, .inl rfl, fun σ k O => ?_⟩
  have e : cpR σ (B0 + k) = some 0 := by rw [Bq]; exact O.c
  refine ⟨(Dl O.b O.f rfl e).trans (by rw [O.e]), fun c hc => ?_⟩
  rcases h1 with h1 | h1
  ·rw [h1] at hc; cases hc
  ·rw [h1] at hc; cases hc
   exact (Dl O.b O.f rfl (by unfold cpR; rw [if_pos (by unfold B0; omega)])).trans (by rw [O.e])
 ·refine ⟨⟨(b, s), c', some [], none⟩, rfl, h2, fun σ k O => ?_⟩
  have e : cpR σ (B0 + k) = some c' := by rw [Bq]; exact O.c
  have hn : σ.f k ≠ none := by rw [O.f]; intro e; cases e
  refine ⟨by simpa using B5 (o := 0) (l := len) O.b e hn (.inr h1.1), fun c hc => ?_⟩
  obtain ⟨rfl, g2, g3⟩ := h1.2 c hc
  simpa using B5 (o := 0) (l := len) (c := c') (c' := c') O.b (by unfold cpR; rw [if_pos (by unfold B0; omega)]) hn (.inr h1.1)

inductive Dv where
 | fl (v : Value)
 | sl (xs : List Value) (len : Nat)
 | dl (ds : List DV) (len : Nat)
 | dk (ds : List DV) (len : Nat)
 | tb (pre : List Value) (ds : List DV) (len : Nat)
def dvV1 (c k : Nat) : Dv → Value
 | .fl v => v
 | .sl _ len => .slice (some ⟨k, 0, none⟩) len (B0 + k)
 | .dl _ len => .slice (some ⟨k, 0, none⟩) len (B0 + k)
 | .dk _ len => .slice (some ⟨k, 0, none⟩) len c
 | .tb _ _ _ => .pointer (some ⟨k, 0, none⟩)
def dvH1 (c k : Nat) (h : Hp) : Dv → Hp
 | .fl _ => h
 | .sl xs _ => (k, ⟨.ow, xs⟩) :: h
 | .dl ds _ => (k, ⟨.sw ds, []⟩) :: h
 | .dk ds _ => (k, ⟨.sw ds, []⟩) :: h
 | .tb pre ds len => (k, ⟨.ow, pre ++ [.slice (some ⟨k + 1, 0, none⟩) len c]⟩) :: (k + 1, ⟨.sw ds, []⟩) :: h
def dvV : List Dv → List Nat → Nat → List Value
 | [], _, _ => []
 | a :: l, cs, k => dvV1 (cs.headD 0) k a :: dvV l cs.tail (k + 2)
def dvH : List Dv → List Nat → Nat → Hp
 | [], _, _ => []
 | a :: l, cs, k => dvH1 (cs.headD 0) k (dvH l cs.tail (k + 2)) a
def Dv.at (W : World) (u : Value) (c : Nat) : Dv → Prop
 | .fl v => u = v ∧ ∀ σ, renV σ v = some v
 | .sl xs len => (∀ τ, renL τ xs = some xs) ∧ DR W W [] (.sl len none (xs.map DV.fl)) u
 | .dl ds len => DR W W [] (.sl len none ds) u
 | .dk ds len => DR W W [] (.sl len (some c) ds) u
 | .tb pre ds len => ∃ b s u', u = .pointer (some ⟨b, s, none⟩) ∧ b < W.heap.size ∧ (∀ j v, (pre ++ [u'])[j]? = some v → W.cell? ⟨b, s + j, none⟩ = some v) ∧ (∀ τ, renL τ pre = some pre) ∧ DR W W [] (.sl len (some c) ds) u'
def CapOk (c : Nat) : Dv → Prop
 | .dk _ len => len ≤ c ∧ c ≤ 9223372036854775807
 | .tb _ _ len => len ≤ c ∧ c ≤ 9223372036854775807
 | _ => True
def DvAts (W : World) : List Dv → List Value → List Nat → Prop
 | [], [], [] => True
 | a :: aL, u :: us, c :: cs => (a.at W u c ∧ CapOk c a) ∧ DvAts W aL us cs
 | _, _, _ => False
def CapsD : List Dv → List Nat → Prop
 | [], [] => True
 | a :: aL, c :: cs => CapOk c a ∧ CapsD aL cs
 | _, _ => False
theorem DvAts.caps {W : World} : ∀ {aL : List Dv} {us : List Value} {cs : List Nat}, DvAts W aL us cs → CapsD aL cs
 | [], [], [], _ => trivial
 | a :: aL, u :: us, c :: cs, h => ⟨h.1.2, h.2.caps⟩
 | [], _ :: _, _, h => by simp [DvAts] at h
 | [], [], _ :: _, h => by simp [DvAts] at h
 | _ :: _, [], _, h => by simp [DvAts] at h
 | _ :: _, _ :: _, [], h => by simp [DvAts] at h
theorem ow_ok {W : World} {σ : Sg} {k : Nat} {p : Pl} {xs : List Value} (O : On σ k p) (hp : p.f.getD [] = []) (hf : ∀ τ, renL τ xs = some xs) (h : xs.map DV.fl = [] ∨ DRs W W [] p.b.1 p.b.2 (xs.map DV.fl)) : RowOk W σ W k ⟨.ow, xs⟩ := by
 refine ⟨p.b.1, p.b.2, xs, O.b, hf σ, O.sh hp, ?_⟩
 rcases h with h | h
 ·exact .inl (by simpa using h)
 ·obtain ⟨h1, h2, _⟩ := h.flt
  exact .inr ⟨h1, h2⟩
theorem Dv.pl {W : World} {a : Dv} {u : Value} {c : Nat} (h : a.at W u c) (hc : CapOk c a) : ∃ p q : Pl, p.f.getD [] = [] ∧ q.f.getD [] = [] ∧ ∀ σ k, On σ k p → On σ (k + 1) q → renV σ (dvV1 c k a) = some u ∧ ∀ hp n r, lk (dvH1 c k hp a) n = some r → lk hp n = some r ∨ (k ≤ n ∧ n < k + 2 ∧ RowOk W σ W n r ∧ ShKd r.kd) := by
 let z : Pl := ⟨(0, 0), 0, some [], none⟩
 cases a with
 | fl v =>
  obtain ⟨rfl, hv⟩ := h
  exact ⟨z, z, rfl, rfl, fun σ k _ _ => ⟨hv σ, fun hp n r e => .inl e⟩⟩
 | sl xs len =>
  obtain ⟨hf, h⟩ := h
  obtain ⟨p, h1, h2, h3⟩ := dr_pl h
  refine ⟨p, z, h1, rfl, fun σ k O _ => ⟨(h3 σ k O).1, fun hp n r e => ?_⟩⟩
  simp only [dvH1, B3] at e
  split at e
  ·rename_i e1; cases e; subst e1
   exact .inr ⟨Nat.le_refl _, by omega, ow_ok O h1 hf h2, .ow⟩
  ·exact .inl e
 | dl ds len =>
  obtain ⟨p, h1, h2, h3⟩ := dr_pl h
  refine ⟨p, z, h1, rfl, fun σ k O _ => ⟨(h3 σ k O).1, fun hp n r e => ?_⟩⟩
  simp only [dvH1, B3] at e
  split at e
  ·rename_i e1; cases e; subst e1
   exact .inr ⟨Nat.le_refl _, by omega, ⟨p.b.1, p.b.2, [], O.b, rfl, O.sh h1, rfl, h2⟩, .sw ds⟩
  ·exact .inl e
 | dk ds len =>
  obtain ⟨p, h1, h2, h3⟩ := dr_pl h
  refine ⟨p, z, h1, rfl, fun σ k O _ => ⟨(h3 σ k O).2 c rfl, fun hp n r e => ?_⟩⟩
  simp only [dvH1, B3] at e
  split at e
  ·rename_i e1; cases e; subst e1
   exact .inr ⟨Nat.le_refl _, by omega, ⟨p.b.1, p.b.2, [], O.b, rfl, O.sh h1, rfl, h2⟩, .sw ds⟩
  ·exact .inl e
 | tb pre ds len =>
  obtain ⟨b, s, u', rfl, hb, hcell, hf, h⟩ := h
  obtain ⟨q, h1, h2, h3⟩ := dr_pl h
  refine ⟨⟨(b, s), 0, some [], none⟩, q, rfl, h1, fun σ k O O2 => ⟨?_, fun hp n r e => ?_⟩⟩
  ·have := Da (o := 0) O.b (by rw [O.f]; intro e; cases e)
   simpa [dvV1] using this
  simp only [dvH1, B3] at e
  split at e
  ·rename_i e1; cases e; subst e1
   refine .inr ⟨Nat.le_refl _, by omega, ⟨b, s, pre ++ [u'], O.b, ?_, O.sh rfl, .inr ⟨hb, hcell⟩⟩, .ow⟩
   exact C7 (hf σ) (Bi ((h3 σ (k + 1) O2).2 c rfl) rfl)
  ·split at e
   ·rename_i e1; cases e; subst e1
    exact .inr ⟨by omega, by omega, ⟨q.b.1, q.b.2, [], O2.b, rfl, O2.sh h1, rfl, h2⟩, .sw ds⟩
   ·exact .inl e
theorem dvs_pl {W : World} : ∀ {aL : List Dv} {us : List Value} {cs : List Nat}, DvAts W aL us cs → ∃ ps : List Pl, ps.length = 2 * aL.length ∧ (∀ p, p ∈ ps → p.f.getD [] = []) ∧ ∀ σ k, (∀ j p, ps[j]? = some p → On σ (k + j) p) → renL σ (dvV aL cs k) = some us ∧ ∀ n r, lk (dvH aL cs k) n = some r → k ≤ n ∧ n < k + 2 * aL.length ∧ RowOk W σ W n r ∧ ShKd r.kd
 | [], [], [], _ => ⟨[], rfl, fun p hp => (by cases hp), fun σ k _ => ⟨rfl, fun n r e => by cases e⟩⟩
 | a :: aL, u :: us, c :: cs, h => by
   obtain ⟨p, q, h1, h2, h3⟩ := Dv.pl h.1.1 h.1.2
   obtain ⟨ps, g1, g2, g3⟩ := dvs_pl h.2
   refine ⟨p :: q :: ps, by simp only [List.length_cons, g1]; omega, fun x hx => ?_, fun σ k hO => ?_⟩
   ·rcases List.mem_cons.1 hx with rfl | hx
    ·exact h1
    ·rcases List.mem_cons.1 hx with rfl | hx
     ·exact h2
     ·exact g2 x hx
   ·obtain ⟨e1, e2⟩ := h3 σ k (by simpa using hO 0 p rfl) (hO 1 q rfl)
    obtain ⟨f1, f2⟩ := g3 σ (k + 2) fun j x hx => by
     have := hO (j + 2) x (by simpa using hx)
     rwa [show k + (j + 2) = k + 2 + j by omega] at this
    refine ⟨Bi e1 f1, fun n r e => ?_⟩
    simp only [List.length_cons]
    rcases e2 _ n r e with e | ⟨y1, y2, y3, y4⟩
    ·obtain ⟨y1, y2, y3, y4⟩ := f2 n r e
     exact ⟨by omega, by omega, y3, y4⟩
    ·exact ⟨y1, by omega, y3, y4⟩
 | [], _ :: _, _, h => by simp [DvAts] at h
 | [], [], _ :: _, h => by simp [DvAts] at h
 | _ :: _, [], _, h => by simp [DvAts] at h
 | _ :: _, _ :: _, [], h => by simp [DvAts] at h
theorem dvs_rl {W : World} {aL : List Dv} {us : List Value} {cs : List Nat} (h : DvAts W aL us cs) : ∃ σ, Rl W σ (dvH aL cs 0) W ∧ renL σ (dvV aL cs 0) = some us ∧ (∀ n, 2 * aL.length ≤ n → σ.b n = none ∧ σ.c n = none) ∧ Bd (dvH aL cs 0) (2 * aL.length) := by
 obtain ⟨ps, g1, g2, g3⟩ := dvs_pl h
 obtain ⟨f1, f2⟩ := g3 (sgL ps) 0 fun j p hp => by rw [Nat.zero_add]; exact sgL_on hp
 have hsh : ∀ n, sh (sgL ps) n = [] := fun n => by
  unfold sh
  simp only [sgL]
  split
  ·rename_i p hp
   have := g2 p (List.mem_of_getElem? hp)
   cases hh : p.f with
   | none => rfl
   | some l => rw [hh] at this; exact this
  ·rfl
 have hex : ∀ n, ex (sgL ps) n = [] := fun n => by
  unfold ex
  simp only [sgL]
  split
  ·rename_i p hp; cases p.f <;> rfl
  ·rfl
 refine ⟨sgL ps, ⟨⟨Ext.refl W, fun n r e => (f2 n r e).2.2.1, fun n m r s p q hn hm ho => absurd (f2 n r hn).2.2.2 ho⟩, rfl, fun n r hn ho => absurd (f2 n r hn).2.2.2 ho, fun n r k hn hk => (by rw [hsh] at hk; cases hk), fun n r k hn hk => (by rw [hex] at hk; cases hk)⟩, f1, fun n hn => sgL_out (by omega), fun n hn => ?_⟩
 cases hl : lk (dvH aL cs 0) n with
 | none => rfl
 | some r => have := (f2 n r hl).2.1; omega

mutual
def cnD : DV → DV
 | .fl v => .fl v
 | .sl len _ ds => .sl len none (cnL ds)
def cnL : List DV → List DV
 | [] => []
 | d :: ds => cnD d :: cnL ds
end
section
variable {W w : World} {F : List Nat}
mutual
theorem DR.canon : ∀ (d : DV) (u : Value), DR W w F d u → DR W w F (cnD d) u
 | .fl v, u, hd => by simpa only [cnD] using hd
 | .sl len cap ds, u, hd => by
   simp only [cnD, DR] at hd ⊢
   rcases hd with ⟨h1, h2, h3, h4⟩ | ⟨b, s, c, h2, h5, h6⟩
   ·exact .inl ⟨h1, by rw [h2]; rfl, .inl trivial, h4⟩
   ·exact .inr ⟨b, s, c, h2, ⟨h5.1, fun k e => by cases e⟩, h6.imp (fun e => by rw [e]; rfl) fun e => DRs.canon ds b s e⟩
theorem DRs.canon : ∀ (ds : List DV) (b s : Nat), DRs W w F b s ds → DRs W w F b s (cnL ds)
 | [], b, s, hd => by simpa only [cnL] using hd
 | d :: ds, b, s, hd => by
   simp only [cnL, DRs] at hd ⊢
   obtain ⟨⟨v, h1, h2⟩, h3⟩ := hd
   exact ⟨⟨v, h1, DR.canon d v h2⟩, DRs.canon ds b (s + 1) h3⟩
end
theorem DRs.take : ∀ (k : Nat) {ds : List DV} {b s : Nat}, DRs W w F b s ds → DRs W w F b s (ds.take k)
 | 0, ds, b, s, hd => by
   rw [List.take_zero]
   simp only [DRs]
   exact hd.blk
 | k + 1, [], b, s, hd => by simpa using hd
 | k + 1, d :: ds, b, s, hd => by
   simp only [List.take_succ_cons, DRs] at hd ⊢
   exact ⟨hd.1, DRs.take k hd.2⟩
end
def elB (h : Hp) : List Value → Option (List DV × List Prop)
 | [] => some ([], [])
 | .slice none 0 0 :: vs => (match elB h vs with
  | some (ds, ob) => some (.sl 0 none [] :: ds, ob)
  | none => none)
 | .slice (some ⟨k, 0, none⟩) n _ :: vs => (match elB h vs, lk h k with
  | some (ds, ob), some r => (match I6 r.kd with
   | some es => some (.sl n none (cnL es) :: ds, (n = 0 → es = []) :: ob)
   | none => none)
  | _, _ => none)
 | _ => none
theorem elB_ok {W : World} {σ : Sg} {h : Hp} {w : World} (hR : Rl W σ h w) : ∀ {cells : List Value} {ds : List DV} {ob : List Prop} {us : List Value}, elB h cells = some (ds, ob) → Alls ob → renL σ cells = some us → DRv w w [] ds us
 | [], ds, ob, us, h1, _, h3 => by
   simp only [elB, oI, pI] at h1
   obtain ⟨rfl, _⟩ := h1
   simp only [renL, oI] at h3
   subst h3
   simp [DRv]
 | v :: vs, ds, ob, us, h1, h2, h3 => by
   obtain ⟨u, us', hu, hus, rfl⟩ := B9 h3
   unfold elB at h1
   split at h1
   ·rename_i e; cases e
   ·rename_i vs' e
    cases e
    split at h1
    case h_2 => cases h1
    rename_i ds' ob' hrec
    simp only [oI, pI] at h1
    obtain ⟨rfl, rfl⟩ := h1
    simp only [DRv]
    refine ⟨_, _, rfl, ?_, elB_ok hR hrec h2 hus⟩
    simp only [renV, oI] at hu
    subst hu
    exact DR.nil rfl rfl (.inl rfl)
   ·rename_i k n c vs' e
    cases e
    split at h1
    case h_2 => cases h1
    rename_i ds' ob' r hrec hl
    split at h1
    case h_2 => cases h1
    rename_i es hd
    simp only [oI, pI] at h1
    obtain ⟨rfl, rfl⟩ := h1
    obtain ⟨hz, ho⟩ := h2
    simp only [DRv]
    refine ⟨_, _, rfl, ?_, elB_ok hR hrec ho hus⟩
    obtain ⟨b, s, vs', hb, _⟩ := hR.row k _ hl
    rcases B7 hu with ⟨p, c', hb', _, rfl, _⟩ | ⟨hn, h0, _, rfl⟩
    ·rw [hb] at hb'
     cases hb'
     refine DR.mk ⟨Bx hR.wf hu, fun k e => by cases e⟩ ?_
     exact (H6 hR hl hd hb).imp (fun e => by rw [e]; rfl) fun e => DRs.canon _ _ _ e
    ·exact DR.nil h0 (by rw [hz h0]; rfl) (.inl rfl)
   ·cases h1
structure GrD (gr : Gr) (v0 : Value) (h0' : Hp) (g : Nat → Nat) : Prop where
 v : ∀ nx, renV (f2s nx gr.rows.length g) (gr.v nx) = some v0
 rows : ∀ j r, gr.rows[j]? = some r → Fl r.cs ∧ adKd r.kd = true ∧ lk h0' (g j) = some r
 inj : ∀ i j, i < gr.rows.length → j < gr.rows.length → g i = g j → i = j
abbrev Hs := List Dv → Tape → Option (Gr × Tape × List Prop)
def GOkD (P : Program) (f0 : FuncId) (G : Hs) : Prop := ∀ aL tp gr tp' ob, G aL tp = some (gr, tp', ob) → Alls ob → ∀ cs, CapsD aL cs → ∃ v0 h0' nx0' d0 g, Tri P f0 (dvV aL cs 0) (dvH aL cs 0) (2 * aL.length) (v0, h0', nx0', d0) ∧ GrD gr v0 h0' g
inductive Pd where
 | f
 | s
 | v
 | d
 | k (size : Nat)
 | t (size : Nat)
 | c (size : Nat)
 | e (size : Nat)
def rdK (h : Hp) (size : Nat) : Value → Option ((List DV × Nat) × List Prop)
 | .slice none 0 0 => some (([], 0), [])
 | .slice (some ⟨n, 0, none⟩) len c => (match lk h n with
  | some r => (match r.kd with
   | .dp sz _ ds => bif Nat.beq sz size then some ((ds, len), [c = B0 + n ∧ ds.length = len * size ∧ 0 < size]) else none
   | .df sz _ ds => bif Nat.beq sz size then some ((ds, len), [c = B0 + n ∧ ds.length = len * size ∧ 0 < size]) else none
   | .sd ds => some ((ds, len), [len ≤ c ∧ c ≤ 9223372036854775807 ∧ (len = 0 → ds = [])])
   | .sw ds => some ((ds, len), [len ≤ c ∧ c ≤ 9223372036854775807 ∧ (len = 0 → ds = [])])
   | _ => none)
  | none => none)
 | _ => none
def rdD (h : Hp) : Pd → Value → Option (Dv × List Prop)
 | .f, .func (.func k) ⟨[]⟩ ⟨[]⟩ => some (.fl (.func (.func k) ⟨[]⟩ ⟨[]⟩), [])
 | .f, v => bif flat1 v then some (.fl v, []) else none
 | .s, .slice none 0 0 => some (.sl [] 0, [])
 | .s, .slice (some ⟨n, o, none⟩) len _ => (match lk h n with
  | some r => bif Nat.beq o 0 then some (.sl r.cs len, [(∀ τ, renL τ r.cs = some r.cs) ∧ (len = 0 → r.cs = [])]) else some (.sl (r.cs.drop o) len, [(∀ τ, renL τ r.cs = some r.cs) ∧ (len = 0 → r.cs.drop o = [])])
  | none => none)
 | .v, .slice none 0 0 => some (.sl [] 0, [])
 | .v, .slice (some ⟨n, o, none⟩) len _ => (match lk h n with
  | some r => some (.sl ((r.cs.drop o).take len) len, [∀ τ, renL τ r.cs = some r.cs])
  | none => none)
 | .d, .slice none 0 0 => some (.dl [] 0, [])
 | .d, .slice (some ⟨n, o, none⟩) len _ => (match lk h n with
  | some r => (match I6 r.kd with
   | some ds => bif Nat.beq o 0 then some (.dl ds len, [len = 0 → ds = []]) else some (.dl (ds.drop o) len, [len = 0 → ds.drop o = []])
   | none => (match len with
    | 0 => some (.dl [] 0, [])
    | _ => none))
  | none => none)
 | .c _, .slice none 0 0 => some (.dl [] 0, [])
 | .c size, .slice (some ⟨n, o, none⟩) len _ => (match lk h n with
  | some r => (match I6 r.kd with
   | some ds => bif Nat.beq o 0 then some (.dl (cnL (ds.take (mlN len size))) len, []) else some (.dl (cnL ((ds.drop o).take (mlN len size))) len, [])
   | none => (match r.kd with
    | .shut => (match elB h r.cs with
     | some (ds, ob) => bif Nat.beq o 0 then some (.dl ds len, (len = 0 → ds = []) :: ob) else none
     | none => none)
    | _ => none))
  | none => none)
 | .e _, .slice none 0 0 => some (.dl [] 0, [])
 | .e size, .slice (some ⟨n, o, none⟩) len _ => (match lk h n with
  | some r => (match I6 r.kd with
   | some ds => some (.dl (cnL ((ds.drop o).take (mlN len size))) len, [])
   | none => (match r.kd with
    | .shut => (match elB h r.cs with
     | some (ds, ob) => bif Nat.beq o 0 then some (.dl ds len, (len = 0 → ds = []) :: ob) else none
     | none => none)
    | _ => none))
  | none => none)
 | .k size, v => (match rdK h size v with
  | some ((ds, len), ob) => some (.dk ds len, ob)
  | none => none)
 | .t size, .pointer (some ⟨n, 0, none⟩) => (match lk h n with
  | some r => (match Lc r.cs with
   | some (pre, v) => (match rdK h size v with
    | some ((ds, len), ob) => bif D5 pre then some (.tb pre ds len, ob) else none
    | none => none)
   | none => none)
  | none => none)
 | _, _ => none
def rdDs (h : Hp) : List Pd → List Value → Option (List Dv × List Prop)
 | [], [] => some ([], [])
 | p :: ps, v :: vs => (match rdD h p v, rdDs h ps vs with
  | some (a, o1), some (aL, o2) => some (a :: aL, o1 ++ o2)
  | _, _ => none)
 | _, _ => none
theorem rdK_ok {h : Hp} {size : Nat} {v : Value} {ds : List DV} {len : Nat} {ob : List Prop} (hr : rdK h size v = some ((ds, len), ob)) (ho : Alls ob) {W : World} {σ : Sg} {w : World} {v' : Value} (hR : Rl W σ h w) (hv : renV σ v = some v') : ∃ c, DR w w [] (.sl len (some c) ds) v' ∧ len ≤ c ∧ c ≤ 9223372036854775807 := by
 unfold rdK at hr
 split at hr
 ·simp only [oI, pI] at hr
  obtain ⟨⟨rfl, rfl⟩, _⟩ := hr
  simp only [renV, oI] at hv
  subst hv
  exact ⟨0, DR.nil rfl rfl (.inr rfl), Nat.le_refl _, by omega⟩
 ·rename_i n len0 c0
  split at hr
  case h_2 => cases hr
  rename_i r hl
  have grown : ∀ sz z es, (r.kd = .dp sz z es ∨ r.kd = .df sz z es) → Nat.beq sz size = true → ds = es → len = len0 → c0 = B0 + n → ds.length = len * size → 0 < size → ∃ c, DR w w [] (.sl len (some c) ds) v' ∧ len ≤ c ∧ c ≤ 9223372036854775807 := fun sz z es hk hs e1 e2 h1 h2 h3 => by
   subst e1; subst e2; subst h1
   obtain rfl := Nat.eq_of_beq_eq_true hs
   obtain ⟨b, s, vs, hb, hv0, hkd⟩ := hR.row n r hl
   have hown : r.own := by unfold Rw.own; rcases hk with e | e <;> rw [e] <;> intro x <;> cases x
   have hdeep : I6 r.kd = some ds := by rcases hk with e | e <;> rw [e] <;> rfl
   obtain ⟨c, us, t, rest, g1, g2, g3, g4, g5⟩ : ∃ c us t rest, σ.c n = some c ∧ w.heap[b]? = some (.cells (us ++ rest).toArray t (0, 0)) ∧ (us ++ rest).length = c * sz ∧ c ≤ maxLen ∧ DRv W w (sh σ n) ds us := by
    rcases hk with e | e
    ·rw [e] at hkd
     obtain ⟨_, _, _, us, t, rest, c, a1, a2, a3, a4, a5, a6⟩ := hkd
     exact ⟨c, us, t, rest, a1, a2, a3, a4, a6⟩
    ·rw [e] at hkd
     obtain ⟨_, _, _, _, us, t, rest, c, a1, a2, a3, a4, a5, a6⟩ := hkd
     exact ⟨c, us, t, rest, a1, a2, a3, a4, a6 W⟩
   have hlc : len ≤ c := by
    have e1 := DRv.len g5
    rw [List.length_append, e1, h2] at g3
    exact Nat.le_of_mul_le_mul_right (by omega) h3
   have hc9 : c ≤ 9223372036854775807 := by unfold maxLen at g4; omega
   rcases B7 hv with ⟨p, c', hb', hcp, rfl, _⟩ | ⟨hnn, _, _, _⟩
   case inr => exact (hR.shr.1 n r hl hown hnn).elim
   rw [hb] at hb'
   cases hb'
   rw [Bq, g1] at hcp
   cases hcp
   exact ⟨c, DR.mk ⟨hlc, fun k e => by cases e; exact ⟨rfl, hlc, hc9⟩⟩ (H6 hR hl hdeep hb), hlc, hc9⟩
  have shared : I6 r.kd = some ds → len = len0 → len ≤ c0 → c0 ≤ 9223372036854775807 → (len = 0 → ds = []) → ∃ c, DR w w [] (.sl len (some c) ds) v' ∧ len ≤ c ∧ c ≤ 9223372036854775807 := fun hd e1 h1 h2 h3 => by
   subst e1
   obtain ⟨b, s, vs, hb, _⟩ := hR.row n r hl
   refine ⟨c0, ?_, h1, h2⟩
   rcases B7 hv with ⟨p, c', hb', hcp, rfl, _⟩ | ⟨hnn, hz, hcp, rfl⟩
   ·rw [hb] at hb'
    cases hb'
    unfold cpR at hcp
    rw [if_pos (by unfold B0; omega)] at hcp
    cases hcp
    exact DR.mk ⟨h1, fun k e => by cases e; exact ⟨rfl, h1, h2⟩⟩ (H6 hR hl hd hb)
   ·unfold cpR at hcp
    rw [if_pos (by unfold B0; omega)] at hcp
    cases hcp
    exact DR.nil hz (h3 hz) (.inr rfl)
  split at hr
  ·rename_i sz z es hk
   obtain ⟨hs, hr⟩ := Ba hr
   simp only [oI, pI] at hr
   obtain ⟨⟨rfl, rfl⟩, rfl⟩ := hr
   obtain ⟨⟨h1, h2, h3⟩, _⟩ := ho
   exact grown sz z _ (.inl hk) hs rfl rfl h1 h2 h3
  ·rename_i sz z es hk
   obtain ⟨hs, hr⟩ := Ba hr
   simp only [oI, pI] at hr
   obtain ⟨⟨rfl, rfl⟩, rfl⟩ := hr
   obtain ⟨⟨h1, h2, h3⟩, _⟩ := ho
   exact grown sz z _ (.inr hk) hs rfl rfl h1 h2 h3
  ·rename_i es hk
   simp only [oI, pI] at hr
   obtain ⟨⟨rfl, rfl⟩, rfl⟩ := hr
   obtain ⟨⟨h1, h2, h3⟩, _⟩ := ho
   exact shared (by rw [hk]; rfl) rfl h1 h2 h3
  ·rename_i es hk
   simp only [oI, pI] at hr
   obtain ⟨⟨rfl, rfl⟩, rfl⟩ := hr
   obtain ⟨⟨h1, h2, h3⟩, _⟩ := ho
   exact shared (by rw [hk]; rfl) rfl h1 h2 h3
  ·cases hr
 ·cases hr
theorem rdD_ok {h : Hp} {p : Pd} {v : Value} {a : Dv} {ob : List Prop} (hr : rdD h p v = some (a, ob)) (ho : Alls ob) {W : World} {σ : Sg} {w : World} {v' : Value} (hR : Rl W σ h w) (hv : renV σ v = some v') : ∃ c, a.at w v' c ∧ CapOk c a := by
 unfold rdD at hr
 split at hr
 ·simp only [oI, pI] at hr
  obtain ⟨rfl, rfl⟩ := hr
  have hz : ∀ (τ : Sg) (f : FuncId), renV τ (.func (.func f) ⟨[]⟩ ⟨[]⟩) = some (.func (.func f) ⟨[]⟩ ⟨[]⟩) := fun τ f => rfl
  rw [hz] at hv
  exact ⟨0, ⟨(Option.some.inj hv).symm, fun τ => hz τ _⟩, trivial⟩
 ·obtain ⟨hf, hr⟩ := Ba hr
  simp only [oI, pI] at hr
  obtain ⟨rfl, rfl⟩ := hr
  rw [I5 hf] at hv
  exact ⟨0, ⟨(Option.some.inj hv).symm, I5 hf⟩, trivial⟩
 ·simp only [oI, pI] at hr
  obtain ⟨rfl, rfl⟩ := hr
  simp only [renV, oI] at hv
  subst hv
  exact ⟨0, ⟨fun τ => rfl, DR.nil rfl rfl (.inl rfl)⟩, trivial⟩
 ·rename_i n o len c
  split at hr
  case h_2 => cases hr
  rename_i r hl
  obtain ⟨h2, h3, rfl⟩ : (∀ τ, renL τ r.cs = some r.cs) ∧ (len = 0 → r.cs.drop o = []) ∧ a = .sl (r.cs.drop o) len := by
   rcases Be hr with ⟨e0, e⟩ | ⟨_, e⟩
   ·simp only [oI, pI] at e
    obtain ⟨rfl, rfl⟩ := e
    obtain rfl := Nat.eq_of_beq_eq_true e0
    exact ⟨ho.1.1, by simpa using ho.1.2, by simp⟩
   ·simp only [oI, pI] at e
    obtain ⟨rfl, rfl⟩ := e
    exact ⟨ho.1.1, ho.1.2, rfl⟩
  have h1 : ∀ τ, renL τ (r.cs.drop o) = some (r.cs.drop o) := fun τ => Cr o (h2 τ)
  refine ⟨0, ⟨h1, ?_⟩, trivial⟩
  obtain ⟨p, vs, hb, hvs, hcell⟩ := hR.cell hl
  rw [h2 σ] at hvs
  cases hvs
  rcases B7 hv with ⟨p', c', hb', hcp, rfl, _⟩ | ⟨hnn, hz, hcp, rfl⟩
  ·rw [hb] at hb'
   cases hb'
   refine DR.mk ⟨Bx hR.wf hv, fun k e => by cases e⟩ ?_
   have hget : ∀ j x, (r.cs.drop o)[j]? = some x → w.cell? ⟨p.1, p.2 + o + j, none⟩ = some x := fun j x hx => by
    have := hcell (o + j) x (by rw [List.getElem?_drop] at hx; exact hx)
    rwa [show p.2 + (o + j) = p.2 + o + j by omega] at this
   by_cases hx : r.cs.drop o = []
   ·exact .inl (by rw [hx]; rfl)
   ·refine .inr (Jd h1 (.inl ⟨?_, hget⟩))
    obtain ⟨x, l, e⟩ := List.exists_cons_of_ne_nil hx
    exact Kv (hget 0 x (by rw [e]; rfl))
  ·exact DR.nil hz (by rw [h3 hz]; rfl) (.inl rfl)
 ·simp only [oI, pI] at hr
  obtain ⟨rfl, rfl⟩ := hr
  simp only [renV, oI] at hv
  subst hv
  exact ⟨0, ⟨fun τ => rfl, DR.nil rfl rfl (.inl rfl)⟩, trivial⟩
 ·rename_i n o len c
  split at hr
  case h_2 => cases hr
  rename_i r hl
  simp only [oI, pI] at hr
  obtain ⟨rfl, rfl⟩ := hr
  obtain ⟨h2, _⟩ := ho
  have h1 : ∀ τ, renL τ ((r.cs.drop o).take len) = some ((r.cs.drop o).take len) := fun τ => Dw len (Cr o (h2 τ))
  refine ⟨0, ⟨h1, ?_⟩, trivial⟩
  obtain ⟨p, vs, hb, hvs, hcell⟩ := hR.cell hl
  rw [h2 σ] at hvs
  cases hvs
  rcases B7 hv with ⟨p', c', hb', hcp, rfl, _⟩ | ⟨hnn, hz, hcp, rfl⟩
  ·rw [hb] at hb'
   cases hb'
   refine DR.mk ⟨Bx hR.wf hv, fun k e => by cases e⟩ ?_
   have hget : ∀ j x, ((r.cs.drop o).take len)[j]? = some x → w.cell? ⟨p.1, p.2 + o + j, none⟩ = some x := fun j x hx => by
    have hj := (List.getElem?_eq_some_iff.1 hx).1
    rw [List.length_take] at hj
    rw [List.getElem?_take, if_pos (by omega), List.getElem?_drop] at hx
    have := hcell (o + j) x hx
    rwa [show p.2 + (o + j) = p.2 + o + j by omega] at this
   by_cases hx : (r.cs.drop o).take len = []
   ·exact .inl (by rw [hx]; rfl)
   ·refine .inr (Jd h1 (.inl ⟨?_, hget⟩))
    obtain ⟨x, l, e⟩ := List.exists_cons_of_ne_nil hx
    exact Kv (hget 0 x (by rw [e]; rfl))
  ·exact DR.nil hz (by rw [hz]; simp) (.inl rfl)
 ·simp only [oI, pI] at hr
  obtain ⟨rfl, rfl⟩ := hr
  simp only [renV, oI] at hv
  subst hv
  exact ⟨0, DR.nil rfl rfl (.inl rfl), trivial⟩
 ·rename_i n o len c
  split at hr
  case h_2 => cases hr
  rename_i r hl
  split at hr
  case h_2 =>
   split at hr
   case h_2 => cases hr
   simp only [oI, pI] at hr
   obtain ⟨rfl, rfl⟩ := hr
   refine ⟨0, ?_, trivial⟩
   show DR w w [] _ _
   rcases B7 hv with ⟨p', c', hb', hcp, rfl, _⟩ | ⟨hnn, hz, hcp, rfl⟩
   ·exact DR.mk ⟨Bx hR.wf hv, fun k e => by cases e⟩ (.inl rfl)
   ·exact DR.nil rfl rfl (.inl rfl)
  rename_i ds hd
  obtain ⟨h3, rfl⟩ : (len = 0 → ds.drop o = []) ∧ a = .dl (ds.drop o) len := by
   rcases Be hr with ⟨e0, e⟩ | ⟨_, e⟩
   ·simp only [oI, pI] at e
    obtain ⟨rfl, rfl⟩ := e
    obtain rfl := Nat.eq_of_beq_eq_true e0
    exact ⟨by simpa using ho.1, by simp⟩
   ·simp only [oI, pI] at e
    obtain ⟨rfl, rfl⟩ := e
    exact ⟨ho.1, rfl⟩
  refine ⟨0, ?_, trivial⟩
  obtain ⟨b, s, vs, hb, _⟩ := hR.row n r hl
  show DR w w [] _ _
  rcases B7 hv with ⟨p', c', hb', hcp, rfl, _⟩ | ⟨hnn, hz, hcp, rfl⟩
  ·rw [hb] at hb'
   cases hb'
   refine DR.mk ⟨Bx hR.wf hv, fun k e => by cases e⟩ ?_
   rcases H6 hR hl hd hb with e | e
   ·exact .inl (by rw [e]; simp)
   ·exact e.drop o
  ·exact DR.nil hz (h3 hz) (.inl rfl)
 ·simp only [oI, pI] at hr
  obtain ⟨rfl, rfl⟩ := hr
  simp only [renV, oI] at hv
  subst hv
  exact ⟨0, DR.nil rfl rfl (.inl rfl), trivial⟩
 ·rename_i size n o len c
  split at hr
  case h_2 => cases hr
  rename_i r hl
  obtain ⟨b, s, vs0, hb, hvs0, hk0⟩ := hR.row n r hl
  split at hr
  ·rename_i ds hd
   obtain rfl : a = .dl (cnL ((ds.drop o).take (len * size))) len := by
    rcases Be hr with ⟨e0, e⟩ | ⟨_, e⟩
    ·simp only [oI, pI] at e
     obtain ⟨rfl, rfl⟩ := e
     obtain rfl := Nat.eq_of_beq_eq_true e0
     rw [E6, List.drop_zero]
    ·simp only [oI, pI] at e
     obtain ⟨rfl, rfl⟩ := e
     rw [E6]
   refine ⟨0, ?_, trivial⟩
   show DR w w [] _ _
   rcases B7 hv with ⟨p', c', hb', hcp, rfl, _⟩ | ⟨hnn, hz, hcp, rfl⟩
   ·rw [hb] at hb'
    cases hb'
    refine DR.mk ⟨Bx hR.wf hv, fun k e => by cases e⟩ ?_
    rcases H6 hR hl hd hb with e | e
    ·exact .inl (by rw [e]; simp [cnL])
    ·rcases e.drop o with e | e
     ·exact .inl (by rw [e]; simp [cnL])
     ·exact .inr (DRs.canon _ _ _ (e.take _))
   ·exact DR.nil hz (by rw [hz]; simp [cnL]) (.inl rfl)
  ·split at hr
   case h_2 => cases hr
   rename_i hkd
   split at hr
   case h_2 => cases hr
   rename_i ds ob' hel
   obtain ⟨e0, hr2⟩ := Ba hr
   obtain rfl := Nat.eq_of_beq_eq_true e0
   simp only [oI, pI] at hr2
   obtain ⟨rfl, rfl⟩ := hr2
   obtain ⟨hz, ho⟩ := ho
   refine ⟨0, ?_, trivial⟩
   show DR w w [] _ _
   rcases B7 hv with ⟨p', c', hb', hcp, rfl, _⟩ | ⟨hnn, hz', hcp, rfl⟩
   ·rw [hb] at hb'
    cases hb'
    refine DR.mk ⟨Bx hR.wf hv, fun k e => by cases e⟩ (.inr ?_)
    rw [hkd] at hk0
    obtain ⟨rfl, hge, t, hc⟩ := hk0
    have hlt : b < w.heap.size := by
     rcases Nat.lt_or_ge b w.heap.size with hh | hh
     ·exact hh
     ·rw [Array.getElem?_eq_none hh] at hc; cases hc
    have := DRv.cells hlt (s := 0) (es := []) (elB_ok hR hel ho hvs0) (fun j u hj => by
     rw [cell_of_row w b (0 + j) _ t _ hc]
     simpa using hj) (by simp only [DRs]; exact .inl hlt)
    rwa [List.append_nil] at this
   ·exact DR.nil hz' (hz hz') (.inl rfl)
 ·simp only [oI, pI] at hr
  obtain ⟨rfl, rfl⟩ := hr
  simp only [renV, oI] at hv
  subst hv
  exact ⟨0, DR.nil rfl rfl (.inl rfl), trivial⟩
 ·rename_i size n o len c
  split at hr
  case h_2 => cases hr
  rename_i r hl
  obtain ⟨b, s, vs0, hb, hvs0, hk0⟩ := hR.row n r hl
  split at hr
  ·rename_i ds hd
   obtain rfl : a = .dl (cnL ((ds.drop o).take (len * size))) len := by
    simp only [oI, pI] at hr
    obtain ⟨rfl, rfl⟩ := hr
    rw [E6]
   refine ⟨0, ?_, trivial⟩
   show DR w w [] _ _
   rcases B7 hv with ⟨p', c', hb', hcp, rfl, _⟩ | ⟨hnn, hz, hcp, rfl⟩
   ·rw [hb] at hb'
    cases hb'
    refine DR.mk ⟨Bx hR.wf hv, fun k e => by cases e⟩ ?_
    rcases H6 hR hl hd hb with e | e
    ·exact .inl (by rw [e]; simp [cnL])
    ·rcases e.drop o with e | e
     ·exact .inl (by rw [e]; simp [cnL])
     ·exact .inr (DRs.canon _ _ _ (e.take _))
   ·exact DR.nil hz (by rw [hz]; simp [cnL]) (.inl rfl)
  ·split at hr
   case h_2 => cases hr
   rename_i hkd
   split at hr
   case h_2 => cases hr
   rename_i ds ob' hel
   obtain ⟨e0, hr2⟩ := Ba hr
   obtain rfl := Nat.eq_of_beq_eq_true e0
   simp only [oI, pI] at hr2
   obtain ⟨rfl, rfl⟩ := hr2
   obtain ⟨hz, ho⟩ := ho
   refine ⟨0, ?_, trivial⟩
   show DR w w [] _ _
   rcases B7 hv with ⟨p', c', hb', hcp, rfl, _⟩ | ⟨hnn, hz', hcp, rfl⟩
   ·rw [hb] at hb'
    cases hb'
    refine DR.mk ⟨Bx hR.wf hv, fun k e => by cases e⟩ (.inr ?_)
    rw [hkd] at hk0
    obtain ⟨rfl, hge, t, hc⟩ := hk0
    have hlt : b < w.heap.size := by
     rcases Nat.lt_or_ge b w.heap.size with hh | hh
     ·exact hh
     ·rw [Array.getElem?_eq_none hh] at hc; cases hc
    have := DRv.cells hlt (s := 0) (es := []) (elB_ok hR hel ho hvs0) (fun j u hj => by
     rw [cell_of_row w b (0 + j) _ t _ hc]
     simpa using hj) (by simp only [DRs]; exact .inl hlt)
    rwa [List.append_nil] at this
   ·exact DR.nil hz' (hz hz') (.inl rfl)
 ·rename_i size v0
  split at hr
  case h_2 => cases hr
  rename_i ds len ob' hk
  simp only [oI, pI] at hr
  obtain ⟨rfl, rfl⟩ := hr
  obtain ⟨c, g1, g2⟩ := rdK_ok hk ho hR hv
  exact ⟨c, g1, g2⟩
 ·rename_i size n
  split at hr
  case h_2 => cases hr
  rename_i r hl
  split at hr
  case h_2 => cases hr
  rename_i pre v0 hlast
  split at hr
  case h_2 => cases hr
  rename_i ds len ob' hk
  obtain ⟨hf, hr⟩ := Ba hr
  simp only [oI, pI] at hr
  obtain ⟨rfl, rfl⟩ := hr
  obtain ⟨p, vs, hb, hvs, hcell⟩ := hR.cell hl
  rw [Jo hlast] at hvs
  have hu : ∃ u, renV σ v0 = some u ∧ vs = pre ++ [u] := by
   cases hu : renV σ v0 with
   | none =>
    exfalso
    have hd := Cr pre.length hvs
    simp only [List.drop_left, renL, hu] at hd
    cases hd
   | some u =>
    have : renL σ (pre ++ [v0]) = some (pre ++ [u]) := C7 (Cj σ hf) (Bi hu rfl)
    rw [hvs] at this
    exact ⟨u, rfl, Option.some.inj this⟩
  obtain ⟨u, hu, rfl⟩ := hu
  obtain ⟨c, g1, g2⟩ := rdK_ok hk ho hR hu
  obtain ⟨q, hq, rfl, hnn⟩ := E4 hv
  rw [hb] at hq
  cases hq
  refine ⟨c, ⟨p.1, p.2 + 0, u, rfl, ?_, hcell, (fun τ => Cj τ hf), g1⟩, g2⟩
  obtain ⟨x, l, e⟩ := List.exists_cons_of_ne_nil (l := pre ++ [u]) (by simp)
  exact Kv (hcell 0 x (by rw [e]; rfl))
 ·cases hr
theorem rdDs_ok {h : Hp} : ∀ {ps : List Pd} {vs : List Value} {aL : List Dv} {ob : List Prop}, rdDs h ps vs = some (aL, ob) → Alls ob → ∀ {W σ w vs'}, Rl W σ h w → renL σ vs = some vs' → ∃ cs, DvAts w aL vs' cs
 | [], [], aL, ob, hr, _, W, σ, w, vs', _, hv => by
   simp only [rdDs, oI, pI] at hr
   obtain ⟨rfl, rfl⟩ := hr
   simp only [renL, oI] at hv
   subst hv
   exact ⟨[], trivial⟩
 | p :: ps, v :: vs, aL, ob, hr, ho, W, σ, w, vs', hR, hv => by
   simp only [rdDs] at hr
   split at hr
   ·rename_i a o1 aL' o2 h1 h2
    simp only [oI, pI] at hr
    obtain ⟨rfl, rfl⟩ := hr
    obtain ⟨g1, g2⟩ := Bw.1 ho
    obtain ⟨v1, vs1, e1, e2, rfl⟩ := B9 hv
    obtain ⟨c, x1⟩ := rdD_ok h1 g1 hR e1
    obtain ⟨cs, x2⟩ := rdDs_ok h2 g2 hR e2
    exact ⟨c :: cs, x1, x2⟩
   ·cases hr
 | [], _ :: _, _, _, hr, _, _, _, _, _, _, _ => by simp [rdDs] at hr
 | _ :: _, [], _, _, hr, _, _, _, _, _, _, _ => by simp [rdDs] at hr
def mkD (f0 : FuncId) (ps : List Pd) (G : Hs) : TFun := fun f args h nx tp => bif Nat.beq f f0 then some (match rdDs h ps args with
 | some (aL, o1) => (match G aL tp with
  | some (gr, tp', o2) => .ok ((gr.v nx, rowsN nx gr.rows h, nx + gr.rows.length, []), tp', o1 ++ o2)
  | none => .no)
 | none => .no) else none
theorem J6 {P : Program} {f0 : FuncId} {ps : List Pd} {G : Hs} (H : GOkD P f0 G) : Cv P (mkD f0 ps G) := fun f args h nx tp out tp' ob e ho => by
 unfold mkD at e
 rcases Be e with ⟨hf, e1⟩ | ⟨_, e1⟩
 case inr => cases e1
 clear e
 obtain rfl := Nat.eq_of_beq_eq_true hf
 have e := Option.some.inj e1
 clear e1
 split at e
 case h_2 => cases e
 rename_i aL o1 hr
 split at e
 case h_2 => cases e
 rename_i gr tp2 o2 hG
 simp only [Res.ok.injEq, pI] at e
 obtain ⟨rfl, rfl, rfl⟩ := e
 obtain ⟨g1, g2⟩ := Bw.1 ho
 refine Tri.adopt (k := gr.rows.length) (fun n hn => ?_) (fun n r hn hlk => ?_) fun W σ w args' hR ha => ?_
 ·rw [Ha, if_neg (by omega)]
 ·rw [Ha] at hlk
  split at hlk
  ·rename_i hc; exact .inr hc.2
  ·exact .inl hlk
 obtain ⟨cs, hAt⟩ := rdDs_ok hr g1 hR ha
 obtain ⟨σ0, h1, h2, h3, h4⟩ := dvs_rl hAt
 obtain ⟨v0, h0', nx0', d0, g, T, I⟩ := H _ _ _ _ _ hG g2 _ hAt.caps
 refine ⟨σ0, _, _, _, v0, h0', nx0', d0, fun n => g (n - nx), f2s nx gr.rows.length g, h1, h3, h4, h2, T, fun n m o e => ?_, fun n q e => ?_, (fun n e => by simp [f2s] at e), fun n r hn hn2 hlk _ => ?_, fun n m a1 a2 b1 b2 e => ?_, I.v nx⟩
 ·simp only [f2s] at e
  split at e
  ·rename_i hc; cases e; exact ⟨hc.1, hc.2, rfl, rfl⟩
  ·cases e
 ·simp only [f2s] at e
  split at e
  ·rename_i hc; cases e; exact ⟨hc.1, hc.2, rfl⟩
  ·cases e
 ·rw [Ha, if_pos ⟨hn, hn2⟩] at hlk
  obtain ⟨i1, i2, i4⟩ := I.rows _ _ hlk
  exact ⟨r, i4, rfl, i2, i1 _⟩
 ·have := I.inj (n - nx) (m - nx) (by omega) (by omega) e
  omega
end
set_option linter.unusedSimpArgs false
set_option linter.unusedVariables false
set_option linter.unusedSectionVars false
open Go Go.RowKit

def prjV : Res (Out × Tape × List Prop) → Res (Value × Tape × List Prop)
 | .ok ((v, _, _, _), tp, ob) => .ok (v, tp, ob)
 | .ask b => .ask b
 | .no => .no
theorem Ia {V : Tv} (hX : XOkZ V Try.prog) (hT : TOkZ V Try.prog) (hL : LOkZ V Try.prog) {k : Nat} {f : FuncId} {args : List Value} {h : Hp} {nx : Nat} {tp tp' : Tape} {v : Value} {ob : List Prop} (e : prjV (runZ V Try.prog k f args h nx tp) = .ok (v, tp', ob)) (ho : Alls ob) (hf : Nat.blt f yBig = true) : ∃ h' nx' d, Tri Try.prog f args h nx (v, h', nx', d) := by
 unfold prjV at e
 split at e
 ·rename_i v0 h0 nx0 d0 tp0 ob0 hr
  simp only [Res.ok.injEq, pI] at e
  obtain ⟨rfl, rfl, rfl⟩ := e
  exact ⟨_, _, _, C6 hX hT hL hr ho hf⟩
 ·cases e
 ·cases e
def Lh : DV → List Int
 | .sl _ _ ds => ds.map fun d => match d with | .fl (.int _ x) => x | _ => 0
 | _ => []
def B2 : List DV → List Pr
 | d1 :: d2 :: .fl (.bool b) :: r => (Lh d1, Lh d2, b) :: B2 r
 | _ => []
theorem dvInts_sl (n : Nat) (c : Option Nat) (l : List Int) : Lh (.sl n c (byD l)) = l := by
 simp only [Lh, byD, List.map_map]
 exact (List.map_congr_left (g := id) fun x _ => rfl).trans (List.map_id l)
theorem prsOf_of : ∀ {ps : List Pr} {ds : List DV}, Prs ds ps → B2 ds = ps
 | [], ds, h => by rw [show ds = [] from h]; rfl
 | p :: ps, ds, h => by
   obtain ⟨c1, c2, r, rfl, hr⟩ := h
   have := prsOf_of hr
   show (Lh _, Lh _, p.2.2) :: B2 r = _
   rw [dvInts_sl, dvInts_sl, this]
def ltK (a b : List Int) : Bool := !decide (cmpI a b ≥ 0)
def lbP : List Pr → List Int → Nat
 | [], _ => 0
 | p :: ps, k => bif ltK p.1 k then lbP ps k + 1 else 0
def hitP (ps : List Pr) (k : List Int) : Bool := match ps[lbP ps k]? with
 | some p => decide (p.1 = k)
 | none => false
def sdA (n : Nat) : Value := .slice (some ⟨0, 0, none⟩) n (B0 + 0)
def kyA (m : Nat) : Value := .slice (some ⟨2, 0, none⟩) m (B0 + 2)
def fnA : Value := .func (.func 47) #[] #[]
def bsH (ds : List DV) (ky : List Value) : Hp := [(0, ⟨.sw ds, []⟩), (2, ⟨.ow, ky⟩)]
def bsTab : FuncId → List Nat := fun f => bif Nat.beq f 46 then [17, 31, 38, 47] else []
def bsSy : FuncId → Nat → Option Nat := lsSy 46 [(20, 0), (21, 0), (22, 0), (23, 0), (27, 0), (28, 32), (33, 0), (43, 0), (44, 32)]
def bsV (L : LFun) (T : TFun) : Tv := ⟨T, cmpY, L, bsTab, bsSy, fun _ => [], fun _ => 0⟩
def bsS (n m i j : Nat) : List (Nat × Value) := [(0, sdA n), (1, kyA m), (2, fnA), (8, iV n), (9, iV i), (10, iV j)]
theorem bs_lt (inr : Bool) (n m i j : Nat) (ds : List DV) (ky : List Value) : prjP [0, 1, 2, 8, 9, 10] 10 (Bk (bsV noL noTz) Try.prog (runZ (bsV noL noTz) Try.prog 9) 46 inr 100000 (B6 Try.prog 46 3) (SL 49 (bsS n m i j))
 (bsH ds ky) 10 [true, true])
 =
  (let a2 := ((i + j) / 2 * 3 + 0); let a1 := (↑((i + j) / 2) : Int); Res.ok ((Xt.normal, 49, [(0, Value.slice (some (Addr.mk 0 0 none)) n 18446744073709551616), (1, Value.slice (some (Addr.mk 2 0 none)) m (B0 + 2)), (2, Value.func (Fn.func 47) (Array.mk []) (Array.mk [])), (8, Value.int IntKind.i64 (↑n : Int)), (9, Value.int IntKind.i64 (↑((i + j) / 2 + 1) : Int)), (10, Value.int IntKind.i64 (↑j : Int))], [(0, Rw.mk (Kd.sw ds) []), (2, Rw.mk Kd.ow ky)], 13, [], []), [], [decide ((↑i : Int) < (↑j : Int)) = true, rg IntKind.i64 (↑(i + j) : Int), rg IntKind.u64 (↑(i + j) : Int), (0 : Int) ≤ (1 : Int) ∧ (1 : Int) ≤ (64 : Int), rg IntKind.i64 a1, (0 : Int) ≤ a1 ∧ a1 < (↑n : Int), ShOb Try.prog 29 false true ds ((i + j) / 2 * 3) 10, BytI (dLen ds a2) (B4 ds a2), BytI m ky, decide (cmpI (B1 (B4 ds a2)) (B1 ky) < (0 : Int)) = true, rg IntKind.i64 (↑((i + j) / 2 + 1) : Int)])) := by kernel_rfl
theorem bs_ge (inr : Bool) (n m i j : Nat) (ds : List DV) (ky : List Value) : prjP [0, 1, 2, 8, 9, 10] 10 (Bk (bsV noL noTz) Try.prog (runZ (bsV noL noTz) Try.prog 9) 46 inr 100000 (B6 Try.prog 46 3) (SL 49 (bsS n m i j))
 (bsH ds ky) 10 [true, false])
 =
  (let a2 := ((i + j) / 2 * 3 + 0); let a1 := (↑((i + j) / 2) : Int); Res.ok ((Xt.normal, 49, [(0, Value.slice (some (Addr.mk 0 0 none)) n 18446744073709551616), (1, Value.slice (some (Addr.mk 2 0 none)) m (B0 + 2)), (2, Value.func (Fn.func 47) (Array.mk []) (Array.mk [])), (8, Value.int IntKind.i64 (↑n : Int)), (9, Value.int IntKind.i64 (↑i : Int)), (10, Value.int IntKind.i64 a1)], [(0, Rw.mk (Kd.sw ds) []), (2, Rw.mk Kd.ow ky)], 13, [], []), [], [decide ((↑i : Int) < (↑j : Int)) = true, rg IntKind.i64 (↑(i + j) : Int), rg IntKind.u64 (↑(i + j) : Int), (0 : Int) ≤ (1 : Int) ∧ (1 : Int) ≤ (64 : Int), rg IntKind.i64 a1, (0 : Int) ≤ a1 ∧ a1 < (↑n : Int), ShOb Try.prog 29 false true ds ((i + j) / 2 * 3) 10, BytI (dLen ds a2) (B4 ds a2), BytI m ky, decide (cmpI (B1 (B4 ds a2)) (B1 ky) < (0 : Int)) = false])) := by kernel_rfl
theorem bs_end (inr : Bool) (n m i j : Nat) (ds : List DV) (ky : List Value) : prjP [0, 1, 2, 8, 9] 10 (Bk (bsV noL noTz) Try.prog (runZ (bsV noL noTz) Try.prog 9) 46 inr 100000 (B6 Try.prog 46 3) (SL 49 (bsS n m i j)) (bsH ds ky) 10 [false]) =
 Res.ok ((Xt.exit 0, 49, [(0, Value.slice (some (Addr.mk 0 0 none)) n 18446744073709551616), (1, Value.slice (some (Addr.mk 2 0 none)) m (B0 + 2)), (2, Value.func (Fn.func 47) (Array.mk []) (Array.mk [])), (8, Value.int IntKind.i64 (↑n : Int)), (9, Value.int IntKind.i64 (↑i : Int))], [(0, Rw.mk (Kd.sw ds) []), (2, Rw.mk Kd.ow ky)], 10, [], []), [], [decide ((↑i : Int) < (↑j : Int)) = false]) := by kernel_rfl
theorem ltK_nn : ltK [] [] = false := rfl
theorem ltK_nc (b : Int) (m : List Int) : ltK [] (b :: m) = true := rfl
theorem ltK_cn (a : Int) (l : List Int) : ltK (a :: l) [] = false := rfl
theorem ltK_cc (a b : Int) (l m : List Int) : ltK (a :: l) (b :: m) = if a < b then true else if b < a then false else ltK l m := by
 unfold ltK
 simp only [cmpI]
 by_cases h1 : a < b
 ·simp [h1]
 ·by_cases h2 : b < a
  ·simp [h1, h2]
  ·simp [h1, h2]
theorem ltK_cmp (a b : List Int) : ltK a b = decide (cmpI a b < 0) := by
 unfold ltK
 by_cases h : cmpI a b < 0
 ·have : ¬ (cmpI a b ≥ 0) := by omega
  simp [h, this]
 ·have : cmpI a b ≥ 0 := by omega
  simp [h, this]
theorem cmpI_zero : ∀ (a b : List Int), cmpI a b = 0 ↔ a = b
 | [], [] => by simp [cmpI]
 | [], _ :: _ => by simp [cmpI]
 | _ :: _, [] => by simp [cmpI]
 | a :: l, b :: m => by
   simp only [cmpI]
   by_cases h1 : a < b
   ·have : a ≠ b := by omega
    simp [h1, this]
   ·by_cases h2 : b < a
    ·have : a ≠ b := by omega
     simp [h1, h2, this]
    ·have : a = b := by omega
     simp [h1, h2, this, cmpI_zero l m]
theorem ltK_irr : ∀ a : List Int, ltK a a = false
 | [] => rfl
 | a :: l => by rw [ltK_cc, if_neg (by omega), if_neg (by omega)]; exact ltK_irr l
theorem Jn : ∀ {a b c : List Int}, ltK a b = true → ltK b c = true → ltK a c = true
 | _, [], [], _, h => by rw [ltK_nn] at h; cases h
 | _, _ :: _, [], _, h => by rw [ltK_cn] at h; cases h
 | [], _, _ :: _, _, _ => ltK_nc ..
 | a :: l, [], c :: n, h, _ => by rw [ltK_cn] at h; cases h
 | a :: l, b :: m, c :: n, h1, h2 => by
   rw [ltK_cc] at h1 h2 ⊢
   by_cases e1 : a < b
   ·by_cases e2 : b < c
    ·rw [if_pos (by omega)]
    ·rw [if_neg e2] at h2
     by_cases e3 : c < b
     ·rw [if_pos e3] at h2; cases h2
     ·rw [if_pos (by omega)]
   ·rw [if_neg e1] at h1
    by_cases e3 : b < a
    ·rw [if_pos e3] at h1; cases h1
    ·rw [if_neg e3] at h1
     by_cases e2 : b < c
     ·rw [if_pos (by omega)]
     ·rw [if_neg e2] at h2
      by_cases e4 : c < b
      ·rw [if_pos e4] at h2; cases h2
      ·rw [if_neg e4] at h2
       rw [if_neg (by omega), if_neg (by omega)]
       exact Jn h1 h2
theorem ltK_tot : ∀ {a b : List Int}, ltK a b = false → ltK b a = false → a = b
 | [], [], _, _ => rfl
 | [], _ :: _, h, _ => by rw [ltK_nc] at h; cases h
 | _ :: _, [], _, h => by rw [ltK_nc] at h; cases h
 | a :: l, b :: m, h1, h2 => by
   rw [ltK_cc] at h1 h2
   by_cases e1 : a < b
   ·rw [if_pos e1] at h1; cases h1
   ·rw [if_neg e1] at h1
    by_cases e2 : b < a
    ·rw [if_pos e2] at h2; cases h2
    ·rw [if_neg e2] at h1
     rw [if_neg e2, if_neg e1] at h2
     rw [ltK_tot h1 h2, show a = b by omega]
theorem Hc {p : Pr} {ps : List Pr} (h : asc (p :: ps) = true) : asc ps = true := by
 cases ps with
 | nil => rfl
 | cons q l => simp only [asc, Bool.and_eq_true] at h; exact h.2
theorem asc_head {p q : Pr} {ps : List Pr} (h : asc (p :: q :: ps) = true) : ltK p.1 q.1 = true := by
 simp only [asc, Bool.and_eq_true] at h
 exact h.1
theorem Js : ∀ {ps : List Pr} {p : Pr}, asc (p :: ps) = true → ∀ q ∈ ps, ltK p.1 q.1 = true
 | [], p, _, q, hq => by cases hq
 | r :: ps, p, h, q, hq => by
   have h1 := asc_head h
   rcases List.mem_cons.1 hq with rfl | hq
   ·exact h1
   ·exact Jn h1 (Js (Hc h) q hq)
theorem It : ∀ (ps : List Pr) (k : List Int), lbP ps k ≤ ps.length
 | [], k => by simp [lbP]
 | p :: ps, k => by
   simp only [lbP]
   cases ltK p.1 k with
   | true => simp only [cond_true, List.length_cons]; have := It ps k; omega
   | false => simp
theorem lb_at : ∀ {ps : List Pr} {k : List Int} {h : Nat} {p : Pr}, asc ps = true → ps[h]? = some p → (ltK p.1 k = true ↔ h < lbP ps k)
 | [], k, h, p, _, hp => by simp at hp
 | q :: ps, k, h, p, ha, hp => by
   simp only [lbP]
   cases hq : ltK q.1 k with
   | true =>
    simp only [cond_true]
    cases h with
    | zero => simp only [List.getElem?_cons_zero, oI] at hp; subst hp; simp [hq]
    | succ h =>
     have := lb_at (k := k) (Hc ha) (show ps[h]? = some p by simpa using hp)
     rw [this]; omega
   | false =>
    simp only [cond_false, Nat.not_lt_zero, iff_false]
    cases h with
    | zero => simp only [List.getElem?_cons_zero, oI] at hp; subst hp; rw [hq]; decide
    | succ h =>
     have h1 := Js ha p (List.mem_of_getElem? (show ps[h]? = some p by simpa using hp))
     intro h2
     rw [Jn h1 h2] at hq
     cases hq
theorem lb_drop {ps : List Pr} {k : List Int} (ha : asc ps = true) : ∀ p ∈ ps.take (lbP ps k), ltK p.1 k = true := fun p hp => by
 obtain ⟨i, hi, e⟩ := List.mem_iff_getElem.1 hp
 rw [List.length_take] at hi
 have : ps[i]? = some p := by rw [← e, List.getElem_take]; exact List.getElem?_eq_getElem (by omega)
 exact (lb_at ha this).2 (by omega)
theorem hit_iff {ps : List Pr} {k : List Int} (ha : asc ps = true) : hitP ps k = true ↔ ∃ p ∈ ps, p.1 = k := by
 unfold hitP
 constructor
 ·intro h
  split at h
  ·rename_i p hp; exact ⟨p, List.mem_of_getElem? hp, by simpa using h⟩
  ·cases h
 ·rintro ⟨p, hp, rfl⟩
  obtain ⟨i, hi, e⟩ := List.mem_iff_getElem.1 hp
  have h1 : ps[i]? = some p := by rw [← e]; exact List.getElem?_eq_getElem hi
  have h2 : ¬ i < lbP ps p.1 := fun h => by have := (lb_at ha h1).2 h; rw [ltK_irr] at this; cases this
  have h3 : lbP ps p.1 < ps.length := by have := It ps p.1; omega
  have h4 : ps[lbP ps p.1]? = some ps[lbP ps p.1] := List.getElem?_eq_getElem h3
  rw [h4]
  simp only [decide_eq_true_eq]
  have h5 : ltK (ps[lbP ps p.1]).1 p.1 = false := by
   cases h6 : ltK (ps[lbP ps p.1]).1 p.1 with
   | false => rfl
   | true => have := (lb_at ha h4).1 h6; omega
  by_cases h7 : i = lbP ps p.1
  ·subst h7
   rw [h4] at h1
   exact congrArg Prod.fst (Option.some.inj h1)
  ·-- ahead of i: less
   exfalso
   have h8 : lbP ps p.1 < i := by omega
   have h9 : p ∈ ps.drop (lbP ps p.1 + 1) := by
    rw [List.mem_iff_getElem?]
    exact ⟨i - (lbP ps p.1 + 1), by rw [List.getElem?_drop, show lbP ps p.1 + 1 + (i - (lbP ps p.1 + 1)) = i by omega]; exact h1⟩
   have hd : asc (ps.drop (lbP ps p.1)) = true := by
    have : ∀ (n : Nat) (l : List Pr), asc l = true → asc (l.drop n) = true := by
     intro n
     induction n with
     | zero => intro l h; simpa using h
     | succ n ih =>
      intro l h
      cases l with
      | nil => rfl
      | cons x l => exact ih l (Hc h)
    exact this _ _ ha
   rw [List.drop_eq_getElem_cons h3] at hd
   have := Js hd p h9
   rw [this] at h5
   cases h5
end Go.Proofs.Ytojakfnljopjbaa
