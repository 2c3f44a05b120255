/-
  Chapter 12: slices.Insert of a pair into a list of pairs, in any heap.
-/
import Derived.Test.YtojakfnljopjbaaInsQ
namespace Go.Proofs.Ytojakfnljopjbaa
set_option linter.unusedSimpArgs false
set_option linter.unusedVariables false
set_option linter.unusedSectionVars false
open Go Go.RowKit
/-! ### names for the slices in cells -/
/-- A place for each cell. -/
def cellV (k : Nat) : DV → Value
  | .fl v => v
  | .sl len _ _ => .slice (some ⟨k, 0, none⟩) len (capBig + k)
def cellsV : List DV → Nat → List Value
  | [], _ => []
  | d :: ds, k => cellV k d :: cellsV ds (k + 1)
structure Pw where
  b : Nat × Nat
  c : Nat
  f : Option (List Nat)
  e : Option Addr
def pwD : Pw := ⟨(0, 0), 0, some [], none⟩
structure OnW (σ : Sg) (k : Nat) (p : Pw) : Prop where
  b : σ.b k = some p.b
  c : σ.c k = some p.c
  f : σ.f k = p.f
  e : σ.e k = p.e
theorem DR.pw {W w : World} {F : List Nat} : ∀ {d : DV} {u : Value}, DR W w F d u → ∃ p : Pw, ∀ σ k, OnW σ k p → renV σ (cellV k d) = some u
  | .fl v, u, h => by
      simp only [DR] at h
      obtain ⟨rfl, h⟩ := h
      exact ⟨pwD, fun σ k _ => h σ⟩
  | .sl len cap ds, u, h => by
      simp only [DR] at h
      rcases h with ⟨rfl, rfl, h1, a, rfl⟩ | ⟨b, s, c', rfl, h1, h2⟩
      · refine ⟨⟨(0, 0), 0, none, a⟩, fun σ k O => ?_⟩
        have e : cpR σ (capBig + k) = some 0 := by rw [cpR_big]; exact O.c
        exact (renV_nil O.b O.f rfl e).trans (by rw [O.e])
      · refine ⟨⟨(b, s), c', some [], none⟩, fun σ k O => ?_⟩
        have e : cpR σ (capBig + k) = some c' := by rw [cpR_big]; exact O.c
        have hn : σ.f k ≠ none := by rw [O.f]; intro e; cases e
        simpa [cellV] using renV_slice_mk (o := 0) (l := len) O.b e hn
theorem DRv.pw {W w : World} {F : List Nat} : ∀ {ds : List DV} {us : List Value}, DRv W w F ds us → ∃ ps : List Pw, ps.length = ds.length ∧ ∀ σ k, (∀ j p, ps[j]? = some p → OnW σ (k + j) p) → renL σ (cellsV ds k) = some us
  | [], us, h => by simp only [DRv] at h; subst h; exact ⟨[], rfl, fun σ k _ => rfl⟩
  | d :: ds, us, h => by
      simp only [DRv] at h
      obtain ⟨u, us', rfl, h1, h2⟩ := h
      obtain ⟨p, g1⟩ := h1.pw
      obtain ⟨ps, g2, g3⟩ := DRv.pw h2
      refine ⟨p :: ps, by simp [g2], fun σ k hO => renL_mk (g1 σ k (by simpa using hO 0 p rfl)) (g3 σ (k + 1) fun j q hq => ?_)⟩
      have := hO (j + 1) q (by simpa using hq)
      rwa [show k + (j + 1) = k + 1 + j by omega] at this
theorem cellsV_len : ∀ (ds : List DV) (k : Nat), (cellsV ds k).length = ds.length
  | [], k => rfl
  | d :: ds, k => by simp [cellsV, cellsV_len ds]
theorem cellsV_one : ∀ {ds : List DV} {k : Nat}, (∀ d ∈ ds, DVone d) → all1 (cellsV ds k) = true
  | [], k, _ => rfl
  | d :: ds, k, h => by
      have h1 := h d (List.mem_cons_self ..)
      have h2 := cellsV_one (k := k + 1) fun e he => h e (List.mem_cons_of_mem _ he)
      cases d with
      | fl v => simp only [cellsV, cellV, all1, show one1 v = true from h1, cond_true, h2]
      | sl len cap es => simp only [cellsV, cellV, all1, one1, cond_true, h2]
/-- Two rows of their own and, behind them, places of slices. -/
def sgI (b bv : Nat) (c : Nat) (qs : List Pw) : Sg := ⟨fun n => if n = 0 then some (b, 0) else if n = 1 then some (bv, 0) else if n < 10 then none else (qs[n - 10]?).map (·.b), fun n => if n = 0 then some c else if n < 10 then none else (qs[n - 10]?).map (·.c), fun n => if n < 10 then some [] else (match qs[n - 10]? with | some q => q.f | none => none), fun n => if n < 10 then none else (match qs[n - 10]? with | some q => q.e | none => none)⟩
theorem sgI_on {b bv c : Nat} {qs : List Pw} {j : Nat} {q : Pw} (h : qs[j]? = some q) : OnW (sgI b bv c qs) (10 + j) q := by
  have h1 : ¬ (10 + j = 0) := by omega
  have h2 : ¬ (10 + j = 1) := by omega
  have h3 : ¬ (10 + j < 10) := by omega
  have h4 : 10 + j - 10 = j := by omega
  refine ⟨?_, ?_, ?_, ?_⟩ <;> simp [sgI, h1, h2, h3, h4, h]
def insD (ds : List DV) (i : Nat) (es : List DV) : List DV := ds.take (i * 3) ++ (es ++ ds.drop (i * 3))
section
variable {W : World} {σ : Sg} {h : Hp} {w : World}
theorem insD_step (hR : Rl W σ h w) {nx : Nat} (hf : Fresh σ nx (nx + 1)) {m v n : Nat} {ds es : List DV} {xs : List Value} {ob : List Prop} {i : Int} (hlm : lk h m = some ⟨.dp 3 zPr ds, []⟩) (hlv : lk h v = some ⟨.shut, xs⟩) (hel : elD h xs = some (es, ob)) (ho : Alls ob)
    (h0 : 0 ≤ i) (hi : i ≤ (n : Int)) (hn : n ≤ 1000) (hds : ds.length = n * 3) (hxs : xs.length = 3) (h1 : ∀ d ∈ ds, DVone d) (h2 : ∀ d ∈ es, DVone d) {args' : List Value} (ha : renL σ [.slice (some ⟨m, 0, none⟩) n (capBig + m), .int .i64 i, .slice (some ⟨v, 0, none⟩) 1 1] = some args') :
    Calls Try.prog 49 args'.toArray w fun e w' => ∃ σ' v', Stp W nx (nx + 1) σ h w σ' ((nx, ⟨.dp 3 zPr (insD ds i.toNat es), []⟩) :: delH (delH h m) v) w' ∧ renV σ' (.slice (some ⟨nx, 0, none⟩) (n + 1) (capBig + nx)) = some v' ∧ e = .returned v' := by
  obtain ⟨b, s, vs0, hb, hv0, q1, q2, q3, us, tt, rest, c, hc, hblk, hrl, hcl, hrz, hdu⟩ := hR.row m _ hlm
  subst q1
  obtain ⟨bv, sv, vs, hbv, hvv, r1, r2, tv, hbk⟩ := hR.row v _ hlv
  subst r1
  have hmo : (⟨.dp 3 zPr ds, []⟩ : Rw).own := fun e => by cases e
  have hvo : (⟨.shut, xs⟩ : Rw).own := fun e => by cases e
  have hmv : m ≠ v := fun e => by subst e; rw [hlm] at hlv; cases hlv
  have hbb : b ≠ bv := fun e => hmv (hR.inj m v _ _ (b, 0) (bv, 0) hlm hlv hmo hvo hb hbv e)
  have hE := elD_ok hR hel ho hvv
  have hul := hdu.len2
  have hvl := renL_len hvv
  have hel3 : es.length = 3 := by rw [← hE.len2, hvl, hxs]
  -- places
  obtain ⟨ps, p1, p2⟩ := DRv.pw ((hdu.more fun q hq => shAll_of hlm hq).app2 hE)
  have hW : W.heap.size ≤ b ∧ W.heap.size ≤ bv := ⟨q2, r2⟩
  obtain ⟨c1, hc1⟩ : ∃ c1, cellsV ds 10 = c1 := ⟨_, rfl⟩
  obtain ⟨c2, hc2⟩ : ∃ c2, cellsV es (10 + ds.length) = c2 := ⟨_, rfl⟩
  have happ : ∀ (a b : List DV) (k : Nat), cellsV (a ++ b) k = cellsV a k ++ cellsV b (k + a.length) := by
    intro a
    induction a with
    | nil => intro b k; rfl
    | cons x a ih => intro b k; simp only [List.cons_append, cellsV, ih, List.length_cons]; rw [show k + 1 + a.length = k + (a.length + 1) by omega]
  have hren := p2 (sgI b bv c ps) 10 fun j p hp => sgI_on hp
  rw [happ, hc1, hc2] at hren
  obtain ⟨g1, g2, k1, k2, k3⟩ := renL_app_inv hren
  have hl1 : c1.length = ds.length := by rw [← hc1]; exact cellsV_len ds 10
  have hg1 : g1 = us ∧ g2 = vs := by
    have e1 : g1.length = us.length := by rw [renL_len k1, hl1, hul]
    exact (List.append_inj k3 e1.symm) |>.imp Eq.symm Eq.symm
  obtain ⟨rfl, rfl⟩ := hg1
  have hl2 : c2.length = 3 := by rw [← hc2, cellsV_len, hel3]
  have a1 : all1 c1 = true := by rw [← hc1]; exact cellsV_one h1
  have a2 : all1 c2 = true := by rw [← hc2]; exact cellsV_one h2
  have T := ipp_tri (n := n) (i := i) (cs := c1) (V := c2) h0 hi hn (by rw [hl1, hds]) hl2 a2 a1
  have hR0 : Rl W (sgI b bv c ps) (ipH ⟨.room 3 zPr, c1⟩ c2) w := by
    have cls : ∀ k r, lk (ipH ⟨.room 3 zPr, c1⟩ c2) k = some r → (k = 0 ∧ r = ⟨.room 3 zPr, c1⟩) ∨ (k = 1 ∧ r = ⟨.shut, c2⟩) := fun k r e => by
      simp only [ipH, lk_cons] at e
      split at e
      · rename_i e1; cases e; exact .inl ⟨e1.symm, rfl⟩
      · split at e
        · rename_i e1; cases e; exact .inr ⟨e1.symm, rfl⟩
        · cases e
    refine ⟨⟨hR.ext, fun k r e => ?_, fun k j r s p q hk hj hr hs hp hq e => ?_⟩, fun k r e _ => ?_, fun k r x e hx => ?_⟩
    · rcases cls k r e with ⟨rfl, rfl⟩ | ⟨rfl, rfl⟩
      · exact ⟨b, 0, g1, rfl, k1, rfl, q2, tt, rest, c, rfl, hblk, hrl, hcl, hrz⟩
      · exact ⟨bv, 0, g2, rfl, k2, rfl, r2, tv, hbk⟩
    · rcases cls k r hk with ⟨rfl, rfl⟩ | ⟨rfl, rfl⟩ <;> rcases cls j s hj with ⟨rfl, rfl⟩ | ⟨rfl, rfl⟩
      · rfl
      · simp [sgI] at hp hq; subst hp; subst hq; exact absurd e hbb
      · simp [sgI] at hp hq; subst hp; subst hq; exact absurd e.symm hbb
      · rfl
    · rcases cls k r e with ⟨rfl, _⟩ | ⟨rfl, _⟩ <;> simp [sgI]
    · rcases cls k r e with ⟨rfl, _⟩ | ⟨rfl, _⟩ <;> simp [sh, sgI] at hx
  have hB0 : Bd (ipH ⟨.room 3 zPr, c1⟩ c2) 2 := fun k hk => by
    simp only [ipH, lk_cons]
    rw [if_neg (by omega), if_neg (by omega)]
    rfl
  have hfr0 : Fresh (sgI b bv c ps) 2 6 := fun k hk1 hk2 => by
    simp only [sgI]
    rw [if_neg (by omega), if_neg (by omega), if_pos (by omega), if_neg (by omega), if_pos (by omega)]
    exact ⟨rfl, rfl⟩
  obtain ⟨x1, l1, e1, e2, rfl⟩ := renL_cons ha
  obtain ⟨x2, l2, e3, e4, rfl⟩ := renL_cons e2
  obtain ⟨x3, l3, e5, e6, rfl⟩ := renL_cons e4
  simp only [renL, Option.some.injEq] at e6
  subst e6
  have nnm : σ.f m ≠ none := hR.shr.1 m _ hlm hmo
  have nnv : σ.f v ≠ none := hR.shr.1 v _ hlv hvo
  have hx1 : x1 = .slice (some ⟨b, 0, none⟩) n c := by
    have := renV_slice_mk (l := n) (o := 0) (c := capBig + m) (c' := c) hb (by rw [cpR_big]; exact hc) nnm
    rw [this] at e1
    simpa using e1.symm
  have hx3 : x3 = .slice (some ⟨bv, 0, none⟩) 1 1 := by
    have := renV_slice_mk (l := 1) (o := 0) (c := 1) (c' := 1) hbv (by unfold cpR; rw [if_pos (by unfold capBig; omega)]) nnv
    rw [this] at e5
    simpa using e5.symm
  have hargs : renL (sgI b bv c ps) [.slice (some ⟨0, 0, none⟩) n (capBig + 0), .int .i64 i, .slice (some ⟨1, 0, none⟩) 1 1] = some [x1, x2, x3] := by
    refine renL_mk ?_ (renL_mk ?_ (renL_mk ?_ rfl))
    · rw [hx1]
      have := renV_slice_mk (σ := sgI b bv c ps) (n := 0) (l := n) (o := 0) (c := capBig + 0) (c' := c) (p := (b, 0)) rfl (by rw [cpR_big]; rfl) (by simp [sgI])
      simpa using this
    · simp only [renV] at e3 ⊢; exact e3
    · rw [hx3]
      have := renV_slice_mk (σ := sgI b bv c ps) (n := 1) (l := 1) (o := 0) (c := 1) (c' := 1) (p := (bv, 0)) rfl (by unfold cpR; rw [if_pos (by unfold capBig; omega)]) (by simp [sgI])
      simpa using this
  refine (T.2 hB0 W _ w _ hR0 hfr0 hargs).mono ?_
  rintro e w' ⟨τ, u, S, hu, rfl⟩
  simp only at S hu
  have hl5 : lk ((2 + 3, (⟨.room 3 zPr, insC c1 i c2⟩ : Rw)) :: delH (ipH ⟨.room 3 zPr, c1⟩ c2) 0) (2 + 3) = some ⟨.room 3 zPr, insC c1 i c2⟩ := by rw [lk_cons, if_pos rfl]
  obtain ⟨b', s', vs', t1, t2, t3, t4, t5, rest', c', t6, t7, t8, t9, t10⟩ := S.rl.row _ _ hl5
  subst t3
  have ho5 : (⟨.room 3 zPr, insC c1 i c2⟩ : Rw).own := fun e => by cases e
  -- what it holds
  have hcells : vs' = g1.take (i.toNat * 3) ++ (g2 ++ g1.drop (i.toNat * 3)) := by
    have y1 := renL_le S.le _ _ k1
    have y2 := renL_le S.le _ _ k2
    have y3 : renL τ (insC c1 i c2) = some (g1.take (i.toNat * 3) ++ (g2 ++ g1.drop (i.toNat * 3))) := renL_app (renL_take _ y1) (renL_app y2 (renL_drop _ y1))
    simp only at t2
    rw [y3] at t2
    exact (Option.some.inj t2).symm
  -- where it lies
  have hwh : w.heap.size ≤ b' ∨ b' = b ∨ b' = bv := by
    rcases S.src _ _ (b', 0) hl5 ho5 t1 with g | ⟨k, r, q, g1', g2', g3', g4'⟩
    · exact .inl g
    · simp only [ipH, lk_cons] at g1'
      split at g1'
      · rename_i e1; subst e1; simp [sgI] at g3'; subst g3'; exact .inr (.inl g4'.symm)
      · split at g1'
        · rename_i e1; subst e1; simp [sgI] at g3'; subst g3'; exact .inr (.inr g4'.symm)
        · cases g1'
  have same : ∀ k, k < w.heap.size → k ≠ b → k ≠ bv → w'.heap[k]? = w.heap[k]? := fun k hk hkb hkv => S.fr k hk fun j r p hj hr hp => by
    simp only [ipH, lk_cons] at hj
    split at hj
    · rename_i e1; subst e1; simp [sgI] at hp; subst hp; exact Ne.symm hkb
    · split at hj
      · rename_i e1; subst e1; simp [sgI] at hp; subst hp; exact Ne.symm hkv
      · cases hj
  have hbz : b < w.heap.size := hR.lt hlm hmo hb
  have hbvz : bv < w.heap.size := hR.lt hlv hvo hbv
  have shsame : ∀ k j s, lk h j = some s → k ∈ sh σ j → w'.heap[k]? = w.heap[k]? := fun k j s hj hk => by
    obtain ⟨g1', g2'⟩ := hR.shr.2 j s k hj hk
    exact same k g1' (fun e => g2' m _ (b, 0) hlm hmo hb e.symm) (fun e => g2' v _ (bv, 0) hlv hvo hbv e.symm)
  have FA : ∀ k, k ∈ shAll σ h → w'.heap[k]? = w.heap[k]? := fun k hk => by
    obtain ⟨j, s, hj, hk2⟩ := shAll_mem hk
    exact shsame k j s hj hk2
  have hne : ∀ j r, lk h j = some r → j ≠ nx := fun j r hj e => by
    subst e
    obtain ⟨b9, s9, v9, hb9, _⟩ := hR.row _ _ hj
    rw [(hf j (Nat.le_refl _) (by omega)).1] at hb9
    cases hb9
  obtain ⟨ρ, hρ⟩ : ∃ ρ, ρ = σ.vwc nx (b', 0) c' (some (shAll σ h)) none := ⟨_, rfl⟩
  have hbs : ∀ k, k ≠ nx → ρ.b k = σ.b k ∧ ρ.c k = σ.c k ∧ ρ.f k = σ.f k ∧ ρ.e k = σ.e k := fun k hk => by subst hρ; simp only [Sg.vwc]; rw [if_neg hk, if_neg hk, if_neg hk, if_neg hk]; exact ⟨rfl, rfl, rfl, rfl⟩
  have hbN : ρ.b nx = some (b', 0) := by subst hρ; simp [Sg.vwc]
  have hcN : ρ.c nx = some c' := by subst hρ; simp [Sg.vwc]
  have hfN : ρ.f nx = some (shAll σ h) := by subst hρ; simp [Sg.vwc]
  have hle : σ.le ρ := by
    have hf0 := hf nx (Nat.le_refl _) (by omega)
    refine ⟨fun k q e => ?_, fun k q e => ?_, fun k q e => ?_⟩
    · have hk : k ≠ nx := fun e2 => by subst e2; rw [hf0.1] at e; cases e
      rw [(hbs k hk).1]; exact e
    · have hk : k ≠ nx := fun e2 => by subst e2; rw [hf0.2] at e; cases e
      rw [(hbs k hk).2.1]; exact e
    · have hk : k ≠ nx := fun e2 => by subst e2; rw [hf0.1] at e; cases e
      exact (hbs k hk).2
  have shs : ∀ k, k ≠ nx → sh ρ k = sh σ k := fun k hk => by unfold sh; rw [(hbs k hk).2.2.1]
  have shN : sh ρ nx = shAll σ h := by unfold sh; rw [hfN]; rfl
  have cls : ∀ k r, lk ((nx, (⟨.dp 3 zPr (insD ds i.toNat es), []⟩ : Rw)) :: delH (delH h m) v) k = some r → (k = nx ∧ r = ⟨.dp 3 zPr (insD ds i.toNat es), []⟩) ∨ (k ≠ nx ∧ k ≠ m ∧ k ≠ v ∧ lk h k = some r) := fun k r e => by
    rw [lk_cons] at e
    split at e
    · rename_i e1; cases e; exact .inl ⟨e1.symm, rfl⟩
    · rename_i e1
      rw [lk_delH] at e
      split at e
      · cases e
      · rename_i e2
        rw [lk_delH] at e
        split at e
        · cases e
        · rename_i e3; exact .inr ⟨Ne.symm e1, Ne.symm e3, Ne.symm e2, e⟩
  have oblk : ∀ k r p, lk h k = some r → r.own → σ.b k = some p → k ≠ m → k ≠ v → p.1 < w.heap.size ∧ p.1 ≠ b ∧ p.1 ≠ bv := fun k r p hk hr hp h3 h4 => ⟨hR.lt hk hr hp, fun e => h3 (hR.inj k m r _ p (b, 0) hk hlm hr hmo hp hb e), fun e => h4 (hR.inj k v r _ p (bv, 0) hk hlv hr hvo hp hbv e)⟩
  refine ⟨ρ, u, ⟨hle, fun k hk => ?_, ⟨⟨S.rl.ext, fun k r hk => ?_, fun k j r s p q hk hj hr hs hp hq e => ?_⟩, fun k r hk hr => ?_, fun k r x hk hx => ?_⟩, S.size, fun k hk hno => ?_, fun k r p hk hr hp => ?_, fun k r x hk hx => ?_⟩, ?_, rfl⟩
  · have hk2 : k ≠ nx := by omega
    exact ⟨(hbs k hk2).1, (hbs k hk2).2.1⟩
  · rcases cls k r hk with ⟨rfl, rfl⟩ | ⟨e1, e2, e3, e4⟩
    · refine ⟨b', 0, [], hbN, rfl, rfl, t4, rfl, vs', t5, rest', c', hcN, t7, t8, t9, t10, ?_⟩
      rw [shN, hcells]
      have d1 : DRv W w (shAll σ h) ds g1 := hdu.more fun q hq => shAll_of hlm hq
      exact DRv.keep FA _ _ ((d1.take _).app2 (hE.app2 (d1.dropv _)))
    · exact (hR.row k r e4).keep hle (fun hr p hp => by
        obtain ⟨y1, y2, y3⟩ := oblk k r p e4 hr hp e2 e3
        exact same _ y1 y2 y3) fun q hq => shsame q k r e4 hq
  · have ob' : ∀ k r p, k ≠ nx → k ≠ m → k ≠ v → lk h k = some r → r.own → ρ.b k = some p → p.1 ≠ b' := fun k r p h1' h2' h3' h4' h5' h6' e => by
      rw [(hbs k h1').1] at h6'
      obtain ⟨y1, y2, y3⟩ := oblk k r p h4' h5' h6' h2' h3'
      rcases hwh with y | y | y
      · omega
      · exact y2 (e.trans y)
      · exact y3 (e.trans y)
    rcases cls k r hk with ⟨rfl, rfl⟩ | ⟨e1', e2', e3', e4'⟩ <;> rcases cls j s hj with ⟨f1, f2⟩ | ⟨f1, f2, f3, f4⟩
    · exact f1.symm
    · rw [hbN] at hp; cases hp
      exact absurd e.symm (ob' j s q f1 f2 f3 f4 hs hq)
    · subst f1
      rw [hbN] at hq; cases hq
      exact absurd e (ob' k r p e1' e2' e3' e4' hr hp)
    · rw [(hbs k e1').1] at hp
      rw [(hbs j f1).1] at hq
      exact hR.inj k j r s p q e4' f4 hr hs hp hq e
  · rcases cls k r hk with ⟨rfl, rfl⟩ | ⟨e1', e2', e3', e4'⟩
    · rw [hfN]; intro e; cases e
    · rw [(hbs k e1').2.2.1]; exact hR.shr.1 k r e4' hr
  · have hsrc : ∃ j s, lk h j = some s ∧ x ∈ sh σ j := by
      rcases cls k r hk with ⟨rfl, rfl⟩ | ⟨e1', e2', e3', e4'⟩
      · rw [shN] at hx; exact shAll_mem hx
      · rw [shs k e1'] at hx; exact ⟨k, r, e4', hx⟩
    obtain ⟨j, s, hj, hxj⟩ := hsrc
    obtain ⟨y1, y2⟩ := hR.shr.2 j s x hj hxj
    refine ⟨Nat.lt_of_lt_of_le y1 S.size, fun k2 r2 q hk2 hr2 hq => ?_⟩
    rcases cls k2 r2 hk2 with ⟨rfl, rfl⟩ | ⟨e1', e2', e3', e4'⟩
    · rw [hbN] at hq; cases hq
      rcases hwh with y | y | y
      · intro e; simp only at e; omega
      · intro e; exact y2 m _ (b, 0) hlm hmo hb (y.symm.trans e)
      · intro e; exact y2 v _ (bv, 0) hlv hvo hbv (y.symm.trans e)
    · rw [(hbs k2 e1').1] at hq; exact y2 k2 r2 q e4' hr2 hq
  · exact same k hk (fun e => hno m _ (b, 0) hlm hmo hb e.symm) (fun e => hno v _ (bv, 0) hlv hvo hbv e.symm)
  · rcases cls k r hk with ⟨rfl, rfl⟩ | ⟨e1', e2', e3', e4'⟩
    · rw [hbN] at hp; cases hp
      rcases hwh with y | y | y
      · exact .inl y
      · exact .inr ⟨m, _, (b, 0), hlm, hmo, hb, y.symm⟩
      · exact .inr ⟨v, _, (bv, 0), hlv, hvo, hbv, y.symm⟩
    · rw [(hbs k e1').1] at hp; exact .inr ⟨k, r, p, e4', hr, hp, rfl⟩
  · rcases cls k r hk with ⟨rfl, rfl⟩ | ⟨e1', e2', e3', e4'⟩
    · rw [shN] at hx; exact .inr (.inr (shAll_mem hx))
    · rw [shs k e1'] at hx; exact .inr (.inr ⟨k, r, e4', hx⟩)
  · have y1 := renV_slice_mk (σ := τ) (l := n + 1) (o := 0) (c := capBig + (2 + 3)) (c' := c') t1 (by rw [cpR_big]; exact t6) (S.rl.shr.1 _ _ hl5 ho5)
    rw [y1] at hu
    rw [renV_slice_mk (σ := ρ) (l := n + 1) (o := 0) (c := capBig + nx) (c' := c') hbN (by rw [cpR_big]; exact hcN) (by rw [hfN]; intro e; cases e)]
    exact hu
end
end Go.Proofs.Ytojakfnljopjbaa
