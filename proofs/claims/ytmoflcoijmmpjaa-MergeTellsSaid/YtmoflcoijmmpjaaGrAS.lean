/-
  Chapter 14: merge.heap.down: its loop's law, its contract.
-/
import Derived.Test.YtmoflcoijmmpjaaGrAR
import Derived.Test.YtmoflcoijmmpjaaGrAP
namespace Go.Proofs.Ytmoflcoijmmpjaa
set_option linter.unusedSimpArgs false
set_option linter.unusedVariables false
set_option linter.unusedSectionVars false
open Go Go.RowKit
theorem dwX {L : LFun} {T : TFun} : XOkZ (mdwV L T) Try.prog := XOneZ.ok cmpY_ok rfl
theorem dwT {L : LFun} : TOkZ (mdwV L noTz) Try.prog := noTz_okV rfl
theorem dwL {T : TFun} : LOkZ (mdwV noL T) Try.prog := noL_okV rfl
theorem dw_row {lo N : Nat} {ρ : Nat → Nat} {h0 h1 : Hp} {n m sz : Nat} {z : List Value} {ds : List DV} (hn : fnN lo N ρ n = some m) (hl : lk h1 m = some ⟨.dw sz z ds, []⟩) : RbRow lo N ρ h0 h1 n ⟨.dw sz z ds, []⟩ := rb_rec hn hl trivial
theorem dw_eq {Y X : List DV} (h : Y = X) : some (Rw.mk (.dw 2 zHd Y) []) = some (Rw.mk (.dw 2 zHd X) []) := by rw [h]
theorem obHd (ds : List DV) (o nx : Nat) : ShOb Try.prog 56 true true ds o nx = Alls [DSl ds (o + 0) (dLen ds (o + 0)) none (dSub ds (o + 0)), ds[o + 1]? = some (.fl (.int .i64 (dInt ds (o + 1))))] := by kernel_rfl
theorem setD_len {ds es : List DV} {o : Nat} (h : o + es.length ≤ ds.length) : (setD ds o es).length = ds.length := by
 simp only [setD, List.length_append, List.length_take, List.length_drop]; omega
theorem hdD_len (H : List Hd) : (hdD H).length = H.length * 2 := by
 induction H with
 | nil => rfl
 | cons x H ih => simp only [hdD, List.flatMap_cons, List.length_append, List.length_cons, List.length_nil] at ih ⊢; rw [ih]; omega
theorem hdD_cons (x : Hd) (H : List Hd) : hdD (x :: H) = .sl x.1.length none (cpD x.1) :: .fl (.int .i64 (x.2 : Int)) :: hdD H := rfl
theorem hdD_at : ∀ {H : List Hd} {c : Nat} {x : Hd}, H[c]? = some x → (hdD H)[c * 2]? = some (.sl x.1.length none (cpD x.1)) ∧ (hdD H)[c * 2 + 1]? = some (.fl (.int .i64 (x.2 : Int)))
 | [], c, x, h => by simp at h
 | y :: H, 0, x, h => by
   simp only [List.getElem?_cons_zero, oI] at h
   subst h
   exact ⟨rfl, rfl⟩
 | y :: H, c + 1, x, h => by
   obtain ⟨h1, h2⟩ := hdD_at (H := H) (c := c) (by simpa using h)
   rw [hdD_cons, show (c + 1) * 2 = c * 2 + 1 + 1 by omega]
   exact ⟨by simpa using h1, by simpa using h2⟩
theorem hdD_set : ∀ {H : List Hd} {i : Nat} (x : Hd), i < H.length → setD (hdD H) (i * 2) [.sl x.1.length none (cpD x.1), .fl (.int .i64 (x.2 : Int))] = hdD (H.set i x)
 | [], i, x, h => by simp at h
 | y :: H, 0, x, h => by simp [setD, hdD_cons]
 | y :: H, i + 1, x, h => by
   have ih := hdD_set (H := H) (i := i) x (by simpa using h)
   rw [List.set_cons_succ, hdD_cons, hdD_cons, ← ih, show (i + 1) * 2 = i * 2 + 1 + 1 by omega]
   simp only [setD, List.take_succ_cons, List.cons_append, List.length_cons, List.length_nil]
   rw [show i * 2 + 1 + 1 + (0 + 1 + 1) = i * 2 + (0 + 1 + 1) + 1 + 1 by omega, List.drop_succ_cons, List.drop_succ_cons]
structure HdOk (x : Hd) : Prop where
 ne : x.1 ≠ []
 O : ∀ p ∈ x.1, PrOk p
 l : x.1.length ≤ 9000000
 a : x.2 ≤ 9000000
structure HdAt (ds : List DV) (c : Nat) (x : Hd) (k : List Int) : Prop where
 n : dLen ds (c * 2) = x.1.length
 s : dSub ds (c * 2) = cpD x.1
 a : dInt ds (c * 2 + 1) = (x.2 : Int)
 o : ∀ nx, ShOb Try.prog 56 true true ds (c * 2) nx
 pos : 0 < x.1.length
 k0 : dLen (cpD x.1) 0 = k.length
 kv : dVals (cpD x.1) 0 = byV k
 ko : ∀ nx, ShOb Try.prog 23 false true (cpD x.1) 0 nx
 y : BytI k.length (byV k)
theorem hd_at {H : List Hd} {c : Nat} (hc : c < H.length) (h : HdOk (gH H c)) : HdAt (hdD H) c (gH H c) (kyH (gH H c)) := by
 obtain ⟨x, hx⟩ : ∃ x, gH H c = x := ⟨_, rfl⟩
 have hg : H[c]? = some x := by
  rw [← hx]
  unfold gH
  rw [List.getElem?_eq_getElem hc]
  rfl
 rw [hx] at h ⊢
 obtain ⟨g1, g2⟩ := hdD_at hg
 obtain ⟨p, r, e⟩ := List.exists_cons_of_ne_nil h.ne
 have F := (cpD_prs x.1).facts (i := 0) (p := p) (by rw [e]; rfl)
 have hk : kyH x = p.1 := by unfold kyH; rw [e]
 have e1 : dLen (hdD H) (c * 2) = x.1.length := by unfold dLen; rw [g1]
 have e2 : dSub (hdD H) (c * 2) = cpD x.1 := by unfold dSub; rw [g1]
 have e3 : dInt (hdD H) (c * 2 + 1) = (x.2 : Int) := by unfold dInt; rw [g2]
 have f1 := F.l0
 have f2 := F.v0
 have f3 := F.o27
 rw [Nat.zero_mul] at f1 f2 f3
 refine ⟨e1, e2, e3, fun nx => ?_, by rw [e]; simp, by rw [hk]; exact f1, by rw [hk]; exact f2, f3, by rw [hk]; exact byV_bytI (h.O p (by rw [e]; exact List.mem_cons_self ..)).1⟩
 rw [obHd]
 simp only [Nat.add_zero]
 exact ⟨⟨none, by rw [e1, e2]; exact g1, .inl rfl⟩, by rw [e3]; exact g2, trivial⟩
theorem ahd_cases (x y : Hd) : (cmpI (kyH x) (kyH y) < 0 ∧ ahd x y = true) ∨ (¬ cmpI (kyH x) (kyH y) < 0 ∧ cmpI (kyH x) (kyH y) = 0 ∧ x.2 < y.2 ∧ ahd x y = true) ∨ (¬ cmpI (kyH x) (kyH y) < 0 ∧ cmpI (kyH x) (kyH y) = 0 ∧ ¬ x.2 < y.2 ∧ ahd x y = false) ∨ (¬ cmpI (kyH x) (kyH y) < 0 ∧ ¬ cmpI (kyH x) (kyH y) = 0 ∧ ahd x y = false) := by
 unfold ahd
 rw [ltK_cmp]
 by_cases h1 : cmpI (kyH x) (kyH y) < 0
 ·exact .inl ⟨h1, by simp [h1]⟩
 ·by_cases h2 : cmpI (kyH x) (kyH y) = 0
  ·have h3 := (cmpI_zero _ _).1 h2
   by_cases h4 : x.2 < y.2
   ·exact .inr (.inl ⟨h1, h2, h4, by simp [h3, h4]⟩)
   ·exact .inr (.inr (.inl ⟨h1, h2, h4, by simp [h1, h4]⟩))
  ·have h3 : ¬ kyH x = kyH y := fun e => h2 ((cmpI_zero _ _).2 e)
   exact .inr (.inr (.inr ⟨h1, h2, by simp [h1, h3]⟩))
theorem dn_stop {H : List Hd} {n i : Nat} (h : l2H H n i = i) : ∀ f, dnH f H n i = H
 | 0 => rfl
 | f + 1 => by simp only [dnH, h, decide_true, cond_true]
theorem sw_ok {H : List Hd} {n i m : Nat} (hl : n ≤ H.length) (hi : i < n) (hm : m < n) (h : ∀ j, j < n → HdOk (gH H j)) : ∀ j, j < n → HdOk (gH (swH H i m) j) := fun j hj => by
 rw [gH_sw (by omega) (by omega)]
 split
 ·exact h i hi
 ·split
  ·exact h m hm
  ·exact h j hj
set_option maxHeartbeats 2000000 in
theorem dn_loop {inr : Bool} {h0 : Hp} {n : Nat} (hn : n ≤ 100) : ∀ (f : Nat) (H : List Hd) (i : Nat), n ≤ H.length → n - i ≤ f → i ≤ 200 → (∀ j, j < n → HdOk (gH H j)) →
  LRuns inr Try.prog (bodyIn Try.prog 32 0) 1 40 h0 51 [(0, haA n), (1, iV i)] [(0, ⟨.dw 2 zHd (hdD H), []⟩)] 1 (.ret, [], [(0, ⟨.dw 2 zHd (hdD (dnH f H n i)), []⟩)])
 | f, H, i, hl, hf, hi2, hO => by
   by_cases h1 : 2 * i + 1 < n
   case neg =>
    have e : l2H H n i = i := by simp [l2H, lsH, h1, show ¬ 2 * i + 2 < n by omega]
    rw [dn_stop e]
    refine LRuns.exit (code_runsP dwX dwL (runZ_ok dwX dwT dwL mixed 12) mixed (dw_z inr n i (hdD H)) ?_) (by intro e; cases e) rfl (by omega) (by omega) (fun n => n) ?_ ?_ rfl
    ·simp only [Alls, rg, decide_eq_true_eq, decide_eq_false_iff_not, beq_iff_eq]
     repeat' (with_reducible apply And.intro)
     all_goals first | omega | (with_reducible exact trivial)
    ·trivial
    ·exact ⟨dw_row (m := 0) rfl rfl, trivial⟩
   have c2e : 2 * i + 1 + 1 = 2 * i + 2 := by omega
   have hlD := hdD_len H
   have A0 := hd_at (H := H) (c := i) (by omega) (hO i (by omega))
   have A1 := hd_at (H := H) (c := 2 * i + 1) (by omega) (hO _ h1)
   have p0 := A0.pos
   have p1 := A1.pos
   obtain ⟨f, rfl⟩ : ∃ g, f = g + 1 := ⟨f - 1, by omega⟩
   by_cases h2 : 2 * i + 2 < n
   case neg =>
    have A2 := A1
    rcases ahd_cases (gH H (2 * i + 1)) (gH H i) with ⟨s1, q⟩ | ⟨s1, s2, s3, q⟩ | ⟨s1, s2, s3, q⟩ | ⟨s1, s2, q⟩
    ·
     have e : l2H H n i = 2 * i + 1 := by simp [l2H, lsH, h1, h2, q]
     have ed : dnH (f + 1) H n i = dnH f (swH H i (2 * i + 1)) n (2 * i + 1) := by simp only [dnH, e, decide_eq_false (show ¬ 2 * i + 1 = i by omega), cond_false]
     rw [ed]
     have nx := dn_loop (inr := inr) (h0 := h0) hn f (swH H i (2 * i + 1)) (2 * i + 1) (by rw [swH_len]; exact hl) (by omega) (by omega) (sw_ok hl (by omega) (by omega) hO)
     refine LRuns.step (code_runsP dwX dwL (runZ_ok dwX dwT dwL mixed 12) mixed (dw_ol inr n i (hdD H)) ?_) rfl (by omega) (by omega) (fun n => n) ?_ ?_ rfl nx
     ·
      simp only [Alls, rg, decide_eq_true_eq, decide_eq_false_iff_not, beq_iff_eq, beq_eq_false_iff_ne, Nat.add_zero, byV_ints, c2e, A0.n, A0.s, A0.a, A1.n, A1.s, A1.a, A0.k0, A0.kv, A1.k0, A1.kv]
      repeat' (with_reducible apply And.intro)
      all_goals first | omega | (with_reducible assumption) | exact A0.o _ | exact A0.ko _ | exact A1.o _ | exact A1.ko _ | exact A2.o _ | exact A2.ko _ | (with_reducible exact trivial) | exact A0.y | exact A1.y | exact A2.y | (with_reducible rfl) | exact fun e => absurd (A0.n.symm.trans e) (by omega) | exact fun e => absurd (A1.n.symm.trans e) (by omega) | exact fun e => absurd (A2.n.symm.trans e) (by omega) | (rw [setD_len (by simp only [List.length_cons, List.length_nil]; omega)]; omega) | skip
     ·exact ⟨rfl, rb_slg rfl rfl, rfl, rfl, trivial⟩
     ·refine ⟨dw_row (m := 0) rfl (dw_eq ?_), trivial⟩
      simp only [Nat.add_zero, c2e, A0.n, A0.s, A0.a, A1.n, A1.s, A1.a]
      rw [hdD_set _ (by omega), hdD_set _ (by rw [List.length_set]; omega)]
      rfl
    ·
     have e : l2H H n i = 2 * i + 1 := by simp [l2H, lsH, h1, h2, q]
     have ed : dnH (f + 1) H n i = dnH f (swH H i (2 * i + 1)) n (2 * i + 1) := by simp only [dnH, e, decide_eq_false (show ¬ 2 * i + 1 = i by omega), cond_false]
     rw [ed]
     have nx := dn_loop (inr := inr) (h0 := h0) hn f (swH H i (2 * i + 1)) (2 * i + 1) (by rw [swH_len]; exact hl) (by omega) (by omega) (sw_ok hl (by omega) (by omega) hO)
     refine LRuns.step (code_runsP dwX dwL (runZ_ok dwX dwT dwL mixed 12) mixed (dw_oa inr n i (hdD H)) ?_) rfl (by omega) (by omega) (fun n => n) ?_ ?_ rfl nx
     ·
      simp only [Alls, rg, decide_eq_true_eq, decide_eq_false_iff_not, beq_iff_eq, beq_eq_false_iff_ne, Nat.add_zero, byV_ints, c2e, A0.n, A0.s, A0.a, A1.n, A1.s, A1.a, A0.k0, A0.kv, A1.k0, A1.kv]
      repeat' (with_reducible apply And.intro)
      all_goals first | omega | (with_reducible assumption) | exact A0.o _ | exact A0.ko _ | exact A1.o _ | exact A1.ko _ | exact A2.o _ | exact A2.ko _ | (with_reducible exact trivial) | exact A0.y | exact A1.y | exact A2.y | (with_reducible rfl) | exact fun e => absurd (A0.n.symm.trans e) (by omega) | exact fun e => absurd (A1.n.symm.trans e) (by omega) | exact fun e => absurd (A2.n.symm.trans e) (by omega) | (rw [setD_len (by simp only [List.length_cons, List.length_nil]; omega)]; omega) | skip
     ·exact ⟨rfl, rb_slg rfl rfl, rfl, rfl, trivial⟩
     ·refine ⟨dw_row (m := 0) rfl (dw_eq ?_), trivial⟩
      simp only [Nat.add_zero, c2e, A0.n, A0.s, A0.a, A1.n, A1.s, A1.a]
      rw [hdD_set _ (by omega), hdD_set _ (by rw [List.length_set]; omega)]
      rfl
    ·
     have e : l2H H n i = i := by simp [l2H, lsH, h1, h2, q]
     rw [dn_stop e]
     refine LRuns.exit (code_runsP dwX dwL (runZ_ok dwX dwT dwL mixed 12) mixed (dw_ob inr n i (hdD H)) ?_) (by intro e; cases e) rfl (by omega) (by omega) (fun n => n) ?_ ?_ rfl
     ·
      simp only [Alls, rg, decide_eq_true_eq, decide_eq_false_iff_not, beq_iff_eq, beq_eq_false_iff_ne, Nat.add_zero, byV_ints, c2e, A0.n, A0.s, A0.a, A1.n, A1.s, A1.a, A0.k0, A0.kv, A1.k0, A1.kv]
      repeat' (with_reducible apply And.intro)
      all_goals first | omega | (with_reducible assumption) | exact A0.o _ | exact A0.ko _ | exact A1.o _ | exact A1.ko _ | exact A2.o _ | exact A2.ko _ | (with_reducible exact trivial) | exact A0.y | exact A1.y | exact A2.y | (with_reducible rfl) | exact fun e => absurd (A0.n.symm.trans e) (by omega) | exact fun e => absurd (A1.n.symm.trans e) (by omega) | exact fun e => absurd (A2.n.symm.trans e) (by omega) | (rw [setD_len (by simp only [List.length_cons, List.length_nil]; omega)]; omega) | skip
     ·trivial
     ·exact ⟨dw_row (m := 0) rfl rfl, trivial⟩
    ·
     have e : l2H H n i = i := by simp [l2H, lsH, h1, h2, q]
     rw [dn_stop e]
     refine LRuns.exit (code_runsP dwX dwL (runZ_ok dwX dwT dwL mixed 12) mixed (dw_og inr n i (hdD H)) ?_) (by intro e; cases e) rfl (by omega) (by omega) (fun n => n) ?_ ?_ rfl
     ·
      simp only [Alls, rg, decide_eq_true_eq, decide_eq_false_iff_not, beq_iff_eq, beq_eq_false_iff_ne, Nat.add_zero, byV_ints, c2e, A0.n, A0.s, A0.a, A1.n, A1.s, A1.a, A0.k0, A0.kv, A1.k0, A1.kv]
      repeat' (with_reducible apply And.intro)
      all_goals first | omega | (with_reducible assumption) | exact A0.o _ | exact A0.ko _ | exact A1.o _ | exact A1.ko _ | exact A2.o _ | exact A2.ko _ | (with_reducible exact trivial) | exact A0.y | exact A1.y | exact A2.y | (with_reducible rfl) | exact fun e => absurd (A0.n.symm.trans e) (by omega) | exact fun e => absurd (A1.n.symm.trans e) (by omega) | exact fun e => absurd (A2.n.symm.trans e) (by omega) | (rw [setD_len (by simp only [List.length_cons, List.length_nil]; omega)]; omega) | skip
     ·trivial
     ·exact ⟨dw_row (m := 0) rfl rfl, trivial⟩
   have A2 := hd_at (H := H) (c := 2 * i + 2) (by omega) (hO _ h2)
   have p2 := A2.pos
   rcases ahd_cases (gH H (2 * i + 1)) (gH H i) with ⟨s1, q⟩ | ⟨s1, s2, s3, q⟩ | ⟨s1, s2, s3, q⟩ | ⟨s1, s2, q⟩
   ·rcases ahd_cases (gH H (2 * i + 2)) (gH H (2 * i + 1)) with ⟨t1, r⟩ | ⟨t1, t2, t3, r⟩ | ⟨t1, t2, t3, r⟩ | ⟨t1, t2, r⟩
    ·
     have e : l2H H n i = 2 * i + 2 := by simp [l2H, lsH, h1, h2, q, r]
     have ed : dnH (f + 1) H n i = dnH f (swH H i (2 * i + 2)) n (2 * i + 2) := by simp only [dnH, e, decide_eq_false (show ¬ 2 * i + 2 = i by omega), cond_false]
     rw [ed]
     have nx := dn_loop (inr := inr) (h0 := h0) hn f (swH H i (2 * i + 2)) (2 * i + 2) (by rw [swH_len]; exact hl) (by omega) (by omega) (sw_ok hl (by omega) (by omega) hO)
     refine LRuns.step (code_runsP dwX dwL (runZ_ok dwX dwT dwL mixed 12) mixed (dw_tll inr n i (hdD H)) ?_) rfl (by omega) (by omega) (fun n => n) ?_ ?_ rfl nx
     ·
      simp only [Alls, rg, decide_eq_true_eq, decide_eq_false_iff_not, beq_iff_eq, beq_eq_false_iff_ne, Nat.add_zero, byV_ints, c2e, A0.n, A0.s, A0.a, A1.n, A1.s, A1.a, A2.n, A2.s, A2.a, A0.k0, A0.kv, A1.k0, A1.kv, A2.k0, A2.kv]
      repeat' (with_reducible apply And.intro)
      all_goals first | omega | (with_reducible assumption) | exact A0.o _ | exact A0.ko _ | exact A1.o _ | exact A1.ko _ | exact A2.o _ | exact A2.ko _ | (with_reducible exact trivial) | exact A0.y | exact A1.y | exact A2.y | (with_reducible rfl) | exact fun e => absurd (A0.n.symm.trans e) (by omega) | exact fun e => absurd (A1.n.symm.trans e) (by omega) | exact fun e => absurd (A2.n.symm.trans e) (by omega) | (rw [setD_len (by simp only [List.length_cons, List.length_nil]; omega)]; omega) | skip
     ·exact ⟨rfl, rb_slg rfl rfl, rfl, rfl, trivial⟩
     ·refine ⟨dw_row (m := 0) rfl (dw_eq ?_), trivial⟩
      simp only [Nat.add_zero, c2e, A0.n, A0.s, A0.a, A1.n, A1.s, A1.a, A2.n, A2.s, A2.a]
      rw [hdD_set _ (by omega), hdD_set _ (by rw [List.length_set]; omega)]
      rfl
    ·
     have e : l2H H n i = 2 * i + 2 := by simp [l2H, lsH, h1, h2, q, r]
     have ed : dnH (f + 1) H n i = dnH f (swH H i (2 * i + 2)) n (2 * i + 2) := by simp only [dnH, e, decide_eq_false (show ¬ 2 * i + 2 = i by omega), cond_false]
     rw [ed]
     have nx := dn_loop (inr := inr) (h0 := h0) hn f (swH H i (2 * i + 2)) (2 * i + 2) (by rw [swH_len]; exact hl) (by omega) (by omega) (sw_ok hl (by omega) (by omega) hO)
     refine LRuns.step (code_runsP dwX dwL (runZ_ok dwX dwT dwL mixed 12) mixed (dw_tla inr n i (hdD H)) ?_) rfl (by omega) (by omega) (fun n => n) ?_ ?_ rfl nx
     ·
      simp only [Alls, rg, decide_eq_true_eq, decide_eq_false_iff_not, beq_iff_eq, beq_eq_false_iff_ne, Nat.add_zero, byV_ints, c2e, A0.n, A0.s, A0.a, A1.n, A1.s, A1.a, A2.n, A2.s, A2.a, A0.k0, A0.kv, A1.k0, A1.kv, A2.k0, A2.kv]
      repeat' (with_reducible apply And.intro)
      all_goals first | omega | (with_reducible assumption) | exact A0.o _ | exact A0.ko _ | exact A1.o _ | exact A1.ko _ | exact A2.o _ | exact A2.ko _ | (with_reducible exact trivial) | exact A0.y | exact A1.y | exact A2.y | (with_reducible rfl) | exact fun e => absurd (A0.n.symm.trans e) (by omega) | exact fun e => absurd (A1.n.symm.trans e) (by omega) | exact fun e => absurd (A2.n.symm.trans e) (by omega) | (rw [setD_len (by simp only [List.length_cons, List.length_nil]; omega)]; omega) | skip
     ·exact ⟨rfl, rb_slg rfl rfl, rfl, rfl, trivial⟩
     ·refine ⟨dw_row (m := 0) rfl (dw_eq ?_), trivial⟩
      simp only [Nat.add_zero, c2e, A0.n, A0.s, A0.a, A1.n, A1.s, A1.a, A2.n, A2.s, A2.a]
      rw [hdD_set _ (by omega), hdD_set _ (by rw [List.length_set]; omega)]
      rfl
    ·
     have e : l2H H n i = 2 * i + 1 := by simp [l2H, lsH, h1, h2, q, r]
     have ed : dnH (f + 1) H n i = dnH f (swH H i (2 * i + 1)) n (2 * i + 1) := by simp only [dnH, e, decide_eq_false (show ¬ 2 * i + 1 = i by omega), cond_false]
     rw [ed]
     have nx := dn_loop (inr := inr) (h0 := h0) hn f (swH H i (2 * i + 1)) (2 * i + 1) (by rw [swH_len]; exact hl) (by omega) (by omega) (sw_ok hl (by omega) (by omega) hO)
     refine LRuns.step (code_runsP dwX dwL (runZ_ok dwX dwT dwL mixed 12) mixed (dw_tlb inr n i (hdD H)) ?_) rfl (by omega) (by omega) (fun n => n) ?_ ?_ rfl nx
     ·
      simp only [Alls, rg, decide_eq_true_eq, decide_eq_false_iff_not, beq_iff_eq, beq_eq_false_iff_ne, Nat.add_zero, byV_ints, c2e, A0.n, A0.s, A0.a, A1.n, A1.s, A1.a, A2.n, A2.s, A2.a, A0.k0, A0.kv, A1.k0, A1.kv, A2.k0, A2.kv]
      repeat' (with_reducible apply And.intro)
      all_goals first | omega | (with_reducible assumption) | exact A0.o _ | exact A0.ko _ | exact A1.o _ | exact A1.ko _ | exact A2.o _ | exact A2.ko _ | (with_reducible exact trivial) | exact A0.y | exact A1.y | exact A2.y | (with_reducible rfl) | exact fun e => absurd (A0.n.symm.trans e) (by omega) | exact fun e => absurd (A1.n.symm.trans e) (by omega) | exact fun e => absurd (A2.n.symm.trans e) (by omega) | (rw [setD_len (by simp only [List.length_cons, List.length_nil]; omega)]; omega) | skip
     ·exact ⟨rfl, rb_slg rfl rfl, rfl, rfl, trivial⟩
     ·refine ⟨dw_row (m := 0) rfl (dw_eq ?_), trivial⟩
      simp only [Nat.add_zero, c2e, A0.n, A0.s, A0.a, A1.n, A1.s, A1.a, A2.n, A2.s, A2.a]
      rw [hdD_set _ (by omega), hdD_set _ (by rw [List.length_set]; omega)]
      rfl
    ·
     have e : l2H H n i = 2 * i + 1 := by simp [l2H, lsH, h1, h2, q, r]
     have ed : dnH (f + 1) H n i = dnH f (swH H i (2 * i + 1)) n (2 * i + 1) := by simp only [dnH, e, decide_eq_false (show ¬ 2 * i + 1 = i by omega), cond_false]
     rw [ed]
     have nx := dn_loop (inr := inr) (h0 := h0) hn f (swH H i (2 * i + 1)) (2 * i + 1) (by rw [swH_len]; exact hl) (by omega) (by omega) (sw_ok hl (by omega) (by omega) hO)
     refine LRuns.step (code_runsP dwX dwL (runZ_ok dwX dwT dwL mixed 12) mixed (dw_tlg inr n i (hdD H)) ?_) rfl (by omega) (by omega) (fun n => n) ?_ ?_ rfl nx
     ·
      simp only [Alls, rg, decide_eq_true_eq, decide_eq_false_iff_not, beq_iff_eq, beq_eq_false_iff_ne, Nat.add_zero, byV_ints, c2e, A0.n, A0.s, A0.a, A1.n, A1.s, A1.a, A2.n, A2.s, A2.a, A0.k0, A0.kv, A1.k0, A1.kv, A2.k0, A2.kv]
      repeat' (with_reducible apply And.intro)
      all_goals first | omega | (with_reducible assumption) | exact A0.o _ | exact A0.ko _ | exact A1.o _ | exact A1.ko _ | exact A2.o _ | exact A2.ko _ | (with_reducible exact trivial) | exact A0.y | exact A1.y | exact A2.y | (with_reducible rfl) | exact fun e => absurd (A0.n.symm.trans e) (by omega) | exact fun e => absurd (A1.n.symm.trans e) (by omega) | exact fun e => absurd (A2.n.symm.trans e) (by omega) | (rw [setD_len (by simp only [List.length_cons, List.length_nil]; omega)]; omega) | skip
     ·exact ⟨rfl, rb_slg rfl rfl, rfl, rfl, trivial⟩
     ·refine ⟨dw_row (m := 0) rfl (dw_eq ?_), trivial⟩
      simp only [Nat.add_zero, c2e, A0.n, A0.s, A0.a, A1.n, A1.s, A1.a, A2.n, A2.s, A2.a]
      rw [hdD_set _ (by omega), hdD_set _ (by rw [List.length_set]; omega)]
      rfl
   ·rcases ahd_cases (gH H (2 * i + 2)) (gH H (2 * i + 1)) with ⟨t1, r⟩ | ⟨t1, t2, t3, r⟩ | ⟨t1, t2, t3, r⟩ | ⟨t1, t2, r⟩
    ·
     have e : l2H H n i = 2 * i + 2 := by simp [l2H, lsH, h1, h2, q, r]
     have ed : dnH (f + 1) H n i = dnH f (swH H i (2 * i + 2)) n (2 * i + 2) := by simp only [dnH, e, decide_eq_false (show ¬ 2 * i + 2 = i by omega), cond_false]
     rw [ed]
     have nx := dn_loop (inr := inr) (h0 := h0) hn f (swH H i (2 * i + 2)) (2 * i + 2) (by rw [swH_len]; exact hl) (by omega) (by omega) (sw_ok hl (by omega) (by omega) hO)
     refine LRuns.step (code_runsP dwX dwL (runZ_ok dwX dwT dwL mixed 12) mixed (dw_tal inr n i (hdD H)) ?_) rfl (by omega) (by omega) (fun n => n) ?_ ?_ rfl nx
     ·
      simp only [Alls, rg, decide_eq_true_eq, decide_eq_false_iff_not, beq_iff_eq, beq_eq_false_iff_ne, Nat.add_zero, byV_ints, c2e, A0.n, A0.s, A0.a, A1.n, A1.s, A1.a, A2.n, A2.s, A2.a, A0.k0, A0.kv, A1.k0, A1.kv, A2.k0, A2.kv]
      repeat' (with_reducible apply And.intro)
      all_goals first | omega | (with_reducible assumption) | exact A0.o _ | exact A0.ko _ | exact A1.o _ | exact A1.ko _ | exact A2.o _ | exact A2.ko _ | (with_reducible exact trivial) | exact A0.y | exact A1.y | exact A2.y | (with_reducible rfl) | exact fun e => absurd (A0.n.symm.trans e) (by omega) | exact fun e => absurd (A1.n.symm.trans e) (by omega) | exact fun e => absurd (A2.n.symm.trans e) (by omega) | (rw [setD_len (by simp only [List.length_cons, List.length_nil]; omega)]; omega) | skip
     ·exact ⟨rfl, rb_slg rfl rfl, rfl, rfl, trivial⟩
     ·refine ⟨dw_row (m := 0) rfl (dw_eq ?_), trivial⟩
      simp only [Nat.add_zero, c2e, A0.n, A0.s, A0.a, A1.n, A1.s, A1.a, A2.n, A2.s, A2.a]
      rw [hdD_set _ (by omega), hdD_set _ (by rw [List.length_set]; omega)]
      rfl
    ·
     have e : l2H H n i = 2 * i + 2 := by simp [l2H, lsH, h1, h2, q, r]
     have ed : dnH (f + 1) H n i = dnH f (swH H i (2 * i + 2)) n (2 * i + 2) := by simp only [dnH, e, decide_eq_false (show ¬ 2 * i + 2 = i by omega), cond_false]
     rw [ed]
     have nx := dn_loop (inr := inr) (h0 := h0) hn f (swH H i (2 * i + 2)) (2 * i + 2) (by rw [swH_len]; exact hl) (by omega) (by omega) (sw_ok hl (by omega) (by omega) hO)
     refine LRuns.step (code_runsP dwX dwL (runZ_ok dwX dwT dwL mixed 12) mixed (dw_taa inr n i (hdD H)) ?_) rfl (by omega) (by omega) (fun n => n) ?_ ?_ rfl nx
     ·
      simp only [Alls, rg, decide_eq_true_eq, decide_eq_false_iff_not, beq_iff_eq, beq_eq_false_iff_ne, Nat.add_zero, byV_ints, c2e, A0.n, A0.s, A0.a, A1.n, A1.s, A1.a, A2.n, A2.s, A2.a, A0.k0, A0.kv, A1.k0, A1.kv, A2.k0, A2.kv]
      repeat' (with_reducible apply And.intro)
      all_goals first | omega | (with_reducible assumption) | exact A0.o _ | exact A0.ko _ | exact A1.o _ | exact A1.ko _ | exact A2.o _ | exact A2.ko _ | (with_reducible exact trivial) | exact A0.y | exact A1.y | exact A2.y | (with_reducible rfl) | exact fun e => absurd (A0.n.symm.trans e) (by omega) | exact fun e => absurd (A1.n.symm.trans e) (by omega) | exact fun e => absurd (A2.n.symm.trans e) (by omega) | (rw [setD_len (by simp only [List.length_cons, List.length_nil]; omega)]; omega) | skip
     ·exact ⟨rfl, rb_slg rfl rfl, rfl, rfl, trivial⟩
     ·refine ⟨dw_row (m := 0) rfl (dw_eq ?_), trivial⟩
      simp only [Nat.add_zero, c2e, A0.n, A0.s, A0.a, A1.n, A1.s, A1.a, A2.n, A2.s, A2.a]
      rw [hdD_set _ (by omega), hdD_set _ (by rw [List.length_set]; omega)]
      rfl
    ·
     have e : l2H H n i = 2 * i + 1 := by simp [l2H, lsH, h1, h2, q, r]
     have ed : dnH (f + 1) H n i = dnH f (swH H i (2 * i + 1)) n (2 * i + 1) := by simp only [dnH, e, decide_eq_false (show ¬ 2 * i + 1 = i by omega), cond_false]
     rw [ed]
     have nx := dn_loop (inr := inr) (h0 := h0) hn f (swH H i (2 * i + 1)) (2 * i + 1) (by rw [swH_len]; exact hl) (by omega) (by omega) (sw_ok hl (by omega) (by omega) hO)
     refine LRuns.step (code_runsP dwX dwL (runZ_ok dwX dwT dwL mixed 12) mixed (dw_tab inr n i (hdD H)) ?_) rfl (by omega) (by omega) (fun n => n) ?_ ?_ rfl nx
     ·
      simp only [Alls, rg, decide_eq_true_eq, decide_eq_false_iff_not, beq_iff_eq, beq_eq_false_iff_ne, Nat.add_zero, byV_ints, c2e, A0.n, A0.s, A0.a, A1.n, A1.s, A1.a, A2.n, A2.s, A2.a, A0.k0, A0.kv, A1.k0, A1.kv, A2.k0, A2.kv]
      repeat' (with_reducible apply And.intro)
      all_goals first | omega | (with_reducible assumption) | exact A0.o _ | exact A0.ko _ | exact A1.o _ | exact A1.ko _ | exact A2.o _ | exact A2.ko _ | (with_reducible exact trivial) | exact A0.y | exact A1.y | exact A2.y | (with_reducible rfl) | exact fun e => absurd (A0.n.symm.trans e) (by omega) | exact fun e => absurd (A1.n.symm.trans e) (by omega) | exact fun e => absurd (A2.n.symm.trans e) (by omega) | (rw [setD_len (by simp only [List.length_cons, List.length_nil]; omega)]; omega) | skip
     ·exact ⟨rfl, rb_slg rfl rfl, rfl, rfl, trivial⟩
     ·refine ⟨dw_row (m := 0) rfl (dw_eq ?_), trivial⟩
      simp only [Nat.add_zero, c2e, A0.n, A0.s, A0.a, A1.n, A1.s, A1.a, A2.n, A2.s, A2.a]
      rw [hdD_set _ (by omega), hdD_set _ (by rw [List.length_set]; omega)]
      rfl
    ·
     have e : l2H H n i = 2 * i + 1 := by simp [l2H, lsH, h1, h2, q, r]
     have ed : dnH (f + 1) H n i = dnH f (swH H i (2 * i + 1)) n (2 * i + 1) := by simp only [dnH, e, decide_eq_false (show ¬ 2 * i + 1 = i by omega), cond_false]
     rw [ed]
     have nx := dn_loop (inr := inr) (h0 := h0) hn f (swH H i (2 * i + 1)) (2 * i + 1) (by rw [swH_len]; exact hl) (by omega) (by omega) (sw_ok hl (by omega) (by omega) hO)
     refine LRuns.step (code_runsP dwX dwL (runZ_ok dwX dwT dwL mixed 12) mixed (dw_tag inr n i (hdD H)) ?_) rfl (by omega) (by omega) (fun n => n) ?_ ?_ rfl nx
     ·
      simp only [Alls, rg, decide_eq_true_eq, decide_eq_false_iff_not, beq_iff_eq, beq_eq_false_iff_ne, Nat.add_zero, byV_ints, c2e, A0.n, A0.s, A0.a, A1.n, A1.s, A1.a, A2.n, A2.s, A2.a, A0.k0, A0.kv, A1.k0, A1.kv, A2.k0, A2.kv]
      repeat' (with_reducible apply And.intro)
      all_goals first | omega | (with_reducible assumption) | exact A0.o _ | exact A0.ko _ | exact A1.o _ | exact A1.ko _ | exact A2.o _ | exact A2.ko _ | (with_reducible exact trivial) | exact A0.y | exact A1.y | exact A2.y | (with_reducible rfl) | exact fun e => absurd (A0.n.symm.trans e) (by omega) | exact fun e => absurd (A1.n.symm.trans e) (by omega) | exact fun e => absurd (A2.n.symm.trans e) (by omega) | (rw [setD_len (by simp only [List.length_cons, List.length_nil]; omega)]; omega) | skip
     ·exact ⟨rfl, rb_slg rfl rfl, rfl, rfl, trivial⟩
     ·refine ⟨dw_row (m := 0) rfl (dw_eq ?_), trivial⟩
      simp only [Nat.add_zero, c2e, A0.n, A0.s, A0.a, A1.n, A1.s, A1.a, A2.n, A2.s, A2.a]
      rw [hdD_set _ (by omega), hdD_set _ (by rw [List.length_set]; omega)]
      rfl
   ·rcases ahd_cases (gH H (2 * i + 2)) (gH H (i)) with ⟨t1, r⟩ | ⟨t1, t2, t3, r⟩ | ⟨t1, t2, t3, r⟩ | ⟨t1, t2, r⟩
    ·
     have e : l2H H n i = 2 * i + 2 := by simp [l2H, lsH, h1, h2, q, r]
     have ed : dnH (f + 1) H n i = dnH f (swH H i (2 * i + 2)) n (2 * i + 2) := by simp only [dnH, e, decide_eq_false (show ¬ 2 * i + 2 = i by omega), cond_false]
     rw [ed]
     have nx := dn_loop (inr := inr) (h0 := h0) hn f (swH H i (2 * i + 2)) (2 * i + 2) (by rw [swH_len]; exact hl) (by omega) (by omega) (sw_ok hl (by omega) (by omega) hO)
     refine LRuns.step (code_runsP dwX dwL (runZ_ok dwX dwT dwL mixed 12) mixed (dw_tbl inr n i (hdD H)) ?_) rfl (by omega) (by omega) (fun n => n) ?_ ?_ rfl nx
     ·
      simp only [Alls, rg, decide_eq_true_eq, decide_eq_false_iff_not, beq_iff_eq, beq_eq_false_iff_ne, Nat.add_zero, byV_ints, c2e, A0.n, A0.s, A0.a, A1.n, A1.s, A1.a, A2.n, A2.s, A2.a, A0.k0, A0.kv, A1.k0, A1.kv, A2.k0, A2.kv]
      repeat' (with_reducible apply And.intro)
      all_goals first | omega | (with_reducible assumption) | exact A0.o _ | exact A0.ko _ | exact A1.o _ | exact A1.ko _ | exact A2.o _ | exact A2.ko _ | (with_reducible exact trivial) | exact A0.y | exact A1.y | exact A2.y | (with_reducible rfl) | exact fun e => absurd (A0.n.symm.trans e) (by omega) | exact fun e => absurd (A1.n.symm.trans e) (by omega) | exact fun e => absurd (A2.n.symm.trans e) (by omega) | (rw [setD_len (by simp only [List.length_cons, List.length_nil]; omega)]; omega) | skip
     ·exact ⟨rfl, rb_slg rfl rfl, rfl, rfl, trivial⟩
     ·refine ⟨dw_row (m := 0) rfl (dw_eq ?_), trivial⟩
      simp only [Nat.add_zero, c2e, A0.n, A0.s, A0.a, A1.n, A1.s, A1.a, A2.n, A2.s, A2.a]
      rw [hdD_set _ (by omega), hdD_set _ (by rw [List.length_set]; omega)]
      rfl
    ·
     have e : l2H H n i = 2 * i + 2 := by simp [l2H, lsH, h1, h2, q, r]
     have ed : dnH (f + 1) H n i = dnH f (swH H i (2 * i + 2)) n (2 * i + 2) := by simp only [dnH, e, decide_eq_false (show ¬ 2 * i + 2 = i by omega), cond_false]
     rw [ed]
     have nx := dn_loop (inr := inr) (h0 := h0) hn f (swH H i (2 * i + 2)) (2 * i + 2) (by rw [swH_len]; exact hl) (by omega) (by omega) (sw_ok hl (by omega) (by omega) hO)
     refine LRuns.step (code_runsP dwX dwL (runZ_ok dwX dwT dwL mixed 12) mixed (dw_tba inr n i (hdD H)) ?_) rfl (by omega) (by omega) (fun n => n) ?_ ?_ rfl nx
     ·
      simp only [Alls, rg, decide_eq_true_eq, decide_eq_false_iff_not, beq_iff_eq, beq_eq_false_iff_ne, Nat.add_zero, byV_ints, c2e, A0.n, A0.s, A0.a, A1.n, A1.s, A1.a, A2.n, A2.s, A2.a, A0.k0, A0.kv, A1.k0, A1.kv, A2.k0, A2.kv]
      repeat' (with_reducible apply And.intro)
      all_goals first | omega | (with_reducible assumption) | exact A0.o _ | exact A0.ko _ | exact A1.o _ | exact A1.ko _ | exact A2.o _ | exact A2.ko _ | (with_reducible exact trivial) | exact A0.y | exact A1.y | exact A2.y | (with_reducible rfl) | exact fun e => absurd (A0.n.symm.trans e) (by omega) | exact fun e => absurd (A1.n.symm.trans e) (by omega) | exact fun e => absurd (A2.n.symm.trans e) (by omega) | (rw [setD_len (by simp only [List.length_cons, List.length_nil]; omega)]; omega) | skip
     ·exact ⟨rfl, rb_slg rfl rfl, rfl, rfl, trivial⟩
     ·refine ⟨dw_row (m := 0) rfl (dw_eq ?_), trivial⟩
      simp only [Nat.add_zero, c2e, A0.n, A0.s, A0.a, A1.n, A1.s, A1.a, A2.n, A2.s, A2.a]
      rw [hdD_set _ (by omega), hdD_set _ (by rw [List.length_set]; omega)]
      rfl
    ·
     have e : l2H H n i = i := by simp [l2H, lsH, h1, h2, q, r]
     rw [dn_stop e]
     refine LRuns.exit (code_runsP dwX dwL (runZ_ok dwX dwT dwL mixed 12) mixed (dw_tbb inr n i (hdD H)) ?_) (by intro e; cases e) rfl (by omega) (by omega) (fun n => n) ?_ ?_ rfl
     ·
      simp only [Alls, rg, decide_eq_true_eq, decide_eq_false_iff_not, beq_iff_eq, beq_eq_false_iff_ne, Nat.add_zero, byV_ints, c2e, A0.n, A0.s, A0.a, A1.n, A1.s, A1.a, A2.n, A2.s, A2.a, A0.k0, A0.kv, A1.k0, A1.kv, A2.k0, A2.kv]
      repeat' (with_reducible apply And.intro)
      all_goals first | omega | (with_reducible assumption) | exact A0.o _ | exact A0.ko _ | exact A1.o _ | exact A1.ko _ | exact A2.o _ | exact A2.ko _ | (with_reducible exact trivial) | exact A0.y | exact A1.y | exact A2.y | (with_reducible rfl) | exact fun e => absurd (A0.n.symm.trans e) (by omega) | exact fun e => absurd (A1.n.symm.trans e) (by omega) | exact fun e => absurd (A2.n.symm.trans e) (by omega) | (rw [setD_len (by simp only [List.length_cons, List.length_nil]; omega)]; omega) | skip
     ·trivial
     ·exact ⟨dw_row (m := 0) rfl rfl, trivial⟩
    ·
     have e : l2H H n i = i := by simp [l2H, lsH, h1, h2, q, r]
     rw [dn_stop e]
     refine LRuns.exit (code_runsP dwX dwL (runZ_ok dwX dwT dwL mixed 12) mixed (dw_tbg inr n i (hdD H)) ?_) (by intro e; cases e) rfl (by omega) (by omega) (fun n => n) ?_ ?_ rfl
     ·
      simp only [Alls, rg, decide_eq_true_eq, decide_eq_false_iff_not, beq_iff_eq, beq_eq_false_iff_ne, Nat.add_zero, byV_ints, c2e, A0.n, A0.s, A0.a, A1.n, A1.s, A1.a, A2.n, A2.s, A2.a, A0.k0, A0.kv, A1.k0, A1.kv, A2.k0, A2.kv]
      repeat' (with_reducible apply And.intro)
      all_goals first | omega | (with_reducible assumption) | exact A0.o _ | exact A0.ko _ | exact A1.o _ | exact A1.ko _ | exact A2.o _ | exact A2.ko _ | (with_reducible exact trivial) | exact A0.y | exact A1.y | exact A2.y | (with_reducible rfl) | exact fun e => absurd (A0.n.symm.trans e) (by omega) | exact fun e => absurd (A1.n.symm.trans e) (by omega) | exact fun e => absurd (A2.n.symm.trans e) (by omega) | (rw [setD_len (by simp only [List.length_cons, List.length_nil]; omega)]; omega) | skip
     ·trivial
     ·exact ⟨dw_row (m := 0) rfl rfl, trivial⟩
   ·rcases ahd_cases (gH H (2 * i + 2)) (gH H (i)) with ⟨t1, r⟩ | ⟨t1, t2, t3, r⟩ | ⟨t1, t2, t3, r⟩ | ⟨t1, t2, r⟩
    ·
     have e : l2H H n i = 2 * i + 2 := by simp [l2H, lsH, h1, h2, q, r]
     have ed : dnH (f + 1) H n i = dnH f (swH H i (2 * i + 2)) n (2 * i + 2) := by simp only [dnH, e, decide_eq_false (show ¬ 2 * i + 2 = i by omega), cond_false]
     rw [ed]
     have nx := dn_loop (inr := inr) (h0 := h0) hn f (swH H i (2 * i + 2)) (2 * i + 2) (by rw [swH_len]; exact hl) (by omega) (by omega) (sw_ok hl (by omega) (by omega) hO)
     refine LRuns.step (code_runsP dwX dwL (runZ_ok dwX dwT dwL mixed 12) mixed (dw_tgl inr n i (hdD H)) ?_) rfl (by omega) (by omega) (fun n => n) ?_ ?_ rfl nx
     ·
      simp only [Alls, rg, decide_eq_true_eq, decide_eq_false_iff_not, beq_iff_eq, beq_eq_false_iff_ne, Nat.add_zero, byV_ints, c2e, A0.n, A0.s, A0.a, A1.n, A1.s, A1.a, A2.n, A2.s, A2.a, A0.k0, A0.kv, A1.k0, A1.kv, A2.k0, A2.kv]
      repeat' (with_reducible apply And.intro)
      all_goals first | omega | (with_reducible assumption) | exact A0.o _ | exact A0.ko _ | exact A1.o _ | exact A1.ko _ | exact A2.o _ | exact A2.ko _ | (with_reducible exact trivial) | exact A0.y | exact A1.y | exact A2.y | (with_reducible rfl) | exact fun e => absurd (A0.n.symm.trans e) (by omega) | exact fun e => absurd (A1.n.symm.trans e) (by omega) | exact fun e => absurd (A2.n.symm.trans e) (by omega) | (rw [setD_len (by simp only [List.length_cons, List.length_nil]; omega)]; omega) | skip
     ·exact ⟨rfl, rb_slg rfl rfl, rfl, rfl, trivial⟩
     ·refine ⟨dw_row (m := 0) rfl (dw_eq ?_), trivial⟩
      simp only [Nat.add_zero, c2e, A0.n, A0.s, A0.a, A1.n, A1.s, A1.a, A2.n, A2.s, A2.a]
      rw [hdD_set _ (by omega), hdD_set _ (by rw [List.length_set]; omega)]
      rfl
    ·
     have e : l2H H n i = 2 * i + 2 := by simp [l2H, lsH, h1, h2, q, r]
     have ed : dnH (f + 1) H n i = dnH f (swH H i (2 * i + 2)) n (2 * i + 2) := by simp only [dnH, e, decide_eq_false (show ¬ 2 * i + 2 = i by omega), cond_false]
     rw [ed]
     have nx := dn_loop (inr := inr) (h0 := h0) hn f (swH H i (2 * i + 2)) (2 * i + 2) (by rw [swH_len]; exact hl) (by omega) (by omega) (sw_ok hl (by omega) (by omega) hO)
     refine LRuns.step (code_runsP dwX dwL (runZ_ok dwX dwT dwL mixed 12) mixed (dw_tga inr n i (hdD H)) ?_) rfl (by omega) (by omega) (fun n => n) ?_ ?_ rfl nx
     ·
      simp only [Alls, rg, decide_eq_true_eq, decide_eq_false_iff_not, beq_iff_eq, beq_eq_false_iff_ne, Nat.add_zero, byV_ints, c2e, A0.n, A0.s, A0.a, A1.n, A1.s, A1.a, A2.n, A2.s, A2.a, A0.k0, A0.kv, A1.k0, A1.kv, A2.k0, A2.kv]
      repeat' (with_reducible apply And.intro)
      all_goals first | omega | (with_reducible assumption) | exact A0.o _ | exact A0.ko _ | exact A1.o _ | exact A1.ko _ | exact A2.o _ | exact A2.ko _ | (with_reducible exact trivial) | exact A0.y | exact A1.y | exact A2.y | (with_reducible rfl) | exact fun e => absurd (A0.n.symm.trans e) (by omega) | exact fun e => absurd (A1.n.symm.trans e) (by omega) | exact fun e => absurd (A2.n.symm.trans e) (by omega) | (rw [setD_len (by simp only [List.length_cons, List.length_nil]; omega)]; omega) | skip
     ·exact ⟨rfl, rb_slg rfl rfl, rfl, rfl, trivial⟩
     ·refine ⟨dw_row (m := 0) rfl (dw_eq ?_), trivial⟩
      simp only [Nat.add_zero, c2e, A0.n, A0.s, A0.a, A1.n, A1.s, A1.a, A2.n, A2.s, A2.a]
      rw [hdD_set _ (by omega), hdD_set _ (by rw [List.length_set]; omega)]
      rfl
    ·
     have e : l2H H n i = i := by simp [l2H, lsH, h1, h2, q, r]
     rw [dn_stop e]
     refine LRuns.exit (code_runsP dwX dwL (runZ_ok dwX dwT dwL mixed 12) mixed (dw_tgb inr n i (hdD H)) ?_) (by intro e; cases e) rfl (by omega) (by omega) (fun n => n) ?_ ?_ rfl
     ·
      simp only [Alls, rg, decide_eq_true_eq, decide_eq_false_iff_not, beq_iff_eq, beq_eq_false_iff_ne, Nat.add_zero, byV_ints, c2e, A0.n, A0.s, A0.a, A1.n, A1.s, A1.a, A2.n, A2.s, A2.a, A0.k0, A0.kv, A1.k0, A1.kv, A2.k0, A2.kv]
      repeat' (with_reducible apply And.intro)
      all_goals first | omega | (with_reducible assumption) | exact A0.o _ | exact A0.ko _ | exact A1.o _ | exact A1.ko _ | exact A2.o _ | exact A2.ko _ | (with_reducible exact trivial) | exact A0.y | exact A1.y | exact A2.y | (with_reducible rfl) | exact fun e => absurd (A0.n.symm.trans e) (by omega) | exact fun e => absurd (A1.n.symm.trans e) (by omega) | exact fun e => absurd (A2.n.symm.trans e) (by omega) | (rw [setD_len (by simp only [List.length_cons, List.length_nil]; omega)]; omega) | skip
     ·trivial
     ·exact ⟨dw_row (m := 0) rfl rfl, trivial⟩
    ·
     have e : l2H H n i = i := by simp [l2H, lsH, h1, h2, q, r]
     rw [dn_stop e]
     refine LRuns.exit (code_runsP dwX dwL (runZ_ok dwX dwT dwL mixed 12) mixed (dw_tgg inr n i (hdD H)) ?_) (by intro e; cases e) rfl (by omega) (by omega) (fun n => n) ?_ ?_ rfl
     ·
      simp only [Alls, rg, decide_eq_true_eq, decide_eq_false_iff_not, beq_iff_eq, beq_eq_false_iff_ne, Nat.add_zero, byV_ints, c2e, A0.n, A0.s, A0.a, A1.n, A1.s, A1.a, A2.n, A2.s, A2.a, A0.k0, A0.kv, A1.k0, A1.kv, A2.k0, A2.kv]
      repeat' (with_reducible apply And.intro)
      all_goals first | omega | (with_reducible assumption) | exact A0.o _ | exact A0.ko _ | exact A1.o _ | exact A1.ko _ | exact A2.o _ | exact A2.ko _ | (with_reducible exact trivial) | exact A0.y | exact A1.y | exact A2.y | (with_reducible rfl) | exact fun e => absurd (A0.n.symm.trans e) (by omega) | exact fun e => absurd (A1.n.symm.trans e) (by omega) | exact fun e => absurd (A2.n.symm.trans e) (by omega) | (rw [setD_len (by simp only [List.length_cons, List.length_nil]; omega)]; omega) | skip
     ·trivial
     ·exact ⟨dw_row (m := 0) rfl rfl, trivial⟩
def pxTab : FuncId → List Nat := fun f => bif Nat.beq f 22 then [9, 13, 22, 30] else bif Nat.beq f 16 then [10, 14] else bif Nat.beq f 29 then [9] else bif Nat.beq f 17 then [22] else []
def pxSy : FuncId → Nat → Option Nat := orSy (lsSy 22 [(18, 0), (20, 32), (26, 0), (28, 32), (15, 0), (13, 0)]) (orSy (lsSy 16 [(19, 0), (20, 32), (23, 0), (24, 32), (16, 0)]) (lsSy 29 [(6, 0), (8, 0), (9, 0)]))
def pxV (L : LFun) (T : TFun) : Tv := ⟨T, cmpY, L, pxTab, pxSy, fun _ => [], fun _ => 0⟩
def saA (n : Nat) : Value := .slice (some ⟨0, 0, none⟩) n (capBig + 0)
def sbA (n : Nat) : Value := .slice (some ⟨2, 0, none⟩) n (capBig + 2)
def pxH (ds es : List DV) : Hp := [(0, ⟨.sw ds, []⟩), (2, ⟨.sw es, []⟩)]
theorem py_lp_go (inr : Bool) (n i : Nat) (ds es : List DV) : prjP [0, 5] 10 (codeZ (pxV noL noTz) Try.prog (runZ (pxV noL noTz) Try.prog 9) 22 inr 100000 (bodyIn Try.prog 22 4) (SL 32 [(0, saA n), (5, iV i)]) ([(0, ⟨.sw ds,
 []⟩)]) 10 [true, false, false])
 =
  (let a1 := (↑i : Int); Res.ok ((Xt.normal, 32, [(0, Value.slice (some (Addr.mk 0 0 none)) n 18446744073709551616), (5, Value.int IntKind.i64 (↑(i + 1) : Int))], [(0, Rw.mk (Kd.sw ds) [])], 12, [], []), [], [decide (a1 < (↑n : Int)) = true, (0 : Int) ≤ a1 ∧ a1 < (↑n : Int), ShOb Try.prog 23 false true ds (i * 3 + 0) 10, decide ((↑(dLen ds (i * 3 + 0 + 0)) : Int) > (200 : Int)) = false, (0 : Int) ≤ a1 ∧ a1 < (↑n : Int), ShOb Try.prog 23 false true ds (i * 3 + 1) 11, decide ((↑(dLen ds (i * 3 + 1 + 0)) : Int) > (200 : Int)) = false, rg IntKind.i64 (↑(i + 1) : Int)])) := by kernel_rfl
theorem py_lp_a (inr : Bool) (n i : Nat) (ds es : List DV) : prjP [4] 10 (codeZ (pxV noL noTz) Try.prog (runZ (pxV noL noTz) Try.prog 9) 22 inr 100000 (bodyIn Try.prog 22 4) (SL 32 [(0, saA n), (5, iV i)]) ([(0, ⟨.sw ds, []⟩)]) 10 [true, true]) =
 Res.ok ((Xt.ret, 32, [(4, Value.bool true)], [(0, Rw.mk (Kd.sw ds) [])], 11, [], []), [], [decide ((↑i : Int) < (↑n : Int)) = true, (0 : Int) ≤ (↑i : Int) ∧ (↑i : Int) < (↑n : Int), ShOb Try.prog 23 false true ds (i * 3 + 0) 10, decide ((↑(dLen ds (i * 3 + 0 + 0)) : Int) > (200 : Int)) = true]) := by kernel_rfl
theorem py_lp_b (inr : Bool) (n i : Nat) (ds es : List DV) : prjP [4] 10 (codeZ (pxV noL noTz) Try.prog (runZ (pxV noL noTz) Try.prog 9) 22 inr 100000 (bodyIn Try.prog 22 4) (SL 32 [(0, saA n), (5, iV i)]) ([(0, ⟨.sw ds, []⟩)]) 10
 [true, false, true])
 =
  (let a1 := (↑i : Int); Res.ok ((Xt.ret, 32, [(4, Value.bool true)], [(0, Rw.mk (Kd.sw ds) [])], 12, [], []), [], [decide (a1 < (↑n : Int)) = true, (0 : Int) ≤ a1 ∧ a1 < (↑n : Int), ShOb Try.prog 23 false true ds (i * 3 + 0) 10, decide ((↑(dLen ds (i * 3 + 0 + 0)) : Int) > (200 : Int)) = false, (0 : Int) ≤ a1 ∧ a1 < (↑n : Int), ShOb Try.prog 23 false true ds (i * 3 + 1) 11, decide ((↑(dLen ds (i * 3 + 1 + 0)) : Int) > (200 : Int)) = true])) := by kernel_rfl
theorem py_lp_end (inr : Bool) (n i : Nat) (ds es : List DV) : prjP [] 10 (codeZ (pxV noL noTz) Try.prog (runZ (pxV noL noTz) Try.prog 9) 22 inr 100000 (bodyIn Try.prog 22 4) (SL 32 [(0, saA n), (5, iV i)]) ([(0, ⟨.sw ds, []⟩)]) 10 [false]) =
 Res.ok ((Xt.exit 0, 32, [], [(0, Rw.mk (Kd.sw ds) [])], 10, [], []), [], [decide ((↑i : Int) < (↑n : Int)) = false]) := by kernel_rfl
theorem py_sp_go (inr : Bool) (n i : Nat) (ds es : List DV) : prjP [0, 1, 5] 10 (codeZ (pxV noL noTz) Try.prog (runZ (pxV noL noTz) Try.prog 9) 16 inr 100000 (bodyIn Try.prog 16 4) (SL 27 [(0, saA n), (1, sbA n), (5, iV i)]) (pxH
 ds es) 10 [true, true, true, true])
 =
  (let a8 := (↑i : Int); let a3 := (Value.int IntKind.u8); let a2 := (i * 3 + 1); let a7 := (intsOf (List.take (dLen es a2) (dVals es a2))); let a6 := (intsOf (List.take (dLen ds a2) (dVals ds a2))); let a1 := (i * 3 + 0); let a5 := (intsOf (List.take (dLen es a1) (dVals es a1))); let a4 := (intsOf (List.take (dLen ds a1) (dVals ds a1))); Res.ok ((Xt.normal, 27, [(0, Value.slice (some (Addr.mk 0 0 none)) n 18446744073709551616), (1, Value.slice (some (Addr.mk 2 0 none)) n (capBig + 2)), (5, Value.int IntKind.i64 (↑(i + 1) : Int))], [(0, Rw.mk (Kd.sw ds) []), (2, Rw.mk (Kd.sw es) [])], 16, [], []), [], [decide (a8 < (↑n : Int)) = true, (0 : Int) ≤ a8 ∧ a8 < (↑n : Int), ShOb Try.prog 32 false true ds (i * 3) 10, (0 : Int) ≤ a8 ∧ a8 < (↑n : Int), ShOb Try.prog 32 false true es (i * 3) 12, dLen ds a1 ≤ List.length (dVals ds a1), List.take (dLen ds a1) (dVals ds a1) = List.map a3 a4, dLen es a1
 ≤ List.length (dVals es a1), List.take (dLen es a1) (dVals es a1) = List.map a3 a5, strEq (strOfI a4) (strOfI a5) = true, dLen ds a2 ≤ List.length (dVals ds a2), List.take (dLen ds a2) (dVals ds a2) = List.map a3 a6, dLen es a2 ≤ List.length (dVals es a2), List.take (dLen es a2) (dVals es a2) = List.map a3 a7, strEq (strOfI a6) (strOfI a7) = true, (dBool ds (i * 3 + 2) == dBool es (i * 3 + 2)) = true, rg IntKind.i64 (↑(i + 1) :
 Int)])) := by kernel_rfl
theorem py_sp_end (inr : Bool) (n i : Nat) (ds es : List DV) : prjP [] 10 (codeZ (pxV noL noTz) Try.prog (runZ (pxV noL noTz) Try.prog 9) 16 inr 100000 (bodyIn Try.prog 16 4) (SL 27 [(0, saA n), (1, sbA n), (5, iV i)]) (pxH ds es) 10 [false]) =
 Res.ok ((Xt.exit 0, 27, [], [(0, Rw.mk (Kd.sw ds) []), (2, Rw.mk (Kd.sw es) [])], 10, [], []), [], [decide ((↑i : Int) < (↑n : Int)) = false]) := by kernel_rfl
theorem pxX {L : LFun} {T : TFun} : XOkZ (pxV L T) Try.prog := XOneZ.ok cmpY_ok rfl
theorem pxT {L : LFun} : TOkZ (pxV L noTz) Try.prog := noTz_okV rfl
theorem pxL {T : TFun} : LOkZ (pxV noL T) Try.prog := noL_okV rfl
theorem py_lp {inr : Bool} {h0 : Hp} {ds : List DV} {ps : List Pr} {n : Nat} (hP : Prs ds ps) (hn : ps.length = n) (hn9 : n ≤ 9000000) : ∀ (r i : Nat), i + r = n →
  LRuns inr Try.prog (bodyIn Try.prog 22 4) 4 40 h0 32 [(0, saA n), (5, iV i)] [(0, ⟨.sw ds, []⟩)] 10
   (bif (ps.drop i).any big then (.ret, [(4, .bool true)], [(0, ⟨.sw ds, []⟩)]) else (.exit 0, [], [(0, ⟨.sw ds, []⟩)]))
 | 0, i, hr => by
   rw [List.drop_of_length_le (by omega)]
   refine LRuns.exit (code_runsP pxX pxL (runZ_ok pxX pxT pxL mixed 9) mixed (py_lp_end inr n i ds []) ?_) (by intro e; cases e) rfl (by omega) (by omega) (fun n => n) ?_ ?_ rfl
   ·simp only [Alls, decide_eq_false_iff_not]
    exact ⟨by omega, trivial⟩
   ·trivial
   ·exact ⟨sw_row rfl rfl, trivial⟩
 | r + 1, i, hr => by
   have hi : i < ps.length := by omega
   have F := hP.facts (List.getElem?_eq_getElem hi)
   obtain ⟨p, hp⟩ : ∃ p, ps[i] = p := ⟨_, rfl⟩
   rw [hp] at F
   have hd : ps.drop i = p :: ps.drop (i + 1) := by rw [List.drop_eq_getElem_cons hi, hp]
   have f0 := F.l0
   have f1 := F.l1
   have o1 := F.o27 10
   have o2 := F.o27' 11
   rw [hd, List.any_cons]
   by_cases h1 : 200 < p.1.length
   ·have e : big p = true := by simp [big, h1]
    rw [e, Bool.true_or]
    refine LRuns.exit (code_runsP pxX pxL (runZ_ok pxX pxT pxL mixed 9) mixed (py_lp_a inr n i ds []) ?_) (by intro e; cases e) rfl (by omega) (by omega) (fun n => n) ?_ ?_ rfl
    ·
     simp only [Alls, rg, decide_eq_true_eq, decide_eq_false_iff_not, Nat.add_zero]
     repeat' (with_reducible apply And.intro)
     all_goals first | omega | (with_reducible assumption) | (with_reducible exact trivial) | (with_reducible rfl) | exact rfl
    ·exact ⟨rfl, rfl, trivial⟩
    ·exact ⟨sw_row rfl rfl, trivial⟩
   by_cases h2 : 200 < p.2.1.length
   ·have e : big p = true := by simp [big, h2]
    rw [e, Bool.true_or]
    refine LRuns.exit (code_runsP pxX pxL (runZ_ok pxX pxT pxL mixed 9) mixed (py_lp_b inr n i ds []) ?_) (by intro e; cases e) rfl (by omega) (by omega) (fun n => n) ?_ ?_ rfl
    ·
     simp only [Alls, rg, decide_eq_true_eq, decide_eq_false_iff_not, Nat.add_zero]
     repeat' (with_reducible apply And.intro)
     all_goals first | omega | (with_reducible assumption) | (with_reducible exact trivial) | (with_reducible rfl) | exact rfl
    ·exact ⟨rfl, rfl, trivial⟩
    ·exact ⟨sw_row rfl rfl, trivial⟩
   ·have e : big p = false := by simp [big, h1, h2]
    rw [e, Bool.false_or]
    refine LRuns.step (code_runsP pxX pxL (runZ_ok pxX pxT pxL mixed 9) mixed (py_lp_go inr n i ds []) ?_) rfl (by omega) (by omega) (fun n => n) ?_ ?_ rfl (py_lp hP hn hn9 r (i + 1) (by omega))
    ·
     simp only [Alls, rg, decide_eq_true_eq, decide_eq_false_iff_not, Nat.add_zero]
     repeat' (with_reducible apply And.intro)
     all_goals first | omega | (with_reducible assumption) | (with_reducible exact trivial) | (with_reducible rfl) | exact rfl
    ·exact ⟨rfl, rb_slg rfl rfl, rfl, rfl, trivial⟩
    ·exact ⟨sw_row rfl rfl, trivial⟩
theorem py_sp {inr : Bool} {h0 : Hp} {ds es : List DV} {ps : List Pr} {n : Nat} (hP : Prs ds ps) (hE : Prs es ps) (hn : ps.length = n) (hn9 : n ≤ 9000000) : ∀ (r i : Nat), i + r = n →
  LRuns inr Try.prog (bodyIn Try.prog 16 4) 4 40 h0 27 [(0, saA n), (1, sbA n), (5, iV i)] (pxH ds es) 10 (.exit 0, [], pxH ds es)
 | 0, i, hr => by
   refine LRuns.exit (code_runsP pxX pxL (runZ_ok pxX pxT pxL mixed 9) mixed (py_sp_end inr n i ds es) ?_) (by intro e; cases e) rfl (by omega) (by omega) (fun n => n) ?_ ?_ rfl
   ·simp only [Alls, decide_eq_false_iff_not]
    exact ⟨by omega, trivial⟩
   ·trivial
   ·exact ⟨sw_row (m := 0) rfl rfl, sw_row (m := 2) rfl rfl, trivial⟩
 | r + 1, i, hr => by
   have hi : i < ps.length := by omega
   have G := hP.facts (List.getElem?_eq_getElem hi)
   have F := hE.facts (List.getElem?_eq_getElem hi)
   obtain ⟨p, hp⟩ : ∃ p, ps[i] = p := ⟨_, rfl⟩
   rw [hp] at F G
   have f0 := F.l0
   have f1 := F.l1
   have v0 := F.v0
   have v1 := F.v1
   have f0' := G.l0
   have f1' := G.l1
   have v0' := G.v0
   have v1' := G.v1
   have g1 := F.g
   have g2 := G.g
   have o1 := G.o29 10
   have o2 := F.o29 12
   have hl0 := byV_len p.1
   have hl1 := byV_len p.2.1
   have t0 : List.take p.1.length (byV p.1) = byV p.1 := List.take_of_length_le (by omega)
   have t1 : List.take p.2.1.length (byV p.2.1) = byV p.2.1 := List.take_of_length_le (by omega)
   have i0 := byV_ints p.1
   have i1 := byV_ints p.2.1
   have se : ∀ s : ByteArray, strEq s s = true := fun s => by unfold strEq; exact beq_self_eq_true _
   refine LRuns.step (code_runsP pxX pxL (runZ_ok pxX pxT pxL mixed 9) mixed (py_sp_go inr n i ds es) ?_) rfl (by omega) (by omega) (fun n => n) ?_ ?_ rfl (py_sp hP hE hn hn9 r (i + 1) (by omega))
   ·
    simp only [Alls, rg, decide_eq_true_eq, decide_eq_false_iff_not, Nat.add_zero, f0, f1, v0, v1, f0', f1', v0', v1', t0, t1, i0, i1, g1, g2, se, beq_self_eq_true]
    repeat' (with_reducible apply And.intro)
    all_goals first | omega | (with_reducible assumption) | (with_reducible exact trivial) | (with_reducible rfl) | exact rfl
   ·exact ⟨rfl, rb_slg rfl rfl, rfl, rb_slg rfl rfl, rfl, rfl, trivial⟩
   ·exact ⟨sw_row (m := 0) rfl rfl, sw_row (m := 2) rfl rfl, trivial⟩
structure LpOk (ds : List DV) (n : Nat) : Prop where
 P : Prs ds (prsOf ds)
 l : (prsOf ds).length = n
def px1 (live : List (Nat × Value)) (h : Hp) : Option (Nat × List DV) := match live, lk h 0 with | (_, .slice _ n _) :: _, some ⟨.sw ds, _⟩ => some (n, ds) | _, _ => none
def px2 (live : List (Nat × Value)) (h : Hp) : Option (Nat × List DV × List DV) := match live, lk h 0, lk h 2 with | (_, .slice _ n _) :: _, some ⟨.sw ds, _⟩, some ⟨.sw es, _⟩ => some (n, ds, es) | _, _, _ => none
def pxlpSp : LSpec := lspec px1 (fun a => ([(0, saA a.1), (5, iV 0)], [(0, ⟨.sw a.2, []⟩)], 4)) (fun a tp => match tp with
 | b :: tp' => some ((bif b then .ret else .exit 0, bif b then [(4, .bool true)] else [], [(0, ⟨.sw a.2, []⟩)], 40, []), tp', [LpOk a.2 a.1 ∧ a.1 ≤ 9000000 ∧ (prsOf a.2).any big = b])
 | [] => none)
structure SpOk (ds es : List DV) (n : Nat) : Prop where
 P : Prs ds (prsOf ds)
 E : Prs es (prsOf ds)
 l : (prsOf ds).length = n
 m : n ≤ 9000000
def pxspSp : LSpec := lspec px2 (fun a => ([(0, saA a.1), (1, sbA a.1), (5, iV 0)], pxH a.2.1 a.2.2, 4)) (fun a tp => some ((.exit 0, [], pxH a.2.1 a.2.2, 40, []), tp, [SpOk a.2.1 a.2.2 a.1]))
def pxLo (P : Program) : LFun := orL (mkL 22 4 32 [0, 5] (bodyIn P 22 4) pxlpSp) (mkL 16 4 27 [0, 1, 5] (bodyIn P 16 4) pxspSp)
theorem py_clL (n : Nat) (mm : Int) (ds : List DV) : prjV (runZ (pxV (pxLo Try.prog) noTz) Try.prog 9 22 [saA n, .int .i64 mm] [(0, ⟨.sw ds, []⟩)] 4 [true]) =
 Res.ok (Value.bool true, [], [decide ((↑n : Int) > mm) = true]) := by kernel_rfl
theorem py_cl1 (n : Nat) (mm : Int) (ds : List DV) : prjV (runZ (pxV (pxLo Try.prog) noTz) Try.prog 9 22 [saA n, .int .i64 mm] [(0, ⟨.sw ds, []⟩)] 4 [false, true]) =
 (let a2 := (5, Value.int IntKind.i64 (0 : Int)); let a1 := (0, Value.slice (some (Addr.mk 0 0 none)) n 18446744073709551616); Res.ok (Value.bool true, [], [decide ((↑n : Int) > mm) = false, bodyIn Try.prog (22 : FuncId) 4 = bodyIn Try.prog (22 : FuncId) 4, [a1, a2] = [a1, a2], [(0, Rw.mk (Kd.sw ds) [])] = [(0, Rw.mk (Kd.sw ds) [])], 4 = 4, LpOk ds n ∧ n ≤ 9000000 ∧ List.any (prsOf ds) big = true])) := by kernel_rfl
theorem py_cl0 (n : Nat) (mm : Int) (ds : List DV) : prjV (runZ (pxV (pxLo Try.prog) noTz) Try.prog 9 22 [saA n, .int .i64 mm] [(0, ⟨.sw ds, []⟩)] 4 [false, false]) =
 (let a2 := (5, Value.int IntKind.i64 (0 : Int)); let a1 := (0, Value.slice (some (Addr.mk 0 0 none)) n 18446744073709551616); Res.ok (Value.bool false, [], [decide ((↑n : Int) > mm) = false, bodyIn Try.prog (22 : FuncId) 4 = bodyIn Try.prog (22 : FuncId) 4, [a1, a2] = [a1, a2], [(0, Rw.mk (Kd.sw ds) [])] = [(0, Rw.mk (Kd.sw ds) [])], 4 = 4, LpOk ds n ∧ n ≤ 9000000 ∧ List.any (prsOf ds) big = false])) := by kernel_rfl
theorem py_cp (n : Nat) (ds es : List DV) : prjV (runZ (pxV (pxLo Try.prog) noTz) Try.prog 9 16 [saA n, sbA n] (pxH ds es) 4 [false]) =
 (let a3 := (5, Value.int IntKind.i64 (0 : Int)); let a2 := (1, Value.slice (some (Addr.mk 2 0 none)) n (capBig + 2)); let a1 := (0, Value.slice (some (Addr.mk 0 0 none)) n 18446744073709551616); Res.ok (Value.bool true, [], [((↑n : Int) != (↑n : Int)) = false, bodyIn Try.prog (16 : FuncId) 4 = bodyIn Try.prog (16 : FuncId) 4, [a1, a2, a3] = [a1, a2, a3], pxH ds es = pxH ds es, 4 = 4, SpOk ds es n])) := by kernel_rfl
theorem pxlp_ok : LSOk Try.prog 32 [0, 5] (bodyIn Try.prog 22 4) pxlpSp := by
 refine lspec_ok fun a tp xt l2 h2 nx2 d tp' ob hs ho inr ts hn hg => ?_
 obtain ⟨n, ds⟩ := a
 simp only at hs hg
 split at hs
 case h_2 => cases hs
 rename_i b _
 simp only [oI, pI] at hs
 obtain ⟨⟨rfl, rfl, rfl, rfl, rfl⟩, rfl, rfl⟩ := hs
 obtain ⟨⟨h, hm, hb⟩, _⟩ := ho
 have key := py_lp (inr := inr) (h0 := [(0, ⟨.sw ds, []⟩)]) h.P h.l hm n 0 (by omega)
 rw [List.drop_zero, hb] at key
 cases b with
 | true =>
  refine LRuns.enter (N := 10) (l2 := [(0, saA n), (5, iV 0)]) hn hg (by omega) (by omega) (fun n => n) ?_ ?_ rfl key ?_
  ·exact ⟨rfl, rb_slg rfl rfl, rfl, rfl, trivial⟩
  ·exact ⟨sw_row rfl rfl, trivial⟩
  ·exact tidy_of (by omega) (fun m hm hd => rfl) rfl
 | false =>
  refine LRuns.enter (N := 10) (l2 := [(0, saA n), (5, iV 0)]) hn hg (by omega) (by omega) (fun n => n) ?_ ?_ rfl key ?_
  ·exact ⟨rfl, rb_slg rfl rfl, rfl, rfl, trivial⟩
  ·exact ⟨sw_row rfl rfl, trivial⟩
  ·exact tidy_of (by omega) (fun m hm hd => rfl) rfl
theorem pxsp_ok : LSOk Try.prog 27 [0, 1, 5] (bodyIn Try.prog 16 4) pxspSp := by
 refine lspec_ok fun a tp xt l2 h2 nx2 d tp' ob hs ho inr ts hn hg => ?_
 obtain ⟨n, ds, es⟩ := a
 simp only at hs hg
 simp only [oI, pI] at hs
 obtain ⟨⟨rfl, rfl, rfl, rfl, rfl⟩, rfl, rfl⟩ := hs
 obtain ⟨h, _⟩ := ho
 have key := py_sp (inr := inr) (h0 := pxH ds es) h.P h.E h.l h.m n 0 (by omega)
 refine LRuns.enter (N := 10) (l2 := [(0, saA n), (1, sbA n), (5, iV 0)]) hn hg (by omega) (by omega) (fun n => n) ?_ ?_ rfl key ?_
 ·exact ⟨rfl, rb_slg rfl rfl, rfl, rb_slg rfl rfl, rfl, rfl, trivial⟩
 ·exact ⟨sw_row (m := 0) rfl rfl, sw_row (m := 2) rfl rfl, trivial⟩
 ·exact tidy_of (by omega) (fun m hm hd => rfl) rfl
theorem pxLo_ok : LOne Try.prog (pxLo Try.prog) := orL_ok (mkL_ok pxlp_ok) (mkL_ok pxsp_ok)
theorem py_run {f : FuncId} {args : List Value} {h : Hp} {nx : Nat} {tp tp' : Tape} {v : Value} {ob : List Prop} (e : prjV (runZ (pxV (pxLo Try.prog) noTz) Try.prog 9 f args h nx tp) = .ok (v, tp', ob)) (ho : Alls ob) (hf : Nat.blt f yBig = true) : ∃ h' nx' d, Tri Try.prog f args h nx (v, h', nx', d) := run_val pxX pxT (L_okV rfl pxLo_ok) e ho hf
def gLp : GSpecD := fun aL tp => match aL, tp with
 | [.dl ds n, .fl (.int .i64 mm)], b :: tp' => some (⟨fun _ => .bool b, []⟩, tp', [LpOk ds n ∧ (decide ((n : Int) > mm) || (prsOf ds).any big) = b, mm ≤ 9000000])
 | _, _ => none
theorem lp_gok : GOkD Try.prog 22 gLp := by
 intro aL tp gr tp' ob hG ho cs hc
 unfold gLp at hG
 split at hG
 case h_2 => cases hG
 rename_i ds n mm b tp2
 simp only [oI, pI] at hG
 obtain ⟨rfl, rfl, rfl⟩ := hG
 obtain ⟨⟨h1, h2⟩, hmm, _⟩ := ho
 have fin : ∀ {v : Bool}, (∃ h' nx' d, Tri Try.prog 22 [saA n, .int .i64 mm] [(0, ⟨.sw ds, []⟩)] 4 (.bool v, h', nx', d)) → v = b → ∃ v0 h0' nx0' d0 g, Tri Try.prog 22 (dvV [.dl ds n, .fl (.int .i64 mm)] cs 0) (dvH [.dl ds n, .fl (.int .i64 mm)] cs 0) (2 * 2) (v0, h0', nx0', d0) ∧ GrD ⟨fun _ => .bool b, []⟩ v0 h0' g := fun ⟨h', nx', d, T⟩ e => by
  subst e
  exact ⟨_, h', nx', d, fun n => n, T, GrD.flat fun σ => rfl⟩
 by_cases h : (n : Int) > mm
 ·exact fin (py_run (py_clL n mm ds) ⟨decide_eq_true h, trivial⟩ rfl) (by rw [← h2, decide_eq_true h]; rfl)
 ·rw [decide_eq_false h, Bool.false_or] at h2
  cases hb : (prsOf ds).any big with
  | true => exact fin (py_run (py_cl1 n mm ds) ⟨decide_eq_false h, rfl, rfl, rfl, rfl, ⟨h1, by omega, hb⟩, trivial⟩ rfl) (by rw [← h2, hb])
  | false => exact fin (py_run (py_cl0 n mm ds) ⟨decide_eq_false h, rfl, rfl, rfl, rfl, ⟨h1, by omega, hb⟩, trivial⟩ rfl) (by rw [← h2, hb])
def gSp : GSpecD := fun aL tp => match aL with
 | [.dl ds n, .dl es m] => some (⟨fun _ => .bool true, []⟩, tp, [SpOk ds es n ∧ m = n])
 | _ => none
theorem sp_gok : GOkD Try.prog 16 gSp := by
 intro aL tp gr tp' ob hG ho cs hc
 unfold gSp at hG
 split at hG
 case h_2 => cases hG
 rename_i ds n es m
 simp only [oI, pI] at hG
 obtain ⟨rfl, rfl, rfl⟩ := hG
 obtain ⟨⟨h1, rfl⟩, _⟩ := ho
 obtain ⟨h', nx', d, T⟩ := py_run (py_cp m ds es) ⟨by simp, rfl, rfl, rfl, rfl, h1, trivial⟩ rfl
 exact ⟨_, h', nx', d, fun n => n, T, GrD.flat fun σ => rfl⟩
end Go.Proofs.Ytmoflcoijmmpjaa
