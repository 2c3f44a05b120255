/-
  Chapter 14: merge.Merge: the laws of its first loops.
-/
import Derived.Test.YtmoflcoijmmpjaaGrAU
namespace Go.Proofs.Ytmoflcoijmmpjaa
set_option linter.unusedSimpArgs false
set_option linter.unusedVariables false
set_option linter.unusedSectionVars false
open Go Go.RowKit
theorem mhX {b : Bool} {L : LFun} {T : TFun} : XOkZ (mhV b L T) Try.prog := XOneZ.ok cmpY_ok rfl
theorem mhT_one : TOneZ Try.prog mhT := orTz_ok (mkD_ok so_gok) (mkW_ok dn_wok)
theorem mhTt {b : Bool} {L : LFun} : TOkZ (mhV b L mhT) Try.prog := T_okV rfl mhT_one
theorem mhL0 {b : Bool} {T : TFun} : LOkZ (mhV b noL T) Try.prog := noL_okV rfl
theorem cnL_app : ∀ (a b : List DV), cnL (a ++ b) = cnL a ++ cnL b
 | [], b => by simp [cnL]
 | x :: a, b => by simp only [List.cons_append, cnL, cnL_app a b]
theorem cnL_by : ∀ l : List Int, cnL (byD l) = byD l
 | [] => by simp [byD, cnL]
 | x :: l => by
   have := cnL_by l
   simp only [byD, List.map_cons, cnL, cnD] at this ⊢
   rw [this]
theorem cnL_cp : ∀ ps : List Pr, cnL (cpD ps) = cpD ps
 | [] => by simp [cpD, cnL]
 | p :: ps => by
   rw [cpD_cons, cnL_app, cnL_cp ps]
   simp only [prD, cnL, cnD, cnL_by]
theorem cp_all (ps : List Pr) : (cpD ps).take (ps.length * 3) = cpD ps := List.take_of_length_le (by rw [cpD_len]; exact Nat.le_refl _)
def llD (L : List (List Pr)) : List DV := L.map fun l => .sl l.length none (cpD l)
def llOf (ds : List DV) : List (List Pr) := ds.map fun d => match d with | .sl _ _ es => prsOf es | _ => []
theorem llOf_ll (L : List (List Pr)) : llOf (llD L) = L := by
 unfold llOf llD
 rw [List.map_map]
 refine (List.map_congr_left (g := id) fun l _ => ?_).trans (List.map_id L)
 exact prsOf_cp l
theorem ob27s (ds : List DV) (o nx : Nat) : ShOb Try.prog 27 true true ds o nx = Alls [DSl ds (o + 0) (dLen ds (o + 0)) none (dSub ds (o + 0))] := by kernel_rfl
structure LlAt (ds : List DV) (i : Nat) (l : List Pr) : Prop where
 n : dLen ds i = l.length
 s : dSub ds i = cpD l
 o : ∀ nx, ShOb Try.prog 27 true true ds i nx
theorem dsl_at {ds : List DV} {i : Nat} {l : List Pr} (h : ds[i]? = some (.sl l.length none (cpD l))) : LlAt ds i l := by
 have e1 : dLen ds i = l.length := by unfold dLen; rw [h]
 have e2 : dSub ds i = cpD l := by unfold dSub; rw [h]
 refine ⟨e1, e2, fun nx => ?_⟩
 rw [ob27s]
 simp only [Nat.add_zero]
 exact ⟨⟨none, by rw [e1, e2]; exact h, .inl rfl⟩, trivial⟩
theorem ll_at {L : List (List Pr)} {i : Nat} {l : List Pr} (h : L[i]? = some l) : LlAt (llD L) i l := dsl_at (by unfold llD; rw [List.getElem?_map, h]; rfl)
def sumL (L : List (List Pr)) : Nat := (L.map List.length).sum
theorem sumL_snoc (L : List (List Pr)) (l : List Pr) : sumL (L ++ [l]) = sumL L + l.length := by simp [sumL]
theorem takeI_snoc {α : Type} {L : List α} {i : Nat} {l : α} (h : L[i]? = some l) : L.take (i + 1) = L.take i ++ [l] := by
 obtain ⟨hi, e⟩ := List.getElem?_eq_some_iff.1 h
 rw [List.take_add_one, h]
 rfl
theorem sumL_le {L : List (List Pr)} (hm : ∀ l ∈ L, l.length ≤ 9000000) : sumL L ≤ L.length * 9000000 := by
 induction L with
 | nil => simp [sumL]
 | cons l L ih =>
  have h1 := hm l (List.mem_cons_self ..)
  have h2 := ih fun x hx => hm x (List.mem_cons_of_mem _ hx)
  simp only [sumL, List.map_cons, List.sum_cons, List.length_cons] at h2 ⊢
  omega
structure LL (L : List (List Pr)) (n : Nat) : Prop where
 l : L.length = n
 n9 : n ≤ 1000
 m : ∀ l ∈ L, l.length ≤ 9000000
 O : ∀ l ∈ L, ∀ p ∈ l, PrOk p
theorem mh_sum {inr : Bool} {h0 : Hp} {L : List (List Pr)} {n : Nat} {dr : Bool} (hL : LL L n) : ∀ (r i : Nat), i + r = n →
  LRuns inr Try.prog (bodyIn Try.prog 12 3) 4 20 h0 128 [(0, llA n), (1, .bool dr), (6, mhI (sumL (L.take i) : Nat)), (17, llA n), (18, iV n), (19, iV i)] [(0, ⟨.sw (llD L), []⟩)] 10 (.exit 0, [(0, llA n), (1, .bool dr), (6, mhI (sumL L : Nat))], [(0, ⟨.sw (llD L), []⟩)])
 | 0, i, hr => by
   have hl := hL.l
   rw [List.take_of_length_le (show L.length ≤ i by omega)]
   refine LRuns.exit (code_runsP mhX mhL0 (runZ_ok mhX mhTt mhL0 mixed 12) mixed (mh_a_end inr n i _ dr (llD L)) ?_) (by intro e; cases e) rfl (by omega) (by omega) (fun n => n) ?_ ?_ rfl
   ·simp only [Alls, decide_eq_false_iff_not]
    exact ⟨by omega, trivial⟩
   ·exact ⟨rfl, rb_slg rfl rfl, rfl, rfl, rfl, rfl, trivial⟩
   ·exact ⟨sw_row rfl rfl, trivial⟩
 | r + 1, i, hr => by
   have hl := hL.l
   have hn9 := hL.n9
   have hi : i < L.length := by omega
   obtain ⟨l, hx⟩ : ∃ l, L[i]? = some l := ⟨L[i], List.getElem?_eq_getElem hi⟩
   have A := ll_at hx
   have hlm := hL.m l (List.mem_of_getElem? hx)
   have hs := sumL_le (L := L.take i) fun x hx => hL.m x (List.mem_of_mem_take hx)
   rw [List.length_take] at hs
   have hs2 : sumL (L.take (i + 1)) = sumL (L.take i) + l.length := by rw [takeI_snoc hx, sumL_snoc]
   have es : adI ((sumL (L.take i) : Nat) : Int) (l.length : Int) = ((sumL (L.take (i + 1)) : Nat) : Int) := by rw [adI_eq, hs2]; omega
   have o1 := A.o 10
   refine LRuns.step (code_runsP mhX mhL0 (runZ_ok mhX mhTt mhL0 mixed 12) mixed (mh_a_go inr n i _ dr (llD L)) ?_) rfl (by omega) (by omega) (fun n => n) ?_ ?_ rfl (mh_sum hL r (i + 1) (by omega))
   ·simp only [Alls, rg, decide_eq_true_eq, Nat.add_zero, A.n, es]
    repeat' (with_reducible apply And.intro)
    all_goals first | omega | (with_reducible assumption) | (with_reducible exact trivial)
   ·refine ⟨rfl, rb_slg rfl rfl, rfl, rfl, rfl, ?_, rfl, rb_slg rfl rfl, rfl, rfl, rfl, rfl, trivial⟩
    simp only [Nat.add_zero, A.n, es]
    first | done | rfl
   ·exact ⟨sw_row (m := 0) rfl rfl, trivial⟩
theorem hdsF_snoc : ∀ (L : List (List Pr)) (l : List Pr) (k : Nat), hdsF k (L ++ [l]) = hdsF k L ++ (bif l.isEmpty then [] else [(l, k + L.length)])
 | [], l, k => by simp only [List.nil_append, hdsF, List.length_nil, Nat.add_zero]
 | x :: L, l, k => by
   simp only [List.cons_append, hdsF, hdsF_snoc L l (k + 1), List.length_cons]
   rw [show k + (L.length + 1) = k + 1 + L.length by omega]
   cases x.isEmpty <;> rfl
theorem hdD_snoc (H : List Hd) (l : List Pr) (a : Nat) : hdD (H ++ [(l, a)]) = hdD H ++ [.sl l.length none (cpD l), .fl (.int .i64 (a : Int))] := by simp [hdD]
def heV (H : List Hd) : Value := match H with | [] => nlV | _ => heA H.length
def heH (H : List Hd) (ds : List DV) : Hp := match H with | [] => [(0, ⟨.sw ds, []⟩)] | _ => [(60, ⟨.dw 2 zHd (hdD H), []⟩), (0, ⟨.sw ds, []⟩)]
theorem heV_ne {H : List Hd} (h : H ≠ []) : heV H = heA H.length := by cases H with | nil => exact absurd rfl h | cons x l => rfl
theorem heH_ne {H : List Hd} (h : H ≠ []) (ds : List DV) : heH H ds = [(60, ⟨.dw 2 zHd (hdD H), []⟩), (0, ⟨.sw ds, []⟩)] := by cases H with | nil => exact absurd rfl h | cons x l => rfl
def allA (L : List (List Pr)) : Bool := L.all asc
theorem mh_hds {inr : Bool} {h0 : Hp} {L : List (List Pr)} {n : Nat} {dr : Bool} (hL : LL L n) : ∀ (r i : Nat) (H : List Hd), i + r = n → hdsF 0 (L.take i) = H →
  LRuns inr Try.prog (bodyIn Try.prog 12 11) 20 100 h0 128 [(0, llA n), (1, .bool dr), (9, heV H), (35, llA n), (36, iV n), (37, iV i)] (heH H (llD L)) 61
   (bif allA (L.drop i) then (.exit 2, [(1, .bool dr), (9, heV (hdsF 0 L))], heH (hdsF 0 L) (llD L)) else (.ret, [(4, nlV), (5, mhI 2)], [(0, ⟨.sw (llD L), []⟩)]))
 | 0, i, H, hr, hH => by
   have hl := hL.l
   rw [List.take_of_length_le (show L.length ≤ i by omega)] at hH
   rw [List.drop_of_length_le (show L.length ≤ i by omega), hH]
   cases hE : H with
   | nil =>
    refine LRuns.exit (code_runsP mhX mhL0 (runZ_ok mhX mhTt mhL0 mixed 12) mixed (mh_b_nx inr n 0 i dr (llD L) []) ?_) (by intro e; cases e) rfl (by omega) (by omega) (fun n => n) ?_ ?_ rfl
    ·simp only [Alls, decide_eq_false_iff_not]
     exact ⟨by omega, trivial⟩
    ·exact ⟨rfl, rfl, rfl, rfl, trivial⟩
    ·exact ⟨sw_row (m := 0) rfl rfl, trivial⟩
   | cons x t =>
    rw [heV_ne (by simp), heH_ne (by simp)]
    refine LRuns.exit (code_runsP mhX mhL0 (runZ_ok mhX mhTt mhL0 mixed 12) mixed (mh_b_rx inr n (x :: t).length i dr (llD L) (hdD (x :: t))) ?_) (by intro e; cases e) rfl (by omega) (by omega) (fun n => n) ?_ ?_ rfl
    ·simp only [Alls, decide_eq_false_iff_not]
     exact ⟨by omega, trivial⟩
    ·exact ⟨rfl, rfl, rfl, rb_slg rfl rfl, trivial⟩
    ·exact ⟨dw_row (m := 60) rfl rfl, sw_row (m := 0) rfl rfl, trivial⟩
 | r + 1, i, H, hr, hH => by
   have hl := hL.l
   have hn9 := hL.n9
   have hi : i < L.length := by omega
   obtain ⟨l, hx⟩ : ∃ l, L[i]? = some l := ⟨L[i], List.getElem?_eq_getElem hi⟩
   have hlm := List.mem_of_getElem? hx
   have A := ll_at hx
   have hm := hL.m l hlm
   have o1 := A.o 61
   have hd : L.drop i = l :: L.drop (i + 1) := by
    obtain ⟨h1, h2⟩ := List.getElem?_eq_some_iff.1 hx
    rw [List.drop_eq_getElem_cons hi, h2]
   have hS : SoOk (cpD l) l.length (asc l) := ⟨by rw [prsOf_cp]; exact cpD_prs l, by rw [prsOf_cp]; exact hL.O l hlm, by rw [prsOf_cp], hm, by rw [prsOf_cp]⟩
   have hH2 : hdsF 0 (L.take (i + 1)) = H ++ (bif l.isEmpty then [] else [(l, i)]) := by
    rw [takeI_snoc hx, hdsF_snoc, hH, List.length_take, Nat.zero_add, Nat.min_eq_left (by omega)]
   have hHl : H.length ≤ 1000 := by
    have := hdsF_len (L.take i) 0
    rw [hH, List.length_take] at this
    omega
   have hDl := hdD_len H
   rw [hd]
   show LRuns _ _ _ _ _ _ _ _ _ _ (bif (asc l && allA (L.drop (i + 1))) then _ else _)
   cases hs : asc l with
   | false =>
    rw [hs] at hS
    simp only [Bool.false_and, cond_false]
    cases hE : H with
    | nil =>
     refine LRuns.exit (code_runsP mhX mhL0 (runZ_ok mhX mhTt mhL0 mixed 12) mixed (mh_b_ns inr n 0 i dr (llD L) []) ?_) (by intro e; cases e) rfl (by omega) (by omega) (fun n => n) ?_ ?_ rfl
     ·
      simp only [Alls, rg, decide_eq_true_eq, decide_eq_false_iff_not, Nat.add_zero, A.n, A.s, cp_all, cnL_cp]
      repeat' (with_reducible apply And.intro)
      all_goals first | omega | (with_reducible assumption) | (with_reducible exact trivial) | (with_reducible rfl) | exact fun e => absurd (A.n.symm.trans e) (by omega) | skip
     ·exact ⟨rfl, rfl, rfl, rfl, trivial⟩
     ·exact ⟨sw_row (m := 0) rfl rfl, trivial⟩
    | cons x t =>
     rw [heV_ne (by simp), heH_ne (by simp)]
     refine LRuns.exit (code_runsP mhX mhL0 (runZ_ok mhX mhTt mhL0 mixed 12) mixed (mh_b_rs inr n (x :: t).length i dr (llD L) (hdD (x :: t))) ?_) (by intro e; cases e) rfl (by omega) (by omega) (fun n => n) ?_ ?_ rfl
     ·
      simp only [Alls, rg, decide_eq_true_eq, decide_eq_false_iff_not, Nat.add_zero, A.n, A.s, cp_all, cnL_cp]
      repeat' (with_reducible apply And.intro)
      all_goals first | omega | (with_reducible assumption) | (with_reducible exact trivial) | (with_reducible rfl) | exact fun e => absurd (A.n.symm.trans e) (by omega) | skip
     ·exact ⟨rfl, rfl, rfl, rfl, trivial⟩
     ·exact ⟨sw_row (m := 0) rfl rfl, trivial⟩
   | true =>
    rw [hs] at hS
    simp only [Bool.true_and]
    cases hle : l.isEmpty with
    | true =>
     rw [hle, cond_true, List.append_nil] at hH2
     have nx := mh_hds (inr := inr) (h0 := h0) (dr := dr) hL r (i + 1) H (by omega) hH2
     have hl0 : l.length = 0 := by rw [List.isEmpty_iff.1 hle]; rfl
     cases hE : H with
     | nil =>
      rw [hE] at nx
      refine LRuns.step (code_runsP mhX mhL0 (runZ_ok mhX mhTt mhL0 mixed 12) mixed (mh_b_ne inr n 0 i dr (llD L) []) ?_) rfl (by omega) (by omega) (fun n => n) ?_ ?_ rfl nx
      ·
       simp only [Alls, rg, decide_eq_true_eq, decide_eq_false_iff_not, Nat.add_zero, A.n, A.s, cp_all, cnL_cp]
       repeat' (with_reducible apply And.intro)
       all_goals first | omega | (with_reducible assumption) | (with_reducible exact trivial) | (with_reducible rfl) | exact fun e => absurd (A.n.symm.trans e) (by omega) | skip
      ·exact ⟨rfl, rb_slg rfl rfl, rfl, rfl, rfl, rfl, rfl, rb_slg rfl rfl, rfl, rfl, rfl, rfl, trivial⟩
      ·exact ⟨sw_row (m := 0) rfl rfl, trivial⟩
     | cons x t =>
      rw [hE] at nx
      rw [heV_ne (by simp), heH_ne (by simp)] at nx ⊢
      refine LRuns.step (code_runsP mhX mhL0 (runZ_ok mhX mhTt mhL0 mixed 12) mixed (mh_b_re inr n (x :: t).length i dr (llD L) (hdD (x :: t))) ?_) rfl (by omega) (by omega) (fun n => n) ?_ ?_ rfl nx
      ·
       simp only [Alls, rg, decide_eq_true_eq, decide_eq_false_iff_not, Nat.add_zero, A.n, A.s, cp_all, cnL_cp]
       repeat' (with_reducible apply And.intro)
       all_goals first | omega | (with_reducible assumption) | (with_reducible exact trivial) | (with_reducible rfl) | exact fun e => absurd (A.n.symm.trans e) (by omega) | skip
      ·exact ⟨rfl, rb_slg rfl rfl, rfl, rfl, rfl, rb_slg rfl rfl, rfl, rb_slg rfl rfl, rfl, rfl, rfl, rfl, trivial⟩
      ·exact ⟨dw_row (m := 60) rfl rfl, sw_row (m := 0) rfl rfl, trivial⟩
    | false =>
     rw [hle, cond_false] at hH2
     have nx := mh_hds (inr := inr) (h0 := h0) (dr := dr) hL r (i + 1) (H ++ [(l, i)]) (by omega) hH2
     rw [heV_ne (by simp), heH_ne (by simp)] at nx
     have hl0 : 0 < l.length := by
      cases hh : l with
      | nil => rw [hh] at hle; cases hle
      | cons a b => simp
     cases hE : H with
     | nil =>
      rw [hE] at nx
      refine LRuns.step (code_runsP mhX mhL0 (runZ_ok mhX mhTt mhL0 mixed 12) mixed (mh_b_ng inr n 0 i dr (llD L) []) ?_) rfl (by omega) (by omega) (fun _ => 64) ?_ ?_ rfl nx
      ·
       simp only [Alls, rg, decide_eq_true_eq, decide_eq_false_iff_not, Nat.add_zero, A.n, A.s, cp_all, cnL_cp]
       repeat' (with_reducible apply And.intro)
       all_goals first | omega | (with_reducible assumption) | (with_reducible exact trivial) | (with_reducible rfl) | exact fun e => absurd (A.n.symm.trans e) (by omega) | skip
      ·exact ⟨rfl, rb_slg rfl rfl, rfl, rfl, rfl, rb_slg rfl rfl, rfl, rb_slg rfl rfl, rfl, rfl, rfl, rfl, trivial⟩
      ·
       refine ⟨dw_row (m := 64) rfl (dw_eq ?_), sw_row (m := 0) rfl rfl, trivial⟩
       simp only [Nat.add_zero, A.n, A.s, hdD_snoc]
       rfl
     | cons x t =>
      rw [hE] at nx hDl hHl
      rw [heV_ne (by simp), heH_ne (by simp)]
      refine LRuns.step (code_runsP mhX mhL0 (runZ_ok mhX mhTt mhL0 mixed 12) mixed (mh_b_rg inr n (x :: t).length i dr (llD L) (hdD (x :: t))) ?_) rfl (by omega) (by omega) (fun _ => 64) ?_ ?_ rfl nx
      ·
       simp only [Alls, rg, decide_eq_true_eq, decide_eq_false_iff_not, Nat.add_zero, A.n, A.s, cp_all, cnL_cp]
       repeat' (with_reducible apply And.intro)
       all_goals first | omega | (with_reducible assumption) | (with_reducible exact trivial) | (with_reducible rfl) | exact fun e => absurd (A.n.symm.trans e) (by omega) | skip
      ·refine ⟨rfl, rb_slg rfl rfl, rfl, rfl, rfl, ?_, rfl, rb_slg rfl rfl, rfl, rfl, rfl, rfl, trivial⟩
       rw [List.length_append]
       exact rb_slg rfl rfl
      ·
       refine ⟨dw_row (m := 64) rfl (dw_eq ?_), sw_row (m := 0) rfl rfl, trivial⟩
       simp only [Nat.add_zero, A.n, A.s, hdD_snoc]
       skip
theorem mh_heap {inr : Bool} {h0 : Hp} {ds : List DV} {dr : Bool} {m : Nat} (hm : m ≤ 100) : ∀ (j : Nat) (H : List Hd), m ≤ H.length → j ≤ 100 → (∀ k, k < m → HdOk (gH H k)) →
  LRuns inr Try.prog (bodyIn Try.prog 12 19) 100 120 h0 128 [(1, .bool dr), (9, heA m), (12, mhI ((j : Int) - 1))] [(60, ⟨.dw 2 zHd (hdD H), []⟩), (0, ⟨.sw ds, []⟩)] 101
   (.exit 4, [(1, .bool dr), (9, heA m)], [(60, ⟨.dw 2 zHd (hdD (hfH j H m)), []⟩), (0, ⟨.sw ds, []⟩)])
 | 0, H, hl, hj, hO => by
   refine LRuns.exit (code_runsP mhX mhL0 (runZ_ok mhX mhTt mhL0 mixed 12) mixed (mh_c_x inr m (((0 : Nat) : Int) - 1) dr ds (hdD H)) ?_) (by intro e; cases e) rfl (by omega) (by omega) (fun n => n) ?_ ?_ rfl
   ·simp only [Alls, decide_eq_false_iff_not]
    exact ⟨by omega, trivial⟩
   ·exact ⟨rfl, rfl, rfl, rb_slg rfl rfl, trivial⟩
   ·exact ⟨dw_row (m := 60) rfl rfl, sw_row (m := 0) rfl rfl, trivial⟩
 | j + 1, H, hl, hj, hO => by
   have ej : Int.toNat (((j + 1 : Nat) : Int) - 1) = j := by omega
   have e1 : ((j + 1 : Nat) : Int) - 1 - 1 = (j : Int) - 1 := by omega
   have S := dn_same (n := m) m H j hl
   have hO2 : ∀ k, k < m → HdOk (gH (dnH m H m j) k) := fun k hk => by
    obtain ⟨k', h1, h2⟩ := S.m _ ⟨k, hk, rfl⟩
    rw [← h2]
    exact hO k' h1
   have nx := mh_heap (inr := inr) (h0 := h0) (ds := ds) (dr := dr) hm j (dnH m H m j) (by rw [S.l]; exact hl) (by omega) hO2
   have D : DnOk (hdD H) m j := ⟨by rw [hdOf_hd], by rw [hdOf_hd]; exact hl, hm, by omega, by rw [hdOf_hd]; exact hO⟩
   refine LRuns.step (code_runsP mhX mhL0 (runZ_ok mhX mhTt mhL0 mixed 12) mixed (mh_c_go inr m (((j + 1 : Nat) : Int) - 1) dr ds (hdD H)) ?_) rfl (by omega) (by omega) (fun n => n) ?_ ?_ rfl nx
   ·simp only [Alls, rg, decide_eq_true_eq, ej, e1]
    repeat' (with_reducible apply And.intro)
    all_goals first | omega | (with_reducible assumption) | (with_reducible exact trivial) | (with_reducible rfl)
   ·exact ⟨rfl, rfl, rfl, rb_slg rfl rfl, rfl, (by rw [e1] <;> rfl), trivial⟩
   ·refine ⟨dw_row (m := 60) rfl (dw_eq ?_), sw_row (m := 0) rfl rfl, trivial⟩
    rw [ej, hdOf_hd]
end Go.Proofs.Ytmoflcoijmmpjaa
