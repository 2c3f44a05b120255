/-
  Chapter 19: what chains and codes are, in the cells of their lists; the statement ChainWhole's own call.
-/
import Derived.Test.YtmjmdjcgjmjigaaWholL
namespace Go.Proofs.Ytmjmdjcgjmjigaa
set_option linter.unusedSimpArgs false
set_option linter.unusedVariables false
set_option linter.unusedSectionVars false
open Go Go.RowKit

theorem tile_at {bs : List Bool} {own : List Int} : ∀ (l : List Spn) (a : Nat), Tiles bs a l → ∀ k x, l[k]? = some x → a ≤ x.1 ∧ x.1 < x.2.1 ∧ x.2.1 ≤ bs.length ∧ (∀ i, x.1 ≤ i → i < x.2.1 → bs.getD i false = (decide (i + 1 < x.2.1) || x.2.2)) ∧
    (∀ i, x.1 ≤ i → i < x.2.1 → (l.flatMap (chunkV own)).getD (i - a) 0 = codeAt (failedV own x).1 (failedV own x).2 (i : Int)) ∧ (k = 0 → x.1 = a) ∧ (∀ y, l[k + 1]? = some y → y.1 = x.2.1) ∧ (l[k + 1]? = none → x.2.1 = bs.length)
  | [], a, h, k, x, hx => by simp at hx
  | y :: rest, a, h, 0, x, hx => by
      simp only [List.getElem?_cons_zero, Option.some.injEq] at hx
      subst hx
      obtain ⟨h1, h2, h3, h4, h5⟩ := h
      subst h1
      refine ⟨Nat.le_refl _, h2, h3, h4, fun i hi1 hi2 => ?_, fun _ => rfl, fun z hz => ?_, fun hz => ?_⟩
      · obtain ⟨f, t, o⟩ := y
        simp only [List.flatMap_cons]
        exact chunk_getD own f t o i hi1 hi2 _
      · cases rest with
        | nil => simp at hz
        | cons z' rest' =>
          simp only [List.getElem?_cons_succ, List.getElem?_cons_zero, Option.some.injEq] at hz
          subst hz
          exact h5.1
      · cases rest with
        | nil => exact h5
        | cons z' rest' => simp at hz
  | y :: rest, a, h, k + 1, x, hx => by
      simp only [List.getElem?_cons_succ] at hx
      obtain ⟨h1, h2, h3, h4, h5⟩ := h
      obtain ⟨g1, g2, g3, g4, g5, g6, g7, g8⟩ := tile_at rest _ h5 k x hx
      refine ⟨by omega, g2, g3, g4, fun i hi1 hi2 => ?_, fun e => by omega, fun z hz => g7 z (by simpa using hz), fun hz => g8 (by simpa using hz)⟩
      rw [← g5 i hi1 hi2]
      have hl := chunkV_len own y
      simp only [List.flatMap_cons, List.getD]
      rw [List.getElem?_append_right (by omega), hl, show i - a - (y.2.1 - y.1) = i - y.2.1 by omega]
theorem spn_at : ∀ (l : List Spn) (k : Nat) (x : Spn), l[k]? = some x → (spnCells l)[k * 3]? = some (.int .i64 (x.1 : Int)) ∧ (spnCells l)[k * 3 + 1]? = some (.int .i64 (x.2.1 : Int)) ∧ (spnCells l)[k * 3 + 2]? = some (.bool x.2.2)
  | [], k, x, h => by simp at h
  | y :: l, 0, x, h => by
      simp only [List.getElem?_cons_zero, Option.some.injEq] at h
      subst h
      have e : spnCells (y :: l) = .int .i64 (y.1 : Int) :: .int .i64 (y.2.1 : Int) :: .bool y.2.2 :: spnCells l := by simp [spnCells]
      rw [e]
      exact ⟨rfl, rfl, rfl⟩
  | y :: l, k + 1, x, h => by
      simp only [List.getElem?_cons_succ] at h
      obtain ⟨h1, h2, h3⟩ := spn_at l k x h
      have e : spnCells (y :: l) = .int .i64 (y.1 : Int) :: .int .i64 (y.2.1 : Int) :: .bool y.2.2 :: spnCells l := by simp [spnCells]
      rw [e, show (k + 1) * 3 = k * 3 + 1 + 1 + 1 by omega]
      exact ⟨h1, h2, h3⟩
theorem whF_of {xs ys : List Value} {n c d : Nat} (bx : Bols xs) (lx : xs.length = n) (iy : Ints .i64 ys) (ly : ys.length = n) (hn : n ≤ 200) (hc : n ≤ c ∧ c ≤ 9223372036854775807) (hd : n ≤ d ∧ d ≤ 9223372036854775807) :
    WhF xs ys (spL xs) (cdL xs ys) n c d (spN xs) := by
  have lb : (boolsOf xs).length = n := by simp [boolsOf, lx]
  have lo : (intsOf ys).length = n := by simp [intsOf, ly]
  have T := tiles_of (boolsOf xs)
  have hx : ∀ k, k < spN xs → ∃ x, (spansOf (boolsOf xs))[k]? = some x := fun k hk => ⟨_, List.getElem?_eq_getElem hk⟩
  have A : ∀ k x, (spansOf (boolsOf xs))[k]? = some x → (spL xs)[k * 3]? = some (.int .i64 (x.1 : Int)) ∧ (spL xs)[k * 3 + 1]? = some (.int .i64 (x.2.1 : Int)) ∧ (spL xs)[k * 3 + 2]? = some (.bool x.2.2) := fun k x h => spn_at _ k x h
  have I0 : ∀ k x, (spansOf (boolsOf xs))[k]? = some x → intAt (spL xs) (k * 3) = (x.1 : Int) ∧ intAt (spL xs) (k * 3 + 1) = (x.2.1 : Int) ∧ boolAt (spL xs) (k * 3 + 2) = x.2.2 := fun k x h => by
    obtain ⟨h1, h2, h3⟩ := A k x h
    unfold intAt boolAt
    rw [h1, h2, h3]
    exact ⟨rfl, rfl, rfl⟩
  have lcv : (codesV (boolsOf xs) (intsOf ys)).length = n := by rw [codesV_size, lb]
  have C : ∀ i, i < n → intAt (cdL xs ys) i = (codesV (boolsOf xs) (intsOf ys)).getD i 0 := fun i hi => by
    unfold intAt cdL cellsOf
    rw [List.getElem?_map, List.getElem?_eq_getElem (by omega)]
    simp [List.getD, List.getElem?_eq_getElem (show i < (codesV (boolsOf xs) (intsOf ys)).length by omega)]
  have O : ∀ i, i < n → intAt ys i = (intsOf ys).getD i 0 := fun i hi => by
    unfold intAt intsOf
    rw [List.getElem?_eq_getElem (by omega)]
    simp only [List.getD, List.getElem?_map, List.getElem?_eq_getElem (show i < ys.length by omega), Option.map_some, Option.getD_some]
    cases ys[i] <;> rfl
  have B : ∀ i, i < n → boolAt xs i = (boolsOf xs).getD i false := fun i hi => by
    conv => lhs; rw [bx]
    exact boolAt_cells (by omega)
  have K : ∀ k x, (spansOf (boolsOf xs))[k]? = some x → ∀ i : Nat, x.1 ≤ i → i < x.2.1 → intAt (cdL xs ys) i = codeAt (failedV (intsOf ys) x).1 (failedV (intsOf ys) x).2 (i : Int) := fun k x h i h1 h2 => by
    obtain ⟨_, _, g3, _, g5, _⟩ := tile_at (own := intsOf ys) _ 0 T k x h
    rw [C i (by omega)]
    have := g5 i h1 h2
    rw [Nat.sub_zero] at this
    exact this
  refine ⟨bx, lx, iy, ly, Ints.of, by unfold cdL cellsOf; rw [List.length_map, lcv], spnCells_Fl _, spnCells_len _, hn, ?_, hc, hd, fun k hk => ?_, fun k hk => ?_, fun k hk => ?_, fun k hk => ?_, fun k hk i h1 h2 => ?_, fun h => ?_, fun k hk => ?_, fun k hk => ?_, fun k hk => ?_⟩
  · have := spansFrom_len (boolsOf xs) 0 0
    unfold spN spansOf
    omega
  · obtain ⟨x, h⟩ := hx k hk
    rw [(I0 k x h).1]; exact (A k x h).1
  · obtain ⟨x, h⟩ := hx k hk
    rw [(I0 k x h).2.1]; exact (A k x h).2.1
  · obtain ⟨x, h⟩ := hx k hk
    rw [(I0 k x h).2.2]; exact (A k x h).2.2
  · obtain ⟨x, h⟩ := hx k hk
    obtain ⟨e1, e2, e3⟩ := I0 k x h
    obtain ⟨g1, g2, g3, _⟩ := tile_at (own := intsOf ys) _ 0 T k x h
    rw [e1, e2]; omega
  · obtain ⟨x, h⟩ := hx k hk
    obtain ⟨e1, e2, e3⟩ := I0 k x h
    rw [e1] at h1
    rw [e2] at h2
    obtain ⟨g1, g2, g3, g4, _⟩ := tile_at (own := intsOf ys) _ 0 T k x h
    refine ⟨?_, fun hz => ?_⟩
    · rw [B i (by omega), e2, e3, g4 i (by omega) (by omega)]
      congr 1
      simp only [decide_eq_decide]; omega
    · rw [K k x h i (by omega) (by omega)] at hz
      rw [O i (by omega)]
      obtain ⟨f, t, o⟩ := x
      simp only at h1 h2 g2
      unfold codeAt at hz
      split at hz
      · rename_i hneg
        exact (failedV_neg (intsOf ys) f t o (by omega) hneg).2 i (by omega) (by omega)
      · rename_i hneg
        exfalso
        split at hz
        · exact failedV_pos (intsOf ys) f t o (by omega) hz
        · omega
  · obtain ⟨x, h0⟩ := hx 0 h
    rw [(I0 0 x h0).1]
    have := (tile_at (own := intsOf ys) _ 0 T 0 x h0).2.2.2.2.2.1 rfl
    omega
  · obtain ⟨x, h⟩ := hx k (by omega)
    obtain ⟨y, h'⟩ := hx (k + 1) hk
    rw [(I0 (k + 1) y h').1, (I0 k x h).2.1]
    have := (tile_at (own := intsOf ys) _ 0 T k x h).2.2.2.2.2.2.1 y h'
    omega
  · obtain ⟨x, h⟩ := hx k (by omega)
    rw [(I0 k x h).2.1]
    have := (tile_at (own := intsOf ys) _ 0 T k x h).2.2.2.2.2.2.2 (List.getElem?_eq_none (by unfold spN at hk; omega))
    omega
  · obtain ⟨x, h⟩ := hx k hk
    obtain ⟨e1, e2, e3⟩ := I0 k x h
    obtain ⟨g1, g2, g3, g4, _⟩ := tile_at (own := intsOf ys) _ 0 T k x h
    rw [e1, e2, e3]
    have Kx := K k x h
    obtain ⟨f, t, o⟩ := x
    simp only at Kx g2 ⊢
    by_cases hneg : (failedV (intsOf ys) (f, t, o)).1 < 0
    · refine .inl ⟨fun i h1 h2 => ?_, (failedV_neg (intsOf ys) f t o (by omega) hneg).1⟩
      rw [Kx i (by omega) (by omega)]
      unfold codeAt
      rw [if_pos hneg]
    · have hp := failedV_pos (intsOf ys) f t o (by omega)
      refine .inr ⟨fun i h1 h2 => ?_, ⟨(failedV (intsOf ys) (f, t, o)).1, fun i h1 h2 h3 => ?_⟩, fun ho => ?_⟩
      · rw [Kx i (by omega) (by omega)]
        unfold codeAt
        rw [if_neg hneg]
        split
        · exact hp
        · omega
      · rw [Kx i (by omega) (by omega)]
        unfold codeAt
        rw [if_neg hneg, if_neg h3]
      · subst ho
        rw [show ((t : Int) - 1).toNat = t - 1 by omega, Kx (t - 1) (by omega) (by omega), failedV_open]
        unfold codeAt
        simp only
        rw [if_neg (by omega), if_pos (by omega)]
theorem nei {n m : Nat} (h : n ≠ m) : ((n : Int) != (m : Int)) = true := by simp only [bne_iff_ne, ne_eq]; omega
theorem wh_ss {xs ys : List Value} {n c m d : Nat} (bx : Bols xs) (lx : xs.length = n) (iy : Ints .i64 ys) (ly : ys.length = m) (hc : n ≤ c ∧ c ≤ 9223372036854775807) (hd : m ≤ d ∧ d ≤ 9223372036854775807) :
    RunsTrue Try.prog 3 [.slice (some ⟨0, 0, none⟩) n c, .slice (some ⟨1, 0, none⟩) m d] [(0, ⟨.old, xs⟩), (1, ⟨.old, ys⟩)] 2 := by
  have hX : ∀ L, XOkZ (whV L) Try.prog := fun L => noXz_ok rfl
  have hT : ∀ L, TOkZ (whV L) Try.prog := fun L => T_okV rfl whT_one
  have hL0 : LOkZ (whV noL) Try.prog := noL_okV rfl
  have hL : LOkZ (whV (woL Try.prog)) Try.prog := L_okV rfl (mkL_ok wo_spec_ok)
  by_cases h1 : n ≤ 200
  case neg =>
    refine ⟨_, _, _, run_tri (hX _) (hT _) hL0 (wh_l1 xs ys n c m d) ?_ rfl⟩
    simp only [Alls, decide_eq_true_eq]
    repeat' (first | with_reducible exact trivial | with_reducible apply And.intro)
    all_goals first | with_reducible assumption | omega | with_reducible rfl | (skip)
  have g1 : decide ((n : Int) > 200) = false := by simp only [decide_eq_false_iff_not]; omega
  by_cases h2 : n = m
  case neg =>
    refine ⟨_, _, _, run_tri (hX _) (hT _) hL0 (wh_l2 xs ys n c m d) ?_ rfl⟩
    have g2 := nei h2
    simp only [Alls]
    repeat' (first | with_reducible exact trivial | with_reducible apply And.intro)
    all_goals first | with_reducible assumption | omega | with_reducible rfl | (exact g2)
  subst h2
  by_cases h3 : n = 0
  · subst h3
    refine ⟨_, _, _, run_tri (hX _) (hT _) hL0 (wh_e xs ys c d) ?_ rfl⟩
    simp only [Alls]
    repeat' (first | with_reducible exact trivial | with_reducible apply And.intro)
    all_goals first | with_reducible assumption | omega | with_reducible rfl | (first | exact Fl.of rfl | rfl)
  have ex : xs.take n = xs := take_len lx
  have ey : ys.take n = ys := take_len ly
  have fx : Fl xs := by rw [bx]; exact fl_bols _
  have fy := iy.fl
  have F := whF_of bx lx iy ly h1 hc hd
  have hp := spN_pos (xs := xs) (by omega)
  refine ⟨_, _, _, run_tri (hX _) (hT _) hL (wh_x xs ys n c d) ?_ rfl⟩
  simp only [Alls, avLen, ex, ey]
  repeat' (first | with_reducible exact trivial | with_reducible apply And.intro)
  all_goals first | with_reducible assumption | omega | with_reducible rfl | (first | rfl | (simp only [bne_self_eq_false, beq_self_eq_true]; done))
theorem wh_ns {ys : List Value} {m d : Nat} (iy : Ints .i64 ys) (ly : ys.length = m) (hd : m ≤ d ∧ d ≤ 9223372036854775807) :
    RunsTrue Try.prog 3 [.slice none 0 0, .slice (some ⟨1, 0, none⟩) m d] [(1, ⟨.old, ys⟩)] 2 := by
  have hX : ∀ L, XOkZ (whV L) Try.prog := fun L => noXz_ok rfl
  have hT : ∀ L, TOkZ (whV L) Try.prog := fun L => T_okV rfl whT_one
  have hL0 : LOkZ (whV noL) Try.prog := noL_okV rfl
  have hL : LOkZ (whV (woL Try.prog)) Try.prog := L_okV rfl (mkL_ok wo_spec_ok)
  by_cases h2 : 0 = m
  case neg =>
    refine ⟨_, _, _, run_tri (hX _) (hT _) hL0 (wh_l2n ys m d) ?_ rfl⟩
    have g2 := nei h2
    simp only [Alls]
    repeat' (first | with_reducible exact trivial | with_reducible apply And.intro)
    all_goals first | with_reducible assumption | omega | with_reducible rfl | (exact g2)
  subst h2
  refine ⟨_, _, _, run_tri (hX _) (hT _) hL0 (wh_en ys d) ?_ rfl⟩
  simp only [Alls]
  repeat' (first | with_reducible exact trivial | with_reducible apply And.intro)
  all_goals first | with_reducible assumption | omega | with_reducible rfl | (first | exact Fl.of rfl | rfl)
theorem wh_sn {xs : List Value} {n c : Nat} (bx : Bols xs) (lx : xs.length = n) (hc : n ≤ c ∧ c ≤ 9223372036854775807) :
    RunsTrue Try.prog 3 [.slice (some ⟨0, 0, none⟩) n c, .slice none 0 0] [(0, ⟨.old, xs⟩)] 2 := by
  have hX : ∀ L, XOkZ (whV L) Try.prog := fun L => noXz_ok rfl
  have hT : ∀ L, TOkZ (whV L) Try.prog := fun L => T_okV rfl whT_one
  have hL0 : LOkZ (whV noL) Try.prog := noL_okV rfl
  have hL : LOkZ (whV (woL Try.prog)) Try.prog := L_okV rfl (mkL_ok wo_spec_ok)
  by_cases h1 : n ≤ 200
  case neg =>
    refine ⟨_, _, _, run_tri (hX _) (hT _) hL0 (wh_l1s xs n c) ?_ rfl⟩
    simp only [Alls, decide_eq_true_eq]
    repeat' (first | with_reducible exact trivial | with_reducible apply And.intro)
    all_goals first | with_reducible assumption | omega | with_reducible rfl | (skip)
  have g1 : decide ((n : Int) > 200) = false := by simp only [decide_eq_false_iff_not]; omega
  by_cases h2 : n = 0
  case neg =>
    refine ⟨_, _, _, run_tri (hX _) (hT _) hL0 (wh_l2s xs n c) ?_ rfl⟩
    have g2 := nei h2
    simp only [Alls]
    repeat' (first | with_reducible exact trivial | with_reducible apply And.intro)
    all_goals first | with_reducible assumption | omega | with_reducible rfl | (exact g2)
  subst h2
  refine ⟨_, _, _, run_tri (hX _) (hT _) hL0 (wh_es xs c) ?_ rfl⟩
  simp only [Alls]
  repeat' (first | with_reducible exact trivial | with_reducible apply And.intro)
  all_goals first | with_reducible assumption | omega | with_reducible rfl | (first | exact Fl.of rfl | rfl)
theorem wh_n : RunsTrue Try.prog 3 [.slice none 0 0, .slice none 0 0] [] 2 := by
  have hX : ∀ L, XOkZ (whV L) Try.prog := fun L => noXz_ok rfl
  have hT : ∀ L, TOkZ (whV L) Try.prog := fun L => T_okV rfl whT_one
  have hL0 : LOkZ (whV noL) Try.prog := noL_okV rfl
  have hL : LOkZ (whV (woL Try.prog)) Try.prog := L_okV rfl (mkL_ok wo_spec_ok)
  refine ⟨_, _, _, run_tri (hX _) (hT _) hL0 wh_nn ?_ rfl⟩
  simp only [Alls]
  repeat' (first | with_reducible exact trivial | with_reducible apply And.intro)
  all_goals first | with_reducible assumption | omega | with_reducible rfl | (first | exact Fl.of rfl | rfl)
/-- The statement's own call. -/
theorem whole_any {W : World} {v0 v1 : Value} {a0 a1 : Av} {q0 q1 : Option (Addr × Nat)} {bs : List Bool} {z1 : List (List Int)} (h0 : (a0 = .fl (.slice none 0 0) ∧ bs = []) ∨ a0 = .sl (boolCells bs) bs.length) (h1 : (a1 = .fl (.slice none 0 0) ∧ z1 = []) ∨ a1 = .sl (z1.map (cellsK [.i64])).flatten z1.length)
    (A0 : AvAt a0 v0 q0) (A1 : AvAt a1 v1 q1) (L0 : Lies W a0 q0) (L1 : Lies W a1 q1) (w1 : ∀ zs ∈ z1, AllWf [.i64] zs) :
    Calls Try.prog 3 #[v0, v1] W fun e w' => e = .returned (.bool true) ∧ Ext W w' := by
  have b0 := Bols.of bs
  have l0 : (boolCells bs).length = bs.length := by simp [boolCells]
  have b1 : Ints .i64 (z1.map (cellsK [.i64])).flatten := flat_Ints (m := 1) w1
  have l1 : ((z1.map (cellsK [.i64])).flatten).length = z1.length := by rw [flat_len w1]; simp
  refine calls_sl (avs := [a0, a1]) (vs := [v0, v1]) (ps := [q0, q1]) ⟨A0, A1, trivial⟩ ⟨L0, L1, trivial⟩ (fun σ => rfl) fun cs hcs => ?_
  obtain ⟨c, d, rfl⟩ := caps2 hcs
  rcases h0 with ⟨rfl, rfl⟩ | rfl <;> rcases h1 with ⟨rfl, rfl⟩ | rfl
  · exact wh_n
  · exact wh_ns b1 l1 hcs.1
  · exact wh_sn b0 l0 hcs.1
  · exact wh_ss b0 l0 b1 l1 hcs.1 hcs.2.1
end Go.Proofs.Ytmjmdjcgjmjigaa
