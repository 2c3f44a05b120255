/-
  The statement ChainAlone's call: a batch without links.
-/
import Derived.Test.YtmjmdjcgjmjigaaChainW
import Derived.Test.YtmjmdjcgjmjigaaMake
namespace Go.Proofs.Ytmjmdjcgjmjigaa
set_option linter.unusedSimpArgs false
set_option linter.unusedVariables false
set_option linter.unusedSectionVars false
open Go.ChangeShapes Go.WideShapes Go.ChangeAt Go.RowKit
theorem ezBool : EZ Try.prog 22 4 (.bool false) 1 := ez_of Try.underlying22 (by kernel_rfl) rfl
theorem repl_cells (n : Nat) : boolCells (List.replicate n false) = List.replicate n (.bool false) := by simp [boolCells]
theorem spans_alone : ∀ (m i : Nat), spansFrom i i (List.replicate m false) = (List.range m).map fun j => (i + j, i + j + 1, false)
  | 0, i => by simp [spansFrom]
  | 1, i => by simp [spansFrom]
  | m + 2, i => by
      have ih := spans_alone (m + 1) (i + 1)
      rw [List.replicate_succ, List.replicate_succ]
      rw [List.replicate_succ] at ih
      simp only [spansFrom, Bool.false_eq_true, if_false]
      rw [ih, List.range_succ_eq_map (n := m + 1), List.map_cons, List.map_map]
      congr 1
      apply List.map_congr_left
      intro j _
      simp only [Function.comp_apply]
      rw [show i + 1 + j = i + (j + 1) by omega]
theorem find_alone (own : List Int) (j : Nat) : findF own j 1 = if own.getD j 0 = 0 then (-1, 0) else ((j : Int), own.getD j 0) := rfl
theorem code_alone (x : Int) (j : Nat) (p : Int × Int) (h : p = if x = 0 then (-1, 0) else ((j : Int), x)) : codeAt p.1 p.2 (j : Int) = x := by
  subst h
  unfold codeAt
  by_cases hx : x = 0
  · simp [hx]
  · have : ¬ ((j : Int) < 0) := by omega
    simp [hx, this]
theorem chunk_alone (own : List Int) (j : Nat) : chunkV own (j, j + 1, false) = [own.getD j 0] := by
  have h := code_alone (own.getD j 0) j _ (find_alone own j)
  unfold chunkV
  simp only [failedV, Nat.add_sub_cancel_left, List.range_succ, List.range_zero, List.nil_append, List.map_cons, List.map_nil, Nat.add_zero, Bool.false_eq_true, if_false]
  rw [h]
theorem codes_alone (own : List Int) : codesV (List.replicate own.length false) own = own := by
  unfold codesV spansOf
  rw [spans_alone, List.flatMap_map]
  simp only [Nat.zero_add, chunk_alone]
  rw [← List.map_eq_flatMap]
  apply List.ext_getElem
  · simp
  · intro i h1 h2
    simp [List.getD, List.getElem?_eq_getElem h2]
theorem spans_alone_len (n : Nat) : (spansOf (List.replicate n false)).length = n := by unfold spansOf; rw [spans_alone]; simp
set_option maxHeartbeats 4000000 in
theorem alone_any (A : Option Addr) (n c : Nat) (own : List Int) (hnc : n ≤ c) (hc : c ≤ maxLen) (h1 : own.length = n) (W : World) (hs : Sl W A n 1 (cellsOf .i64 own)) :
    Calls Try.prog 4 #[.slice A n c] W fun e w' => e = .returned (.bool true) ∧ Ext W w' := by
  have hca := codes_alone own
  rw [h1] at hca
  have HCA := Lib.hid hca
  have H1 := Lib.hid h1
  have hn63 : n ≤ 9223372036854775807 := by simp [maxLen] at hc; omega
  clear h1 hca hc hnc
  have hS := St.refl W
  go_enter Try.func4, Try.ntmps4
  (repeat' (first | fail | go_values | go_skip | go_guarded | go_step | go_upon | go_back | dsimp only))
  (go_at_call 10; refine ((awake_any _)).mono ?_; rintro e w_ ⟨rfl, hx_⟩; (try replace hA := hA.trans (Adv.of_ext hS.x hx_)); replace hS := hS.ext hx_; clear hx_)
  by_cases hn : n ≤ 200
  · have hn' : decide ((200 : Int) < n) = false := by simp; omega
    (repeat' (first | ((with_reducible refine g_make ?_); (refine s_make1 hS ezBool _ rfl .i64 (n) (rfl) (by omega) (by omega) ?_; clear hS; intro b_ w_ hS hA_; (try replace hA := hA.trans hA_); clear hA_; (try simp only [Act.put, List.setIfInBounds_toArray, List.set_cons_zero, List.set_cons_succ]))) | go_values | go_skip | go_guarded | go_step | go_upon | go_back | dsimp only))
    have hsl := hS.sl 0 _ n 1 _ rfl (by simp)
    rw [← repl_cells] at hsl
    (go_at_call 13; refine ((codes_any _ A A n n c n c (List.replicate n false) own own (by omega) (by omega) (by simp) H1.out H1.out _ hsl (hs.ext hS.x) (hs.ext hS.x))).mono ?_; rintro e w_ ⟨rfl, hx_⟩; (try replace hA := hA.trans (Adv.of_ext hS.x hx_)); replace hS := hS.ext hx_; clear hx_)
    rw [decide_eq_true HCA.out]
    (repeat' (first | fail | go_values | go_skip | go_guarded | go_step | go_upon | go_back | dsimp only))
    replace hsl := hS.sl 0 _ n 1 _ rfl (by simp)
    rw [← repl_cells] at hsl
    (go_at_call 11; refine (Spans_any _ n n (List.replicate n false) (by omega) (by simp) _ hsl).mono ?_; rintro e w1 ⟨v, R, rfl, ho, hS1⟩)
    replace hS := hS.app hS1.x hS1.2
    obtain ⟨A1, n1, c1, rfl, hl1, hnc1, hcm1⟩ := ho.form (by decide)
    have hn1 : n1 = n := by
      rw [spnCells_len, spans_alone_len] at hl1
      omega
    subst hn1
    clear hsl ho hS1 hl1
    (repeat' (first | fail | go_values | go_skip | go_guarded | go_step | go_upon | go_back | dsimp only))
    go_ret
    exact ⟨rfl, hS.x⟩
  · have hn' : decide ((200 : Int) < n) = true := by simp; omega
    (repeat' (first | fail | go_values | go_skip | go_guarded | go_step | go_upon | go_back | dsimp only))
    go_ret
    exact ⟨rfl, hS.x⟩
end Go.Proofs.Ytmjmdjcgjmjigaa
