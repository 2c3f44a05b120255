/-
  Lists that are compared.
-/
import Derived.Test.YtmjmdjcgjmjigaaChainC
namespace Go.Proofs.Ytmjmdjcgjmjigaa
set_option linter.unusedSimpArgs false
set_option linter.unusedVariables false
set_option linter.unusedSectionVars false
open Go.ChangeShapes Go.WideShapes Go.ChangeAt Go.RowKit
theorem take_eq_succ {α : Type} {xs ys : List α} {k : Nat} (d : α) (h1 : k < xs.length) (h2 : k < ys.length) (h : xs.take k = ys.take k) (he : xs.getD k d = ys.getD k d) : xs.take (k + 1) = ys.take (k + 1) := by
  rw [List.take_succ_eq_append_getElem h1, List.take_succ_eq_append_getElem h2, h]
  simp only [List.getD, List.getElem?_eq_getElem h1, List.getElem?_eq_getElem h2, Option.getD_some] at he
  rw [he]
theorem ne_of_getD {α : Type} {xs ys : List α} {k : Nat} (d : α) (he : xs.getD k d ≠ ys.getD k d) : xs ≠ ys := fun h => he (by rw [h])
theorem bool_congr {a b : Bool} (h : a = b) : Ending.returned (.bool a) = .returned (.bool b) := by rw [h]
set_option maxHeartbeats 4000000 in
theorem sameInts_any (A B : Option Addr) (n m c d : Nat) (xs ys : List Int) (hn : n ≤ 10000000) (hm : m ≤ 10000000) (h1 : xs.length = n) (h2 : ys.length = m) (W : World) (hs : Sl W A n 1 (cellsOf .i64 xs)) (ht : Sl W B m 1 (cellsOf .i64 ys)) :
    Calls Try.prog 19 #[.slice A n c, .slice B m d] W fun e w' => e = .returned (.bool (decide (xs = ys))) ∧ Ext W w' := by
  have H1 := Lib.hid h1
  have H2 := Lib.hid h2
  clear h1 h2
  have hS := St.refl W
  by_cases hnm : n = m
  · subst hnm
    go_enter Try.func19, Try.ntmps19
    (repeat' (first | fail | go_values | go_skip | go_guarded | go_step | go_upon | go_back | dsimp only))
    go_loopw [5] (fun i wr => ∃ k : Nat, i = .int .i64 (k : Int) ∧ k ≤ n ∧ Hid (xs.take k = ys.take k) ∧ St W wr []) (fun i _ => n - (intOf i).toNat)
    case atStart => exact ⟨0, rfl, by omega, rfl, hS⟩
    case round =>
      clear hS
      obtain ⟨k, rfl, hk, hf, hS⟩ := hrel
      by_cases hlt : k < n
      · obtain ⟨b, off, rfl, hb, hc⟩ := hs.at1 hlt
        obtain ⟨b2, off2, rfl, hb2, hc2⟩ := ht.at1 hlt
        rw [cellsOf_getD (by rw [H1.out]; exact hlt)] at hc
        rw [cellsOf_getD (by rw [H2.out]; exact hlt)] at hc2
        have hgo : xs.getD k 0 = ys.getD k 0 → xs.take (k + 1) = ys.take (k + 1) := take_eq_succ 0 (by rw [H1.out]; exact hlt) (by rw [H2.out]; exact hlt) hf.out
        have hne : xs.getD k 0 ≠ ys.getD k 0 → decide (xs = ys) = false := fun h => by simpa using ne_of_getD 0 h
        have HGO := Lib.hid hgo
        have HNE := Lib.hid hne
        have HC := Lib.hid hc
        have HC2 := Lib.hid hc2
        clear hgo hne hc hc2 hs ht hf
        generalize xs.getD k 0 = x at *
        generalize ys.getD k 0 = y at *
        have hlt2 : (k : Int) < n := by omega
        by_cases hxy : x = y
        · have HG : Hid (xs.take (k + 1) = ys.take (k + 1)) := HGO.out hxy
          subst hxy
          clear HGO HNE
          (repeat' (first | fail | go_values | go_skip | go_guarded | go_step | go_upon | go_back | dsimp only))
          (refine reg_ord [] [(0, true), (1, true), (2, true), (3, true), (4, true), (5, true), (6, true), (7, true), (8, true)] hS (fun w' h => h) (by kernel_rfl) (by kernel_rfl) (by kernel_rfl) (by kernel_rfl) ?_; clear hS; intro w_ hS; (repeat (first | (refine o_skip rfl rfl ?_; (try simp only [Act.put, List.setIfInBounds_toArray, List.set_cons_zero, List.set_cons_succ])) | (first | (refine o_read rfl rfl _ (c_loadF _ _ rfl _ _ rfl hb _ HC.out (by kernel_rfl)) ?_; (try simp only [Act.put, List.setIfInBounds_toArray, List.set_cons_zero, List.set_cons_succ])) | (refine o_read rfl rfl _ (c_loadF _ _ rfl _ _ rfl hb2 _ HC2.out (by kernel_rfl)) ?_; (try simp only [Act.put, List.setIfInBounds_toArray, List.set_cons_zero, List.set_cons_succ]))) | (refine o_read rfl rfl _ (by intro wq hq; go_simp; (try go_bits); first | done | exact rfl | exact ⟨rfl, rfl⟩) ?_; (try simp only [Act.put, List.setIfInBounds_toArray, List.set_cons_zero, List.set_cons_succ])))); refine o_nil ?_)
          (repeat' (first | fail | go_values | go_skip | go_guarded | go_step | go_upon | go_back | dsimp only))
          exact ⟨⟨k + 1, by go_num, by omega, HG, hS⟩, by simp [intOf]; omega⟩
        · have HN : Hid (decide (xs = ys) = false) := HNE.out hxy
          have hxy' : (x != y) = true := by rw [bne_iff_ne]; exact hxy
          clear HGO HNE hxy
          (repeat' (first | fail | go_values | go_skip | go_guarded | go_step | go_upon | go_back | dsimp only))
          (refine reg_ord [] [(0, true), (1, true), (2, true), (3, true), (4, true), (5, true), (6, true), (7, true), (8, true)] hS (fun w' h => h) (by kernel_rfl) (by kernel_rfl) (by kernel_rfl) (by kernel_rfl) ?_; clear hS; intro w_ hS; (repeat (first | (refine o_skip rfl rfl ?_; (try simp only [Act.put, List.setIfInBounds_toArray, List.set_cons_zero, List.set_cons_succ])) | (first | (refine o_read rfl rfl _ (c_loadF _ _ rfl _ _ rfl hb _ HC.out (by kernel_rfl)) ?_; (try simp only [Act.put, List.setIfInBounds_toArray, List.set_cons_zero, List.set_cons_succ])) | (refine o_read rfl rfl _ (c_loadF _ _ rfl _ _ rfl hb2 _ HC2.out (by kernel_rfl)) ?_; (try simp only [Act.put, List.setIfInBounds_toArray, List.set_cons_zero, List.set_cons_succ]))) | (refine o_read rfl rfl _ (by intro wq hq; go_simp; (try go_bits); first | done | exact rfl | exact ⟨rfl, rfl⟩) ?_; (try simp only [Act.put, List.setIfInBounds_toArray, List.set_cons_zero, List.set_cons_succ])))); refine o_nil ?_)
          (repeat' (first | fail | go_values | go_skip | go_guarded | go_step | go_upon | go_back | dsimp only))
          go_ret
          exact ⟨bool_congr HN.out.symm, hS.x⟩
      · have hkn : k = n := by omega
        have HE : Hid (decide (xs = ys) = true) := by
          show _ = _
          have := hf.out
          rw [hkn, List.take_of_length_le (by rw [H1.out]; exact Nat.le_refl _), List.take_of_length_le (by rw [H2.out]; exact Nat.le_refl _)] at this
          simpa using this
        clear hf hkn
        (repeat' (first | fail | go_values | go_skip | go_guarded | go_step | go_upon | go_back | dsimp only))
        go_ret
        exact ⟨bool_congr HE.out.symm, hS.x⟩
  · have HN : Hid (decide (xs = ys) = false) := by
      show _ = _
      rw [decide_eq_false_iff_not]
      intro h
      exact hnm (by rw [← H1.out, ← H2.out, h])
    have hnm' : ((n : Int) != (m : Int)) = true := by rw [bne_iff_ne]; omega
    clear hnm
    go_enter Try.func19, Try.ntmps19
    (repeat' (first | fail | go_values | go_skip | go_guarded | go_step | go_upon | go_back | dsimp only))
    go_ret
    exact ⟨bool_congr HN.out.symm, hS.x⟩
end Go.Proofs.Ytmjmdjcgjmjigaa
