/-
  The statement ChainTimes's call.
-/
import Derived.Test.YtmjmdjcgjmjigaaChainU
import Derived.Test.YtmjmdjcgjmjigaaChainW
namespace Go.Proofs.Ytmjmdjcgjmjigaa
set_option linter.unusedSimpArgs false
set_option linter.unusedVariables false
set_option linter.unusedSectionVars false
open Go.ChangeShapes Go.WideShapes Go.ChangeAt Go.RowKit
theorem timesL_len (n now : Int) : (timesL n now).length ≤ 1000 := by
  unfold timesL
  split
  · simp
  · rename_i h
    have : n ≤ 128 := by simp [timesBad] at h; omega
    rw [timesK_len]; omega
set_option maxHeartbeats 4000000 in
theorem chainTimes_any (n now : Int) (hn1 : -9223372036854775808 ≤ n) (hn2 : n ≤ 9223372036854775807) (h1 : 0 ≤ now) (h2 : now ≤ 18446744073709551615) (W : World) :
    Calls Try.prog 5 #[.int .i64 n, .int .u64 now] W fun e w' => e = .returned (.bool true) ∧ Ext W w' := by
  have T1 := fun w => Times_any n now hn1 hn2 h1 h2 w
  have T2 := fun w => rTimes_any n now hn1 hn2 h1 h2 w
  have hlen := timesL_len n now
  generalize timesL n now = xs at *
  generalize timesE n now = z at *
  clear hn1 hn2 h1 h2
  have hS := St.refl W
  go_enter Try.func5, Try.ntmps5
  (repeat' (first | fail | go_values | go_skip | go_guarded | go_step | go_upon | go_back | dsimp only))
  (go_at_call 14; refine (T1 _).mono ?_; rintro e w1 ⟨v1, R1, rfl, ho1, hS1⟩)
  replace hS := hS.app hS1.x hS1.2
  obtain ⟨A1, n1, c1, rfl, hl1, hnc1, hcm1⟩ := ho1.form (by decide)
  have hs1 := (ho1.sl hS (by decide)).1
  (repeat' (first | fail | go_values | go_skip | go_guarded | go_step | go_upon | go_back | dsimp only))
  (go_at_call 15; refine (T2 _).mono ?_; rintro e w2 ⟨v2, R2, rfl, ho2, hS2⟩)
  replace hS := hS.app hS2.x hS2.2
  obtain ⟨A2, n2, c2, rfl, hl2, hnc2, hcm2⟩ := ho2.form (by decide)
  have hs2 := (ho2.sl hS (by decide)).1
  replace hs1 := hs1.ext hS2.x
  have hn1 : xs.length = n1 := by simpa [cellsOf] using hl1
  have hn2 : xs.length = n2 := by simpa [cellsOf] using hl2
  have hnn : n1 = n2 := hn1.symm.trans hn2
  subst hnn
  have hX := hS.x
  clear T1 T2 hS hS1 hS2 ho1 ho2 hl1 hl2
  have hS := St.refl w2
  have HX := Lib.hid hX
  have HN := Lib.hid hn1
  have hn1000 : n1 ≤ 1000 := by omega
  clear hX hn1 hn2 hlen
  (repeat' (first | fail | go_values | go_skip | go_guarded | go_step | go_upon | go_back | dsimp only))
  go_loopw [9] (fun i wr => ∃ k : Nat, i = .int .i64 (k : Int) ∧ k ≤ n1 ∧ St w2 wr []) (fun i _ => n1 - (intOf i).toNat)
  case atStart => exact ⟨0, rfl, by omega, hS⟩
  case round =>
    clear hS
    obtain ⟨k, rfl, hk, hS⟩ := hrel
    by_cases hlt : k < n1
    · obtain ⟨b, off, rfl, hb, hc⟩ := hs1.at1 hlt
      obtain ⟨b2, off2, rfl, hb2, hc2⟩ := hs2.at1 hlt
      rw [cellsOf_getD (by rw [HN.out]; exact hlt)] at hc hc2
      have HC := Lib.hid hc
      have HC2 := Lib.hid hc2
      clear hc hc2 hs1 hs2
      generalize xs.getD k 0 = x at *
      have hlt2 : (k : Int) < n1 := by omega
      (repeat' (first | fail | go_values | go_skip | go_guarded | go_step | go_upon | go_back | dsimp only))
      (refine reg_ord [] [(0, true), (1, true), (2, true), (3, true), (4, true), (5, true), (6, true), (7, true), (8, true)] hS (fun w' h => h) (by kernel_rfl) (by kernel_rfl) (by kernel_rfl) (by kernel_rfl) ?_; clear hS; intro w_ hS; (repeat (first | (refine o_skip rfl rfl ?_; (try simp only [Act.put, List.getElem_toArray, List.getElem_cons_succ, List.getElem_cons_zero, List.setIfInBounds_toArray, List.set_cons_zero, List.set_cons_succ])) | (first | (refine o_read rfl rfl _ (c_loadF _ _ rfl _ _ rfl hb _ HC.out (by kernel_rfl)) ?_; (try simp only [Act.put, List.getElem_toArray, List.getElem_cons_succ, List.getElem_cons_zero, List.setIfInBounds_toArray, List.set_cons_zero, List.set_cons_succ])) | (refine o_read rfl rfl _ (c_loadF _ _ rfl _ _ rfl hb2 _ HC2.out (by kernel_rfl)) ?_; (try simp only [Act.put, List.getElem_toArray, List.getElem_cons_succ, List.getElem_cons_zero, List.setIfInBounds_toArray, List.set_cons_zero, List.set_cons_succ]))) | (refine o_read rfl rfl _ (by intro wq hq; go_simp; first | done | exact rfl | exact ⟨rfl, rfl⟩) ?_; (try simp only [Act.put, List.getElem_toArray, List.getElem_cons_succ, List.getElem_cons_zero, List.setIfInBounds_toArray, List.set_cons_zero, List.set_cons_succ])))); refine o_nil ?_)
      (repeat' (first | fail | go_values | go_skip | go_guarded | go_step | go_upon | go_back | dsimp only))
      exact ⟨⟨k + 1, by go_num, by omega, hS⟩, by simp [intOf]; omega⟩
    · (repeat' (first | fail | go_values | go_skip | go_guarded | go_step | go_upon | go_back | dsimp only))
      (go_at_call 10; refine ((awake_any _)).mono ?_; rintro e w_ ⟨rfl, hx_⟩; (try replace hA := hA.trans (Adv.of_ext hS.x hx_)); replace hS := hS.ext hx_; clear hx_)
      (repeat' (first | fail | go_values | go_skip | go_guarded | go_step | go_upon | go_back | dsimp only))
      go_ret
      exact ⟨rfl, HX.out.trans hS.x⟩
end Go.Proofs.Ytmjmdjcgjmjigaa
