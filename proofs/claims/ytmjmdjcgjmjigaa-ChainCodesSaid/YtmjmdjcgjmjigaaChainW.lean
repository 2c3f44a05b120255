/-
  The chapter's example; what calls of Codes that are asked for their answer.
-/
import Derived.Test.YtmjmdjcgjmjigaaChainD
import Derived.Test.YtmjmdjcgjmjigaaChainK
namespace Go.Proofs.Ytmjmdjcgjmjigaa
set_option linter.unusedSimpArgs false
set_option linter.unusedVariables false
set_option linter.unusedSectionVars false
open Go.ChangeShapes Go.WideShapes Go.ChangeAt Go.RowKit
theorem codesV_len (bs : List Bool) (own : List Int) (n : Nat) (hn : n ≤ 1000) (h : bs.length = n) : (codesV bs own).length ≤ 1000000 := by
  have hcv : codesV bs own = (spnsN bs n h).flatMap fun x => chunkV own x.1 := by
    unfold codesV
    rw [← spnsN_val bs n h, List.flatMap_map]
  rw [hcv]
  have h1 := chunks_len hn own (spnsN bs n h)
  have h2 := congrArg List.length (spnsN_val bs n h)
  have h3 := spansFrom_len bs 0 0
  unfold spansOf at h2
  simp only [List.length_map] at h2
  omega
set_option maxHeartbeats 2000000 in
theorem codes_any (A B C : Option Addr) (n c d m f : Nat) (bs : List Bool) (own want : List Int) (hn : n ≤ 1000) (hm : m ≤ 1000) (h1 : bs.length = n) (h2 : own.length = n) (h3 : want.length = m) (W : World)
    (hs : Sl W A n 1 (boolCells bs)) (ht : Sl W B n 1 (cellsOf .i64 own)) (hu : Sl W C m 1 (cellsOf .i64 want)) :
    Calls Try.prog 13 #[.slice A n c, .slice B n d, .slice C m f] W fun e w' => e = .returned (.bool (decide (codesV bs own = want))) ∧ Ext W w' := by
  have hS := St.refl W
  go_enter Try.func13, Try.ntmps13
  (repeat' (first | fail | go_values | go_skip | go_guarded | go_step | go_upon | go_back | dsimp only))
  (go_at_call 12; refine (Codes_any A B n c d bs own hn h1 h2 _ hs ht).mono ?_; rintro e w1 ⟨v, R, rfl, ho, hS1⟩)
  replace hS := hS.app hS1.x hS1.2
  obtain ⟨A1, n1, c1, rfl, hl1, hnc1, hcm1⟩ := ho.form (by decide)
  have hsl := (ho.sl hS (by decide)).1
  have hl1' : (codesV bs own).length = n1 := by simpa [cellsOf] using hl1
  have hl2 := codesV_len bs own n hn h1
  (repeat' (first | fail | go_values | go_skip | go_guarded | go_step | go_upon | go_back | dsimp only))
  (go_at_call 19; refine ((sameInts_any A1 C n1 m c1 f (codesV bs own) want (by omega) (by omega) hl1' h3 _ hsl (hu.ext hS.x))).mono ?_; rintro e w_ ⟨rfl, hx_⟩; (try replace hA := hA.trans (Adv.of_ext hS.x hx_)); replace hS := hS.ext hx_; clear hx_)
  (repeat' (first | fail | go_values | go_skip | go_guarded | go_step | go_upon | go_back | dsimp only))
  go_ret
  exact ⟨rfl, hS.x⟩
set_option maxHeartbeats 2000000 in
theorem awake_any (W : World) : Calls Try.prog 10 #[] W fun e w' => e = .returned (.bool true) ∧ Ext W w' := by
  have hS := St.refl W
  go_enter Try.func10, Try.ntmps10
  (repeat' (first | (first | ((with_reducible refine g_mk ?_); (refine s_mk (n := 3) (cs := [.bool true, .bool true, .bool false]) (e := 4) hS (fun w => by go_simp; first | done | exact rfl) ?_; clear hS; intro b_ w_ hS hA_; (try replace hA := hA.trans hA_); clear hA_; (try simp only [Act.put, List.setIfInBounds_toArray, List.set_cons_zero, List.set_cons_succ]))) | ((with_reducible refine g_mk ?_); (refine s_mk (n := 3) (cs := [.int .i64 0, .int .i64 5, .int .i64 0]) (e := 3) hS (fun w => by go_simp; first | done | exact rfl) ?_; clear hS; intro b_ w_ hS hA_; (try replace hA := hA.trans hA_); clear hA_; (try simp only [Act.put, List.setIfInBounds_toArray, List.set_cons_zero, List.set_cons_succ]))) | ((with_reducible refine g_mk ?_); (refine s_mk (n := 3) (cs := [.int .i64 1, .int .i64 5, .int .i64 1]) (e := 3) hS (fun w => by go_simp; first | done | exact rfl) ?_; clear hS; intro b_ w_ hS hA_; (try replace hA := hA.trans hA_); clear hA_; (try simp only [Act.put, List.setIfInBounds_toArray, List.set_cons_zero, List.set_cons_succ])))) | go_values | go_skip | go_guarded | go_step | go_upon | go_back | dsimp only))
  have hc := codes_any _ _ _ 3 3 3 3 3 [true, true, false] [0, 5, 0] [1, 5, 1] (by omega) (by omega) rfl rfl rfl _ (hS.sl 2 _ 3 1 _ rfl rfl) (hS.sl 1 _ 3 1 _ rfl rfl) (hS.sl 0 _ 3 1 _ rfl rfl)
  rw [show decide (codesV [true, true, false] [0, 5, 0] = [1, 5, 1]) = true by decide +kernel] at hc
  (go_at_call 13; refine ((hc)).mono ?_; rintro e w_ ⟨rfl, hx_⟩; (try replace hA := hA.trans (Adv.of_ext hS.x hx_)); replace hS := hS.ext hx_; clear hx_)
  (repeat' (first | fail | go_values | go_skip | go_guarded | go_step | go_upon | go_back | dsimp only))
  go_ret
  exact ⟨rfl, hS.x⟩
end Go.Proofs.Ytmjmdjcgjmjigaa
