/-
  The program's failed and Codes: the codes of a batch's records.
-/
import Derived.Test.YtmjmdjcgjmjigaaChainB
import Derived.Test.YtmjmdjcgjmjigaaOrder
import Derived.LoopTactic
import Derived.LoopN
namespace Go.Proofs.Ytmjmdjcgjmjigaa
set_option linter.unusedSimpArgs false
set_option linter.unusedVariables false
set_option linter.unusedSectionVars false
open Go.ChangeShapes Go.WideShapes Go.ChangeAt Go.RowKit
attribute [local go_sem] Oper.semAt_some
def findF (own : List Int) : Nat → Nat → Int × Int
  | _, 0 => (-1, 0)
  | i, d + 1 => if own.getD i 0 = 0 then findF own (i + 1) d else (i, own.getD i 0)
/-- Where a chain failed, and with which code. -/
def failedV (own : List Int) (x : Spn) : Int × Int := if x.2.2 then ((x.2.1 : Int) - 1, 2) else findF own x.1 (x.2.1 - x.1)
theorem ret2_int {k k' : IntKind} {a b c d : Int} (h : a = b) (h' : c = d) : Ending.returned (.tuple #[.int k a, .int k' c]) = .returned (.tuple #[.int k b, .int k' d]) := by rw [h, h']
theorem neg1_lit (x : Int) : x + -1 = x - 1 := rfl
set_option profiler true in
set_option maxHeartbeats 4000000 in
theorem failed_any (f t : Nat) (o : Bool) (A : Option Addr) (n c : Nat) (own : List Int) (hn : n ≤ 1000) (h1 : own.length = n) (hft : f ≤ t) (ht : t ≤ n) (W : World) (hs : Sl W A n 1 (cellsOf .i64 own)) :
    Calls Try.prog 36 #[.agg #[.int .i64 (f : Int), .int .i64 (t : Int), .bool o], .slice A n c] W fun e w' => e = .returned (.tuple #[.int .i64 (failedV own (f, t, o)).1, .int .i64 (failedV own (f, t, o)).2]) ∧ Ext W w' := by
  have H1 := Lib.hid h1
  clear h1
  have hS := St.refl W
  cases o
  · have hv : failedV own (f, t, false) = findF own f (t - f) := rfl
    rw [hv]
    clear hv
    go_enter Try.func36, Try.ntmps36
    (repeat' (first | (first | ((with_reducible refine g_box ?_); (refine s_box hS _ _ rfl _ (by (conv => lhs; whnf) <;> exact rfl) _ (by (conv => lhs; whnf) <;> exact rfl) ?_; clear hS; intro b_ w_ hS hA_; (try replace hA := hA.trans hA_); clear hA_; (try simp only [Act.put, List.setIfInBounds_toArray, List.set_cons_zero, List.set_cons_succ]))) | ((with_reducible refine g_load ?_); (refine s_load1 0 hS _ _ rfl _ _ rfl _ rfl _ rfl (by kernel_rfl) ?_; (try simp only [Act.put, List.setIfInBounds_toArray, List.set_cons_zero, List.set_cons_succ])))) | go_values | go_skip | go_guarded | go_step | go_upon | go_back | dsimp only))
    go_loopw [6] (fun i wr => ∃ k : Nat, i = .int .i64 (k : Int) ∧ f ≤ k ∧ k ≤ t ∧ Hid (findF own f (t - f) = findF own k (t - k)) ∧ St W wr [(b_, [.int .i64 (f : Int), .int .i64 (t : Int), .bool false])]) (fun i _ => t - (intOf i).toNat)
    case atStart => exact ⟨f, rfl, by omega, by omega, rfl, hS⟩
    case round =>
      clear hS
      obtain ⟨k, rfl, hk1, hk2, hf, hS⟩ := hrel
      by_cases hlt : k < t
      · obtain ⟨b, off, rfl, hb, hc⟩ := hs.at1 (by omega : k < n)
        rw [cellsOf_getD (by rw [H1.out]; omega)] at hc
        have hstep : findF own k (t - k) = if own.getD k 0 = 0 then findF own (k + 1) (t - (k + 1)) else ((k : Int), own.getD k 0) := by
          rw [show t - k = (t - (k + 1)) + 1 by omega]; rfl
        have HF : Hid (findF own f (t - f) = if own.getD k 0 = 0 then findF own (k + 1) (t - (k + 1)) else ((k : Int), own.getD k 0)) := hf.out.trans hstep
        clear hstep hf hs
        have HC := Lib.hid hc
        clear hc
        generalize own.getD k 0 = z at *
        have hkn : (k : Int) < n := by omega
        by_cases hz : z = 0
        · subst hz
          have HF' : Hid (findF own f (t - f) = findF own (k + 1) (t - (k + 1))) := by have := HF.out; rw [if_pos rfl] at this; exact this
          clear HF
          (repeat' (first | (first | ((with_reducible refine g_load ?_); (refine s_load1 0 hS _ _ rfl _ _ rfl _ rfl _ rfl (by kernel_rfl) ?_; (try simp only [Act.put, List.setIfInBounds_toArray, List.set_cons_zero, List.set_cons_succ]))) | ((with_reducible refine g_load ?_); (refine s_loadF hS _ _ rfl _ _ rfl hb _ HC.out (by kernel_rfl) ?_; (try simp only [Act.put, List.setIfInBounds_toArray, List.set_cons_zero, List.set_cons_succ])))) | go_values | go_skip | go_guarded | go_step | go_upon | go_back | dsimp only))
          exact ⟨⟨k + 1, by go_num, by omega, by omega, HF', hS⟩, by simp [intOf]; omega⟩
        · have HF' : Hid (findF own f (t - f) = ((k : Int), z)) := by have := HF.out; rw [if_neg hz] at this; exact this
          have hz1 : (z != 0) = true := by rw [bne_iff_ne]; exact hz
          clear HF hz
          (repeat' (first | (first | ((with_reducible refine g_load ?_); (refine s_load1 0 hS _ _ rfl _ _ rfl _ rfl _ rfl (by kernel_rfl) ?_; (try simp only [Act.put, List.setIfInBounds_toArray, List.set_cons_zero, List.set_cons_succ]))) | ((with_reducible refine g_load ?_); (refine s_loadF hS _ _ rfl _ _ rfl hb _ HC.out (by kernel_rfl) ?_; (try simp only [Act.put, List.setIfInBounds_toArray, List.set_cons_zero, List.set_cons_succ])))) | go_values | go_skip | go_guarded | go_step | go_upon | go_back | dsimp only))
          (refine reg_ord [(b_, [.int .i64 (f : Int), .int .i64 (t : Int), .bool false])] [(0, true), (1, true), (2, true), (3, true), (4, true), (5, true), (6, true)] hS (fun w' h => h) (by kernel_rfl) (by kernel_rfl) (by kernel_rfl) (by kernel_rfl) ?_; clear hS; intro w_ hS; (repeat (first | (refine o_skip rfl rfl ?_; (try simp only [Act.put, List.setIfInBounds_toArray, List.set_cons_zero, List.set_cons_succ])) | (refine o_read rfl rfl _ (c_loadF _ _ rfl _ _ rfl hb _ HC.out (by kernel_rfl)) ?_; (try simp only [Act.put, List.setIfInBounds_toArray, List.set_cons_zero, List.set_cons_succ])) | (refine o_read rfl rfl _ (by intro wq hq; go_simp; (try go_bits); first | done | exact rfl | exact ⟨rfl, rfl⟩) ?_; (try simp only [Act.put, List.setIfInBounds_toArray, List.set_cons_zero, List.set_cons_succ])))); refine o_nil ?_)
          (repeat' (first | fail | go_values | go_skip | go_guarded | go_step | go_upon | go_back | dsimp only))
          go_ret2
          exact ⟨ret2_int (by rw [HF'.out]) (by rw [HF'.out]), hS.x⟩
      · have hk3 : k = t := by omega
        have HF' : Hid (findF own f (t - f) = (-1, 0)) := by have := hf.out; rw [hk3, Nat.sub_self] at this; exact this
        clear hf
        (repeat' (first | ((with_reducible refine g_load ?_); (refine s_load1 0 hS _ _ rfl _ _ rfl _ rfl _ rfl (by kernel_rfl) ?_; (try simp only [Act.put, List.setIfInBounds_toArray, List.set_cons_zero, List.set_cons_succ]))) | go_values | go_skip | go_guarded | go_step | go_upon | go_back | dsimp only))
        go_ret2
        exact ⟨ret2_int (by rw [HF'.out]) (by rw [HF'.out]), hS.x⟩
  · go_enter Try.func36, Try.ntmps36
    (repeat' (first | (first | ((with_reducible refine g_box ?_); (refine s_box hS _ _ rfl _ (by (conv => lhs; whnf) <;> exact rfl) _ (by (conv => lhs; whnf) <;> exact rfl) ?_; clear hS; intro b_ w_ hS hA_; (try replace hA := hA.trans hA_); clear hA_; (try simp only [Act.put, List.setIfInBounds_toArray, List.set_cons_zero, List.set_cons_succ]))) | ((with_reducible refine g_load ?_); (refine s_load1 0 hS _ _ rfl _ _ rfl _ rfl _ rfl (by kernel_rfl) ?_; (try simp only [Act.put, List.setIfInBounds_toArray, List.set_cons_zero, List.set_cons_succ])))) | go_values | go_skip | go_guarded | go_step | go_upon | go_back | dsimp only))
    go_ret2
    exact ⟨ret2_int (by simp [failedV]) (by simp [failedV]), hS.x⟩
end Go.Proofs.Ytmjmdjcgjmjigaa
