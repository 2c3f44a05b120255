/-
  Contract of above.
-/
import Derived.Test.YtikfkmglcnchoaaAccountS
namespace Go.Proofs.Ytikfkmglcnchoaa
set_option linter.unusedSimpArgs false
set_option linter.unusedVariables false
set_option linter.unusedSectionVars false
open Go.ChangeShapes Go.WideShapes Go.ChangeAt Go.RowKit
attribute [local go_sem ↓] isSome_setCell
attribute [local go_sem] setCell_setCell add64_run

theorem above_any (A : Option Addr) (n c : Nat) (lh ll : Int) (l : List (Int × Int)) (hn : n ≤ 100) (h1 : l.length = n) (hl : ∀ p ∈ l, W64 p) (hL : W64 (lh, ll)) (w : World) (hs : Sl w A n 2 (pairs l)) :
    Calls Try.prog 26 #[.agg #[.int .u64 lh, .int .u64 ll], .slice A n c] w fun e w' => e = .returned (.bool (decide (V lh ll < sumK l n))) ∧ Ext w w' := by
  have H1 := Lib.hid h1
  have HL := Lib.hid hl
  have HLL := Lib.hid hL
  clear h1 hl hL
  go_enter Try.func26, Try.ntmps26
  go_wp2_with fail
  go_loopw [6, 15] (fun v i wr => ∃ (k : Nat) (S : Int), k ≤ n ∧ i = .int .i64 k ∧ v = .int .u64 (S / 340282366920938463463374607431768211456) ∧ Hid (S = sumK l k) ∧ Ext w wr ∧ w.heap.size + 1 < wr.heap.size ∧
      wr.cell? ⟨w.heap.size, 0, none⟩ = some (.int .u64 lh) ∧ wr.cell? ⟨w.heap.size, 1, none⟩ = some (.int .u64 ll) ∧
      wr.cell? ⟨w.heap.size + 1, 0, none⟩ = some (.int .u64 (S / 18446744073709551616 % 18446744073709551616)) ∧ wr.cell? ⟨w.heap.size + 1, 1, none⟩ = some (.int .u64 (S % 18446744073709551616)) ∧
      wr.frozen? ⟨w.heap.size + 1, 0, none⟩ = false ∧ wr.frozen? ⟨w.heap.size + 1, 1, none⟩ = false)
    (fun _ i _ => n - (intOf i).toNat)
  case atStart =>
    refine ⟨0, 0, by omega, rfl, rfl, rfl, by (repeat (first | exact Ext.refl _ | assumption | apply Ext.drew | apply Ext.alloc | (refine Ext.setCell ?_ ?_ _ <;> first | (simp; done) | (simp; omega) | omega | skip) | (refine Ext.trans ?_ (by assumption)))), by simp, ?_, ?_, ?_, ?_, ?_, ?_⟩
    all_goals simp [go_sem]
  case round =>
    obtain ⟨k, S, hk, rfl, rfl, hS, hx, hsz, c0, c1, d0, d1, f0, f1⟩ := hrel
    obtain ⟨b1, b2⟩ := sumK_bd l HL.out k (by have := H1.out; omega)
    rw [← hS.out] at b1 b2
    by_cases hlt : k < n
    · obtain ⟨b, off, rfl, hb, hc⟩ := (hs.ext hx).atN hlt
      have hc0 := hc 0 (by omega)
      have hc1 := hc 1 (by omega)
      obtain ⟨r1, r2⟩ := pairs_at l k (by rw [H1.out]; exact hlt)
      rw [r1] at hc0
      rw [r2] at hc1
      simp only [Nat.add_zero] at hc0
      have hm : l.getD k (0, 0) ∈ l := by
        have := H1.out
        rw [List.getD_eq_getElem?_getD, List.getElem?_eq_getElem (by omega : k < l.length)]
        exact List.getElem_mem _
      have hW := HL.out _ hm
      have hS' := sumK_succ l k (by rw [H1.out]; exact hlt)
      rw [← hS.out] at hS'
      clear hc r1 r2 hm hs
      generalize l.getD k (0, 0) = p at *
      obtain ⟨ph, pl⟩ := p
      obtain ⟨w1, w2, w3, w4⟩ := hW
      simp only at w1 w2 w3 w4 hS' hc0 hc1
      obtain ⟨t1, t2, t3, t4, t5⟩ := sum_step S ph pl b1 w1 w2 w3 w4
      have HS' : Hid (S + V ph pl = sumK l (k + 1)) := hS'.symm
      have T1 := Lib.hid t1
      have T4 := Lib.hid t4
      have T5 := Lib.hid t5
      have hov : 0 ≤ S / 340282366920938463463374607431768211456 ∧ S / 340282366920938463463374607431768211456 ≤ 100 := by omega
      have hov2 : 0 ≤ (S + V ph pl) / 340282366920938463463374607431768211456 ∧ (S + V ph pl) / 340282366920938463463374607431768211456 ≤ 101 := by have := V_bd (p := (ph, pl)) ⟨w1, w2, w3, w4⟩; simp only at this; omega
      have hl1 : 0 ≤ S % 18446744073709551616 ∧ S % 18446744073709551616 ≤ 18446744073709551615 := by omega
      have hh1 : 0 ≤ S / 18446744073709551616 % 18446744073709551616 ∧ S / 18446744073709551616 % 18446744073709551616 ≤ 18446744073709551615 := by omega
      obtain ⟨o1, o2⟩ := hov
      obtain ⟨o3, o4⟩ := hl1
      obtain ⟨o5, o6⟩ := hh1
      obtain ⟨o7, o8⟩ := hov2
      clear t1 t4 t5 hS' b1 b2
      generalize S / 340282366920938463463374607431768211456 = ov at *
      generalize S / 18446744073709551616 % 18446744073709551616 = hi at *
      generalize S % 18446744073709551616 = lo at *
      have t6 : sumC hi ph (sumC lo pl 0) = (S + V ph pl) / 340282366920938463463374607431768211456 - ov := by have := T5.out; omega
      generalize hod : (S + V ph pl) / 340282366920938463463374607431768211456 = ov' at *
      have HOD := Lib.hid hod
      clear hod
      clear hS
      have hwr : (ov + (ov' - ov)) % 18446744073709551616 = ov' := by omega
      go_wp2_with fail
      have hsz0 : w.heap.size < wr.heap.size := by omega
      refine ⟨⟨k + 1, S + V ph pl, by omega, by go_num, by rw [HOD.out]; go_num, HS', by (repeat (first | exact Ext.refl _ | assumption | apply Ext.drew | apply Ext.alloc | (refine Ext.setCell ?_ ?_ _ <;> first | (simp; done) | (simp; omega) | omega | skip) | (refine Ext.trans ?_ (by assumption)))), by simp; omega, ?_, ?_, ?_, ?_, ?_, ?_⟩, by simp [intOf]; omega⟩
      · simp [go_sem, *]
      · simp [go_sem, *]
      · rw [← T4.out]; simp [go_sem, *]
      · rw [← T1.out]; simp [go_sem, *]
      · simp [go_sem, *]
      · simp [go_sem, *]
    · obtain rfl : k = n := by omega
      obtain ⟨l1, l2, l3, l4⟩ := HLL.out
      simp only at l1 l2 l3 l4
      have ha := above_eq S lh ll b1 l1 l2 l3 l4
      have HA := Lib.hid ha
      clear ha
      go_wp2_with fail
      all_goals
        go_ret
        exact ⟨bool_congr (by rw [← hS.out, ← HA.out]; clear hs d0 d1; rw [Bool.eq_iff_iff]; simp only [Bool.or_eq_true, Bool.and_eq_true, decide_eq_true_eq, beq_iff_eq]; (try simp only [true_iff, eq_self_iff_true]); omega), by (repeat (first | exact Ext.refl _ | assumption | apply Ext.drew | apply Ext.alloc | (refine Ext.setCell ?_ ?_ _ <;> first | (simp; done) | (simp; omega) | omega | skip) | (refine Ext.trans ?_ (by assumption))))⟩
end Go.Proofs.Ytikfkmglcnchoaa
