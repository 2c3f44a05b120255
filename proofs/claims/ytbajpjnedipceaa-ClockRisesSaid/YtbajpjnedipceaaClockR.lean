/-
  The walk of ClockRises: moments of batches, one behind the other, rise.
-/
import Derived.Test.YtbajpjnedipceaaClock
import Derived.Test.YtbajpjnedipceaaClockL
import Derived.Test.YtbajpjnedipceaaSlice
import Derived.LoopTactic
import Derived.Lib.Hide
namespace Go.Proofs.Ytbajpjnedipceaa
set_option linter.unusedSimpArgs false
set_option linter.unusedVariables false
open Go.ChangeShapes Go.WideShapes Go.ChangeAt Go.RowKit
attribute [local go_sem ↓] isSome_setCell
attribute [local go_sem] setCell_setCell

theorem mom_facts {last now r : Int} (h1 : 0 ≤ last) (h3 : 0 ≤ now) (h4 : now ≤ 18446744073709551615) (h : momE last r = 0) :
    0 ≤ r ∧ r ≤ 8 ∧ last + 1 ≤ momV last now r ∧ last + r ≤ momV last now r ∧ now ≤ momV last now r ∧ momV last now r ≤ 18446744073709551615 := by
  unfold momE at h
  unfold momV
  split at h <;> rename_i h5
  · omega
  split at h <;> rename_i h6
  · omega
  rw [if_neg h5, if_neg h6]
  omega

theorem rises_any (last : Int) (A B : Option Addr) (n c m d : Nat) (zs rs : List Int) (h1 : 0 ≤ last) (h2 : last ≤ 18446744073709551615)
    (hn : n ≤ c) (hc : c ≤ maxLen) (hm : m ≤ d) (hd : d ≤ maxLen) (hzl : zs.length = n) (hrl : rs.length = m)
    (hzw : ∀ z ∈ zs, 0 ≤ z ∧ z ≤ 18446744073709551615) (hrw : ∀ z ∈ rs, -9223372036854775808 ≤ z ∧ z ≤ 9223372036854775807)
    (w : World) (ha : Sl w A n 1 (cellsOf .u64 zs)) (hb : Sl w B m 1 (cellsOf .i64 rs)) :
    Calls Try.prog 4 #[.int .u64 last, .slice A n c, .slice B m d] w fun e w' => e = .returned (.bool true) ∧ Ext w w' := by
  unfold maxLen at hc hd
  by_cases hl : 40 < n
  · go_enter Try.func4, Try.ntmps4
    go_wp2_with ((go_at_call 12; refine ((awake_any _)).mono ?_; rintro e w1 ⟨rfl, hb1⟩; have hz_ := Ext.size hb1; (try simp only [World.size_alloc, World.size_setCell, World.size_drew] at hz_); ))
    go_ret
    exact ⟨rfl, hb1⟩
  by_cases hnm : ¬ m = n
  · have t1 : decide (40 < (n : Int)) = false := by simp; omega
    have t2 : ((m : Int) != (n : Int)) = true := by simp; omega
    go_enter Try.func4, Try.ntmps4
    go_wp2_with ((go_at_call 12; refine ((awake_any _)).mono ?_; rintro e w1 ⟨rfl, hb1⟩; have hz_ := Ext.size hb1; (try simp only [World.size_alloc, World.size_setCell, World.size_drew] at hz_); ))
    go_ret
    exact ⟨rfl, hb1⟩
  obtain rfl : m = n := by omega
  clear hnm
  have t1 : decide (40 < (m : Int)) = false := by simp; omega
  have hl' : m ≤ 40 := by omega
  have HZ := Lib.hid hzl
  have HR := Lib.hid hrl
  have HZW := Lib.hid hzw
  have HRW := Lib.hid hrw
  clear hzl hrl hl hzw hrw
  go_enter Try.func4, Try.ntmps4
  go_wp2_with ((go_at_call 12; refine ((awake_any _)).mono ?_; rintro e w1 ⟨rfl, hb1⟩; have hz_ := Ext.size hb1; (try simp only [World.size_alloc, World.size_setCell, World.size_drew] at hz_); ))
  clear hz_
  go_loopw [0, 8] (fun l i wr => ∃ (k : Nat) (L : Int), k ≤ m ∧ i = .int .i64 k ∧ l = .int .u64 L ∧ 0 ≤ L ∧ L ≤ 18446744073709551615 ∧ Ext w wr)
    (fun _ i _ => m - (intOf i).toNat)
  case atStart => exact ⟨0, last, by omega, rfl, rfl, h1, h2, hb1⟩
  case round =>
    obtain ⟨k, L, hk, rfl, rfl, hL1, hL2, hx⟩ := hrel
    by_cases hlt : k < m
    · obtain ⟨ba, oa, rfl, hba, hca⟩ := (ha.ext hx).at1 hlt
      obtain ⟨bb, ob, rfl, hbb, hcb⟩ := (hb.ext hx).at1 hlt
      rw [cellsOf_getD (by rw [HZ.out]; exact hlt)] at hca
      rw [cellsOf_getD (by rw [HR.out]; exact hlt)] at hcb
      have hz := HZW.out (zs.getD k 0) (by rw [List.getD_eq_getElem?_getD, List.getElem?_eq_getElem (by rw [HZ.out]; exact hlt)]; exact List.getElem_mem _)
      have hr := HRW.out (rs.getD k 0) (by rw [List.getD_eq_getElem?_getD, List.getElem?_eq_getElem (by rw [HR.out]; exact hlt)]; exact List.getElem_mem _)
      generalize zs.getD k 0 = z at hca hz
      generalize rs.getD k 0 = r at hcb hr
      obtain ⟨hz1, hz2⟩ := hz
      obtain ⟨hr1, hr2⟩ := hr
      clear ha hb HZ HR HZW HRW
      go_wp2_with fail
      (refine q_region (by kernel_rfl) (by kernel_rfl) ?_
       intro w0 HC HF HZ HX
       (have HC' := Lib.hid HC; clear HC; have HF' := Lib.hid HF; clear HF; intro HEc HEf; have HEc' := Lib.hid HEc; clear HEc; have HEf' := Lib.hid HEf; clear HEf)
       (have _lt0 : ba < w0.heap.size := Nat.lt_of_lt_of_le (by first | (simp; done) | (simp; omega) | omega) HZ; have _q0 := HC'.out (ba) (oa+k) (by first | (simp; done) | (simp; omega) | omega); (try simp [go_sem, *] at _q0); have _lt1 : bb < w0.heap.size := Nat.lt_of_lt_of_le (by first | (simp; done) | (simp; omega) | omega) HZ; have _q1 := HC'.out (bb) (ob+k) (by first | (simp; done) | (simp; omega) | omega); (try simp [go_sem, *] at _q1); have HEc := HEc'.out; have HEf := HEf'.out; clear HEc' HEf' HC' HF')
       repeat (first
         | (refine q_skip rfl ?_; (try simp only [Act.put, List.setIfInBounds_toArray, List.set_cons_zero, List.set_cons_succ]))
         | (apply q_want; (exact rfl); (focus (intro wq hq; go_simp; first | done | exact rfl | exact ⟨rfl, rfl⟩ | ((go_at_call 10; exact q_calls hq (moment_any _ _ _ hL1 hL2 hz1 hz2 _ hr1 hr2))))); (try simp only [Act.put, List.setIfInBounds_toArray, List.set_cons_zero, List.set_cons_succ])))
       refine wpQuiet_nil ?_
       intro wz hz)
      by_cases hE : momE L r = 0
      · obtain ⟨m1, m2, m3, m4, m5, m6⟩ := mom_facts hL1 hz1 hz2 hE
        generalize momV L z r = V at *
        have u1 : IntKind.u64.wrap (V - L) = V - L := by rw [IntKind.wrap_u64]; omega
        have hzz := Ext.facts hz
        go_wp2_with fail
        exact ⟨⟨k + 1, V, by omega, by go_num, rfl, by omega, by omega, by (repeat (first | exact Ext.refl _ | assumption | apply Ext.drew | apply Ext.alloc | (refine Ext.setCell ?_ ?_ _ <;> first | (simp; done) | (simp; omega) | omega | skip) | (refine Ext.trans ?_ (by assumption))))⟩, by simp [intOf]; omega⟩
      · have hE' : (momE L r != 0) = true := by simpa using hE
        clear hE
        go_wp2_with fail
        exact ⟨⟨k + 1, L, by omega, by go_num, rfl, hL1, hL2, by (repeat (first | exact Ext.refl _ | assumption | apply Ext.drew | apply Ext.alloc | (refine Ext.setCell ?_ ?_ _ <;> first | (simp; done) | (simp; omega) | omega | skip) | (refine Ext.trans ?_ (by assumption))))⟩, by simp [intOf]; omega⟩
    · go_wp2_with fail
      go_ret
      exact ⟨rfl, hx⟩
end Go.Proofs.Ytbajpjnedipceaa
