/-
  Contracts of the document's functions on sets of replicas.
-/
import Derived.Test.YtoliafpammlkiaaQuorumD
namespace Go.Proofs.Ytoliafpammlkiaa
set_option linter.unusedSimpArgs false
set_option linter.unusedVariables false
set_option linter.unusedSectionVars false
open Go.ChangeShapes Go.WideShapes Go.ChangeAt Go.RowKit

theorem ei_ints : EI Try.prog 37 3 1 8 := ei_of Try.underlying37 (z := .int .i64 0) (by kernel_rfl) rfl (by omega)
theorem cells_snoc (k : IntKind) (l : List Int) (x : Int) : cellsOf k (l ++ [x]) = cellsOf k l ++ [.int k x] := by simp [cellsOf]

section
variable (s : Int) (h1 : -9223372036854775808 ≤ s) (h2 : s ≤ 9223372036854775807) (w : World)
include h1 h2
theorem members_own : Calls Try.prog 32 #[.int .i64 s] w fun e w' => ∃ v, e = .returned v ∧ w'.ownsRow w.heap.size 3 1 v (cnt (low s)) (cellsOf .i64 (mem (low s))) ∧ Ext w w' := by
  go_enter Try.func32, Try.ntmps32
  go_wp2
  go_loopw [3, 4] (fun v i wr => ∃ k : Nat, k ≤ 7 ∧ i = .int .i64 k ∧ wr.ownsRow w.heap.size 3 1 v (cntK (low s) k) (cellsOf .i64 (memK (low s) k)) ∧ Ext w wr)
    (fun _ i _ => 7 - (intOf i).toNat)
  case atStart => exact ⟨0, by omega, rfl, World.ownsRow_nil _ _ _ _, Ext.refl w⟩
  case round =>
    rename_i v _ 
    obtain ⟨k, hk, rfl, hown, hx⟩ := hrel
    by_cases hlt : k < 7
    · have hle := cntK_le (low s) k
      have hsz := Ext.size hx
      by_cases hbit : (low s).testBit k = true
      · have e1 : hasB (low s) (k : Int) = true := by rw [hasB_at _ _ hlt, hbit]
        have e2 : cntK (low s) (k + 1) = cntK (low s) k + 1 := by rw [cntK_succ, if_pos hbit]
        have e3 : memK (low s) (k + 1) = memK (low s) k ++ [(k : Int)] := by rw [memK_succ, if_pos hbit]
        have E2 := Lib.hid e2
        have E3 := Lib.hid e3
        clear e2 e3 hbit
        go_wp2_with fail
        (go_at_call 17; refine ((rhas_any s h1 h2 k (by omega) (by omega) _)).mono ?_; rintro e w1 ⟨rfl, hb1⟩; have hz_ := Ext.size hb1; (try simp only [World.size_alloc, World.size_setCell, World.size_drew] at hz_); )
        have hown1 := own_ext hown hb1
        go_wp2_with (at_builtin; refine wpList_app1 rfl (.tmp 12) (.tmp 14) _ 3 3 1 8 rfl ei_ints w.heap.size _ _ _ rfl hown1 #[.int .i64 k] rfl rfl (by simp [Value.oneCell']) (by simp only [maxLen]; omega) (by omega) (by omega) ?_; intro v' w2 hown2 hbel)
        exact ⟨⟨k + 1, by omega, by go_num, by rw [E2.out, E3.out, cells_snoc]; exact hown2, Ext.of_below (by (repeat (first | exact Ext.refl _ | assumption | apply Ext.drew | apply Ext.alloc | (refine Ext.setCell ?_ ?_ _ <;> first | (simp; done) | (simp; omega) | omega | skip) | (refine Ext.trans ?_ (by assumption))))) hbel (Nat.le_refl _)⟩, by simp [intOf]; omega⟩
      · have e1 : hasB (low s) (k : Int) = false := by rw [hasB_at _ _ hlt]; simpa using hbit
        have e2 : cntK (low s) (k + 1) = cntK (low s) k := by rw [cntK_succ, if_neg hbit]
        have e3 : memK (low s) (k + 1) = memK (low s) k := by rw [memK_succ, if_neg hbit]
        have E2 := Lib.hid e2
        have E3 := Lib.hid e3
        clear e2 e3 hbit
        go_wp2_with fail
        (go_at_call 17; refine ((rhas_any s h1 h2 k (by omega) (by omega) _)).mono ?_; rintro e w1 ⟨rfl, hb1⟩; have hz_ := Ext.size hb1; (try simp only [World.size_alloc, World.size_setCell, World.size_drew] at hz_); )
        have hown1 := own_ext hown hb1
        go_wp2_with fail
        exact ⟨⟨k + 1, by omega, by go_num, by rw [E2.out, E3.out]; exact hown1, by (repeat (first | exact Ext.refl _ | assumption | apply Ext.drew | apply Ext.alloc | (refine Ext.setCell ?_ ?_ _ <;> first | (simp; done) | (simp; omega) | omega | skip) | (refine Ext.trans ?_ (by assumption))))⟩, by simp [intOf]; omega⟩
    · obtain rfl : k = 7 := by omega
      go_wp2
      go_ret
      exact ⟨_, rfl, hown, hx⟩
end

/-! ### the set of a list -/
def ofK (l : List Int) (k : Nat) : Int := (List.range k).foldl (fun (s : Int) (i : Nat) => if (i : Int) ∈ l then s + ((2 ^ i : Nat) : Int) else s) 0
theorem ofK_succ (l : List Int) (k : Nat) : ofK l (k + 1) = if (k : Int) ∈ l then ofK l k + ((2 ^ k : Nat) : Int) else ofK l k := by
  unfold ofK; rw [List.range_succ, List.foldl_append]; rfl
theorem ofK_bd (l : List Int) : ∀ k, 0 ≤ ofK l k ∧ ofK l k < ((2 ^ k : Nat) : Int)
  | 0 => by simp [ofK]
  | k + 1 => by
    have h := ofK_bd l k
    rw [ofK_succ, Nat.pow_succ]
    have hp : 0 < 2 ^ k := Nat.two_pow_pos k
    generalize 2 ^ k = p at *
    split <;> omega
theorem pow7 (k : Nat) (h : k < 7) : ((2 ^ k : Nat) : Int) ≤ 64 := by
  rcases (by omega : k = 0 ∨ k = 1 ∨ k = 2 ∨ k = 3 ∨ k = 4 ∨ k = 5 ∨ k = 6) with rfl | rfl | rfl | rfl | rfl | rfl | rfl <;> simp

theorem shl_step (S : Int) (k : Nat) (h0 : 0 ≤ S) (h1 : S ≤ 64) (hk : k < 7) : wrap64 (S + wrap64 (2 ^ k)) = S + ((2 ^ k : Nat) : Int) := by
  have e : ((2 ^ k : Nat) : Int) = (2 : Int) ^ k := by simp
  have hp := pow7 k hk
  rw [← e]
  generalize 2 ^ k = p at *
  rw [IntWalk.wrap64_in (p : Int) ⟨by omega, by omega⟩, IntWalk.wrap64_in _ ⟨by omega, by omega⟩]
theorem of_any (A : Option Addr) (n c : Nat) (l : List Int) (hl : l.length = n) (hn : n ≤ 1000) (w : World) (hs : Sl w A n 1 (cellsOf .i64 l)) :
    Calls Try.prog 31 #[.slice A n c] w fun e w' => e = .returned (.int .i64 (ofL l)) ∧ Ext w w' := by
  have HL := Lib.hid hl
  clear hl
  go_enter Try.func31, Try.ntmps31
  go_wp2
  go_loop [3, 4] (fun v i => ∃ k : Nat, k ≤ 7 ∧ i = .int .i64 k ∧ v = .int .i64 (ofK l k)) (fun _ i => 7 - (intOf i).toNat)
  case atStart => exact ⟨0, by omega, rfl, rfl⟩
  case round =>
    obtain ⟨k, hk, rfl, rfl⟩ := hrel
    by_cases hlt : k < 7
    · have hb := ofK_bd l k
      have hp := pow7 k hlt
      have hstep := ofK_succ l k
      by_cases hin : (k : Int) ∈ l
      · rw [if_pos hin] at hstep
        generalize ofK l k = S at *
        have hS := Lib.hid hstep
        clear hstep
        obtain ⟨hb1, hb2⟩ := hb
        have hb3 : S ≤ 64 := by omega
        clear hb2
        go_wp2_with fail
        go_loop [3, 5] (fun v j => ∃ q : Nat, q ≤ n ∧ j = .int .i64 q ∧ v = .int .i64 S ∧ Hid (∀ i, i < q → l.getD i 0 ≠ (k : Int))) (fun _ j => n - (intOf j).toNat)
        case atStart => exact ⟨0, by omega, rfl, rfl, fun i hi => absurd hi (by omega)⟩
        case round =>
          obtain ⟨q, hq, rfl, rfl, hno⟩ := hrel
          by_cases hqn : q < n
          · obtain ⟨b, off, rfl, hbl, hc⟩ := hs.at1 hqn
            rw [cellsOf_getD (by rw [HL.out]; exact hqn)] at hc
            have hn' : (n : Int) ≤ 1000 := by omega
            by_cases he : l.getD q 0 = (k : Int)
            · rw [he] at hc
              clear he
              go_wp2_with fail
              exact ⟨⟨k + 1, by omega, by go_num, by rw [hS.out, shl_step S k hb1 hb3 hlt]⟩, by simp [intOf]; omega⟩
            · have he' : (l.getD q 0 == (k : Int)) = false := by simpa using he
              have hno' : Hid (∀ i, i < q + 1 → l.getD i 0 ≠ (k : Int)) := fun i hi => by
                rcases (by omega : i < q ∨ i = q) with h | rfl
                · exact hno.out i h
                · exact he
              generalize l.getD q 0 = z at hc he'
              clear he
              go_wp2_with fail
              exact ⟨⟨q + 1, by omega, by go_num, rfl, hno'⟩, by simp [intOf]; omega⟩
          · exfalso
            obtain ⟨i, hi, e⟩ := List.getElem_of_mem hin
            exact hno.out i (by have := HL.out; omega) (by rw [List.getD_eq_getElem?_getD, List.getElem?_eq_getElem hi]; simpa using e)
      · rw [if_neg hin] at hstep
        generalize ofK l k = S at *
        have hS := Lib.hid hstep
        clear hstep hb hp
        go_wp2_with fail
        go_loop [3, 5] (fun v j => ∃ q : Nat, q ≤ n ∧ j = .int .i64 q ∧ v = .int .i64 S) (fun _ j => n - (intOf j).toNat)
        case atStart => exact ⟨0, by omega, rfl, rfl⟩
        case round =>
          obtain ⟨q, hq, rfl, rfl⟩ := hrel
          have hn' : (n : Int) ≤ 1000 := by omega
          by_cases hqn : q < n
          · obtain ⟨b, off, rfl, hbl, hc⟩ := hs.at1 hqn
            have hql : q < l.length := by rw [HL.out]; exact hqn
            rw [cellsOf_getD hql] at hc
            have he' : (l.getD q 0 == (k : Int)) = false := by
              rw [beq_eq_false_iff_ne]
              intro e
              exact hin (by rw [← e, List.getD_eq_getElem?_getD, List.getElem?_eq_getElem hql]; exact List.getElem_mem hql)
            clear hql
            generalize l.getD q 0 = z at hc he'
            go_wp2_with fail
            exact ⟨⟨q + 1, by omega, by go_num, rfl⟩, by simp [intOf]; omega⟩
          · go_wp2_with fail
            exact ⟨⟨k + 1, by omega, by go_num, by rw [hS.out]⟩, by simp [intOf]; omega⟩
    · obtain rfl : k = 7 := by omega
      go_wp2
      go_ret
      exact ⟨rfl, by (repeat (first | exact Ext.refl _ | assumption | apply Ext.drew | apply Ext.alloc | (refine Ext.setCell ?_ ?_ _ <;> first | (simp; done) | (simp; omega) | omega | skip) | (refine Ext.trans ?_ (by assumption))))⟩

theorem ofK7 (l : List Int) : ofK l 7 = ofL l := rfl
section
variable (s : Int) (h1 : -9223372036854775808 ≤ s) (h2 : s ≤ 9223372036854775807) (r : Int) (h3 : -9223372036854775808 ≤ r) (h4 : r ≤ 9223372036854775807) (w : World)
include h1 h2 h3 h4
theorem rwith_any : Calls Try.prog 16 #[.int .i64 s, .int .i64 r] w fun e w' => e = .returned (.tuple #[.int .i64 (withV s r), .int .i64 (withE r)]) ∧ Ext w w' := by
  by_cases hr : 0 ≤ r ∧ r < 7
  · have e1 : withV s r = ofL (mem (low s) ++ [r]) := by
      have := ofL_with ⟨low s, low_lt s⟩ ⟨r.toNat, by omega⟩
      simp only at this
      rw [show ((r.toNat : Nat) : Int) = r from by omega] at this
      rw [this]
      unfold withV
      rw [if_pos hr]
    have e2 : withE r = 0 := by unfold withE; rw [if_pos hr]
    have hc := cnt_le (low s)
    have hml := mem_len (low s)
    rw [e1, e2]
    clear e1 e2
    obtain ⟨ha, hb⟩ := hr
    have HM := Lib.hid hml
    clear hml
    go_enter Try.func16, Try.ntmps16
    go_wp2_with fail
    (go_at_call 32; refine (members_own s h1 h2 _).mono ?_; rintro e w1 ⟨v, rfl, hown, hb1⟩)
    have hz := Ext.size hb1
    go_wp2_with (at_builtin; refine wpList_app1 rfl (.tmp 13) (.tmp 15) _ 3 3 1 8 rfl ei_ints w.heap.size _ _ _ rfl hown #[.int .i64 r] rfl rfl (by simp [Value.oneCell']) (by simp only [maxLen]; omega) (by omega) (by omega) ?_; intro v' w2 hown2 hbel)
    obtain ⟨A, c, rfl, hcc, hcm, hsl⟩ := own_form hown2
    rw [← cells_snoc] at hsl
    go_wp2_with fail
    (go_at_call 31; refine (of_any A _ c (mem (low s) ++ [r]) (by rw [List.length_append, HM.out]; rfl) (by omega) _ hsl).mono ?_; rintro e w3 ⟨rfl, hb3⟩)
    go_wp2_with fail
    go_ret2
    exact ⟨rfl, (Ext.of_below hb1 hbel (Nat.le_refl _)).trans hb3⟩
  · have e1 : withV s r = 0 := by unfold withV; rw [if_neg hr]
    have e2 : withE r = 5 := by unfold withE; rw [if_neg hr]
    rw [e1, e2]
    rcases (by omega : r < 0 ∨ 7 ≤ r) with h | h
    all_goals
      clear e1 e2 hr
      go_enter Try.func16, Try.ntmps16
      go_wp2_with fail
      go_ret2
      exact ⟨rfl, by (repeat (first | exact Ext.refl _ | assumption | apply Ext.drew | apply Ext.alloc | (refine Ext.setCell ?_ ?_ _ <;> first | (simp; done) | (simp; omega) | omega | skip) | (refine Ext.trans ?_ (by assumption))))⟩
omit h3 h4
theorem rcount_any : Calls Try.prog 18 #[.int .i64 s] w fun e w' => e = .returned (.int .i64 (cnt (low s))) ∧ Ext w w' := by
  have hc := cnt_le (low s)
  go_enter Try.func18, Try.ntmps18
  go_wp2_with fail
  (go_at_call 32; refine (members_own s h1 h2 _).mono ?_; rintro e w1 ⟨v, rfl, hown, hb1⟩)
  obtain ⟨A, c, rfl, hcc, hcm, hsl⟩ := own_form hown
  go_wp2_with fail
  go_ret
  exact ⟨rfl, hb1⟩
end
end Go.Proofs.Ytoliafpammlkiaa
