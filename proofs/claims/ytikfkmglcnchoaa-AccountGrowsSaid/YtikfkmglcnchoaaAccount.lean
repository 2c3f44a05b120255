/-
  Contracts of the account's helpers: the first rule that applies; sums of numbers of 128 bits.
-/
import Derived.Test.YtikfkmglcnchoaaRows
import Derived.Test.YtikfkmglcnchoaaFrame
import Derived.Test.YtikfkmglcnchoaaExt
import Derived.Test.YtikfkmglcnchoaaSlice
import Derived.LoopTactic
import Derived.LoopN
import Derived.Lib.Hide
namespace Go.Proofs.Ytikfkmglcnchoaa
set_option linter.unusedSimpArgs false
set_option linter.unusedVariables false
set_option linter.unusedSectionVars false
open Go.ChangeShapes Go.WideShapes Go.ChangeAt Go.RowKit
attribute [local go_sem ↓] isSome_setCell
attribute [local go_sem] setCell_setCell

theorem ret1_int {k : IntKind} {a b : Int} (h : a = b) : Ending.returned (.int k a) = .returned (.int k b) := by rw [h]
theorem bool_congr {a b : Bool} (h : a = b) : Ending.returned (.bool a) = .returned (.bool b) := by rw [h]

/-! ### the first that applies -/
def firstV : List Bool → List Int → Int
  | b :: bs, c :: cs => if b then c else firstV bs cs
  | _, _ => 0
/-- rules as cells -/
def rules : List Bool → List Int → List Value
  | b :: bs, c :: cs => .bool b :: .int .i64 c :: rules bs cs
  | _, _ => []
theorem rules_at : ∀ (bs : List Bool) (cs : List Int) (k : Nat), bs.length = cs.length → k < bs.length → (rules bs cs).getD (k * 2 + 0) undef = .bool (bs.getD k false) ∧ (rules bs cs).getD (k * 2 + 1) undef = .int .i64 (cs.getD k 0)
  | [], _, _, _, h => by simp at h
  | _ :: _, [], _, h, _ => by simp at h
  | b :: bs, c :: cs, 0, _, _ => ⟨rfl, rfl⟩
  | b :: bs, c :: cs, k + 1, h, hk => by
      obtain ⟨h1, h2⟩ := rules_at bs cs k (by simpa using h) (by simpa using hk)
      have e1 : (k + 1) * 2 + 0 = (k * 2 + 0) + 1 + 1 := by omega
      have e2 : (k + 1) * 2 + 1 = (k * 2 + 1) + 1 + 1 := by omega
      rw [e1, e2]
      simp only [rules, List.getD_cons_succ]
      exact ⟨h1, h2⟩
theorem firstV_drop (bs : List Bool) (cs : List Int) (k : Nat) (h : bs.length = cs.length) (hk : k < bs.length) :
    firstV (bs.drop k) (cs.drop k) = if bs.getD k false then cs.getD k 0 else firstV (bs.drop (k + 1)) (cs.drop (k + 1)) := by
  rw [List.drop_eq_getElem_cons hk, List.drop_eq_getElem_cons (by omega : k < cs.length)]
  simp [firstV, hk, (by omega : k < cs.length)]

theorem first_any (A : Option Addr) (n c : Nat) (bs : List Bool) (cs : List Int) (hn : n ≤ 100) (h1 : bs.length = n) (h2 : cs.length = n) (w : World) (hs : Sl w A n 2 (rules bs cs)) :
    Calls Try.prog 21 #[.slice A n c] w fun e w' => e = .returned (.int .i64 (firstV bs cs)) ∧ Ext w w' := by
  have H1 := Lib.hid h1
  have H2 := Lib.hid h2
  clear h1 h2
  go_enter Try.func21, Try.ntmps21
  go_wp2_with fail
  go_loopw [7] (fun i wr => ∃ k : Nat, k ≤ n ∧ i = .int .i64 k ∧ Hid (firstV bs cs = firstV (bs.drop k) (cs.drop k)) ∧ Ext w wr) (fun i _ => n - (intOf i).toNat)
  case atStart => exact ⟨0, by omega, rfl, rfl, Ext.refl w⟩
  case round =>
    obtain ⟨k, hk, rfl, hf, hx⟩ := hrel
    by_cases hlt : k < n
    · obtain ⟨b, off, rfl, hb, hc⟩ := (hs.ext hx).atN hlt
      have hc0 := hc 0 (by omega)
      have hc1 := hc 1 (by omega)
      obtain ⟨r1, r2⟩ := rules_at bs cs k (by rw [H1.out, H2.out]) (by rw [H1.out]; exact hlt)
      rw [r1] at hc0
      rw [r2] at hc1
      simp only [Nat.add_zero] at hc0
      have hstep := firstV_drop bs cs k (by rw [H1.out, H2.out]) (by rw [H1.out]; exact hlt)
      have HF : Hid (firstV bs cs = if bs.getD k false then cs.getD k 0 else firstV (bs.drop (k + 1)) (cs.drop (k + 1))) := hf.out.trans hstep
      clear hc r1 r2 hstep hf hs
      generalize bs.getD k false = bk at *
      generalize cs.getD k 0 = ck at *
      cases bk
      · have HF' : Hid (firstV bs cs = firstV (bs.drop (k + 1)) (cs.drop (k + 1))) := HF.out
        go_wp2_with fail
        exact ⟨⟨k + 1, by omega, by go_num, HF', by (repeat (first | exact Ext.refl _ | assumption | apply Ext.drew | apply Ext.alloc | (refine Ext.setCell ?_ ?_ _ <;> first | (simp; done) | (simp; omega) | omega | skip) | (refine Ext.trans ?_ (by assumption))))⟩, by simp [intOf]; omega⟩
      · have HF' : Hid (firstV bs cs = ck) := HF.out
        clear HF
        go_wp2_with fail
        go_ret
        exact ⟨ret1_int HF'.out.symm, by (repeat (first | exact Ext.refl _ | assumption | apply Ext.drew | apply Ext.alloc | (refine Ext.setCell ?_ ?_ _ <;> first | (simp; done) | (simp; omega) | omega | skip) | (refine Ext.trans ?_ (by assumption))))⟩
    · go_wp2_with fail
      go_ret
      refine ⟨ret1_int ?_, hx⟩
      rw [hf.out, List.drop_eq_nil_of_le (by rw [H1.out]; omega)]
      rfl

/-! ### the document's first -/
def boolCells (bs : List Bool) : List Value := bs.map Value.bool
theorem boolCells_getD {bs : List Bool} {i : Nat} (h : i < bs.length) : (boolCells bs).getD i undef = .bool (bs.getD i false) := by simp [boolCells, h]
theorem rfirst_any (A B : Option Addr) (n c d : Nat) (bs : List Bool) (cs : List Int) (hn : n ≤ 100) (h1 : bs.length = n) (h2 : cs.length = n) (w : World)
    (hs : Sl w A n 1 (boolCells bs)) (ht : Sl w B n 1 (cellsOf .i64 cs)) :
    Calls Try.prog 23 #[.slice A n c, .slice B n d] w fun e w' => e = .returned (.int .i64 (firstV bs cs)) ∧ Ext w w' := by
  have H1 := Lib.hid h1
  have H2 := Lib.hid h2
  clear h1 h2
  go_enter Try.func23, Try.ntmps23
  go_wp2_with fail
  go_loopw [5] (fun i wr => ∃ k : Nat, k ≤ n ∧ i = .int .i64 k ∧ Hid (firstV bs cs = firstV (bs.drop k) (cs.drop k)) ∧ Ext w wr) (fun i _ => n - (intOf i).toNat)
  case atStart => exact ⟨0, by omega, rfl, rfl, Ext.refl w⟩
  case round =>
    obtain ⟨k, hk, rfl, hf, hx⟩ := hrel
    by_cases hlt : k < n
    · obtain ⟨b, off, rfl, hb, hc⟩ := (hs.ext hx).at1 hlt
      obtain ⟨b2, off2, rfl, hb2, hc2⟩ := (ht.ext hx).at1 hlt
      rw [boolCells_getD (by rw [H1.out]; exact hlt)] at hc
      rw [cellsOf_getD (by rw [H2.out]; exact hlt)] at hc2
      have hstep := firstV_drop bs cs k (by rw [H1.out, H2.out]) (by rw [H1.out]; exact hlt)
      have HF : Hid (firstV bs cs = if bs.getD k false then cs.getD k 0 else firstV (bs.drop (k + 1)) (cs.drop (k + 1))) := hf.out.trans hstep
      clear hstep hf hs ht
      generalize bs.getD k false = bk at *
      generalize cs.getD k 0 = ck at *
      cases bk
      · have HF' : Hid (firstV bs cs = firstV (bs.drop (k + 1)) (cs.drop (k + 1))) := HF.out
        go_wp2_with fail
        exact ⟨⟨k + 1, by omega, by go_num, HF', by (repeat (first | exact Ext.refl _ | assumption | apply Ext.drew | apply Ext.alloc | (refine Ext.setCell ?_ ?_ _ <;> first | (simp; done) | (simp; omega) | omega | skip) | (refine Ext.trans ?_ (by assumption))))⟩, by simp [intOf]; omega⟩
      · have HF' : Hid (firstV bs cs = ck) := HF.out
        clear HF
        go_wp2_with fail
        go_ret
        exact ⟨ret1_int HF'.out.symm, by (repeat (first | exact Ext.refl _ | assumption | apply Ext.drew | apply Ext.alloc | (refine Ext.setCell ?_ ?_ _ <;> first | (simp; done) | (simp; omega) | omega | skip) | (refine Ext.trans ?_ (by assumption))))⟩
    · go_wp2_with fail
      go_ret
      refine ⟨ret1_int ?_, hx⟩
      rw [hf.out, List.drop_eq_nil_of_le (by rw [H1.out]; omega)]
      rfl
end Go.Proofs.Ytikfkmglcnchoaa
