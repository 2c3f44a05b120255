/-
  Chapter 19, plain laws: results that are written are read as they were, and the other way round.
-/
import Derived.Test.YtmjmdjcgjmjigaaResB
namespace Go.Proofs.Ytmjmdjcgjmjigaa
set_option linter.unusedSimpArgs false
set_option linter.unusedVariables false
set_option linter.unusedSectionVars false
open Go Go.RowKit

theorem intAt_app {a b : List Value} {i : Nat} : intAt (a ++ b) (a.length + i) = intAt b i := by
  unfold intAt; rw [List.getElem?_append_right (by omega), Nat.add_sub_cancel_left]
theorem intAt_left {a b : List Value} {i : Nat} (h : i < a.length) : intAt (a ++ b) i = intAt a i := by
  unfold intAt; rw [List.getElem?_append_left h]
theorem intAt_drop {a : List Value} {o i : Nat} : intAt (a.drop o) i = intAt a (o + i) := by unfold intAt; rw [List.getElem?_drop]
theorem Byts.four {xs : List Value} (h : Byts xs) {o : Nat} (ho : o + 4 ≤ xs.length) : (xs.drop o).take 4 = [.int .u8 (intAt xs o), .int .u8 (intAt xs (o + 1)), .int .u8 (intAt xs (o + 2)), .int .u8 (intAt xs (o + 3))] := by
  rw [drop_get (h.get (i := o) (by omega)).1, drop_get (h.get (i := o + 1) (by omega)).1, drop_get (h.get (i := o + 1 + 1) (by omega)).1, drop_get (h.get (i := o + 1 + 1 + 1) (by omega)).1]
  rfl
theorem b4_n4 {xs : List Value} (h : Byts xs) {o : Nat} (ho : o + 4 ≤ xs.length) : b4 (n4 (xs.drop o)) = (xs.drop o).take 4 := by
  rw [h.four ho]
  obtain ⟨_, l0, u0⟩ := h.get (i := o) (by omega)
  obtain ⟨_, l1, u1⟩ := h.get (i := o + 1) (by omega)
  obtain ⟨_, l2, u2⟩ := h.get (i := o + 2) (by omega)
  obtain ⟨_, l3, u3⟩ := h.get (i := o + 3) (by omega)
  unfold b4 n4
  simp only [intAt_drop, Nat.add_zero]
  rw [show (intAt xs o + 256 * intAt xs (o + 1) + 65536 * intAt xs (o + 2) + 16777216 * intAt xs (o + 3)) % 256 = intAt xs o by omega,
    show (intAt xs o + 256 * intAt xs (o + 1) + 65536 * intAt xs (o + 2) + 16777216 * intAt xs (o + 3)) / 256 % 256 = intAt xs (o + 1) by omega,
    show (intAt xs o + 256 * intAt xs (o + 1) + 65536 * intAt xs (o + 2) + 16777216 * intAt xs (o + 3)) / 65536 % 256 = intAt xs (o + 2) by omega,
    show (intAt xs o + 256 * intAt xs (o + 1) + 65536 * intAt xs (o + 2) + 16777216 * intAt xs (o + 3)) / 16777216 % 256 = intAt xs (o + 3) by omega]
theorem n4_b4 {y : Int} (h0 : 0 ≤ y) (h1 : y < 4294967296) (t : List Value) : n4 (b4 y ++ t) = y := by
  show y % 256 + 256 * (y / 256 % 256) + 65536 * (y / 65536 % 256) + 16777216 * (y / 16777216 % 256) = y
  omega
theorem o2_left {a b : List Value} (h : a.length = 2) : o2 (a ++ b) 0 = o2 a 0 := by
  unfold o2
  rw [intAt_left (by omega), intAt_left (by omega)]
theorem at_shift {a xs : List Value} (h : a.length = 2) (i j : Nat) : intAt (a ++ xs) ((i + 1) * 2 + j) = intAt xs (i * 2 + j) := by
  rw [show (i + 1) * 2 + j = a.length + (i * 2 + j) by omega]; exact intAt_app
theorem at_shift0 {a xs : List Value} (h : a.length = 2) (i : Nat) : intAt (a ++ xs) ((i + 1) * 2) = intAt xs (i * 2) := at_shift h i 0
theorem wrL_shift {a xs : List Value} (h : a.length = 2) : ∀ k i, wrL (a ++ xs) (i + 1) k = wrL xs i k
  | 0, i => rfl
  | k + 1, i => by
      simp only [wrL, wrL_shift h k (i + 1)]
      unfold o2
      rw [at_shift0 h, at_shift h]
theorem wrOk_shift {a xs : List Value} (h : a.length = 2) : ∀ k i, wrOk (a ++ xs) (i + 1) k = wrOk xs i k
  | 0, i => rfl
  | k + 1, i => by
      simp only [wrOk, wrOk_shift h k (i + 1)]
      unfold wrG
      rw [at_shift0 h, at_shift h]
/-- What is read is written as it was. -/
theorem wrL_rdL {xs : List Value} (h : Byts xs) : ∀ k o, o + k * 8 ≤ xs.length → wrL (rdL xs o k) 0 k = (xs.drop o).take (k * 8)
  | 0, o, _ => by simp [wrL]
  | k + 1, o, ho => by
      have ih := wrL_rdL h k (o + 8) (by omega)
      simp only [rdL, wrL]
      rw [o2_left rfl, wrL_shift rfl k 0, ih]
      have e : o2 (e2 xs o) 0 = b4 (n4 (xs.drop o)) ++ b4 (n4 (xs.drop (o + 4))) := rfl
      rw [e, b4_n4 h (by omega), b4_n4 h (by omega)]
      rw [show (k + 1) * 8 = 4 + (4 + k * 8) by omega, List.take_add, List.drop_drop, List.take_add, List.drop_drop, List.append_assoc]
theorem n4_pos {xs : List Value} (h : Byts xs) {o : Nat} (ho : o + 4 ≤ xs.length) : 0 ≤ n4 (xs.drop o) := by
  obtain ⟨_, l0, u0⟩ := h.get (i := o) (by omega)
  obtain ⟨_, l1, u1⟩ := h.get (i := o + 1) (by omega)
  obtain ⟨_, l2, u2⟩ := h.get (i := o + 2) (by omega)
  obtain ⟨_, l3, u3⟩ := h.get (i := o + 3) (by omega)
  unfold n4
  simp only [intAt_drop, Nat.add_zero]
  omega
theorem wrOk_rdL {xs : List Value} (h : Byts xs) : ∀ k o, o + k * 8 ≤ xs.length → rdOk xs o k = true → wrOk (rdL xs o k) 0 k = true
  | 0, o, _, _ => rfl
  | k + 1, o, ho, hr => by
      simp only [rdOk] at hr
      rcases bif_or hr with ⟨hg, hr⟩ | ⟨_, hr⟩
      case inr => cases hr
      have ih := wrOk_rdL h k (o + 8) (by omega) hr
      simp only [rdG, decide_eq_true_eq] at hg
      have g : wrG (rdL xs o (k + 1)) 0 = true := by
        unfold wrG
        rw [decide_eq_true_eq]
        have e0 : intAt (rdL xs o (k + 1)) (0 * 2) = n4 (xs.drop o) := rfl
        have e1 : intAt (rdL xs o (k + 1)) (0 * 2 + 1) = n4 (xs.drop (o + 4)) := rfl
        rw [e0, e1]
        exact ⟨⟨n4_pos h (by omega), hg.1⟩, n4_pos h (by omega), hg.2⟩
      simp only [wrOk, g, cond_true]
      have := wrOk_shift (a := e2 xs o) (xs := rdL xs (o + 8) k) rfl k 0
      simp only [rdL]
      rw [this]
      exact ih
theorem drop_app {a xs : List Value} (j : Nat) : (a ++ xs).drop (a.length + j) = xs.drop j := by rw [← List.drop_drop, List.drop_left]
theorem rdL_shift {a xs : List Value} : ∀ k o, rdL (a ++ xs) (a.length + o) k = rdL xs o k
  | 0, o => rfl
  | k + 1, o => by
      simp only [rdL]
      rw [show a.length + o + 8 = a.length + (o + 8) by omega, rdL_shift k (o + 8)]
      unfold e2
      rw [show a.length + o + 4 = a.length + (o + 4) by omega, drop_app, drop_app]
theorem rdOk_shift {a xs : List Value} : ∀ k o, rdOk (a ++ xs) (a.length + o) k = rdOk xs o k
  | 0, o => rfl
  | k + 1, o => by
      simp only [rdOk]
      rw [show a.length + o + 8 = a.length + (o + 8) by omega, rdOk_shift k (o + 8)]
      unfold rdG
      rw [show a.length + o + 4 = a.length + (o + 4) by omega, drop_app, drop_app]
/-- What is written is read as it was. -/
theorem rdL_wrL {ys : List Value} (hy : Ints .i64 ys) : ∀ k i, (i + k) * 2 ≤ ys.length → wrOk ys i k = true →
    rdL (wrL ys i k) 0 k = (ys.drop (i * 2)).take (k * 2) ∧ rdOk (wrL ys i k) 0 k = true
  | 0, i, _, _ => by simp [rdL, rdOk]
  | k + 1, i, hl, hb => by
      simp only [wrOk] at hb
      rcases bif_or hb with ⟨hg, hb⟩ | ⟨_, hb⟩
      case inr => cases hb
      simp only [wrG, decide_eq_true_eq] at hg
      obtain ⟨⟨a0, a1⟩, b0, b1⟩ := hg
      obtain ⟨ih, ih2⟩ := rdL_wrL hy k (i + 1) (by omega) hb
      have h0 : n4 ((o2 ys i ++ wrL ys (i + 1) k).drop 0) = intAt ys (i * 2) := n4_b4 a0 (by omega) (b4 (intAt ys (i * 2 + 1)) ++ wrL ys (i + 1) k)
      have h1 : n4 ((o2 ys i ++ wrL ys (i + 1) k).drop (0 + 4)) = intAt ys (i * 2 + 1) := n4_b4 b0 (by omega) (wrL ys (i + 1) k)
      have hs := rdL_shift (a := o2 ys i) (xs := wrL ys (i + 1) k) k 0
      have hs2 := rdOk_shift (a := o2 ys i) (xs := wrL ys (i + 1) k) k 0
      rw [show (o2 ys i).length + 0 = 0 + 8 from rfl] at hs hs2
      refine ⟨?_, ?_⟩
      · simp only [rdL, wrL]
        rw [hs, ih]
        have e : e2 (o2 ys i ++ wrL ys (i + 1) k) 0 = [.int .i64 (intAt ys (i * 2)), .int .i64 (intAt ys (i * 2 + 1))] := by
          unfold e2
          rw [h0, h1]
        rw [e, show (k + 1) * 2 = 2 + k * 2 by omega, List.take_add, List.drop_drop, hy.take2 (by omega), show (i + 1) * 2 = i * 2 + 2 by omega]
      · have g : rdG (o2 ys i ++ wrL ys (i + 1) k) 0 = true := by
          unfold rdG
          rw [h0, h1, decide_eq_true_eq]
          exact ⟨a1, b1⟩
        simp only [rdOk, wrL, g, cond_true]
        rw [hs2]
        exact ih2
end Go.Proofs.Ytmjmdjcgjmjigaa
