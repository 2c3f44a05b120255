/-
  Chapter 23, plain laws: what is written is read as it was, and the other way round.
-/
import Derived.Test.YtcmcelilollchaaMsgD
namespace Go.Proofs.Ytcmcelilollchaa
set_option linter.unusedSimpArgs false
set_option linter.unusedVariables false
set_option linter.unusedSectionVars false
open Go Go.RowKit

theorem intAt_app {a b : List Value} {i : Nat} : intAt (a ++ b) (a.length + i) = intAt b i := by
  unfold intAt; rw [List.getElem?_append_right (by omega), Nat.add_sub_cancel_left]
theorem intAt_left {a b : List Value} {i : Nat} (h : i < a.length) : intAt (a ++ b) i = intAt a i := by
  unfold intAt; rw [List.getElem?_append_left h]
theorem intAt_drop {a : List Value} {o i : Nat} : intAt (a.drop o) i = intAt a (o + i) := by unfold intAt; rw [List.getElem?_drop]
theorem Byts.four {xs : List Value} (h : Byts xs) {o : Nat} (ho : o + 4 ≤ xs.length) : (xs.drop o).take 4 = [.int .u8 (intAt xs o), .int .u8 (intAt xs (o + 1)), .int .u8 (intAt xs (o + 2)), .int .u8 (intAt xs (o + 3))] := by
  rw [drop_get (h.get (i := o) (by omega)).1, drop_get (h.get (i := o + 1) (by omega)).1, drop_get (h.get (i := o + 1 + 1) (by omega)).1, drop_get (h.get (i := o + 1 + 1 + 1) (by omega)).1]
  rfl
theorem b4_n4 {xs : List Value} (h : Byts xs) {o : Nat} (ho : o + 4 ≤ xs.length) : b4 (n4 (xs.drop o)) = (xs.drop o).take 4 := by
  rw [h.four ho]
  obtain ⟨_, l0, u0⟩ := h.get (i := o) (by omega)
  obtain ⟨_, l1, u1⟩ := h.get (i := o + 1) (by omega)
  obtain ⟨_, l2, u2⟩ := h.get (i := o + 2) (by omega)
  obtain ⟨_, l3, u3⟩ := h.get (i := o + 3) (by omega)
  unfold b4 n4
  simp only [intAt_drop, Nat.add_zero]
  rw [show (intAt xs o + 256 * intAt xs (o + 1) + 65536 * intAt xs (o + 2) + 16777216 * intAt xs (o + 3)) % 256 = intAt xs o by omega,
    show (intAt xs o + 256 * intAt xs (o + 1) + 65536 * intAt xs (o + 2) + 16777216 * intAt xs (o + 3)) / 256 % 256 = intAt xs (o + 1) by omega,
    show (intAt xs o + 256 * intAt xs (o + 1) + 65536 * intAt xs (o + 2) + 16777216 * intAt xs (o + 3)) / 65536 % 256 = intAt xs (o + 2) by omega,
    show (intAt xs o + 256 * intAt xs (o + 1) + 65536 * intAt xs (o + 2) + 16777216 * intAt xs (o + 3)) / 16777216 % 256 = intAt xs (o + 3) by omega]
theorem n4_b4 {y : Int} (h0 : 0 ≤ y) (h1 : y < 4294967296) (t : List Value) : n4 (b4 y ++ t) = y := by
  show y % 256 + 256 * (y / 256 % 256) + 65536 * (y / 65536 % 256) + 16777216 * (y / 16777216 % 256) = y
  omega
theorem o3_left {a b : List Value} (h : a.length = 3) : o3 (a ++ b) 0 = o3 a 0 := by
  unfold o3
  rw [intAt_left (by omega), intAt_left (by omega), intAt_left (by omega)]
theorem ofL_shift {a xs : List Value} (h : a.length = 3) : ∀ k i, ofL (a ++ xs) (i + 1) k = ofL xs i k
  | 0, i => rfl
  | k + 1, i => by
      simp only [ofL, ofL_shift h k (i + 1)]
      have e : ∀ j, intAt (a ++ xs) ((i + 1) * 3 + j) = intAt xs (i * 3 + j) := fun j => by
        rw [show (i + 1) * 3 + j = a.length + (i * 3 + j) by omega]; exact intAt_app
      have e0 := e 0
      rw [Nat.add_zero, Nat.add_zero] at e0
      unfold o3
      rw [e0, e 1, e 2]
      rfl
/-- What is read is written as it was. -/
theorem ofL_entL {xs : List Value} (h : Byts xs) : ∀ k o, o + k * 12 ≤ xs.length → ofL (entL xs o k) 0 k = (xs.drop o).take (k * 12)
  | 0, o, _ => by simp [ofL]
  | k + 1, o, ho => by
      have ih := ofL_entL h k (o + 12) (by omega)
      simp only [entL, ofL]
      rw [o3_left rfl, ofL_shift rfl k 0, ih]
      have e : o3 (e3 xs o) 0 = b4 (n4 (xs.drop o)) ++ b4 (n4 (xs.drop (o + 4))) ++ b4 (n4 (xs.drop (o + 8))) := rfl
      rw [e, b4_n4 h (by omega), b4_n4 h (by omega), b4_n4 h (by omega)]
      have e2 : ∀ a b : Nat, (xs.drop o).take (a + b) = (xs.drop o).take a ++ (xs.drop (o + a)).take b := fun a b => by
        rw [List.take_add, List.drop_drop]
      rw [show (k + 1) * 12 = 4 + (4 + (4 + k * 12)) by omega, e2, show (xs.drop (o + 4)).take (4 + (4 + k * 12)) = (xs.drop (o + 4)).take 4 ++ ((xs.drop (o + 8)).take 4 ++ (xs.drop (o + 12)).take (k * 12)) by
        rw [List.take_add, List.drop_drop, List.take_add, List.drop_drop]]
      simp only [List.append_assoc]
theorem entL_shift {a xs : List Value} : ∀ k o, entL (a ++ xs) (a.length + o) k = entL xs o k
  | 0, o => rfl
  | k + 1, o => by
      have e : ∀ j, (a ++ xs).drop (a.length + j) = xs.drop j := fun j => by rw [← List.drop_drop, List.drop_left]
      simp only [entL]
      rw [show a.length + o + 12 = a.length + (o + 12) by omega, entL_shift k (o + 12)]
      unfold e3
      rw [show a.length + o + 4 = a.length + (o + 4) by omega, show a.length + o + 8 = a.length + (o + 8) by omega, e, e, e]
/-- What is written is read as it was. -/
theorem entL_ofL {ys : List Value} (hy : Ints .i64 ys) : ∀ k i, (i + k) * 3 ≤ ys.length → (∀ j, i ≤ j → j < i + k → (0 ≤ intAt ys (j * 3) ∧ intAt ys (j * 3) ≤ 1073741824) ∧ (0 ≤ intAt ys (j * 3 + 1) ∧ intAt ys (j * 3 + 1) ≤ 1073741824) ∧ (0 ≤ intAt ys (j * 3 + 2) ∧ intAt ys (j * 3 + 2) ≤ 4)) →
    entL (ofL ys i k) 0 k = (ys.drop (i * 3)).take (k * 3)
  | 0, i, _, _ => by simp [entL]
  | k + 1, i, hl, hb => by
      have ih := entL_ofL hy k (i + 1) (by omega) fun j h1 h2 => hb j (by omega) (by omega)
      obtain ⟨⟨a0, a1⟩, ⟨b0, b1⟩, c0, c1⟩ := hb i (by omega) (by omega)
      simp only [entL, ofL]
      have hs := entL_shift (a := o3 ys i) (xs := ofL ys (i + 1) k) k 0
      rw [show (o3 ys i).length + 0 = 0 + 12 from rfl] at hs
      rw [hs, ih]
      have e : e3 (o3 ys i ++ ofL ys (i + 1) k) 0 = [.int .i64 (intAt ys (i * 3)), .int .i64 (intAt ys (i * 3 + 1)), .int .i64 (intAt ys (i * 3 + 2))] := by
        have h0 : n4 ((o3 ys i ++ ofL ys (i + 1) k).drop 0) = intAt ys (i * 3) := n4_b4 a0 (by omega) (b4 (intAt ys (i * 3 + 1)) ++ b4 (intAt ys (i * 3 + 2)) ++ ofL ys (i + 1) k)
        have h1 : n4 ((o3 ys i ++ ofL ys (i + 1) k).drop (0 + 4)) = intAt ys (i * 3 + 1) := n4_b4 b0 (by omega) (b4 (intAt ys (i * 3 + 2)) ++ ofL ys (i + 1) k)
        have h2 : n4 ((o3 ys i ++ ofL ys (i + 1) k).drop (0 + 8)) = intAt ys (i * 3 + 2) := n4_b4 c0 (by omega) (ofL ys (i + 1) k)
        unfold e3
        rw [h0, h1, h2]
      rw [e, show (k + 1) * 3 = 3 + k * 3 by omega, List.take_add, List.drop_drop, hy.take3 (by omega), show (i + 1) * 3 = i * 3 + 3 by omega]
/-! ### IDs -/
theorem Byts.eight {xs : List Value} (h : Byts xs) {o : Nat} (ho : o + 8 ≤ xs.length) : (xs.drop o).take 8 = [.int .u8 (intAt xs o), .int .u8 (intAt xs (o + 1)), .int .u8 (intAt xs (o + 2)), .int .u8 (intAt xs (o + 3)), .int .u8 (intAt xs (o + 4)), .int .u8 (intAt xs (o + 5)), .int .u8 (intAt xs (o + 6)), .int .u8 (intAt xs (o + 7))] := by
  rw [drop_get (h.get (i := o) (by omega)).1, drop_get (h.get (i := o + 1) (by omega)).1, drop_get (h.get (i := o + 1 + 1) (by omega)).1, drop_get (h.get (i := o + 1 + 1 + 1) (by omega)).1, drop_get (h.get (i := o + 1 + 1 + 1 + 1) (by omega)).1, drop_get (h.get (i := o + 1 + 1 + 1 + 1 + 1) (by omega)).1, drop_get (h.get (i := o + 1 + 1 + 1 + 1 + 1 + 1) (by omega)).1, drop_get (h.get (i := o + 1 + 1 + 1 + 1 + 1 + 1 + 1) (by omega)).1]
  rfl
theorem r8_at (xs : List Value) (o : Nat) : r8 (xs.drop o) = intAt xs o + 256 * (intAt xs (o + 1) + 256 * (intAt xs (o + 2) + 256 * (intAt xs (o + 3) + 256 * (intAt xs (o + 4) + 256 * (intAt xs (o + 5) + 256 * (intAt xs (o + 6) + 256 * (intAt xs (o + 7)))))))) := by
  unfold r8
  simp only [intAt_drop, Nat.add_zero]
theorem d8_r8 {xs : List Value} (h : Byts xs) {o : Nat} (ho : o + 8 ≤ xs.length) : d8 (r8 (xs.drop o)) = (xs.drop o).take 8 := by
  rw [h.eight ho, r8_at]
  obtain ⟨_, l0, u0⟩ := h.get (i := o) (by omega)
  obtain ⟨_, l1, u1⟩ := h.get (i := o + 1) (by omega)
  obtain ⟨_, l2, u2⟩ := h.get (i := o + 2) (by omega)
  obtain ⟨_, l3, u3⟩ := h.get (i := o + 3) (by omega)
  obtain ⟨_, l4, u4⟩ := h.get (i := o + 4) (by omega)
  obtain ⟨_, l5, u5⟩ := h.get (i := o + 5) (by omega)
  obtain ⟨_, l6, u6⟩ := h.get (i := o + 6) (by omega)
  obtain ⟨_, l7, u7⟩ := h.get (i := o + 7) (by omega)
  unfold d8
  have e0 : (intAt xs o + 256 * (intAt xs (o + 1) + 256 * (intAt xs (o + 2) + 256 * (intAt xs (o + 3) + 256 * (intAt xs (o + 4) + 256 * (intAt xs (o + 5) + 256 * (intAt xs (o + 6) + 256 * (intAt xs (o + 7))))))))) % 256 = intAt xs o := by omega
  have e1 : (intAt xs o + 256 * (intAt xs (o + 1) + 256 * (intAt xs (o + 2) + 256 * (intAt xs (o + 3) + 256 * (intAt xs (o + 4) + 256 * (intAt xs (o + 5) + 256 * (intAt xs (o + 6) + 256 * (intAt xs (o + 7))))))))) / 256 % 256 = intAt xs (o + 1) := by omega
  have e2 : (intAt xs o + 256 * (intAt xs (o + 1) + 256 * (intAt xs (o + 2) + 256 * (intAt xs (o + 3) + 256 * (intAt xs (o + 4) + 256 * (intAt xs (o + 5) + 256 * (intAt xs (o + 6) + 256 * (intAt xs (o + 7))))))))) / 65536 % 256 = intAt xs (o + 2) := by omega
  have e3 : (intAt xs o + 256 * (intAt xs (o + 1) + 256 * (intAt xs (o + 2) + 256 * (intAt xs (o + 3) + 256 * (intAt xs (o + 4) + 256 * (intAt xs (o + 5) + 256 * (intAt xs (o + 6) + 256 * (intAt xs (o + 7))))))))) / 16777216 % 256 = intAt xs (o + 3) := by omega
  have e4 : (intAt xs o + 256 * (intAt xs (o + 1) + 256 * (intAt xs (o + 2) + 256 * (intAt xs (o + 3) + 256 * (intAt xs (o + 4) + 256 * (intAt xs (o + 5) + 256 * (intAt xs (o + 6) + 256 * (intAt xs (o + 7))))))))) / 4294967296 % 256 = intAt xs (o + 4) := by omega
  have e5 : (intAt xs o + 256 * (intAt xs (o + 1) + 256 * (intAt xs (o + 2) + 256 * (intAt xs (o + 3) + 256 * (intAt xs (o + 4) + 256 * (intAt xs (o + 5) + 256 * (intAt xs (o + 6) + 256 * (intAt xs (o + 7))))))))) / 1099511627776 % 256 = intAt xs (o + 5) := by omega
  have e6 : (intAt xs o + 256 * (intAt xs (o + 1) + 256 * (intAt xs (o + 2) + 256 * (intAt xs (o + 3) + 256 * (intAt xs (o + 4) + 256 * (intAt xs (o + 5) + 256 * (intAt xs (o + 6) + 256 * (intAt xs (o + 7))))))))) / 281474976710656 % 256 = intAt xs (o + 6) := by omega
  have e7 : (intAt xs o + 256 * (intAt xs (o + 1) + 256 * (intAt xs (o + 2) + 256 * (intAt xs (o + 3) + 256 * (intAt xs (o + 4) + 256 * (intAt xs (o + 5) + 256 * (intAt xs (o + 6) + 256 * (intAt xs (o + 7))))))))) / 72057594037927936 % 256 = intAt xs (o + 7) := by omega
  rw [e0, e1, e2, e3, e4, e5, e6, e7]
theorem r8_d8 {y : Int} (h0 : 0 ≤ y) (h1 : y < 18446744073709551616) (t : List Value) : r8 (d8 y ++ t) = y := by
  show y % 256 + 256 * (y / 256 % 256 + 256 * (y / 65536 % 256 + 256 * (y / 16777216 % 256 + 256 * (y / 4294967296 % 256 + 256 * (y / 1099511627776 % 256 + 256 * (y / 281474976710656 % 256 + 256 * (y / 72057594037927936 % 256))))))) = y
  omega
theorem r8_take {l : List Value} {n : Nat} (h : 8 ≤ n) : r8 (l.take n) = r8 l := by
  have : ∀ i, i < n → intAt (l.take n) i = intAt l i := fun i hi => by unfold intAt; rw [List.getElem?_take, if_pos hi]
  unfold r8
  rw [this 0 (by omega), this 1 (by omega), this 2 (by omega), this 3 (by omega), this 4 (by omega), this 5 (by omega), this 6 (by omega), this 7 (by omega)]
theorem i2_eq (xs : List Value) (o : Nat) : i2 xs o = [.int .u64 (r8 (xs.drop (o + 8))), .int .u64 (r8 (xs.drop o))] := by
  unfold i2
  rw [List.drop_take, List.drop_drop, r8_take (by omega), r8_take (by omega)]
theorem oiL_shift {a xs : List Value} (h : a.length = 2) : ∀ k i, oiL (a ++ xs) (i + 1) k = oiL xs i k
  | 0, i => rfl
  | k + 1, i => by
      simp only [oiL, oiL_shift h k (i + 1)]
      have e : ∀ j, intAt (a ++ xs) ((i + 1) * 2 + j) = intAt xs (i * 2 + j) := fun j => by
        rw [show (i + 1) * 2 + j = a.length + (i * 2 + j) by omega]; exact intAt_app
      have e0 := e 0
      rw [Nat.add_zero, Nat.add_zero] at e0
      rw [e0, e 1]
      rfl
theorem oiL_idL {xs : List Value} (h : Byts xs) : ∀ k o, o + k * 16 ≤ xs.length → oiL (idL xs o k) 0 k = (xs.drop o).take (k * 16)
  | 0, o, _ => by simp [oiL]
  | k + 1, o, ho => by
      have ih := oiL_idL h k (o + 16) (by omega)
      simp only [idL, oiL]
      rw [oiL_shift (by rw [i2_eq]; rfl) k 0, ih, intAt_left (by rw [i2_eq]; show 1 < 2; omega), intAt_left (by rw [i2_eq]; show 0 < 2; omega), i2_eq]
      show d8 (r8 (xs.drop o)) ++ d8 (r8 (xs.drop (o + 8))) ++ _ = _
      rw [d8_r8 h (by omega), d8_r8 h (by omega), show (k + 1) * 16 = 8 + (8 + k * 16) by omega, List.take_add, List.drop_drop, List.take_add, List.drop_drop, List.append_assoc]
theorem idL_shift {a xs : List Value} : ∀ k o, idL (a ++ xs) (a.length + o) k = idL xs o k
  | 0, o => rfl
  | k + 1, o => by
      have e : ∀ j, (a ++ xs).drop (a.length + j) = xs.drop j := fun j => by rw [← List.drop_drop, List.drop_left]
      simp only [idL]
      rw [show a.length + o + 16 = a.length + (o + 16) by omega, idL_shift k (o + 16)]
      unfold i2
      rw [e]
def U64s (xs : List Value) : Prop := Ints .u64 xs ∧ ∀ i, i < xs.length → 0 ≤ intAt xs i ∧ intAt xs i < 18446744073709551616
theorem idL_oiL {ys : List Value} (hy : U64s ys) : ∀ k i, (i + k) * 2 ≤ ys.length → idL (oiL ys i k) 0 k = (ys.drop (i * 2)).take (k * 2)
  | 0, i, _ => by simp [idL]
  | k + 1, i, hl => by
      have ih := idL_oiL hy k (i + 1) (by omega)
      obtain ⟨a0, a1⟩ := hy.2 (i * 2) (by omega)
      obtain ⟨b0, b1⟩ := hy.2 (i * 2 + 1) (by omega)
      simp only [idL, oiL]
      have hs := idL_shift (a := d8 (intAt ys (i * 2 + 1)) ++ d8 (intAt ys (i * 2))) (xs := oiL ys (i + 1) k) k 0
      rw [show (d8 (intAt ys (i * 2 + 1)) ++ d8 (intAt ys (i * 2))).length + 0 = 0 + 16 from rfl] at hs
      rw [hs, ih, i2_eq]
      have h0 : r8 ((d8 (intAt ys (i * 2 + 1)) ++ d8 (intAt ys (i * 2)) ++ oiL ys (i + 1) k).drop (0 + 8)) = intAt ys (i * 2) := r8_d8 a0 a1 (oiL ys (i + 1) k)
      have h1 : r8 ((d8 (intAt ys (i * 2 + 1)) ++ d8 (intAt ys (i * 2)) ++ oiL ys (i + 1) k).drop 0) = intAt ys (i * 2 + 1) := r8_d8 b0 b1 (d8 (intAt ys (i * 2)) ++ oiL ys (i + 1) k)
      rw [h0, h1, show (k + 1) * 2 = 2 + k * 2 by omega, List.take_add, List.drop_drop, hy.1.take2 (by omega), show (i + 1) * 2 = i * 2 + 2 by omega]
end Go.Proofs.Ytcmcelilollchaa
