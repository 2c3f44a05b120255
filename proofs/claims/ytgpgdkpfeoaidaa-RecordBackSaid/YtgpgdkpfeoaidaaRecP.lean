/-
  Chapter 02: what is written is read as it was: plain laws on records and their bytes.
-/
import Derived.Test.YtgpgdkpfeoaidaaRecI
import Derived.Test.YtgpgdkpfeoaidaaRecE
namespace Go.Proofs.Ytgpgdkpfeoaidaa
set_option linter.unusedSimpArgs false
set_option linter.unusedVariables false
set_option linter.unusedSectionVars false
open Go Go.RowKit

theorem lw8 (x : Int) : lowI .u8 x = x % 256 := by unfold lowI; rw [mdI_eq]; rfl
theorem e8_d8 (n : Int) : e8 n = d8 n := by
  unfold e8 d8
  simp only [lw8, t0, t8, t16, t24, t32, t40, t48, t56, Int.ediv_one]
theorem r8_d8 {y : Int} (h0 : 0 ≤ y) (h1 : y < 18446744073709551616) (t : List Value) : r8 (d8 y ++ t) = y := by
  show y % 256 + 256 * (y / 256 % 256 + 256 * (y / 65536 % 256 + 256 * (y / 16777216 % 256 + 256 * (y / 4294967296 % 256 + 256 * (y / 1099511627776 % 256 + 256 * (y / 281474976710656 % 256 + 256 * (y / 72057594037927936 % 256))))))) = y
  omega
theorem r4_e4 {y : Int} (h : wfK y 4294967296) (t : List Value) : r4 (e4 y ++ t) = y := by
  show lowI .u8 (srI y 0) + 256 * (lowI .u8 (srI y 8) + 256 * (lowI .u8 (srI y 16) + 256 * lowI .u8 (srI y 24))) = y
  unfold wfK at h
  simp only [lw8, t0, t8, t16, t24]
  omega
theorem r2_e2 {y : Int} (h : wfK y 65536) (t : List Value) : r2 (e2 y ++ t) = y := by
  show lowI .u8 (srI y 0) + 256 * lowI .u8 (srI y 8) = y
  unfold wfK at h
  simp only [lw8, t0, t8]
  omega
def w64 (y : Int) : Prop := 0 ≤ y ∧ y < 18446744073709551616
theorem rcC_rcdB {a0 a1 a2 a3 a4 a5 a6 a7 a8 a9 a10 a11 a12 a13 a14 a15 a16 a17 a18 : Int} (hw : recW a13 a14 a15 a16 a17) (h0 : w64 a0) (h1 : w64 a1) (h2 : w64 a2) (h3 : w64 a3) (h4 : w64 a4) (h5 : w64 a5) (h6 : w64 a6) (h7 : w64 a7) (h8 : w64 a8) (h9 : w64 a9) (h10 : w64 a10) (h11 : w64 a11) (h12 : w64 a12) (h18 : w64 a18) : rcC rcF (rcdB a0 a1 a2 a3 a4 a5 a6 a7 a8 a9 a10 a11 a12 a13 a14 a15 a16 a17 a18) = [.int .u64 a0, .int .u64 a1, .int .u64 a2, .int .u64 a3, .int .u64 a4, .int .u64 a5, .int .u64 a6, .int .u64 a7, .int .u64 a8, .int .u64 a9, .int .u64 a10, .int .u64 a11, .int .u64 a12, .int .u32 a13, .int .u32 a14, .int .u32 a15, .int .u16 a16, .int .u16 a17, .int .u64 a18] := by
  obtain ⟨w13, w14, w15, w16, w17⟩ := hw
  have g1 : (rcdB a0 a1 a2 a3 a4 a5 a6 a7 a8 a9 a10 a11 a12 a13 a14 a15 a16 a17 a18).drop 0 = d8 a1 ++ (d8 a0 ++ d8 a3 ++ d8 a2 ++ d8 a5 ++ d8 a4 ++ d8 a7 ++ d8 a6 ++ d8 a9 ++ d8 a8 ++ d8 a11 ++ d8 a10 ++ e8 a12 ++ e4 a13 ++ e4 a14 ++ e4 a15 ++ e2 a16 ++ e2 a17 ++ e8 a18) := by kernel_rfl
  have g0 : (rcdB a0 a1 a2 a3 a4 a5 a6 a7 a8 a9 a10 a11 a12 a13 a14 a15 a16 a17 a18).drop 8 = d8 a0 ++ (d8 a3 ++ d8 a2 ++ d8 a5 ++ d8 a4 ++ d8 a7 ++ d8 a6 ++ d8 a9 ++ d8 a8 ++ d8 a11 ++ d8 a10 ++ e8 a12 ++ e4 a13 ++ e4 a14 ++ e4 a15 ++ e2 a16 ++ e2 a17 ++ e8 a18) := by kernel_rfl
  have g3 : (rcdB a0 a1 a2 a3 a4 a5 a6 a7 a8 a9 a10 a11 a12 a13 a14 a15 a16 a17 a18).drop 16 = d8 a3 ++ (d8 a2 ++ d8 a5 ++ d8 a4 ++ d8 a7 ++ d8 a6 ++ d8 a9 ++ d8 a8 ++ d8 a11 ++ d8 a10 ++ e8 a12 ++ e4 a13 ++ e4 a14 ++ e4 a15 ++ e2 a16 ++ e2 a17 ++ e8 a18) := by kernel_rfl
  have g2 : (rcdB a0 a1 a2 a3 a4 a5 a6 a7 a8 a9 a10 a11 a12 a13 a14 a15 a16 a17 a18).drop 24 = d8 a2 ++ (d8 a5 ++ d8 a4 ++ d8 a7 ++ d8 a6 ++ d8 a9 ++ d8 a8 ++ d8 a11 ++ d8 a10 ++ e8 a12 ++ e4 a13 ++ e4 a14 ++ e4 a15 ++ e2 a16 ++ e2 a17 ++ e8 a18) := by kernel_rfl
  have g5 : (rcdB a0 a1 a2 a3 a4 a5 a6 a7 a8 a9 a10 a11 a12 a13 a14 a15 a16 a17 a18).drop 32 = d8 a5 ++ (d8 a4 ++ d8 a7 ++ d8 a6 ++ d8 a9 ++ d8 a8 ++ d8 a11 ++ d8 a10 ++ e8 a12 ++ e4 a13 ++ e4 a14 ++ e4 a15 ++ e2 a16 ++ e2 a17 ++ e8 a18) := by kernel_rfl
  have g4 : (rcdB a0 a1 a2 a3 a4 a5 a6 a7 a8 a9 a10 a11 a12 a13 a14 a15 a16 a17 a18).drop 40 = d8 a4 ++ (d8 a7 ++ d8 a6 ++ d8 a9 ++ d8 a8 ++ d8 a11 ++ d8 a10 ++ e8 a12 ++ e4 a13 ++ e4 a14 ++ e4 a15 ++ e2 a16 ++ e2 a17 ++ e8 a18) := by kernel_rfl
  have g7 : (rcdB a0 a1 a2 a3 a4 a5 a6 a7 a8 a9 a10 a11 a12 a13 a14 a15 a16 a17 a18).drop 48 = d8 a7 ++ (d8 a6 ++ d8 a9 ++ d8 a8 ++ d8 a11 ++ d8 a10 ++ e8 a12 ++ e4 a13 ++ e4 a14 ++ e4 a15 ++ e2 a16 ++ e2 a17 ++ e8 a18) := by kernel_rfl
  have g6 : (rcdB a0 a1 a2 a3 a4 a5 a6 a7 a8 a9 a10 a11 a12 a13 a14 a15 a16 a17 a18).drop 56 = d8 a6 ++ (d8 a9 ++ d8 a8 ++ d8 a11 ++ d8 a10 ++ e8 a12 ++ e4 a13 ++ e4 a14 ++ e4 a15 ++ e2 a16 ++ e2 a17 ++ e8 a18) := by kernel_rfl
  have g9 : (rcdB a0 a1 a2 a3 a4 a5 a6 a7 a8 a9 a10 a11 a12 a13 a14 a15 a16 a17 a18).drop 64 = d8 a9 ++ (d8 a8 ++ d8 a11 ++ d8 a10 ++ e8 a12 ++ e4 a13 ++ e4 a14 ++ e4 a15 ++ e2 a16 ++ e2 a17 ++ e8 a18) := by kernel_rfl
  have g8 : (rcdB a0 a1 a2 a3 a4 a5 a6 a7 a8 a9 a10 a11 a12 a13 a14 a15 a16 a17 a18).drop 72 = d8 a8 ++ (d8 a11 ++ d8 a10 ++ e8 a12 ++ e4 a13 ++ e4 a14 ++ e4 a15 ++ e2 a16 ++ e2 a17 ++ e8 a18) := by kernel_rfl
  have g11 : (rcdB a0 a1 a2 a3 a4 a5 a6 a7 a8 a9 a10 a11 a12 a13 a14 a15 a16 a17 a18).drop 80 = d8 a11 ++ (d8 a10 ++ e8 a12 ++ e4 a13 ++ e4 a14 ++ e4 a15 ++ e2 a16 ++ e2 a17 ++ e8 a18) := by kernel_rfl
  have g10 : (rcdB a0 a1 a2 a3 a4 a5 a6 a7 a8 a9 a10 a11 a12 a13 a14 a15 a16 a17 a18).drop 88 = d8 a10 ++ (e8 a12 ++ e4 a13 ++ e4 a14 ++ e4 a15 ++ e2 a16 ++ e2 a17 ++ e8 a18) := by kernel_rfl
  have g12 : (rcdB a0 a1 a2 a3 a4 a5 a6 a7 a8 a9 a10 a11 a12 a13 a14 a15 a16 a17 a18).drop 96 = e8 a12 ++ (e4 a13 ++ e4 a14 ++ e4 a15 ++ e2 a16 ++ e2 a17 ++ e8 a18) := by kernel_rfl
  have g13 : (rcdB a0 a1 a2 a3 a4 a5 a6 a7 a8 a9 a10 a11 a12 a13 a14 a15 a16 a17 a18).drop 104 = e4 a13 ++ (e4 a14 ++ e4 a15 ++ e2 a16 ++ e2 a17 ++ e8 a18) := by kernel_rfl
  have g14 : (rcdB a0 a1 a2 a3 a4 a5 a6 a7 a8 a9 a10 a11 a12 a13 a14 a15 a16 a17 a18).drop 108 = e4 a14 ++ (e4 a15 ++ e2 a16 ++ e2 a17 ++ e8 a18) := by kernel_rfl
  have g15 : (rcdB a0 a1 a2 a3 a4 a5 a6 a7 a8 a9 a10 a11 a12 a13 a14 a15 a16 a17 a18).drop 112 = e4 a15 ++ (e2 a16 ++ e2 a17 ++ e8 a18) := by kernel_rfl
  have g16 : (rcdB a0 a1 a2 a3 a4 a5 a6 a7 a8 a9 a10 a11 a12 a13 a14 a15 a16 a17 a18).drop 116 = e2 a16 ++ (e2 a17 ++ e8 a18) := by kernel_rfl
  have g17 : (rcdB a0 a1 a2 a3 a4 a5 a6 a7 a8 a9 a10 a11 a12 a13 a14 a15 a16 a17 a18).drop 118 = e2 a17 ++ (e8 a18) := by kernel_rfl
  have g18 : (rcdB a0 a1 a2 a3 a4 a5 a6 a7 a8 a9 a10 a11 a12 a13 a14 a15 a16 a17 a18).drop 120 = e8 a18 ++ [] := by kernel_rfl
  have f12 : r8 ((rcdB a0 a1 a2 a3 a4 a5 a6 a7 a8 a9 a10 a11 a12 a13 a14 a15 a16 a17 a18).drop 96) = a12 := by rw [g12, e8_d8]; exact r8_d8 h12.1 h12.2 _
  have f18 : r8 ((rcdB a0 a1 a2 a3 a4 a5 a6 a7 a8 a9 a10 a11 a12 a13 a14 a15 a16 a17 a18).drop 120) = a18 := by rw [g18, e8_d8]; exact r8_d8 h18.1 h18.2 _
  have f0 : r8 ((rcdB a0 a1 a2 a3 a4 a5 a6 a7 a8 a9 a10 a11 a12 a13 a14 a15 a16 a17 a18).drop 8) = a0 := by rw [g0]; exact r8_d8 h0.1 h0.2 _
  have f1 : r8 ((rcdB a0 a1 a2 a3 a4 a5 a6 a7 a8 a9 a10 a11 a12 a13 a14 a15 a16 a17 a18).drop 0) = a1 := by rw [g1]; exact r8_d8 h1.1 h1.2 _
  have f2 : r8 ((rcdB a0 a1 a2 a3 a4 a5 a6 a7 a8 a9 a10 a11 a12 a13 a14 a15 a16 a17 a18).drop 24) = a2 := by rw [g2]; exact r8_d8 h2.1 h2.2 _
  have f3 : r8 ((rcdB a0 a1 a2 a3 a4 a5 a6 a7 a8 a9 a10 a11 a12 a13 a14 a15 a16 a17 a18).drop 16) = a3 := by rw [g3]; exact r8_d8 h3.1 h3.2 _
  have f4 : r8 ((rcdB a0 a1 a2 a3 a4 a5 a6 a7 a8 a9 a10 a11 a12 a13 a14 a15 a16 a17 a18).drop 40) = a4 := by rw [g4]; exact r8_d8 h4.1 h4.2 _
  have f5 : r8 ((rcdB a0 a1 a2 a3 a4 a5 a6 a7 a8 a9 a10 a11 a12 a13 a14 a15 a16 a17 a18).drop 32) = a5 := by rw [g5]; exact r8_d8 h5.1 h5.2 _
  have f6 : r8 ((rcdB a0 a1 a2 a3 a4 a5 a6 a7 a8 a9 a10 a11 a12 a13 a14 a15 a16 a17 a18).drop 56) = a6 := by rw [g6]; exact r8_d8 h6.1 h6.2 _
  have f7 : r8 ((rcdB a0 a1 a2 a3 a4 a5 a6 a7 a8 a9 a10 a11 a12 a13 a14 a15 a16 a17 a18).drop 48) = a7 := by rw [g7]; exact r8_d8 h7.1 h7.2 _
  have f8 : r8 ((rcdB a0 a1 a2 a3 a4 a5 a6 a7 a8 a9 a10 a11 a12 a13 a14 a15 a16 a17 a18).drop 72) = a8 := by rw [g8]; exact r8_d8 h8.1 h8.2 _
  have f9 : r8 ((rcdB a0 a1 a2 a3 a4 a5 a6 a7 a8 a9 a10 a11 a12 a13 a14 a15 a16 a17 a18).drop 64) = a9 := by rw [g9]; exact r8_d8 h9.1 h9.2 _
  have f10 : r8 ((rcdB a0 a1 a2 a3 a4 a5 a6 a7 a8 a9 a10 a11 a12 a13 a14 a15 a16 a17 a18).drop 88) = a10 := by rw [g10]; exact r8_d8 h10.1 h10.2 _
  have f11 : r8 ((rcdB a0 a1 a2 a3 a4 a5 a6 a7 a8 a9 a10 a11 a12 a13 a14 a15 a16 a17 a18).drop 80) = a11 := by rw [g11]; exact r8_d8 h11.1 h11.2 _
  have f13 : r4 ((rcdB a0 a1 a2 a3 a4 a5 a6 a7 a8 a9 a10 a11 a12 a13 a14 a15 a16 a17 a18).drop 104) = a13 := by rw [g13]; exact r4_e4 w13 _
  have f14 : r4 ((rcdB a0 a1 a2 a3 a4 a5 a6 a7 a8 a9 a10 a11 a12 a13 a14 a15 a16 a17 a18).drop 108) = a14 := by rw [g14]; exact r4_e4 w14 _
  have f15 : r4 ((rcdB a0 a1 a2 a3 a4 a5 a6 a7 a8 a9 a10 a11 a12 a13 a14 a15 a16 a17 a18).drop 112) = a15 := by rw [g15]; exact r4_e4 w15 _
  have f16 : r2 ((rcdB a0 a1 a2 a3 a4 a5 a6 a7 a8 a9 a10 a11 a12 a13 a14 a15 a16 a17 a18).drop 116) = a16 := by rw [g16]; exact r2_e2 w16 _
  have f17 : r2 ((rcdB a0 a1 a2 a3 a4 a5 a6 a7 a8 a9 a10 a11 a12 a13 a14 a15 a16 a17 a18).drop 118) = a17 := by rw [g17]; exact r2_e2 w17 _
  unfold rcC rcF
  simp only [f0, f1, f2, f3, f4, f5, f6, f7, f8, f9, f10, f11, f12, f13, f14, f15, f16, f17, f18]
def recU (xs : List Value) (i : Nat) : Prop := w64 (intAt xs (i * 19)) ∧ w64 (intAt xs (i * 19 + 1)) ∧ w64 (intAt xs (i * 19 + 2)) ∧ w64 (intAt xs (i * 19 + 3)) ∧ w64 (intAt xs (i * 19 + 4)) ∧ w64 (intAt xs (i * 19 + 5)) ∧ w64 (intAt xs (i * 19 + 6)) ∧ w64 (intAt xs (i * 19 + 7)) ∧ w64 (intAt xs (i * 19 + 8)) ∧ w64 (intAt xs (i * 19 + 9)) ∧ w64 (intAt xs (i * 19 + 10)) ∧ w64 (intAt xs (i * 19 + 11)) ∧ w64 (intAt xs (i * 19 + 12)) ∧ w64 (intAt xs (i * 19 + 18))
theorem rec_back {xs : List Value} {n : Nat} (H : RecsOk xs n) (V : ∀ i, i < n → recU xs i) : ∀ (k i : Nat) (L : List Value) (o : Nat), i + k = n → L.drop o = recL rcdB xs i k → rhL rcF L o k = xs.drop (i * 19)
  | 0, i, L, o, hi, e => by
      have := H.l
      simp only [rhL]
      rw [List.drop_eq_nil_of_le (by omega)]
  | k + 1, i, L, o, hi, e => by
      simp only [recL] at e
      have hx := recX_len (R := rcdB) rfl xs i
      have e1 : (L.drop o).take 128 = recX rcdB xs i := by rw [e, List.take_left' hx]
      have e2 : L.drop (o + 128) = recL rcdB xs (i + 1) k := by rw [← List.drop_drop, e, List.drop_left' hx]
      have nx := rec_back H V k (i + 1) L (o + 128) (by omega) e2
      obtain ⟨u0, u1, u2, u3, u4, u5, u6, u7, u8, u9, u10, u11, u12, u18⟩ := V i (by omega)
      have e3 : rcC rcF (recX rcdB xs i) = recC xs i := rcC_rcdB (H.w i (by omega)) u0 u1 u2 u3 u4 u5 u6 u7 u8 u9 u10 u11 u12 u18
      have e4 : (i + 1) * 19 = i * 19 + 19 := by omega
      simp only [rhL]
      rw [e1, e3, nx, ← H.t i (by omega), e4, ← List.drop_drop, List.take_append_drop]
theorem recs_back {xs : List Value} {n : Nat} (H : RecsOk xs n) (V : ∀ i, i < n → recU xs i) : rhL rcF (recL rcdB xs 0 n) 0 n = xs := by
  have := rec_back H V n 0 (recL rcdB xs 0 n) 0 (by omega) rfl
  rw [this, Nat.zero_mul, List.drop_zero]
theorem drg {xs : List Value} {o : Nat} {a : Value} (h : xs[o]? = some a) : xs.drop o = a :: xs.drop (o + 1) := by
  obtain ⟨h1, h2⟩ := List.getElem?_eq_some_iff.1 h
  rw [← h2]; exact List.drop_eq_getElem_cons h1
theorem Byts.eight {xs : List Value} (h : Byts xs) {o : Nat} (ho : o + 8 ≤ xs.length) : (xs.drop o).take 8 = [.int .u8 (intAt xs o), .int .u8 (intAt xs (o + 1)), .int .u8 (intAt xs (o + 2)), .int .u8 (intAt xs (o + 3)), .int .u8 (intAt xs (o + 4)), .int .u8 (intAt xs (o + 5)), .int .u8 (intAt xs (o + 6)), .int .u8 (intAt xs (o + 7))] := by
  rw [drg (h.get (i := o) (by omega)).1, drg (h.get (i := o + 1) (by omega)).1, drg (h.get (i := o + 1 + 1) (by omega)).1, drg (h.get (i := o + 1 + 1 + 1) (by omega)).1, drg (h.get (i := o + 1 + 1 + 1 + 1) (by omega)).1, drg (h.get (i := o + 1 + 1 + 1 + 1 + 1) (by omega)).1, drg (h.get (i := o + 1 + 1 + 1 + 1 + 1 + 1) (by omega)).1, drg (h.get (i := o + 1 + 1 + 1 + 1 + 1 + 1 + 1) (by omega)).1]
  rfl
theorem r8_at (xs : List Value) (o : Nat) : r8 (xs.drop o) = intAt xs o + 256 * (intAt xs (o + 1) + 256 * (intAt xs (o + 2) + 256 * (intAt xs (o + 3) + 256 * (intAt xs (o + 4) + 256 * (intAt xs (o + 5) + 256 * (intAt xs (o + 6) + 256 * (intAt xs (o + 7)))))))) := by
  unfold r8
  simp only [at_drop, Nat.add_zero]
theorem d8_r8 {xs : List Value} (h : Byts xs) {o : Nat} (ho : o + 8 ≤ xs.length) : d8 (r8 (xs.drop o)) = (xs.drop o).take 8 := by
  rw [h.eight ho, r8_at]
  obtain ⟨_, l0, u0⟩ := h.get (i := o) (by omega)
  obtain ⟨_, l1, u1⟩ := h.get (i := o + 1) (by omega)
  obtain ⟨_, l2, u2⟩ := h.get (i := o + 2) (by omega)
  obtain ⟨_, l3, u3⟩ := h.get (i := o + 3) (by omega)
  obtain ⟨_, l4, u4⟩ := h.get (i := o + 4) (by omega)
  obtain ⟨_, l5, u5⟩ := h.get (i := o + 5) (by omega)
  obtain ⟨_, l6, u6⟩ := h.get (i := o + 6) (by omega)
  obtain ⟨_, l7, u7⟩ := h.get (i := o + 7) (by omega)
  unfold d8
  have e0 : (intAt xs o + 256 * (intAt xs (o + 1) + 256 * (intAt xs (o + 2) + 256 * (intAt xs (o + 3) + 256 * (intAt xs (o + 4) + 256 * (intAt xs (o + 5) + 256 * (intAt xs (o + 6) + 256 * (intAt xs (o + 7))))))))) % 256 = intAt xs o := by omega
  have e1 : (intAt xs o + 256 * (intAt xs (o + 1) + 256 * (intAt xs (o + 2) + 256 * (intAt xs (o + 3) + 256 * (intAt xs (o + 4) + 256 * (intAt xs (o + 5) + 256 * (intAt xs (o + 6) + 256 * (intAt xs (o + 7))))))))) / 256 % 256 = intAt xs (o + 1) := by omega
  have e2 : (intAt xs o + 256 * (intAt xs (o + 1) + 256 * (intAt xs (o + 2) + 256 * (intAt xs (o + 3) + 256 * (intAt xs (o + 4) + 256 * (intAt xs (o + 5) + 256 * (intAt xs (o + 6) + 256 * (intAt xs (o + 7))))))))) / 65536 % 256 = intAt xs (o + 2) := by omega
  have e3 : (intAt xs o + 256 * (intAt xs (o + 1) + 256 * (intAt xs (o + 2) + 256 * (intAt xs (o + 3) + 256 * (intAt xs (o + 4) + 256 * (intAt xs (o + 5) + 256 * (intAt xs (o + 6) + 256 * (intAt xs (o + 7))))))))) / 16777216 % 256 = intAt xs (o + 3) := by omega
  have e4 : (intAt xs o + 256 * (intAt xs (o + 1) + 256 * (intAt xs (o + 2) + 256 * (intAt xs (o + 3) + 256 * (intAt xs (o + 4) + 256 * (intAt xs (o + 5) + 256 * (intAt xs (o + 6) + 256 * (intAt xs (o + 7))))))))) / 4294967296 % 256 = intAt xs (o + 4) := by omega
  have e5 : (intAt xs o + 256 * (intAt xs (o + 1) + 256 * (intAt xs (o + 2) + 256 * (intAt xs (o + 3) + 256 * (intAt xs (o + 4) + 256 * (intAt xs (o + 5) + 256 * (intAt xs (o + 6) + 256 * (intAt xs (o + 7))))))))) / 1099511627776 % 256 = intAt xs (o + 5) := by omega
  have e6 : (intAt xs o + 256 * (intAt xs (o + 1) + 256 * (intAt xs (o + 2) + 256 * (intAt xs (o + 3) + 256 * (intAt xs (o + 4) + 256 * (intAt xs (o + 5) + 256 * (intAt xs (o + 6) + 256 * (intAt xs (o + 7))))))))) / 281474976710656 % 256 = intAt xs (o + 6) := by omega
  have e7 : (intAt xs o + 256 * (intAt xs (o + 1) + 256 * (intAt xs (o + 2) + 256 * (intAt xs (o + 3) + 256 * (intAt xs (o + 4) + 256 * (intAt xs (o + 5) + 256 * (intAt xs (o + 6) + 256 * (intAt xs (o + 7))))))))) / 72057594037927936 % 256 = intAt xs (o + 7) := by omega
  rw [e0, e1, e2, e3, e4, e5, e6, e7]
theorem Byts.four {xs : List Value} (h : Byts xs) {o : Nat} (ho : o + 4 ≤ xs.length) : (xs.drop o).take 4 = [.int .u8 (intAt xs o), .int .u8 (intAt xs (o + 1)), .int .u8 (intAt xs (o + 2)), .int .u8 (intAt xs (o + 3))] := by
  rw [drg (h.get (i := o) (by omega)).1, drg (h.get (i := o + 1) (by omega)).1, drg (h.get (i := o + 1 + 1) (by omega)).1, drg (h.get (i := o + 1 + 1 + 1) (by omega)).1]
  rfl
theorem Byts.two {xs : List Value} (h : Byts xs) {o : Nat} (ho : o + 2 ≤ xs.length) : (xs.drop o).take 2 = [.int .u8 (intAt xs o), .int .u8 (intAt xs (o + 1))] := by
  rw [drg (h.get (i := o) (by omega)).1, drg (h.get (i := o + 1) (by omega)).1]
  rfl
theorem e4_r4 {xs : List Value} (h : Byts xs) {o : Nat} (ho : o + 4 ≤ xs.length) : e4 (r4 (xs.drop o)) = (xs.drop o).take 4 := by
  rw [h.four ho]
  have e : r4 (xs.drop o) = intAt xs o + 256 * (intAt xs (o + 1) + 256 * (intAt xs (o + 2) + 256 * intAt xs (o + 3))) := by unfold r4; simp only [at_drop, Nat.add_zero]
  rw [e]
  obtain ⟨_, l0, u0⟩ := h.get (i := o) (by omega)
  obtain ⟨_, l1, u1⟩ := h.get (i := o + 1) (by omega)
  obtain ⟨_, l2, u2⟩ := h.get (i := o + 2) (by omega)
  obtain ⟨_, l3, u3⟩ := h.get (i := o + 3) (by omega)
  unfold e4
  simp only [lw8, t0, t8, t16, t24, Int.ediv_one, List.cons.injEq, Value.int.injEq, true_and, and_true]
  omega
theorem e2_r2 {xs : List Value} (h : Byts xs) {o : Nat} (ho : o + 2 ≤ xs.length) : e2 (r2 (xs.drop o)) = (xs.drop o).take 2 := by
  rw [h.two ho]
  have e : r2 (xs.drop o) = intAt xs o + 256 * intAt xs (o + 1) := by unfold r2; simp only [at_drop, Nat.add_zero]
  rw [e]
  obtain ⟨_, l0, u0⟩ := h.get (i := o) (by omega)
  obtain ⟨_, l1, u1⟩ := h.get (i := o + 1) (by omega)
  unfold e2
  simp only [lw8, t0, t8, Int.ediv_one, List.cons.injEq, Value.int.injEq, true_and, and_true]
  omega
theorem tkd {xs : List Value} (o a b : Nat) : (xs.drop o).take a ++ (xs.drop (o + a)).take b = (xs.drop o).take (a + b) := by
  rw [List.take_add, List.drop_drop]
theorem rcdB_back {xs : List Value} (h : Byts xs) (hl : xs.length = 128) : rcdB (rcF 0 xs) (rcF 1 xs) (rcF 2 xs) (rcF 3 xs) (rcF 4 xs) (rcF 5 xs) (rcF 6 xs) (rcF 7 xs) (rcF 8 xs) (rcF 9 xs) (rcF 10 xs) (rcF 11 xs) (rcF 12 xs) (rcF 13 xs) (rcF 14 xs) (rcF 15 xs) (rcF 16 xs) (rcF 17 xs) (rcF 18 xs) = xs := by
  have g12 : e8 (r8 (xs.drop 96)) = (xs.drop 96).take 8 := by rw [e8_d8]; exact d8_r8 h (by omega)
  have g18 : e8 (r8 (xs.drop 120)) = (xs.drop 120).take 8 := by rw [e8_d8]; exact d8_r8 h (by omega)
  have g1 := d8_r8 h (o := 0) (by omega)
  have g0 := d8_r8 h (o := 8) (by omega)
  have g3 := d8_r8 h (o := 16) (by omega)
  have g2 := d8_r8 h (o := 24) (by omega)
  have g5 := d8_r8 h (o := 32) (by omega)
  have g4 := d8_r8 h (o := 40) (by omega)
  have g7 := d8_r8 h (o := 48) (by omega)
  have g6 := d8_r8 h (o := 56) (by omega)
  have g9 := d8_r8 h (o := 64) (by omega)
  have g8 := d8_r8 h (o := 72) (by omega)
  have g11 := d8_r8 h (o := 80) (by omega)
  have g10 := d8_r8 h (o := 88) (by omega)
  have g13 := e4_r4 h (o := 104) (by omega)
  have g14 := e4_r4 h (o := 108) (by omega)
  have g15 := e4_r4 h (o := 112) (by omega)
  have g16 := e2_r2 h (o := 116) (by omega)
  have g17 := e2_r2 h (o := 118) (by omega)
  unfold rcdB rcF
  simp only [g0, g1, g2, g3, g4, g5, g6, g7, g8, g9, g10, g11, g12, g13, g14, g15, g16, g17, g18]
  rw [show (List.drop 8 xs).take 8 = (xs.drop (0 + 8)).take 8 from rfl, tkd 0 8 8]
  rw [show (List.drop 16 xs).take 8 = (xs.drop (0 + 16)).take 8 from rfl, tkd 0 16 8]
  rw [show (List.drop 24 xs).take 8 = (xs.drop (0 + 24)).take 8 from rfl, tkd 0 24 8]
  rw [show (List.drop 32 xs).take 8 = (xs.drop (0 + 32)).take 8 from rfl, tkd 0 32 8]
  rw [show (List.drop 40 xs).take 8 = (xs.drop (0 + 40)).take 8 from rfl, tkd 0 40 8]
  rw [show (List.drop 48 xs).take 8 = (xs.drop (0 + 48)).take 8 from rfl, tkd 0 48 8]
  rw [show (List.drop 56 xs).take 8 = (xs.drop (0 + 56)).take 8 from rfl, tkd 0 56 8]
  rw [show (List.drop 64 xs).take 8 = (xs.drop (0 + 64)).take 8 from rfl, tkd 0 64 8]
  rw [show (List.drop 72 xs).take 8 = (xs.drop (0 + 72)).take 8 from rfl, tkd 0 72 8]
  rw [show (List.drop 80 xs).take 8 = (xs.drop (0 + 80)).take 8 from rfl, tkd 0 80 8]
  rw [show (List.drop 88 xs).take 8 = (xs.drop (0 + 88)).take 8 from rfl, tkd 0 88 8]
  rw [show (List.drop 96 xs).take 8 = (xs.drop (0 + 96)).take 8 from rfl, tkd 0 96 8]
  rw [show (List.drop 104 xs).take 4 = (xs.drop (0 + 104)).take 4 from rfl, tkd 0 104 4]
  rw [show (List.drop 108 xs).take 4 = (xs.drop (0 + 108)).take 4 from rfl, tkd 0 108 4]
  rw [show (List.drop 112 xs).take 4 = (xs.drop (0 + 112)).take 4 from rfl, tkd 0 112 4]
  rw [show (List.drop 116 xs).take 2 = (xs.drop (0 + 116)).take 2 from rfl, tkd 0 116 2]
  rw [show (List.drop 118 xs).take 2 = (xs.drop (0 + 118)).take 2 from rfl, tkd 0 118 2]
  rw [show (List.drop 120 xs).take 8 = (xs.drop (0 + 120)).take 8 from rfl, tkd 0 120 8]
  exact take_len (by simpa using hl)
end Go.Proofs.Ytgpgdkpfeoaidaa
