/-
  Chapter 22, plain laws: the bytes of what was read are those that were read.
-/
import Derived.Test.YtdcakhahagbedaaSbH
namespace Go.Proofs.Ytdcakhahagbedaa
set_option linter.unusedSimpArgs false
set_option linter.unusedVariables false
set_option linter.unusedSectionVars false
open Go Go.RowKit

def b4 (n : Int) : List Value := [.int .u8 (n % 256), .int .u8 (n / 256 % 256), .int .u8 (n / 65536 % 256), .int .u8 (n / 16777216 % 256)]
def b4s (x : Int) : List Value := [.int .u8 (lowI .u8 x), .int .u8 (lowI .u8 (srI x 8)), .int .u8 (lowI .u8 (srI x 16)), .int .u8 (lowI .u8 (srI x 24))]
def bN (n : Nat) : List Value := [.int .u8 ((n % 256 : Nat) : Int), .int .u8 ((n / 256 % 256 : Nat) : Int), .int .u8 ((n / 65536 % 256 : Nat) : Int), .int .u8 ((n / 16777216 % 256 : Nat) : Int)]
theorem b4s_eq (x : Int) : b4s x = b4 x := by unfold b4s b4; simp only [l8, t8, t16, t24]
theorem bN_eq (n : Nat) : bN n = b4 (n : Int) := by unfold bN b4; simp only [Int.natCast_emod, Int.natCast_ediv]; rfl
/-- One session's bytes behind others. -/
def apE (W : List Value) (e : Se) : List Value := (((((W ++ (d8 e.y ++ d8 e.x)) ++ b4s e.q) ++ b4s e.o) ++ b4s e.s) ++ bN e.n) ++ e.R
theorem drg {xs : List Value} {o : Nat} {a : Value} (h : xs[o]? = some a) : xs.drop o = a :: xs.drop (o + 1) := by
  obtain ⟨h1, h2⟩ := List.getElem?_eq_some_iff.1 h
  rw [List.drop_eq_getElem_cons h1, h2]
theorem b4_n4 {xs : List Value} (h : Byts xs) {o : Nat} (ho : o + 4 ≤ xs.length) : b4 (n4 (xs.drop o)) = (xs.drop o).take 4 := by
  obtain ⟨g0, l0, u0⟩ := h.get (i := o) (by omega)
  obtain ⟨g1, l1, u1⟩ := h.get (i := o + 1) (by omega)
  obtain ⟨g2, l2, u2⟩ := h.get (i := o + 1 + 1) (by omega)
  obtain ⟨g3, l3, u3⟩ := h.get (i := o + 1 + 1 + 1) (by omega)
  have e : (xs.drop o).take 4 = [.int .u8 (intAt xs o), .int .u8 (intAt xs (o + 1)), .int .u8 (intAt xs (o + 1 + 1)), .int .u8 (intAt xs (o + 1 + 1 + 1))] := by
    rw [drg g0, drg g1, drg g2, drg g3]; rfl
  rw [e]
  unfold b4 n4
  simp only [intAt_drop, Nat.add_zero, show o + 2 = o + 1 + 1 from rfl, show o + 3 = o + 1 + 1 + 1 from rfl]
  generalize intAt xs o = a0 at *
  generalize intAt xs (o + 1) = a1 at *
  generalize intAt xs (o + 1 + 1) = a2 at *
  generalize intAt xs (o + 1 + 1 + 1) = a3 at *
  rw [show (a0 + 256 * a1 + 65536 * a2 + 16777216 * a3) % 256 = a0 by omega,
    show (a0 + 256 * a1 + 65536 * a2 + 16777216 * a3) / 256 % 256 = a1 by omega,
    show (a0 + 256 * a1 + 65536 * a2 + 16777216 * a3) / 65536 % 256 = a2 by omega,
    show (a0 + 256 * a1 + 65536 * a2 + 16777216 * a3) / 16777216 % 256 = a3 by omega]
theorem d8_r8 {xs : List Value} (h : Byts xs) {o : Nat} (ho : o + 8 ≤ xs.length) : d8 (r8 (xs.drop o)) = (xs.drop o).take 8 := by
  obtain ⟨g0, l0, u0⟩ := h.get (i := o) (by omega)
  obtain ⟨g1, l1, u1⟩ := h.get (i := o + 1) (by omega)
  obtain ⟨g2, l2, u2⟩ := h.get (i := o + 1 + 1) (by omega)
  obtain ⟨g3, l3, u3⟩ := h.get (i := o + 1 + 1 + 1) (by omega)
  obtain ⟨g4, l4, u4⟩ := h.get (i := o + 1 + 1 + 1 + 1) (by omega)
  obtain ⟨g5, l5, u5⟩ := h.get (i := o + 1 + 1 + 1 + 1 + 1) (by omega)
  obtain ⟨g6, l6, u6⟩ := h.get (i := o + 1 + 1 + 1 + 1 + 1 + 1) (by omega)
  obtain ⟨g7, l7, u7⟩ := h.get (i := o + 1 + 1 + 1 + 1 + 1 + 1 + 1) (by omega)
  have e : (xs.drop o).take 8 = [.int .u8 (intAt xs o), .int .u8 (intAt xs (o + 1)), .int .u8 (intAt xs (o + 1 + 1)), .int .u8 (intAt xs (o + 1 + 1 + 1)), .int .u8 (intAt xs (o + 1 + 1 + 1 + 1)), .int .u8 (intAt xs (o + 1 + 1 + 1 + 1 + 1)), .int .u8 (intAt xs (o + 1 + 1 + 1 + 1 + 1 + 1)), .int .u8 (intAt xs (o + 1 + 1 + 1 + 1 + 1 + 1 + 1))] := by
    rw [drg g0, drg g1, drg g2, drg g3, drg g4, drg g5, drg g6, drg g7]; rfl
  rw [e]
  unfold d8 r8
  simp only [intAt_drop, Nat.add_zero, show o + 2 = o + 1 + 1 from rfl, show o + 3 = o + 1 + 1 + 1 from rfl, show o + 4 = o + 1 + 1 + 1 + 1 from rfl, show o + 5 = o + 1 + 1 + 1 + 1 + 1 from rfl, show o + 6 = o + 1 + 1 + 1 + 1 + 1 + 1 from rfl, show o + 7 = o + 1 + 1 + 1 + 1 + 1 + 1 + 1 from rfl]
  generalize intAt xs o = a0 at *
  generalize intAt xs (o + 1) = a1 at *
  generalize intAt xs (o + 1 + 1) = a2 at *
  generalize intAt xs (o + 1 + 1 + 1) = a3 at *
  generalize intAt xs (o + 1 + 1 + 1 + 1) = a4 at *
  generalize intAt xs (o + 1 + 1 + 1 + 1 + 1) = a5 at *
  generalize intAt xs (o + 1 + 1 + 1 + 1 + 1 + 1) = a6 at *
  generalize intAt xs (o + 1 + 1 + 1 + 1 + 1 + 1 + 1) = a7 at *
  have k0 : (a0 + 256 * (a1 + 256 * (a2 + 256 * (a3 + 256 * (a4 + 256 * (a5 + 256 * (a6 + 256 * a7))))))) % 256 = a0 := by omega
  have k1 : (a0 + 256 * (a1 + 256 * (a2 + 256 * (a3 + 256 * (a4 + 256 * (a5 + 256 * (a6 + 256 * a7))))))) / 256 % 256 = a1 := by omega
  have k2 : (a0 + 256 * (a1 + 256 * (a2 + 256 * (a3 + 256 * (a4 + 256 * (a5 + 256 * (a6 + 256 * a7))))))) / 65536 % 256 = a2 := by omega
  have k3 : (a0 + 256 * (a1 + 256 * (a2 + 256 * (a3 + 256 * (a4 + 256 * (a5 + 256 * (a6 + 256 * a7))))))) / 16777216 % 256 = a3 := by omega
  have k4 : (a0 + 256 * (a1 + 256 * (a2 + 256 * (a3 + 256 * (a4 + 256 * (a5 + 256 * (a6 + 256 * a7))))))) / 4294967296 % 256 = a4 := by omega
  have k5 : (a0 + 256 * (a1 + 256 * (a2 + 256 * (a3 + 256 * (a4 + 256 * (a5 + 256 * (a6 + 256 * a7))))))) / 1099511627776 % 256 = a5 := by omega
  have k6 : (a0 + 256 * (a1 + 256 * (a2 + 256 * (a3 + 256 * (a4 + 256 * (a5 + 256 * (a6 + 256 * a7))))))) / 281474976710656 % 256 = a6 := by omega
  have k7 : (a0 + 256 * (a1 + 256 * (a2 + 256 * (a3 + 256 * (a4 + 256 * (a5 + 256 * (a6 + 256 * a7))))))) / 72057594037927936 % 256 = a7 := by omega
  rw [k0, k1, k2, k3, k4, k5, k6, k7]

/-! ### where a reader stands -/
/-- A reader that has read all but its rest. -/
def At (xs : List Value) (s : RS) : Prop := s.L ≤ xs.length ∧ (s.L = 0 ∨ s.O + s.L = xs.length)
theorem At.nx {xs : List Value} {s : RS} {n : Nat} (hi : RI xs s) (h : At xs s) (hb : rbad s n = false) : At xs (rnx s n) ∧ (rnx s n).L = s.L - n ∧ xs.take (xs.length - (rnx s n).L) = xs.take (xs.length - s.L) ++ (xs.drop s.O).take n := by
  obtain ⟨h1, h2⟩ := h
  obtain ⟨_, hn⟩ := rbad_f hb
  have hc := hi.c
  have e : rnx s n = ⟨if s.C = n then s.O else s.O + n, s.L - n, s.C - n, false⟩ := by
    unfold rnx; rw [if_neg (by rw [hb]; exact Bool.false_ne_true)]
  rw [e]
  refine ⟨⟨by simp only; omega, ?_⟩, rfl, ?_⟩
  · simp only
    by_cases hl : s.L - n = 0
    · exact .inl hl
    · right
      rw [if_neg (by omega)]
      omega
  · simp only
    by_cases h0 : n = 0
    · subst h0; simp
    · have ho : s.O = xs.length - s.L := by omega
      rw [ho, show xs.length - (s.L - n) = (xs.length - s.L) + n by omega, List.take_add]
theorem At.nb {xs : List Value} {s t : RS} {v : Int} (h : At xs s) (F : NbF xs s t v) (hb : t.B = false) : At xs t ∧ RI xs t ∧ xs.take (xs.length - t.L) = xs.take (xs.length - s.L) ++ b4 v := by
  have hi := F.i
  have hs : rbad s 4 = false := by
    cases hq : rbad s 4
    · rfl
    · rw [F.t, rnx_t hq] at hb; cases hb
  obtain ⟨h1, h2, h3⟩ := h.nx hi hs
  rw [F.t]
  refine ⟨h1, hi.nx 4, ?_⟩
  rw [h3, F.v]
  unfold rnv
  rw [if_neg (by rw [hs]; exact Bool.false_ne_true), b4_n4 hi.y (by have := hi.o; have := (rbad_f hs).2; omega)]
theorem nb_back {xs : List Value} {s t : RS} {v : Int} (F : NbF xs s t v) (hb : t.B = false) : s.B = false := by
  cases hq : s.B
  · rfl
  · rw [(nb_B F hq).1] at hb; cases hb
theorem rnx_back {s : RS} {n : Nat} (hb : (rnx s n).B = false) : rbad s n = false := by
  cases hq : rbad s n
  · rfl
  · rw [rnx_t hq] at hb; cases hb
theorem Rd.B {xs : List Value} : ∀ {r : Nat} {s : RS} {a b : Int} {es es' : List Se} {s' : RS}, Rd xs r s a b es (some (es', s')) → s'.B = false → s.B = false
  | 0, s, a, b, es, es', s', h, hb => by cases h; exact hb
  | r + 1, s, a, b, es, es', s', h, hb => by
      cases h with
      | next h1 h2 h3 => exact (rbad_f h1).1
/-- One round. -/
theorem round_back {xs : List Value} {s : RS} {N : RN} {a b : Int} (F : RnF xs s N) (h : At xs s) (h16 : rbad s 16 = false) (hb : (rnx N.g3 N.z.toNat).B = false) :
    At xs (rnx N.g3 N.z.toNat) ∧ RI xs (rnx N.g3 N.z.toNat) ∧ xs.take (xs.length - (rnx N.g3 N.z.toNat).L) = apE (xs.take (xs.length - s.L)) (seN N) := by
  have hz := rnx_back hb
  have b3 := (rbad_f hz).1
  have b2 := nb_back F.f3 b3
  have b1 := nb_back F.f2 b2
  have b0 := nb_back F.f1 b1
  obtain ⟨p1, p2, p3⟩ := h.nx F.i h16
  obtain ⟨q1, q2, q3⟩ := p1.nb F.f b0
  obtain ⟨u1, u2, u3⟩ := q1.nb F.f1 b1
  obtain ⟨v1, v2, v3⟩ := u1.nb F.f2 b2
  obtain ⟨w1, w2, w3⟩ := v1.nb F.f3 b3
  obtain ⟨x1, x2, x3⟩ := w1.nx w2 hz
  refine ⟨x1, w2.nx _, ?_⟩
  obtain ⟨ex, ey⟩ := F.gd h16
  obtain ⟨eR, eN⟩ := F.Rg hz
  have hl : ((xs.drop s.O).take 16).length = 16 := by have := F.i.o; have := (rbad_f h16).2; simp only [List.length_take, List.length_drop]; omega
  have hy := (F.i.y.drop s.O).take 16
  have e16 : d8 N.y ++ d8 N.x = (xs.drop s.O).take 16 := by
    rw [ex, ey]
    have k0 := d8_r8 hy (o := 0) (by omega)
    have k1 := d8_r8 hy (o := 8) (by omega)
    rw [List.drop_zero] at k0
    rw [k0, k1]
    have : ((xs.drop s.O).take 16).drop 8 = (((xs.drop s.O).take 16).drop 8).take 8 := (List.take_of_length_le (by rw [List.length_drop]; omega)).symm
    rw [← this, List.take_append_drop]
  have z0 := (nb_rg F.f3).1
  rw [x3, w3, v3, u3, q3, p3]
  unfold apE seN
  simp only
  rw [e16, b4s_eq, b4s_eq, b4s_eq, bN_eq, eN, eR, Int.toNat_of_nonneg z0]
theorem rd_back {xs : List Value} : ∀ {r : Nat} {s : RS} {a b : Int} {es es' : List Se} {s' : RS} {W : List Value}, Rd xs r s a b es (some (es', s')) → s'.B = false → RI xs s → At xs s → es.foldl apE W = xs.take (xs.length - s.L) →
    es'.foldl apE W = xs.take (xs.length - s'.L) ∧ es'.length = es.length + r
  | 0, s, a, b, es, es', s', W, h, hb, hi, ha, hw => by cases h; exact ⟨hw, rfl⟩
  | r + 1, s, a, b, es, es', s', W, h, hb, hi, ha, hw => by
      cases h with
      | next h1 h2 h3 =>
        obtain ⟨p1, p2, p3⟩ := round_back (a := a) (b := b) (rnN_F hi) ha h1 (Rd.B h3 hb)
        obtain ⟨q1, q2⟩ := rd_back (W := W) h3 hb p2 p1 (by rw [List.foldl_append, hw, p3]; rfl)
        exact ⟨q1, by rw [q2, List.length_append]; simp; omega⟩
end Go.Proofs.Ytdcakhahagbedaa
