/-
  Chapter 01: the statement U128Reads, at any number, any bytes and any text.
-/
import Derived.Test.YtpiapipmhlpmjaaU128Q
import Derived.Test.YtpiapipmhlpmjaaU128TJ
namespace Go.Proofs.Ytpiapipmhlpmjaa
set_option linter.unusedSimpArgs false
set_option linter.unusedVariables false
set_option linter.unusedSectionVars false
open Go Go.RowKit

theorem r8_d8 {y : Int} (h0 : 0 ≤ y) (h1 : y < 18446744073709551616) (t : List Value) : r8 (d8 y ++ t) = y := by
  show y % 256 + 256 * (y / 256 % 256 + 256 * (y / 65536 % 256 + 256 * (y / 16777216 % 256 + 256 * (y / 4294967296 % 256 + 256 * (y / 1099511627776 % 256 + 256 * (y / 281474976710656 % 256 + 256 * (y / 72057594037927936 % 256))))))) = y
  omega
theorem drg {xs : List Value} {o : Nat} {a : Value} (h : xs[o]? = some a) : xs.drop o = a :: xs.drop (o + 1) := by
  obtain ⟨h1, h2⟩ := List.getElem?_eq_some_iff.1 h
  rw [← h2]; exact List.drop_eq_getElem_cons h1
theorem Byts.eight {xs : List Value} (h : Byts xs) {o : Nat} (ho : o + 8 ≤ xs.length) : (xs.drop o).take 8 = [.int .u8 (intAt xs o), .int .u8 (intAt xs (o + 1)), .int .u8 (intAt xs (o + 2)), .int .u8 (intAt xs (o + 3)), .int .u8 (intAt xs (o + 4)), .int .u8 (intAt xs (o + 5)), .int .u8 (intAt xs (o + 6)), .int .u8 (intAt xs (o + 7))] := by
  rw [drg (h.get (i := o) (by omega)).1, drg (h.get (i := o + 1) (by omega)).1, drg (h.get (i := o + 1 + 1) (by omega)).1, drg (h.get (i := o + 1 + 1 + 1) (by omega)).1, drg (h.get (i := o + 1 + 1 + 1 + 1) (by omega)).1, drg (h.get (i := o + 1 + 1 + 1 + 1 + 1) (by omega)).1, drg (h.get (i := o + 1 + 1 + 1 + 1 + 1 + 1) (by omega)).1, drg (h.get (i := o + 1 + 1 + 1 + 1 + 1 + 1 + 1) (by omega)).1]
  rfl
theorem at_drp (xs : List Value) (o i : Nat) : intAt (xs.drop o) i = intAt xs (o + i) := by unfold intAt; rw [List.getElem?_drop]
theorem r8_at (xs : List Value) (o : Nat) : r8 (xs.drop o) = intAt xs o + 256 * (intAt xs (o + 1) + 256 * (intAt xs (o + 2) + 256 * (intAt xs (o + 3) + 256 * (intAt xs (o + 4) + 256 * (intAt xs (o + 5) + 256 * (intAt xs (o + 6) + 256 * (intAt xs (o + 7)))))))) := by
  unfold r8
  simp only [at_drp, Nat.add_zero]
set_option maxHeartbeats 1000000 in
theorem d8_r8 {xs : List Value} (h : Byts xs) {o : Nat} (ho : o + 8 ≤ xs.length) : d8 (r8 (xs.drop o)) = (xs.drop o).take 8 := by
  rw [h.eight ho, r8_at]
  obtain ⟨_, l0, u0⟩ := h.get (i := o) (by omega)
  obtain ⟨_, l1, u1⟩ := h.get (i := o + 1) (by omega)
  obtain ⟨_, l2, u2⟩ := h.get (i := o + 2) (by omega)
  obtain ⟨_, l3, u3⟩ := h.get (i := o + 3) (by omega)
  obtain ⟨_, l4, u4⟩ := h.get (i := o + 4) (by omega)
  obtain ⟨_, l5, u5⟩ := h.get (i := o + 5) (by omega)
  obtain ⟨_, l6, u6⟩ := h.get (i := o + 6) (by omega)
  obtain ⟨_, l7, u7⟩ := h.get (i := o + 7) (by omega)
  unfold d8
  have e0 : (intAt xs o + 256 * (intAt xs (o + 1) + 256 * (intAt xs (o + 2) + 256 * (intAt xs (o + 3) + 256 * (intAt xs (o + 4) + 256 * (intAt xs (o + 5) + 256 * (intAt xs (o + 6) + 256 * (intAt xs (o + 7))))))))) % 256 = intAt xs o := by omega
  have e1 : (intAt xs o + 256 * (intAt xs (o + 1) + 256 * (intAt xs (o + 2) + 256 * (intAt xs (o + 3) + 256 * (intAt xs (o + 4) + 256 * (intAt xs (o + 5) + 256 * (intAt xs (o + 6) + 256 * (intAt xs (o + 7))))))))) / 256 % 256 = intAt xs (o + 1) := by omega
  have e2 : (intAt xs o + 256 * (intAt xs (o + 1) + 256 * (intAt xs (o + 2) + 256 * (intAt xs (o + 3) + 256 * (intAt xs (o + 4) + 256 * (intAt xs (o + 5) + 256 * (intAt xs (o + 6) + 256 * (intAt xs (o + 7))))))))) / 65536 % 256 = intAt xs (o + 2) := by omega
  have e3 : (intAt xs o + 256 * (intAt xs (o + 1) + 256 * (intAt xs (o + 2) + 256 * (intAt xs (o + 3) + 256 * (intAt xs (o + 4) + 256 * (intAt xs (o + 5) + 256 * (intAt xs (o + 6) + 256 * (intAt xs (o + 7))))))))) / 16777216 % 256 = intAt xs (o + 3) := by omega
  have e4 : (intAt xs o + 256 * (intAt xs (o + 1) + 256 * (intAt xs (o + 2) + 256 * (intAt xs (o + 3) + 256 * (intAt xs (o + 4) + 256 * (intAt xs (o + 5) + 256 * (intAt xs (o + 6) + 256 * (intAt xs (o + 7))))))))) / 4294967296 % 256 = intAt xs (o + 4) := by omega
  have e5 : (intAt xs o + 256 * (intAt xs (o + 1) + 256 * (intAt xs (o + 2) + 256 * (intAt xs (o + 3) + 256 * (intAt xs (o + 4) + 256 * (intAt xs (o + 5) + 256 * (intAt xs (o + 6) + 256 * (intAt xs (o + 7))))))))) / 1099511627776 % 256 = intAt xs (o + 5) := by omega
  have e6 : (intAt xs o + 256 * (intAt xs (o + 1) + 256 * (intAt xs (o + 2) + 256 * (intAt xs (o + 3) + 256 * (intAt xs (o + 4) + 256 * (intAt xs (o + 5) + 256 * (intAt xs (o + 6) + 256 * (intAt xs (o + 7))))))))) / 281474976710656 % 256 = intAt xs (o + 6) := by omega
  have e7 : (intAt xs o + 256 * (intAt xs (o + 1) + 256 * (intAt xs (o + 2) + 256 * (intAt xs (o + 3) + 256 * (intAt xs (o + 4) + 256 * (intAt xs (o + 5) + 256 * (intAt xs (o + 6) + 256 * (intAt xs (o + 7))))))))) / 72057594037927936 % 256 = intAt xs (o + 7) := by omega
  rw [e0, e1, e2, e3, e4, e5, e6, e7]
/-- What is known of a number. -/
structure UrA (h l : Int) (X : Nat → Int) (K0 : List Value) : Prop where
  w1 : wf64 h
  w2 : wf64 l
  x : BysIs X h l
  e : ∀ k, X k = byX h l k
  f : Fl ([.int .u8 (X 0), .int .u8 (X 1), .int .u8 (X 2), .int .u8 (X 3), .int .u8 (X 4), .int .u8 (X 5), .int .u8 (X 6), .int .u8 (X 7), .int .u8 (X 8), .int .u8 (X 9), .int .u8 (X 10), .int .u8 (X 11), .int .u8 (X 12), .int .u8 (X 13), .int .u8 (X 14), .int .u8 (X 15)] : List Value)
  r : RdN ([.int .u8 (X 0), .int .u8 (X 1), .int .u8 (X 2), .int .u8 (X 3), .int .u8 (X 4), .int .u8 (X 5), .int .u8 (X 6), .int .u8 (X 7), .int .u8 (X 8), .int .u8 (X 9), .int .u8 (X 10), .int .u8 (X 11), .int .u8 (X 12), .int .u8 (X 13), .int .u8 (X 14), .int .u8 (X 15)] : List Value) 16 h l
  k : K0 = keyB h l
  n : 16 ≤ K0.length
  t : K0.take 16 = K0
  g : Fl K0
  q : RkN K0 16 h l
  c : pvC (strI (txtI h l)) = 0
  H : pvH (strI (txtI h l)) = h
  L : pvL (strI (txtI h l)) = l
theorem xl_eq {h l : Int} {X : Nat → Int} (e : ∀ k, X k = byX h l k) : ([.int .u8 (X 0), .int .u8 (X 1), .int .u8 (X 2), .int .u8 (X 3), .int .u8 (X 4), .int .u8 (X 5), .int .u8 (X 6), .int .u8 (X 7), .int .u8 (X 8), .int .u8 (X 9), .int .u8 (X 10), .int .u8 (X 11), .int .u8 (X 12), .int .u8 (X 13), .int .u8 (X 14), .int .u8 (X 15)] : List Value) = d8 l ++ d8 h := by
  simp only [e]
  exact (byX_list h l).symm
theorem d8_by (a : Int) : Byts (d8 a) := d8_Byts a
theorem r8_app {h l : Int} (w1 : wf64 h) (w2 : wf64 l) : h = r8 ((d8 l ++ d8 h).drop 8) ∧ l = r8 (d8 l ++ d8 h) :=
  ⟨(by have := r8_d8 w1.1 w1.2 []; rw [List.append_nil] at this; exact this.symm), (r8_d8 w2.1 w2.2 (d8 h)).symm⟩
theorem urA {h l : Int} (w1 : wf64 h) (w2 : wf64 l) : ∃ X K0, UrA h l X K0 := by
  have B := bysIs w1 w2
  have e : ∀ k, byX h l k = byX h l k := fun k => rfl
  have ex := xl_eq e
  have hb : Byts (d8 l ++ d8 h) := (d8_by l).app (d8_by h)
  obtain ⟨r1, r2⟩ := r8_app w1 w2
  obtain ⟨c1, c2, c3⟩ := text_back w1 w2
  have kb := keyB_Byts h l
  have kr : (keyB h l).reverse = d8 l ++ d8 h := List.reverse_reverse _
  refine ⟨byX h l, keyB h l, w1, w2, B, e, ?_, ?_, rfl, Nat.le_refl 16, rfl, fl_byts kb, ⟨kb, rfl, ?_, ?_⟩, c1, c2, c3⟩
  · rw [ex]; exact fl_byts hb
  · rw [ex]; exact ⟨hb, rfl, r1, r2⟩
  · rw [kr]; exact r1
  · rw [kr]; exact r2
/-- What is known of sixteen bytes. -/
structure UrB (xs : List Value) (P Q U V : Int) (Y : Nat → Int) (K1 : List Value) : Prop where
  x : BysIs Y P Q
  e : ∀ k, Y k = byX P Q k
  f : Fl ([.int .u8 (Y 0), .int .u8 (Y 1), .int .u8 (Y 2), .int .u8 (Y 3), .int .u8 (Y 4), .int .u8 (Y 5), .int .u8 (Y 6), .int .u8 (Y 7), .int .u8 (Y 8), .int .u8 (Y 9), .int .u8 (Y 10), .int .u8 (Y 11), .int .u8 (Y 12), .int .u8 (Y 13), .int .u8 (Y 14), .int .u8 (Y 15)] : List Value)
  r : RdN xs 16 P Q
  q : RkN xs 16 U V
  s : SamT ([.int .u8 (Y 0), .int .u8 (Y 1), .int .u8 (Y 2), .int .u8 (Y 3), .int .u8 (Y 4), .int .u8 (Y 5), .int .u8 (Y 6), .int .u8 (Y 7), .int .u8 (Y 8), .int .u8 (Y 9), .int .u8 (Y 10), .int .u8 (Y 11), .int .u8 (Y 12), .int .u8 (Y 13), .int .u8 (Y 14), .int .u8 (Y 15)] : List Value) xs
  k : K1 = keyB U V
  n : 16 ≤ K1.length
  t : K1.take 16 = K1
  g : Fl K1
  z : SamT K1 xs
theorem r8_wf {xs : List Value} (h : Byts xs) (o : Nat) (ho : o + 8 ≤ xs.length) : wf64 (r8 (xs.drop o)) := by
  rw [r8_at]
  obtain ⟨_, l0, u0⟩ := h.get (i := o) (by omega)
  obtain ⟨_, l1, u1⟩ := h.get (i := o + 1) (by omega)
  obtain ⟨_, l2, u2⟩ := h.get (i := o + 2) (by omega)
  obtain ⟨_, l3, u3⟩ := h.get (i := o + 3) (by omega)
  obtain ⟨_, l4, u4⟩ := h.get (i := o + 4) (by omega)
  obtain ⟨_, l5, u5⟩ := h.get (i := o + 5) (by omega)
  obtain ⟨_, l6, u6⟩ := h.get (i := o + 6) (by omega)
  obtain ⟨_, l7, u7⟩ := h.get (i := o + 7) (by omega)
  unfold wf64
  omega
theorem d16 {xs : List Value} (h : Byts xs) (hl : xs.length = 16) : d8 (r8 xs) ++ d8 (r8 (xs.drop 8)) = xs := by
  have e0 := d8_r8 h (o := 0) (by omega)
  have e1 := d8_r8 h (o := 8) (by omega)
  rw [List.drop_zero] at e0
  rw [e0, e1, List.take_of_length_le (l := xs.drop 8) (by rw [List.length_drop]; omega), List.take_append_drop]
theorem urB {xs : List Value} (h : Byts xs) (hl : xs.length = 16) : ∃ P Q U V Y K1, UrB xs P Q U V Y K1 := by
  have w1 := r8_wf h 8 (by omega)
  have w2 := r8_wf h 0 (by omega)
  rw [List.drop_zero] at w2
  have hr := h.rev
  have hrl : xs.reverse.length = 16 := by rw [List.length_reverse]; exact hl
  have B := bysIs w1 w2
  have e : ∀ k, byX (r8 (xs.drop 8)) (r8 xs) k = byX (r8 (xs.drop 8)) (r8 xs) k := fun k => rfl
  have ex := xl_eq e
  have ed := d16 h hl
  have er := d16 hr hrl
  have kb := keyB_Byts (r8 (xs.reverse.drop 8)) (r8 xs.reverse)
  have kr : keyB (r8 (xs.reverse.drop 8)) (r8 xs.reverse) = xs := by
    unfold keyB
    rw [er, List.reverse_reverse]
  refine ⟨_, _, _, _, byX (r8 (xs.drop 8)) (r8 xs), _, B, e, ?_, ⟨h, rfl, rfl, rfl⟩, ⟨h, rfl, rfl, rfl⟩, ?_, rfl, Nat.le_refl 16, rfl, fl_byts kb, ⟨kb, h, kr⟩⟩
  · rw [ex, ed]; exact fl_byts h
  · rw [ex, ed]; exact ⟨h, h, rfl⟩
theorem ur_bytes {X Y : Nat → Int} {h l P Q U V : Int} {K0 K1 : List Value} : XOkZ (urV X Y h l P Q U V K0 K1) Try.prog ∧ TOkZ (urV X Y h l P Q U V K0 K1) Try.prog ∧ LOkZ (urV X Y h l P Q U V K0 K1) Try.prog := ⟨noXz_ok rfl, T_okV rfl (urT_one X Y h l P Q U V K0 K1), noL_okV rfl⟩
structure UrX (xs : List Value) (n c : Nat) : Prop where
  y : Byts xs
  l : xs.length = n
  c : n ≤ c ∧ c ≤ 9223372036854775807
def UrR (h l : Int) (v : Value) (hp : Hp) (s : ByteArray) : Prop := RunsTrue Try.prog 10 [.agg ⟨[.int .u64 h, .int .u64 l]⟩, v, .string s] hp 3
theorem byts0 : ∀ k, (fun k => byX 0 0 k) k = byX 0 0 k := fun k => rfl
set_option maxHeartbeats 1000000 in
theorem ur_nil {h l : Int} (s : ByteArray) (w1 : wf64 h) (w2 : wf64 l) : UrR h l (.slice none 0 0) [] s := by
  obtain ⟨X, K0, A⟩ := urA w1 w2
  have B0 := bysIs (h := 0) (l := 0) w00 w00
  have hB : ∀ k, byX 0 0 k = byX 0 0 k := fun k => rfl
  have aT := A.t
  have bT : (List.take 0 ([] : List Value)) = [] := rfl
  have xT : (List.take 0 ([] : List Value)) = [] := rfl
  obtain ⟨a1, a2, a3, a4, a5, a6, a7, a8, a9, a10, a11, a12, a13, a14⟩ := id A
  obtain ⟨hX, hT, hL⟩ := ur_bytes (X := X) (Y := byX 0 0) (h := h) (l := l) (P := 0) (Q := 0) (U := 0) (V := 0) (K0 := K0) (K1 := [])
  have B : UrA h l X K0 := A
  by_cases h1 : (s.data.toList.length : Int) > 1000
  ·
    refine run_val hX hT hL (ur_sn X (byX 0 0) h l 0 0 0 0 K0 [] s) ?_ rfl
    repeat' (first | exact alls_nil | refine alls_cons ?_ ?_)
    all_goals (try simp only [aT, bT, xT, avLen])
    all_goals first | with_reducible assumption | with_reducible rfl | omega | (simp only [decide_eq_false_iff_not, decide_eq_true_eq]; omega) | exact A.k | exact B.k | (intro k; trivial) | (simp only [A.c, A.H, A.L, beq_self_eq_true, Bool.and_self, Bool.not_true, bne_self_eq_false]; done) | (simp only [bne_iff_ne, ne_eq, bne_eq_false_iff_eq]; assumption) | rfl
  by_cases hc : pvC s = 0
  · obtain ⟨t1, t2, t3⟩ := back_text hc
    have t4 := strEq_refl s
    rw [← t1] at t4
    have t5 : strEq (strI (txtI (pvH s) (pvL s))) s = true := by rw [t1]; exact strEq_refl s
    refine run_val hX hT hL (ur_nk X (byX 0 0) h l 0 0 0 0 K0 [] s) ?_ rfl
    repeat' (first | exact alls_nil | refine alls_cons ?_ ?_)
    all_goals (try simp only [aT, bT, xT, avLen])
    all_goals first | with_reducible assumption | with_reducible rfl | omega | (simp only [decide_eq_false_iff_not, decide_eq_true_eq]; omega) | exact A.k | exact B.k | (intro k; trivial) | (simp only [A.c, A.H, A.L, beq_self_eq_true, Bool.and_self, Bool.not_true, bne_self_eq_false]; done) | (simp only [bne_iff_ne, ne_eq, bne_eq_false_iff_eq]; assumption) | rfl
  ·
    refine run_val hX hT hL (ur_nb X (byX 0 0) h l 0 0 0 0 K0 [] s) ?_ rfl
    repeat' (first | exact alls_nil | refine alls_cons ?_ ?_)
    all_goals (try simp only [aT, bT, xT, avLen])
    all_goals first | with_reducible assumption | with_reducible rfl | omega | (simp only [decide_eq_false_iff_not, decide_eq_true_eq]; omega) | exact A.k | exact B.k | (intro k; trivial) | (simp only [A.c, A.H, A.L, beq_self_eq_true, Bool.and_self, Bool.not_true, bne_self_eq_false]; done) | (simp only [bne_iff_ne, ne_eq, bne_eq_false_iff_eq]; assumption) | rfl
set_option maxHeartbeats 1000000 in
theorem ur_some {h l : Int} {xs : List Value} {n c : Nat} (s : ByteArray) (w1 : wf64 h) (w2 : wf64 l) (Z : UrX xs n c) : UrR h l (.slice (some ⟨1, 0, none⟩) n c) [(1, ⟨.old, xs⟩)] s := by
  obtain ⟨X, K0, A⟩ := urA w1 w2
  have B0 := bysIs (h := 0) (l := 0) w00 w00
  have hB : ∀ k, byX 0 0 k = byX 0 0 k := fun k => rfl
  have aT := A.t
  have zc := Z.c
  have zl := Z.l
  have zn : n ≤ xs.length := by omega
  have zf := fl_byts Z.y
  obtain ⟨a1, a2, a3, a4, a5, a6, a7, a8, a9, a10, a11, a12, a13, a14⟩ := id A
  by_cases h0 : (n : Int) > 1000
  · have bT : (List.take 0 ([] : List Value)) = [] := rfl
    have xT : xs.take n = xs := List.take_of_length_le (by omega)
    have B : UrA h l X K0 := A
    obtain ⟨hX, hT, hL⟩ := ur_bytes (X := X) (Y := byX 0 0) (h := h) (l := l) (P := 0) (Q := 0) (U := 0) (V := 0) (K0 := K0) (K1 := [])
    refine run_val hX hT hL (ur_bl X (byX 0 0) h l 0 0 0 0 K0 [] xs s n c) ?_ rfl
    repeat' (first | exact alls_nil | refine alls_cons ?_ ?_)
    all_goals (try simp only [aT, bT, xT, avLen])
    all_goals first | with_reducible assumption | with_reducible rfl | omega | (simp only [decide_eq_false_iff_not, decide_eq_true_eq]; omega) | exact A.k | exact B.k | (intro k; trivial) | (simp only [A.c, A.H, A.L, beq_self_eq_true, Bool.and_self, Bool.not_true, bne_self_eq_false]; done) | (simp only [bne_iff_ne, ne_eq, bne_eq_false_iff_eq]; assumption) | rfl
  by_cases h1 : (s.data.toList.length : Int) > 1000
  · have bT : (List.take 0 ([] : List Value)) = [] := rfl
    have xT : xs.take n = xs := List.take_of_length_le (by omega)
    have B : UrA h l X K0 := A
    obtain ⟨hX, hT, hL⟩ := ur_bytes (X := X) (Y := byX 0 0) (h := h) (l := l) (P := 0) (Q := 0) (U := 0) (V := 0) (K0 := K0) (K1 := [])
    refine run_val hX hT hL (ur_so X (byX 0 0) h l 0 0 0 0 K0 [] xs s n c) ?_ rfl
    repeat' (first | exact alls_nil | refine alls_cons ?_ ?_)
    all_goals (try simp only [aT, bT, xT, avLen])
    all_goals first | with_reducible assumption | with_reducible rfl | omega | (simp only [decide_eq_false_iff_not, decide_eq_true_eq]; omega) | exact A.k | exact B.k | (intro k; trivial) | (simp only [A.c, A.H, A.L, beq_self_eq_true, Bool.and_self, Bool.not_true, bne_self_eq_false]; done) | (simp only [bne_iff_ne, ne_eq, bne_eq_false_iff_eq]; assumption) | rfl
  by_cases h16 : n = 16
  · subst h16
    obtain ⟨P, Q, U, V, Y, K1, B⟩ := urB Z.y zl
    have bT := B.t
    have xT : xs.take 16 = xs := List.take_of_length_le (by omega)
    obtain ⟨b1, b2, b3, b4, b5, b6, b7, b8, b9, b10, b11⟩ := id B
    obtain ⟨hX, hT, hL⟩ := ur_bytes (X := X) (Y := Y) (h := h) (l := l) (P := P) (Q := Q) (U := U) (V := V) (K0 := K0) (K1 := K1)
    by_cases hc : pvC s = 0
    · obtain ⟨t1, t2, t3⟩ := back_text hc
      have t5 : strEq (strI (txtI (pvH s) (pvL s))) s = true := by rw [t1]; exact strEq_refl s
      refine run_val hX hT hL (ur_kk X Y h l P Q U V K0 K1 xs s c) ?_ rfl
      repeat' (first | exact alls_nil | refine alls_cons ?_ ?_)
      all_goals (try simp only [aT, bT, xT, avLen])
      all_goals first | with_reducible assumption | with_reducible rfl | omega | (simp only [decide_eq_false_iff_not, decide_eq_true_eq]; omega) | exact A.k | exact B.k | (intro k; trivial) | (simp only [A.c, A.H, A.L, beq_self_eq_true, Bool.and_self, Bool.not_true, bne_self_eq_false]; done) | (simp only [bne_iff_ne, ne_eq, bne_eq_false_iff_eq]; assumption) | rfl
    ·
      refine run_val hX hT hL (ur_kb X Y h l P Q U V K0 K1 xs s c) ?_ rfl
      repeat' (first | exact alls_nil | refine alls_cons ?_ ?_)
      all_goals (try simp only [aT, bT, xT, avLen])
      all_goals first | with_reducible assumption | with_reducible rfl | omega | (simp only [decide_eq_false_iff_not, decide_eq_true_eq]; omega) | exact A.k | exact B.k | (intro k; trivial) | (simp only [A.c, A.H, A.L, beq_self_eq_true, Bool.and_self, Bool.not_true, bne_self_eq_false]; done) | (simp only [bne_iff_ne, ne_eq, bne_eq_false_iff_eq]; assumption) | rfl
  · have bT : (List.take 0 ([] : List Value)) = [] := rfl
    have xT : xs.take n = xs := List.take_of_length_le (by omega)
    have B : UrA h l X K0 := A
    obtain ⟨hX, hT, hL⟩ := ur_bytes (X := X) (Y := byX 0 0) (h := h) (l := l) (P := 0) (Q := 0) (U := 0) (V := 0) (K0 := K0) (K1 := [])
    by_cases hc : pvC s = 0
    · obtain ⟨t1, t2, t3⟩ := back_text hc
      have t5 : strEq (strI (txtI (pvH s) (pvL s))) s = true := by rw [t1]; exact strEq_refl s
      refine run_val hX hT hL (ur_zk X (byX 0 0) h l 0 0 0 0 K0 [] xs s n c) ?_ rfl
      repeat' (first | exact alls_nil | refine alls_cons ?_ ?_)
      all_goals (try simp only [aT, bT, xT, avLen])
      all_goals first | with_reducible assumption | with_reducible rfl | omega | (simp only [decide_eq_false_iff_not, decide_eq_true_eq]; omega) | exact A.k | exact B.k | (intro k; trivial) | (simp only [A.c, A.H, A.L, beq_self_eq_true, Bool.and_self, Bool.not_true, bne_self_eq_false]; done) | (simp only [bne_iff_ne, ne_eq, bne_eq_false_iff_eq]; assumption) | rfl
    ·
      refine run_val hX hT hL (ur_zb X (byX 0 0) h l 0 0 0 0 K0 [] xs s n c) ?_ rfl
      repeat' (first | exact alls_nil | refine alls_cons ?_ ?_)
      all_goals (try simp only [aT, bT, xT, avLen])
      all_goals first | with_reducible assumption | with_reducible rfl | omega | (simp only [decide_eq_false_iff_not, decide_eq_true_eq]; omega) | exact A.k | exact B.k | (intro k; trivial) | (simp only [A.c, A.H, A.L, beq_self_eq_true, Bool.and_self, Bool.not_true, bne_self_eq_false]; done) | (simp only [bne_iff_ne, ne_eq, bne_eq_false_iff_eq]; assumption) | rfl
theorem reads_any {W : World} {h l : Int} {v1 : Value} {a1 : Av} {q1 : Option (Addr × Nat)} {z1 : List (List Int)} (s : ByteArray) (w1 : wf64 h) (w2 : wf64 l) (h1 : (a1 = .fl (.slice none 0 0) ∧ z1 = []) ∨ a1 = .sl (z1.map (cellsK [.u8])).flatten z1.length) (A1 : AvAt a1 v1 q1) (L1 : Lies W a1 q1) (x1 : ∀ zs ∈ z1, AllWf [.u8] zs) :
    Calls Try.prog 10 #[.agg #[.int .u64 h, .int .u64 l], v1, .string s] W fun e w' => e = .returned (.bool true) ∧ Ext W w' := by
  have b1 := flat_Byts x1
  have l1 : ((z1.map (cellsK [.u8])).flatten).length = z1.length := by rw [flat_len x1]; simp
  refine calls_sl (avs := [.fl (.agg ⟨[.int .u64 h, .int .u64 l]⟩), a1, .fl (.string s)]) (vs := [.agg ⟨[.int .u64 h, .int .u64 l]⟩, v1, .string s]) (ps := [none, q1, none]) ⟨⟨rfl, fun σ => rfl, rfl⟩, A1, ⟨rfl, fun σ => rfl, rfl⟩, trivial⟩ ⟨(fun ad c e => by cases e), L1, (fun ad c e => by cases e), trivial⟩ (fun σ => rfl) fun cs hcs => ?_
  obtain ⟨c, d, e, rfl⟩ := caps3 hcs
  rcases h1 with ⟨rfl, rfl⟩ | rfl
  · exact ur_nil s w1 w2
  · exact ur_some s w1 w2 ⟨b1, l1, hcs.1⟩
end Go.Proofs.Ytpiapipmhlpmjaa
