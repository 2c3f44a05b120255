/-
  Chapter 30: slices.Delete of one packet, told: the canonical run.
-/
import Derived.Test.YtcahhoemlmbnaaaRoomT
import Derived.Test.YtcahhoemlmbnaaaKitX
import Derived.Test.YtcahhoemlmbnaaaKitW
namespace Go.Proofs.Ytcahhoemlmbnaaa
set_option linter.unusedSimpArgs false
set_option linter.unusedVariables false
set_option linter.unusedSectionVars false
open Go Go.RowKit
def delV : Tv := ⟨noTz, noXz, noL, tbl 33 [16], allSy 33 [(26, 1)], fun _ => [], fun _ => 0⟩
theorem del_run (X : List Value) (n c : Nat) (i j : Int) : runZ delV Try.prog 5 33 [.slice (some ⟨0, 0, none⟩) n c, .int .i64 i, .int .i64 j] [(0, ⟨.shut, X⟩)] 1 [false] =
  Res.ok ((Value.slice (some (Addr.mk 0 0 none)) (Int.toNat i + sbN n (Int.toNat j)) c, [(0, Rw.mk Kd.shut (splice (splice X (Int.toNat i * 19) (tkD (loO (some (Value.int IntKind.i64 j)) 0 (Int.toNat j) c 19) (sbN n
 (Int.toNat j) * 19) X)) (loO (some (Value.int IntKind.i64 (↑(Int.toNat i + sbN n (Int.toNat j)) : Int))) 0 (Int.toNat i + sbN n (Int.toNat j)) c 19) (zrep [Value.int IntKind.i64 (0 : Int), Value.int IntKind.i64 (0 : Int),
 Value.int IntKind.i64 (0 : Int), Value.int IntKind.i64 (0 : Int), Value.int IntKind.i64 (0 : Int), Value.int IntKind.i64 (0 : Int), Value.int IntKind.i64 (0 : Int), Value.int IntKind.i64 (0 : Int), Value.int IntKind.i64
 (0 : Int), Value.int IntKind.i64 (0 : Int), Value.int IntKind.i64 (0 : Int), Value.int IntKind.u64 (0 : Int), Value.int IntKind.u64 (0 : Int), Value.int IntKind.i64 (0 : Int), Value.int IntKind.i64 (0 : Int), Value.int
 IntKind.u64 (0 : Int), Value.int IntKind.i64 (0 : Int), Value.int IntKind.i64 (0 : Int), Value.slice none 0 0] (sbN n (Int.toNat i + sbN n (Int.toNat j)) * 19))))], 1, [0, 0]), [], ((fun (q0 q1 q2 : Prop) => [q0, q1, q2,
 (0 : Int) ≤ i ∧ i ≤ (↑(Int.toNat j) : Int), (i == j) = false, q0, (0 : Int) ≤ i ∧ i ≤ (↑c : Int), q0, q2, q0, Int.toNat i + sbN n (Int.toNat j) ≤ c, true = true, Int.toNat i * 19 + List.length (tkD (loO (some (Value.int
 IntKind.i64 j)) 0 (Int.toNat j) c 19) (sbN n (Int.toNat j) * 19) X) ≤ List.length X, adN (loO (some (Value.int IntKind.i64 j)) 0 (Int.toNat j) c 19) (sbN n (Int.toNat j) * 19) ≤ List.length X, all1 (tkD (loO (some
 (Value.int IntKind.i64 j)) 0 (Int.toNat j) c 19) (sbN n (Int.toNat j) * 19) X) = true, q0, q1, (0 : Int) ≤ (↑(Int.toNat i + sbN n (Int.toNat j)) : Int) ∧ (↑(Int.toNat i + sbN n (Int.toNat j)) : Int) ≤ (↑n : Int), sbN n
 (Int.toNat i + sbN n (Int.toNat j)) ≠ 0, adN (loO (some (Value.int IntKind.i64 (↑(Int.toNat i + sbN n (Int.toNat j)) : Int))) 0 (Int.toNat i + sbN n (Int.toNat j)) c 19) (sbN n (Int.toNat i + sbN n (Int.toNat j)) * 19) ≤
 List.length (splice X (Int.toNat i * 19) (tkD (loO (some (Value.int IntKind.i64 j)) 0 (Int.toNat j) c 19) (sbN n (Int.toNat j) * 19) X))]) (c < 18446744073709551616) ((0 : Int) ≤ (↑n : Int) ∧ (↑n : Int) ≤ (↑c : Int)) ((0
 : Int) ≤ j ∧ j ≤ (↑n : Int)))) := by kernel_rfl
/-- A packet that nobody sent. -/
def zPk : List Value := [.int .i64 0, .int .i64 0, .int .i64 0, .int .i64 0, .int .i64 0, .int .i64 0, .int .i64 0, .int .i64 0, .int .i64 0, .int .i64 0, .int .i64 0, .int .u64 0, .int .u64 0, .int .i64 0, .int .i64 0, .int .u64 0, .int .i64 0, .int .i64 0, .slice none 0 0]
theorem zPk_no : ∀ x ∈ zPk, noAd x = true := by
  intro x hx
  have h : zPk.all noAd = true := by rfl
  exact List.all_eq_true.1 h x hx
theorem all1_app {a b : List Value} : all1 (a ++ b) = true ↔ all1 a = true ∧ all1 b = true := by
  induction a with
  | nil => simp [all1]
  | cons x a ih =>
    simp only [List.cons_append, all1]
    cases one1 x with
    | true => simpa using ih
    | false => simp
theorem all1_drop {a : List Value} (h : all1 a = true) (k : Nat) : all1 (a.drop k) = true := by
  rw [← List.take_append_drop k a, all1_app] at h
  exact h.2
theorem fl_app {a b : List Value} (ha : Fl a) (hb : Fl b) : Fl (a ++ b) := fun σ => renL_app (ha σ) (hb σ)
theorem fl_take {a : List Value} (h : Fl a) (k : Nat) : Fl (a.take k) := fun σ => renL_take k (h σ)
theorem fl_drop {a : List Value} (h : Fl a) (k : Nat) : Fl (a.drop k) := fun σ => renL_drop k (h σ)
/-- Without one element. -/
def delP (cs : List Value) (i : Int) : List Value := cs.take (i.toNat * 19) ++ cs.drop ((i.toNat + 1) * 19)
theorem delP_fl {cs : List Value} (h : Fl cs) (i : Int) : Fl (delP cs i) := fl_app (fl_take h _) (fl_drop h _)
theorem del_row {cs rest : List Value} {k m c n : Nat} {j : Int} (hn : n = k + 1 + m) (hcs : cs.length = n * 19) (hc : n ≤ c) (hj : j.toNat = k + 1) :
    tkD (loO (some (Value.int IntKind.i64 j)) 0 j.toNat c 19) (sbN n j.toNat * 19) (cs ++ rest) = cs.drop ((k + 1) * 19) := by
  rw [sbN_eq, tkD_eq, hj]
  have hm : n - (k + 1) = m := by omega
  rw [hm]
  have hd : (cs.drop ((k + 1) * 19)).length = m * 19 := by rw [List.length_drop, hcs, hn]; omega
  have key : ((cs ++ rest).drop ((k + 1) * 19)).take (m * 19) = cs.drop ((k + 1) * 19) := by
    rw [List.drop_append_of_le_length (by omega), List.take_append_of_le_length (by omega), List.take_of_length_le (by omega)]
  show List.take (m * 19) (List.drop (slO 0 (k + 1) c 19) (cs ++ rest)) = _
  unfold slO
  cases hb : Nat.beq c (k + 1) with
  | true =>
    have := Nat.eq_of_beq_eq_true hb
    have hm0 : m = 0 := by omega
    subst hm0
    have h0 : cs.drop ((k + 1) * 19) = [] := List.eq_nil_of_length_eq_zero (by rw [hd, Nat.zero_mul])
    rw [h0]
    simp
  | false =>
    simp only [cond_false, Nat.zero_add]
    exact key
theorem del_splice {cs rest Z : List Value} {k m n : Nat} (hn : n = k + 1 + m) (hcs : cs.length = n * 19) (hZ : Z.length = 19) :
    splice (splice (cs ++ rest) (k * 19) (cs.drop ((k + 1) * 19))) ((k + m) * 19) Z = (cs.take (k * 19) ++ cs.drop ((k + 1) * 19)) ++ (Z ++ rest) := by
  have hA : (cs.take (k * 19)).length = k * 19 := by rw [List.length_take, hcs]; omega
  have hD : (cs.drop ((k + 1) * 19)).length = m * 19 := by rw [List.length_drop, hcs, hn]; omega
  have hB : (cs.drop (k * 19)).length = (1 + m) * 19 := by rw [List.length_drop, hcs, hn]; omega
  have e1 : cs ++ rest = cs.take (k * 19) ++ (cs.drop (k * 19) ++ rest) := by rw [← List.append_assoc, List.take_append_drop]
  rw [e1, splice_at hA (by rw [List.length_append, hB, hD]; omega), splice_at (by rw [List.length_append, hA, hD]; omega) (by rw [List.length_drop, List.length_append, hB, hD, hZ]; omega)]
  have e5 : List.drop (m * 19 + 19) (cs.drop (k * 19)) = [] := List.drop_of_length_le (by omega)
  rw [List.drop_drop, hD, hZ, List.drop_append, e5, List.nil_append]
  rw [show m * 19 + 19 - (cs.drop (k * 19)).length = 0 by rw [hB]; omega, List.drop_zero, List.append_assoc]
theorem del_tri {h : Hp} {nx m n : Nat} {cs : List Value} {i j : Int} (hl : lk h m = some ⟨.room 19 zPk, cs⟩) (h0 : 0 ≤ i) (hi : i < (n : Int)) (hj : j = i + 1) (hcs : cs.length = n * 19) (hF : Fl cs) (h1 : all1 cs = true) :
    Tri Try.prog 33 [.slice (some ⟨m, 0, none⟩) n (capBig + m), .int .i64 i, .int .i64 j] h nx (.slice (some ⟨nx, 0, none⟩) (n - 1) (capBig + nx), (nx, ⟨.room 19 zPk, delP cs i⟩) :: delH h m, nx + 1, [m]) := by
  refine room_tri hl (by omega) hcs zPk_no hF (delP_fl hF i) (fun σ => rfl) fun c rest hcm hnc hlen hrz => ?_
  obtain ⟨k, hk⟩ : ∃ k, i.toNat = k := ⟨_, rfl⟩
  have hjn : j.toNat = k + 1 := by omega
  obtain ⟨q, hq⟩ : ∃ q, n = k + 1 + q := ⟨n - (k + 1), by omega⟩
  have hlow := Nat.lt_of_le_of_lt hcm maxLen_low
  have hM := del_row (rest := rest) hq hcs hnc hjn
  have hn1 : i.toNat + sbN n j.toNat = n - 1 := by rw [sbN_eq]; omega
  have hX : XOkZ delV Try.prog := noXz_ok rfl
  have hT : TOkZ delV Try.prog := noTz_okV rfl
  have hL : LOkZ delV Try.prog := noL_okV rfl
  have hl2 : loO (some (Value.int IntKind.i64 (((n - 1 : Nat)) : Int))) 0 (n - 1) c 19 = (n - 1) * 19 := by
    show slO 0 (n - 1) c 19 = _
    unfold slO
    rw [nbeq_ne (by omega)]
    simp
  have T := del_run (cs ++ rest) n c i j
  rw [hM, hn1, hl2] at T
  have hz1 : sbN n (n - 1) * 19 = 1 * 19 := by rw [sbN_eq]; omega
  rw [hz1] at T
  have hcl : (cs ++ rest).length = n * 19 + rest.length := by rw [List.length_append, hcs]
  have hdl : (cs.drop ((k + 1) * 19)).length = q * 19 := by rw [List.length_drop, hcs, hq]; omega
  have T2 := run_tri hX hT hL T ?_ rfl
  · refine ⟨_, _, zPk ++ rest, T2, ?_, ?_, fun x hx => ?_⟩
    · have hs := del_splice (rest := rest) (Z := zPk) hq hcs rfl
      rw [show k + q = n - 1 by omega] at hs
      unfold delP
      rw [hk, ← hs]
      rfl
    · unfold delP
      rw [hk, List.length_append, List.length_append, hdl, List.length_take, List.length_append]
      have : zPk.length = 19 := rfl
      omega
    · rcases List.mem_append.1 hx with h | h
      · exact h
      · exact hrz x h
  · have hlo : loO (some (Value.int IntKind.i64 j)) 0 j.toNat c 19 ≤ (k + 1) * 19 := by
      show slO 0 j.toNat c 19 ≤ _
      unfold slO
      rw [hjn]
      cases Nat.beq c (k + 1) <;> simp
    have hij : (i == j) = false := by rw [beq_eq_false_iff_ne]; omega
    simp only [capBig] at hlow
    simp only [Alls, adN_eq, splice_length, hcl, hdl, sbN_eq, hjn, all1_drop h1, hij, List.length_append] at hlo ⊢
    repeat' apply And.intro
    all_goals first | omega | (with_reducible exact trivial) | (with_reducible rfl) | skip
end Go.Proofs.Ytcahhoemlmbnaaa
