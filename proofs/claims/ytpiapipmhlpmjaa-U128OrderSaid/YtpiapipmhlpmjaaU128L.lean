/-
  The statements on sums, differences and order of numbers of 128 bits, run at any numbers.
-/
import Derived.Test.YtpiapipmhlpmjaaU128D
import Derived.Test.YtpiapipmhlpmjaaU128KW
namespace Go.Proofs.Ytpiapipmhlpmjaa
set_option linter.unusedSimpArgs false
set_option linter.unusedVariables false
open Go Go.RowKit

def gTrue : List Value → Option (Value × Bool)
  | [] => some (.bool true, true)
  | _ => none
theorem tTrue_ok {f : FuncId} (H : ∀ w, Calls Try.prog f #[] w fun e w' => e = .returned (.bool true) ∧ Ext w w') : TOne Try.prog (oneT f gTrue) := oneT_ok fun args v h => by
  unfold gTrue at h
  split at h
  · cases h
    exact ⟨fun σ args' hr => by simp [renL] at hr; exact hr, fun σ => rfl, H⟩
  · cases h
def tS : FuncId → List Value → Hp → Nat → Option (Out × Bool) := orT (oneT 14 gAdd) (orT (oneT 15 gAdd) (orT (oneT 16 gSub) (orT (oneT 17 gSub) (orT (oneT 18 gCmp) (orT (oneT 19 gCmp) (orT (oneT 20 gOf1) (orT (oneT 21 gOf1) (orT (oneT 13 gTrue) (oneT 7 gTrue)))))))))
theorem tS_ok : TOne Try.prog tS := orT_ok tAdd_ok (orT_ok tRAdd_ok (orT_ok tSub_ok (orT_ok tRSub_ok (orT_ok tCmp_ok (orT_ok tRCmp_ok (orT_ok tOf1_ok (orT_ok tOf2_ok (orT_ok (tTrue_ok awake_any) (tTrue_ok known_any)))))))))
def eqU (a b c d : Int) : Bool := (a == c) && ((b == d) && true)
theorem eqU_self (a b : Int) : eqU a b a b = true := by simp [eqU]
def w2 (h1 l1 h2 l2 : Int) : Bool := uwf h1 l1 && uwf h2 l2
theorem w2_mk {h1 l1 h2 l2 : Int} (a1 : wf64 h1) (a2 : wf64 l1) (a3 : wf64 h2) (a4 : wf64 l2) : w2 h1 l1 h2 l2 = true := by simp [w2, uwf, a1, a2, a3, a4]
theorem sums_val (h1 l1 h2 l2 : Int) : valO (vU tS) Try.prog 5 [39, 43, 48, 53, 62, 71] [] 7 4 [uv h1 l1, uv h2 l2] [true, true, true, true, true, true] =
    some (.bool true, [(w2 h1 l1 h2 l2, true), (w2 h1 l1 h2 l2, true), (w2 h1 l1 h2 l2, true), (w2 h1 l1 h2 l2, true),
      (eqU (addV h1 l1 h2 l2).1 (addV h1 l1 h2 l2).2.1 (addV h1 l1 h2 l2).1 (addV h1 l1 h2 l2).2.1, true),
      ((addV h1 l1 h2 l2).2.2 == (addV h1 l1 h2 l2).2.2, true),
      (eqU (subV h1 l1 h2 l2).1 (subV h1 l1 h2 l2).2.1 (subV h1 l1 h2 l2).1 (subV h1 l1 h2 l2).2.1, true),
      ((subV h1 l1 h2 l2).2.2 == (subV h1 l1 h2 l2).2.2, true),
      (w2 h1 l1 h2 l2, true), (w2 h1 l1 h2 l2, true), (cmpV h1 l1 h2 l2 == cmpV h1 l1 h2 l2, true),
      (true, true), (true, true), (eqU 0 l1 0 l1, true), (true, true)]) := by kernel_rfl
theorem sums_any {h1 l1 h2 l2 : Int} (a1 : wf64 h1) (a2 : wf64 l1) (a3 : wf64 h2) (a4 : wf64 l2) (W : World) :
    Calls Try.prog 4 #[uv h1 l1, uv h2 l2] W fun e w' => e = .returned (.bool true) ∧ Ext W w' := by
  have h := w2_mk a1 a2 a3 a4
  refine closedO (condX_ok xU_one) (condT_ok tS_ok) mixedU 5 _ [] 7 _ _ _ _ _ rfl (sums_val h1 l1 h2 l2) ?_ (fun _ => rfl) W
  intro p hp
  simp only [List.mem_cons, List.not_mem_nil, or_false] at hp
  rcases hp with rfl | rfl | rfl | rfl | rfl | rfl | rfl | rfl | rfl | rfl | rfl | rfl | rfl | rfl | rfl <;> first | exact h | exact eqU_self _ _ | simp [eqU]

/-! ### added and taken away -/
def mx : Int := 18446744073709551615
theorem back_over (h1 l1 h2 l2 : Int) : valO (vU tS) Try.prog 5 [35, 39, 42, 50, 52, 57] [] 7 8 [uv h1 l1, uv h2 l2] [false, false, false, false, true, true] =
    some (.bool true, [(true, true), (w2 h1 l1 h2 l2, true), (w2 h2 l2 h1 l1, true), (w2 mx mx h2 l2, true),
      (!eqU (addV h1 l1 h2 l2).1 (addV h1 l1 h2 l2).2.1 (addV h2 l2 h1 l1).1 (addV h2 l2 h1 l1).2.1, false),
      (!((addV h1 l1 h2 l2).2.2 == (addV h2 l2 h1 l1).2.2), false), ((subV mx mx h2 l2).2.2, false),
      (w2 h1 l1 (subV mx mx h2 l2).1 (subV mx mx h2 l2).2.1, true), (!((addV h1 l1 h2 l2).2.2 == decide (cmpV h1 l1 (subV mx mx h2 l2).1 (subV mx mx h2 l2).2.1 > 0)), false),
      ((addV h1 l1 h2 l2).2.2, true), (eqU (addV h1 l1 h2 l2).1 (addV h1 l1 h2 l2).2.1 0 0, true)]) := by kernel_rfl
theorem back_fine (h1 l1 h2 l2 : Int) : valO (vU tS) Try.prog 5 [35, 39, 42, 50, 52, 69, 73, 79] [] 7 8 [uv h1 l1, uv h2 l2] [false, false, false, false, false, true, true, true] =
    some (.bool true, [(true, true), (w2 h1 l1 h2 l2, true), (w2 h2 l2 h1 l1, true), (w2 mx mx h2 l2, true),
      (!eqU (addV h1 l1 h2 l2).1 (addV h1 l1 h2 l2).2.1 (addV h2 l2 h1 l1).1 (addV h2 l2 h1 l1).2.1, false),
      (!((addV h1 l1 h2 l2).2.2 == (addV h2 l2 h1 l1).2.2), false), ((subV mx mx h2 l2).2.2, false),
      (w2 h1 l1 (subV mx mx h2 l2).1 (subV mx mx h2 l2).2.1, true), (!((addV h1 l1 h2 l2).2.2 == decide (cmpV h1 l1 (subV mx mx h2 l2).1 (subV mx mx h2 l2).2.1 > 0)), false),
      ((addV h1 l1 h2 l2).2.2, false), (w2 (addV h1 l1 h2 l2).1 (addV h1 l1 h2 l2).2.1 h2 l2, true),
      (eqU (subV (addV h1 l1 h2 l2).1 (addV h1 l1 h2 l2).2.1 h2 l2).1 (subV (addV h1 l1 h2 l2).1 (addV h1 l1 h2 l2).2.1 h2 l2).2.1 h1 l1, true),
      (!(subV (addV h1 l1 h2 l2).1 (addV h1 l1 h2 l2).2.1 h2 l2).2.2, true),
      (w2 (addV h1 l1 h2 l2).1 (addV h1 l1 h2 l2).2.1 h1 l1, true), (decide (cmpV (addV h1 l1 h2 l2).1 (addV h1 l1 h2 l2).2.1 h1 l1 ≥ 0), true)]) := by kernel_rfl
theorem addV_comm (h1 l1 h2 l2 : Int) : addV h2 l2 h1 l1 = addV h1 l1 h2 l2 := by unfold addV; rw [Int.add_comm]
theorem nm_divmod (x : Int) : nm (x / 18446744073709551616) (x % 18446744073709551616) = x := by unfold nm; omega
theorem back_any {h1 l1 h2 l2 : Int} (a1 : wf64 h1) (a2 : wf64 l1) (a3 : wf64 h2) (a4 : wf64 l2) (W : World) :
    Calls Try.prog 8 #[uv h1 l1, uv h2 l2] W fun e w' => e = .returned (.bool true) ∧ Ext W w' := by
  have h12 := w2_mk a1 a2 a3 a4
  have h21 := w2_mk a3 a4 a1 a2
  have hm : w2 mx mx h2 l2 = true := w2_mk (by unfold wf64 mx; omega) (by unfold wf64 mx; omega) a3 a4
  have V0 := back_over h1 l1 h2 l2
  have V1 := back_fine h1 l1 h2 l2
  rw [addV_comm h1 l1 h2 l2] at V0 V1
  have hb1 : 0 ≤ nm h1 l1 ∧ nm h1 l1 < top128 := by unfold nm top128; unfold wf64 at a1 a2; omega
  have hb2 : 0 ≤ nm h2 l2 ∧ nm h2 l2 < top128 := by unfold nm top128; unfold wf64 at a3 a4; omega
  have hsub : subV mx mx h2 l2 = ((top128 - 1 - nm h2 l2) / 18446744073709551616, (top128 - 1 - nm h2 l2) % 18446744073709551616, false) := by
    have e : nm mx mx = top128 - 1 := by decide
    unfold subV
    rw [e, if_neg (by omega)]
  have hrm : w2 h1 l1 ((top128 - 1 - nm h2 l2) / 18446744073709551616) ((top128 - 1 - nm h2 l2) % 18446744073709551616) = true := w2_mk a1 a2 (by unfold wf64 top128 at *; omega) (by unfold wf64; omega)
  have hcm : cmpV h1 l1 ((top128 - 1 - nm h2 l2) / 18446744073709551616) ((top128 - 1 - nm h2 l2) % 18446744073709551616) = if nm h1 l1 < top128 - 1 - nm h2 l2 then -1 else if nm h1 l1 = top128 - 1 - nm h2 l2 then 0 else 1 := by
    unfold cmpV; rw [nm_divmod]
  rw [hsub] at V0 V1
  by_cases h : nm h1 l1 + nm h2 l2 < top128
  · have ha : addV h1 l1 h2 l2 = ((nm h1 l1 + nm h2 l2) / 18446744073709551616, (nm h1 l1 + nm h2 l2) % 18446744073709551616, false) := if_pos h
    rw [ha] at V1
    have w3 : wf64 ((nm h1 l1 + nm h2 l2) / 18446744073709551616) := by unfold wf64 top128 at *; omega
    have w4 : wf64 ((nm h1 l1 + nm h2 l2) % 18446744073709551616) := by unfold wf64; omega
    have hbk : subV ((nm h1 l1 + nm h2 l2) / 18446744073709551616) ((nm h1 l1 + nm h2 l2) % 18446744073709551616) h2 l2 = (h1, l1, false) := by
      unfold subV
      rw [nm_divmod, if_neg (by omega), show nm h1 l1 + nm h2 l2 - nm h2 l2 = nm h1 l1 by omega]
      unfold nm wf64 at *
      rw [show (h1 * 18446744073709551616 + l1) / 18446744073709551616 = h1 by omega, show (h1 * 18446744073709551616 + l1) % 18446744073709551616 = l1 by omega]
    have hcg : decide (cmpV ((nm h1 l1 + nm h2 l2) / 18446744073709551616) ((nm h1 l1 + nm h2 l2) % 18446744073709551616) h1 l1 ≥ 0) = true := by
      unfold cmpV; rw [nm_divmod, if_neg (by omega), decide_eq_true_eq]; split <;> omega
    have hgt : decide (cmpV h1 l1 ((top128 - 1 - nm h2 l2) / 18446744073709551616) ((top128 - 1 - nm h2 l2) % 18446744073709551616) > 0) = false := by
      rw [hcm, decide_eq_false_iff_not]; split
      · omega
      · rw [if_pos (by omega)]; omega
    rw [hbk] at V1
    refine closedO (condX_ok xU_one) (condT_ok tS_ok) mixedU 5 _ [] 7 _ _ _ _ _ rfl V1 ?_ (fun _ => rfl) W
    refine .cons rfl (.cons h12 (.cons h21 (.cons hm (.cons ?_ (.cons ?_ (.cons rfl (.cons hrm (.cons ?_ (.cons rfl (.cons (w2_mk w3 w4 a3 a4) (.cons (eqU_self _ _) (.cons rfl (.cons (w2_mk w3 w4 a1 a2) (.cons hcg .nil))))))))))))))
    · rw [eqU_self]; rfl
    · rfl
    · rw [hgt]; rfl
  · have ha : addV h1 l1 h2 l2 = (0, 0, true) := if_neg h
    rw [ha] at V0
    have hgt : decide (cmpV h1 l1 ((top128 - 1 - nm h2 l2) / 18446744073709551616) ((top128 - 1 - nm h2 l2) % 18446744073709551616) > 0) = true := by
      rw [hcm, decide_eq_true_eq, if_neg (by omega), if_neg (by omega)]; decide
    refine closedO (condX_ok xU_one) (condT_ok tS_ok) mixedU 5 _ [] 7 _ _ _ _ _ rfl V0 ?_ (fun _ => rfl) W
    refine .cons rfl (.cons h12 (.cons h21 (.cons hm (.cons rfl (.cons rfl (.cons rfl (.cons hrm (.cons ?_ (.cons rfl (.cons rfl .nil))))))))))
    rw [hgt]; rfl

/-! ### keys are sorted as the numbers are -/
def keyS (h l : Int) : ByteArray := strOfI (byT l ++ byT h).reverse
theorem order_val (h1 l1 h2 l2 : Int) : valO (vU tS) Try.prog 5 [26, 34, 42, 50] [] 7 9 [uv h1 l1, uv h2 l2] [true, true, true, true] =
    some (.bool true, [(true, true), (w2 h1 l1 h2 l2, true), (w2 h2 l2 h1 l1, true), (cmpV h1 l1 h2 l2 == i64w (0 - cmpV h2 l2 h1 l1), true),
      (decide (cmpV h1 l1 h2 l2 < 0) == Op.bytesLess (keyS h1 l1).data.toList (keyS h2 l2).data.toList, true),
      (decide (cmpV h1 l1 h2 l2 > 0) == !(Op.bytesLess (keyS h1 l1).data.toList (keyS h2 l2).data.toList || strEq (keyS h1 l1) (keyS h2 l2)), true),
      ((cmpV h1 l1 h2 l2 == 0) == eqU h1 l1 h2 l2, true)]) := by kernel_rfl
/-- Bytes as they stand in a string. -/
def byS (zs : List Int) : List UInt8 := zs.map fun n => UInt8.ofNat n.toNat
theorem less_cm : ∀ (xs ys : List Int), xs.length = ys.length → (∀ x ∈ xs, wfB x) → (∀ y ∈ ys, wfB y) →
    Op.bytesLess (byS xs) (byS ys) = decide (cmL (xs.zip ys) < 0) ∧ (byS xs == byS ys) = decide (cmL (xs.zip ys) = 0)
  | [], [], _, _, _ => by simp [byS, Op.bytesLess, cmL]
  | x :: xs, [], h, _, _ => by simp at h
  | [], y :: ys, h, _, _ => by simp at h
  | x :: xs, y :: ys, h, hx, hy => by
      have a := hx x (by simp)
      have b := hy y (by simp)
      unfold wfB at a b
      obtain ⟨e1, e2⟩ := less_cm xs ys (by simpa using h) (fun z hz => hx z (by simp [hz])) (fun z hz => hy z (by simp [hz]))
      have n1 : (UInt8.ofNat x.toNat).toNat = x.toNat := by rw [UInt8.toNat_ofNat']; omega
      have n2 : (UInt8.ofNat y.toNat).toNat = y.toNat := by rw [UInt8.toNat_ofNat']; omega
      have l1 : (UInt8.ofNat x.toNat < UInt8.ofNat y.toNat) ↔ x < y := by rw [UInt8.lt_iff_toNat_lt, n1, n2]; omega
      have l2 : (UInt8.ofNat x.toNat == UInt8.ofNat y.toNat) = decide (x = y) := by
        rw [Bool.eq_iff_iff, beq_iff_eq, decide_eq_true_eq, ← UInt8.toNat_inj, n1, n2]; omega
      simp only [byS, List.map_cons, Op.bytesLess, List.zip_cons_cons, cmL] at e1 e2 ⊢
      rw [e1, l2]
      simp only [List.cons_beq_cons, l2]
      rw [e2]
      rcases Int.lt_trichotomy x y with h1 | h1 | h1
      · have hne : ¬ x = y := by omega
        simp [h1, l1, hne]
      · subst h1
        simp [l1]
      · have hn : ¬ x < y := by omega
        have hne : ¬ x = y := by omega
        simp [h1, l1, hn, hne]
theorem key_cm {h1 l1 h2 l2 : Int} (a1 : wf64 h1) (a2 : wf64 l1) (a3 : wf64 h2) (a4 : wf64 l2) :
    Op.bytesLess (keyS h1 l1).data.toList (keyS h2 l2).data.toList = decide (cmpV h1 l1 h2 l2 < 0) ∧ strEq (keyS h1 l1) (keyS h2 l2) = decide (cmpV h1 l1 h2 l2 = 0) := by
  have k : ∀ h l, wf64 h → wf64 l → (keyS h l).data.toList = byS (b16 h l).reverse := fun h l hh hl => by
    unfold keyS strOfI byS b16; rw [byT_eq _ hh, byT_eq _ hl]
  have hv := cmL_rev (b16 h1 l1) (b16 h2 l2) (by simp [b16_len]) (b16_wf h1 l1) (b16_wf h2 l2)
  rw [vL_b16 a1 a2, vL_b16 a3 a4] at hv
  have hz : (b16 h1 l1).reverse.zip (b16 h2 l2).reverse = ((b16 h1 l1).zip (b16 h2 l2)).reverse := by
    simp only [List.zip]; rw [List.reverse_zipWith (by simp [b16_len])]
  have hl := less_cm (b16 h1 l1).reverse (b16 h2 l2).reverse (by simp [b16_len]) (fun x hx => b16_wf h1 l1 x (by simpa using hx)) (fun x hx => b16_wf h2 l2 x (by simpa using hx))
  rw [hz, hv] at hl
  unfold strEq
  rw [k h1 l1 a1 a2, k h2 l2 a3 a4]
  exact hl
theorem cmpV_cases (h1 l1 h2 l2 : Int) : (nm h1 l1 < nm h2 l2 ∧ cmpV h1 l1 h2 l2 = -1 ∧ cmpV h2 l2 h1 l1 = 1) ∨ (nm h1 l1 = nm h2 l2 ∧ cmpV h1 l1 h2 l2 = 0 ∧ cmpV h2 l2 h1 l1 = 0) ∨ (nm h2 l2 < nm h1 l1 ∧ cmpV h1 l1 h2 l2 = 1 ∧ cmpV h2 l2 h1 l1 = -1) := by
  unfold cmpV
  rcases Int.lt_trichotomy (nm h1 l1) (nm h2 l2) with h | h | h
  · exact .inl ⟨h, if_pos h, by rw [if_neg (by omega), if_neg (by omega)]⟩
  · exact .inr (.inl ⟨h, by rw [if_neg (by omega), if_pos h], by rw [if_neg (by omega), if_pos h.symm]⟩)
  · exact .inr (.inr ⟨h, by rw [if_neg (by omega), if_neg (by omega)], if_pos h⟩)
theorem order_any {h1 l1 h2 l2 : Int} (a1 : wf64 h1) (a2 : wf64 l1) (a3 : wf64 h2) (a4 : wf64 l2) (W : World) :
    Calls Try.prog 9 #[uv h1 l1, uv h2 l2] W fun e w' => e = .returned (.bool true) ∧ Ext W w' := by
  obtain ⟨k1, k2⟩ := key_cm a1 a2 a3 a4
  have V0 := order_val h1 l1 h2 l2
  rw [k1, k2] at V0
  refine closedO (condX_ok xU_one) (condT_ok tS_ok) mixedU 5 _ [] 7 _ _ _ _ _ rfl V0 ?_ (fun _ => rfl) W
  have hq : eqU h1 l1 h2 l2 = decide (nm h1 l1 = nm h2 l2) := by
    rw [Bool.eq_iff_iff, decide_eq_true_eq]
    simp only [eqU, Bool.and_true, Bool.and_eq_true, beq_iff_eq]
    unfold nm wf64 at *
    constructor
    · rintro ⟨rfl, rfl⟩; rfl
    · intro h; omega
  rw [hq]
  rcases cmpV_cases h1 l1 h2 l2 with ⟨c, e1, e2⟩ | ⟨c, e1, e2⟩ | ⟨c, e1, e2⟩ <;> rw [e1, e2]
  · have hne : ¬ nm h1 l1 = nm h2 l2 := by omega
    refine .cons rfl (.cons (w2_mk a1 a2 a3 a4) (.cons (w2_mk a3 a4 a1 a2) (.cons (by decide) (.cons (by decide) (.cons (by decide) (.cons ?_ .nil))))))
    simp [hne]
  · refine .cons rfl (.cons (w2_mk a1 a2 a3 a4) (.cons (w2_mk a3 a4 a1 a2) (.cons (by decide) (.cons (by decide) (.cons (by decide) (.cons ?_ .nil))))))
    simp [c]
  · have hne : ¬ nm h1 l1 = nm h2 l2 := by omega
    refine .cons rfl (.cons (w2_mk a1 a2 a3 a4) (.cons (w2_mk a3 a4 a1 a2) (.cons (by decide) (.cons (by decide) (.cons (by decide) (.cons ?_ .nil))))))
    simp [hne]
end Go.Proofs.Ytpiapipmhlpmjaa
