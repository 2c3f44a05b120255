/-
  Sums, differences, order and bytes of numbers of 128 bits: what the program's and the document's functions answer, by runs at free numbers.
-/
import Derived.Test.YtpiapipmhlpmjaaU128M
import Derived.Test.YtpiapipmhlpmjaaProg
namespace Go.Proofs.Ytpiapipmhlpmjaa
set_option linter.unusedSimpArgs false
set_option linter.unusedVariables false
open Go Go.RowKit

def uv (h l : Int) : Value := .agg #[.int .u64 h, .int .u64 l]
def uwf (h l : Int) : Bool := decide (wf64 h ∧ wf64 l)
def c64 (x y c : Int) : Bool := decide (0 ≤ x ∧ 0 ≤ y ∧ 0 ≤ c ∧ c ≤ 1)
def s64 (x y c : Int) : Bool := decide (0 ≤ x ∧ 0 ≤ y ∧ y < 18446744073709551616 ∧ 0 ≤ c ∧ c ≤ 1)
def xU : FuncId → List Value → Hp → Option (Value × Bool) := orXo (add64O 41) (sub64O 43)
theorem xU_one : XOne Try.prog (condX xU) :=
  orXo_one (by rw [condX_add64]; exact add64_one fun x y c w => run_callFunc_extern Try.func41 (by kernel_rfl) (by kernel_rfl) (by kernel_rfl) (e := add64Entry) (by kernel_rfl) _ w)
    (by rw [condX_sub64]; exact sub64_one fun x y c w => run_callFunc_extern Try.func43 (by kernel_rfl) (by kernel_rfl) (by kernel_rfl) (e := sub64Entry) (by kernel_rfl) _ w)
def vU (T : FuncId → List Value → Hp → Nat → Option (Out × Bool)) : Ov := ⟨T, xU⟩
theorem mixedU : (Try.prog).follows .mixedOrders = true := by kernel_rfl
theorem obs3 {a b c : Bool} {x y z : Bool} (h1 : a = x) (h2 : b = y) (h3 : c = z) : Obs [(a, x), (b, y), (c, z)] := .cons h1 (.cons h2 (.cons h3 .nil))
theorem ret_v {u v : Value} (h : u = v) {P : Program} {f : FuncId} {args : Array Value} {W : World} (c : Calls P f args W fun e w' => e = .returned u ∧ Ext W w') : Calls P f args W fun e w' => e = .returned v ∧ Ext W w' := h ▸ c
theorem uv_eq {a b c d : Int} (h1 : a = c) (h2 : b = d) : uv a b = uv c d := by rw [h1, h2]
theorem uvb_eq {a b c d : Int} {x y : Bool} (h1 : a = c) (h2 : b = d) (h3 : x = y) : Value.tuple #[uv a b, .bool x] = Value.tuple #[uv c d, .bool y] := by rw [h1, h2, h3]

/-! ### the program's -/
theorem add_val (h1 l1 h2 l2 : Int) : valO (vU noTo) Try.prog 5 [28] [] 6 14 [uv h1 l1, uv h2 l2] [false] =
    some (.tuple #[uv ((h1 + h2 + (l1 + l2 + 0) / 18446744073709551616) % 18446744073709551616) ((l1 + l2 + 0) % 18446744073709551616), .bool false],
      [(c64 l1 l2 0, true), (c64 h1 h2 ((l1 + l2 + 0) / 18446744073709551616), true), (((h1 + h2 + (l1 + l2 + 0) / 18446744073709551616) / 18446744073709551616 == 1), false)]) := by kernel_rfl
theorem add_val1 (h1 l1 h2 l2 : Int) : valO (vU noTo) Try.prog 5 [28] [] 6 14 [uv h1 l1, uv h2 l2] [true] =
    some (.tuple #[uv 0 0, .bool true],
      [(c64 l1 l2 0, true), (c64 h1 h2 ((l1 + l2 + 0) / 18446744073709551616), true), (((h1 + h2 + (l1 + l2 + 0) / 18446744073709551616) / 18446744073709551616 == 1), true)]) := by kernel_rfl
theorem add_any {h1 l1 h2 l2 : Int} (a1 : wf64 h1) (a2 : wf64 l1) (a3 : wf64 h2) (a4 : wf64 l2) (W : World) :
    Calls Try.prog 14 #[uv h1 l1, uv h2 l2] W fun e w' => e = .returned (.tuple #[uv (addV h1 l1 h2 l2).1 (addV h1 l1 h2 l2).2.1, .bool (addV h1 l1 h2 l2).2.2]) ∧ Ext W w' := by
  unfold wf64 at a1 a2 a3 a4
  have o1 : c64 l1 l2 0 = true := by simp [c64]; omega
  have o2 : c64 h1 h2 ((l1 + l2 + 0) / 18446744073709551616) = true := by simp [c64]; omega
  unfold addV
  by_cases h : nm h1 l1 + nm h2 l2 < top128
  · rw [if_pos h]
    unfold nm top128 at *
    refine ret_v (uvb_eq ?_ ?_ rfl) (closedO (condX_ok xU_one) (condT_ok noTo_ok) mixedU 5 [28] [] 6 _ _ [false] _ _ rfl (add_val h1 l1 h2 l2) (obs3 o1 o2 (by simp; omega)) (fun _ => rfl) W) <;> (try dsimp only) <;> omega
  · rw [if_neg h]
    unfold nm top128 at *
    exact closedO (condX_ok xU_one) (condT_ok noTo_ok) mixedU 5 [28] [] 6 _ _ [true] _ _ rfl (add_val1 h1 l1 h2 l2) (obs3 o1 o2 (by simp; omega)) (fun _ => rfl) W
/-- What is borrowed. -/
def bw (x y c : Int) : Int := if x < y + c then 1 else 0
theorem sub_val (h1 l1 h2 l2 : Int) : valO (vU noTo) Try.prog 5 [28] [] 6 16 [uv h1 l1, uv h2 l2] [false] =
    some (.tuple #[uv ((h1 - h2 - bw l1 l2 0) % 18446744073709551616) ((l1 - l2 - 0) % 18446744073709551616), .bool false],
      [(s64 l1 l2 0, true), (s64 h1 h2 (bw l1 l2 0), true), ((bw h1 h2 (bw l1 l2 0) == 1), false)]) := by kernel_rfl
theorem sub_val1 (h1 l1 h2 l2 : Int) : valO (vU noTo) Try.prog 5 [28] [] 6 16 [uv h1 l1, uv h2 l2] [true] =
    some (.tuple #[uv 0 0, .bool true],
      [(s64 l1 l2 0, true), (s64 h1 h2 (bw l1 l2 0), true), ((bw h1 h2 (bw l1 l2 0) == 1), true)]) := by kernel_rfl
theorem bw_cases (x y c : Int) : (x < y + c ∧ bw x y c = 1) ∨ (y + c ≤ x ∧ bw x y c = 0) := by unfold bw; split <;> omega
theorem sub_any {h1 l1 h2 l2 : Int} (a1 : wf64 h1) (a2 : wf64 l1) (a3 : wf64 h2) (a4 : wf64 l2) (W : World) :
    Calls Try.prog 16 #[uv h1 l1, uv h2 l2] W fun e w' => e = .returned (.tuple #[uv (subV h1 l1 h2 l2).1 (subV h1 l1 h2 l2).2.1, .bool (subV h1 l1 h2 l2).2.2]) ∧ Ext W w' := by
  unfold wf64 at a1 a2 a3 a4
  have b1 := bw_cases l1 l2 0
  have b2 := bw_cases h1 h2 (bw l1 l2 0)
  have o1 : s64 l1 l2 0 = true := by simp [s64]; omega
  have o2 : s64 h1 h2 (bw l1 l2 0) = true := by simp [s64]; omega
  have V0 := sub_val h1 l1 h2 l2
  have V1 := sub_val1 h1 l1 h2 l2
  unfold subV
  by_cases h : nm h1 l1 < nm h2 l2
  · rw [if_pos h]
    unfold nm at *
    exact closedO (condX_ok xU_one) (condT_ok noTo_ok) mixedU 5 [28] [] 6 _ _ [true] _ _ rfl V1 (obs3 o1 o2 (by simp; omega)) (fun _ => rfl) W
  · rw [if_neg h]
    unfold nm at *
    refine ret_v (uvb_eq ?_ ?_ rfl) (closedO (condX_ok xU_one) (condT_ok noTo_ok) mixedU 5 [28] [] 6 _ _ [false] _ _ rfl V0 (obs3 o1 o2 (by simp; omega)) (fun _ => rfl) W) <;> (try dsimp only) <;> omega
def or64 (x y : Int) : Int := IntKind.u64.wrap (BitVec.ofInt 64 x ||| BitVec.ofInt 64 y).toNat
theorem cmp_lt (h1 l1 h2 l2 : Int) : valO (vU noTo) Try.prog 5 [26, 29] [] 6 18 [uv h1 l1, uv h2 l2] [true] =
    some (.int .i64 (-1), [(s64 l1 l2 0, true), (s64 h1 h2 (bw l1 l2 0), true), ((bw h1 h2 (bw l1 l2 0) == 1), true)]) := by kernel_rfl
theorem cmp_eq (h1 l1 h2 l2 : Int) : valO (vU noTo) Try.prog 5 [26, 29] [] 6 18 [uv h1 l1, uv h2 l2] [false, true] =
    some (.int .i64 0, [(s64 l1 l2 0, true), (s64 h1 h2 (bw l1 l2 0), true), ((bw h1 h2 (bw l1 l2 0) == 1), false), ((or64 ((h1 - h2 - bw l1 l2 0) % 18446744073709551616) ((l1 - l2 - 0) % 18446744073709551616) == 0), true)]) := by kernel_rfl
theorem cmp_gt (h1 l1 h2 l2 : Int) : valO (vU noTo) Try.prog 5 [26, 29] [] 6 18 [uv h1 l1, uv h2 l2] [false, false] =
    some (.int .i64 1, [(s64 l1 l2 0, true), (s64 h1 h2 (bw l1 l2 0), true), ((bw h1 h2 (bw l1 l2 0) == 1), false), ((or64 ((h1 - h2 - bw l1 l2 0) % 18446744073709551616) ((l1 - l2 - 0) % 18446744073709551616) == 0), false)]) := by kernel_rfl
theorem or64_nat (x y : Int) (hx : wf64 x) (hy : wf64 y) : or64 x y = ((x.toNat ||| y.toNat : Nat) : Int) := by
  unfold wf64 at hx hy
  obtain ⟨a, rfl⟩ := Int.eq_ofNat_of_zero_le hx.1
  obtain ⟨b, rfl⟩ := Int.eq_ofNat_of_zero_le hy.1
  have ha : a < 2 ^ 64 := by omega
  have hb : b < 2 ^ 64 := by omega
  have hab : a ||| b < 2 ^ 64 := Nat.or_lt_two_pow ha hb
  unfold or64
  simp only [BitVec.toNat_or, BitVec.ofInt_natCast, BitVec.toNat_ofNat, Nat.mod_eq_of_lt ha, Nat.mod_eq_of_lt hb, Int.toNat_natCast]
  rw [IntKind.wrap_u64]
  omega
theorem or64_zero (x y : Int) (hx : wf64 x) (hy : wf64 y) : or64 x y = 0 ↔ x = 0 ∧ y = 0 := by
  rw [or64_nat x y hx hy]
  unfold wf64 at hx hy
  constructor
  · intro h
    have h0 : x.toNat ||| y.toNat = 0 := by omega
    have := Nat.or_eq_zero_iff.1 h0
    omega
  · rintro ⟨rfl, rfl⟩; rfl
theorem obs4 {a b c d : Bool} {x y z u : Bool} (h1 : a = x) (h2 : b = y) (h3 : c = z) (h4 : d = u) : Obs [(a, x), (b, y), (c, z), (d, u)] := .cons h1 (.cons h2 (.cons h3 (.cons h4 .nil)))
theorem cmp_any {h1 l1 h2 l2 : Int} (a1 : wf64 h1) (a2 : wf64 l1) (a3 : wf64 h2) (a4 : wf64 l2) (W : World) :
    Calls Try.prog 18 #[uv h1 l1, uv h2 l2] W fun e w' => e = .returned (.int .i64 (cmpV h1 l1 h2 l2)) ∧ Ext W w' := by
  have b1 := bw_cases l1 l2 0
  have b2 := bw_cases h1 h2 (bw l1 l2 0)
  have z1 := or64_zero ((h1 - h2 - bw l1 l2 0) % 18446744073709551616) ((l1 - l2 - 0) % 18446744073709551616) (by unfold wf64; omega) (by unfold wf64; omega)
  have V0 := cmp_lt h1 l1 h2 l2
  have V1 := cmp_eq h1 l1 h2 l2
  have V2 := cmp_gt h1 l1 h2 l2
  unfold wf64 at a1 a2 a3 a4
  have o1 : s64 l1 l2 0 = true := by simp [s64]; omega
  have o2 : s64 h1 h2 (bw l1 l2 0) = true := by simp [s64]; omega
  unfold cmpV
  by_cases h : nm h1 l1 < nm h2 l2
  · rw [if_pos h]
    unfold nm at *
    exact closedO (condX_ok xU_one) (condT_ok noTo_ok) mixedU 5 [26, 29] [] 6 _ _ [true] _ _ rfl V0 (obs3 o1 o2 (by simp; omega)) (fun _ => rfl) W
  · rw [if_neg h]
    by_cases h2 : nm h1 l1 = nm h2 l2
    · rw [if_pos h2]
      unfold nm at *
      exact closedO (condX_ok xU_one) (condT_ok noTo_ok) mixedU 5 [26, 29] [] 6 _ _ [false, true] _ _ rfl V1 (obs4 o1 o2 (by simp; omega) (by rw [beq_iff_eq, z1]; omega)) (fun _ => rfl) W
    · rw [if_neg h2]
      unfold nm at *
      exact closedO (condX_ok xU_one) (condT_ok noTo_ok) mixedU 5 [26, 29] [] 6 _ _ [false, false] _ _ rfl V2 (obs4 o1 o2 (by simp; omega) (by rw [beq_eq_false_iff_ne, Ne, z1]; omega)) (fun _ => rfl) W
end Go.Proofs.Ytpiapipmhlpmjaa
