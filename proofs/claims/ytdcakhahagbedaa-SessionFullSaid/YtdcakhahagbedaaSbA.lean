/-
  Chapter 22: numbers compared; memory that is copied: contracts.
-/
import Derived.Test.YtdcakhahagbedaaSesA
import Derived.Test.YtdcakhahagbedaaU128Y
namespace Go.Proofs.Ytdcakhahagbedaa
set_option linter.unusedSimpArgs false
set_option linter.unusedVariables false
set_option linter.unusedSectionVars false
open Go Go.RowKit

def w6 (x : Int) : Prop := 0 ≤ x ∧ x < 18446744073709551616
/-- Sub64, an extern, at numbers that are not known. -/
def xSub : FuncId → List Value → Hp → Option (Value × List Prop) := fun f args h => bif Nat.beq f 60 then (match args with
  | [.int .u64 x, .int .u64 y, .int .u64 c] => some (.tuple ⟨[.int .u64 ((x - y - c) % 18446744073709551616), .int .u64 (if x < y + c then 1 else 0)]⟩, [0 ≤ x ∧ 0 ≤ y ∧ y < 18446744073709551616 ∧ 0 ≤ c ∧ c ≤ 1])
  | _ => none) else none
theorem xSubZ_ok {V : Tv} (h : V.X = xSub) : XOkZ V Try.prog := by
  intro f args hp v ob e ho W σ w args' hR ha
  rw [h] at e
  simp only [xSub] at e
  obtain ⟨hf, e⟩ := bif_of e
  obtain rfl := Nat.eq_of_beq_eq_true hf
  split at e
  case h_2 => cases e
  rename_i x y c hq
  cases e
  have key := sub64_one (P := Try.prog) (f0 := 60) (fun x y c w => run_callFunc_extern Try.func60 (by kernel_rfl) (by kernel_rfl) (by kernel_rfl) (e := sub64Entry) (by kernel_rfl) _ w)
  refine key _ _ hp _ ?_ W σ w args' hR ha
  have hb : Nat.beq 60 60 = true := rfl
  have hd : decide (0 ≤ x ∧ 0 ≤ y ∧ y < 18446744073709551616 ∧ 0 ≤ c ∧ c ≤ 1) = true := decide_eq_true ho.1
  show (bif Nat.beq 60 60 then (bif decide (0 ≤ x ∧ 0 ≤ y ∧ y < 18446744073709551616 ∧ 0 ≤ c ∧ c ≤ 1) then some (Value.tuple #[.int .u64 ((x - y - c) % 18446744073709551616), .int .u64 (if x < y + c then 1 else 0)]) else none) else none) = _
  rw [hb, hd]
  rfl
def cmV : Tv := ⟨noTz, xSub, noL, tbl 42 [28, 33], noSy, fun _ => [], fun _ => 0⟩
theorem cm_lt (a b c d : Int) : prjV (runZ cmV Try.prog 5 42 [.agg ⟨[.int .u64 a, .int .u64 b]⟩, .agg ⟨[.int .u64 c, .int .u64 d]⟩] [] 2 [true]) =
  Res.ok (Value.int IntKind.i64 (Int.negSucc (nat_lit 0)), [], [(0 : Int) ≤ b ∧ (0 : Int) ≤ d ∧ d < (18446744073709551616 : Int) ∧ (0 : Int) ≤ (0 : Int) ∧ (0 : Int) ≤ (1 : Int), (0 : Int) ≤ a ∧ (0 : Int) ≤ c ∧ c <
 (18446744073709551616 : Int) ∧ ((0 : Int) ≤ if b < d + (0 : Int) then (1 : Int) else (0 : Int)) ∧ (if b < d + (0 : Int) then (1 : Int) else (0 : Int)) ≤ (1 : Int), ((if a < c + if b < d + (0 : Int) then (1 : Int) else (0
 : Int) then (1 : Int) else (0 : Int)) == (1 : Int)) = true]) := by kernel_rfl
theorem cm_eq (a b c d : Int) : prjV (runZ cmV Try.prog 5 42 [.agg ⟨[.int .u64 a, .int .u64 b]⟩, .agg ⟨[.int .u64 c, .int .u64 d]⟩] [] 2 [false, true]) =
  Res.ok (Value.int IntKind.i64 (0 : Int), [], [(0 : Int) ≤ b ∧ (0 : Int) ≤ d ∧ d < (18446744073709551616 : Int) ∧ (0 : Int) ≤ (0 : Int) ∧ (0 : Int) ≤ (1 : Int), (0 : Int) ≤ a ∧ (0 : Int) ≤ c ∧ c < (18446744073709551616 :
 Int) ∧ ((0 : Int) ≤ if b < d + (0 : Int) then (1 : Int) else (0 : Int)) ∧ (if b < d + (0 : Int) then (1 : Int) else (0 : Int)) ≤ (1 : Int), ((if a < c + if b < d + (0 : Int) then (1 : Int) else (0 : Int) then (1 : Int)
 else (0 : Int)) == (1 : Int)) = false, (IntKind.wrap IntKind.u64 (↑(BitVec.toNat (BitVec.ofInt 64 ((a - c - if b < d + (0 : Int) then (1 : Int) else (0 : Int)) % (18446744073709551616 : Int)) ||| BitVec.ofInt 64 ((b - d -
 (0 : Int)) % (18446744073709551616 : Int)))) : Int) == (0 : Int)) = true]) := by kernel_rfl
theorem cm_gt (a b c d : Int) : prjV (runZ cmV Try.prog 5 42 [.agg ⟨[.int .u64 a, .int .u64 b]⟩, .agg ⟨[.int .u64 c, .int .u64 d]⟩] [] 2 [false, false]) =
  Res.ok (Value.int IntKind.i64 (1 : Int), [], [(0 : Int) ≤ b ∧ (0 : Int) ≤ d ∧ d < (18446744073709551616 : Int) ∧ (0 : Int) ≤ (0 : Int) ∧ (0 : Int) ≤ (1 : Int), (0 : Int) ≤ a ∧ (0 : Int) ≤ c ∧ c < (18446744073709551616 :
 Int) ∧ ((0 : Int) ≤ if b < d + (0 : Int) then (1 : Int) else (0 : Int)) ∧ (if b < d + (0 : Int) then (1 : Int) else (0 : Int)) ≤ (1 : Int), ((if a < c + if b < d + (0 : Int) then (1 : Int) else (0 : Int) then (1 : Int)
 else (0 : Int)) == (1 : Int)) = false, (IntKind.wrap IntKind.u64 (↑(BitVec.toNat (BitVec.ofInt 64 ((a - c - if b < d + (0 : Int) then (1 : Int) else (0 : Int)) % (18446744073709551616 : Int)) ||| BitVec.ofInt 64 ((b - d -
 (0 : Int)) % (18446744073709551616 : Int)))) : Int) == (0 : Int)) = false]) := by kernel_rfl
def nm2 (h l : Int) : Int := h * 18446744073709551616 + l
/-- How two numbers compare, told. -/
structure CmN (a b c d : Int) (p : Prop) : Prop where
  w : w6 a ∧ w6 b ∧ w6 c ∧ w6 d
  p : p
def gCm : GSpec := fun av tp => match av, tp with
  | [.fl (.agg ⟨[.int .u64 a, .int .u64 b]⟩), .fl (.agg ⟨[.int .u64 c, .int .u64 d]⟩)], true :: tp => some (⟨fun _ => .int .i64 (-1), []⟩, tp, [CmN a b c d (nm2 a b < nm2 c d)])
  | [.fl (.agg ⟨[.int .u64 a, .int .u64 b]⟩), .fl (.agg ⟨[.int .u64 c, .int .u64 d]⟩)], false :: true :: tp => some (⟨fun _ => .int .i64 0, []⟩, tp, [CmN a b c d (nm2 a b = nm2 c d)])
  | [.fl (.agg ⟨[.int .u64 a, .int .u64 b]⟩), .fl (.agg ⟨[.int .u64 c, .int .u64 d]⟩)], false :: false :: tp => some (⟨fun _ => .int .i64 1, []⟩, tp, [CmN a b c d (nm2 c d < nm2 a b)])
  | _, _ => none
theorem wr6 (n : Int) : IntKind.wrap IntKind.u64 n = n % 18446744073709551616 := IntKind.wrap_u64 n
theorem or6 {x y : Int} (hx : w6 x) (hy : w6 y) : (IntKind.wrap IntKind.u64 ((BitVec.ofInt 64 x ||| BitVec.ofInt 64 y).toNat : Nat) == 0) = decide (x = 0 ∧ y = 0) := by
  obtain ⟨a, rfl⟩ := Int.eq_ofNat_of_zero_le hx.1
  obtain ⟨b, rfl⟩ := Int.eq_ofNat_of_zero_le hy.1
  have ha : a < 2 ^ 64 := by have := hx.2; omega
  have hb : b < 2 ^ 64 := by have := hy.2; omega
  have h1 : a ||| b < 2 ^ 64 := Nat.or_lt_two_pow ha hb
  rw [BitVec.toNat_or, BitVec.ofInt_natCast, BitVec.ofInt_natCast, BitVec.toNat_ofNat, BitVec.toNat_ofNat, Nat.mod_eq_of_lt ha, Nat.mod_eq_of_lt hb, wr6]
  by_cases hz : a = 0 ∧ b = 0
  · obtain ⟨rfl, rfl⟩ := hz
    rfl
  · have h2 : a ||| b ≠ 0 := fun e => hz (by rwa [Nat.or_eq_zero_iff] at e)
    have h3 : ¬ (((a : Nat) : Int) = 0 ∧ ((b : Nat) : Int) = 0) := by omega
    rw [decide_eq_false h3, beq_eq_false_iff_ne]
    omega
theorem cm_gok : GOk Try.prog 42 [.f, .f] gCm := by
  have hX : XOkZ cmV Try.prog := xSubZ_ok rfl
  have hT : TOkZ cmV Try.prog := noTz_okV rfl
  have hL : LOkZ cmV Try.prog := noL_okV rfl
  intro av tp gr tp' ob hG ho hP caps hcap
  unfold gCm at hG
  have key : ∀ (a b c d : Int) (p : Prop), CmN a b c d p → ∃ u x y, u = (if b < d + 0 then (1 : Int) else 0) ∧ 0 ≤ u ∧ u ≤ 1 ∧ x = (a - c - u) % 18446744073709551616 ∧ y = (b - d - 0) % 18446744073709551616 ∧ w6 x ∧ w6 y ∧ (a < c + u ↔ nm2 a b < nm2 c d) ∧ ((x = 0 ∧ y = 0) ↔ nm2 a b = nm2 c d) := by
    intro a b c d p ⟨⟨⟨a0, a1⟩, ⟨b0, b1⟩, ⟨c0, c1⟩, d0, d1⟩, _⟩
    refine ⟨_, _, _, rfl, ?_, ?_, rfl, rfl, ?_, ?_, ?_, ?_⟩ <;> (try unfold w6 at *) <;> (try unfold nm2 at *) <;> first | omega | (split <;> omega)
  split at hG
  case h_4 => cases hG
  all_goals
    rename_i a b c d tp
    simp only [Option.some.injEq, Prod.mk.injEq] at hG
    obtain ⟨rfl, rfl, rfl⟩ := hG
    obtain ⟨hc, _⟩ := ho
    have hc2 := hc
    obtain ⟨⟨⟨a0, a1⟩, ⟨b0, b1⟩, ⟨c0, c1⟩, d0, d1⟩, hp⟩ := hc2
    obtain ⟨u, x, y, eu, u0, u1, ex, ey, wx, wy, k1, k2⟩ := key a b c d _ hc
    have ho := or6 wx wy
  · have e1 : ((if a < c + u then (1 : Int) else 0) == 1) = true := by rw [if_pos (k1.2 hp)]; rfl
    have hr := fun o => run_val hX hT hL (cm_lt a b c d) o rfl
    rw [← eu] at hr
    obtain ⟨h', nx', dd, T⟩ := hr (by
      repeat' (first | exact alls_nil | refine alls_cons ?_ ?_)
      all_goals first | exact e1 | omega)
    exact ⟨_, _, _, _, fun n => n, T, GrIs.flat fun σ => rfl⟩
  · have e1 : ((if a < c + u then (1 : Int) else 0) == 1) = false := by rw [if_neg (fun h => by have := k1.1 h; omega)]; rfl
    rw [decide_eq_true (k2.2 hp)] at ho
    have hr := fun o => run_val hX hT hL (cm_eq a b c d) o rfl
    rw [← eu, ← ex, ← ey] at hr
    obtain ⟨h', nx', dd, T⟩ := hr (by
      repeat' (first | exact alls_nil | refine alls_cons ?_ ?_)
      all_goals first | exact e1 | exact ho | omega)
    exact ⟨_, _, _, _, fun n => n, T, GrIs.flat fun σ => rfl⟩
  · have e1 : ((if a < c + u then (1 : Int) else 0) == 1) = false := by rw [if_neg (fun h => by have := k1.1 h; omega)]; rfl
    rw [decide_eq_false (fun h => by have := k2.1 h; omega)] at ho
    have hr := fun o => run_val hX hT hL (cm_gt a b c d) o rfl
    rw [← eu, ← ex, ← ey] at hr
    obtain ⟨h', nx', dd, T⟩ := hr (by
      repeat' (first | exact alls_nil | refine alls_cons ?_ ?_)
      all_goals first | exact e1 | exact ho | omega)
    exact ⟨_, _, _, _, fun n => n, T, GrIs.flat fun σ => rfl⟩
end Go.Proofs.Ytdcakhahagbedaa
