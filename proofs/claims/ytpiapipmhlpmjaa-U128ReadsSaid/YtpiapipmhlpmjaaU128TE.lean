/-
  Chapter 01: a number ten times, and a digit more: contracts.
-/
import Derived.Test.YtpiapipmhlpmjaaU128TD
namespace Go.Proofs.Ytpiapipmhlpmjaa
set_option linter.unusedSimpArgs false
set_option linter.unusedVariables false
set_option linter.unusedSectionVars false
open Go Go.RowKit

def muV : Tv := ⟨noTz, noXz, noL, fun _ => [], lsSy 54 [(17, 0), (24, 0), (27, 0), (29, 0), (30, 0), (34, 0), (38, 0), (39, 0), (42, 0), (44, 0), (46, 0), (47, 0), (50, 8)], fun _ => [], fun _ => 0⟩
theorem mu_ten (x : Int) : runZ muV Try.prog 9 54 [.int .u64 x, .int .u64 10] [] 2 [] =
  Res.ok ((Value.tuple (Array.mk [Value.int IntKind.u64 (adI (adI (mlI (srI x (32 : Int)) (0 : Int)) (srI (adI (mlI (srI x (32 : Int)) (10 : Int)) (srI (mlI (IntKind.wrap IntKind.u64 (↑(BitVec.toNat (BitVec.ofInt 64 x &&&
 BitVec.ofInt 64 (4294967295 : Int))) : Int)) (10 : Int)) (32 : Int))) (32 : Int))) (srI (adI (IntKind.wrap IntKind.u64 (↑(BitVec.toNat (BitVec.ofInt 64 (adI (mlI (srI x (32 : Int)) (10 : Int)) (srI (mlI (IntKind.wrap
 IntKind.u64 (↑(BitVec.toNat (BitVec.ofInt 64 x &&& BitVec.ofInt 64 (4294967295 : Int))) : Int)) (10 : Int)) (32 : Int))) &&& BitVec.ofInt 64 (4294967295 : Int))) : Int)) (0 : Int)) (32 : Int))), Value.int IntKind.u64
 (IntKind.wrap IntKind.u64 (x * (10 : Int)))]), [], 2, []), [], [(0 : Int) ≤ (32 : Int) ∧ (32 : Int) ≤ (64 : Int), rg IntKind.u64 (mlI (IntKind.wrap IntKind.u64 (↑(BitVec.toNat (BitVec.ofInt 64 x &&& BitVec.ofInt 64
 (4294967295 : Int))) : Int)) (10 : Int)), rg IntKind.u64 (mlI (srI x (32 : Int)) (10 : Int)), (0 : Int) ≤ (32 : Int) ∧ (32 : Int) ≤ (64 : Int), rg IntKind.u64 (adI (mlI (srI x (32 : Int)) (10 : Int)) (srI (mlI
 (IntKind.wrap IntKind.u64 (↑(BitVec.toNat (BitVec.ofInt 64 x &&& BitVec.ofInt 64 (4294967295 : Int))) : Int)) (10 : Int)) (32 : Int))), (0 : Int) ≤ (32 : Int) ∧ (32 : Int) ≤ (64 : Int), rg IntKind.u64 (0 : Int), rg
 IntKind.u64 (adI (IntKind.wrap IntKind.u64 (↑(BitVec.toNat (BitVec.ofInt 64 (adI (mlI (srI x (32 : Int)) (10 : Int)) (srI (mlI (IntKind.wrap IntKind.u64 (↑(BitVec.toNat (BitVec.ofInt 64 x &&& BitVec.ofInt 64 (4294967295 :
 Int))) : Int)) (10 : Int)) (32 : Int))) &&& BitVec.ofInt 64 (4294967295 : Int))) : Int)) (0 : Int)), rg IntKind.u64 (mlI (srI x (32 : Int)) (0 : Int)), rg IntKind.u64 (adI (mlI (srI x (32 : Int)) (0 : Int)) (srI (adI (mlI
 (srI x (32 : Int)) (10 : Int)) (srI (mlI (IntKind.wrap IntKind.u64 (↑(BitVec.toNat (BitVec.ofInt 64 x &&& BitVec.ofInt 64 (4294967295 : Int))) : Int)) (10 : Int)) (32 : Int))) (32 : Int))), (0 : Int) ≤ (32 : Int) ∧ (32 :
 Int) ≤ (64 : Int), rg IntKind.u64 (adI (adI (mlI (srI x (32 : Int)) (0 : Int)) (srI (adI (mlI (srI x (32 : Int)) (10 : Int)) (srI (mlI (IntKind.wrap IntKind.u64 (↑(BitVec.toNat (BitVec.ofInt 64 x &&& BitVec.ofInt 64
 (4294967295 : Int))) : Int)) (10 : Int)) (32 : Int))) (32 : Int))) (srI (adI (IntKind.wrap IntKind.u64 (↑(BitVec.toNat (BitVec.ofInt 64 (adI (mlI (srI x (32 : Int)) (10 : Int)) (srI (mlI (IntKind.wrap IntKind.u64
 (↑(BitVec.toNat (BitVec.ofInt 64 x &&& BitVec.ofInt 64 (4294967295 : Int))) : Int)) (10 : Int)) (32 : Int))) &&& BitVec.ofInt 64 (4294967295 : Int))) : Int)) (0 : Int)) (32 : Int)))]) := by kernel_rfl
def gMu : GSpec := fun av tp => match av with
  | [.fl (.int .u64 x), .fl (.int .u64 10)] => some (⟨fun _ => .tuple ⟨[.int .u64 (x * 10 / 18446744073709551616), .int .u64 (x * 10 % 18446744073709551616)]⟩, []⟩, tp, [wf64 x])
  | _ => none
theorem mu_gok : GOk Try.prog 54 [.f, .f] gMu := by
  have hX : XOkZ muV Try.prog := noXz_ok rfl
  have hT : TOkZ muV Try.prog := noTz_okV rfl
  have hL : LOkZ muV Try.prog := noL_okV rfl
  intro av tp gr tp' ob hG ho hP caps hcap
  unfold gMu at hG
  split at hG
  case h_2 => cases hG
  rename_i x
  simp only [Option.some.injEq, Prod.mk.injEq] at hG
  obtain ⟨rfl, rfl, rfl⟩ := hG
  obtain ⟨⟨x0, x1⟩, _⟩ := ho
  have a1 := and32 (x := x) ⟨x0, x1⟩
  have hr := fun o => run_tri hX hT hL (mu_ten x) o rfl
  obtain ⟨u, hu⟩ : ∃ u, adI (mlI (srI x 32) 10) (srI (mlI (x % 4294967296) 10) 32) = u := ⟨_, rfl⟩
  have u1 : u = x / 4294967296 * 10 + x % 4294967296 * 10 / 4294967296 := by rw [← hu, adI_eq, mlI_eq, mlI_eq, t32, t32]
  have a2 := and32 (x := u) (by omega)
  have e1 : IntKind.wrap IntKind.u64 (x % 4294967296) = x % 4294967296 := by rw [wr64]; omega
  have e2 : IntKind.wrap IntKind.u64 (u % 4294967296) = u % 4294967296 := by rw [wr64]; omega
  have e3 : ∀ y, mlI (srI x 32) 0 = 0 ∧ adI y 0 = y := fun y => ⟨by rw [mlI_eq]; omega, by rw [adI_eq]; omega⟩
  simp only [a1, e1, hu, a2, e2] at hr
  have v1 : adI (adI (mlI (srI x 32) 0) (srI u 32)) (srI (adI (u % 4294967296) 0) 32) = x * 10 / 18446744073709551616 := by
    rw [(e3 0).1, (e3 _).2, adI_eq, adI_eq, t32, t32]
    omega
  refine ⟨_, _, _, _, fun n => n, hr ?_, ?_⟩
  · repeat' (first | exact alls_nil | refine alls_cons ?_ ?_)
    all_goals first | with_reducible assumption | with_reducible rfl | (simp only [rg, adI_eq, mlI_eq, t32]; omega) | omega
  · rw [v1, wr64]
    exact GrIs.flat fun σ => rfl
def xAdd : FuncId → List Value → Hp → Option (Value × List Prop) := fun f args h => bif Nat.beq f 41 then (match args with
  | [.int .u64 x, .int .u64 y, .int .u64 c] => some (.tuple ⟨[.int .u64 ((x + y + c) % 18446744073709551616), .int .u64 ((x + y + c) / 18446744073709551616)]⟩, [0 ≤ x ∧ 0 ≤ y ∧ 0 ≤ c ∧ c ≤ 1])
  | _ => none) else none
theorem xAdd_ok {V : Tv} (h : V.X = xAdd) : XOkZ V Try.prog := by
  intro f args hp v ob e ho W σ w args' hR ha
  rw [h] at e
  simp only [xAdd] at e
  obtain ⟨hf, e⟩ := bif_of e
  obtain rfl := Nat.eq_of_beq_eq_true hf
  split at e
  case h_2 => cases e
  rename_i x y c hq
  cases e
  have key := add64_one (P := Try.prog) (f0 := 41) (fun x y c w => run_callFunc_extern Try.func41 (by kernel_rfl) (by kernel_rfl) (by kernel_rfl) (e := add64Entry) (by kernel_rfl) _ w)
  refine key _ _ hp _ ?_ W σ w args' hR ha
  have hb : Nat.beq 41 41 = true := rfl
  have hd : decide (0 ≤ x ∧ 0 ≤ y ∧ 0 ≤ c ∧ c ≤ 1) = true := decide_eq_true ho.1
  show (bif Nat.beq 41 41 then (bif decide (0 ≤ x ∧ 0 ≤ y ∧ 0 ≤ c ∧ c ≤ 1) then some (Value.tuple #[.int .u64 ((x + y + c) % 18446744073709551616), .int .u64 ((x + y + c) / 18446744073709551616)]) else none) else none) = _
  rw [hb, hd]
  rfl
def tnT : TFun := mkT 54 [.f, .f] gMu
def tnV : Tv := ⟨tnT, xAdd, noL, fun _ => [], lsSy 45 [(48, 0), (50, 0)], fun _ => [], fun _ => 0⟩
theorem tn_all (h l d : Int) : prjV (runZ tnV Try.prog 9 45 [.agg ⟨[.int .u64 h, .int .u64 l]⟩, .int .u64 d] [] 2 []) =
  Res.ok (Value.tuple (Array.mk [Value.agg (Array.mk [Value.int IntKind.u64 (((h * (10 : Int) % (18446744073709551616 : Int) + l * (10 : Int) / (18446744073709551616 : Int) + (0 : Int)) % (18446744073709551616 : Int) + (0 :
 Int) + (l * (10 : Int) % (18446744073709551616 : Int) + d + (0 : Int)) / (18446744073709551616 : Int)) % (18446744073709551616 : Int)), Value.int IntKind.u64 ((l * (10 : Int) % (18446744073709551616 : Int) + d + (0 :
 Int)) % (18446744073709551616 : Int))]), Value.bool (decide (adI (adI (h * (10 : Int) / (18446744073709551616 : Int)) ((h * (10 : Int) % (18446744073709551616 : Int) + l * (10 : Int) / (18446744073709551616 : Int) + (0 :
 Int)) / (18446744073709551616 : Int))) (((h * (10 : Int) % (18446744073709551616 : Int) + l * (10 : Int) / (18446744073709551616 : Int) + (0 : Int)) % (18446744073709551616 : Int) + (0 : Int) + (l * (10 : Int) %
 (18446744073709551616 : Int) + d + (0 : Int)) / (18446744073709551616 : Int)) / (18446744073709551616 : Int)) > (0 : Int)))]), [], [wf64 l, wf64 h, (0 : Int) ≤ h * (10 : Int) % (18446744073709551616 : Int) ∧ (0 : Int) ≤ l
 * (10 : Int) / (18446744073709551616 : Int) ∧ (0 : Int) ≤ (0 : Int) ∧ (0 : Int) ≤ (1 : Int), (0 : Int) ≤ l * (10 : Int) % (18446744073709551616 : Int) ∧ (0 : Int) ≤ d ∧ (0 : Int) ≤ (0 : Int) ∧ (0 : Int) ≤ (1 : Int), (0 :
 Int) ≤ (h * (10 : Int) % (18446744073709551616 : Int) + l * (10 : Int) / (18446744073709551616 : Int) + (0 : Int)) % (18446744073709551616 : Int) ∧ (0 : Int) ≤ (0 : Int) ∧ (0 : Int) ≤ (l * (10 : Int) %
 (18446744073709551616 : Int) + d + (0 : Int)) / (18446744073709551616 : Int) ∧ (l * (10 : Int) % (18446744073709551616 : Int) + d + (0 : Int)) / (18446744073709551616 : Int) ≤ (1 : Int), rg IntKind.u64 (adI (h * (10 :
 Int) / (18446744073709551616 : Int)) ((h * (10 : Int) % (18446744073709551616 : Int) + l * (10 : Int) / (18446744073709551616 : Int) + (0 : Int)) / (18446744073709551616 : Int))), rg IntKind.u64 (adI (adI (h * (10 : Int)
 / (18446744073709551616 : Int)) ((h * (10 : Int) % (18446744073709551616 : Int) + l * (10 : Int) / (18446744073709551616 : Int) + (0 : Int)) / (18446744073709551616 : Int))) (((h * (10 : Int) % (18446744073709551616 :
 Int) + l * (10 : Int) / (18446744073709551616 : Int) + (0 : Int)) % (18446744073709551616 : Int) + (0 : Int) + (l * (10 : Int) % (18446744073709551616 : Int) + d + (0 : Int)) / (18446744073709551616 : Int)) /
 (18446744073709551616 : Int)))]) := by kernel_rfl
def tnN (h l d : Int) : Int := 10 * (h * 18446744073709551616 + l) + d
def tH (h l d : Int) : Int := tnN h l d / 18446744073709551616 % 18446744073709551616
def tL (h l d : Int) : Int := tnN h l d % 18446744073709551616
def tO (h l d : Int) : Bool := decide (340282366920938463463374607431768211456 ≤ tnN h l d)
def gTn : GSpec := fun av tp => match av with
  | [.fl (.agg ⟨[.int .u64 h, .int .u64 l]⟩), .fl (.int .u64 d)] => some (⟨fun _ => .tuple ⟨[.agg ⟨[.int .u64 (tH h l d), .int .u64 (tL h l d)]⟩, .bool (tO h l d)]⟩, []⟩, tp, [wf64 h, wf64 l, 0 ≤ d ∧ d < 10])
  | _ => none
theorem tn_gok : GOk Try.prog 45 [.f, .f] gTn := by
  have hX : XOkZ tnV Try.prog := xAdd_ok rfl
  have hT : TOkZ tnV Try.prog := T_okV rfl (mkT_one mu_gok)
  have hL : LOkZ tnV Try.prog := noL_okV rfl
  intro av tp gr tp' ob hG ho hP caps hcap
  unfold gTn at hG
  split at hG
  case h_2 => cases hG
  rename_i h l d
  simp only [Option.some.injEq, Prod.mk.injEq] at hG
  obtain ⟨rfl, rfl, rfl⟩ := hG
  obtain ⟨⟨h0, h1⟩, ⟨l0, l1⟩, ⟨d0, d1⟩, _⟩ := ho
  have w1 : wf64 h := ⟨h0, h1⟩
  have w2 : wf64 l := ⟨l0, l1⟩
  obtain ⟨h', nx', dd, T⟩ := run_val hX hT hL (tn_all h l d) (by
    repeat' (first | exact alls_nil | refine alls_cons ?_ ?_)
    all_goals first | with_reducible assumption | omega | (simp only [rg, adI_eq]; omega)) rfl
  have v1 : ((h * 10 % 18446744073709551616 + l * 10 / 18446744073709551616 + 0) % 18446744073709551616 + 0 + (l * 10 % 18446744073709551616 + d + 0) / 18446744073709551616) % 18446744073709551616 = tH h l d := by
    unfold tH tnN; omega
  have v2 : (l * 10 % 18446744073709551616 + d + 0) % 18446744073709551616 = tL h l d := by
    unfold tL tnN; omega
  have v3 : decide (adI (adI (h * 10 / 18446744073709551616) ((h * 10 % 18446744073709551616 + l * 10 / 18446744073709551616 + 0) / 18446744073709551616)) (((h * 10 % 18446744073709551616 + l * 10 / 18446744073709551616 + 0) % 18446744073709551616 + 0 + (l * 10 % 18446744073709551616 + d + 0) / 18446744073709551616) / 18446744073709551616) > 0) = tO h l d := by
    unfold tO tnN
    rw [adI_eq, adI_eq]
    exact decide_eq_decide.2 (by omega)
  rw [v1, v2, v3] at T
  exact ⟨_, _, _, _, fun n => n, T, GrIs.flat fun σ => rfl⟩
end Go.Proofs.Ytpiapipmhlpmjaa
